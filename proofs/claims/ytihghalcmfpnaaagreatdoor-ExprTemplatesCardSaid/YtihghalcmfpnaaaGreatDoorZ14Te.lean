/- Texts of the proof, one behind the other. No statement is proved here. -/
import Derived.Test.YtihghalcmfpnaaaGreatDoorZ14Ta
import Derived.Test.YtihghalcmfpnaaaGreatDoorZ14Tb
import Derived.Test.YtihghalcmfpnaaaGreatDoorZ14Tc
import Derived.Test.YtihghalcmfpnaaaGreatDoorZ14Td
set_option maxHeartbeats 4000000
section
namespace Go.Ab.R06
open Go.Proofs Go.Ab Go.Ab.RB
set_option maxRecDepth 4000
attribute [local irreducible] awp io bg bO cv AV.sub M cZ
instance Q8:HE Tryz.prog 190:=⟨Tryz.call190⟩
instance QP:HE Tryz.prog 214:=⟨Tryz.call214⟩
instance Rf:HE Tryz.prog 179:=⟨Tryz.call179⟩
instance QM:HE Tryz.prog 161:=⟨Tryz.call161⟩
instance Qw:HE Tryz.prog 194:=⟨Tryz.call194⟩
instance Ro:HE Tryz.prog 177:=⟨Tryz.call177⟩
instance Ri:HE Tryz.prog 178:=⟨Tryz.call178⟩
instance Qi:HE Tryz.prog 160:=⟨Tryz.call160⟩
def jG (UQ:Int):Option Bool :=
 (
   if (-9007199254740992)<=UQ then
    some (decide (UQ<=9007199254740992))
   else
    some false
  ).bind λ t2 =>
 some t2
instance KD (UQ:Int):∀ (r:Bool),HP (jG UQ=some r) Tryz.prog 190 [eI UQ] (.p (eB r)):=by
 refine hP good Tryz.func190 Z Z λ r h0 _ w0=>?_;unfold jG at h0;exact jZ
def ew (Mr:Bytes):Nat->Int->Option (Unit⊕Bool)
 | 0,_=>none
 | m+1,i9 =>
 if i9 < (Mr.length:Int) then
  (
    ck ((0:Int)<=i9/\i9 < (Mr.length:Int)) <|
    if byt Mr i9 < 48 then
     some true
    else
     ck ((0:Int)<=i9/\i9 < (Mr.length:Int)) <|
     some (decide (57 < byt Mr i9))
   ).bind λ YX =>
  if YX=true then
   some (.inr false)
  else
   ck (inR (i9+1)) <|
   ew Mr m (i9+1)
 else
  some (.inl ())
def jK (n:Nat)(Mr:Bytes):Option Bool :=
 jn (ew Mr n 0) λ _TF =>
 (
   if Mr=([48]:Bytes) then
    some true
   else
    if Mr=([]:Bytes) then
     some false
    else
     ck ((0:Int)<=0/\0 < (Mr.length:Int)) <|
     some (!decide (byt Mr 0=48))
  ).bind λ t21 =>
 some t21
instance Fe (n:Nat) (Mr:Bytes):∀ (r:Bool),HP (jK n Mr=some r) Tryz.prog 214 [eS Mr] (.p (eB r)):=by
 refine hP good Tryz.func214 Z Z λ r h0 _ w0=>?_;unfold jK at h0;refine nx 10 rfl ?_;obtain ⟨V0,h1,TC,hR0⟩:=br h0;refine kEx 0 (λ VJ:Unit=>V0=.inl VJ) (λ VJ=>⟨[(0,.p (eS Mr))],[]⟩) (λ VJ hv=>?_) ?_
 ·have h0:=TC _ hv;have:=js [600];have:=jS 600 Bool λ v=>[(2,.p (eB v))]
  exact J0
 refine lG (λ (Uy:Int)=>⟨[(0,.p (eS Mr)),(3,.p (eI Uy))],[]⟩) (λ m (Uy:Int)=>ew Mr m Uy) Y 0 h1 (gE rfl rfl) ?_;rintro m i9 h1;replace h1:ew Mr (m+1) i9=some V0:=h1;rw [ew] at h1;have:=js [400];have:=jS 400 Bool λ v=>[(19,.p (eB v))]
 exact ay
def fh (t6:Bytes):Nat->Int->Int->Option Int
 | 0,_,_=>none
 | m+1,n22,i23 =>
 if i23 < (t6.length:Int) then
  ck (inR (10*n22)) <|
  ck ((0:Int)<=i23/\i23 < (t6.length:Int)) <|
  ck (inR (IntKind.wrap .u8 ((byt t6 i23) - 48))) <|
  ck (inR ((10*n22)+(IntKind.wrap .u8 ((byt t6 i23) - 48)))) <|
  ck (inR (i23+1)) <|
  fh t6 m ((10*n22)+(IntKind.wrap .u8 ((byt t6 i23) - 48))) (i23+1)
 else
  some n22
def lm (n:Nat)(Mr:Bytes):Option (Int×Int) :=
 (
   if 0 < (Mr.length:Int) then
    ck ((0:Int)<=0/\0 < (Mr.length:Int)) <|
    some (decide (byt Mr 0=45))
   else
    some false
  ).bind λ minus3 =>
 (
   if minus3=true then
    ck ((0:Int)<=1/\1<=(Mr.length:Int)/\(Mr.length:Int)<=(Mr.length:Int)) <|
    some (sub Mr 1 (Mr.length:Int))
   else
    some Mr
  ).bind λ t6 =>
 (
   (jK n t6).bind λ r7 =>
   if (!r7)=true then
    some true
   else
    if minus3=true then
     some (decide (t6=([48]:Bytes)))
    else
     some false
  ).bind λ t11 =>
 if t11=true then
  some (0,2)
 else
  if 16 < (t6.length:Int) then
   some (0,5)
  else
   (fh t6 n 0 0).bind λ n32 =>
   (
     if minus3=true then
      ck (inR (0 - n32)) <|
      some (0 - n32)
     else
      some n32
    ).bind λ n35 =>
   (jG n35).bind λ Xv =>
   if (!Xv)=true then
    some (0,5)
   else
    some (n35,0)
instance Hd (n:Nat) (Mr:Bytes):∀ (r:Int×Int),HP (lm n Mr=some r) Tryz.prog 200 [eS Mr] (.tuple [.p (eI r.1),.p (eI r.2)]):=by
 refine hP good Tryz.func200 Z Z λ r h0 _ w0=>?_;unfold lm at h0;refine nx 6 Z (bd h0 λ WS h1 h0=>kN WS (λ WX=>⟨[(0,.p (eS Mr)),(4,.p (eB WX))],[]⟩) ?_ ?_)
 ·refine nx 7 Z (bd h0 λ YL h1 h0=>kN YL (λ ZR=>⟨[(4,.p (eB WS)),(5,.p (eS ZR))],[]⟩) ?_ ?_)
  ·refine nx 3 Z (bd h0 λ Ym h1 h0=>kN Ym (λ WP=>⟨[(4,.p (eB WS)),(5,.p (eS YL)),(29,.p (eB WP))],[]⟩) ?_ ?_)
   ·refine nx 1 Z (fB [29] h0 Z (λ ZH h0=>?_) λ ZH h0=>?_)
    ·exact J0
    refine nx 6 Z (oLs Z (nx 2 Z (fD [32] h0 Z (λ XY h0=>?_) λ XY h0=>?_)))
    ·exact J0
    refine nx 12 Z (bd h0 λ Ww h1 h0=>kE 0 Ww (λ v51=>⟨[(4,.p (eB WS)),(6,.p (eI v51))],[]⟩) ?_ ?_)
    ·refine nx 2 Z (bd h0 λ X5 h1 h0=>kN X5 (λ v53=>⟨[(6,.p (eI v53))],[]⟩) ?_ ?_)
     ·exact J0
     refine nx 4 Z (fB [4,47] h1 Z (λ ZD h1=>?_) λ ZD h1=>?_)
     ·refine nx 3 Z (cc' h1 λ Wz h1=>mO Z (Pi Z Z Z Z Wz ?_));exact ay
     exact ay
    refine lG (λ (Z9:Int×Int)=>⟨[(4,.p (eB WS)),(5,.p (eS YL)),(6,.p (eI Z9.1)),(7,.p (eI Z9.2))],[]⟩) (λ m (Z9:Int×Int)=>fh YL m Z9.1 Z9.2) Y (0,0) h1 (gE rfl rfl) ?_;rintro m ⟨n22,i23⟩ h1;replace h1:fh YL (m+1) n22 i23=some Ww:=h1;rw [fh] at h1;refine nx 5 rfl (oLs rfl (nx 2 rfl (fD [36] h1 rfl (λ XW h1=>?_) λ XW h1=>?_)))
    ·refine nx 6 Z (oA h1 Z Z λ VQ h1=>nx 2 Z (oI h1 Z λ WB h1=>nx 1 Z (cc' h1 λ WA h1=>mO Z (eO Z Z Z Z Z Z Z Z (i7 WA) ?_))));exact ay
    exact ay
   exact ay
  exact ay
 exact ay
def fJ:Nat->Int->Option Bytes
 | 0,_=>none
 | n+1,UQ =>
 (
   if 0<=UQ then
    some (decide (UQ<=9))
   else
    some false
  ).bind λ t2 =>
 if t2=true then
  ck (inR (48+UQ)) <|
  ck ((0:Int)<=IntKind.wrap .u8 (48+UQ)/\IntKind.wrap .u8 (48+UQ) < 256) <|
  some [u8 (IntKind.wrap .u8 (48+UQ))]
 else
  (
    if UQ < 0 then
     some (decide ((-10) < UQ))
    else
     some false
   ).bind λ t7 =>
  if t7=true then
   ck (inR (0 - UQ)) <|
   ((fJ n) (0 - UQ)).bind λ Tp =>
   ck (([45]:Bytes).length+Tp.length<=9223372036854775807) <|
   some (([45]:Bytes)++Tp)
  else
   if UQ < 0 then
    ck ((10:Int)≠0) <|
    ((fJ n) (IntKind.wrap .i64 (UQ.tdiv 10))).bind λ S6 =>
    ck ((10:Int)≠0) <|
    ck (inR (0 - (UQ.tmod 10))) <|
    ((fJ n) (0 - (UQ.tmod 10))).bind λ Vd =>
    ck (S6.length+Vd.length<=9223372036854775807) <|
    some (S6++Vd)
   else
    ck ((10:Int)≠0) <|
    ((fJ n) (IntKind.wrap .i64 (UQ.tdiv 10))).bind λ Ts =>
    ck ((10:Int)≠0) <|
    ((fJ n) (UQ.tmod 10)).bind λ TT =>
    ck (Ts.length+TT.length<=9223372036854775807) <|
    some (Ts++TT)
def iW:Nat->Int->Option Bytes
 | 0,_=>none
 | n+1,S5 =>
 ck ((16:Int)≠0) <|
 ck ((16:Int)≠0) <|
 ck (inR ((S5.tmod 16)+1)) <|
 ck ((0:Int)<=S5.tmod 16/\S5.tmod 16<=(S5.tmod 16)+1/\(S5.tmod 16)+1<=(([48,49,50,51,52,53,54,55,56,57,97,98,99,100,101,102]:Bytes).length:Int)) <|
 if S5 < 16 then
  some (sub ([48,49,50,51,52,53,54,55,56,57,97,98,99,100,101,102]:Bytes) (S5.tmod 16) ((S5.tmod 16)+1))
 else
  ck ((16:Int)≠0) <|
  ((iW n) (IntKind.wrap .i64 (S5.tdiv 16))).bind λ r7 =>
  ck (r7.length+(sub ([48,49,50,51,52,53,54,55,56,57,97,98,99,100,101,102]:Bytes) (S5.tmod 16) ((S5.tmod 16)+1)).length<=9223372036854775807) <|
  some (r7++(sub ([48,49,50,51,52,53,54,55,56,57,97,98,99,100,101,102]:Bytes) (S5.tmod 16) ((S5.tmod 16)+1)))
def ny (n:Nat)(b_0:Int):Option Bytes :=
 if b_0=10 then
  some ([92,110]:Bytes)
 else
  if b_0=13 then
   some ([92,114]:Bytes)
  else
   if b_0=9 then
    some ([92,116]:Bytes)
   else
    if b_0=34 then
     some ([92,34]:Bytes)
    else
     if b_0=92 then
      some ([92,92]:Bytes)
     else
      (
        if b_0 < 32 then
         some true
        else
         some (decide (b_0=127))
       ).bind λ t7 =>
      if t7=true then
       ck (inR (b_0)) <|
       (iW n b_0).bind λ Tp =>
       ck (([92,117,123]:Bytes).length+Tp.length<=9223372036854775807) <|
       ck ((([92,117,123]:Bytes)++Tp).length+([125]:Bytes).length<=9223372036854775807) <|
       some ((([92,117,123]:Bytes)++Tp)++([125]:Bytes))
      else
       ck ((0:Int)<=b_0/\b_0 < 256) <|
       some [u8 b_0]
def iH (n:Nat)(Mr:Bytes):Nat->Bytes->Int->Option Bytes
 | 0,_,_=>none
 | m+1,Y8,i10 =>
 if i10 < (Mr.length:Int) then
  ck ((0:Int)<=i10/\i10 < (Mr.length:Int)) <|
  (ny n (byt Mr i10)).bind λ UU =>
  ck (Y8.length+UU.length<=9223372036854775807) <|
  ck (inR (i10+1)) <|
  iH n Mr m (Y8++UU) (i10+1)
 else
  some Y8
def sN (n:Nat)(Mr:Bytes):Option Bytes :=
 (iH n Mr n ([34]:Bytes) 0).bind λ YH =>
 ck (YH.length+([34]:Bytes).length<=9223372036854775807) <|
 some (YH++([34]:Bytes))
def em (Mr:Bytes)(SL:Int)(lo_2:Int)(hi_3:Int):Option Bool :=
 (
   if SL < (Mr.length:Int) then
    ck ((0:Int)<=SL/\SL < (Mr.length:Int)) <|
    if lo_2<=byt Mr SL then
     ck ((0:Int)<=SL/\SL < (Mr.length:Int)) <|
     some (decide (byt Mr SL<=hi_3))
    else
     some false
   else
    some false
  ).bind λ t5 =>
 some t5
instance Lf (Mr:Bytes) (SL:Int) (lo_2:Int) (hi_3:Int):∀ (r:Bool),HP (em Mr SL lo_2 hi_3=some r) Tryz.prog 179 [eS Mr,eI SL,eK .u8 lo_2,eK .u8 hi_3] (.p (eB r)):=by
 refine hP good Tryz.func179 Z Z λ r h0 _ w0=>?_;unfold em at h0;have:=js [100];have:=jS 100 Bool λ v=>[(8,.p (eB v))]
 exact J0
def iV (Mr:Bytes)(SL:Int):Option (Int×Int) :=
 (
   if SL < 0 then
    some true
   else
    some (decide ((Mr.length:Int)<=SL))
  ).bind λ t2 =>
 if t2=true then
  some (0,0)
 else
  ck ((0:Int)<=SL/\SL < (Mr.length:Int)) <|
  if byt Mr SL < 128 then
   ck (inR (byt Mr SL)) <|
   some (byt Mr SL,1)
  else
   (
     if 194<=byt Mr SL then
      if byt Mr SL<=223 then
       ck (inR (SL+1)) <|
       (em Mr (SL+1) 128 191).bind λ Tp =>
       some Tp
      else
       some false
     else
      some false
    ).bind λ t12 =>
   if t12=true then
    ck (inR (bH .u8 (byt Mr SL) 31)) <|
    ck ((0:Int)<=6) <|
    ck (inR (SL+1)) <|
    ck ((0:Int)<=SL+1/\SL+1 < (Mr.length:Int)) <|
    ck (inR (bH .u8 (byt Mr (SL+1)) 63)) <|
    some (iOr .i64 (kx .i64 (bH .u8 (byt Mr SL) 31) 6) (bH .u8 (byt Mr (SL+1)) 63),2)
   else
    (
      if byt Mr SL=224 then
       some 160
      else
       some 128
     ).bind λ lo20 =>
    (
      if byt Mr SL=237 then
       some 159
      else
       some 191
     ).bind λ hi22 =>
    (
      if 224<=byt Mr SL then
       if byt Mr SL<=239 then
        ck (inR (SL+1)) <|
        (em Mr (SL+1) lo20 hi22).bind λ TT =>
        if TT=true then
         ck (inR (SL+2)) <|
         (em Mr (SL+2) 128 191).bind λ Wm =>
         some Wm
        else
         some false
       else
        some false
      else
       some false
     ).bind λ t32 =>
    if t32=true then
     ck (inR (bH .u8 (byt Mr SL) 15)) <|
     ck ((0:Int)<=12) <|
     ck (inR (SL+1)) <|
     ck ((0:Int)<=SL+1/\SL+1 < (Mr.length:Int)) <|
     ck (inR (bH .u8 (byt Mr (SL+1)) 63)) <|
     ck ((0:Int)<=6) <|
     ck (inR (SL+2)) <|
     ck ((0:Int)<=SL+2/\SL+2 < (Mr.length:Int)) <|
     ck (inR (bH .u8 (byt Mr (SL+2)) 63)) <|
     some (iOr .i64 (iOr .i64 (kx .i64 (bH .u8 (byt Mr SL) 15) 12) (kx .i64 (bH .u8 (byt Mr (SL+1)) 63) 6)) (bH .u8 (byt Mr (SL+2)) 63),3)
    else
     (
       if byt Mr SL=240 then
        some 144
       else
        some 128
      ).bind λ lo44 =>
     (
       if byt Mr SL=244 then
        some 143
       else
        some 191
      ).bind λ hi46 =>
     (
       if 240<=byt Mr SL then
        if byt Mr SL<=244 then
         ck (inR (SL+1)) <|
         (em Mr (SL+1) lo44 hi46).bind λ r50 =>
         if r50=true then
          ck (inR (SL+2)) <|
          (em Mr (SL+2) 128 191).bind λ UP =>
          if UP=true then
           ck (inR (SL+3)) <|
           (em Mr (SL+3) 128 191).bind λ TX =>
           some TX
          else
           some false
         else
          some false
        else
         some false
       else
        some false
      ).bind λ t60 =>
     if t60=true then
      ck (inR (bH .u8 (byt Mr SL) 7)) <|
      ck ((0:Int)<=18) <|
      ck (inR (SL+1)) <|
      ck ((0:Int)<=SL+1/\SL+1 < (Mr.length:Int)) <|
      ck (inR (bH .u8 (byt Mr (SL+1)) 63)) <|
      ck ((0:Int)<=12) <|
      ck (inR (SL+2)) <|
      ck ((0:Int)<=SL+2/\SL+2 < (Mr.length:Int)) <|
      ck (inR (bH .u8 (byt Mr (SL+2)) 63)) <|
      ck ((0:Int)<=6) <|
      ck (inR (SL+3)) <|
      ck ((0:Int)<=SL+3/\SL+3 < (Mr.length:Int)) <|
      ck (inR (bH .u8 (byt Mr (SL+3)) 63)) <|
      some (iOr .i64 (iOr .i64 (iOr .i64 (kx .i64 (bH .u8 (byt Mr SL) 7) 18) (kx .i64 (bH .u8 (byt Mr (SL+1)) 63) 12)) (kx .i64 (bH .u8 (byt Mr (SL+2)) 63) 6)) (bH .u8 (byt Mr (SL+3)) 63),4)
     else
      some (0,0)
instance Fv (Mr:Bytes) (SL:Int):∀ (r:Int×Int),HP (iV Mr SL=some r) Tryz.prog 161 [eS Mr,eI SL] (.tuple [.p (eI r.1),.p (eI r.2)]):=by
 refine hP good Tryz.func161 Z Z λ r h0 _ w0=>?_;unfold iV at h0;refine nx 7 Z (bd h0 λ o83 h1 h0=>kN o83 (λ v84=>⟨[(0,.p (eS Mr)),(1,.p (eI SL)),(16,.p (eB v84))],[]⟩) ?_ ?_)
 ·refine nx 1 Z (fB [16] h0 Z (λ c3 h0=>?_) λ c3 h0=>?_)
  ·exact J0
  refine nx 6 Z (oI h0 Z λ W7 h0=>nx 8 Z (fD [21] h0 Z (λ c5 h0=>?_) λ c5 h0=>?_))
  ·exact nx 4 Z (cc' h0 λ hk6 h0=>mO Z (eO Z Z Z Z Z Z Z Z (i7 hk6) J0))
  refine nx 4 Z (bd h0 λ o85 h1 h0=>kN o85 (λ Xe=>⟨[(0,.p (eS Mr)),(1,.p (eI SL)),(6,.p (eK .u8 (byt Mr SL))),(35,.p (eB Xe))],[]⟩) ?_ ?_)
  ·refine nx 1 Z (fB [35] h0 Z (λ XY h0=>?_) λ XY h0=>?_)
   ·exact nx 5 Z (cc' h0 λ Vu h0=>mO Z (eO Z Z Z Z Z Z Z Z (i7 Vu) (cc' h0 λ U6 h0=>mO Z (kf Z Z Z Z Z Z U6 (nx 2 Z (oA h0 Z Z λ UN h0=>oI h0 Z λ V' h0=>nx 1 Z (cc' h0 λ Uv h0=>mO Z (eO Z Z Z Z Z Z Z Z (i7 Uv) J0))))))))
   refine nx 8 Z (bd h0 λ o87 h1 h0=>kN o87 (λ v88=>⟨[(0,.p (eS Mr)),(1,.p (eI SL)),(6,.p (eK .u8 (byt Mr SL))),(7,.p (eK .u8 v88)),(8,.p (eK .u8 191))],[]⟩) ?_ ?_)
   ·refine nx 2 Z (bd h0 λ o89 h1 h0=>kN o89 (λ v90=>⟨[(0,.p (eS Mr)),(1,.p (eI SL)),(6,.p (eK .u8 (byt Mr SL))),(7,.p (eK .u8 o87)),(8,.p (eK .u8 v90))],[]⟩) ?_ ?_)
    ·refine nx 3 Z (bd h0 λ o91 h1 h0=>kN o91 (λ v92=>⟨[(0,.p (eS Mr)),(1,.p (eI SL)),(6,.p (eK .u8 (byt Mr SL))),(70,.p (eB v92))],[]⟩) ?_ ?_)
     ·refine nx 1 Z (fB [70] h0 Z (λ ZD h0=>?_) λ ZD h0=>?_)
      ·refine nx 2 Z (cc' h0 λ Wz h0=>cc' h0 λ W8 h0=>cc' h0 λ Zo h0=>cc' h0 λ Wy h0=>cc' h0 λ Zn h0=>cc' h0 λ Zm h0=>cc' h0 λ Yt h0=>cc' h0 λ VE h0=>cc' h0 λ Ys h0=>mD [(0,.p (eS Mr)),(1,.p (eI SL)),(6,.p (eK .u8 (byt Mr SL)))] Z ⟨Z,Z,Z,trivial⟩ Z (dR 2 Z (dq (.p (eI (bH .u8 (byt Mr SL) 15))) [72] Z (λ _ e _ q=>ap Z (eO Z Z Z Z Z Z Z (e _ _ Z) (i7 Wz) q)) Z (dq (.p (eI (kx .i64 (bH .u8 (byt Mr SL) 15) 12))) [73] Z (λ _ e _ q=>ap Z (kf Z Z Z (e _ _ Z) Z Z W8 q)) Z (dR 2 Z (dq (.p (eI (SL+1))) [76] Z (λ _ e _ q=>ap Z (fY Z Z Z (e _ _ Z) Z Z Zo q)) Z (dq (.p (eK .u8 (byt Mr (SL+1)))) [75,77] Z (λ _ e _ q=>ap Z (fx Z Z Z Z Z (e _ _ Z) (e _ _ Z) Wy q)) Z (dR 1 Z (dq (.p (eI (bH .u8 (byt Mr (SL+1)) 63))) [79] Z (λ _ e _ q=>ap Z (eO Z Z Z Z Z Z Z (e _ _ Z) (i7 Zn) q)) Z (dq (.p (eI (kx .i64 (bH .u8 (byt Mr (SL+1)) 63) 6))) [80] Z (λ _ e _ q=>ap Z (kf Z Z Z (e _ _ Z) Z Z Zm q)) Z (dR 3 Z (dq (.p (eI (SL+2))) [84] Z (λ _ e _ q=>ap Z (fY Z Z Z (e _ _ Z) Z Z Yt q)) Z ?_))))))))))));exact dq (.p (eK .u8 (byt Mr (SL+2)))) [83,85] Z (λ _ e _ q=>ap Z (fx Z Z Z Z Z (e _ _ Z) (e _ _ Z) VE q)) Z (dR 1 Z (dq (.p (eI (bH .u8 (byt Mr (SL+2)) 63))) [87] Z (λ _ e _ q=>ap Z (eO Z Z Z Z Z Z Z (e _ _ Z) (i7 Ys) q)) Z (dR 3 Z J0)))
      refine nx 8 Z (bd h0 λ o93 h1 h0=>kN o93 (λ v94=>⟨[(0,.p (eS Mr)),(1,.p (eI SL)),(6,.p (eK .u8 (byt Mr SL))),(7,.p (eK .u8 v94)),(8,.p (eK .u8 191))],[]⟩) ?_ ?_)
      ·refine nx 2 Z (bd h0 λ o95 h1 h0=>kN o95 (λ v96=>⟨[(0,.p (eS Mr)),(1,.p (eI SL)),(6,.p (eK .u8 (byt Mr SL))),(7,.p (eK .u8 o93)),(8,.p (eK .u8 v96))],[]⟩) ?_ ?_)
       ·refine nx 3 Z (bd h0 λ o97 h1 h0=>kN o97 (λ ZI=>⟨[(0,.p (eS Mr)),(1,.p (eI SL)),(6,.p (eK .u8 (byt Mr SL))),(119,.p (eB ZI))],[]⟩) ?_ ?_)
        ·refine nx 1 Z (fB [119] h0 Z (λ c61 h0=>?_) λ c61 h0=>?_)
         ·refine nx 2 Z (cc' h0 λ Zj h0=>cc' h0 λ hk63 h0=>cc' h0 λ hk64 h0=>cc' h0 λ XF h0=>cc' h0 λ hk66 h0=>cc' h0 λ hk67 h0=>cc' h0 λ aak h0=>cc' h0 λ Zi h0=>cc' h0 λ aaj h0=>cc' h0 λ Zh h0=>cc' h0 λ hk72 h0=>cc' h0 λ aai h0=>cc' h0 λ aah h0=>mD [(0,.p (eS Mr)),(1,.p (eI SL)),(6,.p (eK .u8 (byt Mr SL)))] Z ⟨Z,Z,Z,trivial⟩ Z (dR 2 Z (dq (.p (eI (bH .u8 (byt Mr SL) 7))) [121] Z (λ _ e _ q=>ap Z (eO Z Z Z Z Z Z Z (e _ _ Z) (i7 Zj) q)) Z (dq (.p (eI (kx .i64 (bH .u8 (byt Mr SL) 7) 18))) [122] Z (λ _ e _ q=>ap Z (kf Z Z Z (e _ _ Z) Z Z hk63 q)) Z (dR 2 Z (dq (.p (eI (SL+1))) [125] Z (λ _ e _ q=>ap Z (fY Z Z Z (e _ _ Z) Z Z hk64 q)) Z (dq (.p (eK .u8 (byt Mr (SL+1)))) [124,126] Z (λ _ e _ q=>ap Z (fx Z Z Z Z Z (e _ _ Z) (e _ _ Z) XF q)) Z (dR 1 Z (dq (.p (eI (bH .u8 (byt Mr (SL+1)) 63))) [128] Z (λ _ e _ q=>ap Z (eO Z Z Z Z Z Z Z (e _ _ Z) (i7 hk66) q)) Z (dq (.p (eI (kx .i64 (bH .u8 (byt Mr (SL+1)) 63) 12))) [129] Z (λ _ e _ q=>ap Z (kf Z Z Z (e _ _ Z) Z Z hk67 q)) Z ?_))))))))));exact dR 3 Z (dq (.p (eI (SL+2))) [133] Z (λ _ e _ q=>ap Z (fY Z Z Z (e _ _ Z) Z Z aak q)) Z (dq (.p (eK .u8 (byt Mr (SL+2)))) [132,134] Z (λ _ e _ q=>ap Z (fx Z Z Z Z Z (e _ _ Z) (e _ _ Z) Zi q)) Z (dR 1 Z (dq (.p (eI (bH .u8 (byt Mr (SL+2)) 63))) [136] Z (λ _ e _ q=>ap Z (eO Z Z Z Z Z Z Z (e _ _ Z) (i7 aaj) q)) Z (dq (.p (eI (kx .i64 (bH .u8 (byt Mr (SL+2)) 63) 6))) [137] Z (λ _ e _ q=>ap Z (kf Z Z Z (e _ _ Z) Z Z Zh q)) Z (dR 3 Z (dq (.p (eI (SL+3))) [141] Z (λ _ e _ q=>ap Z (fY Z Z Z (e _ _ Z) Z Z hk72 q)) Z (dq (.p (eK .u8 (byt Mr (SL+3)))) [140,142] Z (λ _ e _ q=>ap Z (fx Z Z Z Z Z (e _ _ Z) (e _ _ Z) aai q)) Z (dR 1 Z (dq (.p (eI (bH .u8 (byt Mr (SL+3)) 63))) [144] Z (λ _ e _ q=>ap Z (eO Z Z Z Z Z Z Z (e _ _ Z) (i7 aah) q)) Z (dR 3 Z J0)))))))))))
         exact J0
        exact ay
       exact ay
      exact ay
     exact ay
    exact ay
   exact ay
  exact ay
 exact ay
def gr (Mr:Bytes):Nat->Int->Option (Unit⊕Bool)
 | 0,_=>none
 | m+1,i8 =>
 if i8 < (Mr.length:Int) then
  (iV Mr i8).bind λ Tp =>
  if Tp.2=0 then
   some (.inr false)
  else
   ck (inR (i8+Tp.2)) <|
   gr Mr m (i8+Tp.2)
 else
  some (.inl ())
def lh (n:Nat)(Mr:Bytes):Option Bool :=
 if 4096 < (Mr.length:Int) then
  some false
 else
  jn (gr Mr n 0) λ _VZ =>
  some true
instance HL (n:Nat) (Mr:Bytes):∀ (r:Bool),HP (lh n Mr=some r) Tryz.prog 205 [eS Mr] (.p (eB r)):=by
 refine hP good Tryz.func205 Z Z λ r h0 _ w0=>?_;unfold lh at h0;refine nx 8 Z (oLs Z (nx 2 Z (fD [8] h0 Z (λ c1 h0=>?_) λ c1 h0=>?_)))
 ·exact J0
 refine nx 8 rfl ?_;obtain ⟨o16,h1,TC,hR0⟩:=br h0;refine kEx 0 (λ v17:Unit=>o16=.inl v17) (λ v17=>⟨[],[]⟩) (λ v17 hv=>?_) ?_
 ·exact fO
 refine lG (λ (q18:Int)=>⟨[(0,.p (eS Mr)),(3,.p (eI q18))],[]⟩) (λ m (q18:Int)=>gr Mr m q18) Y 0 h1 (gE rfl rfl) ?_;rintro m i8 h1;replace h1:gr Mr (m+1) i8=some o16:=h1;rw [gr] at h1;exact ay
def lU (b_0:Int):Option Int :=
 (
   if 48<=b_0 then
    some (decide (b_0<=57))
   else
    some false
  ).bind λ t2 =>
 if t2=true then
  ck (inR (IntKind.wrap .u8 (b_0 - 48))) <|
  some (IntKind.wrap .u8 (b_0 - 48))
 else
  (
    if 97<=b_0 then
     some (decide (b_0<=102))
    else
     some false
   ).bind λ t6 =>
  if t6=true then
   ck (inR (IntKind.wrap .u8 (b_0 - 97))) <|
   ck (inR ((IntKind.wrap .u8 (b_0 - 97))+10)) <|
   some ((IntKind.wrap .u8 (b_0 - 97))+10)
  else
   some (-1)
instance ME (b_0:Int):∀ (r:Int),HP (lU b_0=some r) Tryz.prog 194 [eK .u8 b_0] (.p (eI r)):=by
 refine hP good Tryz.func194 Z Z λ r h0 _ w0=>?_;unfold lU at h0;refine nx 6 Z (bd h0 λ Zf h1 h0=>kN Zf (λ YV=>⟨[(0,.p (eK .u8 b_0)),(8,.p (eB YV))],[]⟩) ?_ ?_)
 ·refine nx 1 Z (fB [8] h0 Z (λ c3 h0=>?_) λ c3 h0=>?_)
  ·exact nx 5 Z (cc' h0 λ W7 h0=>mO Z (eO Z Z Z Z Z Z Z Z (i7 W7) J0))
  refine nx 4 Z (bd h0 λ o14 h1 h0=>kN o14 (λ v15=>⟨[(0,.p (eK .u8 b_0)),(17,.p (eB v15))],[]⟩) ?_ ?_)
  ·refine nx 1 Z (fB [17] h0 Z (λ c7 h0=>?_) λ c7 h0=>?_)
   ·exact nx 5 Z (cc' h0 λ YN h0=>mO Z (eO Z Z Z Z Z Z Z Z (i7 YN) J0))
   exact J0
  exact ay
 exact ay
def fp (Mr:Bytes)(SL:Int):Nat->Int->Int->Option (Int×Int)
 | 0,_,_=>none
 | m+1,Xn,n20 =>
 (
   ck (inR (SL+n20)) <|
   if SL+n20 < (Mr.length:Int) then
    if n20 < 6 then
     ck (inR (SL+n20)) <|
     ck ((0:Int)<=SL+n20/\SL+n20 < (Mr.length:Int)) <|
     (lU (byt Mr (SL+n20))).bind λ TT =>
     some (decide (0<=TT))
    else
     some false
   else
    some false
  ).bind λ YW =>
 if YW=true then
  ck (inR (16*Xn)) <|
  ck (inR (SL+n20)) <|
  ck ((0:Int)<=SL+n20/\SL+n20 < (Mr.length:Int)) <|
  (lU (byt Mr (SL+n20))).bind λ Vq =>
  ck (inR ((16*Xn)+Vq)) <|
  ck (inR (n20+1)) <|
  fp Mr SL m ((16*Xn)+Vq) (n20+1)
 else
  some (Xn,n20)
def lc (n:Nat)(Mr:Bytes)(SL:Int):Option (Int×Int×Int) :=
 (fp Mr SL n 0 0).bind λ Vh =>
 ck (inR (SL+Vh.2)) <|
 if (Mr.length:Int)<=SL+Vh.2 then
  some (0,0,40)
 else
  (
    if Vh.2=0 then
     some true
    else
     ck (inR (SL+Vh.2)) <|
     ck ((0:Int)<=SL+Vh.2/\SL+Vh.2 < (Mr.length:Int)) <|
     if byt Mr (SL+Vh.2)=125 then
      if 1 < Vh.2 then
       ck ((0:Int)<=SL/\SL < (Mr.length:Int)) <|
       if byt Mr SL=48 then
        some true
       else
        if 1114111 < Vh.1 then
         some true
        else
         if 55296<=Vh.1 then
          some (decide (Vh.1<=57343))
         else
          some false
      else
       if 1114111 < Vh.1 then
        some true
       else
        if 55296<=Vh.1 then
         some (decide (Vh.1<=57343))
        else
         some false
     else
      some true
   ).bind λ t54 =>
  if t54=true then
   some (0,0,2)
  else
   ck (inR (SL+Vh.2)) <|
   ck (inR ((SL+Vh.2)+1)) <|
   some (Vh.1,(SL+Vh.2)+1,0)
instance Jh (n:Nat) (Mr:Bytes) (SL:Int):∀ (r:Int×Int×Int),HP (lc n Mr SL=some r) Tryz.prog 177 [eS Mr,eI SL] (.tuple [.p (eI r.1),.p (eI r.2.1),.p (eI r.2.2)]):=by
 refine hP good Tryz.func177 Z Z λ r h0 _ w0=>?_;unfold lc at h0;refine nx 13 Z (bd h0 λ o61 h1 h0=>kE 0 o61 (λ v62=>⟨[(0,.p (eS Mr)),(1,.p (eI SL)),(7,.p (eI v62.1)),(8,.p (eI v62.2))],[]⟩) ?_ ?_)
 ·have:=js [700];have:=jS 700 Bool λ v=>[(76,.p (eB v))]
  exact J0
 refine lG (λ (V5:Int×Int)=>⟨[(0,.p (eS Mr)),(1,.p (eI SL)),(7,.p (eI V5.1)),(8,.p (eI V5.2))],[]⟩) (λ m (V5:Int×Int)=>fp Mr SL m V5.1 V5.2) Y (0,0) h1 (gE rfl rfl) ?_;rintro m ⟨Xn,n20⟩ h1;replace h1:fp Mr SL (m+1) Xn n20=some o61:=h1;rw [fp] at h1;have:=js [200];have:=jS 200 Bool λ v=>[(27,.p (eB v))]
 exact ay
def jL (S5:Int):Option Bytes :=
 if S5 < 128 then
  ck ((0:Int)<=IntKind.wrap .u8 (S5)/\IntKind.wrap .u8 (S5) < 256) <|
  some [u8 (IntKind.wrap .u8 (S5))]
 else
  if S5 < 2048 then
   ck ((0:Int)<=6) <|
   ck ((0:Int)<=IntKind.wrap .u8 (iOr .i64 192 (cQ .i64 S5 6))/\IntKind.wrap .u8 (iOr .i64 192 (cQ .i64 S5 6)) < 256) <|
   ck ((0:Int)<=IntKind.wrap .u8 (iOr .i64 128 (bH .i64 S5 63))/\IntKind.wrap .u8 (iOr .i64 128 (bH .i64 S5 63)) < 256) <|
   some [u8 (IntKind.wrap .u8 (iOr .i64 192 (cQ .i64 S5 6))),u8 (IntKind.wrap .u8 (iOr .i64 128 (bH .i64 S5 63)))]
  else
   if S5 < 65536 then
    ck ((0:Int)<=12) <|
    ck ((0:Int)<=6) <|
    ck ((0:Int)<=IntKind.wrap .u8 (iOr .i64 224 (cQ .i64 S5 12))/\IntKind.wrap .u8 (iOr .i64 224 (cQ .i64 S5 12)) < 256) <|
    ck ((0:Int)<=IntKind.wrap .u8 (iOr .i64 128 (bH .i64 (cQ .i64 S5 6) 63))/\IntKind.wrap .u8 (iOr .i64 128 (bH .i64 (cQ .i64 S5 6) 63)) < 256) <|
    ck ((0:Int)<=IntKind.wrap .u8 (iOr .i64 128 (bH .i64 S5 63))/\IntKind.wrap .u8 (iOr .i64 128 (bH .i64 S5 63)) < 256) <|
    some [u8 (IntKind.wrap .u8 (iOr .i64 224 (cQ .i64 S5 12))),u8 (IntKind.wrap .u8 (iOr .i64 128 (bH .i64 (cQ .i64 S5 6) 63))),u8 (IntKind.wrap .u8 (iOr .i64 128 (bH .i64 S5 63)))]
   else
    ck ((0:Int)<=18) <|
    ck ((0:Int)<=12) <|
    ck ((0:Int)<=6) <|
    ck ((0:Int)<=IntKind.wrap .u8 (iOr .i64 240 (cQ .i64 S5 18))/\IntKind.wrap .u8 (iOr .i64 240 (cQ .i64 S5 18)) < 256) <|
    ck ((0:Int)<=IntKind.wrap .u8 (iOr .i64 128 (bH .i64 (cQ .i64 S5 12) 63))/\IntKind.wrap .u8 (iOr .i64 128 (bH .i64 (cQ .i64 S5 12) 63)) < 256) <|
    ck ((0:Int)<=IntKind.wrap .u8 (iOr .i64 128 (bH .i64 (cQ .i64 S5 6) 63))/\IntKind.wrap .u8 (iOr .i64 128 (bH .i64 (cQ .i64 S5 6) 63)) < 256) <|
    ck ((0:Int)<=IntKind.wrap .u8 (iOr .i64 128 (bH .i64 S5 63))/\IntKind.wrap .u8 (iOr .i64 128 (bH .i64 S5 63)) < 256) <|
    some [u8 (IntKind.wrap .u8 (iOr .i64 240 (cQ .i64 S5 18))),u8 (IntKind.wrap .u8 (iOr .i64 128 (bH .i64 (cQ .i64 S5 12) 63))),u8 (IntKind.wrap .u8 (iOr .i64 128 (bH .i64 (cQ .i64 S5 6) 63))),u8 (IntKind.wrap .u8 (iOr .i64 128 (bH .i64 S5 63)))]
instance Fx (S5:Int):∀ (r:Bytes),HP (jL S5=some r) Tryz.prog 178 [eI S5] (.p (eS r)):=by
 refine hP good Tryz.func178 Z Z λ r h0 _ w0=>?_;unfold jL at h0;refine nx 10 Z (fD [4] h0 Z (λ c1 h0=>?_) λ c1 h0=>?_)
 ·exact nx 5 Z (cc' h0 λ Vi h0=>mO Z (aH eU [u8 (IntKind.wrap .u8 (S5))] Z Z Z Z Z Z Z Z Z Z Z Z Z (congr (congrArg List.cons (jI Vi)) Z) (mO Z (pG [u8 (IntKind.wrap .u8 (S5))] Z Z Z Z Z Z Z Z Z Z Z J0))))
 refine nx 8 Z (fD [10] h0 Z (λ c3 h0=>?_) λ c3 h0=>?_)
 ·exact nx 4 Z (cc' h0 λ W7 h0=>mO Z (kf Z Z Z Z Z Z W7 (nx 6 Z (cc' h0 λ hk6 h0=>cc' h0 λ YO h0=>mO Z (aH eU [u8 (IntKind.wrap .u8 (iOr .i64 192 (cQ .i64 S5 6))),u8 (IntKind.wrap .u8 (iOr .i64 128 (bH .i64 S5 63)))] Z Z Z Z Z Z Z Z Z Z Z Z Z (congr (congrArg List.cons (jI hk6)) (congr (congrArg List.cons (jI YO)) Z)) (mO Z (pG [u8 (IntKind.wrap .u8 (iOr .i64 192 (cQ .i64 S5 6))),u8 (IntKind.wrap .u8 (iOr .i64 128 (bH .i64 S5 63)))] Z Z Z Z Z Z Z Z Z Z Z J0)))))))
 refine nx 8 Z (fD [22] h0 Z (λ c7 h0=>?_) λ c7 h0=>?_)
 ·refine nx 4 Z (cc' h0 λ YN h0=>mO Z (kf Z Z Z Z Z Z YN (nx 3 Z (cc' h0 λ YM h0=>mO Z (kf Z Z Z Z Z Z YM (nx 7 Z (cc' h0 λ XL h0=>cc' h0 λ Vv h0=>cc' h0 λ VR h0=>mO Z (aH eU [u8 (IntKind.wrap .u8 (iOr .i64 224 (cQ .i64 S5 12))),u8 (IntKind.wrap .u8 (iOr .i64 128 (bH .i64 (cQ .i64 S5 6) 63))),u8 (IntKind.wrap .u8 (iOr .i64 128 (bH .i64 S5 63)))] Z Z Z Z Z Z Z Z Z Z Z Z Z (congr (congrArg List.cons (jI XL)) (congr (congrArg List.cons (jI Vv)) (congr (congrArg List.cons (jI VR)) Z))) (mO Z (pG [u8 (IntKind.wrap .u8 (iOr .i64 224 (cQ .i64 S5 12))),u8 (IntKind.wrap .u8 (iOr .i64 128 (bH .i64 (cQ .i64 S5 6) 63))),u8 (IntKind.wrap .u8 (iOr .i64 128 (bH .i64 S5 63)))] Z Z Z Z Z Z Z Z Z Z Z ?_))))))))));exact J0
 refine nx 5 Z (cc' h0 λ Ve h0=>mO Z (kf Z Z Z Z Z Z Ve (nx 3 Z (cc' h0 λ Vu h0=>mO Z (kf Z Z Z Z Z Z Vu (nx 4 Z (cc' h0 λ U6 h0=>mO Z (kf Z Z Z Z Z Z U6 (nx 7 Z (cc' h0 λ U5 h0=>?_))))))))));exact cc' h0 λ Uv h0=>cc' h0 λ V' h0=>cc' h0 λ UN h0=>mO Z (aH eU [u8 (IntKind.wrap .u8 (iOr .i64 240 (cQ .i64 S5 18))),u8 (IntKind.wrap .u8 (iOr .i64 128 (bH .i64 (cQ .i64 S5 12) 63))),u8 (IntKind.wrap .u8 (iOr .i64 128 (bH .i64 (cQ .i64 S5 6) 63))),u8 (IntKind.wrap .u8 (iOr .i64 128 (bH .i64 S5 63)))] Z Z Z Z Z Z Z Z Z Z Z Z Z (congr (congrArg List.cons (jI U5)) (congr (congrArg List.cons (jI Uv)) (congr (congrArg List.cons (jI V')) (congr (congrArg List.cons (jI UN)) Z)))) (mO Z (pG [u8 (IntKind.wrap .u8 (iOr .i64 240 (cQ .i64 S5 18))),u8 (IntKind.wrap .u8 (iOr .i64 128 (bH .i64 (cQ .i64 S5 12) 63))),u8 (IntKind.wrap .u8 (iOr .i64 128 (bH .i64 (cQ .i64 S5 6) 63))),u8 (IntKind.wrap .u8 (iOr .i64 128 (bH .i64 S5 63)))] Z Z Z Z Z Z Z Z Z Z Z J0)))
def jp (n:Nat)(Mr:Bytes)(SL:Int):Option (Bytes×Int×Int) :=
 ck (inR (SL+1)) <|
 if (Mr.length:Int)<=SL+1 then
  some (([]:Bytes),0,40)
 else
  ck (inR (SL+1)) <|
  ck ((0:Int)<=SL+1/\SL+1 < (Mr.length:Int)) <|
  if byt Mr (SL+1)=110 then
   ck (inR (SL+2)) <|
   some (([10]:Bytes),SL+2,0)
  else
   if byt Mr (SL+1)=114 then
    ck (inR (SL+2)) <|
    some (([13]:Bytes),SL+2,0)
   else
    if byt Mr (SL+1)=116 then
     ck (inR (SL+2)) <|
     some (([9]:Bytes),SL+2,0)
    else
     (
       if byt Mr (SL+1)=34 then
        some true
       else
        some (decide (byt Mr (SL+1)=92))
      ).bind λ t12 =>
     if t12=true then
      ck (inR (SL+1)) <|
      ck (inR (SL+2)) <|
      ck ((0:Int)<=SL+1/\SL+1<=SL+2/\SL+2<=(Mr.length:Int)) <|
      ck (inR (SL+2)) <|
      some (sub Mr (SL+1) (SL+2),SL+2,0)
     else
      if byt Mr (SL+1)=117 then
       ck (inR (SL+2)) <|
       if (Mr.length:Int)<=SL+2 then
        some (([]:Bytes),0,40)
       else
        ck (inR (SL+2)) <|
        ck ((0:Int)<=SL+2/\SL+2 < (Mr.length:Int)) <|
        if byt Mr (SL+2)=123 then
         ck (inR (SL+3)) <|
         (lc n Mr (SL+3)).bind λ UE =>
         if UE.2.2=0 then
          (jL UE.1).bind λ Ty =>
          some (Ty,UE.2.1,0)
         else
          some (([]:Bytes),0,UE.2.2)
        else
         some (([]:Bytes),0,2)
      else
       some (([]:Bytes),0,2)
instance Eh (n:Nat) (Mr:Bytes) (SL:Int):∀ (r:Bytes×Int×Int),HP (jp n Mr SL=some r) Tryz.prog 160 [eS Mr,eI SL] (.tuple [.p (eS r.1),.p (eI r.2.1),.p (eI r.2.2)]):=by
 refine hP good Tryz.func160 Z Z λ r h0 _ w0=>?_;unfold jp at h0;have:=js [1001];have:=jS 1001 Bool λ v=>[(31,.p (eB v))]
 exact J0
def lS (n:Nat)(Mr:Bytes)(SL:Int):Option (Bytes×Int×Int) :=
 ck ((0:Int)<=SL/\SL < (Mr.length:Int)) <|
 if byt Mr SL=92 then
  (jp n Mr SL).bind λ r3 =>
  some (r3.1,r3.2.1,r3.2.2)
 else
  (iV Mr SL).bind λ r5 =>
  (
    if r5.2=0 then
     some true
    else
     ck ((0:Int)<=SL/\SL < (Mr.length:Int)) <|
     if byt Mr SL < 32 then
      some true
     else
      ck ((0:Int)<=SL/\SL < (Mr.length:Int)) <|
      some (decide (byt Mr SL=127))
   ).bind λ t11 =>
  if t11=true then
   some (([]:Bytes),0,2)
  else
   ck (inR (SL+r5.2)) <|
   ck ((0:Int)<=SL/\SL<=SL+r5.2/\SL+r5.2<=(Mr.length:Int)) <|
   ck (inR (SL+r5.2)) <|
   some (sub Mr SL (SL+r5.2),SL+r5.2,0)
instance MU (n:Nat) (Mr:Bytes) (SL:Int):∀ (r:Bytes×Int×Int),HP (lS n Mr SL=some r) Tryz.prog 128 [eS Mr,eI SL] (.tuple [.p (eS r.1),.p (eI r.2.1),.p (eI r.2.2)]):=by
 refine hP good Tryz.func128 Z Z λ r h0 _ w0=>?_;unfold lS at h0;have:=js [400];have:=jS 400 Bool λ v=>[(38,.p (eB v))]
 exact J0
end Go.Ab.R06
end
section
namespace Go.Ab.R06
open Go.Proofs Go.Ab Go.Ab.RB
attribute [local irreducible] awp io bg bO cv AV.sub M cZ
instance Rn:HE Tryz.prog 205:=⟨Tryz.call205⟩
instance Rk:HE Tryz.prog 189:=⟨Tryz.call189⟩
instance QY:HE Tryz.prog 191:=⟨Tryz.call191⟩
instance QZ:HE Tryz.prog 173:=⟨Tryz.call173⟩
instance QQ:HE Tryz.prog 154:=⟨Tryz.call154⟩
instance Rm:HE Tryz.prog 50:=⟨Tryz.call50⟩
def j7 (SQ:am):Option Bool :=
 (
   if SQ.Ar=2 then
    some true
   else
    if SQ.Ar=1 then
     if SQ.E'=0 then
      some true
     else
      if SQ.E'=1 then
       some true
      else
       some (decide (SQ.E'=0))
    else
     some (decide (SQ.E'=0))
  ).bind λ num5 =>
 (
   if SQ.Ar=3 then
    some true
   else
    some (decide (SQ.If=([]:Bytes)))
  ).bind λ str7 =>
 (
   if SQ.Ar=4 then
    some true
   else
    if SQ.Ar=5 then
     some true
    else
     some (decide ((SQ.Df.length:Int)=0))
  ).bind λ items10 =>
 (
   if SQ.Ar=5 then
    if (SQ.C'.length:Int)=(SQ.Df.length:Int) then
     some true
    else
     some false
   else
    some (decide ((SQ.C'.length:Int)=0))
  ).bind λ keys13 =>
 (
   if 0<=SQ.Ar then
    if SQ.Ar<=6 then
     if num5=true then
      if str7=true then
       if items10=true then
        some keys13
       else
        some false
      else
       some false
     else
      some false
    else
     some false
   else
    some false
  ).bind λ Ug =>
 some Ug
instance Fi (SQ:am):∀ (r:Bool),HP (j7 SQ=some r) Tryz.prog 189 [.agg (am.cs SQ)] (.p (eB r)):=by
 refine hP good Tryz.func189 Z Z λ r h0 _ w0=>?_;unfold j7 at h0;refine nx 6 Z (bd h0 λ V0 h1 h0=>kN V0 (λ VJ=>⟨[(1,.ptr 1 0),(3,.p (eB VJ))],[(1,(am.cs SQ).map .p)]⟩) ?_ ?_)
 ·refine nx 2 Z (bd h0 λ Zb h1 h0=>kN Zb (λ ZT=>⟨[(1,.ptr 1 0),(3,.p (eB V0)),(4,.p (eB ZT))],[(1,(am.cs SQ).map .p)]⟩) ?_ ?_)
  ·refine nx 2 Z (bd h0 λ VP h1 h0=>kN VP (λ Uz=>⟨[(1,.ptr 1 0),(3,.p (eB V0)),(4,.p (eB Zb)),(5,.p (eB Uz))],[(1,(am.cs SQ).map .p)]⟩) ?_ ?_)
   ·refine nx 2 Z (bd h0 λ XD h1 h0=>kN XD (λ Xf=>⟨[(1,.ptr 1 0),(3,.p (eB V0)),(4,.p (eB Zb)),(5,.p (eB VP)),(6,.p (eB Xf))],[(1,(am.cs SQ).map .p)]⟩) ?_ ?_)
    ·refine nx 2 Z (bd h0 λ Za h1 h0=>kN Za (λ YB=>⟨[(2,.p (eB YB))],[]⟩) ?_ ?_)
     ·exact J0
     exact ay
    refine nx 5 Z (fD [54,55] h1 Z (λ Xd h1=>?_) λ Xd h1=>?_)
    ·refine nx 2 Z (oLl (f:=eS) Z Z (nx 2 Z (oLl (f:=cY) Z Z (nx 3 Z (fD [62,63,64] h1 Z (λ ZH h1=>?_) λ ZH h1=>?_)))))
     ·exact ay
     exact nx 4 Z (lT [68] (JZ Xd) Z (nx 8 Z gJ))
    exact nx 13 Z (lT [68] (MR Xd) Z (nx 2 Z (oLl (f:=eS) Z Z (nx 5 Z gJ))))
   exact ay
  exact ay
 exact ay
def jv (n:Nat)(Mr:Bytes):Option Int :=
 if 4096 < (Mr.length:Int) then
  some 3
 else
  (lh n Mr).bind λ r2 =>
  if (!r2)=true then
   some 1
  else
   some 0
instance Lb (n:Nat) (Mr:Bytes):∀ (r:Int),HP (jv n Mr=some r) Tryz.prog 191 [eS Mr] (.p (eI r)):=by
 refine hP good Tryz.func191 Z Z λ r h0 _ w0=>?_;unfold jv at h0;exact J0
def fT (n:Nat)(SQ:am):Nat->Int->Option (Unit⊕Int)
 | 0,_=>none
 | m+1,i25 =>
 if i25 < (SQ.C'.length:Int) then
  ck ((0:Int)<=i25/\i25 < (SQ.C'.length:Int)) <|
  (jv n (lat SQ.C' i25)).bind λ Ty =>
  if Ty=0 then
   (
     if 0 < i25 then
      ck (inR (i25 - 1)) <|
      ck ((0:Int)<=i25 - 1/\i25 - 1 < (SQ.C'.length:Int)) <|
      ck ((0:Int)<=i25/\i25 < (SQ.C'.length:Int)) <|
      some (!Op.bytesLess (lat SQ.C' (i25 - 1)) (lat SQ.C' i25))
     else
      some false
    ).bind λ t35 =>
   if t35=true then
    some (.inr 1)
   else
    ck (inR (i25+1)) <|
    fT n SQ m (i25+1)
  else
   some (.inr Ty)
 else
  some (.inl ())
def lW (n:Nat)(SQ:am):Option Int :=
 (j7 SQ).bind λ r1 =>
 if (!r1)=true then
  some 1
 else
  (
    if SQ.Ar=2 then
     (jG SQ.E').bind λ r5 =>
     some (!r5)
    else
     some false
   ).bind λ t7 =>
  if t7=true then
   some 5
  else
   (jv n SQ.If).bind λ r9 =>
   if r9=0 then
    jn (fT n SQ n 0) λ _Yk =>
    some 0
   else
    some r9
instance Lj (n:Nat) (SQ:am):∀ (r:Int),HP (lW n SQ=some r) Tryz.prog 173 [.agg (am.cs SQ)] (.p (eI r)):=by
 refine hP good Tryz.func173 Z Z λ r h0 _ w0=>?_;unfold lW at h0;refine nx 9 Z (K0 λ r1 h0=>nx 2 Z (fB [8] h0 Z (λ c3 h0=>?_) λ c3 h0=>?_))
 ·exact J0
 refine nx 4 Z (bd h0 λ Xl h1 h0=>kN Xl (λ VU=>⟨[(1,.ptr 1 0),(17,.p (eB VU))],[(1,(am.cs SQ).map .p)]⟩) ?_ ?_)
 ·refine nx 1 Z (fB [17] h0 Z (λ c8 h0=>?_) λ c8 h0=>?_)
  ·exact J0
  refine nx 7 Z (K0 λ r9 h0=>nx 7 Z (fN [22] h0 Z (λ Xd h0=>?_) λ Xd h0=>?_))
  ·refine nx 8 rfl ?_;obtain ⟨WS,h1,TC,hR0⟩:=br h0;refine kEx 0 (λ WX:Unit=>WS=.inl WX) (λ WX=>⟨[],[]⟩) (λ WX hv=>?_) ?_
   ·exact fO
   refine lG (λ (VY:Int)=>⟨[(1,.ptr 1 0),(4,.p (eI VY))],[(1,(am.cs SQ).map .p)]⟩) (λ m (VY:Int)=>fT n SQ m VY) Y 0 h1 (gE rfl rfl) ?_;rintro m i25 h1;replace h1:fT n SQ (m+1) i25=some WS:=h1;rw [fT] at h1;refine nx 6 rfl (oLl (f:=eS) rfl rfl (nx 2 rfl (fD [28] h1 rfl (λ Yz h1=>?_) λ Yz h1=>?_)))
   ·refine nx 10 Z (oE h1 Y Z Z Y λ WA h1=>nx 1 Z (K1 λ Ty h1=>nx 7 Z (fN [38] h1 Z (λ ZF h1=>?_) λ ZF h1=>?_)))
    ·refine nx 3 Z (bd h1 λ o47 h2 h1=>kN o47 (λ v48=>⟨[(1,.ptr 1 0),(4,.p (eI i25)),(55,.p (eB v48))],[(1,(am.cs SQ).map .p)]⟩) ?_ ?_)
     ·exact ay
     refine fD (p:=0 < i25) [] h2 Z (λ ZE h2=>?_) λ ZE h2=>?_
     ·refine cc' h2 λ Zp h2=>cc' h2 λ aas h2=>cc' h2 λ Wz h2=>mD [(1,.ptr 1 0),(4,.p (eI i25))] Z ⟨Z,Z,trivial⟩ Z (dR 1 Z (dL (dt ZE) Z (dR 4 Z (dq (.p (eI (i25 - 1))) [42,45] Z (λ _ e _ q=>dF (fY Z Z Z (e _ _ Z) Z Z Zp q) Z Z (e _ _ Z) (rfl)) Z (dq (.rptr [eS (lat SQ.C' (i25 - 1))]) [42,44,46] Z (λ _ e _ q=>dF (jP (f:=eS) (l:=SQ.C') (λ x=>[eS x]) Z Z Z Z Z Z (e _ _ Z) Z (e _ _ Z) aas Y Y q) Z Z (e _ _ Z) (rfl)) Z (dR 4 Z (dq (.rptr [eS (lat SQ.C' i25)]) [42,50,51] Z (λ _ e _ q=>dF (jP (f:=eS) (l:=SQ.C') (λ x=>[eS x]) Z Z Z Z Z Z (e _ _ Z) Z (e _ _ Z) Wz Y Y q) Z Z (e _ _ Z) (rfl)) Z (dR 1 Z (dq (.p (eB (!Op.bytesLess (lat SQ.C' (i25 - 1)) (lat SQ.C' i25)))) [42,48,53] Z (λ _ e _ q=>dF (pV Z Z Z (e _ _ Z) (e _ _ Z) Z q) Z Z (e _ _ Z) (rfl)) Z ?_)))))))));exact bV
     exact mD [(1,.ptr 1 0),(4,.p (eI i25))] Z ⟨Z,Z,trivial⟩ Z (dR 1 Z (dL (df ZE) Z (dR 14 Z (dE Z Pd))))
    exact ay
   exact ay
  exact J0
 exact ay
def gp (Uk:am->Int->Int->Option (Int×Int))(SQ:am)(O':Int):Nat->Int->Int->Option (Int⊕(Int×Int))
 | 0,_,_=>none
 | m+1,n16,i17 =>
 if i17 < (SQ.Df.length:Int) then
  ck ((0:Int)<=i17/\i17 < (SQ.Df.length:Int)) <|
  ck (inR (O'+1)) <|
  (Uk (lat SQ.Df i17) (O'+1) n16).bind λ Te =>
  if Te.1=0 then
   ck (inR (i17+1)) <|
   gp Uk SQ O' m Te.2 (i17+1)
  else
   some (.inr (Te.1,Te.2))
 else
  some (.inl n16)
def ic:Nat->am->Int->Int->Option (Int×Int)
 | 0,_,_,_=>none
 | n+1,SQ,O',SZ =>
 if 32 < O' then
  some (4,SZ)
 else
  if 4096<=SZ then
   some (14,SZ)
  else
   (lW n SQ).bind λ r3 =>
   if r3=0 then
    ck (inR (SZ+1)) <|
    jn (gp (ic n) SQ O' n (SZ+1) 0) λ n27 =>
    some (0,n27)
   else
    some (r3,SZ)
instance Gj (n:Nat):∀ (SQ:am) (O':Int) (SZ:Int) (r:Int×Int),HP (ic n SQ O' SZ=some r) Tryz.prog 154 [.agg (am.cs SQ),eI O',eI SZ] (.tuple [.p (eI r.1),.p (eI r.2)]):=by
 induction n with
 | zero=>exact Zr
 | succ n ih =>
 refine λ SQ O' SZ=>hP good Tryz.func154 Z Z λ r h0 _ w0=>?_;rw [ic] at h0;refine nx 12 Z (fD [14] h0 Z (λ c1 h0=>?_) λ c1 h0=>?_)
 ·exact J0
 refine nx 8 Z (fD [17] h0 Z (λ c2 h0=>?_) λ c2 h0=>?_)
 ·exact J0
 refine nx 6 Z (K0 λ r3 h0=>nx 7 Z (fN [22] h0 Z (λ c5 h0=>?_) λ c5 h0=>?_))
 ·refine nx 5 rfl (oA h0 Z Z λ hk6 h0=>nx 8 rfl ?_);obtain ⟨VP,h1,TC,hR0⟩:=br h0;refine kEx 0 (λ Uz:Int=>VP=.inl Uz) (λ Uz=>⟨[(9,.p (eI Uz))],[]⟩) (λ Uz hv=>?_) ?_
  ·exact fO
  refine lG (λ (UV:Int×Int)=>⟨[(1,.p (eI O')),(3,.ptr 3 0),(9,.p (eI UV.1)),(10,.p (eI UV.2))],[(3,(am.cs SQ).map .p)]⟩) (λ m (UV:Int×Int)=>gp (ic n) SQ O' m UV.1 UV.2) Y (SZ+1,0) h1 (gE rfl rfl) ?_;rintro m ⟨n16,i17⟩ h1;replace h1:gp (ic n) SQ O' (m+1) n16 i17=some VP:=h1;rw [gp] at h1;exact ay
 exact J0
def kU (n:Nat)(SQ:am):Option Int :=
 (ic n SQ 1 0).bind λ r1 =>
 some r1.1
instance IV (n:Nat) (SQ:am):∀ (r:Int),HP (kU n SQ=some r) Tryz.prog 116 [.agg (am.cs SQ)] (.p (eI r)):=by
 refine hP good Tryz.func116 Z Z λ r h0 _ w0=>?_;unfold kU at h0;exact J0
def ep (a_0:am)(Tt:am):Nat->Int->Option (Unit⊕Bool)
 | 0,_=>none
 | m+1,i13 =>
 if i13 < (a_0.C'.length:Int) then
  ck ((0:Int)<=i13/\i13 < (a_0.C'.length:Int)) <|
  ck ((0:Int)<=i13/\i13 < (Tt.C'.length:Int)) <|
  if lat a_0.C' i13=lat Tt.C' i13 then
   ck (inR (i13+1)) <|
   ep a_0 Tt m (i13+1)
  else
   some (.inr false)
 else
  some (.inl ())
def d6 (Ul:am->am->Option Bool)(a_0:am)(Tt:am):Nat->Int->Option (Unit⊕Bool)
 | 0,_=>none
 | m+1,i28 =>
 if i28 < (a_0.Df.length:Int) then
  ck ((0:Int)<=i28/\i28 < (a_0.Df.length:Int)) <|
  ck ((0:Int)<=i28/\i28 < (Tt.Df.length:Int)) <|
  (Ul (lat a_0.Df i28) (lat Tt.Df i28)).bind λ Vr =>
  if (!Vr)=true then
   some (.inr false)
  else
   ck (inR (i28+1)) <|
   d6 Ul a_0 Tt m (i28+1)
 else
  some (.inl ())
def fS:Nat->am->am->Option Bool
 | 0,_,_=>none
 | n+1,a_0,Tt =>
 (
   if a_0.Ar=Tt.Ar then
    if a_0.E'=Tt.E' then
     if a_0.If=Tt.If then
      if (a_0.Df.length:Int)=(Tt.Df.length:Int) then
       some (!decide ((a_0.C'.length:Int)=(Tt.C'.length:Int)))
      else
       some true
     else
      some true
    else
     some true
   else
    some true
  ).bind λ t5 =>
 if t5=true then
  some false
 else
  jn (ep a_0 Tt n 0) λ _Z' =>
  jn (d6 (fS n) a_0 Tt n 0) λ _Xk =>
  some true
instance J5 (n:Nat):∀ (a_0:am) (Tt:am) (r:Bool),HP (fS n a_0 Tt=some r) Tryz.prog 50 [.agg (am.cs a_0),.agg (am.cs Tt)] (.p (eB r)):=by
 induction n with
 | zero=>exact Zr
 | succ n ih =>
 refine λ a_0 Tt=>hP good Tryz.func50 Z Z λ r h0 _ w0=>?_;rw [fS] at h0;refine nx 8 Z (bd h0 λ o40 h1 h0=>kN o40 (λ ZS=>⟨[(2,.ptr 2 0),(3,.ptr 3 0),(43,.p (eB ZS))],[(2,(am.cs a_0).map .p),(3,(am.cs Tt).map .p)]⟩) ?_ ?_)
 ·refine nx 1 Z (fB [43] h0 Z (λ c6 h0=>?_) λ c6 h0=>?_)
  ·exact J0
  refine nx 8 rfl ?_;obtain ⟨Xl,h1,TC,hR0⟩:=br h0;refine kEx 0 (λ VU:Unit=>Xl=.inl VU) (λ VU=>⟨[(2,.ptr 2 0),(3,.ptr 3 0)],[(2,(am.cs a_0).map .p),(3,(am.cs Tt).map .p)]⟩) (λ VU hv=>?_) ?_
  ·have h0:=TC _ hv;refine nx 7 rfl ?_;obtain ⟨WS,h1,TC,hR0⟩:=br h0;refine kEx 2 (λ WX:Unit=>WS=.inl WX) (λ WX=>⟨[],[]⟩) (λ WX hv=>?_) ?_
   ·exact fO
   refine lG (λ (VY:Int)=>⟨[(2,.ptr 2 0),(3,.ptr 3 0),(6,.p (eI VY))],[(2,(am.cs a_0).map .p),(3,(am.cs Tt).map .p)]⟩) (λ m (VY:Int)=>d6 (fS n) a_0 Tt m VY) Y 0 h1 (gE rfl rfl) ?_;rintro m i28 h1;replace h1:d6 (fS n) a_0 Tt (m+1) i28=some WS:=h1;rw [d6] at h1;refine nx 6 rfl (oLl (f:=cY) rfl rfl (nx 2 rfl (fD [66] h1 rfl (λ c29 h1=>?_) λ c29 h1=>?_)))
   ·refine nx 5 Z (cc' h1 λ Zq h1=>cc' h1 λ XI h1=>bd h1 λ Vr e33 h1=>mD [(2,.ptr 2 0),(3,.ptr 3 0),(6,.p (eI i28))] Z ⟨Z,Z,Z,trivial⟩ Z (dR 3 Z (dq (.rptr (am.cs (lat a_0.Df i28))) [70,71] Z (λ _ e _ q=>ap Z (jP (f:=cY) (l:=a_0.Df) am.cs Z Z Z Z Z Z (e _ _ Z) Z (e _ _ Z) Zq am.It Y q)) Z (dR 4 Z (dq (.rptr (am.cs (lat Tt.Df i28))) [75,76] Z (λ _ e _ q=>ap Z (jP (f:=cY) (l:=Tt.Df) am.cs Z Z Z Z Z Z (e _ _ Z) Z (e _ _ Z) XI am.It Y q)) Z (dR 1 Z (dq (.p (eB Vr)) [73,78] Z (λ _ e _ q=>ap Z (gG (HP.c e33) Z Z Z (aT (e _ _ Z) (aT (e _ _ Z) b9)) ⟨sr,sr,trivial⟩ Tryz.call50 Z q)) Z (dR 1 Z ?_))))))));exact ay
   exact ay
  refine lG (λ (U8:Int)=>⟨[(2,.ptr 2 0),(3,.ptr 3 0),(5,.p (eI U8))],[(2,(am.cs a_0).map .p),(3,(am.cs Tt).map .p)]⟩) (λ m (U8:Int)=>ep a_0 Tt m U8) Y 0 h1 (gE rfl rfl) ?_;rintro m i13 h1;replace h1:ep a_0 Tt (m+1) i13=some Xl:=h1;rw [ep] at h1;refine nx 6 rfl (oLl (f:=eS) rfl rfl (nx 2 rfl (fD [48] h1 rfl (λ Xc h1=>?_) λ Xc h1=>?_)))
  ·refine nx 5 Z (cc' h1 λ U6 h1=>cc' h1 λ UN h1=>mD [(2,.ptr 2 0),(3,.ptr 3 0),(5,.p (eI i13))] Z ⟨Z,Z,Z,trivial⟩ Z (dR 3 Z (dq (.rptr [eS (lat a_0.C' i13)]) [52,53] Z (λ _ e _ q=>ap Z (jP (f:=eS) (l:=a_0.C') (λ x=>[eS x]) Z Z Z Z Z Z (e _ _ Z) Z (e _ _ Z) U6 Y Y q)) Z (dR 4 Z (dq (.rptr [eS (lat Tt.C' i13)]) [57,58] Z (λ _ e _ q=>ap Z (jP (f:=eS) (l:=Tt.C') (λ x=>[eS x]) Z Z Z Z Z Z (e _ _ Z) Z (e _ _ Z) UN Y Y q)) Z (dR 1 Z (dq (.p (eB (!decide (lat a_0.C' i13=lat Tt.C' i13)))) [55,60] Z (λ _ e _ q=>ap Z (pV Z Z Z (e _ _ Z) (e _ _ Z) Z q)) Z (dE Z ?_))))))));exact ay
  exact ay
 exact ay
end Go.Ab.R06
end
section
namespace Go.Ab.R06
open Go.Proofs Go.Ab Go.Ab.RB
section
variable {p:Prop}
theorem Bm (h:p:=by
  exact nx 6 Z (eX _ (oi h3).symm (gE Z Z))):p:=h
theorem ui (h:p:=by exact ae O (aa Z)):p:=h
end
set_option maxRecDepth 4000
attribute [local irreducible] awp io bg bO cv AV.sub M cZ
instance QF:HE Tryz.prog 92:=⟨Tryz.call92⟩
instance QH:HE Tryz.prog 93:=⟨Tryz.call93⟩
instance QC:HE Tryz.prog 94:=⟨Tryz.call94⟩
instance Rb:HE Tryz.prog 95:=⟨Tryz.call95⟩
instance QB:HE Tryz.prog 165:=⟨Tryz.call165⟩
instance Q0:HE Tryz.prog 96:=⟨Tryz.call96⟩
instance Rc:HE Tryz.prog 60:=⟨Tryz.call60⟩
instance Qx:HE Tryz.prog 97:=⟨Tryz.call97⟩
instance Q3:HE Tryz.prog 137:=⟨Tryz.call137⟩
instance QE:HE Tryz.prog 138:=⟨Tryz.call138⟩
instance PC:HE Tryz.prog 63:=⟨Tryz.call63⟩
instance OR:HE Tryz.prog 61:=⟨Tryz.call61⟩
instance Pk:HE Tryz.prog 62:=⟨Tryz.call62⟩
instance Or:HE Tryz.prog 155:=⟨Tryz.call155⟩
instance Pg:HE Tryz.prog 118:=⟨Tryz.call118⟩
abbrev yn (F:Bytes->Int->Int->Int->Option (Int×ao))(k:Nat):Prop:=∀ (a0:Bytes) (a1:Int) (a2:Int) (a3:Int) (r:Int×ao),HP (F a0 a1 a2 a3=some r) Tryz.prog k [eS a0,eI a1,eI a2,eI a3] (.tuple [.p (eI r.1),.p (.agg (ao.cs r.2))])
abbrev tG (F:Bytes->Int->Option (Int))(k:Nat):Prop:=∀ (a0:Bytes) (a1:Int) (r:Int),HP (F a0 a1=some r) Tryz.prog k [eS a0,eI a1] (.p (eI r))
abbrev fE:List AV:=[.p (eI 0),.p (eI 0),.p (eS ([]:Bytes))]
abbrev Iv:List AV:=[.p (eI 0),.p (eS ([]:Bytes)),.p (eI 0)]
def gz (SU:Int)(N':Int):Option ao :=
 some (ao.mk SU N' ([]:Bytes))
instance LH (SU:Int) (N':Int):∀ (r:ao),HP (gz SU N'=some r) Tryz.prog 60 [eI SU,eI N'] (.p (.agg (ao.cs r))):=by
 refine hP good Tryz.func60 Z Z λ r h0 _ w0=>?_;unfold gz at h0;exact J0
def dB (Mr:Bytes):Nat->Int->Option Int
 | 0,_=>none
 | m+1,at11 =>
 (
   if at11 < (Mr.length:Int) then
    ck ((0:Int)<=at11/\at11 < (Mr.length:Int)) <|
    if byt Mr at11=32 then
     some true
    else
     ck ((0:Int)<=at11/\at11 < (Mr.length:Int)) <|
     if byt Mr at11=9 then
      some true
     else
      ck ((0:Int)<=at11/\at11 < (Mr.length:Int)) <|
      some (decide (byt Mr at11=13))
   else
    some false
  ).bind λ t18 =>
 if t18=true then
  ck (inR (at11+1)) <|
  dB Mr m (at11+1)
 else
  some at11
def iZ (n:Nat)(Mr:Bytes)(N':Int):Option Int :=
 (dB Mr n N').bind λ at22 =>
 some at22
instance Fq (n:Nat):tG (iZ n) 92:=by
 refine λ Mr N'=>hP good Tryz.func92 Z Z λ r h0 _ w0=>?_;unfold iZ at h0;refine nx 6 Z (bd h0 λ V0 h1 h0=>kE 0 V0 (λ VJ=>⟨[(1,.p (eI VJ))],[]⟩) ?_ ?_)
 ·exact J0
 refine lG (λ (Y5:Int)=>⟨[(0,.p (eS Mr)),(1,.p (eI Y5))],[]⟩) (λ m (Y5:Int)=>dB Mr m Y5) Y N' h1 (gE rfl rfl) ?_;rintro m at11 h1;replace h1:dB Mr (m+1) at11=some V0:=h1;rw [dB] at h1;have:=js [100];have:=jS 100 Bool λ v=>[(26,.p (eB v))]
 exact ay
def fb (Mr:Bytes):Nat->Int->Option Int
 | 0,_=>none
 | m+1,at13 =>
 (
   if at13 < (Mr.length:Int) then
    ck ((0:Int)<=at13/\at13 < (Mr.length:Int)) <|
    some (!decide (byt Mr at13=10))
   else
    some false
  ).bind λ T0 =>
 if T0=true then
  ck (inR (at13+1)) <|
  fb Mr m (at13+1)
 else
  some at13
def mF (n:Nat)(Mr:Bytes)(N':Int):Option Int :=
 (iZ n Mr N').bind λ r1 =>
 (
   (
     if r1 < (Mr.length:Int) then
      ck ((0:Int)<=r1/\r1 < (Mr.length:Int)) <|
      some (decide (byt Mr r1=35))
     else
      some false
    ).bind λ t5 =>
   if t5=true then
    (fb Mr n r1).bind λ at20 =>
    some at20
   else
    some r1
  ).bind λ at21 =>
 some at21
instance Lc (n:Nat):tG (mF n) 61:=by
 refine λ Mr N'=>hP good Tryz.func61 Z Z λ r h0 _ w0=>?_;unfold mF at h0;refine nx 8 Z (K0 λ r1 h0=>nx 3 Z (bd h0 λ o26 h1 h0=>kN o26 (λ v27=>⟨[(1,.p (eI v27))],[]⟩) ?_ ?_))
 ·exact J0
 refine nx 1 Z (bd h1 λ o28 h2 h1=>kN o28 (λ v29=>⟨[(0,.p (eS Mr)),(1,.p (eI r1)),(17,.p (eB v29))],[]⟩) ?_ ?_)
 ·refine nx 1 Z (fB [17] h1 Z (λ c6 h1=>?_) λ c6 h1=>?_)
  ·refine nx 2 Z (bd h1 λ X6 h2 h1=>kE 0 X6 (λ WQ=>⟨[(1,.p (eI WQ))],[]⟩) ?_ ?_)
   ·exact ay
   refine lG (λ (q32:Int)=>⟨[(0,.p (eS Mr)),(1,.p (eI q32))],[]⟩) (λ m (q32:Int)=>fb Mr m q32) Y r1 h2 (gE rfl rfl) ?_;rintro m at13 h2;replace h2:fb Mr (m+1) at13=some X6:=h2;rw [fb] at h2;refine nx 2 rfl (bd h2 λ Za h3 h2=>kN Za (λ YB=>⟨[(0,.p (eS Mr)),(1,.p (eI at13)),(27,.p (eB YB))],[]⟩) ?_ ?_)
   ·exact bV
   refine nx 3 Z (oLs Z (nx 2 Z (fD [21,22] h3 Z (λ Xc h3=>?_) λ Xc h3=>?_)))
   ·exact nx 2 Z (oI h3 Z λ U6 h3=>nx 3 Z ly)
   exact Bm
  exact ay
 exact bV
def iu (S5:Int):Option Bool :=
 (
   if S5=95 then
    some true
   else
    if 97<=S5 then
     if S5<=122 then
      some true
     else
      if 65<=S5 then
       some (decide (S5<=90))
      else
       some false
    else
     if 65<=S5 then
      some (decide (S5<=90))
     else
      some false
  ).bind λ t6 =>
 some t6
instance Fo (S5:Int):∀ (r:Bool),HP (iu S5=some r) Tryz.prog 93 [eK .u8 S5] (.p (eB r)):=by
 refine hP good Tryz.func93 Z Z λ r h0 _ w0=>?_;unfold iu at h0;exact jZ
def iR (S5:Int):Option Bool :=
 (
   if 48<=S5 then
    some (decide (S5<=57))
   else
    some false
  ).bind λ t2 =>
 some t2
instance FK (S5:Int):∀ (r:Bool),HP (iR S5=some r) Tryz.prog 94 [eK .u8 S5] (.p (eB r)):=by
 refine hP good Tryz.func94 Z Z λ r h0 _ w0=>?_;unfold iR at h0;exact jZ
def eW (Mr:Bytes)(N':Int):Nat->Int->Option (Unit⊕Bytes)
 | 0,_=>none
 | m+1,i12 =>
 if i12 < (([([61,62]:Bytes),([61,61]:Bytes),([33,61]:Bytes),([60,61]:Bytes),([62,61]:Bytes),([38,38]:Bytes),([124,124]:Bytes)]).length:Int) then
  (
    ck (inR (N'+2)) <|
    if N'+2<=(Mr.length:Int) then
     ck (inR (N'+2)) <|
     ck ((0:Int)<=N'/\N'<=N'+2/\N'+2<=(Mr.length:Int)) <|
     ck ((0:Int)<=i12/\i12 < (([([61,62]:Bytes),([61,61]:Bytes),([33,61]:Bytes),([60,61]:Bytes),([62,61]:Bytes),([38,38]:Bytes),([124,124]:Bytes)]).length:Int)) <|
     some (decide (sub Mr N' (N'+2)=lat ([([61,62]:Bytes),([61,61]:Bytes),([33,61]:Bytes),([60,61]:Bytes),([62,61]:Bytes),([38,38]:Bytes),([124,124]:Bytes)]) i12))
    else
     some false
   ).bind λ Ug =>
  if Ug=true then
   ck ((0:Int)<=i12/\i12 < (([([61,62]:Bytes),([61,61]:Bytes),([33,61]:Bytes),([60,61]:Bytes),([62,61]:Bytes),([38,38]:Bytes),([124,124]:Bytes)]).length:Int)) <|
   some (.inr (lat ([([61,62]:Bytes),([61,61]:Bytes),([33,61]:Bytes),([60,61]:Bytes),([62,61]:Bytes),([38,38]:Bytes),([124,124]:Bytes)]) i12))
  else
   ck (inR (i12+1)) <|
   eW Mr N' m (i12+1)
 else
  some (.inl ())
def eV (Mr:Bytes)(N':Int):Nat->Int->Option (Unit⊕Bytes)
 | 0,_=>none
 | m+1,i32 =>
 if i32 < (([123,125,91,93,40,41,44,61,60,62,43,45,42,47,37,33,63,58,46]:Bytes).length:Int) then
  ck ((0:Int)<=N'/\N' < (Mr.length:Int)) <|
  ck ((0:Int)<=i32/\i32 < (([123,125,91,93,40,41,44,61,60,62,43,45,42,47,37,33,63,58,46]:Bytes).length:Int)) <|
  if byt Mr N'=byt ([123,125,91,93,40,41,44,61,60,62,43,45,42,47,37,33,63,58,46]:Bytes) i32 then
   ck (inR (N'+1)) <|
   ck ((0:Int)<=N'/\N'<=N'+1/\N'+1<=(Mr.length:Int)) <|
   some (.inr (sub Mr N' (N'+1)))
  else
   ck (inR (i32+1)) <|
   eV Mr N' m (i32+1)
 else
  some (.inl ())
def kr (n:Nat)(Mr:Bytes)(N':Int):Option Bytes :=
 jn (eW Mr N' n 0) λ _ZJ =>
 jn (eV Mr N' n 0) λ _q43 =>
 some ([]:Bytes)
instance Lp (n:Nat) (Mr:Bytes) (N':Int):∀ (r:Bytes),HP (kr n Mr N'=some r) Tryz.prog 95 [eS Mr,eI N'] (.p (eS r)):=by
 refine hP good Tryz.func95 Z Z λ r h0 _ w0=>?_;unfold kr at h0;refine nx 6 rfl (mO rfl (aH eS [([61,62]:Bytes),([61,61]:Bytes),([33,61]:Bytes),([60,61]:Bytes),([62,61]:Bytes),([38,38]:Bytes),([124,124]:Bytes)] Z Z Z Z Z Z Z Z Z Z Z Z Z Z (nx 8 rfl ?_)));obtain ⟨WS,h1,TC,hR0⟩:=br h0;refine kEx 0 (λ WX:Unit=>WS=.inl WX) (λ WX=>⟨[(0,.p (eS Mr)),(1,.p (eI N'))],[]⟩) (λ WX hv=>?_) ?_
 ·have h0:=TC _ hv;refine nx 11 rfl ?_;obtain ⟨YL,h1,TC,hR0⟩:=br h0;refine kEx 2 (λ ZR:Unit=>YL=.inl ZR) (λ ZR=>⟨[],[]⟩) (λ ZR hv=>?_) ?_
  ·exact fO
  refine lG (λ (XA:Int)=>⟨[(0,.p (eS Mr)),(1,.p (eI N')),(7,.p (eS ([123,125,91,93,40,41,44,61,60,62,43,45,42,47,37,33,63,58,46]:Bytes))),(8,.p (eI XA))],[]⟩) (λ m (XA:Int)=>eV Mr N' m XA) Y 0 h1 (gE rfl rfl) ?_;rintro m i32 h1;replace h1:eV Mr N' (m+1) i32=some YL:=h1;rw [eV] at h1;refine nx 5 rfl (oLs rfl (nx 2 rfl (fD [40] h1 rfl (λ ZD h1=>?_) λ ZD h1=>?_)))
  ·refine nx 5 Z (cc' h1 λ Wz h1=>cc' h1 λ W8 h1=>mD [(0,.p (eS Mr)),(1,.p (eI N')),(7,.p (eS ([123,125,91,93,40,41,44,61,60,62,43,45,42,47,37,33,63,58,46]:Bytes))),(8,.p (eI i32))] Z ⟨Z,Z,Z,Z,trivial⟩ Z (dR 2 Z (dq (.p (eK .u8 (byt Mr N'))) [43,44] Z (λ _ e _ q=>ap Z (fx Z Z Z Z Z (e _ _ Z) (e _ _ Z) Wz q)) Z (dR 2 Z (dq (.p (eK .u8 (byt ([123,125,91,93,40,41,44,61,60,62,43,45,42,47,37,33,63,58,46]:Bytes) i32))) [46,47] Z (λ _ e _ q=>ap Z (fx Z Z Z Z Z (e _ _ Z) (e _ _ Z) W8 q)) Z (dR 1 Z ?_))))));exact ay
  exact ay
 refine lG (λ (Xz:Int)=>⟨[(0,.p (eS Mr)),(1,.p (eI N')),(5,.p (eL eS ([([61,62]:Bytes),([61,61]:Bytes),([33,61]:Bytes),([60,61]:Bytes),([62,61]:Bytes),([38,38]:Bytes),([124,124]:Bytes)]))),(6,.p (eI Xz))],[]⟩) (λ m (Xz:Int)=>eW Mr N' m Xz) Y 0 h1 (gE rfl rfl) ?_;rintro m i12 h1;replace h1:eW Mr N' (m+1) i12=some WS:=h1;rw [eW] at h1;refine nx 5 rfl (oLl (f:=eS) rfl rfl (nx 2 rfl (fD [13] h1 rfl (λ XY h1=>?_) λ XY h1=>?_)))
 ·refine nx 5 Z (bd h1 λ Ww h2 h1=>kN Ww (λ v51=>⟨[(0,.p (eS Mr)),(1,.p (eI N')),(5,.p (eL eS ([([61,62]:Bytes),([61,61]:Bytes),([33,61]:Bytes),([60,61]:Bytes),([62,61]:Bytes),([38,38]:Bytes),([124,124]:Bytes)]))),(6,.p (eI i12)),(32,.p (eB v51))],[]⟩) ?_ ?_)
  ·exact ay
  refine cc' h2 λ Vu h2=>fD (p:=N'+2<=(Mr.length:Int)) [] h2 Z (λ XX h2=>?_) λ XX h2=>?_
  ·refine cc' h2 λ UN h2=>cc' h2 λ V' h2=>cc' h2 λ Uv h2=>mD [(0,.p (eS Mr)),(1,.p (eI N')),(5,.p (eL eS ([([61,62]:Bytes),([61,61]:Bytes),([33,61]:Bytes),([60,61]:Bytes),([62,61]:Bytes),([38,38]:Bytes),([124,124]:Bytes)]))),(6,.p (eI i12))] Z ⟨Z,Z,Z,Z,trivial⟩ Z (dR 1 Z (dq (.p (eI (N'+2))) [16] Z (λ _ e _ q=>ap Z (fY Z Z Z (e _ _ Z) Z Z Vu q)) Z (dR 1 Z (dq (.p (eI (Mr.length:Int))) [18] Z (λ _ e _ q=>ap Z (oM Z Z Z Z Z (e _ _ Z) q)) Z (dL (dt XX) Z (dR 4 Z (dq (.p (eI (N'+2))) [21,24] Z (λ _ e _ q=>dF (fY Z Z Z (e _ _ Z) Z Z UN q) Z Z (e _ _ Z) (rfl)) Z (dq (.p (eS (sub Mr N' (N'+2)))) [21,22,23,25] Z (λ _ e _ q=>dF (fy (a:=Mr) (l:=N') (h:=N'+2) Z Z Z Z Z (e _ _ Z) pE (xH (e _ _ Z)) V' q) Z Z (e _ _ Z) (rfl)) Z (dR 2 Z (dq (.rptr ([eS (lat ([([61,62]:Bytes),([61,61]:Bytes),([33,61]:Bytes),([60,61]:Bytes),([62,61]:Bytes),([38,38]:Bytes),([124,124]:Bytes)]) i12)])) [21,27,28] Z (λ _ e _ q=>dF (jP (f:=eS) (l:=[([61,62]:Bytes),([61,61]:Bytes),([33,61]:Bytes),([60,61]:Bytes),([62,61]:Bytes),([38,38]:Bytes),([124,124]:Bytes)]) (λ x=>[eS x]) Z Z Z Z Z Z (e _ _ Z) Z (e _ _ Z) Uv Y Y q) Z Z (e _ _ Z) (rfl)) Z (dR 1 Z (dq (.p (eB (decide (sub Mr N' (N'+2)=lat ([([61,62]:Bytes),([61,61]:Bytes),([33,61]:Bytes),([60,61]:Bytes),([62,61]:Bytes),([38,38]:Bytes),([124,124]:Bytes)]) i12)))) [21,26,30] Z (λ _ e _ q=>dF (pV Z Z Z (e _ _ Z) (e _ _ Z) Z q) Z Z (e _ _ Z) (rfl)) Z (dR 1 Z ?_)))))))))))));exact bV
  refine mD [(0,.p (eS Mr)),(1,.p (eI N')),(5,.p (eL eS ([([61,62]:Bytes),([61,61]:Bytes),([33,61]:Bytes),([60,61]:Bytes),([62,61]:Bytes),([38,38]:Bytes),([124,124]:Bytes)]))),(6,.p (eI i12))] Z ⟨Z,Z,Z,Z,trivial⟩ Z (dR 1 Z (dq (.p (eI (N'+2))) [16] Z (λ _ e _ q=>ap Z (fY Z Z Z (e _ _ Z) Z Z Vu q)) Z (dR 1 Z (dq (.p (eI (Mr.length:Int))) [18] Z (λ _ e _ q=>ap Z (oM Z Z Z Z Z (e _ _ Z) q)) Z (dL (df XX) Z ?_)))));exact bV
 exact ay
def ka (n:Nat)(Mr:Bytes)(N':Int):Option Bool :=
 (
   ck ((0:Int)<=N'/\N' < (Mr.length:Int)) <|
   (iu (byt Mr N')).bind λ r2 =>
   if r2=true then
    some true
   else
    ck ((0:Int)<=N'/\N' < (Mr.length:Int)) <|
    (iR (byt Mr N')).bind λ r6 =>
    if r6=true then
     some true
    else
     ck ((0:Int)<=N'/\N' < (Mr.length:Int)) <|
     if byt Mr N'=34 then
      some true
     else
      ck ((0:Int)<=N'/\N' < (Mr.length:Int)) <|
      if byt Mr N'=10 then
       some true
      else
       (kr n Mr N').bind λ UU =>
       some (!decide (UU=([]:Bytes)))
  ).bind λ t15 =>
 some t15
instance Fu (n:Nat) (Mr:Bytes) (N':Int):∀ (r:Bool),HP (ka n Mr N'=some r) Tryz.prog 62 [eS Mr,eI N'] (.p (eB r)):=by
 refine hP good Tryz.func62 Z Z λ r h0 _ w0=>?_;unfold ka at h0;have:=js [100];have:=jS 100 Bool λ v=>[(4,.p (eB v))]
 exact J0
def fM (Mr:Bytes)(letters_2:Bool):Nat->Int->Option Int
 | 0,_=>none
 | m+1,at14 =>
 (
   if at14 < (Mr.length:Int) then
    ck ((0:Int)<=at14/\at14 < (Mr.length:Int)) <|
    (iR (byt Mr at14)).bind λ VL =>
    if VL=true then
     some true
    else
     if letters_2=true then
      ck ((0:Int)<=at14/\at14 < (Mr.length:Int)) <|
      (iu (byt Mr at14)).bind λ Vb =>
      some Vb
     else
      some false
   else
    some false
  ).bind λ Vy =>
 if Vy=true then
  ck (inR (at14+1)) <|
  fM Mr letters_2 m (at14+1)
 else
  some at14
def lR (n:Nat)(Mr:Bytes)(N':Int)(letters_2:Bool):Option Int :=
 (fM Mr letters_2 n N').bind λ at28 =>
 some at28
instance MH (n:Nat) (Mr:Bytes) (N':Int) (letters_2:Bool):∀ (r:Int),HP (lR n Mr N' letters_2=some r) Tryz.prog 96 [eS Mr,eI N',eB letters_2] (.p (eI r)):=by
 refine hP good Tryz.func96 Z Z λ r h0 _ w0=>?_;unfold lR at h0;refine nx 6 Z (bd h0 λ XD h1 h0=>kE 0 XD (λ Xf=>⟨[(1,.p (eI Xf))],[]⟩) ?_ ?_)
 ·exact J0
 refine lG (λ (X4:Int)=>⟨[(0,.p (eS Mr)),(1,.p (eI X4)),(2,.p (eB letters_2))],[]⟩) (λ m (X4:Int)=>fM Mr letters_2 m X4) Y N' h1 (gE rfl rfl) ?_;rintro m at14 h1;replace h1:fM Mr letters_2 (m+1) at14=some XD:=h1;rw [fM] at h1;have:=js [100];have:=jS 100 Bool λ v=>[(25,.p (eB v))]
 exact ay
def fc (Mr:Bytes)(to_2:Int):Nat->Int->Option (Unit⊕Bool)
 | 0,_=>none
 | m+1,i10 =>
 if i10 < to_2 then
  (
    ck ((0:Int)<=i10/\i10 < (Mr.length:Int)) <|
    if byt Mr i10 < 128 then
     some true
    else
     ck ((0:Int)<=i10/\i10 < (Mr.length:Int)) <|
     some (decide (191 < byt Mr i10))
   ).bind λ t15 =>
  if t15=true then
   some (.inr false)
  else
   ck (inR (i10+1)) <|
   fc Mr to_2 m (i10+1)
 else
  some (.inl ())
def jy (n:Nat)(Mr:Bytes)(from_1:Int)(to_2:Int):Option Bool :=
 if (Mr.length:Int) < to_2 then
  some false
 else
  jn (fc Mr to_2 n from_1) λ _q19 =>
  some true
instance Ln (n:Nat) (Mr:Bytes) (from_1:Int) (to_2:Int):∀ (r:Bool),HP (jy n Mr from_1 to_2=some r) Tryz.prog 165 [eS Mr,eI from_1,eI to_2] (.p (eB r)):=by
 refine hP good Tryz.func165 Z Z λ r h0 _ w0=>?_;unfold jy at h0;refine nx 9 Z (oLs Z (nx 2 Z (fD [11] h0 Z (λ c1 h0=>?_) λ c1 h0=>?_)))
 ·exact J0
 refine nx 9 rfl ?_;obtain ⟨Wi,h1,TC,hR0⟩:=br h0;refine kEx 0 (λ YS:Unit=>Wi=.inl YS) (λ YS=>⟨[],[]⟩) (λ YS hv=>?_) ?_
 ·exact fO
 refine lG (λ (Wp:Int)=>⟨[(0,.p (eS Mr)),(2,.p (eI to_2)),(7,.p (eI Wp))],[]⟩) (λ m (Wp:Int)=>fc Mr to_2 m Wp) Y from_1 h1 (gE rfl rfl) ?_;rintro m i10 h1;replace h1:fc Mr to_2 (m+1) i10=some Wi:=h1;rw [fc] at h1;have:=js [600];have:=jS 600 Bool λ v=>[(27,.p (eB v))]
 exact ay
def kY (n:Nat)(Mr:Bytes)(N':Int):Option Int :=
 ck ((0:Int)<=N'/\N' < (Mr.length:Int)) <|
 if byt Mr N' < 128 then
  some 1
 else
  (
    if 194<=byt Mr N' then
     if byt Mr N'<=223 then
      ck (inR (N'+1)) <|
      ck (inR (N'+2)) <|
      (jy n Mr (N'+1) (N'+2)).bind λ r7 =>
      some r7
     else
      some false
    else
     some false
   ).bind λ t9 =>
  if t9=true then
   some 2
  else
   (
     if 224<=byt Mr N' then
      if byt Mr N'<=239 then
       ck (inR (N'+1)) <|
       ck (inR (N'+3)) <|
       (jy n Mr (N'+1) (N'+3)).bind λ S6 =>
       if S6=true then
        if byt Mr N'=224 then
         ck (inR (N'+1)) <|
         ck ((0:Int)<=N'+1/\N'+1 < (Mr.length:Int)) <|
         if byt Mr (N'+1) < 160 then
          some false
         else
          if byt Mr N'=237 then
           ck (inR (N'+1)) <|
           ck ((0:Int)<=N'+1/\N'+1 < (Mr.length:Int)) <|
           some (!decide (159 < byt Mr (N'+1)))
          else
           some (!false)
        else
         if (!false)=true then
          if byt Mr N'=237 then
           ck (inR (N'+1)) <|
           ck ((0:Int)<=N'+1/\N'+1 < (Mr.length:Int)) <|
           some (!decide (159 < byt Mr (N'+1)))
          else
           some (!false)
         else
          some false
       else
        some false
      else
       some false
     else
      some false
    ).bind λ Z6 =>
   if Z6=true then
    some 3
   else
    (
      if 240<=byt Mr N' then
       if byt Mr N'<=244 then
        ck (inR (N'+1)) <|
        ck (inR (N'+4)) <|
        (jy n Mr (N'+1) (N'+4)).bind λ Xh =>
        if Xh=true then
         if byt Mr N'=240 then
          ck (inR (N'+1)) <|
          ck ((0:Int)<=N'+1/\N'+1 < (Mr.length:Int)) <|
          if byt Mr (N'+1) < 144 then
           some false
          else
           if byt Mr N'=244 then
            ck (inR (N'+1)) <|
            ck ((0:Int)<=N'+1/\N'+1 < (Mr.length:Int)) <|
            some (!decide (143 < byt Mr (N'+1)))
           else
            some (!false)
         else
          if (!false)=true then
           if byt Mr N'=244 then
            ck (inR (N'+1)) <|
            ck ((0:Int)<=N'+1/\N'+1 < (Mr.length:Int)) <|
            some (!decide (143 < byt Mr (N'+1)))
           else
            some (!false)
          else
           some false
        else
         some false
       else
        some false
      else
       some false
     ).bind λ t49 =>
    if t49=true then
     some 4
    else
     some 0
instance KT (n:Nat):tG (kY n) 138:=by
 refine λ Mr N'=>hP good Tryz.func138 Z Z λ r h0 _ w0=>?_;unfold kY at h0;have:=js [400,600,800];have:=jS 400 Bool λ v=>[(12,.p (eB v))]
 have:=jS 600 Bool λ v=>[(27,.p (eB v))]
 have:=jS 800 Bool λ v=>[(66,.p (eB v))]
 exact J0
def db (n:Nat)(Uj:Bytes->Int->Int->Int->Option (Int×ao))(Mr:Bytes)(SP:Int)(SO:Int):Nat->Int->Option (Unit⊕(Int×ao))
 | 0,_=>none
 | m+1,at43 =>
 if at43 < (Mr.length:Int) then
  jn (
    ck ((0:Int)<=at43/\at43 < (Mr.length:Int)) <|
    if byt Mr at43=34 then
     some (.inr (.inr (at43,(ao.mk 0 0 ([]:Bytes)))))
    else
     (
       ck (inR (at43+3)) <|
       if at43+3<=(Mr.length:Int) then
        ck (inR (at43+3)) <|
        ck ((0:Int)<=at43/\at43<=at43+3/\at43+3<=(Mr.length:Int)) <|
        some (decide (sub Mr at43 (at43+3)=([36,36,123]:Bytes)))
       else
        some false
      ).bind λ t51 =>
     if t51=true then
      ck (inR (at43+3)) <|
      some (.inl (at43+3))
     else
      (
        ck (inR (at43+2)) <|
        if at43+2<=(Mr.length:Int) then
         ck (inR (at43+2)) <|
         ck ((0:Int)<=at43/\at43<=at43+2/\at43+2<=(Mr.length:Int)) <|
         some (decide (sub Mr at43 (at43+2)=([36,123]:Bytes)))
        else
         some false
       ).bind λ t58 =>
      if t58=true then
       if 32<=SP then
        (gz 4 at43).bind λ TQ =>
        some (.inr (.inr (0,TQ)))
       else
        ck (inR (at43+2)) <|
        ck (inR (SP+1)) <|
        (Uj Mr (at43+2) (SP+1) SO).bind λ r65 =>
        if r65.2.Ar=0 then
         some (.inl r65.1)
        else
         some (.inr (.inr (0,r65.2)))
      else
       jn (
         ck ((0:Int)<=at43/\at43 < (Mr.length:Int)) <|
         if byt Mr at43=92 then
          ck (inR (at43+1)) <|
          if (Mr.length:Int)<=at43+1 then
           some (.inr (.inr (.inl ())))
          else
           some (.inl (at43+1))
         else
          some (.inl at43)
        : Option (Int⊕(Int⊕(Unit⊕(Int×ao))))) λ at72 =>
       (kY n Mr at72).bind λ Uw =>
       (
         if Uw=0 then
          some true
         else
          ck ((0:Int)<=at72/\at72 < (Mr.length:Int)) <|
          if byt Mr at72 < 32 then
           some true
          else
           ck ((0:Int)<=at72/\at72 < (Mr.length:Int)) <|
           some (decide (byt Mr at72=127))
        ).bind λ t79 =>
       if t79=true then
        (gz 2 at72).bind λ r81 =>
        some (.inr (.inr (0,r81)))
       else
        ck (inR (at72+Uw)) <|
        some (.inl (at72+Uw))
   : Option (Int⊕(Unit⊕(Int×ao)))) λ at84 =>
  db n Uj Mr SP SO m at84
 else
  some (.inl ())
def cq (n:Nat)(U7:Bytes->Int->Int->Int->Option (ac×Int×ao))(Mr:Bytes)(SP:Int)(SO:Int):Nat->Int->Int->Option (Unit⊕(Int×ao))
 | 0,_,_=>none
 | m+1,at21,open22 =>
 if at21<=(Mr.length:Int) then
  (iZ n Mr at21).bind λ Vs =>
  if (Mr.length:Int)<=Vs then
   some (.inl ())
  else
   (U7 Mr Vs SP SO).bind λ Uc =>
   if Uc.2.2.Ar=0 then
    jn (
      (
        if Uc.1.Ar=4 then
         some (decide (Uc.1.B'=([125]:Bytes)))
        else
         some false
       ).bind λ t31 =>
      if t31=true then
       if open22=0 then
        some (.inr (.inr (Uc.2.1,(ao.mk 0 0 ([]:Bytes)))))
       else
        ck (inR (open22 - 1)) <|
        some (.inl (open22 - 1))
      else
       some (.inl open22)
     : Option (Int⊕(Unit⊕(Int×ao)))) λ open35 =>
    (
      (
        if Uc.1.Ar=4 then
         some (decide (Uc.1.B'=([123]:Bytes)))
        else
         some false
       ).bind λ t37 =>
      if t37=true then
       ck (inR (open35+1)) <|
       some (open35+1)
      else
       some open35
     ).bind λ open40 =>
    cq n U7 Mr SP SO m Uc.2.1 open40
   else
    some (.inr (0,Uc.2.2))
 else
  some (.inl ())
mutual
def dN:Nat->Bytes->Int->Int->Int->Option (ac×Int×ao)
 | 0,_,_,_,_=>none
 | n+1,Mr,N',SP,SO =>
 ck ((0:Int)<=N'/\N' < (Mr.length:Int)) <|
 if byt Mr N'=10 then
  ck (inR (N'+1)) <|
  some ((ac.mk 5 ([10]:Bytes) N'),N'+1,(ao.mk 0 0 ([]:Bytes)))
 else
  (iu (byt Mr N')).bind λ r4 =>
  if r4=true then
   (lR n Mr N' true).bind λ r7 =>
   ck (inR (r7 - N')) <|
   if 64 < r7 - N' then
    (gz 7 N').bind λ VW =>
    some ((ac.mk 0 ([]:Bytes) 0),0,VW)
   else
    ck ((0:Int)<=N'/\N'<=r7/\r7<=(Mr.length:Int)) <|
    some ((ac.mk 1 (sub Mr N' r7) N'),r7,(ao.mk 0 0 ([]:Bytes)))
  else
   (iR (byt Mr N')).bind λ Xj =>
   if Xj=true then
    (lR n Mr N' false).bind λ VL =>
    ck ((0:Int)<=N'/\N'<=VL/\VL<=(Mr.length:Int)) <|
    some ((ac.mk 2 (sub Mr N' VL) N'),VL,(ao.mk 0 0 ([]:Bytes)))
   else
    if byt Mr N'=34 then
     (
       if SP=0 then
        some N'
       else
        some SO
      ).bind λ quote22 =>
     ck (inR (N'+1)) <|
     ((ko n) Mr (N'+1) SP quote22).bind λ Vs =>
     if Vs.2.Ar=0 then
      ck (inR (N'+1)) <|
      ck ((0:Int)<=N'+1/\N'+1<=Vs.1/\Vs.1<=(Mr.length:Int)) <|
      ck (inR (Vs.1+1)) <|
      some ((ac.mk 3 (sub Mr (N'+1) Vs.1) N'),Vs.1+1,(ao.mk 0 0 ([]:Bytes)))
     else
      some ((ac.mk 0 ([]:Bytes) 0),0,Vs.2)
    else
     (kr n Mr N').bind λ Wm =>
     if Wm=([]:Bytes) then
      (gz 2 N').bind λ Vq =>
      some ((ac.mk 0 ([]:Bytes) 0),0,Vq)
     else
      ck (inR (N'+(Wm.length:Int))) <|
      some ((ac.mk 4 Wm N'),N'+(Wm.length:Int),(ao.mk 0 0 ([]:Bytes)))
def ko:Nat->Bytes->Int->Int->Int->Option (Int×ao)
 | 0,_,_,_,_=>none
 | n+1,Mr,N',SP,SO =>
 jn (db n (dK n) Mr SP SO n N') λ _We =>
 (gz 40 SO).bind λ r86 =>
 some (0,r86)
def dK:Nat->Bytes->Int->Int->Int->Option (Int×ao)
 | 0,_,_,_,_=>none
 | n+1,Mr,N',SP,SO =>
 jn (cq n (dN n) Mr SP SO n N' 0) λ _q45 =>
 (gz 40 SO).bind λ UT =>
 some (0,UT)
end
theorem vp (n:Nat):(∀ (Mr:Bytes) (N':Int) (SP:Int) (SO:Int) (r:ac×Int×ao),HP (dN n Mr N' SP SO=some r) Tryz.prog 63 [eS Mr,eI N',eI SP,eI SO] (.tuple [.p (.agg (ac.cs r.1)),.p (eI r.2.1),.p (.agg (ao.cs r.2.2))]))/\yn (ko n) 97/\yn (dK n) 137:=by
 induction n with
 | zero=>exact Zr
 | succ n ih =>
 obtain ⟨_,_,_⟩:=ih;refine ⟨?_,?_,?_⟩
 ·refine λ Mr N' SP SO=>hP good Tryz.func63 Z Z λ r h0 _ w0=>?_;rw [dN] at h0;refine nx 10 Z (oI h0 Z λ Xa h0=>nx 8 Z (fD [21] h0 Z (λ c2 h0=>?_) λ c2 h0=>?_))
  ·exact J0
  refine nx 6 Z (K0 λ r4 h0=>nx 1 Z (fB [28] h0 Z (λ c6 h0=>?_) λ c6 h0=>?_))
  ·exact J0
  refine nx 6 Z (K0 λ Xj h0=>nx 1 Z (fB [48] h0 Z (λ ZG h0=>?_) λ ZG h0=>?_))
  ·exact J0
  refine nx 8 Z (fD [61] h0 Z (λ c20 h0=>?_) λ c20 h0=>?_)
  ·refine nx 2 Z (bd h0 λ o37 h1 h0=>kN o37 (λ v38=>⟨[(0,.p (eS Mr)),(1,.p (eI N')),(2,.p (eI SP)),(3,.p (eI v38)),(8,.ptr 8 0),(10,.ptr 10 0)],[(8,Iv),(10,fE)]⟩) ?_ ?_)
   ·exact J0
   exact ay
  exact J0
 ·refine λ Mr N' SP SO=>hP good Tryz.func97 Z Z λ r h0 _ w0=>?_;rw [ko] at h0;refine nx 7 rfl ?_;obtain ⟨o94,h1,TC,hR0⟩:=br h0;refine kEx 0 (λ v95:Unit=>o94=.inl v95) (λ v95=>⟨[(3,.p (eI SO)),(9,.ptr 9 0)],[(9,fE)]⟩) (λ v95 hv=>?_) ?_
  ·exact fO
  refine lG (λ (q96:Int)=>⟨[(0,.p (eS Mr)),(1,.p (eI q96)),(2,.p (eI SP)),(3,.p (eI SO)),(9,.ptr 9 0)],[(9,fE)]⟩) (λ m (q96:Int)=>db n (dK n) Mr SP SO m q96) Y N' h1 (gE rfl rfl) ?_;rintro m at43 h1;replace h1:db n (dK n) Mr SP SO (m+1) at43=some o94:=h1;rw [db] at h1;refine nx 5 rfl (oLs rfl (nx 2 rfl (fD [16] h1 rfl (λ c44 h1=>?_) λ c44 h1=>?_)))
  ·refine nx 2 rfl ?_;obtain ⟨o97,h2,hL1,hR1⟩:=br h1;refine kX (λ ZI:Int=>o97=.inl ZI) (λ ZI=>⟨[(0,.p (eS Mr)),(1,.p (eI ZI)),(2,.p (eI SP)),(3,.p (eI SO)),(9,.ptr 9 0)],[(9,fE)]⟩) (λ ZI hv=>?_) ?_
   ·have h1:=hL1 _ hv;exact ay
   refine nx 6 Z (oI h2 Z λ aar h2=>nx 2 Z (fD [20] h2 Z (λ c46 h2=>?_) λ c46 h2=>?_))
   ·exact bV
   refine nx 4 Z (bd h2 λ o99 h3 h2=>kN o99 (λ v100=>⟨[(0,.p (eS Mr)),(1,.p (eI at43)),(2,.p (eI SP)),(3,.p (eI SO)),(9,.ptr 9 0),(35,.p (eB v100))],[(9,fE)]⟩) ?_ ?_)
   ·refine nx 1 Z (fB [35] h2 Z (λ c52 h2=>?_) λ c52 h2=>?_)
    ·exact bV
    refine nx 4 Z (bd h2 λ o101 h3 h2=>kN o101 (λ v102=>⟨[(0,.p (eS Mr)),(1,.p (eI at43)),(2,.p (eI SP)),(3,.p (eI SO)),(9,.ptr 9 0),(50,.p (eB v102))],[(9,fE)]⟩) ?_ ?_)
    ·refine nx 1 Z (fB [50] h2 Z (λ c59 h2=>?_) λ c59 h2=>?_)
     ·exact bV
     refine nx 3 rfl ?_;obtain ⟨o103,h3,hL2,hR2⟩:=br h2;refine kX (λ Xq:Int=>o103=.inl Xq) (λ Xq=>⟨[(0,.p (eS Mr)),(1,.p (eI Xq)),(2,.p (eI SP)),(3,.p (eI SO)),(9,.ptr 9 0)],[(9,fE)]⟩) (λ Xq hv=>?_) ?_
     ·have h2:=hL2 _ hv;refine nx 5 Z (K2 λ Uw h2=>nx 4 Z (bd h2 λ o105 h3 h2=>kN o105 (λ v106=>⟨[(0,.p (eS Mr)),(1,.p (eI Xq)),(2,.p (eI SP)),(3,.p (eI SO)),(9,.ptr 9 0),(12,.p (eI Uw)),(96,.p (eB v106))],[(9,fE)]⟩) ?_ ?_))
      ·exact bV
      refine nx 4 Z (fD [84,85] h3 Z (λ c75 h3=>?_) λ c75 h3=>?_)
      ·exact nx 12 Z ly
      refine nx 2 Z (oI h3 Z λ hk76 h3=>nx 3 Z (fD [89,90,91] h3 Z (λ c77 h3=>?_) λ c77 h3=>?_))
      ·exact Bm
      exact nx 2 Z (oI h3 Z λ hk78 h3=>nx 3 Z ly)
     refine nx 4 Z (oI h3 Z λ aak h3=>nx 2 Z (fD [73] h3 Z (λ c69 h3=>?_) λ c69 h3=>?_))
     ·refine nx 4 Z (oA h3 Z Z λ aaj h3=>nx 6 Z (oLs Z (nx 2 Z (fD [79] h3 Z (λ c71 h3=>?_) λ c71 h3=>?_))))
      ·exact nx 2 Z (eXi _ (hR1 _ (hR2 _ (oi h3).symm).symm).symm (gE Z Z))
      exact lZ
     exact lZ
    refine nx 2 Z (oA h3 Z Z λ W6 h3=>nx 1 Z (oLs Z (nx 2 Z (fD [42,43] h3 Z (λ c55 h3=>?_) λ c55 h3=>?_))))
    ·exact nx 3 Z (oA h3 Z Z λ Zk h3=>oP h3 Z Z Z λ W5 h3=>oS Z Z HK)
    exact x9
   refine nx 2 Z (oA h3 Z Z λ Yr h3=>nx 1 Z (oLs Z (nx 2 Z (fD [27,28] h3 Z (λ c48 h3=>?_) λ c48 h3=>?_))))
   ·exact nx 3 Z (oA h3 Z Z λ Zl h3=>oP h3 Z Z Z λ XH h3=>oS Z Z HK)
   exact x9
  exact ay
 ·refine λ Mr N' SP SO=>hP good Tryz.func137 Z Z λ r h0 _ w0=>?_;rw [dK] at h0;refine nx 11 rfl ?_;obtain ⟨Ww,h1,TC,hR0⟩:=br h0;refine kEx 0 (λ v51:Unit=>Ww=.inl v51) (λ v51=>⟨[(3,.p (eI SO)),(9,.ptr 9 0)],[(9,fE)]⟩) (λ v51 hv=>?_) ?_
  ·exact fO
  refine lG (λ (V6:Int×Int)=>⟨[(0,.p (eS Mr)),(1,.p (eI V6.1)),(2,.p (eI SP)),(3,.p (eI SO)),(9,.ptr 9 0),(10,.p (eI V6.2))],[(9,fE)]⟩) (λ m (V6:Int×Int)=>cq n (dN n) Mr SP SO m V6.1 V6.2) Y (N',0) h1 (gE rfl rfl) ?_;rintro m ⟨at21,open22⟩ h1;replace h1:cq n (dN n) Mr SP SO (m+1) at21 open22=some Ww:=h1;rw [cq] at h1;refine nx 5 rfl (oLs rfl (nx 2 rfl (fD [17] h1 rfl (λ V2 h1=>?_) λ V2 h1=>?_)))
  ·refine nx 7 Z (K1 λ Vs h1=>nx 7 Z (oLs Z (nx 2 Z (fD [24] h1 Z (λ Yz h1=>?_) λ Yz h1=>?_))))
   ·exact ay
   refine nx 8 Z (K1 λ Uc h1=>nx 17 Z (fN [36] h1 Z (λ c29 h1=>?_) λ c29 h1=>?_))
   ·refine nx 2 rfl (mG (gE (t:=⟨[(0,.p (eS Mr)),(2,.p (eI SP)),(3,.p (eI SO)),(9,.ptr 9 0),(10,.p (eI open22)),(11,.ptr 11 0),(12,.p (eI Uc.2.1))],[(9,fE),(11,(ac.cs Uc.1).map .p)]⟩) Z Z) (nx 1 rfl ?_));obtain ⟨Wh,h2,hL1,hR1⟩:=br h1;refine kX (λ Xp:Int=>Wh=.inl Xp) (λ Xp=>⟨[(0,.p (eS Mr)),(2,.p (eI SP)),(3,.p (eI SO)),(9,.ptr 9 0),(10,.p (eI Xp)),(11,.ptr 11 0),(12,.p (eI Uc.2.1))],[(9,fE),(11,(ac.cs Uc.1).map .p)]⟩) (λ Xp hv=>?_) ?_
    ·have h1:=hL1 _ hv;have:=js [1201,1200];have:=jS 1201 Int λ v=>[(10,.p (eI v))]
     have:=jS 1200 Bool λ v=>[(59,.p (eB v))]
     exact ay
    refine nx 1 Z (bd h2 λ o59 h3 h2=>kN o59 (λ v60=>⟨[(0,.p (eS Mr)),(2,.p (eI SP)),(3,.p (eI SO)),(9,.ptr 9 0),(10,.p (eI open22)),(11,.ptr 11 0),(12,.p (eI Uc.2.1)),(45,.p (eB v60))],[(9,fE),(11,(ac.cs Uc.1).map .p)]⟩) ?_ ?_)
    ·exact bV
    refine nx 5 Z (fD [40,41] h3 Z (λ ZF h3=>?_) λ ZF h3=>?_)
    ·exact nx 2 Z Bu
    exact B9
   exact ay
  exact ay
instance LO (n:Nat):∀ (Mr:Bytes) (N':Int) (SP:Int) (SO:Int) (r:ac×Int×ao),HP (dN n Mr N' SP SO=some r) Tryz.prog 63 [eS Mr,eI N',eI SP,eI SO] (.tuple [.p (.agg (ac.cs r.1)),.p (eI r.2.1),.p (.agg (ao.cs r.2.2))]):=(vp n).1
def fZ (n:Nat)(Mr:Bytes):Nat->(List ac)->Int->Option (Int⊕((List ac)×ao))
 | 0,_,_=>none
 | m+1,Tw,at24 =>
 if at24<=(Mr.length:Int) then
  (mF n Mr at24).bind λ TT =>
  (
    if 16384<=(Tw.length:Int) then
     if (Mr.length:Int)<=TT then
      some true
     else
      (ka n Mr TT).bind λ Wm =>
      some Wm
    else
     some false
   ).bind λ t32 =>
  if t32=true then
   (gz 14 TT).bind λ Tg =>
   some (.inr ([],Tg))
  else
   if (Mr.length:Int)<=TT then
    ck ((Tw.length+([(ac.mk 6 ([]:Bytes) TT)]).length)*32<=140737488355328) <|
    some (.inr (Tw++([(ac.mk 6 ([]:Bytes) TT)]),(ao.mk 0 0 ([]:Bytes))))
   else
    (dN n Mr TT 0 TT).bind λ Up =>
    if Up.2.2.Ar=0 then
     ck ((Tw.length+[Up.1].length)*32<=140737488355328) <|
     fZ n Mr m (Tw++[Up.1]) Up.2.1
    else
     some (.inr ([],Up.2.2))
 else
  some (.inl at24)
def mw (n:Nat)(Mr:Bytes):Option ((List ac)×ao) :=
 if 65536 < (Mr.length:Int) then
  (gz 3 0).bind λ r2 =>
  some ([],r2)
 else
  jn (fZ n Mr n [] 0) λ at44 =>
  (gz 2 at44).bind λ V4 =>
  some ([],V4)
instance Ll (n:Nat) (Mr:Bytes):∀ (r:(List ac)×ao),HP (mw n Mr=some r) Tryz.prog 27 [eS Mr] (.tuple [.p (eL aG r.1),.p (.agg (ao.cs r.2))]):=by
 refine hP good Tryz.func27 Z Z λ r h0 _ w0=>?_;unfold mw at h0;refine nx 9 Z (oLs Z (nx 2 Z (fD [11] h0 Z (λ c1 h0=>?_) λ c1 h0=>?_)))
 ·exact J0
 refine nx 12 rfl ?_;obtain ⟨YK,h1,TC,hR0⟩:=br h0;refine kEx 0 (λ WW:Int=>YK=.inl WW) (λ WW=>⟨[(3,.ptr 3 0),(5,.p (eI WW))],[(3,fE)]⟩) (λ WW hv=>?_) ?_
 ·exact fO
 refine lG (λ (T9:(List ac)×Int)=>⟨[(0,.p (eS Mr)),(3,.ptr 3 0),(4,.vec 61 3 0 (T9.1.map aG)),(5,.p (eI T9.2))],[(3,fE)]⟩) (λ m (T9:(List ac)×Int)=>fZ n Mr m T9.1 T9.2) Y ([],0) h1 (dX (lq ⟨er rfl,er rfl,⟨_,rfl,AV.sub_nilvec _ _ _⟩,er rfl,trivial⟩ ⟨⟨_,rfl,⟨sr,sr,sr,trivial⟩⟩,trivial⟩)) ?_;rintro m ⟨Tw,at24⟩ h1;replace h1:fZ n Mr (m+1) Tw at24=some YK:=h1;rw [fZ] at h1;refine nx 5 rfl (oLs rfl (nx 2 rfl (fD [16] h1 rfl (λ c25 h1=>?_) λ c25 h1=>?_)))
 ·refine nx 7 Z (K1 λ TT h1=>nx 4 Z (bd h1 λ X5 h2 h1=>kN X5 (λ v53=>⟨[(0,.p (eS Mr)),(3,.ptr 3 0),(4,.vec 61 3 0 (Tw.map aG)),(5,.p (eI TT)),(33,.p (eB v53))],[(3,fE)]⟩) ?_ ?_))
  ·refine nx 1 Z (fB [33] h1 Z (λ ZD h1=>?_) λ ZD h1=>?_)
   ·exact ay
   refine nx 7 Z (oLs Z (nx 2 Z (fD [39] h1 Z (λ XV h1=>?_) λ XV h1=>?_)))
   ·refine nx 6 Z (mO Z (aH aG [(ac.mk 6 ([]:Bytes) TT)] Z Z Z Z Z Z Z Z Z Z Z Z Z uO ?_));refine cc' h1 λ Wy h1=>mO Z (dZ aG Tw ([(ac.mk 6 ([]:Bytes) TT)]) Z Z Z Z Z Z Z Z Z Z Z Z Z (λ x=>congrArg List.length (ac.It x)) Z Z Z Z Wy ?_);exact ay
   refine nx 7 Z (K1 λ Up h1=>nx 17 Z (fN [56] h1 Z (λ ZC h1=>?_) λ ZC h1=>?_))
   ·refine nx 6 Z (mO Z (aH aG [Up.1] Z Z Z Z Z Z Z Z Z Z Z Z Z uO ?_));refine cc' h1 λ VE h1=>mO Z (dZ aG Tw [Up.1] Z Z Z Z Z Z Z Z Z Z Z Z Z (λ x=>congrArg List.length (ac.It x)) Z Z Z Z VE ?_);exact ay
   exact ay
  exact bV
 exact ay
def jc (S5:Int):Option Bool :=
 (
   if 97<=S5 then
    if S5<=122 then
     some true
    else
     if 65<=S5 then
      if S5<=90 then
       some true
      else
       some (decide (S5=95))
     else
      some (decide (S5=95))
   else
    if 65<=S5 then
     if S5<=90 then
      some true
     else
      some (decide (S5=95))
    else
     some (decide (S5=95))
  ).bind λ t7 =>
 some t7
instance Fp (S5:Int):∀ (r:Bool),HP (jc S5=some r) Tryz.prog 155 [eK .u8 S5] (.p (eB r)):=by
 refine hP good Tryz.func155 Z Z λ r h0 _ w0=>?_;unfold jc at h0;exact jZ
def cJ (Mr:Bytes):Nat->Int->Option (Unit⊕Bool)
 | 0,_=>none
 | m+1,i20 =>
 if i20 < (Mr.length:Int) then
  (
    ck ((0:Int)<=i20/\i20 < (Mr.length:Int)) <|
    (jc (byt Mr i20)).bind λ Ts =>
    if (!Ts)=true then
     ck ((0:Int)<=i20/\i20 < (Mr.length:Int)) <|
     if byt Mr i20 < 48 then
      some true
     else
      ck ((0:Int)<=i20/\i20 < (Mr.length:Int)) <|
      some (decide (57 < byt Mr i20))
    else
     some false
   ).bind λ Z6 =>
  if Z6=true then
   some (.inr false)
  else
   ck (inR (i20+1)) <|
   cJ Mr m (i20+1)
 else
  some (.inl ())
def gg (n:Nat)(Mr:Bytes):Option Bool :=
 (
   if Mr=([]:Bytes) then
    some true
   else
    if 64 < (Mr.length:Int) then
     some true
    else
     ck ((0:Int)<=0/\0 < (Mr.length:Int)) <|
     (jc (byt Mr 0)).bind λ r4 =>
     some (!r4)
  ).bind λ t6 =>
 if t6=true then
  some false
 else
  jn (cJ Mr n 0) λ _q34 =>
  some true
instance zT (n:Nat) (Mr:Bytes):∀ (r:Bool),HP (gg n Mr=some r) Tryz.prog 118 [eS Mr] (.p (eB r)):=by
 refine hP good Tryz.func118 Z Z λ r h0 _ w0=>?_;unfold gg at h0;refine nx 6 Z (bd h0 λ o36 h1 h0=>kN o36 (λ v37=>⟨[(0,.p (eS Mr)),(16,.p (eB v37))],[]⟩) ?_ ?_)
 ·refine nx 1 Z (fB [16] h0 Z (λ c7 h0=>?_) λ c7 h0=>?_)
  ·exact J0
  refine nx 8 rfl ?_;obtain ⟨o38,h1,TC,hR0⟩:=br h0;refine kEx 0 (λ v39:Unit=>o38=.inl v39) (λ v39=>⟨[],[]⟩) (λ v39 hv=>?_) ?_
  ·exact fO
  refine lG (λ (Yk:Int)=>⟨[(0,.p (eS Mr)),(3,.p (eI Yk))],[]⟩) (λ m (Yk:Int)=>cJ Mr m Yk) Y 0 h1 (gE rfl rfl) ?_;rintro m i20 h1;replace h1:cJ Mr (m+1) i20=some o38:=h1;rw [cJ] at h1;have:=js [600];have:=jS 600 Bool λ v=>[(39,.p (eB v))]
  exact ay
 exact ay
end Go.Ab.R06
end
section
namespace Go.Ab.R06
open Go.Ab Go.Ab.RB Go.Lib
section
variable {p:Prop}
theorem Jz (h:p:=by
 simp only [n6,decide_eq_true_eq] at w;have hw:=hlt1 1 O rfl;refine av (λ a=>ag (bv O O) (ag hw (av (λ b=>aa ?_) (λ b=>av (λ d=>ag (bv O O) (ag hw (aa ?_))) (λ d=>aa ?_))))) (λ a=>ae rfl (av (λ d=>ag (bv O O) (ag hw (aa ?_))) (λ d=>aa ?_)))
 ·symm; rw [decide_eq_false_iff_not]; omega
 ·omega
 ·symm; show _=true; rw [decide_eq_true_eq]; exact ⟨by omega,⟨by omega,w.2.1,w.2.2⟩,by omega,by omega⟩
 ·refine eqB ?_; rw [Bool.not_eq_true',decide_eq_false_iff_not,decide_eq_true_eq]; exact ⟨λ v=>⟨by omega,⟨by omega,w.2.1,w.2.2⟩,by omega,by omega⟩,λ v=>by omega⟩
 ·symm; show _=true; rw [decide_eq_true_eq]; exact ⟨by omega,⟨by omega,w.2.1,w.2.2⟩,by omega,by omega⟩):p:=h
theorem Cs (h:p:=by
 exact aj false (af (by unfold pz; simp) (aa Z)) (af G (aa Z))):p:=h
end
theorem Gz (e a:Int):gz e a=some (ao.mk e a []):=rfl
theorem u9 (b:UInt8):Ev2 (λ _ _=>iu (b.toNat:Int)) (·=jg b):=by
 have h:=mC b;have hc:∀ x:Bool,(x=true↔(97<=b.toNat/\b.toNat<=122)\/(65<=b.toNat/\b.toNat<=90)\/b.toNat=95)->x=jg b:=λ x hx=>eqB (hx.trans h.symm);unfold iu;refine aj (jg b) (av (λ h1=>aa (hc _ ?_)) (λ h1=>av (λ h2=>av (λ h3=>aa (hc _ ?_)) (λ h3=>av (λ h4=>aa (hc _ ?_)) (λ h4=>aa (hc _ ?_)))) (λ h2=>av (λ h4=>aa (hc _ ?_)) (λ h4=>aa (hc _ ?_))))) (aa Z)
 all_goals (simp only [decide_eq_true_eq,true_iff,Bool.false_eq_true,false_iff]; omega)
theorem w7 (b:UInt8):Ev2 (λ _ _=>iR (b.toNat:Int)) (·=d3 b):=by
 have h:=jq b;have hc:∀ x:Bool,(x=true↔48<=b.toNat/\b.toNat<=57)->x=d3 b:=λ x hx=>eqB (hx.trans h.symm);unfold iR;refine aj (d3 b) (av (λ h1=>aa (hc _ ?_)) (λ h1=>aa (hc _ ?_))) (aa Z)
 all_goals (simp only [decide_eq_true_eq,Bool.false_eq_true,false_iff]; omega)
theorem wn (s:Bytes)(hs:s.length<=1000000000):∀ (l:Bytes),l <:+ s->Ev2 (λ _ m=>dB s m (pz s l)) (·=pz s (l.dropWhile ia))
 | [],_=>by
  refine aw ?_;simp only [dB];exact Cs
 | b::r,h=>by
  have S':=iJ h;refine aw ?_;simp only [dB,gH h];refine aj (ia b) (ae S'.2 (ag S' (av (λ q=>aa ?_) (λ q=>ag S' (av (λ q2=>aa ?_) (λ q2=>ag S' (aa ?_))))))) ?_
  ·symm; unfold ia; rw [decide_eq_true (show b.toNat=32 by omega)]; rfl
  ·symm; unfold ia; rw [decide_eq_true (show b.toNat=9 by omega)]; simp
  ·refine eqB ?_;simp only [ia,Bool.or_eq_true,decide_eq_true_eq]; omega
  ·cases hb:ia b
   ·rw [List.dropWhile_cons_of_neg qD];exact rJ
   ·rw [List.dropWhile_cons_of_pos hb];refine ae rfl (ag aB ?_);rw [<- show pz s r=pz s (b::r)+1 from jQ];exact wn s hs r (ee h)
theorem yu (s l:Bytes)(hs:s.length<=1000000000)(h:l <:+ s):Ev2 (λ n _=>iZ n s (pz s l)) (·=pz s (l.dropWhile ia)):=by
 simp only [iZ];exact aj _ (aO (f:=λ _ m=>dB s m (pz s l)) (wn s hs l h)) (aa rfl)
theorem yW (l:Bytes):fF false l=l.dropWhile ia:=by
 unfold fF
 cases l.dropWhile ia <;> rfl
theorem yV (s:Bytes)(hs:s.length<=1000000000):∀ (l:Bytes),l <:+ s->Ev2 (λ _ m=>fb s m (pz s l)) (·=pz s (l.dropWhile (λ x=>!decide (x=10))))
 | [],_=>by
  refine aw ?_;simp only [fb];exact Cs
 | b::r,h=>by
  have S':=iJ h;have hb10:b=10↔b.toNat=10:=⟨λ q=>by rw [q]; rfl,λ q=>UInt8.toNat_inj.1 q⟩
  refine aw ?_;simp only [fb,gH h];refine aj (!decide (b=10)) (ae S'.2 (ag S' (aa ?_))) ?_
  ·congr 1; refine eqB ?_; rw [decide_eq_true_eq,decide_eq_true_eq,hb10]; omega
  ·by_cases hb:b=10
   ·rw [List.dropWhile_cons_of_neg qD];exact af qD (aa rfl)
   ·rw [List.dropWhile_cons_of_pos qD];refine ae qD (ag aB ?_);rw [<- show pz s r=pz s (b::r)+1 from jQ];exact yV s hs r (ee h)
theorem Pt (s l:Bytes)(hs:s.length<=1000000000)(h:l <:+ s):Ev2 (λ n _=>mF n s (pz s l)) (·=pz s (fF true l)):=by
 simp only [mF];refine aj _ (yu s l hs h) ?_;have h1:=(lu (p:=ia) l).trans h;unfold fF;generalize l.dropWhile ia=l1 at h1 ⊢
 cases l1 with
 | nil=>exact aj _ (aj false (af (by unfold pz; simp) (aa Z)) (af G (aa Z))) (aa Z)
 | cons b r =>
  have S':=iJ h1;simp only [gH h1,Bool.true_and];refine aj (pz s (if decide (b.toNat=35)=true then (b::r).dropWhile (λ x=>!decide (x=10)) else b::r)) (aj (decide (b.toNat=35)) (ae S'.2 (ag S' (aa ?_))) ?_) (aa Z)
  ·refine eqB ?_; rw [decide_eq_true_eq,decide_eq_true_eq]; omega
  ·by_cases hb:b.toNat=35
   ·rw [if_pos qq];exact ae qq (aj _ (aO (f:=λ _ m=>fb s m (pz s (b::r))) (yV s hs _ h1)) (aa rfl))
   ·rw [if_neg qq];exact af qq (aa rfl)
theorem yS (l t:Bytes):(decide (t.length<=l.length)&&decide (l.take t.length=t))=hasPrefix l t:=by
 have:=hasPrefix_of_take l t;rw [<- this];congr 1;exact (Bool.beq_eq_decide_eq _ _).symm
theorem tS {s l:Bytes}(h:l <:+ s){k:Nat}(hk:k<=l.length):sub s (pz s l) (pz s l+(k:Int))=l.take k:=by
 rw [<- lH hk,pK h (List.drop_suffix _ _),ld];congr 1; omega
theorem zd (s l:Bytes)(hs:s.length<=1000000000)(h:l <:+ s):∀ (j k:Nat),k+j=7->Ev2 (λ _ m=>eW s (pz s l) m (k:Int)) (·=match (oq.drop k).find? (λ t=>hasPrefix l t) with | some t=>.inr t | none=>.inl ())
 | 0,k,hk=>by
  have:k=7:=by omega
  subst this;refine aw ?_;simp only [eW];exact rJ
 | j+1,k,hk=>by
  have WU:k < oq.length:=by show k < 7; omega
  have hge:=ua h;have hle:=h.length_le;have hpl:pz s l+(l.length:Int)=s.length:=by unfold pz; omega
  refine aw ?_;simp only [eW];have e:lat ([([61,62]:Bytes),([61,61]:Bytes),([33,61]:Bytes),([60,61]:Bytes),([62,61]:Bytes),([38,38]:Bytes),([124,124]:Bytes)]) (k:Int)=oq[k]:=mW oq k WU;have e7:([([61,62]:Bytes),([61,61]:Bytes),([33,61]:Bytes),([60,61]:Bytes),([62,61]:Bytes),([38,38]:Bytes),([124,124]:Bytes)]).length=7:=rfl
  have t2:(oq[k]).length=2:=by
   have:=py.1 (show oq.all (λ t=>t.length == 2)=true from rfl) _ (List.getElem_mem WU);exact eq_of_beq this
  simp only [e7,e];rw [List.drop_eq_getElem_cons WU,List.find?_cons];have hp:=yS l oq[k];rw [t2] at hp;refine ae O (aj (hasPrefix l oq[k]) (ag aB (av (λ q=>ag aB (ag ⟨hge,by omega,by omega⟩ (ag O (aa ?_)))) (λ q=>aa ?_))) ?_)
  ·have h2:sub s (pz s l) (pz s l+2)=l.take 2:=tS h (k:=2) O;rw [<- hp,decide_eq_true (show 2<=l.length by omega),Bool.true_and];refine eqB ?_;rw [decide_eq_true_eq,decide_eq_true_eq,h2]
  ·rw [<- hp,decide_eq_false (show ¬ 2<=l.length by omega),Bool.false_and]
  ·cases hq:hasPrefix l oq[k]
   ·exact af G (ag aB (zd s l hs h j (k+1) O))
   ·exact ae Z (ag O (aa Z))
theorem index_drop {p:Bytes}{c:UInt8}{k:Nat}(hk:k < p.length)(Tc:p[k]≠c):(indexByte (p.drop k) c < 0↔indexByte (p.drop (k+1)) c < 0):=by
 rw [List.drop_eq_getElem_cons hk]
 conv=>lhs; unfold indexByte
 have hge:=indexByte_ge (p.drop (k+1)) c;rw [if_neg (by simpa using Tc)];by_cases q:indexByte (p.drop (k+1)) c=-1
 ·rw [if_pos (by simpa using q)]; omega
 ·rw [if_neg (by simpa using q)]; omega
theorem yr (s:Bytes)(hs:s.length<=1000000000){b:UInt8}{r:Bytes}(h:(b::r) <:+ s):∀ (j k:Nat),k+j=19->Ev2 (λ _ m=>eV s (pz s (b::r)) m (k:Int)) (·=if indexByte (mH.drop k) b < 0 then .inl () else .inr [b])
 | 0,k,hk=>by
  have:k=19:=by omega
  subst this;refine aw ?_;simp only [eV];exact rJ
 | j+1,k,hk=>by
  have WU:k < mH.length:=by show k < 19; omega
  have S':=iJ h;refine aw ?_;simp only [eV,gH h]
  have e:byt ([123,125,91,93,40,41,44,61,60,62,43,45,42,47,37,33,63,58,46]:Bytes) (k:Int)=((mH[k]).toNat:Int):=by
   rw [cD];exact congrArg (λ x:UInt8=>(x.toNat:Int)) (by rw [List.getD_eq_getElem?_getD]; show (mH[k]?).getD 0=_; rw [List.getElem?_eq_getElem WU]; rfl)
  have e19:([123,125,91,93,40,41,44,61,60,62,43,45,42,47,37,33,63,58,46]:Bytes).length=19:=rfl;simp only [e19,e];refine ae O (ag S' (ag O ?_));by_cases hb:mH[k]=b
  ·have hx:¬ indexByte (mH.drop k) b < 0:=by
    rw [List.drop_eq_getElem_cons WU];unfold indexByte;rw [if_pos qq]; omega
   rw [if_neg hx];refine ae (by rw [hb]) (ag aB (ag ⟨S'.1,by omega,by omega⟩ (aa ?_)));have:=tS h (k:=1) G;exact congrArg Sum.inr this
  ·have hiff:=index_drop WU hb
   have e2:(if indexByte (mH.drop k) b < 0 then Sum.inl () else Sum.inr [b]:Unit⊕Bytes)=if indexByte (mH.drop (k+1)) b < 0 then Sum.inl () else Sum.inr [b]:=by
    by_cases q:indexByte (mH.drop (k+1)) b < 0
    ·rw [if_pos q,if_pos (hiff.2 q)]
    ·rw [if_neg q,if_neg (λ w=>q (hiff.1 w))]
   rw [e2];refine af (λ q=>hb (UInt8.toNat_inj.1 O)) (ag aB ?_);exact yr s hs h j (k+1) O
theorem Jr (s:Bytes)(hs:s.length<=1000000000){b:UInt8}{r:Bytes}(h:(b::r) <:+ s):Ev2 (λ n _=>kr n s (pz s (b::r))) (·=iD (b::r)):=by
 simp only [kr];refine cm (aQ (aO (f:=λ _ m=>eW s (pz s (b::r)) m 0) (zd s (b::r) hs h 7 0 rfl)) λ x hx=>?_);subst hx;unfold iD;rw [List.drop_zero]
 cases oq.find? (λ t=>hasPrefix (b::r) t) with
 | some t=>rfl
 | none =>
  refine cm (aQ (aO (f:=λ _ m=>eV s (pz s (b::r)) m 0) (yr s hs h 19 0 Z)) λ x hx=>?_);subst hx;rw [List.drop_zero];simp only [rz];by_cases hn:indexByte mH b < 0
  ·rw [if_pos hn,if_pos hn]; exact aa rfl
  ·rw [if_neg hn,if_neg hn]
theorem Kh (s:Bytes)(hs:s.length<=1000000000){b:UInt8}{r:Bytes}(h:(b::r) <:+ s):Ev2 (λ n _=>ka n s (pz s (b::r))) (·=jd (b::r)):=by
 have S':=iJ h;simp only [ka,gH h];rw [jV];refine aj _ (ag S' (aj _ (u9 b) ?_)) (aa Z)
 cases jg b
 ·refine af G (ag S' (aj _ (w7 b) ?_))
  cases d3 b
  ·refine af G (ag S' (av (λ q=>aa ?_) (λ q=>ag S' (av (λ q2=>aa ?_) (λ q2=>aj _ (Jr s hs h) (aa ?_))))))
   ·rw [decide_eq_true (show b.toNat=34 by omega)]; rfl
   ·rw [decide_eq_true (show b.toNat=10 by omega)]; simp
   ·rw [decide_eq_false (show ¬ b.toNat=34 by omega),decide_eq_false (show ¬ b.toNat=10 by omega)]
    cases iD (b::r) <;> simp
  ·exact ru
 ·exact ru
theorem Dt (s:Bytes)(hs:s.length<=1000000000)(c:Bool)(p:UInt8->Bool)(hp:∀ x,p x=(d3 x||(c&&jg x))):∀ (l:Bytes),l <:+ s->Ev2 (λ _ m=>fM s c m (pz s l)) (·=pz s (l.dropWhile p))
 | [],_=>by
  refine aw ?_;simp only [fM];exact Cs
 | b::r,h=>by
  have S':=iJ h;refine aw ?_;simp only [fM,gH h];refine aj (p b) (ae S'.2 (ag S' (aj _ (w7 b) ?_))) ?_
  ·rw [hp b]
   cases d3 b
   ·refine af G ?_
    cases c
    ·exact rJ
    ·exact ae Z (ag S' (aj _ (u9 b) (aa G)))
   ·exact ru
  ·cases hb:p b
   ·rw [List.dropWhile_cons_of_neg qD];exact rJ
   ·rw [List.dropWhile_cons_of_pos hb];refine ae rfl (ag aB ?_);rw [<- show pz s r=pz s (b::r)+1 from jQ];exact Dt s hs c p hp r (ee h)
theorem Nt (s l:Bytes)(hs:s.length<=1000000000)(h:l <:+ s)(c:Bool)(p:UInt8->Bool)(hp:∀ x,p x=(d3 x||(c&&jg x))):Ev2 (λ n _=>lR n s (pz s l) c) (·=pz s (l.dropWhile p)):=by
 simp only [lR];exact aj _ (aO (f:=λ _ m=>fM s c m (pz s l)) (Dt s hs c p hp l h)) (aa rfl)
def gO (b:Nat):Bool:=decide (128<=b)&&decide (b<=191)
def tV (n b0 b1 b2 b3:Nat):Nat :=
 if b0 < 128 then 1
 else if (194<=b0/\b0<=223)/\2<=n/\gO b1=true then 2
 else if (224<=b0/\b0<=239)/\(3<=n/\gO b1=true/\gO b2=true)/\¬ (b0=224/\b1 < 160)/\¬ (b0=237/\159 < b1) then 3
 else if (240<=b0/\b0<=244)/\(4<=n/\gO b1=true/\gO b2=true/\gO b3=true)/\¬ (b0=240/\b1 < 144)/\¬ (b0=244/\143 < b1) then 4
 else 0
theorem tZ (b:Nat)(h:b < 256):gO b=true↔b / 64=2:=by
 simp only [gO,n6,decide_eq_true_eq]; omega
theorem Eq (n b0 b1 b2 b3:Nat)(h0:b0 < 256)(h1:b1 < 256)(h2:b2 < 256)(h3:b3 < 256)(_hn:1<=n) :
  (jx (decodeN n b0 b1 b2 b3)↔tV n b0 b1 b2 b3=0\/b0 < 32\/b0=127)/\(¬ jx (decodeN n b0 b1 b2 b3)->(decodeN n b0 b1 b2 b3).2=tV n b0 b1 b2 b3):=by
 unfold tV;simp only [tZ _ h1,tZ _ h2,tZ _ h3];unfold jx decodeN
 repeat' split
 all_goals (refine ⟨?_,?_⟩ <;> dsimp only <;> omega)
def cAt (s:Bytes)(i:Nat):Bool:=gO (s.getD i 0).toNat
theorem y4 (s:Bytes)(hs:s.length<=1000000000)(e:Nat)(ht:e<=s.length):∀ (j i:Nat),i+j=e->Ev2 (λ _ m=>fc s (e:Int) m (i:Int)) (·=if kq (cAt s) i j=true then .inl () else .inr false)
 | 0,i,hi=>by
  refine aw ?_;simp only [fc];exact ut
 | j+1,i,hi=>by
  have hb:byt s (i:Int)=((s.getD i 0).toNat:Int):=cD s i;refine aw ?_;simp only [fc,hb];refine ae O (aj (!cAt s i) (ag O (av (λ q=>aa ?_) (λ q=>ag O (aa ?_)))) ?_)
  ·have:cAt s i=false:=by
    unfold cAt gO; rw [decide_eq_false (show ¬ 128<=(s.getD i 0).toNat by omega),Bool.false_and]
   rw [this]; rfl
  ·unfold cAt gO;rw [decide_eq_true (show 128<=(s.getD i 0).toNat by omega),Bool.true_and];refine eqB ?_;rw [decide_eq_true_eq,Bool.not_eq_true',decide_eq_false_iff_not]; omega
  ·rw [show kq (cAt s) i (j+1)=(cAt s i&&kq (cAt s) (i+1) j) from rfl]
   cases cAt s i
   ·exact ru
   ·refine af G (ag aB ?_);rw [Bool.true_and];exact y4 s hs e ht j (i+1) O
theorem Cq (s:Bytes)(hs:s.length<=1000000000)(i j:Nat){a b:Int}(ha:a=(i:Int))(hb:b=((i+j:Nat):Int)):Ev2 (λ n _=>jy n s a b) (·=(decide (i+j<=s.length)&&kq (cAt s) i j)):=by
 subst ha hb;simp only [jy];by_cases h:i+j<=s.length
 ·rw [decide_eq_true h,Bool.true_and];refine af O (cm (aQ (aO (f:=λ _ m=>fc s ((i+j:Nat):Int) m (i:Int)) (y4 s hs (i+j) h j i rfl)) λ x hx=>?_));subst hx
  cases kq (cAt s) i j
  ·rfl
  ·exact aa Z
 ·rw [decide_eq_false h,Bool.false_and];exact sd
theorem Ix {s l:Bytes}(h:l <:+ s)(j:Nat):s.getD (s.length - l.length+j) 0=l.getD j 0:=by
 have h1:=rk h;rw [List.getD_eq_getElem?_getD,List.getD_eq_getElem?_getD,<- h1,List.getElem?_drop,h1]
def wid (l:Bytes):Nat:=tV l.length (l.getD 0 0).toNat (l.getD 1 0).toNat (l.getD 2 0).toNat (l.getD 3 0).toNat
theorem Md {l:Bytes}(h:l≠[]):(jx (decodeL l)↔wid l=0\/(l.getD 0 0).toNat < 32\/(l.getD 0 0).toNat=127)/\(¬ jx (decodeL l)->(decodeL l).2=wid l):=by
 have hl:0 < l.length:=List.length_pos_iff.2 h;rw [decodeL_N];exact Eq l.length _ _ _ _ (UInt8.toNat_lt _) (UInt8.toNat_lt _) (UInt8.toNat_lt _) (UInt8.toNat_lt _) O
theorem LM (s:Bytes)(hs:s.length<=1000000000){c:UInt8}{t:Bytes}(h:(c::t) <:+ s):Ev2 (λ n _=>kY n s (pz s (c::t))) (·=(wid (c::t):Int)):=by
 have S':=iJ h;have hle:=h.length_le;have hN:=tT h;obtain ⟨i,hi⟩:∃ i,i=s.length - (c::t).length:=⟨_,rfl⟩
 rw [<- hi] at hN;have hil:i+(c::t).length=s.length:=by omega
 have hg:∀ j,s.getD (i+j) 0=(c::t).getD j 0:=λ j=>by rw [hi]; exact Ix h j
 have e0:(c::t).getD 0 0=c:=rfl;have e1:byt s (pz s (c::t)+1)=(((c::t).getD 1 0).toNat:Int):=by rw [hN,<- hg 1]; exact cD s (i+1)
 have c1:cAt s (i+1)=gO ((c::t).getD 1 0).toNat:=by unfold cAt; rw [hg 1]
 have c2:cAt s (i+2)=gO ((c::t).getD 2 0).toNat:=by unfold cAt; rw [hg 2]
 have c3:cAt s (i+3)=gO ((c::t).getD 3 0).toNat:=by unfold cAt; rw [hg 3]
 have T1:=Cq s hs (i+1) 1 (a:=pz s (c::t)+1) (b:=pz s (c::t)+2) O O;have T2:=Cq s hs (i+1) 2 (a:=pz s (c::t)+1) (b:=pz s (c::t)+3) O O;have T3:=Cq s hs (i+1) 3 (a:=pz s (c::t)+1) (b:=pz s (c::t)+4) O O;rw [show kq (cAt s) (i+1) 1=(cAt s (i+1)&&true) from rfl] at T1;rw [show kq (cAt s) (i+1) 2=(cAt s (i+1)&&(cAt s (i+2)&&true)) from rfl] at T2;rw [show kq (cAt s) (i+1) 3=(cAt s (i+1)&&(cAt s (i+2)&&(cAt s (i+3)&&true))) from rfl] at T3;rw [c1,Bool.and_true] at T1;rw [c1,c2,Bool.and_true] at T2;rw [c1,c2,c3,Bool.and_true] at T3;have hb1:=UInt8.toNat_lt ((c::t).getD 1 0);have hn2:(i+1+1<=s.length)↔2<=(c::t).length:=by omega
 have hn3:(i+1+2<=s.length)↔3<=(c::t).length:=by omega
 have hn4:(i+1+3<=s.length)↔4<=(c::t).length:=by omega
 have hc1:gO ((c::t).getD 1 0).toNat=true->128<=((c::t).getD 1 0).toNat:=λ q=>by simp only [gO,n6,decide_eq_true_eq] at q; omega
 have hlt1:∀ k,k+1<=(c::t).length->k=1->(0:Int)<=pz s (c::t)+1/\pz s (c::t)+1 < (s.length:Int):=λ k hk e=>by omega
 unfold wid;rw [e0];generalize (c::t).getD 1 0=x1 at *;generalize (c::t).getD 2 0=x2 at *;generalize (c::t).getD 3 0=x3 at *;generalize (c::t).length=n at *;simp only [kY,gH h,e1];unfold tV;refine ag S' ?_;by_cases q0:c.toNat < 128
 ·rw [if_pos q0];exact sd
 rw [if_neg q0];refine af O (aj (decide ((194<=c.toNat/\c.toNat<=223)/\2<=n/\gO x1.toNat=true)) (av (λ q=>av (λ q'=>ag aB (ag aB (aj _ T1 (aa ?_)))) (λ q'=>aa ?_)) (λ q=>aa ?_)) ?_)
 ·refine eqB ?_; simp only [n6,decide_eq_true_eq]; rw [hn2]; exact ⟨λ w=>⟨by omega,w⟩,λ w=>w.2⟩
 ·symm; rw [decide_eq_false_iff_not]; omega
 ·symm; rw [decide_eq_false_iff_not]; omega
 by_cases q1:(194<=c.toNat/\c.toNat<=223)/\2<=n/\gO x1.toNat=true
 ·rw [if_pos q1];exact ae (decide_eq_true q1) (aa rfl)
 rw [if_neg q1]
 refine af (λ w=>q1 (of_decide_eq_true w)) (aj (decide ((224<=c.toNat/\c.toNat<=239)/\(3<=n/\gO x1.toNat=true/\gO x2.toNat=true)/\¬ (c.toNat=224/\x1.toNat < 160)/\¬ (c.toNat=237/\159 < x1.toNat)))
  (av (λ q=>av (λ q'=>ag aB (ag aB (aj _ T2 (av (λ w=>?_) (λ w=>aa ?_))))) (λ q'=>aa ?_)) (λ q=>aa ?_)) ?_)
 ·exact Jz
 ·symm; rw [decide_eq_false_iff_not]; intro v; refine w ?_; simp only [n6,decide_eq_true_eq]; exact ⟨by omega,v.2.1.2.1,v.2.1.2.2⟩
 ·symm; rw [decide_eq_false_iff_not]; omega
 ·symm; rw [decide_eq_false_iff_not]; omega
 by_cases q2:(224<=c.toNat/\c.toNat<=239)/\(3<=n/\gO x1.toNat=true/\gO x2.toNat=true)/\¬ (c.toNat=224/\x1.toNat < 160)/\¬ (c.toNat=237/\159 < x1.toNat)
 ·rw [if_pos q2];exact ae (decide_eq_true q2) (aa rfl)
 rw [if_neg q2]
 refine af (λ w=>q2 (of_decide_eq_true w)) (aj (decide ((240<=c.toNat/\c.toNat<=244)/\(4<=n/\gO x1.toNat=true/\gO x2.toNat=true/\gO x3.toNat=true)/\¬ (c.toNat=240/\x1.toNat < 144)/\¬ (c.toNat=244/\143 < x1.toNat)))
  (av (λ q=>av (λ q'=>ag aB (ag aB (aj _ T3 (av (λ w=>?_) (λ w=>aa ?_))))) (λ q'=>aa ?_)) (λ q=>aa ?_)) ?_)
 ·exact Jz
 ·symm; rw [decide_eq_false_iff_not]; intro v; refine w ?_; simp only [n6,decide_eq_true_eq]; exact ⟨by omega,v.2.1.2.1,v.2.1.2.2.1,v.2.1.2.2.2⟩
 ·symm; rw [decide_eq_false_iff_not]; omega
 ·symm; rw [decide_eq_false_iff_not]; omega
 by_cases q3:(240<=c.toNat/\c.toNat<=244)/\(4<=n/\gO x1.toNat=true/\gO x2.toNat=true/\gO x3.toNat=true)/\¬ (c.toNat=240/\x1.toNat < 144)/\¬ (c.toNat=244/\143 < x1.toNat)
 ·rw [if_pos q3];exact ae (decide_eq_true q3) (aa rfl)
 rw [if_neg q3];exact af (λ w=>q3 (of_decide_eq_true w)) (aa rfl)
end Go.Ab.R06
end
section
namespace Go.Ab.R06
open Go.Ab Go.Ab.RB Go.Lib
section
variable {p:Prop}
theorem Ka (h:p:=by
 cases x with
 | inl x =>
  have hx:q=.inl (40,none):=hx;subst hx;exact aj _ (ax (Gz _ _) Z) (aa ⟨Z,by show (40:Int)≠0; decide⟩)
 | inr y=>exact hx):p:=h
theorem FP (h:p:=by
 rw [if_pos hc]
 exact ae (decide_eq_true hc) (aj _ (ax (Gz _ _) Z) (aa Z))):p:=h
theorem uR (h:p:=by exact ax (Gz _ _) Z):p:=h
end
theorem C6 {src:Bytes->SE⊕Bytes}{l:Bytes}(hs:∀ r e,src r=.inl e->e.1≠0){e:SE}(h:jY src l=.inl e):e.1≠0:=by
 cases l with
 | nil=>cases h; decide
 | cons b r =>
  rw [kB] at h;split at h
  ·split at h
   ·cases h; exact (by decide:(7:Int)≠0)
   ·cases h
  split at h
  ·cases h
  split at h
  ·cases h
  split at h
  ·split at h
   ·rename_i e' he; cases h; exact hs _ _ he
   ·cases h
  split at h
  ·cases h; exact (by decide:(2:Int)≠0)
  ·cases h
theorem wE:∀ (f k:Nat),(∀ l e,fA f k l=.inl e->e.1≠0)/\(∀ n l e,jl f k n l=.inl e->e.1≠0)
 | 0,k=>⟨λ l e h=>(by rw [fA] at h; cases h; decide),λ n l e h=>(by rw [jl] at h; cases h; decide)⟩
 | f+1,k=>by
  have ih:=wE f;constructor
  ·intro l e h
   cases l with
   | nil=>rw [fA] at h; cases h; decide
   | cons b r =>
    rw [nF] at h;split at h
    ·cases h
    split at h
    ·exact (ih k).1 _ _ h
    split at h
    ·split at h
     ·cases h; exact (by decide:(4:Int)≠0)
     ·split at h
      ·rename_i e' he; cases h; exact (ih (k+1)).2 _ _ _ he
      ·exact (ih k).1 _ _ h
    split at h
    ·cases h; decide
    ·split at h
     ·cases h; exact (by decide:(2:Int)≠0)
     ·exact (ih k).1 _ _ h
  ·intro n l e h;rw [nT] at h;generalize fF false l=l0 at h
   cases l0 with
   | nil=>cases h; decide
   | cons b r =>
    rw [nR] at h
    cases hq:jY (fA f k) (b::r) with
    | inl e'=>rw [hq] at h; cases h; exact C6 (ih k).1 hq
    | inr z =>
     obtain ⟨c,t,l'⟩:=z;rw [hq,oY] at h;split at h
     ·split at h
      ·cases h
      ·exact (ih k).2 _ _ _ h
     split at h
     ·exact (ih k).2 _ _ _ h
     ·exact (ih k).2 _ _ _ h
def okD:ao:=ao.mk 0 0 []
def Pb (s:Bytes)(o:Int)(q:SE⊕Bytes)(r:Int×ao):Prop:=match q with
 | .inl e=>r.2=rt s o e/\r.2.Ar≠0
 | .inr l=>r=(pz s l - 1,okD)
def InnR (s:Bytes)(o:Int)(q:SE⊕Bytes)(r:Int×ao):Prop:=match q with
 | .inl e=>r.2=rt s o e/\r.2.Ar≠0
 | .inr l=>r=(pz s l,okD)
def OneR (s l:Bytes)(o:Int)(q:SE⊕(Int×Bytes×Bytes))(r:ac×Int×ao):Prop:=match q with
 | .inl e=>r.2.2=rt s o e/\r.2.2.Ar≠0
 | .inr (c,t,l')=>r=(ac.mk c t (pz s l),pz s l',okD)
theorem Se (x:UInt8):idB x=(d3 x||(true&&jg x)):=by unfold idB; rw [Bool.true_and,Bool.or_comm]
theorem O8 (x:UInt8):d3 x=(d3 x||(false&&jg x)):=by simp
theorem Nw {s:Bytes}(hs:s.length<=1000000000){k:Nat}{q o:Int}{src:Bytes->SE⊕Bytes}{b:UInt8}{r:Bytes}(h:(b::r) <:+ s)(_hnz:∀ r e,src r=.inl e->e.1≠0)(hsuf:∀ l',src r=.inr l'->l' <:+ r/\l'.length < r.length)(ho:b.toNat=34->o=if k=0 then pz s (b::r) else q)
  (hsrc:b.toNat=34->Ev2 (λ n _=>ko n s (pz s r) (k:Int) o) (Pb s o (src r))) :
  Ev2 (λ n _=>dN n s (pz s (b::r)) (k:Int) q) (OneR s (b::r) o (jY src (b::r))):=by
 have S':=iJ h;have hle:=h.length_le;have hl2:=mC b;have hd2:=jq b;refine aP ?_;simp only [dN,gH h];rw [kB];refine ag S' ?_;by_cases h10:b.toNat=10
 ·rw [if_neg (show ¬ jg b=true by rw [hl2]; omega),if_neg (show ¬ d3 b=true by rw [hd2]; omega),if_pos h10];refine ae O (ag aB (aa ?_));exact AL
 refine af O (aj _ (u9 b) ?_);by_cases h2:jg b=true
 ·rw [if_pos h2];have hsf:=lu (p:=idB) (b::r);have hl':=hsf.length_le
  have hrun:pz s ((b::r).dropWhile idB) - pz s (b::r)=(((b::r).takeWhile idB).length:Int):=by
   rw [<- tz,List.length_take]; unfold pz; omega
  refine ae h2 (aj _ (Nt s (b::r) hs h true idB Se) (ag (bv (by rw [hrun]; omega) (by rw [hrun]; have:=(List.takeWhile_prefix (p:=idB) (l:=b::r)).length_le; omega)) ?_));by_cases h64:64 < ((b::r).takeWhile idB).length
  ·rw [if_pos h64];exact ae (by rw [hrun]; omega) (aj _ uR (aa ⟨rfl,by show (7:Int)≠0; decide⟩))
  ·rw [if_neg h64];refine af (by rw [hrun]; omega) (ag ⟨S'.1,by omega,qc⟩ (aa ?_));show _=_;rw [pK h hsf,tz]; rfl
 rw [if_neg h2];refine af h2 (aj _ (w7 b) ?_);by_cases h3:d3 b=true
 ·rw [if_pos h3];have hsf:=lu (p:=d3) (b::r);have hl':=hsf.length_le;refine ae h3 (aj _ (Nt s (b::r) hs h false d3 O8) (ag ⟨S'.1,by unfold pz; omega,qc⟩ (aa ?_)));show _=_;rw [pK h hsf,tz]; rfl
 rw [if_neg h3,if_neg h10];refine af h3 ?_;by_cases h34:b.toNat=34
 ·rw [if_pos h34];refine ae O (aj o (av (λ z=>aa ?_) (λ z=>aa ?_)) (ag aB ?_))
  ·rw [ho h34,if_pos O]
  ·rw [ho h34,if_neg O]
  rw [<- show pz s r=pz s (b::r)+1 from jQ];refine ah _ (hsrc h34) λ x hx=>?_
  cases hq:src r with
  | inl e =>
   rw [hq] at hx;exact af hx.2 (aa hx)
  | inr l' =>
   rw [hq] at hx;have hx:x=(pz s l' - 1,okD):=hx;subst hx;obtain ⟨g1,g2⟩:=hsuf l' hq;have hl's:=g1.trans (ee h);have hrl:=(ee h).length_le;have hd:r.drop (r.length - (l'.length+1)) <:+ r:=List.drop_suffix _ _;have hdl:(r.drop (r.length - (l'.length+1))).length=l'.length+1:=by rw [ld]; omega
   have e3:pz s l' - 1=pz s (r.drop (r.length - (l'.length+1))):=by unfold pz; rw [hdl]; omega
   have hge:=ua (ee h);have hle2:pz s r<=s.length:=qc;refine ae Z (ag aB (ag ⟨hge,by unfold pz; omega,by unfold pz; omega⟩ (ag (bv (by unfold pz; omega) (by unfold pz; omega)) (aa ?_))));show _=_;rw [show (pz s l' - 1,okD).1=pz s l' - 1 from rfl,show pz s l' - 1+1=pz s l' by omega,e3,pK (ee h) hd,hdl,show r.length - (l'.length+1)=r.length - l'.length - 1 by omega]
   rfl
 rw [if_neg h34];refine af O (aj _ (Jr s hs h) ?_);by_cases hsn:iD (b::r)=[]
 ·refine ae hsn (aj _ uR (aa ?_));rw [if_pos hsn];exact ⟨Z,by show (2:Int)≠0; decide⟩
 ·have Sk:=rc hsn;refine af hsn (ag aB (aa ?_));rw [if_neg hsn];show _=_;rw [<- lH Sk.2]; rfl
theorem pfxI {s l p:Bytes}(h:l <:+ s)(hs:s.length<=1000000000)(k:Nat)(hk:p.length=k)(XJ:k<=3):Ev2 (λ _ _=>ck (inR (pz s l+(k:Int))) (if pz s l+(k:Int)<=(s.length:Int) then ck (inR (pz s l+(k:Int))) (ck ((0:Int)<=pz s l/\pz s l<=pz s l+(k:Int)/\pz s l+(k:Int)<=(s.length:Int)) (some (decide (sub s (pz s l) (pz s l+(k:Int))=p)))) else some false)) (·=hasPrefix l p):=by
 have hge:=ua h;have hle:=h.length_le;have hpl:pz s l+(l.length:Int)=s.length:=by unfold pz; omega
 have hp:=yS l p;rw [hk] at hp;refine ag aB (av (λ q=>ag aB (ag ⟨hge,by omega,q⟩ (aa ?_))) (λ q=>aa ?_))
 ·rw [<- hp,decide_eq_true (show k<=l.length by omega),Bool.true_and];refine eqB ?_;rw [decide_eq_true_eq,decide_eq_true_eq,tS h O]
 ·rw [<- hp,decide_eq_false (show ¬ k<=l.length by omega),Bool.false_and]
def Hx (s:Bytes)(o:Int)(q:SE⊕Bytes)(r:Unit⊕(Int×ao)):Prop:=match r with
 | .inl _=>q=.inl (40,none)
 | .inr y=>Pb s o q y
def Ei (s:Bytes)(o:Int)(q:SE⊕Bytes)(r:Unit⊕(Int×ao)):Prop:=match r with
 | .inl _=>q=.inl (40,none)
 | .inr y=>InnR s o q y
theorem Dx {s:Bytes}{l:Bytes}{k:Nat}{o:Int}{q:SE⊕Bytes}(hl:Ev2 (λ n m=>db n (dK n) s (k:Int) o m (pz s l)) (Hx s o q)):Ev2 (λ n _=>ko n s (pz s l) (k:Int) o) (Pb s o q):=by
 refine aP ?_;simp only [ko];refine cm (aQ (aO (f:=λ n m=>db n (dK n) s (k:Int) o m (pz s l)) hl) λ x hx=>?_);exact Ka
theorem J6 {s:Bytes}{l:Bytes}{k:Nat}{o:Int}{q:SE⊕Bytes}(hl:Ev2 (λ n m=>cq n (dN n) s (k:Int) o m (pz s l) 0) (Ei s o q)):Ev2 (λ n _=>dK n s (pz s l) (k:Int) o) (InnR s o q):=by
 refine aP ?_;simp only [dK];refine cm (aQ (aO (f:=λ n m=>cq n (dN n) s (k:Int) o m (pz s l) 0) hl) λ x hx=>?_);exact Ka
theorem Ec {s:Bytes}(hs:s.length<=1000000000){o:Int}{f k:Nat}(Zp:k<=1000000)
  (ih1:∀ l,l <:+ s->l.length < f->Ev2 (λ n m=>db n (dK n) s (k:Int) o m (pz s l)) (Hx s o (fA f k l)))
  (ih2:∀ l,l <:+ s->l.length < f->k < 32->Ev2 (λ n m=>cq n (dN n) s ((k+1:Nat):Int) o m (pz s l) 0) (Ei s o (jl f (k+1) 1 l))) :
  ∀ l,l <:+ s->l.length < f+1->Ev2 (λ n m=>db n (dK n) s (k:Int) o m (pz s l)) (Hx s o (fA (f+1) k l)):=by
 intro l h hf;refine aw ?_;simp only [db]
 cases l with
 | nil =>
  refine af (by unfold pz; simp) (aa ?_);show fA (f+1) k []=_;rw [fA]
 | cons b r =>
  have S':=iJ h;have hle:=h.length_le;have hfr:r.length < f:=by simp only [aq] at hf; omega
  simp only [gH h];rw [nF];refine ae S'.2 (cm (ag S' ?_));by_cases h34:b.toNat=34
  ·rw [if_pos h34];refine ae O (aa ?_);show (_,_)=(_,_);rw [show pz s r - 1=pz s (b::r) by rw [show pz s r=pz s (b::r)+1 from jQ]; omega]
   rfl
  rw [if_neg h34];refine af O (aj _ (pfxI (p:=[36,36,123]) h hs 3 rfl O) ?_);by_cases h3:hasPrefix (b::r) [36,36,123]=true
  ·rw [if_pos h3];have hp:=hasPrefix_le h3;simp only [aq,n8] at hp;refine ae h3 (ag aB (aa ?_));have:=ih1 ((b::r).drop 3) (sM 3 h) tJ;rw [lH oH] at this;exact this
  rw [if_neg h3];refine af h3 (aj _ (pfxI (p:=[36,123]) h hs 2 rfl O) ?_);by_cases h2:hasPrefix (b::r) [36,123]=true
  ·rw [if_pos h2];have hp:=hasPrefix_le h2;simp only [aq,n8] at hp;refine ae h2 ?_;by_cases hk:32<=k
   ·rw [if_pos hk];exact ae O (aj _ uR (aa ⟨rfl,by show (4:Int)≠0; decide⟩))
   ·rw [if_neg hk];have hin:=J6 (ih2 ((b::r).drop 2) (sM 2 h) tJ O);rw [lH oH] at hin;refine af O (ag aB (ag aB (ah _ hin λ x hx=>?_)))
    cases hq:jl f (k+1) 1 ((b::r).drop 2) with
    | inl e =>
     rw [hq] at hx;exact af hx.2 (aa hx)
    | inr l' =>
     rw [hq] at hx;have hx:x=(pz s l',okD):=hx;subst hx;obtain ⟨g1,g2⟩:=(gQ f (k+1)).2 _ _ _ hq;refine ae rfl (aa (ih1 l' (g1.trans (sM 2 h)) ?_));rw [ld] at g2; simp only [aq] at g2; omega
  rw [if_neg h2];refine af h2 (cm ?_);have hsf:(if b.toNat=92 then r else b::r) <:+ s:=by split; exact ee h; exact h
  have hln:(if b.toNat=92 then r else b::r).length<=r.length+1:=by split <;> simp
  have hsplit:Ev2 (λ _ _=>(ck ((0:Int)<=pz s (b::r)/\pz s (b::r) < (s.length:Int)) (if (b.toNat:Int)=92 then ck (inR (pz s (b::r)+1)) (if (s.length:Int)<=pz s (b::r)+1 then some (.inr (.inr (.inl ()))) else some (.inl (pz s (b::r)+1))) else some (.inl (pz s (b::r)))):Option (Int⊕(Int⊕(Unit⊕(Int×ao))))))
    (·=if (if b.toNat=92 then r else b::r)=[] then .inr (.inr (.inl ())) else .inl (pz s (if b.toNat=92 then r else b::r))):=by
   refine ag S' ?_;by_cases h92:b.toNat=92
   ·rw [if_pos h92];refine ae O (ag aB ?_);rw [<- show pz s r=pz s (b::r)+1 from jQ]
    cases r with
    | nil=>exact ae (by unfold pz; simp) (aa Z)
    | cons c t=>exact af (by have:=w3 (s:=s) (b:=c) (r:=t); omega) (aa Z)
   ·rw [if_neg h92];exact ut
  refine aQ hsplit λ x hx=>?_;subst hx;generalize (if b.toNat=92 then r else b::r)=l1 at hsf hln ⊢
  cases l1 with
  | nil=>rfl
  | cons c t =>
   rw [if_neg G];have hatc:=iJ hsf;simp only [gH hsf];obtain ⟨w1,w2⟩:=Md (l:=c::t) G;have hdf:=iA (c::t) G;have ec:(c::t).getD 0 0=c:=rfl;rw [ec] at w1;refine aj _ (LM s hs hsf) (aj (decide (jx (decodeL (c::t)))) (av (λ q=>aa ?_) (λ q=>ag hatc (av (λ q2=>aa ?_) (λ q2=>ag hatc (aa ?_))))) ?_)
   ·symm; rw [decide_eq_true_eq,w1]; left; omega
   ·symm; rw [decide_eq_true_eq,w1]; right; left; omega
   ·refine eqB ?_; rw [decide_eq_true_eq,decide_eq_true_eq,w1]; omega
   ·by_cases hb:jx (decodeL (c::t))
    ·rw [if_pos hb];exact ae (decide_eq_true hb) (aj _ uR (aa ⟨rfl,by show (2:Int)≠0; decide⟩))
    ·rw [if_neg hb];rw [<- w2 hb];have hcl:=hsf.length_le;refine af (λ w=>hb (of_decide_eq_true w)) (ag (bv O (by have:=qc (s:=s) (l:=c::t); omega)) (aa ?_));have:=ih1 ((c::t).drop (decodeL (c::t)).2) (sM _ hsf) (by rw [ld]; simp only [aq] at hln ⊢; omega);rw [lH hdf.2.1] at this;exact this
theorem Bq {s:Bytes}(hs:s.length<=1000000000){o:Int}{f k:Nat}(ZN:k≠0)
  (ih1:∀ l,l <:+ s->l.length < f->Ev2 (λ n m=>db n (dK n) s (k:Int) o m (pz s l)) (Hx s o (fA f k l)))
  (ih2:∀ l n,1<=n->n+l.length<=s.length+1->l <:+ s->l.length < f->Ev2 (λ nn m=>cq nn (dN nn) s (k:Int) o m (pz s l) ((n:Int) - 1)) (Ei s o (jl f k n l))) :
  ∀ l n,1<=n->n+l.length<=s.length+1->l <:+ s->l.length < f+1->Ev2 (λ nn m=>cq nn (dN nn) s (k:Int) o m (pz s l) ((n:Int) - 1)) (Ei s o (jl (f+1) k n l)):=by
 intro l n hn hnl h hf;refine aw ?_;simp only [cq];rw [nT];have hsk:=nC false l;have hbl:=yu s l hs h;rw [<- yW] at hbl;refine ae qc (aj _ hbl ?_);have Sk:=hsk.length_le;have hss:=hsk.trans h;generalize fF false l=l1 at hsk Sk hss ⊢
 cases l1 with
 | nil=>exact ae (by unfold pz; simp) (aa Z)
 | cons b r =>
  have S':=iJ hss;rw [nR];simp only [aq] at Sk;have Tf:=Nw hs (k:=k) (q:=o) (o:=o) (src:=fA f k) hss (wE f k).1 (λ l' hl'=>(gQ f k).1 _ _ hl') (λ _=>by rw [if_neg ZN]) (λ _=>Dx (ih1 r (ee hss) O));refine af O (ah _ Tf λ x hx=>?_)
  cases hq:jY (fA f k) (b::r) with
  | inl e =>
   rw [hq] at hx;rw [rb];exact af hx.2 (aa hx)
  | inr z =>
   obtain ⟨c,t,l'⟩:=z;rw [hq] at hx;have hx:x=(ac.mk c t (pz s (b::r)),pz s l',okD):=hx;subst hx;obtain ⟨g1,g2⟩:=kO (λ r r' _ hr=>(gQ f k).1 _ _ hr) hq;simp only [aq] at g2;have hl's:=g1.trans hss;rw [oY];refine ae rfl (cm (aj (decide (c=4/\t=[125])) (av (λ q=>aa ?_) (λ q=>aa ?_)) ?_))
   ·exact xc
   ·symm; rw [decide_eq_false_iff_not]; exact λ w=>q w.1
   have last:∀ (N:Nat),(1<=N)->N<=n->¬ (c=4/\t=[123]/\N≠n)->Ev2 (λ n_1 m=>(((if c=4 then some (decide (t=[123])) else some false).bind λ t37=>if t37=true then ck (inR ((N:Int) - 1+1)) (some ((N:Int) - 1+1)) else some ((N:Int) - 1)).bind λ open40=>cq n_1 (dN n_1) s (k:Int) o m (pz s l') open40))
     (Ei s o (if c=4/\t=[123] then jl f k (N+1) l' else jl f k N l')):=by
    intro N hN hNn hx;refine aj (((if c=4/\t=[123] then N+1 else N:Nat):Int) - 1) (aj (decide (c=4/\t=[123])) (av (λ q=>aa ?_) (λ q=>aa ?_)) (av (λ q=>ag aB (aa ?_)) (λ q=>aa ?_))) ?_
    ·exact xc
    ·symm; rw [decide_eq_false_iff_not]; exact λ w=>q w.1
    ·rw [decide_eq_true_eq] at q; rw [if_pos q]; omega
    ·rw [decide_eq_true_eq] at q; rw [if_neg q]
    ·by_cases h123:c=4/\t=[123]
     ·rw [if_pos h123,if_pos h123];exact ih2 l' (N+1) O O  hl's O
     ·rw [if_neg h123,if_neg h123];exact ih2 l' N hN O hl's O
   by_cases h125:c=4/\t=[125]
   ·have hn123:¬ (c=4/\t=[123]):=λ w=>by rw [h125.2] at w; exact absurd w.2 (by decide)
    rw [if_pos h125];by_cases h1:n=1
    ·subst h1;rw [if_pos rfl];exact ae (decide_eq_true h125) ui
    ·rw [if_neg h1];refine ae (decide_eq_true h125) (af O (ag aB (aa ?_)));have:=last (n - 1) O O  (λ w=>hn123 ⟨w.1,w.2.1⟩);rw [if_neg hn123,show ((n - 1:Nat):Int) - 1=(n:Int) - 1 - 1 by omega] at this;exact this
   ·rw [if_neg h125];refine af (λ w=>h125 (of_decide_eq_true w)) (aa ?_);exact last n hn (bx _) (λ w=>w.2.2 rfl)
theorem vj {s:Bytes}(hs:s.length<=1000000000){o:Int}:∀ (f:Nat),
  (∀ (k:Nat) l,k<=1000->l <:+ s->l.length < f->Ev2 (λ n m=>db n (dK n) s (k:Int) o m (pz s l)) (Hx s o (fA f k l))) /\
  (∀ (k:Nat) l n,k≠0->k<=1000->1<=n->n+l.length<=s.length+1->l <:+ s->l.length < f->Ev2 (λ nn m=>cq nn (dN nn) s (k:Int) o m (pz s l) ((n:Int) - 1)) (Ei s o (jl f k n l)))
 | 0=>⟨λ k l _ _ h=>absurd h (Nat.not_lt_zero _),λ k l n _ _ _ _ _ h=>absurd h (Nat.not_lt_zero _)⟩
 | f+1=>by
  obtain ⟨i1,i2⟩:=vj hs (o:=o) f;refine ⟨λ k l hk=>Ec hs O (λ l=>i1 k l hk) (λ l h hf hk=>?_) l,λ k l n hk Vi=>Bq hs hk (λ l=>i1 k l Vi) (λ l n a b c e=>i2 k l n hk Vi a b c e) l n⟩;exact i2 (k+1) l 1 O O  (bx _) (by have:=h.length_le; omega) h hf
theorem Mv {s:Bytes}(hs:s.length<=1000000000){f:Nat}{b:UInt8}{r:Bytes}(h:(b::r) <:+ s)(hf:r.length < f)(q:Int) :
  Ev2 (λ n _=>dN n s (pz s (b::r)) 0 q) (OneR s (b::r) (pz s (b::r)) (jY (fA f 0) (b::r))) :=
 Nw (k:=0) hs h (wE f 0).1 (λ l' hl'=>(gQ f 0).1 _ _ hl') (λ _=>by rw [if_pos Z]) (λ _=>Dx ((vj hs f).1 0 r O (ee h) hf))
theorem yD {s:Bytes}(hs:s.length<=1000000000):∀ (f:Nat) (l:Bytes) (out:List ac),out.length<=16384->l <:+ s->l.length < f->Ev2 (λ n m=>fZ n s m out (pz s l)) (·=.inr (IQ s out (kh f out.length l)))
 | 0,l,out,_,_,h=>absurd h (Nat.not_lt_zero _)
 | f+1,l,out,hout,h,hf=>by
  refine aw ?_;simp only [fZ];rw [ml];have hsk:=nC true l;refine ae qc (aj _ (Pt s l hs h) ?_);have Sk:=hsk.length_le;have hss:=hsk.trans h;generalize fF true l=l1 at hsk Sk hss ⊢
  cases l1 with
  | nil =>
   have hz:(s.length:Int)<=pz s []:=by unfold pz; simp
   refine aj (decide (out.length=16384)) (av (λ q=>ae hz (aa ?_)) (λ q=>aa ?_)) ?_
   ·symm; rw [decide_eq_true_eq]; omega
   ·symm; rw [decide_eq_false_iff_not]; omega
   rw [nX];by_cases hc:out.length=16384
   ·exact FP
   ·rw [if_neg hc];exact af (λ w=>hc (of_decide_eq_true w)) (ae hz (ag ns (aa rfl)))
  | cons b r =>
   have S':=iJ hss;refine aj (decide (out.length=16384)&&jd (b::r)) (av (λ q=>af O (aj _ (Kh s hs hss) (aa ?_))) (λ q=>aa ?_)) ?_
   ·rw [decide_eq_true (show out.length=16384 by omega),Bool.true_and]
   ·rw [decide_eq_false (show ¬ out.length=16384 by omega),Bool.false_and]
   rw [mh];simp only [aq] at Sk;have Tf:=Mv hs hss (f:=f) O (pz s (b::r))
   cases hb:jd (b::r)
   ·rw [if_pos rfl];rw [za hb] at Tf;refine af G (af O (ah _ Tf λ x hx=>af hx.2 (aa ?_)));show _=Sum.inr ([],rt s 0 (2,some (b::r).length));rw [hx.1]; rfl
   ·rw [if_neg G,Bool.and_true];by_cases hc:out.length=16384
    ·exact FP
    ·rw [if_neg hc];refine af (λ w=>hc (of_decide_eq_true w)) (af O (ah _ Tf λ x hx=>?_))
     cases hq:jY (fA f 0) (b::r) with
     | inl e =>
      rw [hq] at hx;refine af hx.2 (aa ?_);rw [hx.1,zh s (b::r) 0]
      rfl
     | inr z =>
      obtain ⟨c,t,l'⟩:=z;rw [hq] at hx;have hx:x=(ac.mk c t (pz s (b::r)),pz s l',okD):=hx;subst hx;obtain ⟨g1,g2⟩:=kO (λ r r' _ hr=>(gQ f 0).1 _ _ hr) hq;simp only [aq] at g2;have ih:=yD hs f l' (out++[ac.mk c t (pz s (b::r))]) kt (g1.trans hss) O;simp only [ph,aq,n8,Nat.zero_add] at ih;rw [oa];refine ae rfl (ag ns (NU ih ?_));exact Iw
theorem Oz (s:Bytes):Ev2 (λ n _=>mw n s) (·=eG s):=by
 simp only [mw];unfold eG;by_cases h:65536 < s.length
 ·rw [if_pos h];exact ae O (aj _ uR (aa rfl))
 ·rw [if_neg h];have:=yD (s:=s) O (s.length+1) s [] G List.suffix_rfl (Nat.lt_succ_self _);rw [DF] at this;exact af O (iC _ (aO (f:=λ n m=>fZ n s m [] 0) this) rfl)
end Go.Ab.R06
end
section
namespace Go.Ab.R06
open Go.Proofs Go.Ab Go.Ab.RB
set_option maxRecDepth 4000
attribute [local irreducible] awp io bg bO cv AV.sub M cZ
instance Pl:HE Tryz.prog 152:=⟨Tryz.call152⟩
instance Od:HE Tryz.prog 153:=⟨Tryz.call153⟩
instance OQ:HE Tryz.prog 151:=⟨Tryz.call151⟩
instance PK:HE Tryz.prog 117:=⟨Tryz.call117⟩
instance Ol:HE Tryz.prog 119:=⟨Tryz.call119⟩
instance Qq:HE Tryz.prog 115:=⟨Tryz.call115⟩
instance Oy:HE Tryz.prog 116:=⟨Tryz.call116⟩
instance PS:HE Tryz.prog 120:=⟨Tryz.call120⟩
instance Qs:HE Tryz.prog 69:=⟨Tryz.call69⟩
instance Ov:HE Tryz.prog 32:=⟨Tryz.call32⟩
instance NT:HE Tryz.prog 73:=⟨Tryz.call73⟩
instance NR:HE Tryz.prog 122:=⟨Tryz.call122⟩
instance NZ:HE Tryz.prog 108:=⟨Tryz.call108⟩
instance NF:HE Tryz.prog 74:=⟨Tryz.call74⟩
instance NG:HE Tryz.prog 72:=⟨Tryz.call72⟩
instance NI:HE Tryz.prog 13:=⟨Tryz.call13⟩
instance NJ:HE Tryz.prog 127:=⟨Tryz.call127⟩
instance Nv:HE Tryz.prog 79:=⟨Tryz.call79⟩
instance NL:HE Tryz.prog 80:=⟨Tryz.call80⟩
instance NX:HE Tryz.prog 128:=⟨Tryz.call128⟩
instance NP:HE Tryz.prog 168:=⟨Tryz.call168⟩
instance NW:HE Tryz.prog 169:=⟨Tryz.call169⟩
abbrev sj (F:Bytes->Int->Option (Int))(k:Nat):Prop:=∀ (a0:Bytes) (a1:Int) (r:Int),HP (F a0 a1=some r) Tryz.prog k [eS a0,eI a1] (.p (eI r))
abbrev pU (v:List ac×Int×Int×Int×Int×Bytes):List AV:=[.p (eL aG v.1),.p (eI v.2.1),.p (eI v.2.2.1),.p (eI v.2.2.2.1),.p (eI v.2.2.2.2.1),.p (eS v.2.2.2.2.2)]
abbrev nN:List AV:=[.p (eI 0),.p (eS ([]:Bytes)),.p (eI 0)]
def ir (TB:Int):Option Bool :=
 (
   if TB=12 then
    some true
   else
    some (decide (TB=13))
  ).bind λ t2 =>
 some t2
instance K8 (TB:Int):∀ (r:Bool),HP (ir TB=some r) Tryz.prog 152 [eI TB] (.p (eB r)):=by
 refine hP good Tryz.func152 Z Z λ r h0 _ w0=>?_;unfold ir at h0;exact jZ
def ij (TB:Int):Option Bool :=
 (
   if TB=3 then
    some true
   else
    if TB=4 then
     some true
    else
     if TB=9 then
      some true
     else
      (ir TB).bind λ r4 =>
      some r4
  ).bind λ t6 =>
 some t6
instance Hl (TB:Int):∀ (r:Bool),HP (ij TB=some r) Tryz.prog 117 [eI TB] (.p (eB r)):=by
 refine hP good Tryz.func117 Z Z λ r h0 _ w0=>?_;unfold ij at h0;exact jZ
def iq (TB:Int)(n_1:Int):Option Bool :=
 (
   if TB=1 then
    some true
   else
    some (decide (TB=3))
  ).bind λ t2 =>
 if t2=true then
  some (decide (n_1=0))
 else
  if TB=2 then
   some (decide (1<=n_1))
  else
   (
     if TB=4 then
      some true
     else
      some (decide (TB=6))
    ).bind λ t6 =>
   if t6=true then
    some (decide (n_1=1))
   else
    (
      if TB=5 then
       some true
      else
       some (decide (TB=7))
     ).bind λ t9 =>
    if t9=true then
     some (decide (n_1=2))
    else
     if TB=8 then
      some (decide (n_1=3))
     else
      (
        if TB=9 then
         some true
        else
         some (decide (TB=10))
       ).bind λ t13 =>
      if t13=true then
       some true
      else
       if TB=11 then
        ck ((2:Int)≠0) <|
        some (decide (n_1.tmod 2=0))
       else
        if TB=12 then
         (
           if n_1=2 then
            some true
           else
            some (decide (n_1=3))
          ).bind λ Ug =>
         some Ug
        else
         if TB=13 then
          (
            if n_1=3 then
             some true
            else
             some (decide (n_1=4))
           ).bind λ t22 =>
          some t22
         else
          some false
instance Lh (TB:Int) (n_1:Int):∀ (r:Bool),HP (iq TB n_1=some r) Tryz.prog 151 [eI TB,eI n_1] (.p (eB r)):=by
 refine hP good Tryz.func151 Z Z λ r h0 _ w0=>?_;unfold iq at h0;refine nx 11 Z (bd h0 λ VP h1 h0=>?_);refine kN VP (λ Uz=>⟨[(1,.p (eI n_1)),(5,.p (eI TB)),(6,.p (eB Uz))],[]⟩) ?_ ?_
 ·refine nx 1 Z (fB [6] h0 Z (λ c3 h0=>?_) λ c3 h0=>?_)
  ·exact J0
  refine nx 6 Z (fD [11,12] h0 Z (λ c4 h0=>?_) λ c4 h0=>?_)
  ·exact J0
  refine nx 2 Z (bd h0 λ XD h1 h0=>?_);refine kN XD (λ Xf=>⟨[(1,.p (eI n_1)),(5,.p (eI TB)),(15,.p (eB Xf))],[]⟩) ?_ ?_
  ·refine nx 1 Z (fB [15] h0 Z (λ c7 h0=>?_) λ c7 h0=>?_)
   ·exact J0
   refine nx 2 Z (bd h0 λ Za h1 h0=>?_);refine kN Za (λ YB=>⟨[(1,.p (eI n_1)),(5,.p (eI TB)),(20,.p (eB YB))],[]⟩) ?_ ?_
   ·refine nx 1 Z (fB [20] h0 Z (λ YA h0=>?_) λ YA h0=>?_)
    ·exact J0
    refine nx 6 Z (fD [25,26] h0 Z (λ Xd h0=>?_) λ Xd h0=>?_)
    ·exact J0
    refine nx 2 Z (bd h0 λ ZK h1 h0=>?_);refine kN ZK (λ YQ=>⟨[(1,.p (eI n_1)),(5,.p (eI TB)),(29,.p (eB YQ))],[]⟩) ?_ ?_
    ·refine nx 1 Z (fB [29] h0 Z (λ Xc h0=>?_) λ Xc h0=>?_)
     ·exact J0
     refine nx 6 Z (fD [32,33] h0 Z (λ XX h0=>?_) λ XX h0=>?_)
     ·refine nx 4 Z (cc' h0 λ UN h0=>?_);refine mO Z (FJ Z Z Z Z Z Z UN ?_);exact J0
     have:=js [2100,2300];have:=jS 2100 Bool λ v=>[(4,.p (eB v))]
     have:=jS 2300 Bool λ v=>[(4,.p (eB v))]
     exact J0
    exact ay
   exact ay
  exact ay
 exact ay
def ju (SQ:am):Option Bool :=
 (
   if SQ.Ar=0 then
    if SQ.E'=0 then
     if SQ.If=([]:Bytes) then
      if (SQ.Df.length:Int)=0 then
       some (decide ((SQ.C'.length:Int)=0))
      else
       some false
     else
      some false
    else
     some false
   else
    some false
  ).bind λ t5 =>
 some t5
instance Lr (SQ:am):∀ (r:Bool),HP (ju SQ=some r) Tryz.prog 153 [.agg (am.cs SQ)] (.p (eB r)):=by
 refine hP good Tryz.func153 Z Z λ r h0 _ w0=>?_;unfold ju at h0;exact jZ
def fQ (SU:ad):Option Bool :=
 (
   (iq SU.Ar (SU.By.length:Int)).bind λ r1 =>
   if (!r1)=true then
    some true
   else
    (ir SU.Ar).bind λ r4 =>
    if (!r4)=true then
     if SU.Gw=([]:Bytes) then
      (ij SU.Ar).bind λ r8 =>
      if (!r8)=true then
       some (!decide (SU.AI=([]:Bytes)))
      else
       some false
     else
      some true
    else
     (ij SU.Ar).bind λ VW =>
     if (!VW)=true then
      some (!decide (SU.AI=([]:Bytes)))
     else
      some false
  ).bind λ YX =>
 if YX=true then
  some false
 else
  if SU.Ar=1 then
   (
     if SU.fOp=0 then
      if SU.A'.Ar=0 then
       some true
      else
       if SU.A'.Ar=1 then
        some true
       else
        if SU.A'.Ar=3 then
         some true
        else
         if SU.A'.Ar=2 then
          some (decide (0<=SU.A'.E'))
         else
          some false
     else
      some false
    ).bind λ t22 =>
   some t22
  else
   (ju SU.A').bind λ Ts =>
   if (!Ts)=true then
    some false
   else
    if SU.Ar=6 then
     (
       if SU.fOp=1 then
        some true
       else
        some (decide (SU.fOp=2))
      ).bind λ YW =>
     some YW
    else
     if SU.Ar=7 then
      (
        if 3<=SU.fOp then
         some (decide (SU.fOp<=15))
        else
         some false
       ).bind λ t31 =>
      some t31
     else
      some (decide (SU.fOp=0))
instance Fh (SU:ad):∀ (r:Bool),HP (fQ SU=some r) Tryz.prog 115 [.agg (ad.cs SU)] (.p (eB r)):=by
 refine hP good Tryz.func115 Z Z λ r h0 _ w0=>?_;unfold fQ at h0;have:=js [100,500,1000,1200];have:=jS 100 Bool λ v=>[(32,.p (eB v))]
 have:=jS 500 Bool λ v=>[(2,.p (eB v))]
 have:=jS 1000 Bool λ v=>[(2,.p (eB v))]
 have:=jS 1200 Bool λ v=>[(2,.p (eB v))]
 exact J0
def ei (Mr:Bytes):Option Bool :=
 (
   if Mr=([110,117,108,108]:Bytes) then
    some true
   else
    if Mr=([116,114,117,101]:Bytes) then
     some true
    else
     if Mr=([102,97,108,115,101]:Bytes) then
      some true
     else
      if Mr=([102,111,114]:Bytes) then
       some true
      else
       if Mr=([105,110]:Bytes) then
        some true
       else
        some (decide (Mr=([105,102]:Bytes)))
  ).bind λ t6 =>
 some t6
instance DK (Mr:Bytes):∀ (r:Bool),HP (ei Mr=some r) Tryz.prog 119 [eS Mr] (.p (eB r)):=by
 refine hP good Tryz.func119 Z Z λ r h0 _ w0=>?_;unfold ei at h0;exact jZ
def oO (n:Nat)(Mr:Bytes):Option Bool :=
 (
   (gg n Mr).bind λ r1 =>
   if r1=true then
    (ei Mr).bind λ r4 =>
    some (!r4)
   else
    some false
  ).bind λ t6 =>
 some t6
instance K6 (n:Nat) (Mr:Bytes):∀ (r:Bool),HP (oO n Mr=some r) Tryz.prog 120 [eS Mr] (.p (eB r)):=by
 refine hP good Tryz.func120 Z Z λ r h0 _ w0=>?_;unfold oO at h0;exact jZ
def mB (n:Nat)(SU:ad):Option Int :=
 (fQ SU).bind λ r1 =>
 if (!r1)=true then
  some 1
 else
  if SU.Ar=1 then
   (kU n SU.A').bind λ r5 =>
   some r5
  else
   (
     (ij SU.Ar).bind λ r7 =>
     if r7=true then
      (gg n SU.AI).bind λ Tp =>
      if (!Tp)=true then
       some true
      else
       if SU.Ar=4 then
        some false
       else
        (ei SU.AI).bind λ Xj =>
        some Xj
     else
      some false
    ).bind λ T0 =>
   if T0=true then
    some 7
   else
    (
      if SU.Gw=([]:Bytes) then
       some false
      else
       (oO n SU.Gw).bind λ Vd =>
       some (!Vd)
     ).bind λ t21 =>
    if t21=true then
     some 7
    else
     some 0
instance Ld (n:Nat) (SU:ad):∀ (r:Int),HP (mB n SU=some r) Tryz.prog 69 [.agg (ad.cs SU)] (.p (eI r)):=by
 refine hP good Tryz.func69 Z Z λ r h0 _ w0=>?_;unfold mB at h0;have:=js [500,700];have:=jS 500 Bool λ v=>[(30,.p (eB v))]
 have:=jS 700 Bool λ v=>[(39,.p (eB v))]
 exact J0
def ct (Ui:ad->Int->Int->Option (Int×Int))(SU:ad)(O':Int):Nat->Int->Int->Int->Option (Int×Int)
 | 0,_,_,_=>none
 | m+1,k17,n18,i19 =>
 (
   if i19 < (SU.By.length:Int) then
    some (decide (k17=0))
   else
    some false
  ).bind λ t21 =>
 if t21=true then
  ck ((0:Int)<=i19/\i19 < (SU.By.length:Int)) <|
  ck (inR (O'+1)) <|
  (Ui (lat SU.By i19) (O'+1) n18).bind λ UE =>
  ck (inR (i19+1)) <|
  ct Ui SU O' m UE.1 UE.2 (i19+1)
 else
  some (k17,n18)
def dV:Nat->ad->Int->Int->Option (Int×Int)
 | 0,_,_,_=>none
 | n+1,SU,O',SZ =>
 if 32 < O' then
  some (4,0)
 else
  if 4096<=SZ then
   some (14,0)
  else
   (mB n SU).bind λ r3 =>
   ck (inR (SZ+1)) <|
   (ct (dV n) SU O' n r3 (SZ+1) 0).bind λ X4 =>
   some (X4.1,X4.2)
instance Gc (n:Nat):∀ (SU:ad) (O':Int) (SZ:Int) (r:Int×Int),HP (dV n SU O' SZ=some r) Tryz.prog 32 [.agg (ad.cs SU),eI O',eI SZ] (.tuple [.p (eI r.1),.p (eI r.2)]):=by
 induction n with
 | zero=>exact Zr
 | succ n ih =>
 refine λ SU O' SZ=>hP good Tryz.func32 Z Z λ r h0 _ w0=>?_;rw [dV] at h0;refine nx 12 Z (fD [12] h0 Z (λ c1 h0=>?_) λ c1 h0=>?_)
 ·exact J0
 refine nx 8 Z (fD [14] h0 Z (λ c2 h0=>?_) λ c2 h0=>?_)
 ·exact J0
 refine nx 5 Z (K0 λ r3 h0=>nx 5 Z ?_);refine oA h0 Z Z λ YO h0=>nx 8 Z (bd h0 λ ZK h1 h0=>?_);refine kE 0 ZK (λ YQ=>⟨[(8,.p (eI YQ.1)),(9,.p (eI YQ.2))],[]⟩) ?_ ?_
 ·exact J0
 refine lG (λ (Yl:Int×Int×Int)=>⟨[(1,.p (eI O')),(3,.ptr 3 0),(8,.p (eI Yl.1)),(9,.p (eI Yl.2.1)),(10,.p (eI Yl.2.2))],[(3,(ad.cs SU).map .p)]⟩) (λ m (Yl:Int×Int×Int)=>ct (dV n) SU O' m Yl.1 Yl.2.1 Yl.2.2) Y (r3,SZ+1,0) h1 (gE rfl rfl) ?_;rintro m ⟨k17,n18,i19⟩ h1;replace h1:ct (dV n) SU O' (m+1) k17 n18 i19=some ZK:=h1;rw [ct] at h1;have:=js [800];have:=jS 800 Bool λ v=>[(27,.p (eB v))]
 exact ay
def kS (n:Nat)(SU:ad):Option Int :=
 (dV n SU 1 0).bind λ r1 =>
 some r1.1
instance J7 (n:Nat) (SU:ad):∀ (r:Int),HP (kS n SU=some r) Tryz.prog 13 [.agg (ad.cs SU)] (.p (eI r)):=by
 refine hP good Tryz.func13 Z Z λ r h0 _ w0=>?_;unfold kS at h0;exact J0
def au (OF:ai):Option (Bool×ai) :=
 some (!decide (OF.fD.Ar=0),OF)
instance zX (OF:ai):∀ (r:Bool×ai),HO (au OF=some r) Tryz.prog 72 [.ptr 1000000 0] [(1000000,((ai.cs OF).map .p))] (.p (eB r.1)) ([(1000000,((ai.cs r.2).map .p))]):=by
 refine hO good [] [1000000] Tryz.func72 Z Z λ r h0 _ w0 F=>?_;unfold au at h0;exact J0
def cM (OF:ai):Nat->Int->Option Int
 | 0,_=>none
 | m+1,f8 =>
 (
   if 0 < OF.fIn then
    if f8 < (OF.fL.length:Int) then
     ck ((0:Int)<=f8/\f8 < (OF.fL.length:Int)) <|
     some (decide ((lat OF.fL f8).Ar=5))
    else
     some false
   else
    some false
  ).bind λ t12 =>
 if t12=true then
  ck (inR (f8+1)) <|
  cM OF m (f8+1)
 else
  some f8
def bF (n:Nat)(OF:ai):Option (ac×ai) :=
 (cM OF n OF.fI).bind λ XT =>
 if XT < (OF.fL.length:Int) then
  ck ((0:Int)<=XT/\XT < (OF.fL.length:Int)) <|
  some ((lat OF.fL XT),(ai.mk OF.fL XT OF.fIn OF.fD))
 else
  some ((ac.mk 6 ([]:Bytes) 0),(ai.mk OF.fL XT OF.fIn OF.fD))
instance Ac (n:Nat) (OF:ai):∀ (r:ac×ai),HO (bF n OF=some r) Tryz.prog 73 [.ptr 1000000 0] [(1000000,((ai.cs OF).map .p))] (.p (.agg (ac.cs r.1))) ([(1000000,((ai.cs r.2).map .p))]):=by
 refine hO good [] [1000000] Tryz.func73 Z Z λ r h0 _ w0 F=>?_;unfold bF at h0;refine nx 6 Z (bd h0 λ Wi h1 h0=>?_);refine kE 0 Wi (λ YS=>⟨[(0,.ptr 1000000 0),(2,.ptr 2 0)],[(2,nN),(1000000,[.p (eL aG OF.fL),.p (eI YS),.p (eI OF.fIn),.p (eI OF.fD.Ar),.p (eI OF.fD.fAt),.p (eS OF.fD.AI)])]⟩) ?_ ?_
 ·refine nx 3 Z (mD [(0,.ptr 1000000 0),(2,.ptr 2 0)] Z ⟨Z,Z,trivial⟩ Z ?_);refine dR 8 Z (dq (.p (eI (OF.fL.length:Int))) [48] Z (λ _ e _ q=>ap Z (mV (f:=aG) (l:=OF.fL) Z Z Z Z Z (e _ _ Z) Z q)) Z ?_);refine dR 1 Z (dE Z ?_);refine nx 1 Z (fD [50] h0 Z (λ Tz h0=>?_) λ Tz h0=>?_)
  ·refine nx 2 Z (cc' h0 λ Uv h0=>?_);refine mG (gE (t:=⟨[(0,.ptr 1000000 0),(2,.ptr 2 0)],[(2,nN),(1000000,[.p (eL aG OF.fL),.p (eI Wi),.p (eI OF.fIn),.p (eI OF.fD.Ar),.p (eI OF.fD.fAt),.p (eS OF.fD.AI)])]⟩) Z Z) (mSq ⟨1,[10],(λ _=>.none),(λ _=>[(0,.ptr 1000000 0),(2,.ptr 2 0)]),(ob2 ([(2,nN),(1000000,[.p (eL aG OF.fL),.p (eI Wi),.p (eI OF.fIn),.p (eI OF.fD.Ar),.p (eI OF.fD.fAt),.p (eS OF.fD.AI)])]) (2,[.p (eI ((lat OF.fL Wi).Ar)),.p (eS ((lat OF.fL Wi).B')),.p (eI ((lat OF.fL Wi).fAt))]))⟩ Z ?_);refine dPc (.ptr 1000000 0) Z (dPc (.ptr 1000000 0) Z ?_);refine dPc (.ptr 1000000 0) Z (dPc (.p (eL aG OF.fL)) Z ?_);refine dPc (.ptr 1000000 0) Z (dPc (.ptr 1000000 0) Z ?_);refine dPc (.ptr 1000000 1) Z (dPc (.p (eI Wi)) Z ?_);refine dO (.rptr (ac.cs (lat OF.fL Wi))) [54,58] Z (λ _ sl Sk K hK=>ap Z (jP (f:=aG) (l:=OF.fL) ac.cs Z Z Z Z Z Z (Sk _ _ Z) Z (Sk _ _ Z) Uv ac.It Y hK)) (dPc (.p (.agg (ac.cs (lat OF.fL Wi)))) Z ?_);exact J0
  exact J0
 refine lG (λ (Wp:Int)=>⟨[(0,.ptr 1000000 0),(2,.ptr 2 0)],[(2,nN),(1000000,[.p (eL aG OF.fL),.p (eI Wp),.p (eI OF.fIn),.p (eI OF.fD.Ar),.p (eI OF.fD.fAt),.p (eS OF.fD.AI)])]⟩) (λ m (Wp:Int)=>cM OF m Wp) Y OF.fI h1 (gE rfl rfl) ?_;rintro m f8 h1;replace h1:cM OF (m+1) f8=some Wi:=h1;rw [cM] at h1;refine nx 2 rfl (bd h1 λ o24 h2 h1=>?_);refine kN o24 (λ v25=>⟨[(0,.ptr 1000000 0),(2,.ptr 2 0),(33,.p (eB v25))],[(2,nN),(1000000,[.p (eL aG OF.fL),.p (eI f8),.p (eI OF.fIn),.p (eI OF.fD.Ar),.p (eI OF.fD.fAt),.p (eS OF.fD.AI)])]⟩) ?_ ?_
 ·exact ay
 refine fD (p:=0 < OF.fIn) [] h2 Z (λ c9 h2=>?_) λ c9 h2=>?_
 ·refine fD (p:=f8 < (OF.fL.length:Int)) [] h2 Z (λ YA h2=>?_) λ YA h2=>?_
  ·refine cc' h2 λ Vv h2=>mD [(0,.ptr 1000000 0),(2,.ptr 2 0)] Z ⟨Z,Z,trivial⟩ Z (dR 4 Z ?_);refine dL (dt c9) Z (dR 9 Z ?_);refine dq (.p (eI (OF.fL.length:Int))) [8,16] Z (λ _ e _ q=>dF (mV (f:=aG) (l:=OF.fL) Z Z Z Z Z (e _ _ Z) Z q) Z Z (e _ _ Z) (rfl)) Z (dL (dt YA) Z ?_);refine dR 10 Z (dq (.rptr (ac.cs (lat OF.fL f8))) [20,24,28] Z (λ _ e _ q=>dF (jP (f:=aG) (l:=OF.fL) ac.cs Z Z Z Z Z Z (e _ _ Z) Z (e _ _ Z) Vv ac.It Y q) Z Z (e _ _ Z) (rfl)) Z ?_);exact bV
  refine mD [(0,.ptr 1000000 0),(2,.ptr 2 0)] Z ⟨Z,Z,trivial⟩ Z (dR 4 Z ?_);refine dL (dt c9) Z (dR 9 Z ?_);refine dq (.p (eI (OF.fL.length:Int))) [8,16] Z (λ _ e _ q=>dF (mV (f:=aG) (l:=OF.fL) Z Z Z Z Z (e _ _ Z) Z q) Z Z (e _ _ Z) (rfl)) Z (dL (df YA) Z ?_);exact bV
 refine mD [(0,.ptr 1000000 0),(2,.ptr 2 0)] Z ⟨Z,Z,trivial⟩ Z (dR 4 Z ?_);refine dL (df c9) Z (dR 26 Z ?_);refine dE Z (nx 1 Z ?_);exact bV
def aW (n:Nat)(OF:ai)(s_1:Bytes):Option (Bool×ai) :=
 (bF n OF).bind λ r1 =>
 (
   if r1.1.Ar=4 then
    some (decide (r1.1.B'=s_1))
   else
    some false
  ).bind λ t4 =>
 some (t4,r1.2)
instance Ap (n:Nat) (OF:ai) (s_1:Bytes):∀ (r:Bool×ai),HO (aW n OF s_1=some r) Tryz.prog 108 [.ptr 1000000 0,.p (eS s_1)] [(1000000,((ai.cs OF).map .p))] (.p (eB r.1)) ([(1000000,((ai.cs r.2).map .p))]):=by
 refine hO good [] [1000000] Tryz.func108 Z Z λ r h0 _ w0 F=>?_;unfold aW at h0;have:=js [200];have:=jS 200 Bool λ v=>[(4,.p (eB v))]
 exact J0
def fv (OF:ai)(k_1:Int)(at_2:Int):Option ai :=
 if OF.fD.Ar=0 then
  some (ai.mk OF.fL OF.fI OF.fIn (ao.mk k_1 at_2 ([]:Bytes)))
 else
  some OF
instance zN (OF:ai) (k_1:Int) (at_2:Int):∀ (r:ai),HO (fv OF k_1 at_2=some r) Tryz.prog 122 [.ptr 1000000 0,.p (eI k_1),.p (eI at_2)] [(1000000,((ai.cs OF).map .p))] (.tuple []) ([(1000000,((ai.cs r).map .p))]):=by
 refine hO good [] [1000000] Tryz.func122 Z Z λ r h0 _ w0 F=>?_;unfold fv at h0;exact J0
def bT (n:Nat)(OF:ai):Option ai :=
 (bF n OF).bind λ r1 =>
 (fv r1.2 2 r1.1.fAt).bind λ r3 =>
 some r3
instance ye (n:Nat) (OF:ai):∀ (r:ai),HO (bT n OF=some r) Tryz.prog 74 [.ptr 1000000 0] [(1000000,((ai.cs OF).map .p))] (.tuple []) ([(1000000,((ai.cs r).map .p))]):=by
 refine hO good [] [1000000] Tryz.func74 Z Z λ r h0 _ w0 F=>?_;unfold bT at h0;exact J0
def bQ (n:Nat)(OF:ai)(s_1:Bytes):Option ai :=
 (
   (aW n OF s_1).bind λ r1 =>
   if (!r1.1)=true then
    (bT n r1.2).bind λ r4 =>
    some (r4.fL,r4.fI,r4.fIn,r4.fD.Ar,r4.fD.fAt,r4.fD.AI)
   else
    some (r1.2.fL,r1.2.fI,r1.2.fIn,r1.2.fD.Ar,r1.2.fD.fAt,r1.2.fD.AI)
  ).bind λ Y6 =>
 ck (inR (Y6.2.1+1)) <|
 some (ai.mk Y6.1 (Y6.2.1+1) Y6.2.2.1 (ao.mk Y6.2.2.2.1 Y6.2.2.2.2.1 Y6.2.2.2.2.2))
instance yE (n:Nat) (OF:ai) (s_1:Bytes):∀ (r:ai),HO (bQ n OF s_1=some r) Tryz.prog 109 [.ptr 1000000 0,.p (eS s_1)] [(1000000,((ai.cs OF).map .p))] (.tuple []) ([(1000000,((ai.cs r).map .p))]):=by
 refine hO good [] [1000000] Tryz.func109 Z Z λ r h0 _ w0 F=>?_;unfold bQ at h0;have:=js [1];have:=jO 1 (List ac×Int×Int×Int×Int×Bytes) λ v=>[(1000000,(pU v))]
 exact J0
def dp (n:Nat)(OF:ai)(e_1:ad):Option (ad×ao×ai) :=
 (au OF).bind λ r1 =>
 if r1.1=true then
  some ((ad.mk 0 0 ([]:Bytes) ([]:Bytes) (am.mk 0 0 ([]:Bytes) [] []) [] 0),r1.2.fD,r1.2)
 else
  (kS n e_1).bind λ r4 =>
  if r4=0 then
   some (e_1,(ao.mk 0 0 ([]:Bytes)),r1.2)
  else
   some ((ad.mk 0 0 ([]:Bytes) ([]:Bytes) (am.mk 0 0 ([]:Bytes) [] []) [] 0),(ao.mk r4 e_1.fAt ([]:Bytes)),r1.2)
instance xk (n:Nat) (OF:ai) (e_1:ad):∀ (r:ad×ao×ai),HO (dp n OF e_1=some r) Tryz.prog 36 [.ptr 1000000 0,.p (.agg (ad.cs e_1))] [(1000000,((ai.cs OF).map .p))] (.tuple [.p (.agg (ad.cs r.1)),.p (.agg (ao.cs r.2.1))]) ([(1000000,((ai.cs r.2.2).map .p))]):=by
 refine hO good [] [1000000] Tryz.func36 Z Z λ r h0 _ w0 F=>?_;unfold dp at h0;exact J0
def fU (SQ:am)(N':Int):Option ad :=
 some (ad.mk 1 0 ([]:Bytes) ([]:Bytes) SQ [] N')
instance ES (SQ:am) (N':Int):∀ (r:ad),HP (fU SQ N'=some r) Tryz.prog 42 [.agg (am.cs SQ),eI N'] (.p (.agg (ad.cs r))):=by
 refine hP good Tryz.func42 Z Z λ r h0 _ w0=>?_;unfold fU at h0;exact J0
def fK (Mr:Bytes)(SL:Int)(t_2:Bytes):Option Bool :=
 (
   ck (inR (SL+(t_2.length:Int))) <|
   if SL+(t_2.length:Int)<=(Mr.length:Int) then
    ck (inR (SL+(t_2.length:Int))) <|
    ck ((0:Int)<=SL/\SL<=SL+(t_2.length:Int)/\SL+(t_2.length:Int)<=(Mr.length:Int)) <|
    some (decide (sub Mr SL (SL+(t_2.length:Int))=t_2))
   else
    some false
  ).bind λ t5 =>
 some t5
instance Fb (Mr:Bytes) (SL:Int) (t_2:Bytes):∀ (r:Bool),HP (fK Mr SL t_2=some r) Tryz.prog 79 [eS Mr,eI SL,eS t_2] (.p (eB r)):=by
 refine hP good Tryz.func79 Z Z λ r h0 _ w0=>?_;unfold fK at h0;have:=js [100];have:=jS 100 Bool λ v=>[(6,.p (eB v))]
 exact J0
def dh (UB:Bytes->Int->Option Int)(Mr:Bytes):Nat->Int->Int->Option (Unit⊕Int)
 | 0,_,_=>none
 | m+1,i22,depth23 =>
 if i22 < (Mr.length:Int) then
  jn (
    ck ((0:Int)<=i22/\i22 < (Mr.length:Int)) <|
    if byt Mr i22=34 then
     ck (inR (i22+1)) <|
     (UB Mr (i22+1)).bind λ Ty =>
     if Ty < 0 then
      some (.inr (.inr (-1)))
     else
      some (.inl (Ty,depth23))
    else
     (
       ck ((0:Int)<=i22/\i22 < (Mr.length:Int)) <|
       if byt Mr i22=123 then
        ck (inR (depth23+1)) <|
        some (depth23+1)
       else
        some depth23
      ).bind λ depth34 =>
     jn (
       ck ((0:Int)<=i22/\i22 < (Mr.length:Int)) <|
       if byt Mr i22=125 then
        if depth34=0 then
         some (.inr (.inr (.inr i22)))
        else
         ck (inR (depth34 - 1)) <|
         some (.inl (depth34 - 1))
       else
        some (.inl depth34)
      : Option (Int⊕((Int×Int)⊕(Unit⊕Int)))) λ depth39 =>
     ck (inR (i22+1)) <|
     some (.inl (i22+1,depth39))
   : Option ((Int×Int)⊕(Unit⊕Int))) λ VY =>
  dh UB Mr m VY.1 VY.2
 else
  some (.inl ())
def eY (T5:Bytes->Int->Option Int)(Mr:Bytes):Nat->Int->Option (Unit⊕Int)
 | 0,_=>none
 | m+1,i23 =>
 if i23 < (Mr.length:Int) then
  jn (
    ck ((0:Int)<=i23/\i23 < (Mr.length:Int)) <|
    if byt Mr i23=92 then
     ck (inR (i23+2)) <|
     some (.inl (i23+2))
    else
     ck ((0:Int)<=i23/\i23 < (Mr.length:Int)) <|
     if byt Mr i23=34 then
      ck (inR (i23+1)) <|
      some (.inr (.inr (i23+1)))
     else
      (fK Mr i23 ([36,36,123]:Bytes)).bind λ Wd =>
      if Wd=true then
       ck (inR (i23+3)) <|
       some (.inl (i23+3))
      else
       (fK Mr i23 ([36,123]:Bytes)).bind λ Xh =>
       if Xh=true then
        ck (inR (i23+2)) <|
        (T5 Mr (i23+2)).bind λ Wc =>
        if Wc < 0 then
         some (.inr (.inr (-1)))
        else
         ck (inR (Wc+1)) <|
         some (.inl (Wc+1))
       else
        ck (inR (i23+1)) <|
        some (.inl (i23+1))
   : Option (Int⊕(Unit⊕Int))) λ i44 =>
  eY T5 Mr m i44
 else
  some (.inl ())
mutual
def cE:Nat->Bytes->Int->Option Int
 | 0,_,_=>none
 | n+1,Mr,SL =>
 jn (dh (gN n) Mr n SL 0) λ _q45 =>
 some (-1)
def gN:Nat->Bytes->Int->Option Int
 | 0,_,_=>none
 | n+1,Mr,SL =>
 jn (eY (cE n) Mr n SL) λ _VY =>
 some (-1)
end
theorem qP (n:Nat):sj (cE n) 80/\sj (gN n) 127:=by
 induction n with
 | zero=>exact Zr
 | succ n ih =>
 obtain ⟨_,_⟩:=ih;refine ⟨?_,?_⟩
 ·refine λ Mr SL=>hP good Tryz.func80 Z Z λ r h0 _ w0=>?_;rw [cE] at h0;refine nx 10 rfl ?_;obtain ⟨YK,h1,TC,hR0⟩:=br h0;refine kEx 0 (λ WW:Unit=>YK=.inl WW) (λ WW=>⟨[],[]⟩) (λ WW hv=>?_) ?_
  ·exact fO
  refine lG (λ (T9:Int×Int)=>⟨[(0,.p (eS Mr)),(1,.p (eI T9.1)),(5,.p (eI T9.2))],[]⟩) (λ m (T9:Int×Int)=>dh (gN n) Mr m T9.1 T9.2) Y (SL,0) h1 (gE rfl rfl) ?_;rintro m ⟨i22,depth23⟩ h1;replace h1:dh (gN n) Mr (m+1) i22 depth23=some YK:=h1;rw [dh] at h1;refine nx 5 rfl (oLs rfl ?_);refine nx 2 rfl (fD [9] h1 rfl (λ XW h1=>?_) λ XW h1=>?_)
  ·refine nx 2 rfl ?_;obtain ⟨X5,h2,hL1,hR1⟩:=br h1;refine kX (λ v53:Int×Int=>X5=.inl v53) (λ v53=>⟨[(0,.p (eS Mr)),(1,.p (eI v53.1)),(5,.p (eI v53.2))],[]⟩) (λ v53 hv=>?_) ?_
   ·have h1:=hL1 _ hv;exact ay
   refine nx 6 Z (oI h2 Z λ VQ h2=>?_);refine nx 2 Z (fD [13] h2 Z (λ Yz h2=>?_) λ Yz h2=>?_)
   ·exact bV
   refine nx 3 Z (bd h2 λ o54 h3 h2=>?_);refine kN o54 (λ v55=>⟨[(0,.p (eS Mr)),(1,.p (eI i22)),(5,.p (eI v55))],[]⟩) ?_ ?_
   ·refine nx 2 rfl ?_;obtain ⟨o56,h3,hL2,hR2⟩:=br h2;refine kX (λ v57:Int=>o56=.inl v57) (λ v57=>⟨[(0,.p (eS Mr)),(1,.p (eI i22)),(5,.p (eI v57))],[]⟩) (λ v57 hv=>?_) ?_
    ·have h2:=hL2 _ hv;exact bV
    refine nx 4 Z (oI h3 Z λ W8 h3=>?_);refine nx 2 Z (fD [29] h3 Z (λ XV h3=>?_) λ XV h3=>?_)
    ·refine nx 7 Z (fD [31] h3 Z (λ c37 h3=>?_) λ c37 h3=>?_)
     ·exact nx 7 Z (mQ (hR0 _ (hR1 _ (hR2 _ (oi h3).symm).symm).symm) Z (sr))
     refine nx 4 Z (oA h3 Z Z λ Zn h3=>?_);exact lZ
    exact lZ
   refine nx 4 Z (oI h3 Z λ XI h3=>?_);refine nx 2 Z (fD [23] h3 Z (λ c32 h3=>?_) λ c32 h3=>?_)
   ·refine nx 3 Z (oA h3 Z Z λ aas h3=>?_);exact lZ
   exact lZ
  exact ay
 ·refine λ Mr SL=>hP good Tryz.func127 Z Z λ r h0 _ w0=>?_;rw [gN] at h0;refine nx 6 rfl ?_;obtain ⟨Ym,h1,TC,hR0⟩:=br h0;refine kEx 0 (λ WP:Unit=>Ym=.inl WP) (λ WP=>⟨[],[]⟩) (λ WP hv=>?_) ?_
  ·exact fO
  refine lG (λ (Xy:Int)=>⟨[(0,.p (eS Mr)),(1,.p (eI Xy))],[]⟩) (λ m (Xy:Int)=>eY (cE n) Mr m Xy) Y SL h1 (gE rfl rfl) ?_;rintro m i23 h1;replace h1:eY (cE n) Mr (m+1) i23=some Ym:=h1;rw [eY] at h1;refine nx 5 rfl (oLs rfl ?_);refine nx 2 rfl (fD [9] h1 rfl (λ XW h1=>?_) λ XW h1=>?_)
  ·refine nx 2 rfl ?_;obtain ⟨o51,h2,hL1,hR1⟩:=br h1;refine kX (λ X9:Int=>o51=.inl X9) (λ X9=>⟨[(0,.p (eS Mr)),(1,.p (eI X9))],[]⟩) (λ X9 hv=>?_) ?_
   ·have h1:=hL1 _ hv;exact ay
   exact bV
  exact ay
instance DY (n:Nat):sj (cE n) 80:=(qP n).1
def eZ (n:Nat)(Mr:Bytes):Nat->Int->Bytes->Option ((Int×Bytes)⊕(Bytes×Int×Int))
 | 0,_,_=>none
 | m+1,i22,Tw =>
 (
   if i22 < (Mr.length:Int) then
    (fK Mr i22 ([36,123]:Bytes)).bind λ UE =>
    some (!UE)
   else
    some false
  ).bind λ t27 =>
 if t27=true then
  jn (
    if 4096 < (Tw.length:Int) then
     some (.inr (.inr (Tw,i22,0)))
    else
     (fK Mr i22 ([36,36,123]:Bytes)).bind λ Wm =>
     if Wm=true then
      ck (Tw.length+([36,123]:Bytes).length<=9223372036854775807) <|
      ck (inR (i22+3)) <|
      some (.inl (i22+3,Tw++([36,123]:Bytes)))
     else
      ck ((0:Int)<=i22/\i22 < (Mr.length:Int)) <|
      if byt Mr i22=34 then
       some (.inr (.inr (([]:Bytes),i22,2)))
      else
       (lS n Mr i22).bind λ Z7 =>
       if Z7.2.2=0 then
        ck (Tw.length+Z7.1.length<=9223372036854775807) <|
        some (.inl (Z7.2.1,Tw++Z7.1))
       else
        some (.inr (.inr (([]:Bytes),i22,Z7.2.2)))
   : Option ((Int×Bytes)⊕((Int×Bytes)⊕(Bytes×Int×Int)))) λ Xz =>
  eZ n Mr m Xz.1 Xz.2
 else
  some (.inl (i22,Tw))
def lX (n:Nat)(Mr:Bytes)(SL:Int):Option (Bytes×Int×Int) :=
 jn (eZ n Mr n SL ([]:Bytes)) λ U8 =>
 some (U8.2,U8.1,0)
instance Lo (n:Nat) (Mr:Bytes) (SL:Int):∀ (r:Bytes×Int×Int),HP (lX n Mr SL=some r) Tryz.prog 81 [eS Mr,eI SL] (.tuple [.p (eS r.1),.p (eI r.2.1),.p (eI r.2.2)]):=by
 refine hP good Tryz.func81 Z Z λ r h0 _ w0=>?_;unfold lX at h0;refine nx 12 rfl ?_;obtain ⟨Ww,h1,TC,hR0⟩:=br h0;refine kEx 0 (λ v51:Int×Bytes=>Ww=.inl v51) (λ v51=>⟨[(1,.p (eI v51.1)),(7,.p (eS v51.2))],[]⟩) (λ v51 hv=>?_) ?_
 ·exact fO
 refine lG (λ (V6:Int×Bytes)=>⟨[(0,.p (eS Mr)),(1,.p (eI V6.1)),(7,.p (eS V6.2))],[]⟩) (λ m (V6:Int×Bytes)=>eZ n Mr m V6.1 V6.2) Y (SL,([]:Bytes)) h1 (gE rfl rfl) ?_;rintro m ⟨i22,Tw⟩ h1;replace h1:eZ n Mr (m+1) i22 Tw=some Ww:=h1;rw [eZ] at h1;refine nx 2 rfl (bd h1 λ Wh h2 h1=>?_);refine kN Wh (λ Xp=>⟨[(0,.p (eS Mr)),(1,.p (eI i22)),(7,.p (eS Tw)),(20,.p (eB Xp))],[]⟩) ?_ ?_
 ·refine nx 1 Z (fB [20] h1 Z (λ c28 h1=>?_) λ c28 h1=>?_)
  ·refine nx 2 rfl ?_;obtain ⟨o55,h2,hL1,hR1⟩:=br h1;refine kX (λ YP:Int×Bytes=>o55=.inl YP) (λ YP=>⟨[(0,.p (eS Mr)),(1,.p (eI YP.1)),(7,.p (eS YP.2))],[]⟩) (λ YP hv=>?_) ?_
   ·have h1:=hL1 _ hv;exact ay
   exact bV
  exact ay
 exact bV
def cR (n:Nat)(OF:ai)(s_1:Bytes):Option (Bool×ai) :=
 (bF n OF).bind λ r1 =>
 (
   if r1.1.Ar=1 then
    some (decide (r1.1.B'=s_1))
   else
    some false
  ).bind λ t4 =>
 some (t4,r1.2)
instance yX (n:Nat) (OF:ai) (s_1:Bytes):∀ (r:Bool×ai),HO (cR n OF s_1=some r) Tryz.prog 216 [.ptr 1000000 0,.p (eS s_1)] [(1000000,((ai.cs OF).map .p))] (.p (eB r.1)) ([(1000000,((ai.cs r.2).map .p))]):=by
 refine hO good [] [1000000] Tryz.func216 Z Z λ r h0 _ w0 F=>?_;unfold cR at h0;have:=js [200];have:=jS 200 Bool λ v=>[(4,.p (eB v))]
 exact J0
def cn (n:Nat)(OF:ai):Option (Bytes×ai) :=
 (bF n OF).bind λ r1 =>
 (
   (
     if r1.1.Ar=1 then
      (ei r1.1.B').bind λ r4 =>
      some r4
     else
      some true
    ).bind λ t6 =>
   if t6=true then
    (bT n r1.2).bind λ r8 =>
    some (r8.fL,r8.fI,r8.fIn,r8.fD.Ar,r8.fD.fAt,r8.fD.AI)
   else
    some (r1.2.fL,r1.2.fI,r1.2.fIn,r1.2.fD.Ar,r1.2.fD.fAt,r1.2.fD.AI)
  ).bind λ XC =>
 ck (inR (XC.2.1+1)) <|
 some (r1.1.B',(ai.mk XC.1 (XC.2.1+1) XC.2.2.1 (ao.mk XC.2.2.2.1 XC.2.2.2.2.1 XC.2.2.2.2.2)))
instance vo (n:Nat) (OF:ai):∀ (r:Bytes×ai),HO (cn n OF=some r) Tryz.prog 226 [.ptr 1000000 0] [(1000000,((ai.cs OF).map .p))] (.p (eS r.1)) ([(1000000,((ai.cs r.2).map .p))]):=by
 refine hO good [] [1000000] Tryz.func226 Z Z λ r h0 _ w0 F=>?_;unfold cn at h0;have:=js [201,200];have:=jO 201 (List ac×Int×Int×Int×Int×Bytes) λ v=>[(1000000,(pU v))]
 have:=jS 200 Bool λ v=>[(13,.p (eB v))]
 exact J0
def mX (SX:Int):Option (List Bytes) :=
 if SX=0 then
  some ([([124,124]:Bytes)])
 else
  if SX=1 then
   some ([([38,38]:Bytes)])
  else
   if SX=2 then
    some ([([61,61]:Bytes),([33,61]:Bytes)])
   else
    if SX=3 then
     some ([([60]:Bytes),([60,61]:Bytes),([62]:Bytes),([62,61]:Bytes)])
    else
     if SX=4 then
      some ([([43]:Bytes),([45]:Bytes)])
     else
      some ([([42]:Bytes),([47]:Bytes),([37]:Bytes)])
instance GM (SX:Int):∀ (r:(List Bytes)),HP (mX SX=some r) Tryz.prog 168 [eI SX] (.p (eL eS r)):=by
 refine hP good Tryz.func168 Z Z λ r h0 _ w0=>?_;unfold mX at h0;refine nx 15 Z (fD [4,5] h0 Z (λ c1 h0=>?_) λ c1 h0=>?_)
 ·exact JO
 exact Kc
def mU (SX:Int):Option Int :=
 if SX=0 then
  some 3
 else
  if SX=1 then
   some 4
  else
   if SX=2 then
    some 5
   else
    if SX=3 then
     some 7
    else
     if SX=4 then
      some 11
     else
      some 13
instance FM (SX:Int):∀ (r:Int),HP (mU SX=some r) Tryz.prog 169 [eI SX] (.p (eI r)):=by
 refine hP good Tryz.func169 Z Z λ r h0 _ w0=>?_;unfold mU at h0;exact J0
def bJ (n:Nat)(O':Int)(r1:(List Bytes)):Nat->Int->(List ac)->Int->Int->Int->Int->Bytes->Option (((List ac)×Int×Int×Int×Int×Bytes)⊕(Int×ai))
 | 0,_,_,_,_,_,_,_=>none
 | m+1,i19,Yw,Yv,Yu,f23,f24,f25 =>
 if i19 < (r1.length:Int) then
  ck ((0:Int)<=i19/\i19 < (r1.length:Int)) <|
  (aW n (ai.mk Yw Yv Yu (ao.mk f23 f24 f25)) (lat r1 i19)).bind λ Ty =>
  if Ty.1=true then
   (mU O').bind λ Wd =>
   ck (inR (Wd+i19)) <|
   some (.inr (Wd+i19,Ty.2))
  else
   ck (inR (i19+1)) <|
   bJ n O' r1 m (i19+1) Ty.2.fL Ty.2.fI Ty.2.fIn Ty.2.fD.Ar Ty.2.fD.fAt Ty.2.fD.AI
 else
  some (.inl (Yw,Yv,Yu,f23,f24,f25))
def dw (n:Nat)(OF:ai)(O':Int):Option (Int×ai) :=
 (mX O').bind λ r1 =>
 jn (bJ n O' r1 n 0 OF.fL OF.fI OF.fIn OF.fD.Ar OF.fD.fAt OF.fD.AI) λ XA =>
 some (0,(ai.mk XA.1 XA.2.1 XA.2.2.1 (ao.mk XA.2.2.2.1 XA.2.2.2.2.1 XA.2.2.2.2.2)))
instance vD (n:Nat) (OF:ai) (O':Int):∀ (r:Int×ai),HO (dw n OF O'=some r) Tryz.prog 144 [.ptr 1000000 0,.p (eI O')] [(1000000,((ai.cs OF).map .p))] (.p (eI r.1)) ([(1000000,((ai.cs r.2).map .p))]):=by
 refine hO good [] [1000000] Tryz.func144 Z Z λ r h0 _ w0 F=>?_;unfold dw at h0;refine nx 7 rfl (K0 λ r1 h0=>nx 8 rfl ?_);obtain ⟨YK,h1,TC,hR0⟩:=br h0;refine kEx 0 (λ WW:(List ac)×Int×Int×Int×Int×Bytes=>YK=.inl WW) (λ WW=>⟨[],[(1000000,(pU WW))]⟩) (λ WW hv=>?_) ?_
 ·exact fO
 refine lG (λ (T9:Int×(List ac)×Int×Int×Int×Int×Bytes)=>⟨[(0,.ptr 1000000 0),(1,.p (eI O')),(5,.p (eL eS r1)),(6,.p (eI T9.1))],[(1000000,(pU T9.2))]⟩) (λ m (T9:Int×(List ac)×Int×Int×Int×Int×Bytes)=>bJ n O' r1 m T9.1 T9.2.1 T9.2.2.1 T9.2.2.2.1 T9.2.2.2.2.1 T9.2.2.2.2.2.1 T9.2.2.2.2.2.2) Y (0,OF.fL,OF.fI,OF.fIn,OF.fD.Ar,OF.fD.fAt,OF.fD.AI) h1 (gE rfl rfl) ?_;rintro m ⟨i19,Yw,Yv,Yu,f23,f24,f25⟩ h1;replace h1:bJ n O' r1 (m+1) i19 Yw Yv Yu f23 f24 f25=some YK:=h1;rw [bJ] at h1;exact ay
end Go.Ab.R06
end
section
namespace Go.Ab.R06
open Go.Proofs Go.Ab Go.Ab.RB
section
variable {p:Prop}
theorem JI (h:p:=by
  exact nx 7 Z (mQo (hR0 _ (hR1 _ (oi h2).symm).symm) (aU _) Z Z Z Z (sr) ⟨⟨_,Z,⟨sr,sr,sr,sr,sr,sr,trivial⟩⟩,trivial⟩)):p:=h
end
set_option maxRecDepth 4000
attribute [local irreducible] awp io bg bO cv AV.sub M cZ
instance Qz:HE Tryz.prog 42:=⟨Tryz.call42⟩
instance Qy:HE Tryz.prog 67:=⟨Tryz.call67⟩
instance QI:HE Tryz.prog 81:=⟨Tryz.call81⟩
instance QK:HE Tryz.prog 109:=⟨Tryz.call109⟩
instance Q5:HE Tryz.prog 143:=⟨Tryz.call143⟩
instance Pa:HE Tryz.prog 144:=⟨Tryz.call144⟩
instance PX:HE Tryz.prog 167:=⟨Tryz.call167⟩
instance Pe:HE Tryz.prog 187:=⟨Tryz.call187⟩
instance P5:HE Tryz.prog 200:=⟨Tryz.call200⟩
instance PG:HE Tryz.prog 20:=⟨Tryz.call20⟩
instance PH:HE Tryz.prog 201:=⟨Tryz.call201⟩
instance OO:HE Tryz.prog 202:=⟨Tryz.call202⟩
instance Qm:HE Tryz.prog 203:=⟨Tryz.call203⟩
instance N9:HE Tryz.prog 215:=⟨Tryz.call215⟩
instance OM:HE Tryz.prog 216:=⟨Tryz.call216⟩
instance Om:HE Tryz.prog 217:=⟨Tryz.call217⟩
instance Qf:HE Tryz.prog 226:=⟨Tryz.call226⟩
abbrev nG (F:ai->Option (ad×ai))(k:Nat):Prop:=∀ (a0:ai) (r:ad×ai),HO (F a0=some r) Tryz.prog k [.ptr 1000000 0] [(1000000,((ai.cs a0).map .p))] (.p (.agg (ad.cs r.1))) ([(1000000,((ai.cs r.2).map .p))])
abbrev uJ (F:ai->ac->Option (ad×ai))(k:Nat):Prop:=∀ (a0:ai) (a1:ac) (r:ad×ai),HO (F a0 a1=some r) Tryz.prog k [.ptr 1000000 0,.p (.agg (ac.cs a1))] [(1000000,((ai.cs a0).map .p))] (.p (.agg (ad.cs r.1))) ([(1000000,((ai.cs r.2).map .p))])
abbrev uP (F:Bytes->Int->Option (ad×ao))(k:Nat):Prop:=∀ (a0:Bytes) (a1:Int) (r:ad×ao),HP (F a0 a1=some r) Tryz.prog k [eS a0,eI a1] (.tuple [.p (.agg (ad.cs r.1)),.p (.agg (ao.cs r.2))])
abbrev Fz (v:Int×Int×Bytes×Bytes×Int×Int×Bytes×List am×List Bytes×List ad×Int):List AV:=[.p (eI v.1),.p (eI v.2.1),.p (eS v.2.2.1),.p (eS v.2.2.2.1),.p (eI v.2.2.2.2.1),.p (eI v.2.2.2.2.2.1),.p (eS v.2.2.2.2.2.2.1),.p (eL cY v.2.2.2.2.2.2.2.1),.p (eL eS v.2.2.2.2.2.2.2.2.1),.p (eL ak v.2.2.2.2.2.2.2.2.2.1),.p (eI v.2.2.2.2.2.2.2.2.2.2)]
abbrev a8 (v:List ac×Int×Int×Int×Int×Bytes):List AV:=[.p (eL aG v.1),.p (eI v.2.1),.p (eI v.2.2.1),.p (eI v.2.2.2.1),.p (eI v.2.2.2.2.1),.p (eS v.2.2.2.2.2)]
abbrev cT (a0 a1 a2 a3 a4:AV):List AV:=[a0,.p (eI 0),a1,a2,.p (eI 0),.p (eI 0),.p (eS ([]:Bytes)),.p (.val (.slice none 0 0)),.p (.val (.slice none 0 0)),a3,a4]
abbrev eC (a0 a1:AV):List AV:=[.p (eI 11),.p (eI 0),.p (eS ([]:Bytes)),.p (eS ([]:Bytes)),.p (eI 0),.p (eI 0),.p (eS ([]:Bytes)),.p (.val (.slice none 0 0)),.p (.val (.slice none 0 0)),a0,a1]
abbrev lV (a0 a1 a2 a3:AV):List AV:=[a0,.p (eI 0),a1,a2,.p (eI 0),.p (eI 0),.p (eS ([]:Bytes)),.p (.val (.slice none 0 0)),.p (.val (.slice none 0 0)),.p (.val (.slice none 0 0)),a3]
abbrev aE:List AV:=[.p (eI 0),.p (eI 0),.p (eS ([]:Bytes)),.p (eS ([]:Bytes)),.p (eI 0),.p (eI 0),.p (eS ([]:Bytes)),.p (.val (.slice none 0 0)),.p (.val (.slice none 0 0)),.p (.val (.slice none 0 0)),.p (eI 0)]
abbrev J2:List PV:=[eI 0,eI 0,eS ([]:Bytes),eS ([]:Bytes),eI 0,eI 0,eS ([]:Bytes),.val (.slice none 0 0),.val (.slice none 0 0),.val (.slice none 0 0),eI 0]
abbrev iS:List AV:=[.p (eI 0),.p (eI 0),.p (eS ([]:Bytes))]
def d9 (N':Int)(r1:(List ac)×ao):Nat->(List ac)->Int->Option (List ac)
 | 0,_,_=>none
 | m+1,Tn,i15 =>
 if i15 < (r1.1.length:Int) then
  ck ((0:Int)<=i15/\i15 < (r1.1.length:Int)) <|
  ck ((0:Int)<=i15/\i15 < (r1.1.length:Int)) <|
  ck ((0:Int)<=i15/\i15 < (r1.1.length:Int)) <|
  ck (inR (((lat r1.1 i15).fAt)+N')) <|
  ck ((Tn.length+[(ac.mk ((lat r1.1 i15).Ar) ((lat r1.1 i15).B') (((lat r1.1 i15).fAt)+N'))].length)*32<=140737488355328) <|
  ck (inR (i15+1)) <|
  d9 N' r1 m (Tn++[(ac.mk ((lat r1.1 i15).Ar) ((lat r1.1 i15).B') (((lat r1.1 i15).fAt)+N'))]) (i15+1)
 else
  some Tn
def cB (n:Nat)(Uh:Bytes->Int->Option (ad×ao))(Mr:Bytes)(N':Int):Nat->(List ad)->Bool->Int->Option (((List ad)×Bool)⊕((List ad)×Bool×ao))
 | 0,_,_,_=>none
 | m+1,Ur,open36,i37 =>
 if i37 < (Mr.length:Int) then
  jn (
    (fK Mr i37 ([36,123]:Bytes)).bind λ Wc =>
    if Wc=true then
     ck (inR (i37+2)) <|
     (cE n Mr (i37+2)).bind λ UT =>
     if UT < 0 then
      ck (inR (N'+i37)) <|
      some (.inr (.inr ([],false,(ao.mk 40 (N'+i37) ([]:Bytes)))))
     else
      ck (inR (i37+2)) <|
      ck ((0:Int)<=i37+2/\i37+2<=UT/\UT<=(Mr.length:Int)) <|
      ck (inR (N'+i37)) <|
      ck (inR ((N'+i37)+2)) <|
      (Uh (sub Mr (i37+2) UT) ((N'+i37)+2)).bind λ TR =>
      if TR.2.Ar=0 then
       ck ((Ur.length+[TR.1].length)*160<=140737488355328) <|
       ck (inR (UT+1)) <|
       some (.inl (Ur++[TR.1],true,UT+1))
      else
       some (.inr (.inr ([],false,TR.2)))
    else
     (lX n Mr i37).bind λ Ux =>
     if Ux.2.2=0 then
      if 4096 < (Ux.1.length:Int) then
       ck (inR (N'+i37)) <|
       some (.inr (.inr ([],false,(ao.mk 3 (N'+i37) ([]:Bytes)))))
      else
       ck (inR (N'+i37)) <|
       (fU (am.mk 3 0 Ux.1 [] []) (N'+i37)).bind λ Va =>
       ck ((Ur.length+[Va].length)*160<=140737488355328) <|
       some (.inl (Ur++[Va],open36,Ux.2.1))
     else
      ck (inR (N'+Ux.2.1)) <|
      some (.inr (.inr ([],false,(ao.mk Ux.2.2 (N'+Ux.2.1) ([]:Bytes)))))
   : Option (((List ad)×Bool×Int)⊕(((List ad)×Bool)⊕((List ad)×Bool×ao)))) λ Wn =>
  cB n Uh Mr N' m Wn.1 Wn.2.1 Wn.2.2
 else
  some (.inl (Ur,open36))
def bK (n:Nat)(TM:ai->Int->Option (ad×ai))(O':Int)(r5:ad×ai):Nat->Int->Int->Bytes->Bytes->Int->Int->Bytes->(List am)->(List Bytes)->(List ad)->(List ac)->Int->Int->Int->Int->Bytes->Option (Int×Int×Bytes×Bytes×Int×Int×Bytes×(List am)×(List Bytes)×(List ad)×(List ac)×Int×Int×Int×Int×Bytes)
 | 0,_,_,_,_,_,_,_,_,_,_,_,_,_,_,_,_=>none
 | m+1,Vk,Vj,VI,VH,XS,XR,WO,WN,WM,Vw,VT,WL,XQ,XP,XO,XN =>
 (
   (au (ai.mk VT WL XQ (ao.mk XP XO XN))).bind λ TX =>
   if (!TX.1)=true then
    (dw n TX.2 O').bind λ TQ =>
    some (!decide (TQ.1=0),TQ.2.fL,TQ.2.fI,TQ.2.fIn,TQ.2.fD.Ar,TQ.2.fD.fAt,TQ.2.fD.AI)
   else
    some (false,TX.2.fL,TX.2.fI,TX.2.fIn,TX.2.fD.Ar,TX.2.fD.fAt,TX.2.fD.AI)
  ).bind λ U2 =>
 if U2.1=true then
  (dw n (ai.mk U2.2.1 U2.2.2.1 U2.2.2.2.1 (ao.mk U2.2.2.2.2.1 U2.2.2.2.2.2.1 U2.2.2.2.2.2.2)) O').bind λ Xs =>
  ck (inR (Xs.2.fI+1)) <|
  ck (inR (O'+1)) <|
  (TM (ai.mk Xs.2.fL (Xs.2.fI+1) Xs.2.fIn Xs.2.fD) (O'+1)).bind λ U' =>
  bK n TM O' r5 m 7 Xs.1 ([]:Bytes) ([]:Bytes) 0 0 ([]:Bytes) [] [] [(ad.mk Vk Vj VI VH (am.mk XS XR WO WN WM) Vw r5.1.fAt),U'.1] U'.2.fL U'.2.fI U'.2.fIn U'.2.fD.Ar U'.2.fD.fAt U'.2.fD.AI
 else
  some (Vk,Vj,VI,VH,XS,XR,WO,WN,WM,Vw,U2.2.1,U2.2.2.1,U2.2.2.2.1,U2.2.2.2.2.1,U2.2.2.2.2.2.1,U2.2.2.2.2.2.2)
def ba (n:Nat)(S9:ai->Option (ad×ai))(r1:ad×ai):Nat->Int->Int->Bytes->Bytes->Int->Int->Bytes->(List am)->(List Bytes)->(List ad)->(List ac)->Int->Int->Int->Int->Bytes->Option ((Int×Int×Bytes×Bytes×Int×Int×Bytes×(List am)×(List Bytes)×(List ad)×(List ac)×Int×Int×Int×Int×Bytes)⊕(ad×ai))
 | 0,_,_,_,_,_,_,_,_,_,_,_,_,_,_,_,_=>none
 | m+1,VS,WK,WJ,WI,WH,WG,WF,WE,TV,WC,Zw,Zv,Zu,Zt,Zs,f75 =>
 (au (ai.mk Zw Zv Zu (ao.mk Zt Zs f75))).bind λ VG =>
 if (!VG.1)=true then
  jn (
    (aW n VG.2 ([46]:Bytes)).bind λ YD =>
    if YD.1=true then
     ck (inR (YD.2.fI+1)) <|
     (bF n (ai.mk YD.2.fL (YD.2.fI+1) YD.2.fIn YD.2.fD)).bind λ Vz =>
     if Vz.1.Ar=1 then
      ck (inR (Vz.2.fI+1)) <|
      some (.inl (4,Vz.1.B',[(ad.mk VS WK WJ WI (am.mk WH WG WF WE TV) WC r1.1.fAt)],Vz.2.fL,Vz.2.fI+1,Vz.2.fIn,Vz.2.fD.Ar,Vz.2.fD.fAt,Vz.2.fD.AI))
     else
      (bT n Vz.2).bind λ r86 =>
      some (.inr (.inr ((ad.mk VS WK WJ WI (am.mk WH WG WF WE TV) WC r1.1.fAt),r86)))
    else
     (aW n YD.2 ([91]:Bytes)).bind λ Yd =>
     if Yd.1=true then
      ck (inR (Yd.2.fI+1)) <|
      ck (inR (Yd.2.fIn+1)) <|
      (S9 (ai.mk Yd.2.fL (Yd.2.fI+1) (Yd.2.fIn+1) Yd.2.fD)).bind λ Vp =>
      (
        (au Vp.2).bind λ Xr =>
        if (!Xr.1)=true then
         (bQ n Xr.2 ([93]:Bytes)).bind λ YY =>
         some (YY.fL,YY.fI,YY.fIn,YY.fD.Ar,YY.fD.fAt,YY.fD.AI)
        else
         some (Xr.2.fL,Xr.2.fI,Xr.2.fIn,Xr.2.fD.Ar,Xr.2.fD.fAt,Xr.2.fD.AI)
       ).bind λ Wr =>
      ck (inR (Wr.2.2.1 - 1)) <|
      some (.inl (5,([]:Bytes),[(ad.mk VS WK WJ WI (am.mk WH WG WF WE TV) WC r1.1.fAt),Vp.1],Wr.1,Wr.2.1,Wr.2.2.1 - 1,Wr.2.2.2.1,Wr.2.2.2.2.1,Wr.2.2.2.2.2))
     else
      some (.inr (.inr ((ad.mk VS WK WJ WI (am.mk WH WG WF WE TV) WC r1.1.fAt),Yd.2)))
   : Option ((Int×Bytes×(List ad)×(List ac)×Int×Int×Int×Int×Bytes)⊕((Int×Int×Bytes×Bytes×Int×Int×Bytes×(List am)×(List Bytes)×(List ad)×(List ac)×Int×Int×Int×Int×Bytes)⊕(ad×ai)))) λ VN =>
  ba n S9 r1 m VN.1 0 VN.2.1 ([]:Bytes) 0 0 ([]:Bytes) [] [] VN.2.2.1 VN.2.2.2.1 VN.2.2.2.2.1 VN.2.2.2.2.2.1 VN.2.2.2.2.2.2.1 VN.2.2.2.2.2.2.2.1 VN.2.2.2.2.2.2.2.2
 else
  some (.inl (VS,WK,WJ,WI,WH,WG,WF,WE,TV,WC,VG.2.fL,VG.2.fI,VG.2.fIn,VG.2.fD.Ar,VG.2.fD.fAt,VG.2.fD.AI))
def bn (n:Nat)(TU:ai->Option (ad×ai))(TS:ai->Option (ad×ai)):Nat->(List ad)->(List ac)->Int->Int->Int->Int->Bytes->Option ((List ad)×(List ac)×Int×Int×Int×Int×Bytes)
 | 0,_,_,_,_,_,_,_=>none
 | m+1,TV,WC,Zw,Zv,Zu,Zt,Zs =>
 (
   (au (ai.mk WC Zw Zv (ao.mk Zu Zt Zs))).bind λ U' =>
   if (!U'.1)=true then
    (aW n U'.2 ([125]:Bytes)).bind λ Wa =>
    some (!Wa.1,Wa.2.fL,Wa.2.fI,Wa.2.fIn,Wa.2.fD.Ar,Wa.2.fD.fAt,Wa.2.fD.AI)
   else
    some (false,U'.2.fL,U'.2.fI,U'.2.fIn,U'.2.fD.Ar,U'.2.fD.fAt,U'.2.fD.AI)
  ).bind λ UY =>
 if UY.1=true then
  (
    (TU (ai.mk UY.2.1 UY.2.2.1 UY.2.2.2.1 (ao.mk UY.2.2.2.2.1 UY.2.2.2.2.2.1 UY.2.2.2.2.2.2))).bind λ UD =>
    ck ((TV.length+[UD.1].length)*160<=140737488355328) <|
    (
      (au UD.2).bind λ Yc =>
      if (!Yc.1)=true then
       (bQ n Yc.2 ([61]:Bytes)).bind λ Vp =>
       some (Vp.fL,Vp.fI,Vp.fIn,Vp.fD.Ar,Vp.fD.fAt,Vp.fD.AI)
      else
       some (Yc.2.fL,Yc.2.fI,Yc.2.fIn,Yc.2.fD.Ar,Yc.2.fD.fAt,Yc.2.fD.AI)
     ).bind λ W1 =>
    (TS (ai.mk W1.1 W1.2.1 W1.2.2.1 (ao.mk W1.2.2.2.1 W1.2.2.2.2.1 W1.2.2.2.2.2))).bind λ Ut =>
    ck (((TV++[UD.1]).length+[Ut.1].length)*160<=140737488355328) <|
    (
      (au Ut.2).bind λ VM =>
      if (!VM.1)=true then
       (aW n VM.2 ([125]:Bytes)).bind λ TN =>
       some (!TN.1,TN.2.fL,TN.2.fI,TN.2.fIn,TN.2.fD.Ar,TN.2.fD.fAt,TN.2.fD.AI)
      else
       some (false,VM.2.fL,VM.2.fI,VM.2.fIn,VM.2.fD.Ar,VM.2.fD.fAt,VM.2.fD.AI)
     ).bind λ UX =>
    if UX.1=true then
     (bQ n (ai.mk UX.2.1 UX.2.2.1 UX.2.2.2.1 (ao.mk UX.2.2.2.2.1 UX.2.2.2.2.2.1 UX.2.2.2.2.2.2)) ([44]:Bytes)).bind λ Us =>
     some ((TV++[UD.1])++[Ut.1],Us.fL,Us.fI,Us.fIn,Us.fD.Ar,Us.fD.fAt,Us.fD.AI)
    else
     some ((TV++[UD.1])++[Ut.1],UX.2.1,UX.2.2.1,UX.2.2.2.1,UX.2.2.2.2.1,UX.2.2.2.2.2.1,UX.2.2.2.2.2.2)
   ).bind λ To =>
  bn n TU TS m To.1 To.2.1 To.2.2.1 To.2.2.2.1 To.2.2.2.2.1 To.2.2.2.2.2.1 To.2.2.2.2.2.2
 else
  some (TV,UY.2.1,UY.2.2.1,UY.2.2.2.1,UY.2.2.2.2.1,UY.2.2.2.2.2.1,UY.2.2.2.2.2.2)
def bu (n:Nat)(S9:ai->Option (ad×ai))(end_1:Bytes):Nat->(List ad)->(List ac)->Int->Int->Int->Int->Bytes->Option ((List ad)×(List ac)×Int×Int×Int×Int×Bytes)
 | 0,_,_,_,_,_,_,_=>none
 | m+1,UK,WO,WN,WM,Vw,VT,WL =>
 (
   (au (ai.mk WO WN WM (ao.mk Vw VT WL))).bind λ UP =>
   if (!UP.1)=true then
    (aW n UP.2 end_1).bind λ X2 =>
    some (!X2.1,X2.2.fL,X2.2.fI,X2.2.fIn,X2.2.fD.Ar,X2.2.fD.fAt,X2.2.fD.AI)
   else
    some (false,UP.2.fL,UP.2.fI,UP.2.fIn,UP.2.fD.Ar,UP.2.fD.fAt,UP.2.fD.AI)
  ).bind λ U1 =>
 if U1.1=true then
  (
    (S9 (ai.mk U1.2.1 U1.2.2.1 U1.2.2.2.1 (ao.mk U1.2.2.2.2.1 U1.2.2.2.2.2.1 U1.2.2.2.2.2.2))).bind λ YE =>
    ck ((UK.length+[YE.1].length)*160<=140737488355328) <|
    (
      (au YE.2).bind λ Ye =>
      if (!Ye.1)=true then
       (aW n Ye.2 end_1).bind λ Uw =>
       some (!Uw.1,Uw.2.fL,Uw.2.fI,Uw.2.fIn,Uw.2.fD.Ar,Uw.2.fD.fAt,Uw.2.fD.AI)
      else
       some (false,Ye.2.fL,Ye.2.fI,Ye.2.fIn,Ye.2.fD.Ar,Ye.2.fD.fAt,Ye.2.fD.AI)
     ).bind λ U0 =>
    if U0.1=true then
     (bQ n (ai.mk U0.2.1 U0.2.2.1 U0.2.2.2.1 (ao.mk U0.2.2.2.2.1 U0.2.2.2.2.2.1 U0.2.2.2.2.2.2)) ([44]:Bytes)).bind λ Vz =>
     some (UK++[YE.1],Vz.fL,Vz.fI,Vz.fIn,Vz.fD.Ar,Vz.fD.fAt,Vz.fD.AI)
    else
     some (UK++[YE.1],U0.2.1,U0.2.2.1,U0.2.2.2.1,U0.2.2.2.2.1,U0.2.2.2.2.2.1,U0.2.2.2.2.2.2)
   ).bind λ Wv =>
  bu n S9 end_1 m Wv.1 Wv.2.1 Wv.2.2.1 Wv.2.2.2.1 Wv.2.2.2.2.1 Wv.2.2.2.2.2.1 Wv.2.2.2.2.2.2
 else
  some (UK,U1.2.1,U1.2.2.1,U1.2.2.2.1,U1.2.2.2.2.1,U1.2.2.2.2.2.1,U1.2.2.2.2.2.2)
mutual
def ed:Nat->Bytes->Int->Option (ad×ao)
 | 0,_,_=>none
 | n+1,Mr,N' =>
 ((lg n) Mr N').bind λ r1 =>
 (
   if (!r1.2.1)=true then
    (fU (am.mk 3 0 ([]:Bytes) [] []) N').bind λ r4 =>
    if (r1.1.length:Int)=1 then
     ck ((0:Int)<=0/\0 < (r1.1.length:Int)) <|
     some (r4.Ar,r4.fOp,r4.AI,r4.Gw,r4.A'.Ar,r4.A'.E',((lat r1.1 0).A').If,r4.A'.Df,r4.A'.C',r4.By,r4.fAt)
    else
     some (r4.Ar,r4.fOp,r4.AI,r4.Gw,r4.A'.Ar,r4.A'.E',r4.A'.If,r4.A'.Df,r4.A'.C',r4.By,r4.fAt)
   else
    some (2,0,([]:Bytes),([]:Bytes),0,0,([]:Bytes),[],[],r1.1,N')
  ).bind λ Wq =>
 (dp n (ai.mk [] 0 0 r1.2.2) (ad.mk Wq.1 Wq.2.1 Wq.2.2.1 Wq.2.2.2.1 (am.mk Wq.2.2.2.2.1 Wq.2.2.2.2.2.1 Wq.2.2.2.2.2.2.1 Wq.2.2.2.2.2.2.2.1 Wq.2.2.2.2.2.2.2.2.1) Wq.2.2.2.2.2.2.2.2.2.1 Wq.2.2.2.2.2.2.2.2.2.2)).bind λ Vd =>
 some (Vd.1,Vd.2.1)
def dM:Nat->Bytes->Int->Option (ad×ao)
 | 0,_,_=>none
 | n+1,Mr,N' =>
 (mw n Mr).bind λ r1 =>
 if r1.2.Ar=0 then
  (d9 N' r1 n [] 0).bind λ Yn =>
  ((aK n) (ai.mk Yn 0 1 (ao.mk 0 0 ([]:Bytes)))).bind λ TT =>
  (
    (
      (au TT.2).bind λ Ty =>
      if (!Ty.1)=true then
       (bF n Ty.2).bind λ Wd =>
       some (!decide (Wd.1.Ar=6),Wd.2.fL,Wd.2.fI,Wd.2.fIn,Wd.2.fD.Ar,Wd.2.fD.fAt,Wd.2.fD.AI)
      else
       some (false,Ty.2.fL,Ty.2.fI,Ty.2.fIn,Ty.2.fD.Ar,Ty.2.fD.fAt,Ty.2.fD.AI)
     ).bind λ T9 =>
    if T9.1=true then
     (bT n (ai.mk T9.2.1 T9.2.2.1 T9.2.2.2.1 (ao.mk T9.2.2.2.2.1 T9.2.2.2.2.2.1 T9.2.2.2.2.2.2))).bind λ Yg =>
     some (Yg.fL,Yg.fI,Yg.fIn,Yg.fD.Ar,Yg.fD.fAt,Yg.fD.AI)
    else
     some (T9.2.1,T9.2.2.1,T9.2.2.2.1,T9.2.2.2.2.1,T9.2.2.2.2.2.1,T9.2.2.2.2.2.2)
   ).bind λ Xy =>
  some (TT.1,(ao.mk Xy.2.2.2.1 Xy.2.2.2.2.1 Xy.2.2.2.2.2))
 else
  ck (inR (r1.2.fAt+N')) <|
  some ((ad.mk 0 0 ([]:Bytes) ([]:Bytes) (am.mk 0 0 ([]:Bytes) [] []) [] 0),(ao.mk r1.2.Ar (r1.2.fAt+N') ([]:Bytes)))
def lg:Nat->Bytes->Int->Option ((List ad)×Bool×ao)
 | 0,_,_=>none
 | n+1,Mr,N' =>
 jn (cB n (dM n) Mr N' n [] false 0) λ q74 =>
 some (q74.1,q74.2,(ao.mk 0 0 ([]:Bytes)))
def aK:Nat->ai->Option (ad×ai)
 | 0,_=>none
 | n+1,OF =>
 ((bA n) OF 0).bind λ r1 =>
 (
   (au r1.2).bind λ r3 =>
   if r3.1=true then
    some (true,r3.2.fL,r3.2.fI,r3.2.fIn,r3.2.fD.Ar,r3.2.fD.fAt,r3.2.fD.AI)
   else
    (aW n r3.2 ([63]:Bytes)).bind λ r6 =>
    some (!r6.1,r6.2.fL,r6.2.fI,r6.2.fIn,r6.2.fD.Ar,r6.2.fD.fAt,r6.2.fD.AI)
  ).bind λ Uy =>
 if Uy.1=true then
  some (r1.1,(ai.mk Uy.2.1 Uy.2.2.1 Uy.2.2.2.1 (ao.mk Uy.2.2.2.2.1 Uy.2.2.2.2.2.1 Uy.2.2.2.2.2.2)))
 else
  ck (inR (Uy.2.2.1+1)) <|
  ((aK n) (ai.mk Uy.2.1 (Uy.2.2.1+1) Uy.2.2.2.1 (ao.mk Uy.2.2.2.2.1 Uy.2.2.2.2.2.1 Uy.2.2.2.2.2.2))).bind λ VL =>
  (au VL.2).bind λ Vd =>
  if Vd.1=true then
   some (r1.1,Vd.2)
  else
   (bQ n Vd.2 ([58]:Bytes)).bind λ Vb =>
   (au Vb).bind λ Vs =>
   if Vs.1=true then
    some (r1.1,Vs.2)
   else
    ((aK n) Vs.2).bind λ Uc =>
    some ((ad.mk 8 0 ([]:Bytes) ([]:Bytes) (am.mk 0 0 ([]:Bytes) [] []) [r1.1,VL.1,Uc.1] r1.1.fAt),Uc.2)
def bA:Nat->ai->Int->Option (ad×ai)
 | 0,_,_=>none
 | n+1,OF,O' =>
 if 5 < O' then
  ((dJ n) OF).bind λ r2 =>
  some (r2.1,r2.2)
 else
  ck (inR (O'+1)) <|
  ((bA n) OF (O'+1)).bind λ r5 =>
  (bK n (bA n) O' r5 n r5.1.Ar r5.1.fOp r5.1.AI r5.1.Gw r5.1.A'.Ar r5.1.A'.E' r5.1.A'.If r5.1.A'.Df r5.1.A'.C' r5.1.By r5.2.fL r5.2.fI r5.2.fIn r5.2.fD.Ar r5.2.fD.fAt r5.2.fD.AI).bind λ Uf =>
  some ((ad.mk Uf.1 Uf.2.1 Uf.2.2.1 Uf.2.2.2.1 (am.mk Uf.2.2.2.2.1 Uf.2.2.2.2.2.1 Uf.2.2.2.2.2.2.1 Uf.2.2.2.2.2.2.2.1 Uf.2.2.2.2.2.2.2.2.1) Uf.2.2.2.2.2.2.2.2.2.1 r5.1.fAt),(ai.mk Uf.2.2.2.2.2.2.2.2.2.2.1 Uf.2.2.2.2.2.2.2.2.2.2.2.1 Uf.2.2.2.2.2.2.2.2.2.2.2.2.1 (ao.mk Uf.2.2.2.2.2.2.2.2.2.2.2.2.2.1 Uf.2.2.2.2.2.2.2.2.2.2.2.2.2.2.1 Uf.2.2.2.2.2.2.2.2.2.2.2.2.2.2.2)))
def dJ:Nat->ai->Option (ad×ai)
 | 0,_=>none
 | n+1,OF =>
 (bF n OF).bind λ r1 =>
 (
   (aW n r1.2 ([33]:Bytes)).bind λ r3 =>
   if r3.1=true then
    some (1,r3.2.fL,r3.2.fI,r3.2.fIn,r3.2.fD.Ar,r3.2.fD.fAt,r3.2.fD.AI)
   else
    some (0,r3.2.fL,r3.2.fI,r3.2.fIn,r3.2.fD.Ar,r3.2.fD.fAt,r3.2.fD.AI)
  ).bind λ Uy =>
 (
   (aW n (ai.mk Uy.2.1 Uy.2.2.1 Uy.2.2.2.1 (ao.mk Uy.2.2.2.2.1 Uy.2.2.2.2.2.1 Uy.2.2.2.2.2.2)) ([45]:Bytes)).bind λ UU =>
   if UU.1=true then
    some (2,UU.2.fL,UU.2.fI,UU.2.fIn,UU.2.fD.Ar,UU.2.fD.fAt,UU.2.fD.AI)
   else
    some (Uy.1,UU.2.fL,UU.2.fI,UU.2.fIn,UU.2.fD.Ar,UU.2.fD.fAt,UU.2.fD.AI)
  ).bind λ Wo =>
 if Wo.1=0 then
  ((fj n) (ai.mk Wo.2.1 Wo.2.2.1 Wo.2.2.2.1 (ao.mk Wo.2.2.2.2.1 Wo.2.2.2.2.2.1 Wo.2.2.2.2.2.2))).bind λ Vs =>
  some (Vs.1,Vs.2)
 else
  ck (inR (Wo.2.2.1+1)) <|
  ((dJ n) (ai.mk Wo.2.1 (Wo.2.2.1+1) Wo.2.2.2.1 (ao.mk Wo.2.2.2.2.1 Wo.2.2.2.2.2.1 Wo.2.2.2.2.2.2))).bind λ Uc =>
  some ((ad.mk 6 Wo.1 ([]:Bytes) ([]:Bytes) (am.mk 0 0 ([]:Bytes) [] []) [Uc.1] r1.1.fAt),Uc.2)
def fj:Nat->ai->Option (ad×ai)
 | 0,_=>none
 | n+1,OF =>
 ((bB n) OF).bind λ r1 =>
 jn (ba n (aK n) r1 n r1.1.Ar r1.1.fOp r1.1.AI r1.1.Gw r1.1.A'.Ar r1.1.A'.E' r1.1.A'.If r1.1.A'.Df r1.1.A'.C' r1.1.By r1.2.fL r1.2.fI r1.2.fIn r1.2.fD.Ar r1.2.fD.fAt r1.2.fD.AI) λ Ue =>
 some ((ad.mk Ue.1 Ue.2.1 Ue.2.2.1 Ue.2.2.2.1 (am.mk Ue.2.2.2.2.1 Ue.2.2.2.2.2.1 Ue.2.2.2.2.2.2.1 Ue.2.2.2.2.2.2.2.1 Ue.2.2.2.2.2.2.2.2.1) Ue.2.2.2.2.2.2.2.2.2.1 r1.1.fAt),(ai.mk Ue.2.2.2.2.2.2.2.2.2.2.1 Ue.2.2.2.2.2.2.2.2.2.2.2.1 Ue.2.2.2.2.2.2.2.2.2.2.2.2.1 (ao.mk Ue.2.2.2.2.2.2.2.2.2.2.2.2.2.1 Ue.2.2.2.2.2.2.2.2.2.2.2.2.2.2.1 Ue.2.2.2.2.2.2.2.2.2.2.2.2.2.2.2)))
def bB:Nat->ai->Option (ad×ai)
 | 0,_=>none
 | n+1,OF =>
 (bF n OF).bind λ r1 =>
 if r1.1.Ar=2 then
  (lm n r1.1.B').bind λ r4 =>
  (
    if r4.2=0 then
     some (r1.2.fL,r1.2.fI,r1.2.fIn,r1.2.fD.Ar,r1.2.fD.fAt,r1.2.fD.AI)
    else
     (fv r1.2 r4.2 r1.1.fAt).bind λ r7 =>
     some (r7.fL,r7.fI,r7.fIn,r7.fD.Ar,r7.fD.fAt,r7.fD.AI)
   ).bind λ Wg =>
  ck (inR (Wg.2.1+1)) <|
  (fU (am.mk 2 r4.1 ([]:Bytes) [] []) r1.1.fAt).bind λ WR =>
  some (WR,(ai.mk Wg.1 (Wg.2.1+1) Wg.2.2.1 (ao.mk Wg.2.2.2.1 Wg.2.2.2.2.1 Wg.2.2.2.2.2)))
 else
  if r1.1.Ar=3 then
   ck (inR (r1.1.fAt+1)) <|
   ((ed n) r1.1.B' (r1.1.fAt+1)).bind λ T7 =>
   (
     if T7.2.Ar=0 then
      some (r1.2.fL,r1.2.fI,r1.2.fIn,r1.2.fD.Ar,r1.2.fD.fAt,r1.2.fD.AI)
     else
      (fv r1.2 T7.2.Ar T7.2.fAt).bind λ Ts =>
      some (Ts.fL,Ts.fI,Ts.fIn,Ts.fD.Ar,Ts.fD.fAt,Ts.fD.AI)
    ).bind λ Y3 =>
   ck (inR (Y3.2.1+1)) <|
   some ((ad.mk T7.1.Ar T7.1.fOp T7.1.AI T7.1.Gw T7.1.A' T7.1.By r1.1.fAt),(ai.mk Y3.1 (Y3.2.1+1) Y3.2.2.1 (ao.mk Y3.2.2.2.1 Y3.2.2.2.2.1 Y3.2.2.2.2.2)))
  else
   if r1.1.Ar=1 then
    ((fw n) r1.2 r1.1).bind λ Vq =>
    some (Vq.1,Vq.2)
   else
    (aW n r1.2 ([40]:Bytes)).bind λ Xh =>
    if Xh.1=true then
     ck (inR (Xh.2.fI+1)) <|
     ck (inR (Xh.2.fIn+1)) <|
     ((aK n) (ai.mk Xh.2.fL (Xh.2.fI+1) (Xh.2.fIn+1) Xh.2.fD)).bind λ Xu =>
     (
       (au Xu.2).bind λ Uo =>
       if (!Uo.1)=true then
        (bQ n Uo.2 ([41]:Bytes)).bind λ V4 =>
        some (V4.fL,V4.fI,V4.fIn,V4.fD.Ar,V4.fD.fAt,V4.fD.AI)
       else
        some (Uo.2.fL,Uo.2.fI,Uo.2.fIn,Uo.2.fD.Ar,Uo.2.fD.fAt,Uo.2.fD.AI)
      ).bind λ Y2 =>
     ck (inR (Y2.2.2.1 - 1)) <|
     some (Xu.1,(ai.mk Y2.1 Y2.2.1 (Y2.2.2.1 - 1) (ao.mk Y2.2.2.2.1 Y2.2.2.2.2.1 Y2.2.2.2.2.2)))
    else
     (aW n Xh.2 ([91]:Bytes)).bind λ UP =>
     if UP.1=true then
      ((iG n) UP.2 r1.1).bind λ X2 =>
      some (X2.1,X2.2)
     else
      (aW n UP.2 ([123]:Bytes)).bind λ Xt =>
      if Xt.1=true then
       ((gR n) Xt.2 r1.1).bind λ r62 =>
       some (r62.1,r62.2)
      else
       (bT n Xt.2).bind λ r64 =>
       some ((ad.mk 0 0 ([]:Bytes) ([]:Bytes) (am.mk 0 0 ([]:Bytes) [] []) [] 0),r64)
def fw:Nat->ai->ac->Option (ad×ai)
 | 0,_,_=>none
 | n+1,OF,t_1 =>
 if t_1.B'=([110,117,108,108]:Bytes) then
  ck (inR (OF.fI+1)) <|
  (fU (am.mk 0 0 ([]:Bytes) [] []) t_1.fAt).bind λ r3 =>
  some (r3,(ai.mk OF.fL (OF.fI+1) OF.fIn OF.fD))
 else
  (
    if t_1.B'=([116,114,117,101]:Bytes) then
     some true
    else
     some (decide (t_1.B'=([102,97,108,115,101]:Bytes)))
   ).bind λ t6 =>
  if t6=true then
   ck (inR (OF.fI+1)) <|
   (
     if t_1.B'=([116,114,117,101]:Bytes) then
      some 1
     else
      some 0
    ).bind λ f10 =>
   (fU (am.mk 1 f10 ([]:Bytes) [] []) t_1.fAt).bind λ VW =>
   some (VW,(ai.mk OF.fL (OF.fI+1) OF.fIn OF.fD))
  else
   (ei t_1.B').bind λ UU =>
   if UU=true then
    (bT n OF).bind λ WR =>
    some ((ad.mk 0 0 ([]:Bytes) ([]:Bytes) (am.mk 0 0 ([]:Bytes) [] []) [] 0),WR)
   else
    ck (inR (OF.fI+1)) <|
    (aW n (ai.mk OF.fL (OF.fI+1) OF.fIn OF.fD) ([40]:Bytes)).bind λ Vd =>
    if (!Vd.1)=true then
     some ((ad.mk 3 0 t_1.B' ([]:Bytes) (am.mk 0 0 ([]:Bytes) [] []) [] t_1.fAt),Vd.2)
    else
     ck (inR (Vd.2.fI+1)) <|
     ((eR n) (ai.mk Vd.2.fL (Vd.2.fI+1) Vd.2.fIn Vd.2.fD) ([41]:Bytes)).bind λ Ts =>
     some ((ad.mk 9 0 t_1.B' ([]:Bytes) (am.mk 0 0 ([]:Bytes) [] []) Ts.1 t_1.fAt),Ts.2)
def iG:Nat->ai->ac->Option (ad×ai)
 | 0,_,_=>none
 | n+1,OF,t_1 =>
 ck (inR (OF.fI+1)) <|
 ck (inR (OF.fIn+1)) <|
 (cR n (ai.mk OF.fL (OF.fI+1) (OF.fIn+1) OF.fD) ([102,111,114]:Bytes)).bind λ r3 =>
 ck (inR (r3.2.fIn - 1)) <|
 if r3.1=true then
  ((ea n) (ai.mk r3.2.fL r3.2.fI (r3.2.fIn - 1) r3.2.fD) t_1 ([93]:Bytes)).bind λ r7 =>
  some (r7.1,r7.2)
 else
  ((eR n) (ai.mk r3.2.fL r3.2.fI (r3.2.fIn - 1) r3.2.fD) ([93]:Bytes)).bind λ r9 =>
  some ((ad.mk 10 0 ([]:Bytes) ([]:Bytes) (am.mk 0 0 ([]:Bytes) [] []) r9.1 t_1.fAt),r9.2)
def gR:Nat->ai->ac->Option (ad×ai)
 | 0,_,_=>none
 | n+1,OF,t_1 =>
 ck (inR (OF.fI+1)) <|
 ck (inR (OF.fIn+1)) <|
 (cR n (ai.mk OF.fL (OF.fI+1) (OF.fIn+1) OF.fD) ([102,111,114]:Bytes)).bind λ r3 =>
 if r3.1=true then
  ck (inR (r3.2.fIn - 1)) <|
  ((ea n) (ai.mk r3.2.fL r3.2.fI (r3.2.fIn - 1) r3.2.fD) t_1 ([125]:Bytes)).bind λ r7 =>
  some (r7.1,r7.2)
 else
  (bn n (cb n) (bf n) n [] r3.2.fL r3.2.fI r3.2.fIn r3.2.fD.Ar r3.2.fD.fAt r3.2.fD.AI).bind λ V7 =>
  ck (inR (V7.2.2.2.1 - 1)) <|
  (
    (au (ai.mk V7.2.1 V7.2.2.1 (V7.2.2.2.1 - 1) (ao.mk V7.2.2.2.2.1 V7.2.2.2.2.2.1 V7.2.2.2.2.2.2))).bind λ UF =>
    if (!UF.1)=true then
     ck (inR (UF.2.fI+1)) <|
     some (UF.2.fL,UF.2.fI+1,UF.2.fIn,UF.2.fD.Ar,UF.2.fD.fAt,UF.2.fD.AI)
    else
     some (UF.2.fL,UF.2.fI,UF.2.fIn,UF.2.fD.Ar,UF.2.fD.fAt,UF.2.fD.AI)
   ).bind λ W0 =>
  some ((ad.mk 11 0 ([]:Bytes) ([]:Bytes) (am.mk 0 0 ([]:Bytes) [] []) V7.1 t_1.fAt),(ai.mk W0.1 W0.2.1 W0.2.2.1 (ao.mk W0.2.2.2.1 W0.2.2.2.2.1 W0.2.2.2.2.2)))
def eR:Nat->ai->Bytes->Option ((List ad)×ai)
 | 0,_,_=>none
 | n+1,OF,end_1 =>
 ck (inR (OF.fIn+1)) <|
 (bu n (aK n) end_1 n [] OF.fL OF.fI (OF.fIn+1) OF.fD.Ar OF.fD.fAt OF.fD.AI).bind λ V9 =>
 ck (inR (V9.2.2.2.1 - 1)) <|
 (
   (au (ai.mk V9.2.1 V9.2.2.1 (V9.2.2.2.1 - 1) (ao.mk V9.2.2.2.2.1 V9.2.2.2.2.2.1 V9.2.2.2.2.2.2))).bind λ UG =>
   if (!UG.1)=true then
    ck (inR (UG.2.fI+1)) <|
    some (UG.2.fL,UG.2.fI+1,UG.2.fIn,UG.2.fD.Ar,UG.2.fD.fAt,UG.2.fD.AI)
   else
    some (UG.2.fL,UG.2.fI,UG.2.fIn,UG.2.fD.Ar,UG.2.fD.fAt,UG.2.fD.AI)
  ).bind λ W4 =>
 some (V9.1,(ai.mk W4.1 W4.2.1 W4.2.2.1 (ao.mk W4.2.2.2.1 W4.2.2.2.2.1 W4.2.2.2.2.2)))
def ea:Nat->ai->ac->Bytes->Option (ad×ai)
 | 0,_,_,_=>none
 | n+1,OF,t_1,end_2 =>
 (
   if end_2=([125]:Bytes) then
    some 13
   else
    some 12
  ).bind λ f2 =>
 ck (inR (OF.fIn+1)) <|
 (bF n (ai.mk OF.fL OF.fI (OF.fIn+1) OF.fD)).bind λ r4 =>
 ck (inR (r4.2.fI+1)) <|
 (cn n (ai.mk r4.2.fL (r4.2.fI+1) r4.2.fIn r4.2.fD)).bind λ r7 =>
 (
   (
     (au r7.2).bind λ r9 =>
     if (!r9.1)=true then
      (aW n r9.2 ([44]:Bytes)).bind λ Tv =>
      some (Tv.1,Tv.2.fL,Tv.2.fI,Tv.2.fIn,Tv.2.fD.Ar,Tv.2.fD.fAt,Tv.2.fD.AI)
     else
      some (false,r9.2.fL,r9.2.fI,r9.2.fIn,r9.2.fD.Ar,r9.2.fD.fAt,r9.2.fD.AI)
    ).bind λ UJ =>
   if UJ.1=true then
    ck (inR (UJ.2.2.1+1)) <|
    (cn n (ai.mk UJ.2.1 (UJ.2.2.1+1) UJ.2.2.2.1 (ao.mk UJ.2.2.2.2.1 UJ.2.2.2.2.2.1 UJ.2.2.2.2.2.2))).bind λ Ts =>
    some (Ts.1,r7.1,Ts.2.fL,Ts.2.fI,Ts.2.fIn,Ts.2.fD.Ar,Ts.2.fD.fAt,Ts.2.fD.AI)
   else
    some (r7.1,([]:Bytes),UJ.2.1,UJ.2.2.1,UJ.2.2.2.1,UJ.2.2.2.2.1,UJ.2.2.2.2.2.1,UJ.2.2.2.2.2.2)
  ).bind λ V8 =>
 (
   (
     (au (ai.mk V8.2.2.1 V8.2.2.2.1 V8.2.2.2.2.1 (ao.mk V8.2.2.2.2.2.1 V8.2.2.2.2.2.2.1 V8.2.2.2.2.2.2.2))).bind λ Vq =>
     if (!Vq.1)=true then
      (cR n Vq.2 ([105,110]:Bytes)).bind λ Xv =>
      some (!Xv.1,Xv.2.fL,Xv.2.fI,Xv.2.fIn,Xv.2.fD.Ar,Xv.2.fD.fAt,Xv.2.fD.AI)
     else
      some (false,Vq.2.fL,Vq.2.fI,Vq.2.fIn,Vq.2.fD.Ar,Vq.2.fD.fAt,Vq.2.fD.AI)
    ).bind λ UZ =>
   if UZ.1=true then
    (bT n (ai.mk UZ.2.1 UZ.2.2.1 UZ.2.2.2.1 (ao.mk UZ.2.2.2.2.1 UZ.2.2.2.2.2.1 UZ.2.2.2.2.2.2))).bind λ V3 =>
    some (V3.fL,V3.fI,V3.fIn,V3.fD.Ar,V3.fD.fAt,V3.fD.AI)
   else
    some (UZ.2.1,UZ.2.2.1,UZ.2.2.2.1,UZ.2.2.2.2.1,UZ.2.2.2.2.2.1,UZ.2.2.2.2.2.2)
  ).bind λ Wu =>
 ck (inR (Wu.2.1+1)) <|
 ((bf n) (ai.mk Wu.1 (Wu.2.1+1) Wu.2.2.1 (ao.mk Wu.2.2.2.1 Wu.2.2.2.2.1 Wu.2.2.2.2.2))).bind λ TD =>
 ck ([TD.1].length*160<=140737488355328) <|
 (
   (au TD.2).bind λ TX =>
   if (!TX.1)=true then
    (bQ n TX.2 ([58]:Bytes)).bind λ TQ =>
    some (TQ.fL,TQ.fI,TQ.fIn,TQ.fD.Ar,TQ.fD.fAt,TQ.fD.AI)
   else
    some (TX.2.fL,TX.2.fI,TX.2.fIn,TX.2.fD.Ar,TX.2.fD.fAt,TX.2.fD.AI)
  ).bind λ W3 =>
 ((bf n) (ai.mk W3.1 W3.2.1 W3.2.2.1 (ao.mk W3.2.2.2.1 W3.2.2.2.2.1 W3.2.2.2.2.2))).bind λ TY =>
 ck (([TD.1].length+[TY.1].length)*160<=140737488355328) <|
 (
   if end_2=([125]:Bytes) then
    (
      (au TY.2).bind λ Uw =>
      if (!Uw.1)=true then
       (bQ n Uw.2 ([61,62]:Bytes)).bind λ VG =>
       some (VG.fL,VG.fI,VG.fIn,VG.fD.Ar,VG.fD.fAt,VG.fD.AI)
      else
       some (Uw.2.fL,Uw.2.fI,Uw.2.fIn,Uw.2.fD.Ar,Uw.2.fD.fAt,Uw.2.fD.AI)
     ).bind λ W2 =>
    ((bf n) (ai.mk W2.1 W2.2.1 W2.2.2.1 (ao.mk W2.2.2.2.1 W2.2.2.2.2.1 W2.2.2.2.2.2))).bind λ VV =>
    ck ((([TD.1]++[TY.1]).length+[VV.1].length)*160<=140737488355328) <|
    some (([TD.1]++[TY.1])++[VV.1],VV.2.fL,VV.2.fI,VV.2.fIn,VV.2.fD.Ar,VV.2.fD.fAt,VV.2.fD.AI)
   else
    some ([TD.1]++[TY.1],TY.2.fL,TY.2.fI,TY.2.fIn,TY.2.fD.Ar,TY.2.fD.fAt,TY.2.fD.AI)
  ).bind λ VO =>
 (
   (
     (au (ai.mk VO.2.1 VO.2.2.1 VO.2.2.2.1 (ao.mk VO.2.2.2.2.1 VO.2.2.2.2.2.1 VO.2.2.2.2.2.2))).bind λ Vp =>
     if (!Vp.1)=true then
      (cR n Vp.2 ([105,102]:Bytes)).bind λ YZ =>
      some (YZ.1,YZ.2.fL,YZ.2.fI,YZ.2.fIn,YZ.2.fD.Ar,YZ.2.fD.fAt,YZ.2.fD.AI)
     else
      some (false,Vp.2.fL,Vp.2.fI,Vp.2.fIn,Vp.2.fD.Ar,Vp.2.fD.fAt,Vp.2.fD.AI)
    ).bind λ UI =>
   if UI.1=true then
    ck (inR (UI.2.2.1+1)) <|
    ((bf n) (ai.mk UI.2.1 (UI.2.2.1+1) UI.2.2.2.1 (ao.mk UI.2.2.2.2.1 UI.2.2.2.2.2.1 UI.2.2.2.2.2.2))).bind λ TN =>
    ck ((VO.1.length+[TN.1].length)*160<=140737488355328) <|
    some (VO.1++[TN.1],TN.2.fL,TN.2.fI,TN.2.fIn,TN.2.fD.Ar,TN.2.fD.fAt,TN.2.fD.AI)
   else
    some (VO.1,UI.2.1,UI.2.2.1,UI.2.2.2.1,UI.2.2.2.2.1,UI.2.2.2.2.2.1,UI.2.2.2.2.2.2)
  ).bind λ Wt =>
 (
   (au (ai.mk Wt.2.1 Wt.2.2.1 Wt.2.2.2.1 (ao.mk Wt.2.2.2.2.1 Wt.2.2.2.2.2.1 Wt.2.2.2.2.2.2))).bind λ Us =>
   if (!Us.1)=true then
    (bQ n Us.2 end_2).bind λ WZ =>
    some (WZ.fL,WZ.fI,WZ.fIn,WZ.fD.Ar,WZ.fD.fAt,WZ.fD.AI)
   else
    some (Us.2.fL,Us.2.fI,Us.2.fIn,Us.2.fD.Ar,Us.2.fD.fAt,Us.2.fD.AI)
  ).bind λ Ws =>
 ck (inR (Ws.2.2.1 - 1)) <|
 some ((ad.mk f2 0 V8.1 V8.2.1 (am.mk 0 0 ([]:Bytes) [] []) Wt.1 t_1.fAt),(ai.mk Ws.1 Ws.2.1 (Ws.2.2.1 - 1) (ao.mk Ws.2.2.2.1 Ws.2.2.2.2.1 Ws.2.2.2.2.2)))
def cb:Nat->ai->Option (ad×ai)
 | 0,_=>none
 | n+1,OF =>
 (bF n OF).bind λ r1 =>
 if r1.1.Ar=1 then
  ck (inR (r1.2.fI+1)) <|
  (fU (am.mk 3 0 r1.1.B' [] []) r1.1.fAt).bind λ r5 =>
  some (r5,(ai.mk r1.2.fL (r1.2.fI+1) r1.2.fIn r1.2.fD))
 else
  (
    if r1.1.Ar=3 then
     some (true,r1.2.fL,r1.2.fI,r1.2.fIn,r1.2.fD.Ar,r1.2.fD.fAt,r1.2.fD.AI)
    else
     (aW n r1.2 ([40]:Bytes)).bind λ r8 =>
     some (r8.1,r8.2.fL,r8.2.fI,r8.2.fIn,r8.2.fD.Ar,r8.2.fD.fAt,r8.2.fD.AI)
   ).bind λ TF =>
  if TF.1=true then
   ((bB n) (ai.mk TF.2.1 TF.2.2.1 TF.2.2.2.1 (ao.mk TF.2.2.2.2.1 TF.2.2.2.2.2.1 TF.2.2.2.2.2.2))).bind λ Ud =>
   some (Ud.1,Ud.2)
  else
   (bT n (ai.mk TF.2.1 TF.2.2.1 TF.2.2.2.1 (ao.mk TF.2.2.2.2.1 TF.2.2.2.2.2.1 TF.2.2.2.2.2.2))).bind λ T7 =>
   some ((ad.mk 0 0 ([]:Bytes) ([]:Bytes) (am.mk 0 0 ([]:Bytes) [] []) [] 0),T7)
def bf:Nat->ai->Option (ad×ai)
 | 0,_=>none
 | n+1,OF =>
 (au OF).bind λ r1 =>
 if r1.1=true then
  some ((ad.mk 0 0 ([]:Bytes) ([]:Bytes) (am.mk 0 0 ([]:Bytes) [] []) [] 0),r1.2)
 else
  ((aK n) r1.2).bind λ r4 =>
  some (r4.1,r4.2)
end
theorem qv (n:Nat):uP (ed n) 20/\uP (dM n) 35/\(∀ (Mr:Bytes) (N':Int) (r:(List ad)×Bool×ao),HP (lg n Mr N'=some r) Tryz.prog 41 [eS Mr,eI N'] (.tuple [.p (eL ak r.1),.p (eB r.2.1),.p (.agg (ao.cs r.2.2))]))/\nG (aK n) 67/\(∀ (OF:ai) (O':Int) (r:ad×ai),HO (bA n OF O'=some r) Tryz.prog 107 [.ptr 1000000 0,.p (eI O')] [(1000000,((ai.cs OF).map .p))] (.p (.agg (ad.cs r.1))) ([(1000000,((ai.cs r.2).map .p))]))/\nG (dJ n) 143/\nG (fj n) 167/\nG (bB n) 187/\uJ (fw n) 201/\uJ (iG n) 202/\uJ (gR n) 203/\(∀ (OF:ai) (end_1:Bytes) (r:(List ad)×ai),HO (eR n OF end_1=some r) Tryz.prog 215 [.ptr 1000000 0,.p (eS end_1)] [(1000000,((ai.cs OF).map .p))] (.p (eL ak r.1)) ([(1000000,((ai.cs r.2).map .p))]))/\(∀ (OF:ai) (t_1:ac) (end_2:Bytes) (r:ad×ai),HO (ea n OF t_1 end_2=some r) Tryz.prog 217 [.ptr 1000000 0,.p (.agg (ac.cs t_1)),.p (eS end_2)] [(1000000,((ai.cs OF).map .p))] (.p (.agg (ad.cs r.1))) ([(1000000,((ai.cs r.2).map .p))]))/\nG (cb n) 218/\nG (bf n) 219:=by
 induction n with
 | zero=>exact Zr
 | succ n ih =>
 obtain ⟨_,_,_,_,_,_,_,_,_,_,_,_,_,_,_⟩:=ih;refine ⟨?_,?_,?_,?_,?_,?_,?_,?_,?_,?_,?_,?_,?_,?_,?_⟩
 ·refine λ Mr N'=>hP good Tryz.func20 Z Z λ r h0 _ w0=>?_;rw [ed] at h0;refine nx 9 Z (bd h0 λ r1 e2 h0=>?_);refine oK (HP.c e2) Z ⟨sr,sr,trivial⟩ Tryz.call41 Z (nx 25 Z ?_);refine bd h0 λ o22 h1 h0=>kN o22 (λ ZU=>⟨[(4,.ptr 4 0),(5,.ptr 5 0),(9,.ptr 20 0),(10,.ptr 10 0)],[(4,aE),(5,iS),(10,(Fz ZU)),(20,[.p (.val (.slice none 0 0)),.p (eI 0),.p (eI 0),.p (eI r1.2.2.Ar),.p (eI r1.2.2.fAt),.p (eS r1.2.2.AI)])]⟩) ?_ ?_
  ·refine nx 5 Z (bd h0 λ Vd e20 h0=>?_);refine mO Z (aY [20] [] 101000 101000 (HO.c e20) Z Z Z Z Z ⟨sr,sr,trivial⟩ Z Z ⟨⟨_,Z,⟨iL _,sr,sr,sr,sr,sr,trivial⟩⟩,trivial⟩ Z Z Z Z Z Z Z Z Tryz.call36 Z Z ?_);exact J0
  exact ay
 ·refine λ Mr N'=>hP good Tryz.func35 Z Z λ r h0 _ w0=>?_;rw [dM] at h0;refine nx 8 Z (bd h0 λ r1 e2 h0=>?_);refine oK (HP.c e2) Z ⟨sr,trivial⟩ Tryz.call27 Z (nx 14 Z ?_);refine fN [19] h0 Z (λ c3 h0=>?_) λ c3 h0=>?_
  ·refine nx 12 Z (bd h0 λ X5 h1 h0=>?_);refine kE 0 X5 (λ v53=>⟨[(4,.ptr 4 0),(5,.ptr 5 0),(8,.vec 54 3 0 (v53.map aG))],[(4,aE),(5,iS)]⟩) ?_ ?_
   ·have:=js [1101,1100];have:=jO 1101 (List ac×Int×Int×Int×Int×Bytes) λ v=>[(57,(a8 v))]
    have:=jB 1100 (Bool×List ac×Int×Int×Int×Int×Bytes) (λ v=>[(68,.p (eB v.1))]) λ v=>[(57,(a8 v.2))]
    exact J0
   refine lG (λ (Vh:(List ac)×Int)=>⟨[(1,.p (eI N')),(4,.ptr 4 0),(5,.ptr 5 0),(6,.p (eL aG r1.1)),(8,.vec 54 3 0 (Vh.1.map aG)),(9,.p (eI Vh.2))],[(4,aE),(5,iS)]⟩) (λ m (Vh:(List ac)×Int)=>d9 N' r1 m Vh.1 Vh.2) Y ([],0) h1 (dX (lq ⟨er rfl,er rfl,er rfl,er rfl,⟨_,rfl,AV.sub_nilvec _ _ _⟩,er rfl,trivial⟩ ⟨⟨_,rfl,⟨sr,sr,sr,sr,sr,sr,sr,sr,sr,sr,sr,trivial⟩⟩,⟨_,rfl,⟨sr,sr,sr,trivial⟩⟩,trivial⟩)) ?_;rintro m ⟨Tn,i15⟩ h1;replace h1:d9 N' r1 (m+1) Tn i15=some X5:=h1;rw [d9] at h1;refine nx 5 rfl (oLl (f:=aG) rfl rfl ?_);refine nx 2 rfl (fD [31] h1 rfl (λ ZG h1=>?_) λ ZG h1=>?_)
   ·refine nx 4 Z (cc' h1 λ V' h1=>?_);refine cc' h1 λ Uv h1=>cc' h1 λ U5 h1=>cc' h1 λ VF h1=>cc' h1 λ U4 h1=>mG (gE (t:=⟨[(1,.p (eI N')),(4,.ptr 4 0),(5,.ptr 5 0),(6,.p (eL aG r1.1)),(8,.vec 54 3 0 (Tn.map aG)),(9,.p (eI i15))],[(4,aE),(5,iS)]⟩) Z Z) (mSq ⟨2,[20,21],(by3 (.some λ i=>Nat.beq i 54||Nat.beq i 54) .none .none),(by3 [(1,.p (eI N')),(4,.ptr 4 0),(5,.ptr 5 0),(6,.p (eL aG r1.1)),(8,.vec 54 3 0 (Tn.map aG)),(9,.p (eI i15))] [(1,.p (eI N')),(4,.ptr 4 0),(5,.ptr 5 0),(6,.p (eL aG r1.1)),(8,.p (eL aG Tn)),(9,.p (eI i15))] [(1,.p (eI N')),(4,.ptr 4 0),(5,.ptr 5 0),(6,.p (eL aG r1.1)),(9,.p (eI i15))]),(λ _=>[(4,aE),(5,iS)])⟩ Z ?_);refine dP (by3 (.vec 54 3 0 (Tn.map aG)) (.p (eL aG Tn)) (.p (eL aG Tn))) Z (dPc (.p (eL aG r1.1)) Z ?_);refine dPc (.p (eI i15)) Z (dO (.rptr (ac.cs (lat r1.1 i15))) [35,36] Z (λ _ sl Sk K hK=>ap Z (jP (f:=aG) (l:=r1.1) ac.cs Z Z Z Z Z Z (Sk _ _ Z) Z (Sk _ _ Z) V' ac.It Y hK)) ?_);refine dPc (.rptr (List.drop 0 (ac.cs (lat r1.1 i15)))) Z (dPc (.p (eI ((lat r1.1 i15).Ar))) Z ?_);refine dPc (.p (eL aG r1.1)) Z (dPc (.p (eI i15)) Z ?_);refine dO (.rptr (ac.cs (lat r1.1 i15))) [40,41] Z (λ _ sl Sk K hK=>ap Z (jP (f:=aG) (l:=r1.1) ac.cs Z Z Z Z Z Z (Sk _ _ Z) Z (Sk _ _ Z) Uv ac.It Y hK)) (dPc (.rptr (List.drop 1 (ac.cs (lat r1.1 i15)))) Z ?_);refine dPc (.p (eS ((lat r1.1 i15).B'))) Z (dPc (.p (eL aG r1.1)) Z ?_);refine dPc (.p (eI i15)) Z (dO (.rptr (ac.cs (lat r1.1 i15))) [45,46] Z (λ _ sl Sk K hK=>ap Z (jP (f:=aG) (l:=r1.1) ac.cs Z Z Z Z Z Z (Sk _ _ Z) Z (Sk _ _ Z) U5 ac.It Y hK)) ?_);refine dPc (.rptr (List.drop 2 (ac.cs (lat r1.1 i15)))) Z (dPc (.p (eI ((lat r1.1 i15).fAt))) Z ?_);refine dPc (.p (eI N')) Z (dO (.p (eI (((lat r1.1 i15).fAt)+N'))) [49,50] Z (λ _ sl Sk K hK=>ap Z (fY Z Z Z (Sk _ _ Z) (Sk _ _ Z) Z VF hK)) ?_);refine dPc (.p (.agg [eI ((lat r1.1 i15).Ar),eS ((lat r1.1 i15).B'),eI (((lat r1.1 i15).fAt)+N')])) Z (dO (.p (eL aG [(ac.mk ((lat r1.1 i15).Ar) ((lat r1.1 i15).B') (((lat r1.1 i15).fAt)+N'))])) [52] Z (λ _ sl Sk K hK=>ap Z (aH aG [(ac.mk ((lat r1.1 i15).Ar) ((lat r1.1 i15).B') (((lat r1.1 i15).fAt)+N'))] Z Z Z Z Z Z (cP (Sk _ _ Z) Z dW) Z Z Z Z Z Z uO hK)) ?_);refine Av (λ _=>.vec 54 3 0 ((Tn++[(ac.mk ((lat r1.1 i15).Ar) ((lat r1.1 i15).B') (((lat r1.1 i15).fAt)+N'))]).map aG)) [(34,_),(53,_)] Z ⟨.inr ⟨0,_,Z,Z,Z⟩,.inr ⟨19,_,Z,Z,Z⟩,trivial⟩ Z Z (H4 Z Y) (lt2 (λ h=>absurd h (by decide)) Y) (λ sl Sk K hK=>ap Z (dZ aG Tn [(ac.mk ((lat r1.1 i15).Ar) ((lat r1.1 i15).B') (((lat r1.1 i15).fAt)+N'))] Z Z Z Z Z Z Z Z (Sk _ _ Z) Z Z (Sk _ _ Z) Z (λ x=>congrArg List.length (ac.It x)) Z Z Z Z U4 hK)) (Av (λ _=>.vec 54 3 0 ((Tn++[(ac.mk ((lat r1.1 i15).Ar) ((lat r1.1 i15).B') (((lat r1.1 i15).fAt)+N'))]).map aG)) [(54,_)] Z ⟨.inr ⟨20,_,Z,Z,Z⟩,trivial⟩ Z Z Y (lt2 (λ h=>absurd h (by decide)) (λ h=>absurd h (by decide))) (λ sl Sk K hK=>ap Z (ry Z Z Z (Sk _ _ Z) hK)) ?_);exact ay
   exact ay
  refine nx 2 Z (cc' h0 λ W7 h0=>?_);refine mG (gE (t:=⟨[(1,.p (eI N')),(4,.ptr 4 0),(5,.ptr 5 0),(7,.ptr 7 0)],[(4,aE),(5,iS),(7,(ao.cs r1.2).map .p)]⟩) Z Z) (mSq ⟨2,[8,9],(λ _=>.none),(λ _=>[(1,.p (eI N')),(4,.ptr 4 0),(5,.ptr 5 0),(7,.ptr 7 0)]),(ob3 ([(4,aE),(5,iS),(7,((ao.cs r1.2).map .p))]) (4,aE) (5,[.p (eI r1.2.Ar),.p (eI (r1.2.fAt+N')),.p (eS ([]:Bytes))]))⟩ Z ?_);refine dPc (.p (.agg J2)) Z (dPc (.ptr 7 0) Z ?_);refine dPc (.p (eI r1.2.Ar)) Z (dPc (.ptr 7 1) Z ?_);refine dPc (.p (eI r1.2.fAt)) Z (dPc (.p (eI N')) Z ?_);refine dO (.p (eI (r1.2.fAt+N'))) [24,25] Z (λ _ sl Sk K hK=>ap Z (fY Z Z Z (Sk _ _ Z) (Sk _ _ Z) Z W7 hK)) (dPc (.p (.agg [eI r1.2.Ar,eI (r1.2.fAt+N'),eS ([]:Bytes)])) Z ?_);exact J0
 ·refine λ Mr N'=>hP good Tryz.func41 Z Z λ r h0 _ w0=>?_;rw [lg] at h0;refine nx 20 rfl ?_;obtain ⟨YJ,h1,TC,hR0⟩:=br h0;refine kEx 0 (λ Wl:(List ad)×Bool=>YJ=.inl Wl) (λ Wl=>⟨[(6,.ptr 6 0),(7,.vec 85 11 0 (Wl.1.map ak)),(8,.p (eB Wl.2))],[(6,iS)]⟩) (λ Wl hv=>?_) ?_
  ·exact fO
  refine lG (λ (Vt:(List ad)×Bool×Int)=>⟨[(0,.p (eS Mr)),(1,.p (eI N')),(6,.ptr 6 0),(7,.vec 85 11 0 (Vt.1.map ak)),(8,.p (eB Vt.2.1)),(9,.p (eI Vt.2.2))],[(6,iS)]⟩) (λ m (Vt:(List ad)×Bool×Int)=>cB n (dM n) Mr N' m Vt.1 Vt.2.1 Vt.2.2) Y ([],false,0) h1 (dX (lq ⟨er rfl,er rfl,er rfl,⟨_,rfl,AV.sub_nilvec _ _ _⟩,er rfl,er rfl,trivial⟩ ⟨⟨_,rfl,⟨sr,sr,sr,trivial⟩⟩,trivial⟩)) ?_;rintro m ⟨Ur,open36,i37⟩ h1;replace h1:cB n (dM n) Mr N' (m+1) Ur open36 i37=some YJ:=h1;rw [cB] at h1;refine nx 5 rfl (oLs rfl ?_);refine nx 2 rfl (fD [19] h1 rfl (λ c38 h1=>?_) λ c38 h1=>?_)
  ·refine nx 2 rfl ?_;obtain ⟨o79,h2,hL1,hR1⟩:=br h1;refine kX (λ v80:(List ad)×Bool×Int=>o79=.inl v80) (λ v80=>⟨[(0,.p (eS Mr)),(1,.p (eI N')),(6,.ptr 6 0),(7,.vec 85 11 0 (v80.1.map ak)),(8,.p (eB v80.2.1)),(9,.p (eI v80.2.2))],[(6,iS)]⟩) (λ v80 hv=>?_) ?_
   ·have h1:=hL1 _ hv;exact ay
   refine nx 6 Z (K2 λ Wc h2=>nx 1 Z ?_);refine fB [22] h2 Z (λ c41 h2=>?_) λ c41 h2=>?_
   ·refine nx 5 Z (oA h2 Z Z λ Ys h2=>?_);refine bd h2 λ UT e44 h2=>oK (HP.c e44) Z ⟨sr,sr,trivial⟩ Tryz.call80 Z (nx 8 Z ?_);refine fD [28] h2 Z (λ c45 h2=>?_) λ c45 h2=>?_
    ·exact bV
    refine nx 6 Z (oA h2 Z Z λ Yr h2=>?_);refine nx 1 Z (oP h2 Z Z Z λ Yq h2=>?_);refine nx 2 Z (oA h2 Z Z λ Zl h2=>?_);refine oA h2 Z Z λ XH h2=>bd h2 λ TR Zz h2=>oK (HP.c Zz) Z ⟨sr,sr,trivial⟩ Tryz.call35 Z (nx 8 Z ?_);refine mG (gE (t:=⟨[(0,.p (eS Mr)),(1,.p (eI N')),(6,.ptr 6 0),(7,.vec 85 11 0 (Ur.map ak)),(10,.p (eI UT)),(11,.ptr 11 0),(12,.ptr 12 0)],[(6,iS),(11,(ad.cs TR.1).map .p),(12,(ao.cs TR.2).map .p)]⟩) Z Z) (nx 7 Z ?_);refine fN [48] h2 Z (λ c53 h2=>?_) λ c53 h2=>?_
    ·refine nx 6 Z (mO Z (aH ak [TR.1] Z Z Z Z Z Z Z Z Z Z Z Z Z fo ?_));refine cc' h2 λ W6 h2=>mO Z (dZ ak Ur [TR.1] Z Z Z Z Z Z Z Z Z Z Z Z Z (λ x=>congrArg List.length (ad.It x)) Z Z Z Z W6 ?_);refine nx 9 Z (oA h2 Z Z λ Yo h2=>?_);exact nx 3 Z (eX _ (oi h2).symm (bj (ca 53 85 Z Z Z Z Z) (gE Z Z)))
    exact bV
   refine nx 6 Z (K2 λ Ux h2=>nx 14 Z ?_);refine fN [64] h2 Z (λ c58 h2=>?_) λ c58 h2=>?_
   ·refine nx 6 Z (oLs Z ?_);refine nx 2 Z (fD [72] h2 Z (λ c60 h2=>?_) λ c60 h2=>?_)
    ·exact bV
    refine nx 9 Z (oA h2 Z Z λ Zj h2=>?_);refine bd h2 λ Va e64 h2=>oK (HP.c e64) Z ⟨nD ⟨.inl Z,.inl Z,.inl Z,.inr ⟨Z,Z⟩,.inr ⟨Z,Z⟩,trivial⟩,sr,trivial⟩ Tryz.call42 Z (mO Z (aH ak [Va] Z Z Z Z Z Z Z Z Z Z Z Z Z fo ?_));refine cc' h2 λ XF h2=>mO Z (dZ ak Ur [Va] Z Z Z Z Z Z Z Z Z Z Z Z Z (λ x=>congrArg List.length (ad.It x)) Z Z Z Z XF ?_);exact bV
   exact bV
  exact ay
 ·refine λ OF=>hO good [] [1000000] Tryz.func67 Z Z λ r h0 _ w0 F=>?_;rw [aK] at h0;refine nx 7 Z (bd h0 λ r1 e2 h0=>?_);refine mO Z (cVq [1000000] [] 101000 101000 (HO.c e2) Tryz.call107 Z ?_);refine nx 5 Z (bd h0 λ X6 h1 h0=>?_);refine kN X6 (λ WQ=>⟨[(0,.ptr 1000000 0),(2,.ptr 2 0),(3,.ptr 3 0),(14,.p (eB WQ.1))],[(2,aE),(3,(ad.cs r1.1).map .p),(1000000,(a8 WQ.2))]⟩) ?_ ?_
  ·refine nx 1 Z (fB [14] h0 Z (λ XX h0=>?_) λ XX h0=>?_)
   ·exact J0
   refine nx 8 Z (oA h0 Z Z λ UN h0=>?_);refine nx 7 Z (K0 λ VL h0=>?_);refine nx 7 Z (K0 λ Vd h0=>?_);refine nx 1 Z (fB [26] h0 Z (λ c21 h0=>?_) λ c21 h0=>?_)
   ·exact J0
   refine nx 5 Z (K0 λ Vb h0=>?_);refine nx 5 Z (K0 λ Vs h0=>?_);refine nx 1 Z (fB [31] h0 Z (λ Yz h0=>?_) λ Yz h0=>?_)
   ·exact J0
   refine nx 5 Z (bd h0 λ Uc e28 h0=>?_);refine mO Z (cVq [1000000] [] 108000 108000 (HO.c e28) Tryz.call67 Z ?_);refine nx 8 Z (mO Z (aH ak [r1.1,VL.1,Uc.1] Z Z Z Z Z Z Z Z Z Z Z Z Z fo ?_));exact J0
  exact ay
 ·refine λ OF O'=>hO good [] [1000000] Tryz.func107 Z Z λ r h0 _ w0 F=>?_;rw [bA] at h0;refine nx 10 Z (fD [9] h0 Z (λ c1 h0=>?_) λ c1 h0=>?_)
  ·exact J0
  refine nx 6 Z (oA h0 Z Z λ W7 h0=>?_);refine bd h0 λ r5 e6 h0=>mO Z (cVq [1000000] [] 102000 102000 (HO.c e6) Tryz.call107 Z ?_);refine nx 5 Z (bd h0 λ aag h1 h0=>?_);refine kE 0 aag (λ Vo=>⟨[(4,.ptr 4 0),(5,.ptr 5 0)],[(4,aE),(5,[.p (eI Vo.1),.p (eI Vo.2.1),.p (eS Vo.2.2.1),.p (eS Vo.2.2.2.1),.p (eI Vo.2.2.2.2.1),.p (eI Vo.2.2.2.2.2.1),.p (eS Vo.2.2.2.2.2.2.1),.p (eL cY Vo.2.2.2.2.2.2.2.1),.p (eL eS Vo.2.2.2.2.2.2.2.2.1),.p (eL ak Vo.2.2.2.2.2.2.2.2.2.1),.p (eI r5.1.fAt)]),(1000000,(a8 Vo.2.2.2.2.2.2.2.2.2.2))]⟩) ?_ ?_
  ·exact J0
  refine lG (λ (TH:Int×Int×Bytes×Bytes×Int×Int×Bytes×(List am)×(List Bytes)×(List ad)×(List ac)×Int×Int×Int×Int×Bytes)=>⟨[(0,.ptr 1000000 0),(1,.p (eI O')),(4,.ptr 4 0),(5,.ptr 5 0)],[(4,aE),(5,[.p (eI TH.1),.p (eI TH.2.1),.p (eS TH.2.2.1),.p (eS TH.2.2.2.1),.p (eI TH.2.2.2.2.1),.p (eI TH.2.2.2.2.2.1),.p (eS TH.2.2.2.2.2.2.1),.p (eL cY TH.2.2.2.2.2.2.2.1),.p (eL eS TH.2.2.2.2.2.2.2.2.1),.p (eL ak TH.2.2.2.2.2.2.2.2.2.1),.p (eI r5.1.fAt)]),(1000000,(a8 TH.2.2.2.2.2.2.2.2.2.2))]⟩) (λ m (TH:Int×Int×Bytes×Bytes×Int×Int×Bytes×(List am)×(List Bytes)×(List ad)×(List ac)×Int×Int×Int×Int×Bytes)=>bK n (bA n) O' r5 m TH.1 TH.2.1 TH.2.2.1 TH.2.2.2.1 TH.2.2.2.2.1 TH.2.2.2.2.2.1 TH.2.2.2.2.2.2.1 TH.2.2.2.2.2.2.2.1 TH.2.2.2.2.2.2.2.2.1 TH.2.2.2.2.2.2.2.2.2.1 TH.2.2.2.2.2.2.2.2.2.2.1 TH.2.2.2.2.2.2.2.2.2.2.2.1 TH.2.2.2.2.2.2.2.2.2.2.2.2.1 TH.2.2.2.2.2.2.2.2.2.2.2.2.2.1 TH.2.2.2.2.2.2.2.2.2.2.2.2.2.2.1 TH.2.2.2.2.2.2.2.2.2.2.2.2.2.2.2) Y (r5.1.Ar,r5.1.fOp,r5.1.AI,r5.1.Gw,r5.1.A'.Ar,r5.1.A'.E',r5.1.A'.If,r5.1.A'.Df,r5.1.A'.C',r5.1.By,r5.2.fL,r5.2.fI,r5.2.fIn,r5.2.fD.Ar,r5.2.fD.fAt,r5.2.fD.AI) h1 (gE rfl rfl) ?_;rintro m ⟨Vk,Vj,VI,VH,XS,XR,WO,WN,WM,Vw,VT,WL,XQ,XP,XO,XN⟩ h1;replace h1:bK n (bA n) O' r5 (m+1) Vk Vj VI VH XS XR WO WN WM Vw VT WL XQ XP XO XN=some aag:=h1;rw [bK] at h1;refine nx 2 rfl (bd h1 λ o114 h2 h1=>?_);refine kN o114 (λ Z5=>⟨[(0,.ptr 1000000 0),(1,.p (eI O')),(4,.ptr 4 0),(5,.ptr 5 0),(24,.p (eB Z5.1))],[(4,aE),(5,[.p (eI Vk),.p (eI Vj),.p (eS VI),.p (eS VH),.p (eI XS),.p (eI XR),.p (eS WO),.p (eL cY WN),.p (eL eS WM),.p (eL ak Vw),.p (eI r5.1.fAt)]),(1000000,(a8 Z5.2))]⟩) ?_ ?_
  ·refine nx 1 Z (fB [24] h1 Z (λ c70 h1=>?_) λ c70 h1=>?_)
   ·refine nx 7 Z (K1 λ Xs h1=>?_);refine nx 8 Z (oA h1 Z Z λ aai h1=>?_);refine nx 8 Z (oA h1 Z Z λ aah h1=>?_);refine bd h1 λ U' e76 h1=>mO Z (cVq [1000000] [] 110000 110000 (HO.c e76) Tryz.call107 Z ?_);refine nx 7 Z (mO Z (aH ak [(ad.mk Vk Vj VI VH (am.mk XS XR WO WN WM) Vw r5.1.fAt),U'.1] Z Z Z Z Z Z Z Z Z Z Z Z Z fo ?_));exact nx 5 Z (eX (7,Xs.1,([]:Bytes),([]:Bytes),0,0,([]:Bytes),[],[],[(ad.mk Vk Vj VI VH (am.mk XS XR WO WN WM) Vw r5.1.fAt),U'.1],U'.2.fL,U'.2.fI,U'.2.fIn,U'.2.fD.Ar,U'.2.fD.fAt,U'.2.fD.AI) h1 (dX (lq ⟨er Z,er Z,er Z,er Z,trivial⟩ ⟨⟨_,Z,⟨sr,sr,sr,sr,sr,sr,sr,sr,sr,sr,sr,trivial⟩⟩,⟨_,Z,⟨sr,sr,sr,sr,sr,sr,sr,iL _,iL _,sr,sr,trivial⟩⟩,⟨_,Z,⟨sr,sr,sr,sr,sr,sr,trivial⟩⟩,trivial⟩)))
   exact ay
  exact bV
 ·refine λ OF=>hO good [] [1000000] Tryz.func143 Z Z λ r h0 _ w0 F=>?_;rw [dJ] at h0;refine nx 7 Z (bd h0 λ r1 e2 h0=>?_);refine mO Z (cVq [1000000] [] 101000 101000 (HO.c e2) Tryz.call73 Z ?_);refine nx 8 Z (bd h0 λ XD h1 h0=>?_);refine kN XD (λ Xf=>⟨[(0,.ptr 1000000 0),(2,.ptr 2 0),(3,.ptr 3 0),(4,.p (eI Xf.1))],[(2,aE),(3,(ac.cs r1.1).map .p),(1000000,(a8 Xf.2))]⟩) ?_ ?_
  ·refine nx 2 Z (bd h0 λ Za h1 h0=>?_);refine kN Za (λ YB=>⟨[(0,.ptr 1000000 0),(2,.ptr 2 0),(3,.ptr 3 0),(4,.p (eI YB.1))],[(2,aE),(3,(ac.cs r1.1).map .p),(1000000,(a8 YB.2))]⟩) ?_ ?_
   ·refine nx 7 Z (fD [13] h0 Z (λ V2 h0=>?_) λ V2 h0=>?_)
    ·exact J0
    refine nx 8 Z (oA h0 Z Z λ WB h0=>?_);refine nx 7 Z (K0 λ Uc h0=>?_);refine nx 7 Z (mO Z (aH ak [Uc.1] Z Z Z Z Z Z Z Z Z Z Z Z Z fo ?_));exact J0
   exact ay
  exact ay
 ·refine λ OF=>hO good [] [1000000] Tryz.func167 Z Z λ r h0 _ w0 F=>?_;rw [fj] at h0;refine nx 7 rfl (K0 λ r1 h0=>?_);refine nx 5 rfl ?_;obtain ⟨aad,h1,TC,hR0⟩:=br h0;refine kEx 0 (λ UA:Int×Int×Bytes×Bytes×Int×Int×Bytes×(List am)×(List Bytes)×(List ad)×(List ac)×Int×Int×Int×Int×Bytes=>aad=.inl UA) (λ UA=>⟨[(2,.ptr 2 0),(3,.ptr 3 0)],[(2,aE),(3,[.p (eI UA.1),.p (eI UA.2.1),.p (eS UA.2.2.1),.p (eS UA.2.2.2.1),.p (eI UA.2.2.2.2.1),.p (eI UA.2.2.2.2.2.1),.p (eS UA.2.2.2.2.2.2.1),.p (eL cY UA.2.2.2.2.2.2.2.1),.p (eL eS UA.2.2.2.2.2.2.2.2.1),.p (eL ak UA.2.2.2.2.2.2.2.2.2.1),.p (eI r1.1.fAt)]),(1000000,(a8 UA.2.2.2.2.2.2.2.2.2.2))]⟩) (λ UA hv=>?_) ?_
  ·exact fO
  refine lG (λ (To:Int×Int×Bytes×Bytes×Int×Int×Bytes×(List am)×(List Bytes)×(List ad)×(List ac)×Int×Int×Int×Int×Bytes)=>⟨[(0,.ptr 1000000 0),(2,.ptr 2 0),(3,.ptr 3 0)],[(2,aE),(3,[.p (eI To.1),.p (eI To.2.1),.p (eS To.2.2.1),.p (eS To.2.2.2.1),.p (eI To.2.2.2.2.1),.p (eI To.2.2.2.2.2.1),.p (eS To.2.2.2.2.2.2.1),.p (eL cY To.2.2.2.2.2.2.2.1),.p (eL eS To.2.2.2.2.2.2.2.2.1),.p (eL ak To.2.2.2.2.2.2.2.2.2.1),.p (eI r1.1.fAt)]),(1000000,(a8 To.2.2.2.2.2.2.2.2.2.2))]⟩) (λ m (To:Int×Int×Bytes×Bytes×Int×Int×Bytes×(List am)×(List Bytes)×(List ad)×(List ac)×Int×Int×Int×Int×Bytes)=>ba n (aK n) r1 m To.1 To.2.1 To.2.2.1 To.2.2.2.1 To.2.2.2.2.1 To.2.2.2.2.2.1 To.2.2.2.2.2.2.1 To.2.2.2.2.2.2.2.1 To.2.2.2.2.2.2.2.2.1 To.2.2.2.2.2.2.2.2.2.1 To.2.2.2.2.2.2.2.2.2.2.1 To.2.2.2.2.2.2.2.2.2.2.2.1 To.2.2.2.2.2.2.2.2.2.2.2.2.1 To.2.2.2.2.2.2.2.2.2.2.2.2.2.1 To.2.2.2.2.2.2.2.2.2.2.2.2.2.2.1 To.2.2.2.2.2.2.2.2.2.2.2.2.2.2.2) Y (r1.1.Ar,r1.1.fOp,r1.1.AI,r1.1.Gw,r1.1.A'.Ar,r1.1.A'.E',r1.1.A'.If,r1.1.A'.Df,r1.1.A'.C',r1.1.By,r1.2.fL,r1.2.fI,r1.2.fIn,r1.2.fD.Ar,r1.2.fD.fAt,r1.2.fD.AI) h1 (gE rfl rfl) ?_;rintro m ⟨VS,WK,WJ,WI,WH,WG,WF,WE,TV,WC,Zw,Zv,Zu,Zt,Zs,f75⟩ h1;replace h1:ba n (aK n) r1 (m+1) VS WK WJ WI WH WG WF WE TV WC Zw Zv Zu Zt Zs f75=some aad:=h1;rw [ba] at h1;refine nx 4 rfl (K1 λ VG h1=>?_);refine nx 2 rfl (fB [10] h1 rfl (λ c78 h1=>?_) λ c78 h1=>?_)
  ·refine nx 2 rfl ?_;obtain ⟨Uu,h2,hL1,hR1⟩:=br h1;refine kX (λ TZ:Int×Bytes×(List ad)×(List ac)×Int×Int×Int×Int×Bytes=>Uu=.inl TZ) (λ TZ=>⟨[(0,.ptr 1000000 0),(2,.ptr 2 0),(3,.ptr 3 0)],[(2,aE),(3,[.p (eI TZ.1),.p (eI 0),.p (eS TZ.2.1),.p (eS ([]:Bytes)),.p (eI 0),.p (eI 0),.p (eS ([]:Bytes)),.p (.val (.slice none 0 0)),.p (.val (.slice none 0 0)),.p (eL ak TZ.2.2.1),.p (eI r1.1.fAt)]),(1000000,(a8 TZ.2.2.2))]⟩) (λ TZ hv=>?_) ?_
   ·have h1:=hL1 _ hv;exact nx 1 Z (eX (TZ.1,0,TZ.2.1,([]:Bytes),0,0,([]:Bytes),[],[],TZ.2.2.1,TZ.2.2.2.1,TZ.2.2.2.2.1,TZ.2.2.2.2.2.1,TZ.2.2.2.2.2.2.1,TZ.2.2.2.2.2.2.2.1,TZ.2.2.2.2.2.2.2.2) h1 (dX (lq ⟨er Z,er Z,er Z,trivial⟩ ⟨⟨_,Z,⟨sr,sr,sr,sr,sr,sr,sr,sr,sr,sr,sr,trivial⟩⟩,⟨_,Z,⟨sr,sr,sr,sr,sr,sr,sr,iL _,iL _,sr,sr,trivial⟩⟩,⟨_,Z,⟨sr,sr,sr,sr,sr,sr,trivial⟩⟩,trivial⟩)))
   refine nx 4 Z (K2 λ YD h2=>?_);refine nx 1 Z (fB [12] h2 Z (λ c81 h2=>?_) λ c81 h2=>?_)
   ·refine nx 7 Z (oA h2 Z Z λ hk82 h2=>?_);refine nx 7 Z (K2 λ Vz h2=>?_);refine nx 10 Z (fN [24] h2 Z (λ c85 h2=>?_) λ c85 h2=>?_)
    ·refine nx 8 Z (oA h2 Z Z λ hk88 h2=>?_);refine nx 8 Z (mO Z (aH ak [(ad.mk VS WK WJ WI (am.mk WH WG WF WE TV) WC r1.1.fAt)] Z Z Z Z Z Z Z Z Z Z Z Z Z fo ?_));exact bV
    refine nx 4 Z (K2 λ r86 h2=>?_);exact JI
   refine nx 4 Z (K2 λ Yd h2=>?_);refine nx 1 Z (fB [43] h2 Z (λ c91 h2=>?_) λ c91 h2=>?_)
   ·refine nx 7 Z (oA h2 Z Z λ hk92 h2=>?_);refine nx 10 Z (oA h2 Z Z λ hk93 h2=>?_);refine nx 7 Z (bd h2 λ Vp e95 h2=>?_);refine mO Z (cVq [1000000] [] 115000 115000 (HO.c e95) Tryz.call67 Z ?_);refine nx 4 Z (bd h2 λ XE h3 h2=>?_);refine kN XE (λ YT=>⟨[(0,.ptr 1000000 0),(2,.ptr 2 0),(3,.ptr 3 0),(5,.ptr 5 0)],[(2,aE),(3,[.p (eI VS),.p (eI WK),.p (eS WJ),.p (eS WI),.p (eI WH),.p (eI WG),.p (eS WF),.p (eL cY WE),.p (eL eS TV),.p (eL ak WC),.p (eI r1.1.fAt)]),(5,(ad.cs Vp.1).map .p),(1000000,(a8 YT))]⟩) ?_ ?_
    ·refine nx 7 Z (oA h2 Z Z λ aau h2=>?_);refine nx 7 Z (mO Z (aH ak [(ad.mk VS WK WJ WI (am.mk WH WG WF WE TV) WC r1.1.fAt),Vp.1] Z Z Z Z Z Z Z Z Z Z Z Z Z fo ?_));exact bV
    refine nx 3 Z (bd h3 λ Xr e97 h3=>?_);refine mO Z (cVq [1000000] [] 116000 116000 (HO.c e97) Tryz.call72 Z ?_);refine nx 2 Z (mG (gE (t:=⟨[(0,.ptr 1000000 0),(2,.ptr 2 0),(3,.ptr 3 0),(5,.ptr 5 0),(62,.p (eB (!Xr.1)))],[(2,aE),(3,[.p (eI VS),.p (eI WK),.p (eS WJ),.p (eS WI),.p (eI WH),.p (eI WG),.p (eS WF),.p (eL cY WE),.p (eL eS TV),.p (eL ak WC),.p (eI r1.1.fAt)]),(5,(ad.cs Vp.1).map .p),(1000000,(ai.cs Xr.2).map .p)]⟩) Z Z) ?_);refine fB [62] h3 Z (λ c98 h3=>?_) λ c98 h3=>?_
    ·refine nx 3 Z (bd h3 λ YY e100 h3=>?_);refine mO Z (cVq [1000000] [] 117000 117000 (HO.c e100) Tryz.call109 Z ?_);exact nx 1 Z ly
    exact lZ
   exact JI
  exact ay
 ·refine λ OF=>hO good [] [1000000] Tryz.func187 Z Z λ r h0 _ w0 F=>?_;rw [bB] at h0;have:=js [501,1101,2201];have:=jO 501 (List ac×Int×Int×Int×Int×Bytes) λ v=>[(1000000,(a8 v))]
  have:=jO 1101 (List ac×Int×Int×Int×Int×Bytes) λ v=>[(1000000,(a8 v))]
  have:=jO 2201 (List ac×Int×Int×Int×Int×Bytes) λ v=>[(1000000,(a8 v))]
  exact J0
 ·refine λ OF t_1=>hO good [] [1000000] Tryz.func201 Z Z λ r h0 _ w0 F=>?_;rw [fw] at h0;have:=js [501,901];have:=jS 501 Bool λ v=>[(22,.p (eB v))]
  have:=jO 901 Int λ v=>[(5,[.p (eI 1),.p (eI v),.p (eS ([]:Bytes)),.p (.val (.slice none 0 0)),.p (.val (.slice none 0 0))])]
  exact J0
 ·refine λ OF t_1=>hO good [] [1000000] Tryz.func202 Z Z λ r h0 _ w0 F=>?_;rw [iG] at h0;exact J0
 ·refine λ OF t_1=>hO good [] [1000000] Tryz.func203 Z Z λ r h0 _ w0 F=>?_;rw [gR] at h0;refine nx 11 Z (oA h0 Z Z λ Xa h0=>?_);refine nx 10 Z (oA h0 Z Z λ Vi h0=>?_);refine nx 7 Z (K0 λ r3 h0=>?_);refine nx 7 Z (fB [5,22,23] h0 Z (λ c5 h0=>?_) λ c5 h0=>?_)
  ·exact J0
  refine nx 12 Z (bd h0 λ aac h1 h0=>?_);refine kE 0 aac (λ ZY=>⟨[(0,.ptr 1000000 0),(4,.ptr 4 0),(6,.ptr 6 0)],[(4,aE),(6,(eC (.vec 62 11 0 (ZY.1.map ak)) (.p (eI t_1.fAt)))),(1000000,(a8 ZY.2))]⟩) ?_ ?_
  ·have:=js [1601];have:=jO 1601 (List ac×Int×Int×Int×Int×Bytes) λ v=>[(1000000,(a8 v))]
   exact J0
  refine lG (λ (VA:(List ad)×(List ac)×Int×Int×Int×Int×Bytes)=>⟨[(0,.ptr 1000000 0),(4,.ptr 4 0),(6,.ptr 6 0)],[(4,aE),(6,(eC (.vec 62 11 0 (VA.1.map ak)) (.p (eI t_1.fAt)))),(1000000,(a8 VA.2))]⟩) (λ m (VA:(List ad)×(List ac)×Int×Int×Int×Int×Bytes)=>bn n (cb n) (bf n) m VA.1 VA.2.1 VA.2.2.1 VA.2.2.2.1 VA.2.2.2.2.1 VA.2.2.2.2.2.1 VA.2.2.2.2.2.2) Y ([],r3.2.fL,r3.2.fI,r3.2.fIn,r3.2.fD.Ar,r3.2.fD.fAt,r3.2.fD.AI) h1 (dX (lq ⟨er rfl,er rfl,er rfl,trivial⟩ ⟨⟨_,rfl,⟨sr,sr,sr,sr,sr,sr,sr,sr,sr,sr,sr,trivial⟩⟩,⟨_,rfl,⟨sr,sr,sr,sr,sr,sr,sr,sr,sr,AV.sub_nilvec _ _ _,sr,trivial⟩⟩,⟨_,rfl,⟨sr,sr,sr,sr,sr,sr,trivial⟩⟩,trivial⟩)) ?_;rintro m ⟨TV,WC,Zw,Zv,Zu,Zt,Zs⟩ h1;replace h1:bn n (cb n) (bf n) (m+1) TV WC Zw Zv Zu Zt Zs=some aac:=h1;rw [bn] at h1;refine nx 2 rfl (bd h1 λ Zd h2 h1=>?_);refine kN Zd (λ ZX=>⟨[(0,.ptr 1000000 0),(4,.ptr 4 0),(6,.ptr 6 0),(44,.p (eB ZX.1))],[(4,aE),(6,(eC (.vec 62 11 0 (TV.map ak)) (.p (eI t_1.fAt)))),(1000000,(a8 ZX.2))]⟩) ?_ ?_
  ·refine nx 1 Z (fB [44] h1 Z (λ c87 h1=>?_) λ c87 h1=>?_)
   ·refine nx 2 Z (bd h1 λ o165 h2 h1=>?_);refine kN o165 (λ ZW=>⟨[(0,.ptr 1000000 0),(4,.ptr 4 0),(6,.ptr 6 0)],[(4,aE),(6,(eC (.vec 62 11 0 (ZW.1.map ak)) (.p (eI t_1.fAt)))),(1000000,(a8 ZW.2))]⟩) ?_ ?_
    ·exact ay
    refine nx 2 Z (bd h2 λ UD e89 h2=>?_);refine cc' h2 λ hk90 h2=>mG (gE (t:=⟨[(0,.ptr 1000000 0),(4,.ptr 4 0),(6,.ptr 6 0)],[(4,aE),(6,(eC (.vec 62 11 0 (TV.map ak)) (.p (eI t_1.fAt)))),(1000000,(a8 Zd.2))]⟩) Z Z) (mSq ⟨3,[3,5,7],(by4 (.some (cj [] 114000 114000)) (.some λ i=>Nat.beq i 62||Nat.beq i 50) .none .none),(λ _=>[(0,.ptr 1000000 0),(4,.ptr 4 0),(6,.ptr 6 0)]),(by4 ([(4,aE),(6,(eC (.vec 62 11 0 (TV.map ak)) (.p (eI t_1.fAt)))),(1000000,(a8 Zd.2))]) ([(1000000,((ai.cs UD.2).map .p)),(4,aE),(6,(eC (.vec 62 11 0 (TV.map ak)) (.p (eI t_1.fAt))))]) ([(1000000,((ai.cs UD.2).map .p)),(4,aE),(6,(eC (.p (eL ak TV)) (.p (eI t_1.fAt))))]) ([(6,(eC (.vec 50 11 0 ((TV++[UD.1]).map ak)) (.p (eI t_1.fAt)))),(1000000,((ai.cs UD.2).map .p)),(4,aE),(6,(eC (.p (eL ak TV)) (.p (eI t_1.fAt))))]))⟩ Z ?_);refine dPc (.ptr 6 9) Z (dP (by4 (.vec 62 11 0 (TV.map ak)) (.vec 62 11 0 (TV.map ak)) (.p (eL ak TV)) (.p (eL ak TV))) Z ?_);refine dPc (.ptr 1000000 0) Z (dI (λ _=>.p (.agg (ad.cs UD.1))) [47] Z (λ sl Sk K hK=>ap Z (aY [1000000] [] 114000 114000 (HO.c e89) Z Z Z (aT (Sk _ _ Z) b9) Z ⟨sr,trivial⟩ Z Z ⟨⟨_,Z,⟨sr,sr,sr,sr,sr,sr,trivial⟩⟩,trivial⟩ Z Z Z Z Z Z Z Z Tryz.call218 Z Z hK)) ?_);refine dO (.p (eL ak [UD.1])) [48] Z (λ _ sl Sk K hK=>ap Z (aH ak [UD.1] Z Z Z Z Z Z (cP (Sk _ _ Z) Z dW) Z Z Z Z Z Z fo hK)) (dI (λ _=>.vec 50 11 0 ((TV++[UD.1]).map ak)) [46,49] Z (λ sl Sk K hK=>ap Z (dZ ak TV [UD.1] Z Z Z Z Z Z Z Z (Sk _ _ Z) Z Z (Sk _ _ Z) Z (λ x=>congrArg List.length (ad.It x)) Z Z Z Z hk90 hK)) ?_);refine dPc (.ptr 6 9) Z (dS Z ?_);refine fq (nx 2 Z ?_);refine bd h2 λ Zc h3 h2=>kN Zc (λ v168=>⟨[(0,.ptr 1000000 0),(4,.ptr 4 0),(6,.ptr 6 0)],[(4,aE),(6,(eC (.vec 50 11 0 ((TV++[UD.1]).map ak)) (.p (eI t_1.fAt)))),(1000000,(a8 v168))]⟩) ?_ ?_
    ·refine nx 2 Z (bd h2 λ Ut e103 h2=>?_);refine cc' h2 λ aav h2=>mG (gE (t:=⟨[(0,.ptr 1000000 0),(4,.ptr 4 0),(6,.ptr 6 0)],[(4,aE),(6,(eC (.vec 50 11 0 ((TV++[UD.1]).map ak)) (.p (eI t_1.fAt)))),(1000000,(a8 Zc))]⟩) Z Z) (mSq ⟨3,[3,5,7],(by4 (.some (cj [] 117000 117000)) (.some λ i=>Nat.beq i 50||Nat.beq i 62) .none .none),(λ _=>[(0,.ptr 1000000 0),(4,.ptr 4 0),(6,.ptr 6 0)]),(by4 ([(4,aE),(6,(eC (.vec 50 11 0 ((TV++[UD.1]).map ak)) (.p (eI t_1.fAt)))),(1000000,(a8 Zc))]) ([(1000000,((ai.cs Ut.2).map .p)),(4,aE),(6,(eC (.vec 50 11 0 ((TV++[UD.1]).map ak)) (.p (eI t_1.fAt))))]) ([(1000000,((ai.cs Ut.2).map .p)),(4,aE),(6,(eC (.p (eL ak (TV++[UD.1]))) (.p (eI t_1.fAt))))]) ([(6,(eC (.vec 62 11 0 (((TV++[UD.1])++[Ut.1]).map ak)) (.p (eI t_1.fAt)))),(1000000,((ai.cs Ut.2).map .p)),(4,aE),(6,(eC (.p (eL ak (TV++[UD.1]))) (.p (eI t_1.fAt))))]))⟩ Z ?_);refine dPc (.ptr 6 9) Z (dP (by4 (.vec 50 11 0 ((TV++[UD.1]).map ak)) (.vec 50 11 0 ((TV++[UD.1]).map ak)) (.p (eL ak (TV++[UD.1]))) (.p (eL ak (TV++[UD.1])))) Z ?_);refine dPc (.ptr 1000000 0) Z (dI (λ _=>.p (.agg (ad.cs Ut.1))) [59] Z (λ sl Sk K hK=>ap Z (aY [1000000] [] 117000 117000 (HO.c e103) Z Z Z (aT (Sk _ _ Z) b9) Z ⟨sr,trivial⟩ Z Z ⟨⟨_,Z,⟨sr,sr,sr,sr,sr,sr,trivial⟩⟩,trivial⟩ Z Z Z Z Z Z Z Z Tryz.call219 Z Z hK)) ?_);refine dO (.p (eL ak [Ut.1])) [60] Z (λ _ sl Sk K hK=>ap Z (aH ak [Ut.1] Z Z Z Z Z Z (cP (Sk _ _ Z) Z dW) Z Z Z Z Z Z fo hK)) (dI (λ _=>.vec 62 11 0 (((TV++[UD.1])++[Ut.1]).map ak)) [58,61] Z (λ sl Sk K hK=>ap Z (dZ ak (TV++[UD.1]) [Ut.1] Z Z Z Z Z Z Z Z (Sk _ _ Z) Z Z (Sk _ _ Z) Z (λ x=>congrArg List.length (ad.It x)) Z Z Z Z aav hK)) ?_);refine dPc (.ptr 6 9) Z (dS Z ?_);refine fq (nx 2 Z ?_);refine bd h2 λ o169 h3 h2=>kN o169 (λ ZV=>⟨[(0,.ptr 1000000 0),(4,.ptr 4 0),(6,.ptr 6 0),(71,.p (eB ZV.1))],[(4,aE),(6,(eC (.vec 62 11 0 (((TV++[UD.1])++[Ut.1]).map ak)) (.p (eI t_1.fAt)))),(1000000,(a8 ZV.2))]⟩) ?_ ?_
     ·exact bV
     refine nx 2 Z (bd h3 λ VM e106 h3=>?_);refine mO Z (cVq [1000000] [] 118000 118000 (HO.c e106) Tryz.call72 Z ?_);refine nx 2 Z (fB [66,67] h3 Z (λ c107 h3=>?_) λ c107 h3=>?_)
     ·refine nx 1 Z (bd h3 λ TN ZB h3=>?_);refine mO Z (cVq [1000000] [] 119000 119000 (HO.c ZB) Tryz.call108 Z ?_);exact nx 3 Z ly
     exact B9
    refine nx 3 Z (bd h3 λ Yc e92 h3=>?_);refine mO Z (cVq [1000000] [] 115000 115000 (HO.c e92) Tryz.call72 Z ?_);refine nx 2 Z (fB [54] h3 Z (λ c93 h3=>?_) λ c93 h3=>?_)
    ·refine nx 3 Z (bd h3 λ Vp e95 h3=>?_);refine mO Z (cVq [1000000] [] 116000 116000 (HO.c e95) Tryz.call109 Z ?_);exact nx 1 Z ly
    exact lZ
   exact ay
  exact bV
 ·refine λ OF end_1=>hO good [] [1000000] Tryz.func215 Z Z λ r h0 _ w0 F=>?_;rw [eR] at h0;refine nx 14 Z (oA h0 Z Z λ Xa h0=>?_);refine nx 6 Z (bd h0 λ aaf h1 h0=>?_);refine kE 0 aaf (λ Z4=>⟨[(0,.ptr 1000000 0),(5,.vec 26 11 0 (Z4.1.map ak))],[(1000000,(a8 Z4.2))]⟩) ?_ ?_
  ·have:=js [801];have:=jO 801 (List ac×Int×Int×Int×Int×Bytes) λ v=>[(1000000,(a8 v))]
   exact J0
  refine lG (λ (VB:(List ad)×(List ac)×Int×Int×Int×Int×Bytes)=>⟨[(0,.ptr 1000000 0),(1,.p (eS end_1)),(5,.vec 26 11 0 (VB.1.map ak))],[(1000000,(a8 VB.2))]⟩) (λ m (VB:(List ad)×(List ac)×Int×Int×Int×Int×Bytes)=>bu n (aK n) end_1 m VB.1 VB.2.1 VB.2.2.1 VB.2.2.2.1 VB.2.2.2.2.1 VB.2.2.2.2.2.1 VB.2.2.2.2.2.2) Y ([],OF.fL,OF.fI,OF.fIn+1,OF.fD.Ar,OF.fD.fAt,OF.fD.AI) h1 (dX (lq ⟨er rfl,er rfl,⟨_,rfl,AV.sub_nilvec _ _ _⟩,trivial⟩ ⟨⟨_,rfl,⟨sr,sr,sr,sr,sr,sr,trivial⟩⟩,trivial⟩)) ?_;rintro m ⟨UK,WO,WN,WM,Vw,VT,WL⟩ h1;replace h1:bu n (aK n) end_1 (m+1) UK WO WN WM Vw VT WL=some aaf:=h1;rw [bu] at h1;refine nx 2 rfl (bd h1 λ o127 h2 h1=>?_);refine kN o127 (λ Z3=>⟨[(0,.ptr 1000000 0),(1,.p (eS end_1)),(5,.vec 26 11 0 (UK.map ak)),(21,.p (eB Z3.1))],[(1000000,(a8 Z3.2))]⟩) ?_ ?_
  ·refine nx 1 Z (fB [21] h1 Z (λ c66 h1=>?_) λ c66 h1=>?_)
   ·refine nx 2 Z (bd h1 λ o129 h2 h1=>?_);refine kN o129 (λ Z2=>⟨[(0,.ptr 1000000 0),(1,.p (eS end_1)),(5,.vec 26 11 0 (Z2.1.map ak))],[(1000000,(a8 Z2.2))]⟩) ?_ ?_
    ·exact ay
    refine nx 5 Z (K2 λ YE h2=>?_);refine mO Z (aH ak [YE.1] Z Z Z Z Z Z Z Z Z Z Z Z Z fo ?_);refine cc' h2 λ Zi h2=>mO Z (dZ ak UK [YE.1] Z Z Z Z Z Z Z Z Z Z Z Z Z (λ x=>congrArg List.length (ad.It x)) Z Z Z Z Zi ?_);refine nx 3 Z (bd h2 λ o131 h3 h2=>?_);refine kN o131 (λ Z1=>⟨[(0,.ptr 1000000 0),(1,.p (eS end_1)),(5,.vec 26 11 0 ((UK++[YE.1]).map ak)),(35,.p (eB Z1.1))],[(1000000,(a8 Z1.2))]⟩) ?_ ?_
    ·exact bV
    refine nx 2 Z (bd h3 λ Ye e71 h3=>?_);refine mO Z (cVq [1000000] [] 110000 110000 (HO.c e71) Tryz.call72 Z ?_);refine nx 2 Z (fB [29,30] h3 Z (λ c72 h3=>?_) λ c72 h3=>?_)
    ·refine nx 2 Z (bd h3 λ Uw e74 h3=>?_);refine mO Z (cVq [1000000] [] 111000 111000 (HO.c e74) Tryz.call108 Z ?_);exact nx 3 Z ly
    exact Bm
   exact ay
  exact bV
 ·refine λ OF t_1 end_2=>hO good [] [1000000] Tryz.func217 Z Z λ r h0 _ w0 F=>?_;rw [ea] at h0;refine nx 14 Z (bd h0 λ Tx h1 h0=>?_);refine kN Tx (λ v142=>⟨[(0,.ptr 1000000 0),(2,.p (eS end_2)),(6,.ptr 6 0),(7,.ptr 7 0)],[(6,aE),(7,[.p (eI v142),.p (eI 0),.p (eS ([]:Bytes)),.p (eS ([]:Bytes)),.p (eI 0),.p (eI 0),.p (eS ([]:Bytes)),.p (.val (.slice none 0 0)),.p (.val (.slice none 0 0)),.p (.val (.slice none 0 0)),.p (eI t_1.fAt)]),(1000000,((ai.cs OF).map .p))]⟩) ?_ ?_
  ·refine nx 7 Z (oA h0 Z Z λ XJ h0=>?_);refine nx 7 Z (K0 λ r4 h0=>?_);refine nx 7 Z (oA h0 Z Z λ hk6 h0=>?_);refine nx 7 Z (K0 λ r7 h0=>?_);refine nx 4 Z (bd h0 λ S3 h1 h0=>?_);refine kN S3 (λ YU=>⟨[(0,.ptr 1000000 0),(2,.p (eS end_2)),(6,.ptr 6 0),(7,.ptr 7 0)],[(6,aE),(7,(lV (.p (eI Tx)) (.p (eS YU.1)) (.p (eS YU.2.1)) (.p (eI t_1.fAt)))),(1000000,(a8 YU.2.2))]⟩) ?_ ?_
   ·refine nx 2 Z (bd h0 λ U3 h1 h0=>?_);refine kN U3 (λ v146=>⟨[(0,.ptr 1000000 0),(2,.p (eS end_2)),(6,.ptr 6 0),(7,.ptr 7 0)],[(6,aE),(7,(lV (.p (eI Tx)) (.p (eS S3.1)) (.p (eS S3.2.1)) (.p (eI t_1.fAt)))),(1000000,(a8 v146))]⟩) ?_ ?_
    ·refine nx 7 Z (oA h0 Z Z λ W6 h0=>?_);refine nx 5 Z (bd h0 λ TD e56 h0=>?_);refine cc' h0 λ W5 h0=>mG (gE (t:=⟨[(0,.ptr 1000000 0),(2,.p (eS end_2)),(6,.ptr 6 0),(7,.ptr 7 0)],[(6,aE),(7,(lV (.p (eI Tx)) (.p (eS S3.1)) (.p (eS S3.2.1)) (.p (eI t_1.fAt)))),(1000000,[.p (eL aG U3.1),.p (eI (U3.2.1+1)),.p (eI U3.2.2.1),.p (eI U3.2.2.2.1),.p (eI U3.2.2.2.2.1),.p (eS U3.2.2.2.2.2)])]⟩) Z Z) (mSq ⟨3,[3,5,7],(by4 (.some (cj [] 109000 109000)) (.some λ i=>Nat.beq i 75) .none .none),(λ _=>[(0,.ptr 1000000 0),(2,.p (eS end_2)),(6,.ptr 6 0),(7,.ptr 7 0)]),(by4 ([(6,aE),(7,(lV (.p (eI Tx)) (.p (eS S3.1)) (.p (eS S3.2.1)) (.p (eI t_1.fAt)))),(1000000,[.p (eL aG U3.1),.p (eI (U3.2.1+1)),.p (eI U3.2.2.1),.p (eI U3.2.2.2.1),.p (eI U3.2.2.2.2.1),.p (eS U3.2.2.2.2.2)])]) ([(1000000,((ai.cs TD.2).map .p)),(6,aE),(7,(lV (.p (eI Tx)) (.p (eS S3.1)) (.p (eS S3.2.1)) (.p (eI t_1.fAt))))]) ([(1000000,((ai.cs TD.2).map .p)),(6,aE),(7,(lV (.p (eI Tx)) (.p (eS S3.1)) (.p (eS S3.2.1)) (.p (eI t_1.fAt))))]) ([(7,(cT (.p (eI Tx)) (.p (eS S3.1)) (.p (eS S3.2.1)) (.vec 75 11 0 ([TD.1].map ak)) (.p (eI t_1.fAt)))),(1000000,((ai.cs TD.2).map .p)),(6,aE),(7,(lV (.p (eI Tx)) (.p (eS S3.1)) (.p (eS S3.2.1)) (.p (eI t_1.fAt))))]))⟩ Z ?_);refine dPc (.ptr 7 9) Z (dPc (.p (.val (.slice none 0 0))) Z ?_);refine dPc (.ptr 1000000 0) Z (dI (λ _=>.p (.agg (ad.cs TD.1))) [72] Z (λ sl Sk K hK=>ap Z (aY [1000000] [] 109000 109000 (HO.c e56) Z Z Z (aT (Sk _ _ Z) b9) Z ⟨sr,trivial⟩ Z Z ⟨⟨_,Z,⟨sr,sr,sr,sr,sr,sr,trivial⟩⟩,trivial⟩ Z Z Z Z Z Z Z Z Tryz.call219 Z Z hK)) ?_);refine dO (.p (eL ak [TD.1])) [73] Z (λ _ sl Sk K hK=>ap Z (aH ak [TD.1] Z Z Z Z Z Z (cP (Sk _ _ Z) Z dW) Z Z Z Z Z Z fo hK)) (dI (λ _=>.vec 75 11 0 ([TD.1].map ak)) [71,74] Z (λ sl Sk K hK=>ap Z (C9 ak [TD.1] 0 Z Z Z Z Z Z Z Z (Sk _ _ Z) (Sk _ _ Z) Z (λ x=>congrArg List.length (ad.It x)) Z Z Z Z W5 hK)) ?_);refine dPc (.ptr 7 9) Z (dS Z ?_);refine fq (nx 2 Z ?_);refine bd h0 λ Ze h1 h0=>kN Ze (λ v148=>⟨[(0,.ptr 1000000 0),(2,.p (eS end_2)),(6,.ptr 6 0),(7,.ptr 7 0)],[(6,aE),(7,(cT (.p (eI Tx)) (.p (eS S3.1)) (.p (eS S3.2.1)) (.vec 75 11 0 ([TD.1].map ak)) (.p (eI t_1.fAt)))),(1000000,(a8 v148))]⟩) ?_ ?_
     ·refine nx 2 Z (bd h0 λ TY e70 h0=>?_);refine cc' h0 λ Zh h0=>mG (gE (t:=⟨[(0,.ptr 1000000 0),(2,.p (eS end_2)),(6,.ptr 6 0),(7,.ptr 7 0)],[(6,aE),(7,(cT (.p (eI Tx)) (.p (eS S3.1)) (.p (eS S3.2.1)) (.vec 75 11 0 ([TD.1].map ak)) (.p (eI t_1.fAt)))),(1000000,(a8 Ze))]⟩) Z Z) (mSq ⟨3,[3,5,7],(by4 (.some (cj [] 112000 112000)) (.some λ i=>Nat.beq i 75||Nat.beq i 87) .none .none),(λ _=>[(0,.ptr 1000000 0),(2,.p (eS end_2)),(6,.ptr 6 0),(7,.ptr 7 0)]),(by4 ([(6,aE),(7,(cT (.p (eI Tx)) (.p (eS S3.1)) (.p (eS S3.2.1)) (.vec 75 11 0 ([TD.1].map ak)) (.p (eI t_1.fAt)))),(1000000,(a8 Ze))]) ([(1000000,((ai.cs TY.2).map .p)),(6,aE),(7,(cT (.p (eI Tx)) (.p (eS S3.1)) (.p (eS S3.2.1)) (.vec 75 11 0 ([TD.1].map ak)) (.p (eI t_1.fAt))))]) ([(1000000,((ai.cs TY.2).map .p)),(6,aE),(7,(cT (.p (eI Tx)) (.p (eS S3.1)) (.p (eS S3.2.1)) (.p (eL ak [TD.1])) (.p (eI t_1.fAt))))]) ([(7,(cT (.p (eI Tx)) (.p (eS S3.1)) (.p (eS S3.2.1)) (.vec 87 11 0 (([TD.1]++[TY.1]).map ak)) (.p (eI t_1.fAt)))),(1000000,((ai.cs TY.2).map .p)),(6,aE),(7,(cT (.p (eI Tx)) (.p (eS S3.1)) (.p (eS S3.2.1)) (.p (eL ak [TD.1])) (.p (eI t_1.fAt))))]))⟩ Z ?_);refine dPc (.ptr 7 9) Z (dP (by4 (.vec 75 11 0 ([TD.1].map ak)) (.vec 75 11 0 ([TD.1].map ak)) (.p (eL ak [TD.1])) (.p (eL ak [TD.1]))) Z ?_);refine dPc (.ptr 1000000 0) Z (dI (λ _=>.p (.agg (ad.cs TY.1))) [84] Z (λ sl Sk K hK=>ap Z (aY [1000000] [] 112000 112000 (HO.c e70) Z Z Z (aT (Sk _ _ Z) b9) Z ⟨sr,trivial⟩ Z Z ⟨⟨_,Z,⟨sr,sr,sr,sr,sr,sr,trivial⟩⟩,trivial⟩ Z Z Z Z Z Z Z Z Tryz.call219 Z Z hK)) ?_);refine dO (.p (eL ak [TY.1])) [85] Z (λ _ sl Sk K hK=>ap Z (aH ak [TY.1] Z Z Z Z Z Z (cP (Sk _ _ Z) Z dW) Z Z Z Z Z Z fo hK)) (dI (λ _=>.vec 87 11 0 (([TD.1]++[TY.1]).map ak)) [83,86] Z (λ sl Sk K hK=>ap Z (dZ ak [TD.1] [TY.1] Z Z Z Z Z Z Z Z (Sk _ _ Z) Z Z (Sk _ _ Z) Z (λ x=>congrArg List.length (ad.It x)) Z Z Z Z Zh hK)) ?_);refine dPc (.ptr 7 9) Z (dS Z ?_);refine fq (nx 2 Z ?_);refine bd h0 λ UM h1 h0=>kN UM (λ Z0=>⟨[(0,.ptr 1000000 0),(2,.p (eS end_2)),(6,.ptr 6 0),(7,.ptr 7 0)],[(6,aE),(7,(cT (.p (eI Tx)) (.p (eS S3.1)) (.p (eS S3.2.1)) (.vec 101 11 0 (Z0.1.map ak)) (.p (eI t_1.fAt)))),(1000000,(a8 Z0.2))]⟩) ?_ ?_
      ·refine nx 2 Z (bd h0 λ o151 h1 h0=>?_);refine kN o151 (λ ZZ=>⟨[(0,.ptr 1000000 0),(2,.p (eS end_2)),(6,.ptr 6 0),(7,.ptr 7 0)],[(6,aE),(7,(cT (.p (eI Tx)) (.p (eS S3.1)) (.p (eS S3.2.1)) (.vec 122 11 0 (ZZ.1.map ak)) (.p (eI t_1.fAt)))),(1000000,(a8 ZZ.2))]⟩) ?_ ?_
       ·have:=js [2601];have:=jO 2601 (List ac×Int×Int×Int×Int×Bytes) λ v=>[(1000000,(a8 v))]
        exact J0
       refine nx 1 Z (bd h1 λ Uu h2 h1=>?_);refine kN Uu (λ TZ=>⟨[(0,.ptr 1000000 0),(2,.p (eS end_2)),(6,.ptr 6 0),(7,.ptr 7 0),(109,.p (eB TZ.1))],[(6,aE),(7,(cT (.p (eI Tx)) (.p (eS S3.1)) (.p (eS S3.2.1)) (.vec 101 11 0 (UM.1.map ak)) (.p (eI t_1.fAt)))),(1000000,(a8 TZ.2))]⟩) ?_ ?_
       ·refine nx 1 Z (fB [109] h1 Z (λ c106 h1=>?_) λ c106 h1=>?_)
        ·refine nx 7 Z (oA h1 Z Z λ aau h1=>?_);refine nx 4 Z (bd h1 λ TN ZB h1=>?_);refine cc' h1 λ aat h1=>mG (gE (t:=⟨[(0,.ptr 1000000 0),(2,.p (eS end_2)),(6,.ptr 6 0),(7,.ptr 7 0)],[(6,aE),(7,(cT (.p (eI Tx)) (.p (eS S3.1)) (.p (eS S3.2.1)) (.vec 101 11 0 (UM.1.map ak)) (.p (eI t_1.fAt)))),(1000000,[.p (eL aG Uu.2.1),.p (eI (Uu.2.2.1+1)),.p (eI Uu.2.2.2.1),.p (eI Uu.2.2.2.2.1),.p (eI Uu.2.2.2.2.2.1),.p (eS Uu.2.2.2.2.2.2)])]⟩) Z Z) (mSq ⟨3,[3,5,7],(by4 (.some (cj [] 118000 118000)) (.some λ i=>Nat.beq i 101||Nat.beq i 122) .none .none),(λ _=>[(0,.ptr 1000000 0),(2,.p (eS end_2)),(6,.ptr 6 0),(7,.ptr 7 0)]),(by4 ([(6,aE),(7,(cT (.p (eI Tx)) (.p (eS S3.1)) (.p (eS S3.2.1)) (.vec 101 11 0 (UM.1.map ak)) (.p (eI t_1.fAt)))),(1000000,[.p (eL aG Uu.2.1),.p (eI (Uu.2.2.1+1)),.p (eI Uu.2.2.2.1),.p (eI Uu.2.2.2.2.1),.p (eI Uu.2.2.2.2.2.1),.p (eS Uu.2.2.2.2.2.2)])]) ([(1000000,((ai.cs TN.2).map .p)),(6,aE),(7,(cT (.p (eI Tx)) (.p (eS S3.1)) (.p (eS S3.2.1)) (.vec 101 11 0 (UM.1.map ak)) (.p (eI t_1.fAt))))]) ([(1000000,((ai.cs TN.2).map .p)),(6,aE),(7,(cT (.p (eI Tx)) (.p (eS S3.1)) (.p (eS S3.2.1)) (.p (eL ak UM.1)) (.p (eI t_1.fAt))))]) ([(7,(cT (.p (eI Tx)) (.p (eS S3.1)) (.p (eS S3.2.1)) (.vec 122 11 0 ((UM.1++[TN.1]).map ak)) (.p (eI t_1.fAt)))),(1000000,((ai.cs TN.2).map .p)),(6,aE),(7,(cT (.p (eI Tx)) (.p (eS S3.1)) (.p (eS S3.2.1)) (.p (eL ak UM.1)) (.p (eI t_1.fAt))))]))⟩ Z ?_);refine dPc (.ptr 7 9) Z (dP (by4 (.vec 101 11 0 (UM.1.map ak)) (.vec 101 11 0 (UM.1.map ak)) (.p (eL ak UM.1)) (.p (eL ak UM.1))) Z ?_);refine dPc (.ptr 1000000 0) Z (dI (λ _=>.p (.agg (ad.cs TN.1))) [119] Z (λ sl Sk K hK=>ap Z (aY [1000000] [] 118000 118000 (HO.c ZB) Z Z Z (aT (Sk _ _ Z) b9) Z ⟨sr,trivial⟩ Z Z ⟨⟨_,Z,⟨sr,sr,sr,sr,sr,sr,trivial⟩⟩,trivial⟩ Z Z Z Z Z Z Z Z Tryz.call219 Z Z hK)) ?_);refine dO (.p (eL ak [TN.1])) [120] Z (λ _ sl Sk K hK=>ap Z (aH ak [TN.1] Z Z Z Z Z Z (cP (Sk _ _ Z) Z dW) Z Z Z Z Z Z fo hK)) (dI (λ _=>.vec 122 11 0 ((UM.1++[TN.1]).map ak)) [118,121] Z (λ sl Sk K hK=>ap Z (dZ ak UM.1 [TN.1] Z Z Z Z Z Z Z Z (Sk _ _ Z) Z Z (Sk _ _ Z) Z (λ x=>congrArg List.length (ad.It x)) Z Z Z Z aat hK)) ?_);refine dPc (.ptr 7 9) Z (dS Z ?_);exact ay
        exact nx 2 Z (eX _ (oi h1).symm (bj (ca 101 122 Z Z Z Z Z) (gE Z Z)))
       exact bV
      refine nx 3 Z (oS Z Z ?_);refine nx 1 Z (fD [90] h1 Z (λ c72 h1=>?_) λ c72 h1=>?_)
      ·refine nx 2 Z (bd h1 λ XE h2 h1=>?_);refine kN XE (λ YT=>⟨[(0,.ptr 1000000 0),(2,.p (eS end_2)),(6,.ptr 6 0),(7,.ptr 7 0)],[(6,aE),(7,(cT (.p (eI Tx)) (.p (eS S3.1)) (.p (eS S3.2.1)) (.vec 87 11 0 (([TD.1]++[TY.1]).map ak)) (.p (eI t_1.fAt)))),(1000000,(a8 YT))]⟩) ?_ ?_
       ·refine nx 1 Z (bd h1 λ VV e85 h1=>?_);refine cc' h1 λ hk86 h1=>mG (gE (t:=⟨[(0,.ptr 1000000 0),(2,.p (eS end_2)),(6,.ptr 6 0),(7,.ptr 7 0)],[(6,aE),(7,(cT (.p (eI Tx)) (.p (eS S3.1)) (.p (eS S3.2.1)) (.vec 87 11 0 (([TD.1]++[TY.1]).map ak)) (.p (eI t_1.fAt)))),(1000000,(a8 XE))]⟩) Z Z) (mSq ⟨3,[3,5,7],(by4 (.some (cj [] 115000 115000)) (.some λ i=>Nat.beq i 87||Nat.beq i 101) .none .none),(λ _=>[(0,.ptr 1000000 0),(2,.p (eS end_2)),(6,.ptr 6 0),(7,.ptr 7 0)]),(by4 ([(6,aE),(7,(cT (.p (eI Tx)) (.p (eS S3.1)) (.p (eS S3.2.1)) (.vec 87 11 0 (([TD.1]++[TY.1]).map ak)) (.p (eI t_1.fAt)))),(1000000,(a8 XE))]) ([(1000000,((ai.cs VV.2).map .p)),(6,aE),(7,(cT (.p (eI Tx)) (.p (eS S3.1)) (.p (eS S3.2.1)) (.vec 87 11 0 (([TD.1]++[TY.1]).map ak)) (.p (eI t_1.fAt))))]) ([(1000000,((ai.cs VV.2).map .p)),(6,aE),(7,(cT (.p (eI Tx)) (.p (eS S3.1)) (.p (eS S3.2.1)) (.p (eL ak ([TD.1]++[TY.1]))) (.p (eI t_1.fAt))))]) ([(7,(cT (.p (eI Tx)) (.p (eS S3.1)) (.p (eS S3.2.1)) (.vec 101 11 0 ((([TD.1]++[TY.1])++[VV.1]).map ak)) (.p (eI t_1.fAt)))),(1000000,((ai.cs VV.2).map .p)),(6,aE),(7,(cT (.p (eI Tx)) (.p (eS S3.1)) (.p (eS S3.2.1)) (.p (eL ak ([TD.1]++[TY.1]))) (.p (eI t_1.fAt))))]))⟩ Z ?_);refine dPc (.ptr 7 9) Z (dP (by4 (.vec 87 11 0 (([TD.1]++[TY.1]).map ak)) (.vec 87 11 0 (([TD.1]++[TY.1]).map ak)) (.p (eL ak ([TD.1]++[TY.1]))) (.p (eL ak ([TD.1]++[TY.1])))) Z ?_);refine dPc (.ptr 1000000 0) Z (dI (λ _=>.p (.agg (ad.cs VV.1))) [98] Z (λ sl Sk K hK=>ap Z (aY [1000000] [] 115000 115000 (HO.c e85) Z Z Z (aT (Sk _ _ Z) b9) Z ⟨sr,trivial⟩ Z Z ⟨⟨_,Z,⟨sr,sr,sr,sr,sr,sr,trivial⟩⟩,trivial⟩ Z Z Z Z Z Z Z Z Tryz.call219 Z Z hK)) ?_);refine dO (.p (eL ak [VV.1])) [99] Z (λ _ sl Sk K hK=>ap Z (aH ak [VV.1] Z Z Z Z Z Z (cP (Sk _ _ Z) Z dW) Z Z Z Z Z Z fo hK)) (dI (λ _=>.vec 101 11 0 ((([TD.1]++[TY.1])++[VV.1]).map ak)) [97,100] Z (λ sl Sk K hK=>ap Z (dZ ak ([TD.1]++[TY.1]) [VV.1] Z Z Z Z Z Z Z Z (Sk _ _ Z) Z Z (Sk _ _ Z) Z (λ x=>congrArg List.length (ad.It x)) Z Z Z Z hk86 hK)) ?_);refine dPc (.ptr 7 9) Z (dS Z ?_);exact ay
       exact bV
      exact nx 2 Z (eX _ (oi h1).symm (bj (ca 87 101 Z Z Z Z Z) (gE Z Z)))
     exact ay
    have:=js [1200];have:=jB 1200 (Bool×List ac×Int×Int×Int×Int×Bytes) (λ v=>[(60,.p (eB v.1))]) λ v=>[(1000000,(a8 v.2))]
    exact ay
   have:=js [800];have:=jB 800 (Bool×List ac×Int×Int×Int×Int×Bytes) (λ v=>[(39,.p (eB v.1))]) λ v=>[(1000000,(a8 v.2))]
   exact ay
  exact ay
 ·refine λ OF=>hO good [] [1000000] Tryz.func218 Z Z λ r h0 _ w0 F=>?_;rw [cb] at h0;have:=js [500];have:=jB 500 (Bool×List ac×Int×Int×Int×Int×Bytes) (λ v=>[(28,.p (eB v.1))]) λ v=>[(1000000,(a8 v.2))]
  exact J0
 ·refine λ OF=>hO good [] [1000000] Tryz.func219 Z Z λ r h0 _ w0 F=>?_;rw [bf] at h0;exact J0
instance CU (n:Nat):uP (ed n) 20:=(qv n).1
end Go.Ab.R06
end
section
namespace Go.Ab.R06
open Go.Ab Go.Ab.RB Go.Lib
theorem ckT {α:Type}(x:Option α):ck True x=x:=bC trivial
theorem Nl (v:am)(h:v.Df.length+v.C'.length<=1000000000000000):jE v=ju v:=by
 unfold jE ju;by_cases h1:v.Ar=0
 ·by_cases h2:v.E'=0
  ·by_cases h3:v.If=[]
   ·simp only [if_pos h1,if_pos h2,if_pos h3];rw [bC aB];by_cases h4:(v.Df.length:Int)=0
    ·rw [if_pos h4];simp only [cl,bt,decide_eq_decide]; omega
    ·rw [if_neg h4];simp only [cl,bt,decide_eq_false_iff_not]; omega
   ·simp only [if_pos h1,if_pos h2,if_neg h3]
  ·simp only [if_pos h1,if_neg h2]
 ·simp only [if_neg h1]
theorem NS (v:am):∃ b,ju v=some b:=by
 unfold ju
 repeat' split
 all_goals exact ⟨_,Z⟩
theorem wg (e:ad)(h:e.A'.Df.length+e.A'.C'.length<=1000000000000000):iM e=fQ e:=by
 obtain ⟨z,hz⟩:=NS e.A';have hz':=(Nl e.A' h).trans hz;unfold iM fQ kG;rw [hz,hz']
 clear hz hz' h
 have ZN:0<=(e.By.length:Int):=by omega
 have hp:(e.By.length:Int).tmod 2=0\/(e.By.length:Int).tmod 2=1:=by
  have:=Int.emod_two_eq (e.By.length:Int)
  rwa [Int.tmod_eq_emod_of_nonneg ZN]
 generalize (e.By.length:Int)=m at ZN hp ⊢;generalize e.Ar=k;generalize e.fOp=op;generalize e.A'.Ar=vk;generalize e.A'.E'=vn;generalize e.AI=name;generalize e.Gw=key;by_cases hr:k < 1\/13 < k
 ·have e2:iq k m=some false:=by
   unfold iq;simp only [show ¬ k=1 by omega,show ¬ k=2 by omega,show ¬ k=3 by omega,show ¬ k=4 by omega,show ¬ k=5 by omega,show ¬ k=6 by omega,show ¬ k=7 by omega,show ¬ k=8 by omega,show ¬ k=9 by omega,show ¬ k=10 by omega,show ¬ k=11 by omega,show ¬ k=12 by omega,show ¬ k=13 by omega,if_false,decide_false,cl,Bool.false_eq_true]
  rw [e2];by_cases q:k < 1
  ·rw [if_pos q]; rfl
  ·rw [if_neg q,if_pos O]; rfl
 ·have hk:k=1\/k=2\/k=3\/k=4\/k=5\/k=6\/k=7\/k=8\/k=9\/k=10\/k=11\/k=12\/k=13:=by omega
  unfold jz km pT iq ir ij;unfold ir;by_cases hn:name=[] <;> by_cases Zg:key=[] <;> cases z <;> rcases hp with hp | hp
  all_goals (rcases hk with rfl | rfl | rfl | rfl | rfl | rfl | rfl | rfl | rfl | rfl | rfl | rfl | rfl)
  all_goals (simp [hn,Zg,hp,ckT]; try done)
  all_goals (repeat' split)
  all_goals (try (simp_all; done))
  all_goals (try omega)
  all_goals (try simp_all)
  all_goals (repeat' split)
  all_goals (try (simp_all; done))
  all_goals (try omega)
end Go.Ab.R06
end
section
namespace Go.Ab.R06
open Go.Ab Go.Ab.RB
section
variable {p:Prop}
theorem GY (h:p:=by
 refine av (λ h3=>aa (mk _ ?_)) (λ h3=>ag O (av (λ h4=>aa (mk _ ?_)) (λ h4=>ag O (aa (mk _ ?_)))))
 ·simp; omega
 ·simp; omega
 ·rw [decide_eq_true_eq]; omega):p:=h
end
theorem FS (s:Bytes)(hs:s.length<=1000000000000000):∀ (k i:Nat),i+k=s.length->Ev2 (λ _ m=>da s m (i:Int)) (·=if kq (y5 s) i k then .inl () else .inr false):=by
 intro k
 induction k with
 | zero =>
  intro i hi;refine aw ?_;simp only [da];refine af O (aa rfl)
 | succ k ih =>
  intro i hi;refine aw ?_;simp only [da];refine ae O (ag O ?_);have hb:byt s i=((s.getD i 0).toNat:Int):=cD s i;rw [hb];have hor:=OA (s.getD i 0);have hok:=mx s i;rw [mC,jq] at hok;refine aj (!y5 s i) ?_ ?_
  ·generalize s.getD i 0=b at hor hok ⊢;generalize y5 s i=o at hok ⊢;generalize iOr .u8 ((b.toNat:Nat):Int) 32=v at hor ⊢;have hT:(jg b=true)->o=true:=λ h=>hok.2 (.inl ((mC b).1 h));have mk:∀ x:Bool,(x=true↔¬ (((97<=b.toNat/\b.toNat<=122)\/(65<=b.toNat/\b.toNat<=90)\/b.toNat=95)\/(i≠0/\48<=b.toNat/\b.toNat<=57)))->x=!o:=λ x hx=>eqB (by rw [hx,<- hok]; simp);refine ag O (av (λ h=>aa (mk _ ?_)) (λ h=>av (λ h1=>?_) (λ h1=>av (λ h2=>?_) (λ h2=>aa (mk _ ?_)))))
   ·simp; omega
   ·exact GY
   ·exact GY
   ·simp; omega
  ·cases hk:y5 s i with
   | false=>exact ae G (aa (by simp [kq,hk]))
   | true =>
    refine af G (ag aB ?_);have:=ih (i+1) O;rw [Int.natCast_add,Int.natCast_one] at this;simpa [kq,hk] using this
theorem yK (s:Bytes)(hs:s.length<=1000000000000000):Ev2 (λ n _=>gA n s) (·=fm s):=by
 simp only [gA];have h:=FS s hs s.length 0 O;have hi:=tF s
 cases ha:kq (y5 s) 0 s.length with
 | false =>
  rw [ha] at h hi;refine iC false (aO h) (eqB ?_);rw [hi]; simp
 | true =>
  rw [ha] at h hi;refine ez () (aO h) ?_;refine ah (·=fm s) (av (λ h=>aa (eqB ?_)) (λ h=>aa (eqB ?_))) (λ t ht=>aa ht)
  ·rw [hi]; simp [h]
  ·rw [hi,decide_eq_true_eq]; simp [h]; omega
theorem CZ (b:UInt8):jc (b.toNat:Int)=some (jg b):=by
 simp only [jc];have h:=mC b;generalize jg b=o at h ⊢;have mk:∀ x:Bool,(x=true↔(97<=b.toNat/\b.toNat<=122)\/(65<=b.toNat/\b.toNat<=90)\/b.toNat=95)->some x=some o:=λ x hx=>congrArg some (eqB (by rw [hx,h]))
 repeat' split
 all_goals (simp only [cl]; apply mk; first | (rw [decide_eq_true_eq]; omega) | (simp; omega))
theorem E8 (s:Bytes)(hs:s.length<=1000000000000000):∀ (k i:Nat),i+k=s.length->Ev2 (λ _ m=>cJ s m (i:Int)) (·=if kq (λ j=>idB (s.getD j 0)) i k then .inl () else .inr false):=by
 intro k
 induction k with
 | zero =>
  intro i hi;refine aw ?_;simp only [cJ];refine af O (aa rfl)
 | succ k ih =>
  intro i hi;refine aw ?_;simp only [cJ];refine ae O ?_;have hb:byt s i=((s.getD i 0).toNat:Int):=cD s i;rw [hb];refine aj (!idB (s.getD i 0)) ?_ ?_
  ·refine ag O (aj _ (ax (CZ _) Z) ?_);have h:=jq (s.getD i 0);simp only [idB];generalize s.getD i 0=b at h ⊢
   cases hl:jg b with
   | true=>exact af G (aa G)
   | false =>
    refine ae G (ag O (av (λ h1=>aa ?_) (λ h1=>ag O (aa ?_))))
    ·have:d3 b=false:=by rw [<- Bool.not_eq_true,h]; omega
     simp [this]
    ·refine eqB ?_;rw [decide_eq_true_eq,Bool.false_or,Bool.not_eq_true',<- Bool.not_eq_true,h];omega
  ·cases hk:idB (s.getD i 0) with
   | false=>exact ae Z (aa (by simp only [kq,hk,Bool.false_and]; rfl))
   | true =>
    exact Bv
theorem wl (s:Bytes)(hs:s.length<=1000000000000000):Ev2 (λ n _=>gg n s) (·=fm s):=by
 simp only [gg];have hi:=zm s;refine aj (decide (s=[])||decide (64 < (s.length:Int))||!jg (s.getD 0 0)) ?_ ?_
 ·refine av (λ h=>aa (by simp [h])) (λ h=>av (λ h1=>aa (by simp [h1])) (λ h1=>ag ?_ ?_))
  ·have:=List.length_pos_iff.2 h; omega
  ·refine aj (jg (s.getD 0 0)) (ax (CZ _) Z) (aa ?_);have:decide (64 < (s.length:Int))=false:=decide_eq_false h1;simp [h,this]
 ·refine av (λ h=>aa (eqB ?_)) (λ h=>?_)
  ·rw [hi]; simp at h ⊢; intro q1 q2 q3;rcases h with (h | h) | h
   ·exact absurd h q1
   ·omega
   ·rw [h] at q3; cases q3
  ·have l:=E8 s hs s.length 0 O;simp only [Bool.or_eq_true,decide_eq_true_eq,not_or] at h;obtain ⟨⟨h1,h2⟩,h3⟩:=h;have h3:jg (s.getD 0 0)=true:=by simpa using h3
   cases ha:kq (λ j=>idB (s.getD j 0)) 0 s.length with
   | false =>
    rw [ha] at l hi;refine iC false (aO l) (eqB ?_);rw [hi]; simp
   | true =>
    rw [ha] at l hi;refine ez () (aO l) (aa (eqB ?_));rw [hi]; simp only [true_iff];exact ⟨h1,by omega,h3,trivial⟩
end Go.Ab.R06
end
