/- Texts of the proof, one behind the other. No statement is proved here. -/
import Derived.Lib.IndexLaws
import Derived.Lib.Bytes2
import Derived.Test.YtihghalcmfpnaaaGreatDoorZ14Ta
import Derived.Test.YtihghalcmfpnaaaGreatDoorZ14Tb
import Derived.Test.YtihghalcmfpnaaaGreatDoorZ14Tc
set_option maxHeartbeats 4000000
section
namespace Go.Ab.R06
open Go.Proofs Go.Ab Go.Ab.RB
attribute [local irreducible] awp io bg bO cv AV.sub M cZ
instance RQ:HE Tryz.prog 188:=⟨Tryz.call188⟩
instance Si:HE Tryz.prog 170:=⟨Tryz.call170⟩
instance Sv:HE Tryz.prog 172:=⟨Tryz.call172⟩
instance RR:HE Tryz.prog 150:=⟨Tryz.call150⟩
def j2 (SQ:am):Option Bool :=
 (
   if SQ.Ar < 0 then
    some true
   else
    some (decide (6 < SQ.Ar))
  ).bind λ t2 =>
 if t2=true then
  some false
 else
  jn (
    if SQ.Ar=1 then
     (
       if SQ.E'=0 then
        some false
       else
        some (!decide (SQ.E'=1))
      ).bind λ t6 =>
     if t6=true then
      some (.inr false)
     else
      some (.inl ())
    else
     if SQ.Ar=2 then
      some (.inl ())
     else
      if SQ.E'=0 then
       some (.inl ())
      else
       some (.inr false)
   : Option (Unit⊕Bool)) λ _q20 =>
  (
    if SQ.Ar=3 then
     if SQ.Ar=4 then
      some false
     else
      if SQ.Ar=5 then
       some false
      else
       some (decide (0 < (SQ.Df.length:Int)))
    else
     if SQ.If=([]:Bytes) then
      if SQ.Ar=4 then
       some false
      else
       if SQ.Ar=5 then
        some false
       else
        some (decide (0 < (SQ.Df.length:Int)))
     else
      some true
   ).bind λ T0 =>
  if T0=true then
   some false
  else
   if SQ.Ar=5 then
    some (decide ((SQ.C'.length:Int)=(SQ.Df.length:Int)))
   else
    some (decide ((SQ.C'.length:Int)=0))
instance Fs (SQ:am):∀ (r:Bool),HP (j2 SQ=some r) Tryz.prog 170 [.agg (am.cs SQ)] (.p (eB r)):=by
 refine hP good Tryz.func170 Z Z λ r h0 _ w0=>?_;unfold j2 at h0;refine nx 7 Z (bd h0 λ Wx h1 h0=>kN Wx (λ WY=>⟨[(1,.ptr 1 0),(10,.p (eB WY))],[(1,(am.cs SQ).map .p)]⟩) ?_ ?_)
 ·refine nx 1 Z (fB [10] h0 Z (λ c3 h0=>?_) λ c3 h0=>?_)
  ·exact J0
  refine nx 8 rfl ?_;obtain ⟨V0,h1,TC,hR0⟩:=br h0;refine kX (λ VJ:Unit=>V0=.inl VJ) (λ VJ=>⟨[(1,.ptr 1 0)],[(1,(am.cs SQ).map .p)]⟩) (λ VJ hv=>?_) ?_
  ·have h0:=TC _ hv;refine nx 3 Z (bd h0 λ Zb h1 h0=>kN Zb (λ ZT=>⟨[(1,.ptr 1 0),(51,.p (eB ZT))],[(1,(am.cs SQ).map .p)]⟩) ?_ ?_)
   ·exact J0
   exact ay
  refine nx 6 Z (fD [16,17] h1 Z (λ c4 h1=>?_) λ c4 h1=>?_)
  ·refine nx 2 Z (bd h1 λ VP h2 h1=>kN VP (λ Uz=>⟨[(1,.ptr 1 0),(25,.p (eB Uz))],[(1,(am.cs SQ).map .p)]⟩) ?_ ?_)
   ·exact ay
   exact bV
  exact ay
 exact ay
def ku (Mr:Bytes):Option Int :=
 if 4096 < (Mr.length:Int) then
  some 3
 else
  (jT Mr).bind λ r2 =>
  if (!r2)=true then
   some 1
  else
   some 0
instance K7 (Mr:Bytes):∀ (r:Int),HP (ku Mr=some r) Tryz.prog 172 [eS Mr] (.p (eI r)):=by
 refine hP good Tryz.func172 Z Z λ r h0 _ w0=>?_;unfold ku at h0;exact J0
def jj (SQ:am):Nat->Int->Option (Unit⊕(Unit⊕Int))
 | 0,_=>none
 | m+1,Vy =>
 if Vy < (SQ.C'.length:Int) then
  ck ((0:Int)<=Vy/\Vy < (SQ.C'.length:Int)) <|
  (ku (lat SQ.C' Vy)).bind λ Uc =>
  if Uc=0 then
   (
     if 0 < Vy then
      ck (inR (Vy - 1)) <|
      ck ((0:Int)<=Vy - 1/\Vy - 1 < (SQ.C'.length:Int)) <|
      some (Op.bytesLess (lat SQ.C' Vy) (lat SQ.C' (Vy - 1))||decide (lat SQ.C' Vy=lat SQ.C' (Vy - 1)))
     else
      some false
    ).bind λ t33 =>
   if t33=true then
    some (.inr (.inr 1))
   else
    ck (inR (Vy+1)) <|
    jj SQ m (Vy+1)
  else
   some (.inr (.inr Uc))
 else
  some (.inl ())
def mt (n:Nat)(SQ:am):Option Int :=
 (j2 SQ).bind λ r1 =>
 if (!r1)=true then
  some 1
 else
  jn (
    if SQ.Ar=2 then
     (iX SQ.E').bind λ r5 =>
     if (!r5)=true then
      some (.inr 5)
     else
      some (.inl ())
    else
     if SQ.Ar=3 then
      (ku SQ.If).bind λ r9 =>
      some (.inr r9)
     else
      if SQ.Ar=5 then
       jn (jj SQ n 0) λ _Z' =>
       some (.inl ())
      else
       some (.inl ())
   : Option (Unit⊕Int)) λ _Yl =>
  some 0
instance La (n:Nat) (SQ:am):∀ (r:Int),HP (mt n SQ=some r) Tryz.prog 150 [.agg (am.cs SQ)] (.p (eI r)):=by
 refine hP good Tryz.func150 Z Z λ r h0 _ w0=>?_;unfold mt at h0;refine nx 9 Z (K0 λ r1 h0=>nx 2 Z (fB [8] h0 Z (λ c3 h0=>?_) λ c3 h0=>?_))
 ·exact J0
 refine nx 8 rfl ?_;obtain ⟨o40,h1,TC,hR0⟩:=br h0;refine kX (λ ZS:Unit=>o40=.inl ZS) (λ ZS=>⟨[],[]⟩) (λ ZS hv=>?_) ?_
 ·exact fO
 refine nx 6 Z (fD [11,12] h1 Z (λ c4 h1=>?_) λ c4 h1=>?_)
 ·exact ay
 refine nx 6 Z (fD [17,18] h1 Z (λ c8 h1=>?_) λ c8 h1=>?_)
 ·exact ay
 refine nx 6 Z (fD [22,23] h1 Z (λ Xd h1=>?_) λ Xd h1=>?_)
 ·refine nx 5 rfl (oLl (f:=eS) Z Z (nx 3 rfl ?_));obtain ⟨Xl,h2,hL1,hR1⟩:=br h1;refine kEx 1 (λ VU:Unit=>Xl=.inl VU) (λ VU=>⟨[],[]⟩) (λ VU hv=>?_) ?_
  ·have h1:=hL1 _ hv;exact ay
  refine lG (λ (XB:Int)=>⟨[(1,.ptr 1 0),(25,.p (eL eS SQ.C')),(26,.p (eI (SQ.C'.length:Int))),(27,.p (eI XB))],[(1,(am.cs SQ).map .p)]⟩) (λ m (XB:Int)=>jj SQ m XB) Y 0 h2 (gE rfl rfl) ?_;rintro m Vy h2;replace h2:jj SQ (m+1) Vy=some Xl:=h2;rw [jj] at h2;refine nx 5 rfl (fD [28] h2 rfl (λ c25 h2=>?_) λ c25 h2=>?_)
  ·refine nx 7 Z (oE h2 Y Z Z Y λ WB h2=>nx 8 Z (K2 λ Uc h2=>nx 7 Z (fN [35] h2 Z (λ c29 h2=>?_) λ c29 h2=>?_)))
   ·refine nx 3 Z (bd h2 λ Y9 h3 h2=>kN Y9 (λ v46=>⟨[(1,.ptr 1 0),(25,.p (eL eS SQ.C')),(26,.p (eI (SQ.C'.length:Int))),(27,.p (eI Vy)),(48,.p (eB v46))],[(1,(am.cs SQ).map .p)]⟩) ?_ ?_)
    ·exact bV
    refine nx 4 Z (fD [38,39] h3 Z (λ ZF h3=>?_) λ ZF h3=>?_)
    ·exact nx 4 Z (oA h3 Z Z λ XI h3=>oE h3 Y Z Z Y λ Zp h3=>nx 1 Z Bu)
    exact nx 10 Z ly
   exact bV
  exact bV
 exact ay
def eJ (T4:am->Int->Int->Option (Int×Int))(SQ:am)(O':Int):Nat->Int->Int->Option (Int⊕(Int×Int))
 | 0,_,_=>none
 | m+1,T0,WV =>
 if T0 < (SQ.Df.length:Int) then
  ck ((0:Int)<=T0/\T0 < (SQ.Df.length:Int)) <|
  ck (inR (O'+1)) <|
  (T4 (lat SQ.Df T0) (O'+1) WV).bind λ Te =>
  if Te.1=0 then
   ck (inR (T0+1)) <|
   eJ T4 SQ O' m (T0+1) Te.2
  else
   some (.inr (Te.1,Te.2))
 else
  some (.inl WV)
def ga:Nat->am->Int->Int->Option (Int×Int)
 | 0,_,_,_=>none
 | n+1,SQ,O',cap_0 =>
 if 32 < O' then
  some (4,cap_0)
 else
  if 4096<=cap_0 then
   some (14,cap_0)
  else
   ck (inR (cap_0+1)) <|
   (mt n SQ).bind λ r4 =>
   if r4=0 then
    jn (eJ (ga n) SQ O' n 0 (cap_0+1)) λ f27 =>
    some (0,f27)
   else
    some (r4,cap_0+1)
instance EF (n:Nat):∀ (SQ:am) (O':Int) (cap_0:Int) (r:Int×Int),HO (ga n SQ O' cap_0=some r) Tryz.prog 149 [.p (.agg (am.cs SQ)),.p (eI O'),.ptr 1000000 0,.ptr 1000001 0] [(1000000,[.p (eI cap_0)]),(1000001,[.func (.func 149) [.ptr 1000000 0,.ptr 1000001 0]])] (.p (eI r.1)) ([(1000000,[.p (eI r.2)]),(1000001,[.func (.func 149) [.ptr 1000000 0,.ptr 1000001 0]])]):=by
 induction n with
 | zero=>exact Zr
 | succ n ih =>
 refine λ SQ O' cap_0=>hO good [] [1000000,1000001] Tryz.func149 Z Z λ r h0 _ w0 F=>?_;rw [ga] at h0;refine nx 11 Z (fD [12] h0 Z (λ c1 h0=>?_) λ c1 h0=>?_)
 ·exact J0
 refine nx 8 Z (fD [14] h0 Z (λ c2 h0=>?_) λ c2 h0=>?_)
 ·exact J0
 refine nx 5 Z (oA h0 Z Z λ XJ h0=>nx 6 Z (K0 λ r4 h0=>nx 7 Z (fN [20] h0 Z (λ c6 h0=>?_) λ c6 h0=>?_)))
 ·refine nx 7 rfl (oLl (f:=cY) Z Z (nx 3 rfl ?_));obtain ⟨VP,h1,TC,hR0⟩:=br h0;refine kEx 0 (λ Uz:Int=>VP=.inl Uz) (λ Uz=>⟨[],[(1000000,[.p (eI Uz)]),(1000001,[.func (.func 149) [.ptr 1000000 0,.ptr 1000001 0]])]⟩) (λ Uz hv=>?_) ?_
  ·exact fO
  refine lG (λ (UV:Int×Int)=>⟨[(1,.p (eI O')),(3,.ptr 1000001 0),(23,.p (eL cY SQ.Df)),(24,.p (eI (SQ.Df.length:Int))),(25,.p (eI UV.1))],[(1000000,[.p (eI UV.2)]),(1000001,[.func (.func 149) [.ptr 1000000 0,.ptr 1000001 0]])]⟩) (λ m (UV:Int×Int)=>eJ (ga n) SQ O' m UV.1 UV.2) Y (0,cap_0+1) h1 (gE rfl rfl) ?_;rintro m ⟨T0,WV⟩ h1;replace h1:eJ (ga n) SQ O' (m+1) T0 WV=some VP:=h1;rw [eJ] at h1;refine nx 5 rfl (fD [26] h1 rfl (λ c18 h1=>?_) λ c18 h1=>?_)
  ·refine nx 6 Z (oE h1 am.It Z Z Y λ U5 h1=>nx 9 Z (oA h1 Z Z λ VF h1=>bd h1 λ Te e22 h1=>mO Z (wi [1000000,1000001] [] 102000 102000 (HO.c e22) Z Z Z Z Z Z ⟨sr,sr,sr,sr,trivial⟩ Z Z ⟨⟨_,Z,⟨sr,trivial⟩⟩,⟨_,Z,⟨sr,trivial⟩⟩,trivial⟩ Z Z Z Z Z Z Z Z Tryz.call149 Z Z ?_)));exact ay
  exact ay
 exact J0
def kM (n:Nat)(SQ:am):Option Int :=
 (ga n SQ 1 0).bind λ r1 =>
 some r1.1
instance Jk (n:Nat) (SQ:am):∀ (r:Int),HP (kM n SQ=some r) Tryz.prog 111 [.agg (am.cs SQ)] (.p (eI r)):=by
 refine hP good Tryz.func111 Z Z λ r h0 _ w0=>?_;unfold kM at h0;exact nx 16 Z (mO Z (yt Z Z Z Z (nx 6 Z (bd h0 λ r1 e2 h0=>mO Z (wi [3,4] [] 101000 101000 (HO.c e2) Z Z Z Z Z Z ⟨sr,sr,sr,sr,trivial⟩ Z Z ⟨⟨_,Z,⟨sr,trivial⟩⟩,⟨_,Z,⟨sr,trivial⟩⟩,trivial⟩ Z Z Z Z Z Z Z Z Tryz.call149 Z Z J0)))))
end Go.Ab.R06
end
section
namespace Go.Ab.R06
open Go.Proofs Go.Ab Go.Ab.RB
section
variable {p:Prop}
theorem I7 (h:p:=by
  have:=js [200];have:=jB 200 (Bool×List ac×Int×Int×Int×Int×Int×Bytes) (λ v=>[(4,.p (eB v.1))]) λ v=>[(1000000,(pm v.2))]
  exact J0):p:=h
theorem Im (h:p:=by first | (simp only [List.map_append,la,th,ad.J']; done) | (simp only [List.map_append,la,th,ad.J']; rfl)):p:=h
theorem rL (h:p:=by rw [List.length_map]):p:=h
theorem Bz (h:p:=by exact mQo (oi h0) (bj (ca 900000 800000 Z Z Z Z Z) (aU _)) Z Z Z Z (sr) ⟨⟨_,Z,⟨sr,sr,sr,sr,sr,sr,sr,trivial⟩⟩,trivial⟩):p:=h
theorem BA (h:p:=by exact mQo (oi h0) (bj (ca 101000 800000 Z Z Z Z Z) (aU _)) Z Z Z Z (sr) ⟨⟨_,Z,⟨sr,sr,sr,sr,sr,sr,sr,trivial⟩⟩,trivial⟩):p:=h
theorem KU (h:p:=by exact gE (t:=⟨[(0,.ptr 1000000 0),(2,.ptr 2 0)],[(2,kb),(1000000,[.p (eS Pn.fs),.p (eI Pn.fat),.p (eI Pn.fi),.p (eI Pn.D'),.p (eS Pn.F'),.vec 900000 11 0 (Pn.BY.map ak),.p (eB Pn.IN)])]⟩) Z Z):p:=h
end
set_option maxRecDepth 4000
attribute [local irreducible] awp io bg bO cv AV.sub M cZ
instance Re:HE Tryz.prog 146:=⟨Tryz.call146⟩
instance Q7:HE Tryz.prog 148:=⟨Tryz.call148⟩
instance QR:HE Tryz.prog 112:=⟨Tryz.call112⟩
instance QL:HE Tryz.prog 147:=⟨Tryz.call147⟩
instance QN:HE Tryz.prog 145:=⟨Tryz.call145⟩
instance Rh:HE Tryz.prog 110:=⟨Tryz.call110⟩
instance QJ:HE Tryz.prog 111:=⟨Tryz.call111⟩
instance QO:HE Tryz.prog 113:=⟨Tryz.call113⟩
instance QX:HE Tryz.prog 114:=⟨Tryz.call114⟩
instance Ra:HE Tryz.prog 68:=⟨Tryz.call68⟩
instance Oh:HE Tryz.prog 31:=⟨Tryz.call31⟩
instance Pw:HE Tryz.prog 70:=⟨Tryz.call70⟩
instance Qh:HE Tryz.prog 121:=⟨Tryz.call121⟩
instance P9:HE Tryz.prog 12:=⟨Tryz.call12⟩
instance P6:HE Tryz.prog 39:=⟨Tryz.call39⟩
instance Ps:HE Tryz.prog 156:=⟨Tryz.call156⟩
instance Qa:HE Tryz.prog 124:=⟨Tryz.call124⟩
instance PN:HE Tryz.prog 158:=⟨Tryz.call158⟩
instance N4:HE Tryz.prog 157:=⟨Tryz.call157⟩
instance N5:HE Tryz.prog 125:=⟨Tryz.call125⟩
instance Oe:HE Tryz.prog 102:=⟨Tryz.call102⟩
instance Qr:HE Tryz.prog 101:=⟨Tryz.call101⟩
instance Qp:HE Tryz.prog 71:=⟨Tryz.call71⟩
instance P3:HE Tryz.prog 103:=⟨Tryz.call103⟩
instance Ob:HE Tryz.prog 211:=⟨Tryz.call211⟩
abbrev uV (F:Bytes->Int->Option (Int))(k:Nat):Prop:=∀ (a0:Bytes) (a1:Int) (r:Int),HP (F a0 a1=some r) Tryz.prog k [eS a0,eI a1] (.p (eI r))
abbrev tX (F:al->Bytes->Option (al))(k:Nat):Prop:=∀ (a0:al) (a1:Bytes) (r:al),HO (F a0 a1=some r) Tryz.prog k [.ptr 1000000 0,.p (eS a1)] [(1000000,((al.cs a0).map .p))] (.tuple []) ([(1000000,((al.cs r).map .p))])
abbrev pm (v:List ac×Int×Int×Int×Int×Int×Bytes):List AV:=[.p (eL aG v.1),.p (eI v.2.1),.p (eI v.2.2.1),.p (eI v.2.2.2.1),.p (eI v.2.2.2.2.1),.p (eI v.2.2.2.2.2.1),.p (eS v.2.2.2.2.2.2)]
abbrev rh:List PV:=[eI 0,eI 0,eS ([]:Bytes),eS ([]:Bytes),eI 0,eI 0,eS ([]:Bytes),.val (.slice none 0 0),.val (.slice none 0 0),.val (.slice none 0 0),eI 0]
abbrev kd:List AV:=[.p (eI 0),.p (eS ([]:Bytes)),.p (eI 0)]
abbrev kb:List AV:=[.p (eI 0),.p (eI 0),.p (eS ([]:Bytes))]
def km (TB:Int):Option Bool :=
 (
   if TB=12 then
    some true
   else
    some (decide (TB=13))
  ).bind λ t2 =>
 some t2
instance MS (TB:Int):∀ (r:Bool),HP (km TB=some r) Tryz.prog 146 [eI TB] (.p (eB r)):=by
 refine hP good Tryz.func146 Z Z λ r h0 _ w0=>?_;unfold km at h0;exact jZ
def jz (TB:Int):Option Bool :=
 (
   if TB=3 then
    some true
   else
    if TB=4 then
     some true
    else
     if TB=9 then
      some true
     else
      (km TB).bind λ r4 =>
      some r4
  ).bind λ t6 =>
 some t6
instance Li (TB:Int):∀ (r:Bool),HP (jz TB=some r) Tryz.prog 112 [eI TB] (.p (eB r)):=by
 refine hP good Tryz.func112 Z Z λ r h0 _ w0=>?_;unfold jz at h0;exact jZ
def kG (SU:ad):Option Bool :=
 if SU.Ar=6 then
  (
    if SU.fOp=1 then
     some true
    else
     some (decide (SU.fOp=2))
   ).bind λ t3 =>
  some t3
 else
  if SU.Ar=7 then
   (
     if 3<=SU.fOp then
      some (decide (SU.fOp<=15))
     else
      some false
    ).bind λ t6 =>
   some t6
  else
   some (decide (SU.fOp=0))
instance Ep (SU:ad):∀ (r:Bool),HP (kG SU=some r) Tryz.prog 145 [.agg (ad.cs SU)] (.p (eB r)):=by
 refine hP good Tryz.func145 Z Z λ r h0 _ w0=>?_;unfold kG at h0;have:=js [300,500];have:=jS 300 Bool λ v=>[(2,.p (eB v))]
 have:=jS 500 Bool λ v=>[(2,.p (eB v))]
 exact J0
def jE (SQ:am):Option Bool :=
 (
   if SQ.Ar=0 then
    if SQ.E'=0 then
     if SQ.If=([]:Bytes) then
      ck (inR ((SQ.Df.length:Int)+(SQ.C'.length:Int))) <|
      some (decide ((SQ.Df.length:Int)+(SQ.C'.length:Int)=0))
     else
      some false
    else
     some false
   else
    some false
  ).bind λ t5 =>
 some t5
instance L8 (SQ:am):∀ (r:Bool),HP (jE SQ=some r) Tryz.prog 147 [.agg (am.cs SQ)] (.p (eB r)):=by
 refine hP good Tryz.func147 Z Z λ r h0 _ w0=>?_;unfold jE at h0;exact jZ
def pT (TB:Int):Option (Int×Int×Bool) :=
 (
   if TB=1 then
    some true
   else
    some (decide (TB=3))
  ).bind λ t2 =>
 if t2=true then
  some (0,0,false)
 else
  (
    if TB=4 then
     some true
    else
     some (decide (TB=6))
   ).bind λ t5 =>
  if t5=true then
   some (1,1,false)
  else
   (
     if TB=5 then
      some true
     else
      some (decide (TB=7))
    ).bind λ t8 =>
   if t8=true then
    some (2,2,false)
   else
    if TB=8 then
     some (3,3,false)
    else
     if TB=2 then
      some (1,4096,false)
     else
      if TB=12 then
       some (2,3,false)
      else
       if TB=13 then
        some (3,4,false)
       else
        if TB=11 then
         some (0,4096,true)
        else
         some (0,4096,false)
instance LF (TB:Int):∀ (r:Int×Int×Bool),HP (pT TB=some r) Tryz.prog 148 [eI TB] (.tuple [.p (eI r.1),.p (eI r.2.1),.p (eB r.2.2)]):=by
 refine hP good Tryz.func148 Z Z λ r h0 _ w0=>?_;unfold pT at h0;have:=js [201,501,801];have:=jS 201 Bool λ v=>[(6,.p (eB v))]
 have:=jS 501 Bool λ v=>[(9,.p (eB v))]
 have:=jS 801 Bool λ v=>[(12,.p (eB v))]
 exact J0
def iM (SU:ad):Option Bool :=
 (
   if SU.Ar < 1 then
    some true
   else
    if 13 < SU.Ar then
     some true
    else
     (kG SU).bind λ r3 =>
     some (!r3)
  ).bind λ t5 =>
 if t5=true then
  some false
 else
  (
    (jz SU.Ar).bind λ r7 =>
    if (!r7)=true then
     if SU.AI=([]:Bytes) then
      (km SU.Ar).bind λ VW =>
      if (!VW)=true then
       if SU.Gw=([]:Bytes) then
        if SU.Ar=1 then
         some false
        else
         (jE SU.A').bind λ WR =>
         some (!WR)
       else
        some true
      else
       if SU.Ar=1 then
        some false
       else
        (jE SU.A').bind λ Vd =>
        some (!Vd)
     else
      some true
    else
     (km SU.Ar).bind λ Te =>
     if (!Te)=true then
      if SU.Gw=([]:Bytes) then
       if SU.Ar=1 then
        some false
       else
        (jE SU.A').bind λ TT =>
        some (!TT)
      else
       some true
     else
      if SU.Ar=1 then
       some false
      else
       (jE SU.A').bind λ Xi =>
       some (!Xi)
   ).bind λ t31 =>
  if t31=true then
   some false
  else
   (pT SU.Ar).bind λ Vq =>
   (
     if (SU.By.length:Int) < Vq.1 then
      some true
     else
      if Vq.2.1 < (SU.By.length:Int) then
       if Vq.2.1 < 4096 then
        some true
       else
        if Vq.2.2=true then
         ck ((2:Int)≠0) <|
         some (decide ((SU.By.length:Int).tmod 2=1))
        else
         some false
      else
       if Vq.2.2=true then
        ck ((2:Int)≠0) <|
        some (decide ((SU.By.length:Int).tmod 2=1))
       else
        some false
    ).bind λ t42 =>
   if t42=true then
    some false
   else
    if SU.Ar=1 then
     (
       if 0<=SU.A'.Ar then
        if SU.A'.Ar<=3 then
         if SU.A'.Ar=2 then
          some (decide (0<=SU.A'.E'))
         else
          some true
        else
         some false
       else
        some false
      ).bind λ t48 =>
     some t48
    else
     some true
instance Ga (SU:ad):∀ (r:Bool),HP (iM SU=some r) Tryz.prog 110 [.agg (ad.cs SU)] (.p (eB r)):=by
 refine hP good Tryz.func110 Z Z λ r h0 _ w0=>?_;unfold iM at h0;refine nx 7 Z (bd h0 λ Wh h1 h0=>?_);refine kN Wh (λ Xp=>⟨[(1,.ptr 1 0),(19,.p (eB Xp))],[(1,(ad.cs SU).map .p)]⟩) ?_ ?_
 ·refine nx 1 Z (fB [19] h0 Z (λ c6 h0=>?_) λ c6 h0=>?_)
  ·exact J0
  refine nx 4 Z (bd h0 λ o55 h1 h0=>?_);refine kN o55 (λ YP=>⟨[(1,.ptr 1 0),(50,.p (eB YP))],[(1,(ad.cs SU).map .p)]⟩) ?_ ?_
  ·refine nx 1 Z (fB [50] h0 Z (λ c32 h0=>?_) λ c32 h0=>?_)
   ·exact J0
   refine nx 6 Z (K0 λ Vq h0=>nx 10 Z ?_);refine bd h0 λ o57 h1 h0=>kN o57 (λ v58=>⟨[(1,.ptr 1 0),(83,.p (eB v58))],[(1,(ad.cs SU).map .p)]⟩) ?_ ?_
   ·have:=js [1100];have:=jS 1100 Bool λ v=>[(2,.p (eB v))]
    exact J0
   refine nx 3 Z (oLl (f:=ak) Z Z ?_);refine nx 3 Z (fD [62,63] h1 Z (λ c35 h1=>?_) λ c35 h1=>?_)
   ·exact ay
   refine nx 2 Z (oLl (f:=ak) Z Z ?_);refine nx 3 Z (fD [68,69] h1 Z (λ XV h1=>?_) λ XV h1=>?_)
   ·refine nx 5 Z (fD [71,72,73,74] h1 Z (λ c37 h1=>?_) λ c37 h1=>?_)
    ·exact ay
    refine nx 2 Z (fB [5,57,75,76] h1 Z (λ c38 h1=>?_) λ c38 h1=>?_)
    ·refine nx 2 Z (oLl (f:=ak) Z Z ?_);refine cc' h1 λ Zm h1=>mO Z (FJ Z Z Z Z Z Z Zm ?_);exact ay
    exact ay
   refine nx 7 Z (fB [5,57,75,76] h1 Z (λ ZC h1=>?_) λ ZC h1=>?_)
   ·refine nx 2 Z (oLl (f:=ak) Z Z ?_);refine cc' h1 λ VE h1=>mO Z (FJ Z Z Z Z Z Z VE ?_);exact ay
   exact ay
  exact ay
 exact ay
def da (Mr:Bytes):Nat->Int->Option (Unit⊕Bool)
 | 0,_=>none
 | m+1,Ug =>
 if Ug < (Mr.length:Int) then
  ck ((0:Int)<=Ug/\Ug < (Mr.length:Int)) <|
  (
    ck ((0:Int)<=Ug/\Ug < (Mr.length:Int)) <|
    if byt Mr Ug=95 then
     some false
    else
     if iOr .u8 (byt Mr Ug) 32 < 97 then
      if Ug=0 then
       some true
      else
       ck ((0:Int)<=Ug/\Ug < (Mr.length:Int)) <|
       if byt Mr Ug < 48 then
        some true
       else
        ck ((0:Int)<=Ug/\Ug < (Mr.length:Int)) <|
        some (decide (57 < byt Mr Ug))
     else
      if 122 < iOr .u8 (byt Mr Ug) 32 then
       if Ug=0 then
        some true
       else
        ck ((0:Int)<=Ug/\Ug < (Mr.length:Int)) <|
        if byt Mr Ug < 48 then
         some true
        else
         ck ((0:Int)<=Ug/\Ug < (Mr.length:Int)) <|
         some (decide (57 < byt Mr Ug))
      else
       some false
   ).bind λ t34 =>
  if t34=true then
   some (.inr false)
  else
   ck (inR (Ug+1)) <|
   da Mr m (Ug+1)
 else
  some (.inl ())
def gA (n:Nat)(Mr:Bytes):Option Bool :=
 jn (da Mr n 0) λ _Yk =>
 (
   if Mr=([]:Bytes) then
    some false
   else
    some (decide ((Mr.length:Int)<=64))
  ).bind λ t39 =>
 some t39
instance Ca (n:Nat) (Mr:Bytes):∀ (r:Bool),HP (gA n Mr=some r) Tryz.prog 113 [eS Mr] (.p (eB r)):=by
 refine hP good Tryz.func113 Z Z λ r h0 _ w0=>?_;unfold gA at h0;refine nx 8 rfl (oLs rfl ?_);refine nx 3 rfl ?_;obtain ⟨o43,h1,TC,hR0⟩:=br h0;refine kEx 0 (λ v44:Unit=>o43=.inl v44) (λ v44=>⟨[(0,.p (eS Mr))],[]⟩) (λ v44 hv=>?_) ?_
 ·have h0:=TC _ hv;have:=js [800];have:=jS 800 Bool λ v=>[(2,.p (eB v))]
  exact J0
 refine lG (λ (U8:Int)=>⟨[(0,.p (eS Mr)),(6,.p (eI (Mr.length:Int))),(7,.p (eI U8))],[]⟩) (λ m (U8:Int)=>da Mr m U8) Y 0 h1 (gE rfl rfl) ?_;rintro m Ug h1;replace h1:da Mr (m+1) Ug=some o43:=h1;rw [da] at h1;have:=js [500];have:=jS 500 Bool λ v=>[(41,.p (eB v))]
 exact ay
def fX (Mr:Bytes):Option Bool :=
 (
   if Mr=([110,117,108,108]:Bytes) then
    some true
   else
    if Mr=([116,114,117,101]:Bytes) then
     some true
    else
     if Mr=([102,97,108,115,101]:Bytes) then
      some true
     else
      if Mr=([102,111,114]:Bytes) then
       some true
      else
       if Mr=([105,110]:Bytes) then
        some true
       else
        some (decide (Mr=([105,102]:Bytes)))
  ).bind λ t6 =>
 if t6=true then
  some true
 else
  some false
instance Eg (Mr:Bytes):∀ (r:Bool),HP (fX Mr=some r) Tryz.prog 114 [eS Mr] (.p (eB r)):=by
 refine hP good Tryz.func114 Z Z λ r h0 _ w0=>?_;unfold fX at h0;have:=js [201];have:=jS 201 Bool λ v=>[(4,.p (eB v))]
 exact J0
def nJ (n:Nat)(SU:ad):Option Int :=
 (iM SU).bind λ r1 =>
 if (!r1)=true then
  some 1
 else
  if SU.Ar=1 then
   (kM n SU.A').bind λ r5 =>
   some r5
  else
   (
     (jz SU.Ar).bind λ r7 =>
     if r7=true then
      (gA n SU.AI).bind λ Tp =>
      if (!Tp)=true then
       some true
      else
       if SU.Ar=4 then
        some false
       else
        (fX SU.AI).bind λ Xj =>
        some Xj
     else
      some false
    ).bind λ T0 =>
   if T0=true then
    some 7
   else
    (
      if SU.Gw=([]:Bytes) then
       some false
      else
       (gA n SU.Gw).bind λ Vd =>
       if (!Vd)=true then
        some true
       else
        (fX SU.Gw).bind λ Vb =>
        some Vb
     ).bind λ Vy =>
    if Vy=true then
     some 7
    else
     some 0
instance MA (n:Nat) (SU:ad):∀ (r:Int),HP (nJ n SU=some r) Tryz.prog 68 [.agg (ad.cs SU)] (.p (eI r)):=by
 refine hP good Tryz.func68 Z Z λ r h0 _ w0=>?_;unfold nJ at h0;have:=js [500,700];have:=jS 500 Bool λ v=>[(30,.p (eB v))]
 have:=jS 700 Bool λ v=>[(44,.p (eB v))]
 exact J0
def bR (TP:bX->ad->Int->Option (Int×bX))(e_1:ad)(Tu:Int):Nat->Int->Int->Option (Int⊕(Int×bX))
 | 0,_,_=>none
 | m+1,T0,WV =>
 if T0 < (e_1.By.length:Int) then
  ck ((0:Int)<=T0/\T0 < (e_1.By.length:Int)) <|
  ck (inR (Tu+1)) <|
  (TP (bX.mk WV) (lat e_1.By T0) (Tu+1)).bind λ Te =>
  if Te.1=0 then
   ck (inR (T0+1)) <|
   bR TP e_1 Tu m (T0+1) Te.2.fcount
  else
   some (.inr (Te.1,Te.2))
 else
  some (.inl WV)
def bY:Nat->bX->ad->Int->Option (Int×bX)
 | 0,_,_,_=>none
 | n+1,S5,e_1,Tu =>
 if 32 < Tu then
  some (4,S5)
 else
  if 4096<=S5.fcount then
   some (14,S5)
  else
   ck (inR (S5.fcount+1)) <|
   (nJ n e_1).bind λ r4 =>
   if r4=0 then
    jn (bR (bY n) e_1 Tu n 0 (S5.fcount+1)) λ f27 =>
    some (0,(bX.mk f27))
   else
    some (r4,(bX.mk (S5.fcount+1)))
instance yh (n:Nat):∀ (S5:bX) (e_1:ad) (Tu:Int) (r:Int×bX),HO (bY n S5 e_1 Tu=some r) Tryz.prog 31 [.ptr 1000000 0,.p (.agg (ad.cs e_1)),.p (eI Tu)] [(1000000,[.p (eI S5.fcount)])] (.p (eI r.1)) ([(1000000,[.p (eI r.2.fcount)])]):=by
 induction n with
 | zero=>exact Zr
 | succ n ih =>
 refine λ S5 e_1 Tu=>hO good [] [1000000] Tryz.func31 Z Z λ r h0 _ w0 F=>?_;rw [bY] at h0;refine nx 11 Z (fD [12] h0 Z (λ c1 h0=>?_) λ c1 h0=>?_)
 ·exact J0
 refine nx 11 Z (fD [17] h0 Z (λ c2 h0=>?_) λ c2 h0=>?_)
 ·exact J0
 refine nx 8 Z (oA h0 Z Z λ XJ h0=>?_);refine nx 8 Z (K0 λ r4 h0=>nx 7 Z ?_);refine fN [28] h0 Z (λ c6 h0=>?_) λ c6 h0=>?_
 ·refine nx 7 rfl (oLl (f:=ak) Z Z ?_);refine nx 3 rfl ?_;obtain ⟨VP,h1,TC,hR0⟩:=br h0;refine kEx 0 (λ Uz:Int=>VP=.inl Uz) (λ Uz=>⟨[],[(1000000,[.p (eI Uz)])]⟩) (λ Uz hv=>?_) ?_
  ·exact fO
  refine lG (λ (UV:Int×Int)=>⟨[(0,.ptr 1000000 0),(2,.p (eI Tu)),(31,.p (eL ak e_1.By)),(32,.p (eI (e_1.By.length:Int))),(33,.p (eI UV.1))],[(1000000,[.p (eI UV.2)])]⟩) (λ m (UV:Int×Int)=>bR (bY n) e_1 Tu m UV.1 UV.2) Y (0,S5.fcount+1) h1 (gE rfl rfl) ?_;rintro m ⟨T0,WV⟩ h1;replace h1:bR (bY n) e_1 Tu (m+1) T0 WV=some VP:=h1;rw [bR] at h1;exact ay
 exact J0
def mq (n:Nat)(SU:ad):Option Int :=
 (bY n (bX.mk 0) SU 1).bind λ r1 =>
 some r1.1
instance K9 (n:Nat) (SU:ad):∀ (r:Int),HP (mq n SU=some r) Tryz.prog 12 [.agg (ad.cs SU)] (.p (eI r)):=by
 refine hP good Tryz.func12 Z Z λ r h0 _ w0=>?_;unfold mq at h0;exact J0
def cI (OF:al):Nat->Int->Option Int
 | 0,_=>none
 | m+1,f7 =>
 (
   if 0 < OF.H' then
    ck ((0:Int)<=f7/\f7 < (OF.fl.length:Int)) <|
    some (decide ((lat OF.fl f7).Ar=5))
   else
    some false
  ).bind λ X1 =>
 if X1=true then
  ck (inR (f7+1)) <|
  cI OF m (f7+1)
 else
  some f7
def bq (n:Nat)(OF:al):Option (ac×al) :=
 (cI OF n OF.fat).bind λ Yx =>
 ck ((0:Int)<=Yx/\Yx < (OF.fl.length:Int)) <|
 ck (inR (((lat OF.fl Yx).fAt)+OF.G')) <|
 some ((ac.mk ((lat OF.fl Yx).Ar) ((lat OF.fl Yx).B') (((lat OF.fl Yx).fAt)+OF.G')),(al.mk OF.fl Yx OF.H' OF.G' OF.AT))
instance zS (n:Nat) (OF:al):∀ (r:ac×al),HO (bq n OF=some r) Tryz.prog 70 [.ptr 1000000 0] [(1000000,((al.cs OF).map .p))] (.p (.agg (ac.cs r.1))) ([(1000000,((al.cs r.2).map .p))]):=by
 refine hO good [] [1000000] Tryz.func70 Z Z λ r h0 _ w0 F=>?_;unfold bq at h0;refine nx 6 Z (bd h0 λ VD h1 h0=>?_);refine kE 0 VD (λ v20=>⟨[(0,.ptr 1000000 0),(2,.ptr 2 0)],[(2,kd),(1000000,[.p (eL aG OF.fl),.p (eI v20),.p (eI OF.H'),.p (eI OF.G'),.p (eI OF.AT.Ar),.p (eI OF.AT.fAt),.p (eS OF.AT.AI)])]⟩) ?_ ?_
 ·refine nx 2 Z (cc' h0 λ U6 h0=>?_);refine mG (gE (t:=⟨[(0,.ptr 1000000 0),(2,.ptr 2 0)],[(2,kd),(1000000,[.p (eL aG OF.fl),.p (eI VD),.p (eI OF.H'),.p (eI OF.G'),.p (eI OF.AT.Ar),.p (eI OF.AT.fAt),.p (eS OF.AT.AI)])]⟩) Z Z) (mSq ⟨2,[10,11],(by3 (.some λ i=>Nat.beq i 3) .none .none),(λ _=>[(0,.ptr 1000000 0),(2,.ptr 2 0)]),(ob3 ([(2,kd),(1000000,[.p (eL aG OF.fl),.p (eI VD),.p (eI OF.H'),.p (eI OF.G'),.p (eI OF.AT.Ar),.p (eI OF.AT.fAt),.p (eS OF.AT.AI)])]) (3,kd) (3,[.p (eI ((lat OF.fl VD).Ar)),.p (eS ((lat OF.fl VD).B')),.p (eI ((lat OF.fl VD).fAt))]))⟩ Z ?_);refine dPc (.ptr 1000000 0) Z (dPc (.ptr 1000000 0) Z ?_);refine dPc (.ptr 1000000 0) Z (dPc (.p (eL aG OF.fl)) Z ?_);refine dPc (.ptr 1000000 0) Z (dPc (.ptr 1000000 0) Z ?_);refine dPc (.ptr 1000000 1) Z (dPc (.p (eI VD)) Z ?_);refine dO (.rptr (ac.cs (lat OF.fl VD))) [33,37] Z (λ _ sl Sk K hK=>ap Z (jP (f:=aG) (l:=OF.fl) ac.cs Z Z Z Z Z Z (Sk _ _ Z) Z (Sk _ _ Z) U6 ac.It Y hK)) (dPc (.p (.agg (ac.cs (lat OF.fl VD)))) Z ?_);refine dI (λ _=>.ptr 3 0) [] Z (λ sl Sk K hK=>ap Z (iQ Z Z Z Z Z hK)) (dS Z ?_);refine fq (nx 2 Z ?_);refine cc' h0 λ UN h0=>mG (gE (t:=⟨[(0,.ptr 1000000 0),(2,.ptr 2 0),(3,.ptr 3 0)],[(2,kd),(3,(ac.cs (lat OF.fl VD)).map .p),(1000000,[.p (eL aG OF.fl),.p (eI VD),.p (eI OF.H'),.p (eI OF.G'),.p (eI OF.AT.Ar),.p (eI OF.AT.fAt),.p (eS OF.AT.AI)])]⟩) Z Z) (mSq ⟨1,[8],(λ _=>.none),(λ _=>[(0,.ptr 1000000 0),(2,.ptr 2 0),(3,.ptr 3 0)]),(ob2 ([(2,kd),(3,[.p (eI ((lat OF.fl VD).Ar)),.p (eS ((lat OF.fl VD).B')),.p (eI ((lat OF.fl VD).fAt))]),(1000000,[.p (eL aG OF.fl),.p (eI VD),.p (eI OF.H'),.p (eI OF.G'),.p (eI OF.AT.Ar),.p (eI OF.AT.fAt),.p (eS OF.AT.AI)])]) (3,[.p (eI ((lat OF.fl VD).Ar)),.p (eS ((lat OF.fl VD).B')),.p (eI (((lat OF.fl VD).fAt)+OF.G'))]))⟩ Z ?_);refine dPc (.ptr 3 2) Z (dPc (.p (eI ((lat OF.fl VD).fAt))) Z ?_);refine dPc (.ptr 1000000 0) Z (dPc (.ptr 1000000 0) Z ?_);refine dPc (.ptr 1000000 3) Z (dPc (.p (eI OF.G')) Z ?_);refine dO (.p (eI (((lat OF.fl VD).fAt)+OF.G'))) [41,45] Z (λ _ sl Sk K hK=>ap Z (fY Z Z Z (Sk _ _ Z) (Sk _ _ Z) Z UN hK)) (dPc (.ptr 3 2) Z ?_);exact J0
 refine lG (λ (Wq:Int)=>⟨[(0,.ptr 1000000 0),(2,.ptr 2 0)],[(2,kd),(1000000,[.p (eL aG OF.fl),.p (eI Wq),.p (eI OF.H'),.p (eI OF.G'),.p (eI OF.AT.Ar),.p (eI OF.AT.fAt),.p (eS OF.AT.AI)])]⟩) (λ m (Wq:Int)=>cI OF m Wq) Y OF.fat h1 (gE rfl rfl) ?_;rintro m f7 h1;replace h1:cI OF (m+1) f7=some VD:=h1;rw [cI] at h1;refine nx 2 rfl (bd h1 λ o22 h2 h1=>?_);refine kN o22 (λ ZU=>⟨[(0,.ptr 1000000 0),(2,.ptr 2 0),(22,.p (eB ZU))],[(2,kd),(1000000,[.p (eL aG OF.fl),.p (eI f7),.p (eI OF.H'),.p (eI OF.G'),.p (eI OF.AT.Ar),.p (eI OF.AT.fAt),.p (eS OF.AT.AI)])]⟩) ?_ ?_
 ·exact ay
 refine fD (p:=0 < OF.H') [] h2 Z (λ c8 h2=>?_) λ c8 h2=>?_
 ·refine cc' h2 λ YM h2=>mD [(0,.ptr 1000000 0),(2,.ptr 2 0)] Z ⟨Z,Z,trivial⟩ Z (dR 4 Z ?_);refine dL (dt c8) Z (dR 9 Z ?_);refine dq (.rptr (ac.cs (lat OF.fl f7))) [9,13,17] Z (λ _ e _ q=>dF (jP (f:=aG) (l:=OF.fl) ac.cs Z Z Z Z Z Z (e _ _ Z) Z (e _ _ Z) YM ac.It Y q) Z Z (e _ _ Z) (rfl)) Z (dR 4 Z ?_);exact bV
 refine mD [(0,.ptr 1000000 0),(2,.ptr 2 0)] Z ⟨Z,Z,trivial⟩ Z (dR 4 Z ?_);refine dL (df c8) Z (dR 14 Z ?_);refine dE Z (nx 1 Z ?_);exact bV
def aJ (n:Nat)(OF:al):Option (ac×al) :=
 (bq n OF).bind λ r1 =>
 (
   if r1.1.Ar=6 then
    some r1.2.fat
   else
    ck (inR (r1.2.fat+1)) <|
    some (r1.2.fat+1)
  ).bind λ f5 =>
 some (r1.1,(al.mk r1.2.fl f5 r1.2.H' r1.2.G' r1.2.AT))
instance zR (n:Nat) (OF:al):∀ (r:ac×al),HO (aJ n OF=some r) Tryz.prog 102 [.ptr 1000000 0] [(1000000,((al.cs OF).map .p))] (.p (.agg (ac.cs r.1))) ([(1000000,((al.cs r.2).map .p))]):=by
 refine hO good [] [1000000] Tryz.func102 Z Z λ r h0 _ w0 F=>?_;unfold aJ at h0;refine nx 7 Z (K0 λ r1 h0=>?_);refine nx 4 Z (bd h0 λ o7 h1 h0=>?_);refine kN o7 (λ v8=>⟨[(2,.ptr 2 0),(3,.ptr 3 0)],[(2,kd),(3,(ac.cs r1.1).map .p),(1000000,[.p (eL aG r1.2.fl),.p (eI v8),.p (eI r1.2.H'),.p (eI r1.2.G'),.p (eI r1.2.AT.Ar),.p (eI r1.2.AT.fAt),.p (eS r1.2.AT.AI)])]⟩) ?_ ?_
 ·exact J0
 exact ay
def aR (OF:al):Option (Bool×al) :=
 some (!decide (OF.AT.Ar=0),OF)
instance yj (OF:al):∀ (r:Bool×al),HO (aR OF=some r) Tryz.prog 121 [.ptr 1000000 0] [(1000000,((al.cs OF).map .p))] (.p (eB r.1)) ([(1000000,((al.cs r.2).map .p))]):=by
 refine hO good [] [1000000] Tryz.func121 Z Z λ r h0 _ w0 F=>?_;unfold aR at h0;exact J0
def aZ (n:Nat)(OF:al)(s_1:Bytes):Option (Bool×al) :=
 (bq n OF).bind λ r1 =>
 (
   (aR r1.2).bind λ r3 =>
   if (!r3.1)=true then
    if r1.1.Ar=4 then
     some (decide (r1.1.B'=s_1),r3.2.fl,r3.2.fat,r3.2.H',r3.2.G',r3.2.AT.Ar,r3.2.AT.fAt,r3.2.AT.AI)
    else
     some (false,r3.2.fl,r3.2.fat,r3.2.H',r3.2.G',r3.2.AT.Ar,r3.2.AT.fAt,r3.2.AT.AI)
   else
    some (false,r3.2.fl,r3.2.fat,r3.2.H',r3.2.G',r3.2.AT.Ar,r3.2.AT.fAt,r3.2.AT.AI)
  ).bind λ VZ =>
 some (VZ.1,(al.mk VZ.2.1 VZ.2.2.1 VZ.2.2.2.1 VZ.2.2.2.2.1 (ao.mk VZ.2.2.2.2.2.1 VZ.2.2.2.2.2.2.1 VZ.2.2.2.2.2.2.2)))
instance zV (n:Nat) (OF:al) (s_1:Bytes):∀ (r:Bool×al),HO (aZ n OF s_1=some r) Tryz.prog 101 [.ptr 1000000 0,.p (eS s_1)] [(1000000,((al.cs OF).map .p))] (.p (eB r.1)) ([(1000000,((al.cs r.2).map .p))]):=by
 refine hO good [] [1000000] Tryz.func101 Z Z λ r h0 _ w0 F=>?_;unfold aZ at h0;exact I7
def bp (OF:al)(k_1:Int)(at_2:Int):Option (ad×al) :=
 (
   (aR OF).bind λ r1 =>
   if (!r1.1)=true then
    some (r1.2.fl,r1.2.fat,r1.2.H',r1.2.G',k_1,at_2,([]:Bytes))
   else
    some (r1.2.fl,r1.2.fat,r1.2.H',r1.2.G',r1.2.AT.Ar,r1.2.AT.fAt,r1.2.AT.AI)
  ).bind λ Y7 =>
 some ((ad.mk 0 0 ([]:Bytes) ([]:Bytes) (am.mk 0 0 ([]:Bytes) [] []) [] 0),(al.mk Y7.1 Y7.2.1 Y7.2.2.1 Y7.2.2.2.1 (ao.mk Y7.2.2.2.2.1 Y7.2.2.2.2.2.1 Y7.2.2.2.2.2.2)))
instance zQ (OF:al) (k_1:Int) (at_2:Int):∀ (r:ad×al),HO (bp OF k_1 at_2=some r) Tryz.prog 71 [.ptr 1000000 0,.p (eI k_1),.p (eI at_2)] [(1000000,((al.cs OF).map .p))] (.p (.agg (ad.cs r.1))) ([(1000000,((al.cs r.2).map .p))]):=by
 refine hO good [] [1000000] Tryz.func71 Z Z λ r h0 _ w0 F=>?_;unfold bp at h0;have:=js [101];have:=jO 101 (List ac×Int×Int×Int×Int×Int×Bytes) λ v=>[(1000000,(pm v))]
 exact J0
def gB (SQ:am)(N':Int):Option ad :=
 some (ad.mk 1 0 ([]:Bytes) ([]:Bytes) SQ [] N')
instance Fg (SQ:am) (N':Int):∀ (r:ad),HP (gB SQ N'=some r) Tryz.prog 39 [.agg (am.cs SQ),eI N'] (.p (.agg (ad.cs r))):=by
 refine hP good Tryz.func39 Z Z λ r h0 _ w0=>?_;unfold gB at h0;exact J0
def iP (n:Nat)(SU:ad)(d_1:ao):Option (ad×ao) :=
 if d_1.Ar=0 then
  (mq n SU).bind λ r2 =>
  if r2=0 then
   some (SU,(ao.mk 0 0 ([]:Bytes)))
  else
   some ((ad.mk 0 0 ([]:Bytes) ([]:Bytes) (am.mk 0 0 ([]:Bytes) [] []) [] 0),(ao.mk r2 SU.fAt ([]:Bytes)))
 else
  some ((ad.mk 0 0 ([]:Bytes) ([]:Bytes) (am.mk 0 0 ([]:Bytes) [] []) [] 0),d_1)
instance I9 (n:Nat) (SU:ad) (d_1:ao):∀ (r:ad×ao),HP (iP n SU d_1=some r) Tryz.prog 34 [.agg (ad.cs SU),.agg (ao.cs d_1)] (.tuple [.p (.agg (ad.cs r.1)),.p (.agg (ao.cs r.2))]):=by
 refine hP good Tryz.func34 Z Z λ r h0 _ w0=>?_;unfold iP at h0;exact J0
def dG (Pn:ar):Option (ao×ar) :=
 if 4096 < (Pn.F'.length:Int) then
  ck (inR (Pn.fat+Pn.D')) <|
  some ((ao.mk 3 (Pn.fat+Pn.D') ([]:Bytes)),(ar.mk Pn.fs Pn.fat Pn.fi Pn.D' Pn.F' Pn.BY Pn.IN))
 else
  some ((ao.mk 0 0 ([]:Bytes)),(ar.mk Pn.fs Pn.fat Pn.fi Pn.D' Pn.F' Pn.BY Pn.IN))
instance yg (Pn:ar):∀ (r:ao×ar),HO (dG Pn=some r) Tryz.prog 76 [.ptr 1000000 0] [(1000000,[.p (eS Pn.fs),.p (eI Pn.fat),.p (eI Pn.fi),.p (eI Pn.D'),.p (eS Pn.F'),.vec 900000 11 0 (Pn.BY.map ak),.p (eB Pn.IN)])] (.p (.agg (ao.cs r.1))) ([(1000000,[.p (eS r.2.fs),.p (eI r.2.fat),.p (eI r.2.fi),.p (eI r.2.D'),.p (eS r.2.F'),.vec 2000000 11 0 (r.2.BY.map ak),.p (eB r.2.IN)])]):=by
 refine hO good [800000] [1000000] Tryz.func76 Z Z λ r h0 _ w0 F=>?_;unfold dG at h0;refine nx 11 Z (oLs Z ?_);refine nx 2 Z (fD [8] h0 Z (λ c1 h0=>?_) λ c1 h0=>?_)
 ·refine nx 2 Z (cc' h0 λ Vi h0=>?_);refine mG KU (mSq ⟨1,[10],(λ _=>.none),(λ _=>[(0,.ptr 1000000 0),(2,.ptr 2 0)]),(ob2 ([(2,kb),(1000000,[.p (eS Pn.fs),.p (eI Pn.fat),.p (eI Pn.fi),.p (eI Pn.D'),.p (eS Pn.F'),.vec 900000 11 0 (Pn.BY.map ak),.p (eB Pn.IN)])]) (2,[.p (eI 3),.p (eI (Pn.fat+Pn.D')),.p (eS ([]:Bytes))]))⟩ Z ?_);refine dPc (.ptr 1000000 0) Z (dPc (.ptr 1000000 0) Z ?_);refine dPc (.ptr 1000000 1) Z (dPc (.p (eI Pn.fat)) Z ?_);refine dPc (.ptr 1000000 0) Z (dPc (.ptr 1000000 0) Z ?_);refine dPc (.ptr 1000000 3) Z (dPc (.p (eI Pn.D')) Z ?_);refine dO (.p (eI (Pn.fat+Pn.D'))) [12,16] Z (λ _ sl Sk K hK=>ap Z (fY Z Z Z (Sk _ _ Z) (Sk _ _ Z) Z Vi hK)) (dPc (.p (.agg [eI 3,eI (Pn.fat+Pn.D'),eS ([]:Bytes)])) Z ?_);refine dS Z (fq ?_);exact nx 2 Z Bz
 exact nx 8 Z Bz
def eq (Pn:ar):Option ar :=
 (
   if Pn.D' < Pn.fi then
    ck (inR (Pn.fat+Pn.D')) <|
    (gB (am.mk 3 0 Pn.F' [] []) (Pn.fat+Pn.D')).bind λ r3 =>
    ck ((Pn.BY.length+1)*160<=140737488355328) <|
    some (Pn.BY++[r3])
   else
    some Pn.BY
  ).bind λ f6 =>
 some (ar.mk Pn.fs Pn.fat Pn.fi Pn.D' ([]:Bytes) f6 Pn.IN)
instance xx (Pn:ar):∀ (r:ar),HO (eq Pn=some r) Tryz.prog 40 [.ptr 1000000 0] [(1000000,[.p (eS Pn.fs),.p (eI Pn.fat),.p (eI Pn.fi),.p (eI Pn.D'),.p (eS Pn.F'),.vec 900000 11 0 (Pn.BY.map ak),.p (eB Pn.IN)])] (.tuple []) ([(1000000,[.p (eS r.fs),.p (eI r.fat),.p (eI r.fi),.p (eI r.D'),.p (eS r.F'),.vec 2000000 11 0 (r.BY.map ak),.p (eB r.IN)])]):=by
 refine hO good [800000] [1000000] Tryz.func40 Z Z λ r h0 _ w0 F=>?_;unfold eq at h0;refine nx 1 Z (bd h0 λ o8 h1 h0=>?_);refine kN o8 (λ v9=>⟨[(0,.ptr 1000000 0)],[(1000000,[.p (eS Pn.fs),.p (eI Pn.fat),.p (eI Pn.fi),.p (eI Pn.D'),.p (eS Pn.F'),.vec 900000 11 0 (v9.map ak),.p (eB Pn.IN)])]⟩) ?_ ?_
 ·exact nx 7 Z (Mh (oi h0) (bj (ca 900000 800000 Z Z Z Z Z) (aU _)) Z Z Z Z (sr) ⟨⟨_,Z,⟨sr,sr,sr,sr,sr,sr,sr,trivial⟩⟩,trivial⟩)
 refine nx 1 Z (mD [(0,.ptr 1000000 0)] Z ⟨Z,trivial⟩ Z ?_);refine dR 9 Z (dE Z ?_);refine nx 1 Z (fD [10] h1 Z (λ c1 h1=>?_) λ c1 h1=>?_)
 ·refine nx 1 Z (cc' h1 λ Vi h1=>?_);refine bd h1 λ r3 e4 h1=>cc' h1 λ YO h1=>mG (gE (t:=⟨[(0,.ptr 1000000 0)],[(1000000,[.p (eS Pn.fs),.p (eI Pn.fat),.p (eI Pn.fi),.p (eI Pn.D'),.p (eS Pn.F'),.vec 900000 11 0 (Pn.BY.map ak),.p (eB Pn.IN)])]⟩) Z Z) (mSP ⟨3,[21,23,26],(by4 (.some λ i=>Nat.beq i 900000||Nat.beq i 32) (.fn (upP 32 11 (.agg (ad.cs r3)))) .none .none),(λ _=>[(0,.ptr 1000000 0)]),(by4 ([(1000000,[.p (eS Pn.fs),.p (eI Pn.fat),.p (eI Pn.fi),.p (eI Pn.D'),.p (eS Pn.F'),.vec 900000 11 0 (Pn.BY.map ak),.p (eB Pn.IN)])]) ([(1000000,((ar.cs Pn).map .p))]) ([(1000000,((ar.cs Pn).map .p))]) ([(1000000,[.p (eS Pn.fs),.p (eI Pn.fat),.p (eI Pn.fi),.p (eI Pn.D'),.p (eS Pn.F'),.vec 32 11 0 (Pn.BY.map ak++[.agg (ad.cs r3)]),.p (eB Pn.IN)]),(1000000,((ar.cs Pn).map .p))]))⟩ ⟨3,[21,26,23],(by4 (.some λ i=>Nat.beq i 900000||Nat.beq i 32) .none (.fn (upP 32 11 (.agg (ad.cs r3)))) .none),(λ _=>[(0,.ptr 1000000 0)]),(by4 ([(1000000,[.p (eS Pn.fs),.p (eI Pn.fat),.p (eI Pn.fi),.p (eI Pn.D'),.p (eS Pn.F'),.vec 900000 11 0 (Pn.BY.map ak),.p (eB Pn.IN)])]) ([(1000000,((ar.cs Pn).map .p))]) ([(1000000,[.p (eS Pn.fs),.p (eI Pn.fat),.p (eI Pn.fi),.p (eI Pn.D'),.p (eS Pn.F'),.vecp 32 11 0 (Pn.BY.map ak),.p (eB Pn.IN)]),(1000000,((ar.cs Pn).map .p))]) ([(1000000,[.p (eS Pn.fs),.p (eI Pn.fat),.p (eI Pn.fi),.p (eI Pn.D'),.p (eS Pn.F'),.vec 32 11 0 (Pn.BY.map ak++[.agg (ad.cs r3)]),.p (eB Pn.IN)]),(1000000,((ar.cs Pn).map .p))]))⟩ Z Z Z Z Z Z Z ⟨Z,trivial⟩ Z (lt3 ⟨Z,trivial⟩ ⟨Z,trivial⟩ ⟨Z,trivial⟩) (lt3 ⟨Z,trivial⟩ ⟨Z,trivial⟩ ⟨Z,trivial⟩) Z Z Z Z Z ?_);refine dPc (.ptr 1000000 0) Z (dPc (.ptr 1000000 0) Z ?_);refine dPc (.ptr 1000000 5) Z (dP (by4 (.vec 900000 11 0 (Pn.BY.map ak)) (.p (eL ak Pn.BY)) (.p (eL ak Pn.BY)) (.p (eL ak Pn.BY))) Z ?_);refine dPc (.ptr 1000000 0) Z (dPc (.ptr 1000000 0) Z ?_);refine dPc (.ptr 1000000 4) Z (dPc (.p (eS Pn.F')) Z ?_);refine dPc (.p (.agg [eI 3,eI 0,eS Pn.F',.val (.slice none 0 0),.val (.slice none 0 0)])) Z (dPc (.ptr 1000000 0) Z ?_);refine dPc (.ptr 1000000 0) Z (dPc (.ptr 1000000 1) Z ?_);refine dPc (.p (eI Pn.fat)) Z (dPc (.ptr 1000000 0) Z ?_);refine dPc (.ptr 1000000 0) Z (dPc (.ptr 1000000 3) Z ?_);refine dPc (.p (eI Pn.D')) Z (dO (.p (eI (Pn.fat+Pn.D'))) [23,27] Z (λ _ sl Sk K hK=>ap Z (fY Z Z Z (Sk _ _ Z) (Sk _ _ Z) Z Vi hK)) ?_);refine dO (.p (.agg (ad.cs r3))) [19,28] Z (λ _ sl Sk K hK=>ap Z (gG (HP.c e4) Z Z Z (aT (Sk _ _ Z) (aT (Sk _ _ Z) b9)) ⟨nD ⟨.inl Z,.inl Z,.inl Z,.inr ⟨Z,Z⟩,.inr ⟨Z,Z⟩,trivial⟩,sr,trivial⟩ Tryz.call39 Z hK)) (dO (.p (eI (Pn.BY.length:Int))) [14] Z (λ _ sl Sk K hK=>ap Z (mV (f:=ak) (l:=Pn.BY) Z Z Z Z Z (Sk _ _ Z) Z hK)) ?_);refine dO (.p (eL (λ x:PV=>x) [.agg rh])) [] Z (λ _ sl Sk K hK=>ap Z (aH (λ x:PV=>x) [.agg rh] Z Z Z Z Z Z (cP Z Z dW) Z Z Z Z Z Z Z hK)) (dI (by4 (.vecp 32 11 0 (Pn.BY.map ak)) (.vecp 32 11 0 (Pn.BY.map ak)) (.vec 32 11 0 (Pn.BY.map ak++[.agg (ad.cs r3)])) (.vec 32 11 0 (Pn.BY.map ak++[.agg (ad.cs r3)]))) [14,31] Z (λ sl Sk K hK=>ap Z (qZ ak Pn.BY Z Z Z Z Z Z Z Z (Sk _ _ Z) Z Z (Sk _ _ Z) Z Z Z Z Z YO hK)) ?_);refine q9 (by4 (.elp 32 11) (.elp 32 11) .undef .undef) Z Z Z (Nk Z Z Z Y) (lt3 (nl Z) Y Y) (jR Z (jR Z (kI [(30,_),(32,_)] ⟨.inr ⟨19,_,Z,Z,Z⟩,.inr ⟨21,_,Z,Z,Z⟩,trivial⟩ (λ sl Sk K hK=>ap Z (pQ Z Z Z Z Z Z Z (Sk _ _ Z) (Sk _ _ Z) rL hK)) (jR Z mM)))) (lj [(29,_),(33,_)] Z ⟨.inr ⟨18,_,Z,Z,Z⟩,.inr ⟨22,_,Z,Z,Z⟩,trivial⟩ Z (λ sl Sk K hK=>ap Z (wM (z:=.agg (ad.cs r3)) Z Z Z Z (Sk _ _ Z) (Sk _ _ Z) Z Z Z Z Z hK)) ?_);refine dPc (.ptr 1000000 0) Z (dPc (.ptr 1000000 5) Z ?_);refine dS Z (Cc (dPc (.ptr 1000000 0) Z (dPc (.ptr 1000000 0) Z (dPc (.ptr 1000000 5) Z (dP (by4 (.vec 900000 11 0 (Pn.BY.map ak)) (.p (eL ak Pn.BY)) (.p (eL ak Pn.BY)) (.p (eL ak Pn.BY))) Z (dPc (.ptr 1000000 0) Z (dPc (.ptr 1000000 0) Z (dPc (.ptr 1000000 4) Z (dPc (.p (eS Pn.F')) Z (dPc (.p (.agg [eI 3,eI 0,eS Pn.F',.val (.slice none 0 0),.val (.slice none 0 0)])) Z (dPc (.ptr 1000000 0) Z (dPc (.ptr 1000000 0) Z (dPc (.ptr 1000000 1) Z (dPc (.p (eI Pn.fat)) Z (dPc (.ptr 1000000 0) Z (dPc (.ptr 1000000 0) Z (dPc (.ptr 1000000 3) Z (dPc (.p (eI Pn.D')) Z (dO (.p (eI (Pn.fat+Pn.D'))) [23,27] Z (λ _ sl Sk K hK=>ap Z (fY Z Z Z (Sk _ _ Z) (Sk _ _ Z) Z Vi hK)) (dO (.p (.agg (ad.cs r3))) [19,28] Z (λ _ sl Sk K hK=>ap Z (gG (HP.c e4) Z Z Z (aT (Sk _ _ Z) (aT (Sk _ _ Z) b9)) ⟨nD ⟨.inl Z,.inl Z,.inl Z,.inr ⟨Z,Z⟩,.inr ⟨Z,Z⟩,trivial⟩,sr,trivial⟩ Tryz.call39 Z hK)) (dO (.p (eI (Pn.BY.length:Int))) [14] Z (λ _ sl Sk K hK=>ap Z (mV (f:=ak) (l:=Pn.BY) Z Z Z Z Z (Sk _ _ Z) Z hK)) (dO (.p (eL (λ x:PV=>x) [.agg rh])) [] Z (λ _ sl Sk K hK=>ap Z (aH (λ x:PV=>x) [.agg rh] Z Z Z Z Z Z (cP Z Z dW) Z Z Z Z Z Z Z hK)) (dI (by4 (.vecp 32 11 0 (Pn.BY.map ak)) (.vecp 32 11 0 (Pn.BY.map ak)) (.vecp 32 11 0 (Pn.BY.map ak)) (.vec 32 11 0 (Pn.BY.map ak++[.agg (ad.cs r3)]))) [14,31] Z (λ sl Sk K hK=>ap Z (qZ ak Pn.BY Z Z Z Z Z Z Z Z (Sk _ _ Z) Z Z (Sk _ _ Z) Z Z Z Z Z YO hK)) (q9 (by4 (.elp 32 11) (.elp 32 11) (.elp 32 11) .undef) Z Z Z (Nk Z Z Z Y) (lt3 (nl Z) Y Y) (jR Z (kI [(30,_),(32,_)] ⟨.inr ⟨19,_,Z,Z,Z⟩,.inr ⟨21,_,Z,Z,Z⟩,trivial⟩ (λ sl Sk K hK=>ap Z (pQ Z Z Z Z Z Z Z (Sk _ _ Z) (Sk _ _ Z) rL hK)) (kI [(30,_),(32,_)] ⟨.inr ⟨19,_,Z,Z,Z⟩,.inr ⟨21,_,Z,Z,Z⟩,trivial⟩ (λ sl Sk K hK=>ap Z (pQ Z Z Z Z Z Z Z (Sk _ _ Z) (Sk _ _ Z) rL hK)) (jR Z mM)))) (lj [(29,_),(33,_)] Z ⟨.inr ⟨18,_,Z,Z,Z⟩,.inr ⟨22,_,Z,Z,Z⟩,trivial⟩ Z (λ sl Sk K hK=>ap Z (wM (z:=.agg (ad.cs r3)) Z Z Z Z (Sk _ _ Z) (Sk _ _ Z) Z Z Z Z Z hK)) (dPc (.ptr 1000000 0) Z (dPc (.ptr 1000000 5) Z (dS Z (Da Z ⟨Z,Z,trivial⟩ ⟨⟨Z,Z,.inr Z⟩,⟨⟨Z,Z,.inr Z⟩,⟨⟨Z,Z,.inr Z⟩,⟨⟨Z,Z,.inr Z⟩,⟨⟨Z,Z,.inr Z⟩,⟨⟨Z,Z,.inr Z⟩,⟨⟨Z,Z,.inr Z⟩,⟨⟨Z,Z,.inr Z⟩,⟨⟨Z,Z,.inr Z⟩,⟨⟨Z,Z,.inr Z⟩,⟨⟨Z,Z,.inr Z⟩,⟨⟨Z,Z,.inr Z⟩,⟨⟨Z,Z,.inr Z⟩,⟨⟨Z,Z,.inr Z⟩,⟨⟨Z,Z,.inr Z⟩,⟨⟨Z,Z,.inr Z⟩,⟨⟨Z,Z,.inr Z⟩,⟨⟨Z,Z,.inr Z⟩,⟨⟨Z,Z,.inr Z⟩,⟨⟨Z,Z,.inr Z⟩,⟨⟨Z,Z,.inr Z⟩,⟨⟨Z,Z,.inr Z⟩,⟨⟨Z,Z,.inr Z⟩,⟨⟨Z,Z,.inr Z⟩,⟨⟨Z,Z,.inr Z⟩,trivial⟩⟩⟩⟩⟩⟩⟩⟩⟩⟩⟩⟩⟩⟩⟩⟩⟩⟩⟩⟩⟩⟩⟩⟩⟩)))))))))))))))))))))))))))) ?_);refine mG (dX (t:=⟨[(0,.ptr 1000000 0)],[(1000000,[.p (eS Pn.fs),.p (eI Pn.fat),.p (eI Pn.fi),.p (eI Pn.D'),.p (eS Pn.F'),.vec 32 11 0 ((Pn.BY++[r3]).map ak),.p (eB Pn.IN)])]⟩) (lq ⟨er Z,trivial⟩ ⟨⟨_,Z,⟨sr,sr,sr,sr,sr,AV.sub_of_eq Im,sr,trivial⟩⟩,trivial⟩)) (nx 1 Z ?_);exact eX _ (oi h1).symm (bj (ca 32 900000 Z Z Z Z Z) (gE Z Z))
 exact ay
def dC (Un:Bytes->Int->Option Int)(Mr:Bytes):Nat->Int->Int->Option (Unit⊕Int)
 | 0,_,_=>none
 | m+1,i18,depth19 =>
 if i18 < (Mr.length:Int) then
  ck ((0:Int)<=i18/\i18 < (Mr.length:Int)) <|
  jn (
    if byt Mr i18=123 then
     ck (inR (depth19+1)) <|
     some (.inl (i18,depth19+1))
    else
     if byt Mr i18=125 then
      ck (inR (depth19 - 1)) <|
      if depth19 - 1=0 then
       some (.inr (.inr i18))
      else
       some (.inl (i18,depth19 - 1))
     else
      if byt Mr i18=34 then
       ck (inR (i18+1)) <|
       (Un Mr (i18+1)).bind λ Xi =>
       if Xi < 0 then
        some (.inr (.inr (-1)))
       else
        some (.inl (Xi,depth19))
      else
       some (.inl (i18,depth19))
   : Option ((Int×Int)⊕(Unit⊕Int))) λ Z' =>
  ck (inR (Z'.1+1)) <|
  dC Un Mr m (Z'.1+1) Z'.2
 else
  some (.inl ())
def eg (Ua:Bytes->Int->Option Int)(Mr:Bytes):Nat->Int->Option (Unit⊕Int)
 | 0,_=>none
 | m+1,i23 =>
 if i23 < (Mr.length:Int) then
  jn (
    ck ((0:Int)<=i23/\i23 < (Mr.length:Int)) <|
    if byt Mr i23=34 then
     some (.inr (.inr i23))
    else
     ck ((0:Int)<=i23/\i23 < (Mr.length:Int)) <|
     if byt Mr i23=92 then
      ck (inR (i23+1)) <|
      some (.inl (i23+1))
     else
      ck ((0:Int)<=i23/\i23<=(Mr.length:Int)/\(Mr.length:Int)<=(Mr.length:Int)) <|
      (strings_HasPrefix (sub Mr i23 (Mr.length:Int)) ([36,36,123]:Bytes)).bind λ Wd =>
      if Wd=true then
       ck (inR (i23+2)) <|
       some (.inl (i23+2))
      else
       ck ((0:Int)<=i23/\i23<=(Mr.length:Int)/\(Mr.length:Int)<=(Mr.length:Int)) <|
       (strings_HasPrefix (sub Mr i23 (Mr.length:Int)) ([36,123]:Bytes)).bind λ Xv =>
       if Xv=true then
        ck (inR (i23+2)) <|
        (Ua Mr (i23+2)).bind λ Xu =>
        if Xu < 0 then
         some (.inr (.inr (-1)))
        else
         some (.inl Xu)
       else
        some (.inl i23)
   : Option (Int⊕(Unit⊕Int))) λ i43 =>
  ck (inR (i43+1)) <|
  eg Ua Mr m (i43+1)
 else
  some (.inl ())
mutual
def dA:Nat->Bytes->Int->Option Int
 | 0,_,_=>none
 | n+1,Mr,SL =>
 jn (dC (f0 n) Mr n SL 1) λ _Yl =>
 some (-1)
def f0:Nat->Bytes->Int->Option Int
 | 0,_,_=>none
 | n+1,Mr,SL =>
 jn (eg (dA n) Mr n SL) λ _VY =>
 some (-1)
end
theorem sB (n:Nat):uV (dA n) 124/\uV (f0 n) 156:=by
 induction n with
 | zero=>exact Zr
 | succ n ih =>
 obtain ⟨_,_⟩:=ih;refine ⟨?_,?_⟩
 ·refine λ Mr SL=>hP good Tryz.func124 Z Z λ r h0 _ w0=>?_;rw [dA] at h0;refine nx 10 rfl ?_;obtain ⟨o39,h1,TC,hR0⟩:=br h0;refine kEx 0 (λ v40:Unit=>o39=.inl v40) (λ v40=>⟨[],[]⟩) (λ v40 hv=>?_) ?_
  ·exact fO
  refine lG (λ (ZJ:Int×Int)=>⟨[(0,.p (eS Mr)),(1,.p (eI ZJ.1)),(5,.p (eI ZJ.2))],[]⟩) (λ m (ZJ:Int×Int)=>dC (f0 n) Mr m ZJ.1 ZJ.2) Y (SL,1) h1 (gE rfl rfl) ?_;rintro m ⟨i18,depth19⟩ h1;replace h1:dC (f0 n) Mr (m+1) i18 depth19=some o39:=h1;rw [dC] at h1;refine nx 5 rfl (oLs rfl ?_);refine nx 2 rfl (fD [9] h1 rfl (λ c20 h1=>?_) λ c20 h1=>?_)
  ·refine nx 8 rfl (oI h1 rfl λ U4 h1=>?_);refine nx 1 rfl ?_;obtain ⟨Xl,h2,hL1,hR1⟩:=br h1;refine kX (λ VU:Int×Int=>Xl=.inl VU) (λ VU=>⟨[(0,.p (eS Mr)),(1,.p (eI VU.1)),(5,.p (eI VU.2))],[]⟩) (λ VU hv=>?_) ?_
   ·have h1:=hL1 _ hv;exact ay
   exact bV
  exact ay
 ·refine λ Mr SL=>hP good Tryz.func156 Z Z λ r h0 _ w0=>?_;rw [f0] at h0;refine nx 6 rfl ?_;obtain ⟨Ym,h1,TC,hR0⟩:=br h0;refine kEx 0 (λ WP:Unit=>Ym=.inl WP) (λ WP=>⟨[],[]⟩) (λ WP hv=>?_) ?_
  ·exact fO
  refine lG (λ (Xy:Int)=>⟨[(0,.p (eS Mr)),(1,.p (eI Xy))],[]⟩) (λ m (Xy:Int)=>eg (dA n) Mr m Xy) Y SL h1 (gE rfl rfl) ?_;rintro m i23 h1;replace h1:eg (dA n) Mr (m+1) i23=some Ym:=h1;rw [eg] at h1;refine nx 5 rfl (oLs rfl ?_);refine nx 2 rfl (fD [8] h1 rfl (λ XW h1=>?_) λ XW h1=>?_)
  ·refine nx 4 rfl ?_;obtain ⟨o51,h2,hL1,hR1⟩:=br h1;refine kX (λ X9:Int=>o51=.inl X9) (λ X9=>⟨[(0,.p (eS Mr)),(1,.p (eI X9))],[]⟩) (λ X9 hv=>?_) ?_
   ·have h1:=hL1 _ hv;exact ay
   exact bV
  exact ay
instance Ff (n:Nat):uV (dA n) 124:=(sB n).1
def b8 (Mr:Bytes):Nat->Int->Option Int
 | 0,_=>none
 | m+1,n10 =>
 (
   if n10 < (Mr.length:Int) then
    if n10 < 6 then
     ck ((0:Int)<=n10/\n10 < (Mr.length:Int)) <|
     (strings_IndexByte ([48,49,50,51,52,53,54,55,56,57,97,98,99,100,101,102]:Bytes) (byt Mr n10)).bind λ Xj =>
     some (decide (0<=Xj))
    else
     some false
   else
    some false
  ).bind λ T0 =>
 if T0=true then
  ck (inR (n10+1)) <|
  b8 Mr m (n10+1)
 else
  some n10
def hQ (n:Nat)(Mr:Bytes):Option Int :=
 (b8 Mr n 0).bind λ n20 =>
 some n20
instance zW (n:Nat) (Mr:Bytes):∀ (r:Int),HP (hQ n Mr=some r) Tryz.prog 157 [eS Mr] (.p (eI r)):=by
 refine hP good Tryz.func157 Z Z λ r h0 _ w0=>?_;unfold hQ at h0;refine nx 10 Z (bd h0 λ Wx h1 h0=>?_);refine kE 0 Wx (λ WY=>⟨[(3,.p (eI WY))],[]⟩) ?_ ?_
 ·exact J0
 refine lG (λ (q25:Int)=>⟨[(0,.p (eS Mr)),(3,.p (eI q25))],[]⟩) (λ m (q25:Int)=>b8 Mr m q25) Y 0 h1 (gE rfl rfl) ?_;rintro m n10 h1;replace h1:b8 Mr (m+1) n10=some Wx:=h1;rw [b8] at h1;have:=js [200];have:=jS 200 Bool λ v=>[(18,.p (eB v))]
 exact ay
def kZ (n:Nat)(Mr:Bytes):Option (Bytes×Int×Int) :=
 jn (
   (strings_HasPrefix Mr ([92,117]:Bytes)).bind λ r1 =>
   if r1=true then
    (
      if 2 < (Mr.length:Int) then
       ck ((0:Int)<=2/\2 < (Mr.length:Int)) <|
       some (!decide (byt Mr 2=123))
      else
       some false
     ).bind λ t6 =>
    if t6=true then
     some (.inr (([]:Bytes),0,2))
    else
     if 3 < (Mr.length:Int) then
      ck ((0:Int)<=3/\3<=(Mr.length:Int)/\(Mr.length:Int)<=(Mr.length:Int)) <|
      (hQ n (sub Mr 3 (Mr.length:Int))).bind λ Tp =>
      ck (inR (4+Tp)) <|
      some (.inl (4+Tp))
     else
      some (.inl 4)
   else
    some (.inl 2)
  : Option (Int⊕(Bytes×Int×Int))) λ n13 =>
 if (Mr.length:Int) < n13 then
  some (([]:Bytes),0,40)
 else
  ck ((0:Int)<=0/\0<=n13/\n13<=(Mr.length:Int)) <|
  ck (([34]:Bytes).length+(sub Mr 0 n13).length<=9223372036854775807) <|
  ck ((([34]:Bytes)++(sub Mr 0 n13)).length+([34]:Bytes).length<=9223372036854775807) <|
  (hZ n ((([34]:Bytes)++(sub Mr 0 n13))++([34]:Bytes))).bind λ Ud =>
  if Ud.2.2=0 then
   some (Ud.1,n13,0)
  else
   some (([]:Bytes),0,2)
instance FV (n:Nat) (Mr:Bytes):∀ (r:Bytes×Int×Int),HP (kZ n Mr=some r) Tryz.prog 125 [eS Mr] (.tuple [.p (eS r.1),.p (eI r.2.1),.p (eI r.2.2)]):=by
 refine hP good Tryz.func125 Z Z λ r h0 _ w0=>?_;unfold kZ at h0;refine nx 11 rfl ?_;obtain ⟨Wx,h1,TC,hR0⟩:=br h0;refine kX (λ WY:Int=>Wx=.inl WY) (λ WY=>⟨[(0,.p (eS Mr)),(5,.p (eI WY))],[]⟩) (λ WY hv=>?_) ?_
 ·exact fO
 have:=js [300];have:=jS 300 Bool λ v=>[(18,.p (eB v))]
 exact ay
def gh (n:Nat)(Pn:ar):Option (ao×ar) :=
 ck ((0:Int)<=Pn.fi/\Pn.fi<=(Pn.fs.length:Int)/\(Pn.fs.length:Int)<=(Pn.fs.length:Int)) <|
 jn (
   ck ((0:Int)<=0/\0 < ((sub Pn.fs Pn.fi (Pn.fs.length:Int)).length:Int)) <|
   if byt (sub Pn.fs Pn.fi (Pn.fs.length:Int)) 0=92 then
    (kZ n (sub Pn.fs Pn.fi (Pn.fs.length:Int))).bind λ r4 =>
    if r4.2.2=0 then
     ck (Pn.F'.length+r4.1.length<=9223372036854775807) <|
     ck (inR (Pn.fi+r4.2.1)) <|
     some (.inl (Pn.fi+r4.2.1,Pn.F'++r4.1))
    else
     ck (inR (Pn.fat+Pn.fi)) <|
     some (.inr ((ao.mk r4.2.2 (Pn.fat+Pn.fi) ([]:Bytes)),(ar.mk Pn.fs Pn.fat Pn.fi Pn.D' Pn.F' Pn.BY Pn.IN)))
   else
    (bm (sub Pn.fs Pn.fi (Pn.fs.length:Int))).bind λ Tp =>
    (
      if Tp.1=65533 then
       if Tp.2=1 then
        some true
       else
        if Tp.1 < 32 then
         some true
        else
         if Tp.1=127 then
          some true
         else
          some (decide (Tp.1=34))
      else
       if Tp.1 < 32 then
        some true
       else
        if Tp.1=127 then
         some true
        else
         some (decide (Tp.1=34))
     ).bind λ t18 =>
    if t18=true then
     ck (inR (Pn.fat+Pn.fi)) <|
     some (.inr ((ao.mk 2 (Pn.fat+Pn.fi) ([]:Bytes)),(ar.mk Pn.fs Pn.fat Pn.fi Pn.D' Pn.F' Pn.BY Pn.IN)))
    else
     ck ((0:Int)<=0/\0<=Tp.2/\Tp.2<=((sub Pn.fs Pn.fi (Pn.fs.length:Int)).length:Int)) <|
     ck (Pn.F'.length+(sub (sub Pn.fs Pn.fi (Pn.fs.length:Int)) 0 Tp.2).length<=9223372036854775807) <|
     ck (inR (Pn.fi+Tp.2)) <|
     some (.inl (Pn.fi+Tp.2,Pn.F'++(sub (sub Pn.fs Pn.fi (Pn.fs.length:Int)) 0 Tp.2)))
  : Option ((Int×Bytes)⊕(ao×ar))) λ Y4 =>
 (dG (ar.mk Pn.fs Pn.fat Y4.1 Pn.D' Y4.2 Pn.BY Pn.IN)).bind λ TT =>
 some (TT.1,(ar.mk TT.2.fs TT.2.fat TT.2.fi TT.2.D' TT.2.F' TT.2.BY TT.2.IN))
instance yi (n:Nat) (Pn:ar):∀ (r:ao×ar),HO (gh n Pn=some r) Tryz.prog 78 [.ptr 1000000 0] [(1000000,[.p (eS Pn.fs),.p (eI Pn.fat),.p (eI Pn.fi),.p (eI Pn.D'),.p (eS Pn.F'),.vec 900000 11 0 (Pn.BY.map ak),.p (eB Pn.IN)])] (.p (.agg (ao.cs r.1))) ([(1000000,[.p (eS r.2.fs),.p (eI r.2.fat),.p (eI r.2.fi),.p (eI r.2.D'),.p (eS r.2.F'),.vec 2000000 11 0 (r.2.BY.map ak),.p (eB r.2.IN)])]):=by
 refine hO good [800000] [1000000] Tryz.func78 Z Z λ r h0 _ w0 F=>?_;unfold gh at h0;refine nx 5 rfl (cc' h0 λ Xa h0=>?_);refine mD [(0,.ptr 1000000 0),(2,.ptr 2 0)] rfl ⟨rfl,rfl,trivial⟩ rfl (dR 8 rfl ?_);refine dq (.p (eS (sub Pn.fs Pn.fi (Pn.fs.length:Int)))) [12,16] rfl (λ _ e _ q=>ap rfl (fy (a:=Pn.fs) (l:=Pn.fi) (h:=(Pn.fs.length:Int)) Z Z Z Z Z (e _ _ rfl) pE rfl Xa q)) rfl (dR 1 rfl ?_);refine dE rfl (nx 2 rfl ?_);obtain ⟨X6,h1,TC,hR0⟩:=br h0;refine kX (λ WQ:Int×Bytes=>X6=.inl WQ) (λ WQ=>⟨[(0,.ptr 1000000 0),(2,.ptr 2 0)],[(2,kb),(1000000,[.p (eS Pn.fs),.p (eI Pn.fat),.p (eI WQ.1),.p (eI Pn.D'),.p (eS WQ.2),.vec 900000 11 0 (Pn.BY.map ak),.p (eB Pn.IN)])]⟩) (λ WQ hv=>?_) ?_
 ·have h0:=TC _ hv;refine nx 4 Z (bd h0 λ TT e27 h0=>?_);refine mO Z (cVq [1000000] [900000] 101000 101001 (HO.c e27) Tryz.call76 Z ?_);exact nx 3 Z BA
 refine nx 3 Z (oI h1 Z λ Vi h1=>?_);refine nx 2 Z (fD [20] h1 Z (λ c3 h1=>?_) λ c3 h1=>?_)
 ·refine nx 4 Z (K1 λ r4 h1=>nx 14 Z ?_);refine fN [28] h1 Z (λ c6 h1=>?_) λ c6 h1=>?_
  ·exact ay
  refine nx 2 Z (cc' h1 λ WU h1=>?_);refine mG (gE (t:=⟨[(0,.ptr 1000000 0),(2,.ptr 2 0),(6,.p (eI r4.2.2))],[(2,kb),(1000000,[.p (eS Pn.fs),.p (eI Pn.fat),.p (eI Pn.fi),.p (eI Pn.D'),.p (eS Pn.F'),.vec 900000 11 0 (Pn.BY.map ak),.p (eB Pn.IN)])]⟩) Z Z) (mSq ⟨1,[11],(λ _=>.none),(λ _=>[(0,.ptr 1000000 0),(2,.ptr 2 0),(6,.p (eI r4.2.2))]),(ob2 ([(2,kb),(1000000,[.p (eS Pn.fs),.p (eI Pn.fat),.p (eI Pn.fi),.p (eI Pn.D'),.p (eS Pn.F'),.vec 900000 11 0 (Pn.BY.map ak),.p (eB Pn.IN)])]) (2,[.p (eI r4.2.2),.p (eI (Pn.fat+Pn.fi)),.p (eS ([]:Bytes))]))⟩ Z ?_);refine dPc (.p (eI r4.2.2)) Z (dPc (.ptr 1000000 0) Z ?_);refine dPc (.ptr 1000000 0) Z (dPc (.ptr 1000000 1) Z ?_);refine dPc (.p (eI Pn.fat)) Z (dPc (.ptr 1000000 0) Z ?_);refine dPc (.ptr 1000000 0) Z (dPc (.ptr 1000000 2) Z ?_);refine dPc (.p (eI Pn.fi)) Z (dO (.p (eI (Pn.fat+Pn.fi))) [33,37] Z (λ _ sl Sk K hK=>ap Z (fY Z Z Z (Sk _ _ Z) (Sk _ _ Z) Z WU hK)) ?_);refine dPc (.p (.agg [eI r4.2.2,eI (Pn.fat+Pn.fi),eS ([]:Bytes)])) Z (dS Z ?_);refine fq (nx 2 Z ?_);exact mQo (hR0 _ (oi h1).symm) (bj (ca 900000 800000 Z Z Z Z Z) (aU _)) Z Z Z Z (sr) ⟨⟨_,Z,⟨sr,sr,sr,sr,sr,sr,sr,trivial⟩⟩,trivial⟩
 refine nx 4 Z (bd h1 λ Tp XU h1=>?_);refine oK (dH (sub Pn.fs Pn.fi (Pn.fs.length:Int)) _ XU) Z ⟨sr,trivial⟩ Tryz.call126 Z (nx 8 Z ?_);refine bd h1 λ WT h2 h1=>kN WT (λ YR=>⟨[(0,.ptr 1000000 0),(2,.ptr 2 0),(3,.p (eS (sub Pn.fs Pn.fi (Pn.fs.length:Int)))),(8,.p (eI Tp.2)),(78,.p (eB YR))],[(2,kb),(1000000,[.p (eS Pn.fs),.p (eI Pn.fat),.p (eI Pn.fi),.p (eI Pn.D'),.p (eS Pn.F'),.vec 900000 11 0 (Pn.BY.map ak),.p (eB Pn.IN)])]⟩) ?_ ?_
 ·refine nx 1 Z (fB [78] h1 Z (λ Xn h1=>?_) λ Xn h1=>?_)
  ·refine nx 2 Z (cc' h1 λ VF h1=>?_);refine mG KU (mSq ⟨1,[10],(λ _=>.none),(λ _=>[(0,.ptr 1000000 0),(2,.ptr 2 0)]),(ob2 ([(2,kb),(1000000,[.p (eS Pn.fs),.p (eI Pn.fat),.p (eI Pn.fi),.p (eI Pn.D'),.p (eS Pn.F'),.vec 900000 11 0 (Pn.BY.map ak),.p (eB Pn.IN)])]) (2,[.p (eI 2),.p (eI (Pn.fat+Pn.fi)),.p (eS ([]:Bytes))]))⟩ Z ?_);refine dPc (.ptr 1000000 0) Z (dPc (.ptr 1000000 0) Z ?_);refine dPc (.ptr 1000000 1) Z (dPc (.p (eI Pn.fat)) Z ?_);refine dPc (.ptr 1000000 0) Z (dPc (.ptr 1000000 0) Z ?_);refine dPc (.ptr 1000000 2) Z (dPc (.p (eI Pn.fi)) Z ?_);refine dO (.p (eI (Pn.fat+Pn.fi))) [82,86] Z (λ _ sl Sk K hK=>ap Z (fY Z Z Z (Sk _ _ Z) (Sk _ _ Z) Z VF hK)) (dPc (.p (.agg [eI 2,eI (Pn.fat+Pn.fi),eS ([]:Bytes)])) Z ?_);refine dS Z (fq ?_);exact nx 2 Z (mQo (hR0 _ (oi h1).symm) (bj (ca 900000 800000 Z Z Z Z Z) (aU _)) Z Z Z Z (sr) ⟨⟨_,Z,⟨sr,sr,sr,sr,sr,sr,sr,trivial⟩⟩,trivial⟩)
  refine nx 3 Z (cc' h1 λ U4 h1=>?_);refine cc' h1 λ W9 h1=>mG (gE (t:=⟨[(0,.ptr 1000000 0),(2,.ptr 2 0),(3,.p (eS (sub Pn.fs Pn.fi (Pn.fs.length:Int)))),(8,.p (eI Tp.2))],[(2,kb),(1000000,[.p (eS Pn.fs),.p (eI Pn.fat),.p (eI Pn.fi),.p (eI Pn.D'),.p (eS Pn.F'),.vec 900000 11 0 (Pn.BY.map ak),.p (eB Pn.IN)])]⟩) Z Z) (mSq ⟨1,[10],(λ _=>.none),(λ _=>[(0,.ptr 1000000 0),(2,.ptr 2 0),(3,.p (eS (sub Pn.fs Pn.fi (Pn.fs.length:Int)))),(8,.p (eI Tp.2))]),(ob2 ([(2,kb),(1000000,[.p (eS Pn.fs),.p (eI Pn.fat),.p (eI Pn.fi),.p (eI Pn.D'),.p (eS Pn.F'),.vec 900000 11 0 (Pn.BY.map ak),.p (eB Pn.IN)])]) (1000000,[.p (eS Pn.fs),.p (eI Pn.fat),.p (eI Pn.fi),.p (eI Pn.D'),.p (eS (Pn.F'++(sub (sub Pn.fs Pn.fi (Pn.fs.length:Int)) 0 Tp.2))),.vec 900000 11 0 (Pn.BY.map ak),.p (eB Pn.IN)]))⟩ Z ?_);refine dPc (.ptr 1000000 0) Z (dPc (.ptr 1000000 0) Z ?_);refine dPc (.ptr 1000000 4) Z (dPc (.p (eS Pn.F')) Z ?_);refine dPc (.p (eS (sub Pn.fs Pn.fi (Pn.fs.length:Int)))) Z (dPc (.p (eI Tp.2)) Z ?_);refine dO (.p (eS (sub (sub Pn.fs Pn.fi (Pn.fs.length:Int)) 0 Tp.2))) [93,94] Z (λ _ sl Sk K hK=>ap Z (fy (a:=sub Pn.fs Pn.fi (Pn.fs.length:Int)) (l:=0) (h:=Tp.2) Z Z Z Z Z (Sk _ _ Z) Z wZ U4 hK)) (dO (.p (eS (Pn.F'++(sub (sub Pn.fs Pn.fi (Pn.fs.length:Int)) 0 Tp.2)))) [92,95] Z (λ _ sl Sk K hK=>ap Z (rH Z Z Z (Sk _ _ Z) (Sk _ _ Z) W9 hK)) ?_);exact ay
 exact bV
def cG (n:Nat)(OF:al):Option al :=
 (aJ n OF).bind λ r1 =>
 ck (inR (r1.2.H'+1)) <|
 some (al.mk r1.2.fl r1.2.fat (r1.2.H'+1) r1.2.G' r1.2.AT)
instance Aa (n:Nat) (OF:al):∀ (r:al),HO (cG n OF=some r) Tryz.prog 185 [.ptr 1000000 0] [(1000000,((al.cs OF).map .p))] (.tuple []) ([(1000000,((al.cs r).map .p))]):=by
 refine hO good [] [1000000] Tryz.func185 Z Z λ r h0 _ w0 F=>?_;unfold cG at h0;exact J0
def cr (n:Nat)(OF:al)(s_1:Bytes):Option al :=
 (aZ n OF s_1).bind λ r1 =>
 if (!r1.1)=true then
  (bq n r1.2).bind λ r4 =>
  (bp r4.2 2 r4.1.fAt).bind λ r6 =>
  some r6.2
 else
  (aJ n r1.2).bind λ r8 =>
  some r8.2
instance zU (n:Nat):tX (cr n) 103:=by
 refine λ OF s_1=>hO good [] [1000000] Tryz.func103 Z Z λ r h0 _ w0 F=>?_;unfold cr at h0;exact J0
def bz (n:Nat)(OF:al)(s_1:Bytes):Option al :=
 (cr n OF s_1).bind λ r1 =>
 ck (inR (r1.H' - 1)) <|
 some (al.mk r1.fl r1.fat (r1.H' - 1) r1.G' r1.AT)
instance zK (n:Nat):tX (bz n) 186:=by
 refine λ OF s_1=>hO good [] [1000000] Tryz.func186 Z Z λ r h0 _ w0 F=>?_;unfold bz at h0;exact J0
def cF (n:Nat)(OF:al)(s_1:Bytes):Option (Bool×al) :=
 (bq n OF).bind λ r1 =>
 (
   (aR r1.2).bind λ r3 =>
   if (!r3.1)=true then
    if r1.1.Ar=1 then
     some (decide (r1.1.B'=s_1),r3.2.fl,r3.2.fat,r3.2.H',r3.2.G',r3.2.AT.Ar,r3.2.AT.fAt,r3.2.AT.AI)
    else
     some (false,r3.2.fl,r3.2.fat,r3.2.H',r3.2.G',r3.2.AT.Ar,r3.2.AT.fAt,r3.2.AT.AI)
   else
    some (false,r3.2.fl,r3.2.fat,r3.2.H',r3.2.G',r3.2.AT.Ar,r3.2.AT.fAt,r3.2.AT.AI)
  ).bind λ VZ =>
 some (VZ.1,(al.mk VZ.2.1 VZ.2.2.1 VZ.2.2.2.1 VZ.2.2.2.2.1 (ao.mk VZ.2.2.2.2.2.1 VZ.2.2.2.2.2.2.1 VZ.2.2.2.2.2.2.2)))
instance zZ (n:Nat) (OF:al) (s_1:Bytes):∀ (r:Bool×al),HO (cF n OF s_1=some r) Tryz.prog 211 [.ptr 1000000 0,.p (eS s_1)] [(1000000,((al.cs OF).map .p))] (.p (eB r.1)) ([(1000000,((al.cs r.2).map .p))]):=by
 refine hO good [] [1000000] Tryz.func211 Z Z λ r h0 _ w0 F=>?_;unfold cF at h0;exact I7
def cw (n:Nat)(OF:al):Option (Bytes×al) :=
 (bq n OF).bind λ r1 =>
 (
   (aR r1.2).bind λ r3 =>
   if r3.1=true then
    some (true,r3.2.fl,r3.2.fat,r3.2.H',r3.2.G',r3.2.AT.Ar,r3.2.AT.fAt,r3.2.AT.AI)
   else
    if r1.1.Ar=1 then
     (fX r1.1.B').bind λ r7 =>
     some (r7,r3.2.fl,r3.2.fat,r3.2.H',r3.2.G',r3.2.AT.Ar,r3.2.AT.fAt,r3.2.AT.AI)
    else
     some (true,r3.2.fl,r3.2.fat,r3.2.H',r3.2.G',r3.2.AT.Ar,r3.2.AT.fAt,r3.2.AT.AI)
  ).bind λ TF =>
 if TF.1=true then
  (bp (al.mk TF.2.1 TF.2.2.1 TF.2.2.2.1 TF.2.2.2.2.1 (ao.mk TF.2.2.2.2.2.1 TF.2.2.2.2.2.2.1 TF.2.2.2.2.2.2.2)) 2 r1.1.fAt).bind λ Ud =>
  some (([]:Bytes),Ud.2)
 else
  (aJ n (al.mk TF.2.1 TF.2.2.1 TF.2.2.2.1 TF.2.2.2.2.1 (ao.mk TF.2.2.2.2.2.1 TF.2.2.2.2.2.2.1 TF.2.2.2.2.2.2.2))).bind λ T7 =>
  some (r1.1.B',T7.2)
instance ws (n:Nat) (OF:al):∀ (r:Bytes×al),HO (cw n OF=some r) Tryz.prog 223 [.ptr 1000000 0] [(1000000,((al.cs OF).map .p))] (.p (eS r.1)) ([(1000000,((al.cs r.2).map .p))]):=by
 refine hO good [] [1000000] Tryz.func223 Z Z λ r h0 _ w0 F=>?_;unfold cw at h0;have:=js [200];have:=jB 200 (Bool×List ac×Int×Int×Int×Int×Int×Bytes) (λ v=>[(17,.p (eB v.1))]) λ v=>[(1000000,(pm v.2))]
 exact J0
def dm (n:Nat)(OF:al)(s_1:Bytes):Option al :=
 (cF n OF s_1).bind λ r1 =>
 if (!r1.1)=true then
  (bq n r1.2).bind λ r4 =>
  (bp r4.2 2 r4.1.fAt).bind λ r6 =>
  some r6.2
 else
  (aJ n r1.2).bind λ r8 =>
  some r8.2
instance wO (n:Nat):tX (dm n) 224:=by
 refine λ OF s_1=>hO good [] [1000000] Tryz.func224 Z Z λ r h0 _ w0 F=>?_;unfold dm at h0;exact J0
def bo (n:Nat)(l_1:List Bytes):Nat->Int->(List ac)->Int->Int->Int->Int->Int->Bytes->Option (((List ac)×Int×Int×Int×Int×Int×Bytes)⊕(Bytes×Bool×al))
 | 0,_,_,_,_,_,_,_,_=>none
 | m+1,t15,XT,WV,f18,f19,Yw,Yv,Yu =>
 if t15 < (l_1.length:Int) then
  ck ((0:Int)<=t15/\t15 < (l_1.length:Int)) <|
  (aZ n (al.mk XT WV f18 f19 (ao.mk Yw Yv Yu)) (lat l_1 t15)).bind λ UE =>
  if UE.1=true then
   some (.inr (lat l_1 t15,true,UE.2))
  else
   ck (inR (t15+1)) <|
   bo n l_1 m (t15+1) UE.2.fl UE.2.fat UE.2.H' UE.2.G' UE.2.AT.Ar UE.2.AT.fAt UE.2.AT.AI
 else
  some (.inl (XT,WV,f18,f19,Yw,Yv,Yu))
def d8 (n:Nat)(OF:al)(l_1:List Bytes):Option (Bytes×Bool×al) :=
 jn (bo n l_1 n 0 OF.fl OF.fat OF.H' OF.G' OF.AT.Ar OF.AT.fAt OF.AT.AI) λ XB =>
 some (([]:Bytes),false,(al.mk XB.1 XB.2.1 XB.2.2.1 XB.2.2.2.1 (ao.mk XB.2.2.2.2.1 XB.2.2.2.2.2.1 XB.2.2.2.2.2.2)))
instance zj (n:Nat) (OF:al) (l_1:List Bytes):∀ (r:Bytes×Bool×al),HO (d8 n OF l_1=some r) Tryz.prog 140 [.ptr 1000000 0,.p (eL eS l_1)] [(1000000,((al.cs OF).map .p))] (.tuple [.p (eS r.1),.p (eB r.2.1)]) ([(1000000,((al.cs r.2.2).map .p))]):=by
 refine hO good [] [1000000] Tryz.func140 Z Z λ r h0 _ w0 F=>?_;unfold d8 at h0;refine nx 9 rfl (oLl (f:=eS) Z Z ?_);refine nx 3 rfl ?_;obtain ⟨Y9,h1,TC,hR0⟩:=br h0;refine kEx 0 (λ v46:(List ac)×Int×Int×Int×Int×Int×Bytes=>Y9=.inl v46) (λ v46=>⟨[],[(1000000,(pm v46))]⟩) (λ v46 hv=>?_) ?_
 ·exact fO
 refine lG (λ (U8:Int×(List ac)×Int×Int×Int×Int×Int×Bytes)=>⟨[(0,.ptr 1000000 0),(8,.p (eL eS l_1)),(9,.p (eI (l_1.length:Int))),(10,.p (eI U8.1))],[(1000000,(pm U8.2))]⟩) (λ m (U8:Int×(List ac)×Int×Int×Int×Int×Int×Bytes)=>bo n l_1 m U8.1 U8.2.1 U8.2.2.1 U8.2.2.2.1 U8.2.2.2.2.1 U8.2.2.2.2.2.1 U8.2.2.2.2.2.2.1 U8.2.2.2.2.2.2.2) Y (0,OF.fl,OF.fat,OF.H',OF.G',OF.AT.Ar,OF.AT.fAt,OF.AT.AI) h1 (gE rfl rfl) ?_;rintro m ⟨t15,XT,WV,f18,f19,Yw,Yv,Yu⟩ h1;replace h1:bo n l_1 (m+1) t15 XT WV f18 f19 Yw Yv Yu=some Y9:=h1;rw [bo] at h1;exact ay
def j1 (SX:Int):Option (List Bytes) :=
 if SX=0 then
  some ([([124,124]:Bytes)])
 else
  if SX=1 then
   some ([([38,38]:Bytes)])
  else
   if SX=2 then
    some ([([61,61]:Bytes),([33,61]:Bytes)])
   else
    if SX=3 then
     some ([([60]:Bytes),([60,61]:Bytes),([62]:Bytes),([62,61]:Bytes)])
    else
     if SX=4 then
      some ([([43]:Bytes),([45]:Bytes)])
     else
      some ([([42]:Bytes),([47]:Bytes),([37]:Bytes)])
instance CL (SX:Int):∀ (r:(List Bytes)),HP (j1 SX=some r) Tryz.prog 141 [eI SX] (.p (eL eS r)):=by
 refine hP good Tryz.func141 Z Z λ r h0 _ w0=>?_;unfold j1 at h0;refine nx 15 Z (fD [4,5] h0 Z (λ c1 h0=>?_) λ c1 h0=>?_)
 ·exact JO
 exact Kc
def il (Mr:Bytes):Nat->Int->Option (Unit⊕Int)
 | 0,_=>none
 | m+1,t7 =>
 if t7 < 13 then
  ck ((0:Int)<=t7/\t7 < 13) <|
  if lat ([([124,124]:Bytes),([38,38]:Bytes),([61,61]:Bytes),([33,61]:Bytes),([60]:Bytes),([60,61]:Bytes),([62]:Bytes),([62,61]:Bytes),([43]:Bytes),([45]:Bytes),([42]:Bytes),([47]:Bytes),([37]:Bytes)]:List Bytes) t7=Mr then
   ck (inR (3+t7)) <|
   some (.inr (3+t7))
  else
   ck (inR (t7+1)) <|
   il Mr m (t7+1)
 else
  some (.inl ())
def qR (n:Nat)(Mr:Bytes):Option Int :=
 jn (il Mr n 0) λ _q14 =>
 some 0
instance P8 (n:Nat) (Mr:Bytes):∀ (r:Int),HP (qR n Mr=some r) Tryz.prog 142 [eS Mr] (.p (eI r)):=by
 refine hP good Tryz.func142 Z Z λ r h0 _ w0=>?_;unfold qR at h0;refine nx 11 rfl ?_;obtain ⟨o15,h1,TC,hR0⟩:=br h0;refine kEx 0 (λ v16:Unit=>o15=.inl v16) (λ v16=>⟨[],[]⟩) (λ v16 hv=>?_) ?_
 ·exact fO
 refine lG (λ (XC:Int)=>⟨[(0,.p (eS Mr)),(5,.p (.agg [eS ([124,124]:Bytes),eS ([38,38]:Bytes),eS ([61,61]:Bytes),eS ([33,61]:Bytes),eS ([60]:Bytes),eS ([60,61]:Bytes),eS ([62]:Bytes),eS ([62,61]:Bytes),eS ([43]:Bytes),eS ([45]:Bytes),eS ([42]:Bytes),eS ([47]:Bytes),eS ([37]:Bytes)])),(6,.p (eI XC))],[]⟩) (λ m (XC:Int)=>il Mr m XC) Y 0 h1 (gE rfl rfl) ?_;rintro m t7 h1;replace h1:il Mr (m+1) t7=some o15:=h1;rw [il] at h1;refine nx 5 rfl (fD [7] h1 rfl (λ c8 h1=>?_) λ c8 h1=>?_)
 ·refine nx 7 Z (cc' h1 λ YM h1=>?_);refine mO Z (v6 eS ([([124,124]:Bytes),([38,38]:Bytes),([61,61]:Bytes),([33,61]:Bytes),([60]:Bytes),([60,61]:Bytes),([62]:Bytes),([62,61]:Bytes),([43]:Bytes),([45]:Bytes),([42]:Bytes),([47]:Bytes),([37]:Bytes)]:List Bytes) Z Z Z Z Z Z Z Z Z Z Z (by have:=YM; simp only [aq,n8]; omega) ?_);exact ay
 exact ay
end Go.Ab.R06
end
section
namespace Go.Ab.R06
open Go.Proofs Go.Ab Go.Ab.RB
section
variable {p:Prop}
theorem Kb (h:p:=by exact mQo (hR0 _ (hR1 _ (oi h2).symm).symm) (aU _) Z Z Z Z (sr) ⟨⟨_,Z,⟨sr,sr,sr,sr,sr,sr,sr,trivial⟩⟩,trivial⟩):p:=h
end
set_option maxRecDepth 4000
attribute [local irreducible] awp io bg bO cv AV.sub M cZ
instance Rj:HE Tryz.prog 34:=⟨Tryz.call34⟩
instance QW:HE Tryz.prog 65:=⟨Tryz.call65⟩
instance QV:HE Tryz.prog 33:=⟨Tryz.call33⟩
instance QU:HE Tryz.prog 139:=⟨Tryz.call139⟩
instance P1:HE Tryz.prog 140:=⟨Tryz.call140⟩
instance OZ:HE Tryz.prog 166:=⟨Tryz.call166⟩
instance Qv:HE Tryz.prog 185:=⟨Tryz.call185⟩
instance Og:HE Tryz.prog 186:=⟨Tryz.call186⟩
instance OU:HE Tryz.prog 196:=⟨Tryz.call196⟩
instance PL:HE Tryz.prog 197:=⟨Tryz.call197⟩
instance Pj:HE Tryz.prog 198:=⟨Tryz.call198⟩
instance Oa:HE Tryz.prog 199:=⟨Tryz.call199⟩
instance Ow:HE Tryz.prog 19:=⟨Tryz.call19⟩
instance PD:HE Tryz.prog 210:=⟨Tryz.call210⟩
instance Ou:HE Tryz.prog 212:=⟨Tryz.call212⟩
instance OP:HE Tryz.prog 213:=⟨Tryz.call213⟩
instance Ph:HE Tryz.prog 223:=⟨Tryz.call223⟩
instance N0:HE Tryz.prog 224:=⟨Tryz.call224⟩
instance O0:HE Tryz.prog 225:=⟨Tryz.call225⟩
instance OB:HE Tryz.prog 14:=⟨Tryz.call14⟩
abbrev ln (F:al->Option (ad×al))(k:Nat):Prop:=∀ (a0:al) (r:ad×al),HO (F a0=some r) Tryz.prog k [.ptr 1000000 0] [(1000000,((al.cs a0).map .p))] (.p (.agg (ad.cs r.1))) ([(1000000,((al.cs r.2).map .p))])
abbrev qY (F:Bytes->Int->Option (ad×ao))(k:Nat):Prop:=∀ (a0:Bytes) (a1:Int) (r:ad×ao),HP (F a0 a1=some r) Tryz.prog k [eS a0,eI a1] (.tuple [.p (.agg (ad.cs r.1)),.p (.agg (ao.cs r.2))])
abbrev zv (F:ar->Option (ao×ar))(k:Nat):Prop:=∀ (a0:ar) (r:ao×ar),HO (F a0=some r) Tryz.prog k [.ptr 1000000 0] [(1000000,[.p (eS a0.fs),.p (eI a0.fat),.p (eI a0.fi),.p (eI a0.D'),.p (eS a0.F'),.vec 900000 11 0 (a0.BY.map ak),.p (eB a0.IN)])] (.p (.agg (ao.cs r.1))) ([(1000000,[.p (eS r.2.fs),.p (eI r.2.fat),.p (eI r.2.fi),.p (eI r.2.D'),.p (eS r.2.F'),.vec 2000000 11 0 (r.2.BY.map ak),.p (eB r.2.IN)])])
abbrev Iy (v:Int×Int×Bytes×Bytes×Int×Int×Bytes×List am×List Bytes×List ad×Int):List AV:=[.p (eI v.1),.p (eI v.2.1),.p (eS v.2.2.1),.p (eS v.2.2.2.1),.p (eI v.2.2.2.2.1),.p (eI v.2.2.2.2.2.1),.p (eS v.2.2.2.2.2.2.1),.p (eL cY v.2.2.2.2.2.2.2.1),.p (eL eS v.2.2.2.2.2.2.2.2.1),.p (eL ak v.2.2.2.2.2.2.2.2.2.1),.p (eI v.2.2.2.2.2.2.2.2.2.2)]
abbrev fG (v:List ac×Int×Int×Int×Int×Int×Bytes):List AV:=[.p (eL aG v.1),.p (eI v.2.1),.p (eI v.2.2.1),.p (eI v.2.2.2.1),.p (eI v.2.2.2.2.1),.p (eI v.2.2.2.2.2.1),.p (eS v.2.2.2.2.2.2)]
abbrev dy (a0 a1 a2 a3 a4:AV):List AV:=[a0,.p (eI 0),a1,a2,.p (eI 0),.p (eI 0),.p (eS ([]:Bytes)),.p (.val (.slice none 0 0)),.p (.val (.slice none 0 0)),a3,a4]
abbrev nZ (a0 a1 a2 a3:AV):List AV:=[a0,.p (eI 0),a1,a2,.p (eI 0),.p (eI 0),.p (eS ([]:Bytes)),.p (.val (.slice none 0 0)),.p (.val (.slice none 0 0)),.p (.val (.slice none 0 0)),a3]
abbrev bw:List AV:=[.p (eI 0),.p (eI 0),.p (eS ([]:Bytes)),.p (eS ([]:Bytes)),.p (eI 0),.p (eI 0),.p (eS ([]:Bytes)),.p (.val (.slice none 0 0)),.p (.val (.slice none 0 0)),.p (.val (.slice none 0 0)),.p (eI 0)]
abbrev o0:List PV:=[eI 0,eI 0,eS ([]:Bytes),eS ([]:Bytes),eI 0,eI 0,eS ([]:Bytes),.val (.slice none 0 0),.val (.slice none 0 0),.val (.slice none 0 0),eI 0]
abbrev cx:List AV:=[.p (eI 0),.p (eI 0),.p (eS ([]:Bytes))]
def bZ (n:Nat)(Tl:ar->Option (ao×ar)):Nat->Bytes->Int->Int->Int->Bytes->(List ad)->Bool->Option ((Bytes×Int×Int×Int×Bytes×(List ad)×Bool)⊕(ao×ar))
 | 0,_,_,_,_,_,_,_=>none
 | m+1,US,Vn,T8,UR,Vf,Vm,Vl =>
 if T8 < (US.length:Int) then
  ck ((0:Int)<=T8/\T8<=(US.length:Int)/\(US.length:Int)<=(US.length:Int)) <|
  (
    (strings_HasPrefix (sub US T8 (US.length:Int)) ([36,36,123]:Bytes)).bind λ Xg =>
    if Xg=true then
     ck (Vf.length+([36,123]:Bytes).length<=9223372036854775807) <|
     ck (inR (T8+3)) <|
     (dG (ar.mk US Vn (T8+3) UR (Vf++([36,123]:Bytes)) Vm Vl)).bind λ Wb =>
     some (Wb.1.Ar,Wb.1.fAt,Wb.1.AI,Wb.2.fs,Wb.2.fat,Wb.2.fi,Wb.2.D',Wb.2.F',Wb.2.BY,Wb.2.IN)
    else
     (strings_HasPrefix (sub US T8 (US.length:Int)) ([36,123]:Bytes)).bind λ TR =>
     if TR=true then
      (Tl (ar.mk US Vn T8 UR Vf Vm Vl)).bind λ UP =>
      some (UP.1.Ar,UP.1.fAt,UP.1.AI,UP.2.fs,UP.2.fat,UP.2.fi,UP.2.D',UP.2.F',UP.2.BY,UP.2.IN)
     else
      (gh n (ar.mk US Vn T8 UR Vf Vm Vl)).bind λ Ux =>
      some (Ux.1.Ar,Ux.1.fAt,Ux.1.AI,Ux.2.fs,Ux.2.fat,Ux.2.fi,Ux.2.D',Ux.2.F',Ux.2.BY,Ux.2.IN)
   ).bind λ VX =>
  if VX.1=0 then
   bZ n Tl m VX.2.2.2.1 VX.2.2.2.2.1 VX.2.2.2.2.2.1 VX.2.2.2.2.2.2.1 VX.2.2.2.2.2.2.2.1 VX.2.2.2.2.2.2.2.2.1 VX.2.2.2.2.2.2.2.2.2
  else
   some (.inr ((ao.mk VX.1 VX.2.1 VX.2.2.1),(ar.mk VX.2.2.2.1 VX.2.2.2.2.1 VX.2.2.2.2.2.1 VX.2.2.2.2.2.2.1 VX.2.2.2.2.2.2.2.1 VX.2.2.2.2.2.2.2.2.1 VX.2.2.2.2.2.2.2.2.2)))
 else
  some (.inl (US,Vn,T8,UR,Vf,Vm,Vl))
def bS (n:Nat)(TO:al->Int->Option (ad×al))(O':Int)(r5:ad×al):Nat->Int->Int->Bytes->Bytes->Int->Int->Bytes->(List am)->(List Bytes)->(List ad)->(List ac)->Int->Int->Int->Int->Int->Bytes->Option (((List ac)×Int×Int×Int×Int×Int×Bytes)⊕(ad×al))
 | 0,_,_,_,_,_,_,_,_,_,_,_,_,_,_,_,_,_=>none
 | m+1,Vn,T8,UR,Vf,Vm,Vl,Vk,Vj,VI,VH,XS,XR,WO,WN,WM,Vw,VT =>
 (j1 O').bind λ X3 =>
 (d8 n (al.mk XS XR WO WN (ao.mk WM Vw VT)) X3).bind λ TD =>
 if (!TD.2.1)=true then
  some (.inr ((ad.mk Vn T8 UR Vf (am.mk Vm Vl Vk Vj VI) VH r5.1.fAt),TD.2.2))
 else
  (aJ n TD.2.2).bind λ TX =>
  ck (inR (O'+1)) <|
  (TO TX.2 (O'+1)).bind λ TQ =>
  (qR n TD.1).bind λ Va =>
  bS n TO O' r5 m 7 Va ([]:Bytes) ([]:Bytes) 0 0 ([]:Bytes) [] [] [(ad.mk Vn T8 UR Vf (am.mk Vm Vl Vk Vj VI) VH r5.1.fAt),TQ.1] TQ.2.fl TQ.2.fat TQ.2.H' TQ.2.G' TQ.2.AT.Ar TQ.2.AT.fAt TQ.2.AT.AI
def bM (n:Nat)(SV:al->Option (ad×al))(r1:ad×al):Nat->Int->Int->Bytes->Bytes->Int->Int->Bytes->(List am)->(List Bytes)->(List ad)->(List ac)->Int->Int->Int->Int->Int->Bytes->Option (((List ac)×Int×Int×Int×Int×Int×Bytes)⊕(ad×al))
 | 0,_,_,_,_,_,_,_,_,_,_,_,_,_,_,_,_,_=>none
 | m+1,Vw,VT,WL,XQ,XP,XO,XN,Zy,Zx,VS,WK,WJ,WI,WH,WG,WF,WE =>
 jn (
   (aZ n (al.mk WK WJ WI WH (ao.mk WG WF WE)) ([46]:Bytes)).bind λ r68 =>
   if r68.1=true then
    (aJ n r68.2).bind λ Xs =>
    (bq n Xs.2).bind λ Uw =>
    if Uw.1.Ar=1 then
     (aJ n Uw.2).bind λ Wa =>
     some (.inl (4,Uw.1.B',[(ad.mk Vw VT WL XQ (am.mk XP XO XN Zy Zx) VS r1.1.fAt)],Wa.2.fl,Wa.2.fat,Wa.2.H',Wa.2.G',Wa.2.AT.Ar,Wa.2.AT.fAt,Wa.2.AT.AI))
    else
     (bp Uw.2 2 Uw.1.fAt).bind λ VG =>
     some (.inr (.inr (VG.1,VG.2)))
   else
    (aZ n r68.2 ([91]:Bytes)).bind λ r80 =>
    if r80.1=true then
     (cG n r80.2).bind λ Vz =>
     (SV Vz).bind λ r85 =>
     (bz n r85.2 ([93]:Bytes)).bind λ YC =>
     some (.inl (5,([]:Bytes),[(ad.mk Vw VT WL XQ (am.mk XP XO XN Zy Zx) VS r1.1.fAt),r85.1],YC.fl,YC.fat,YC.H',YC.G',YC.AT.Ar,YC.AT.fAt,YC.AT.AI))
    else
     some (.inr (.inr ((ad.mk Vw VT WL XQ (am.mk XP XO XN Zy Zx) VS r1.1.fAt),r80.2)))
  : Option ((Int×Bytes×(List ad)×(List ac)×Int×Int×Int×Int×Int×Bytes)⊕(((List ac)×Int×Int×Int×Int×Int×Bytes)⊕(ad×al)))) λ VC =>
 bM n SV r1 m VC.1 0 VC.2.1 ([]:Bytes) 0 0 ([]:Bytes) [] [] VC.2.2.1 VC.2.2.2.1 VC.2.2.2.2.1 VC.2.2.2.2.2.1 VC.2.2.2.2.2.2.1 VC.2.2.2.2.2.2.2.1 VC.2.2.2.2.2.2.2.2.1 VC.2.2.2.2.2.2.2.2.2
def cK (n:Nat)(SV:al->Option (ad×al))(end_1:Bytes):Nat->(List ad)->(List ac)->Int->Int->Int->Int->Int->Bytes->Option ((List ad)×(List ac)×Int×Int×Int×Int×Int×Bytes)
 | 0,_,_,_,_,_,_,_,_=>none
 | m+1,U9,Xm,f33,f34,US,Vn,T8,UR =>
 (
   (aR (al.mk Xm f33 f34 US (ao.mk Vn T8 UR))).bind λ Wc =>
   if (!Wc.1)=true then
    (aZ n Wc.2 end_1).bind λ Uo =>
    some (!Uo.1,Uo.2.fl,Uo.2.fat,Uo.2.H',Uo.2.G',Uo.2.AT.Ar,Uo.2.AT.fAt,Uo.2.AT.AI)
   else
    some (false,Wc.2.fl,Wc.2.fat,Wc.2.H',Wc.2.G',Wc.2.AT.Ar,Wc.2.AT.fAt,Wc.2.AT.AI)
  ).bind λ Vt =>
 if Vt.1=true then
  (SV (al.mk Vt.2.1 Vt.2.2.1 Vt.2.2.2.1 Vt.2.2.2.2.1 (ao.mk Vt.2.2.2.2.2.1 Vt.2.2.2.2.2.2.1 Vt.2.2.2.2.2.2.2))).bind λ X3 =>
  ck ((U9.length+[X3.1].length)*160<=140737488355328) <|
  (aZ n X3.2 ([44]:Bytes)).bind λ Ux =>
  if (!Ux.1)=true then
   some (U9++[X3.1],Ux.2.fl,Ux.2.fat,Ux.2.H',Ux.2.G',Ux.2.AT.Ar,Ux.2.AT.fAt,Ux.2.AT.AI)
  else
   (aJ n Ux.2).bind λ Xt =>
   cK n SV end_1 m (U9++[X3.1]) Xt.2.fl Xt.2.fat Xt.2.H' Xt.2.G' Xt.2.AT.Ar Xt.2.AT.fAt Xt.2.AT.AI
 else
  some (U9,Vt.2.1,Vt.2.2.1,Vt.2.2.2.1,Vt.2.2.2.2.1,Vt.2.2.2.2.2.1,Vt.2.2.2.2.2.2.1,Vt.2.2.2.2.2.2.2)
def ce (n:Nat)(SV:al->Option (ad×al))(TW:al->Option (ad×al)):Nat->(List ad)->(List ac)->Int->Int->Int->Int->Int->Bytes->Option ((List ad)×(List ac)×Int×Int×Int×Int×Int×Bytes)
 | 0,_,_,_,_,_,_,_,_=>none
 | m+1,Uq,T8,UR,Vf,Vm,Vl,Vk,Vj =>
 (
   (aR (al.mk T8 UR Vf Vm (ao.mk Vl Vk Vj))).bind λ Xg =>
   if (!Xg.1)=true then
    (aZ n Xg.2 ([125]:Bytes)).bind λ YF =>
    some (!YF.1,YF.2.fl,YF.2.fat,YF.2.H',YF.2.G',YF.2.AT.Ar,YF.2.AT.fAt,YF.2.AT.AI)
   else
    some (false,Xg.2.fl,Xg.2.fat,Xg.2.H',Xg.2.G',Xg.2.AT.Ar,Xg.2.AT.fAt,Xg.2.AT.AI)
  ).bind λ We =>
 if We.1=true then
  (TW (al.mk We.2.1 We.2.2.1 We.2.2.2.1 We.2.2.2.2.1 (ao.mk We.2.2.2.2.2.1 We.2.2.2.2.2.2.1 We.2.2.2.2.2.2.2))).bind λ TX =>
  ck ((Uq.length+[TX.1].length)*160<=140737488355328) <|
  (cr n TX.2 ([61]:Bytes)).bind λ TQ =>
  (SV TQ).bind λ Va =>
  ck (((Uq++[TX.1]).length+[Va.1].length)*160<=140737488355328) <|
  (aZ n Va.2 ([44]:Bytes)).bind λ VK =>
  if (!VK.1)=true then
   some ((Uq++[TX.1])++[Va.1],VK.2.fl,VK.2.fat,VK.2.H',VK.2.G',VK.2.AT.Ar,VK.2.AT.fAt,VK.2.AT.AI)
  else
   (aJ n VK.2).bind λ TY =>
   ce n SV TW m ((Uq++[TX.1])++[Va.1]) TY.2.fl TY.2.fat TY.2.H' TY.2.G' TY.2.AT.Ar TY.2.AT.fAt TY.2.AT.AI
 else
  some (Uq,We.2.1,We.2.2.1,We.2.2.2.1,We.2.2.2.2.1,We.2.2.2.2.2.1,We.2.2.2.2.2.2.1,We.2.2.2.2.2.2.2)
mutual
def ff:Nat->Bytes->Int->Option (ad×ao)
 | 0,_,_=>none
 | n+1,Mr,N' =>
 ((gm n) (ar.mk Mr N' 0 0 ([]:Bytes) [] false)).bind λ r1 =>
 if r1.1.Ar=0 then
  (gB (am.mk 3 0 r1.2.F' [] []) N').bind λ r4 =>
  (
    if r1.2.IN=true then
     (eq (ar.mk r1.2.fs r1.2.fat r1.2.fi r1.2.D' r1.2.F' r1.2.BY r1.2.IN)).bind λ r7 =>
     some (2,0,([]:Bytes),([]:Bytes),0,0,([]:Bytes),[],[],r7.BY,N')
    else
     some (r4.Ar,r4.fOp,r4.AI,r4.Gw,r4.A'.Ar,r4.A'.E',r4.A'.If,r4.A'.Df,r4.A'.C',r4.By,r4.fAt)
   ).bind λ TF =>
  (iP n (ad.mk TF.1 TF.2.1 TF.2.2.1 TF.2.2.2.1 (am.mk TF.2.2.2.2.1 TF.2.2.2.2.2.1 TF.2.2.2.2.2.2.1 TF.2.2.2.2.2.2.2.1 TF.2.2.2.2.2.2.2.2.1) TF.2.2.2.2.2.2.2.2.2.1 TF.2.2.2.2.2.2.2.2.2.2) r1.1).bind λ T7 =>
  some (T7.1,T7.2)
 else
  some ((ad.mk 0 0 ([]:Bytes) ([]:Bytes) (am.mk 0 0 ([]:Bytes) [] []) [] 0),r1.1)
def iv:Nat->Bytes->Int->Option (ad×ao)
 | 0,_,_=>none
 | n+1,Mr,base_1 =>
 (mu n Mr).bind λ r1 =>
 if r1.2.Ar=0 then
  ((aC n) (al.mk r1.1 0 1 base_1 (ao.mk 0 0 ([]:Bytes)))).bind λ r5 =>
  (
    (bq n r5.2).bind λ r7 =>
    if r7.1.Ar=6 then
     some (r7.2.fl,r7.2.fat,r7.2.H',r7.2.G',r7.2.AT.Ar,r7.2.AT.fAt,r7.2.AT.AI)
    else
     (bp r7.2 2 r7.1.fAt).bind λ Tp =>
     some (Tp.2.fl,Tp.2.fat,Tp.2.H',Tp.2.G',Tp.2.AT.Ar,Tp.2.AT.fAt,Tp.2.AT.AI)
   ).bind λ q19 =>
  some (r5.1,(ao.mk q19.2.2.2.2.1 q19.2.2.2.2.2.1 q19.2.2.2.2.2.2))
 else
  ck (inR (base_1+r1.2.fAt)) <|
  some ((ad.mk 0 0 ([]:Bytes) ([]:Bytes) (am.mk 0 0 ([]:Bytes) [] []) [] 0),(ao.mk r1.2.Ar (base_1+r1.2.fAt) ([]:Bytes)))
def gm:Nat->ar->Option (ao×ar)
 | 0,_=>none
 | n+1,Pn =>
 jn (bZ n (aM n) n Pn.fs Pn.fat Pn.fi Pn.D' Pn.F' Pn.BY Pn.IN) λ Y0 =>
 some ((ao.mk 0 0 ([]:Bytes)),(ar.mk Y0.1 Y0.2.1 Y0.2.2.1 Y0.2.2.2.1 Y0.2.2.2.2.1 Y0.2.2.2.2.2.1 Y0.2.2.2.2.2.2))
def aC:Nat->al->Option (ad×al)
 | 0,_=>none
 | n+1,OF =>
 ((a6 n) OF 0).bind λ r1 =>
 (aZ n r1.2 ([63]:Bytes)).bind λ r3 =>
 if (!r3.1)=true then
  some (r1.1,r3.2)
 else
  (aJ n r3.2).bind λ r6 =>
  ((aC n) r6.2).bind λ r8 =>
  (cr n r8.2 ([58]:Bytes)).bind λ Tp =>
  ((aC n) Tp).bind λ Tv =>
  some ((ad.mk 8 0 ([]:Bytes) ([]:Bytes) (am.mk 0 0 ([]:Bytes) [] []) [r1.1,r8.1,Tv.1] r1.1.fAt),Tv.2)
def aM:Nat->ar->Option (ao×ar)
 | 0,_=>none
 | n+1,Pn =>
 (eq (ar.mk Pn.fs Pn.fat Pn.fi Pn.D' Pn.F' Pn.BY Pn.IN)).bind λ r1 =>
 ck (inR (r1.fi+2)) <|
 (dA n r1.fs (r1.fi+2)).bind λ r4 =>
 if r4 < 0 then
  ck (inR (r1.fat+r1.fi)) <|
  some ((ao.mk 40 (r1.fat+r1.fi) ([]:Bytes)),(ar.mk r1.fs r1.fat r1.fi r1.D' r1.F' r1.BY true))
 else
  ck (inR (r1.fi+2)) <|
  ck ((0:Int)<=r1.fi+2/\r1.fi+2<=r4/\r4<=(r1.fs.length:Int)) <|
  ck (inR (r1.fat+r1.fi)) <|
  ck (inR ((r1.fat+r1.fi)+2)) <|
  ((iv n) (sub r1.fs (r1.fi+2) r4) ((r1.fat+r1.fi)+2)).bind λ Tv =>
  if Tv.2.Ar=0 then
   ck ((r1.BY.length+1)*160<=140737488355328) <|
   ck (inR (r4+1)) <|
   some ((ao.mk 0 0 ([]:Bytes)),(ar.mk r1.fs r1.fat (r4+1) (r4+1) r1.F' (r1.BY++[Tv.1]) true))
  else
   some (Tv.2,(ar.mk r1.fs r1.fat r1.fi r1.D' r1.F' r1.BY true))
def a6:Nat->al->Int->Option (ad×al)
 | 0,_,_=>none
 | n+1,OF,O' =>
 if 5 < O' then
  ((cS n) OF).bind λ r2 =>
  some (r2.1,r2.2)
 else
  ck (inR (O'+1)) <|
  ((a6 n) OF (O'+1)).bind λ r5 =>
  jn (bS n (a6 n) O' r5 n r5.1.Ar r5.1.fOp r5.1.AI r5.1.Gw r5.1.A'.Ar r5.1.A'.E' r5.1.A'.If r5.1.A'.Df r5.1.A'.C' r5.1.By r5.2.fl r5.2.fat r5.2.H' r5.2.G' r5.2.AT.Ar r5.2.AT.fAt r5.2.AT.AI) λ _q89 =>
  none
def cS:Nat->al->Option (ad×al)
 | 0,_=>none
 | n+1,OF =>
 (
   (aZ n OF ([33]:Bytes)).bind λ r1 =>
   if r1.1=true then
    some (1,r1.2.fl,r1.2.fat,r1.2.H',r1.2.G',r1.2.AT.Ar,r1.2.AT.fAt,r1.2.AT.AI)
   else
    (aZ n r1.2 ([45]:Bytes)).bind λ r4 =>
    if r4.1=true then
     some (2,r4.2.fl,r4.2.fat,r4.2.H',r4.2.G',r4.2.AT.Ar,r4.2.AT.fAt,r4.2.AT.AI)
    else
     some (0,r4.2.fl,r4.2.fat,r4.2.H',r4.2.G',r4.2.AT.Ar,r4.2.AT.fAt,r4.2.AT.AI)
  ).bind λ TF =>
 if TF.1=0 then
  ((dv n) (al.mk TF.2.1 TF.2.2.1 TF.2.2.2.1 TF.2.2.2.2.1 (ao.mk TF.2.2.2.2.2.1 TF.2.2.2.2.2.2.1 TF.2.2.2.2.2.2.2))).bind λ WR =>
  some (WR.1,WR.2)
 else
  (aJ n (al.mk TF.2.1 TF.2.2.1 TF.2.2.2.1 TF.2.2.2.2.1 (ao.mk TF.2.2.2.2.2.1 TF.2.2.2.2.2.2.1 TF.2.2.2.2.2.2.2))).bind λ Ud =>
  ((cS n) Ud.2).bind λ T7 =>
  some ((ad.mk 6 TF.1 ([]:Bytes) ([]:Bytes) (am.mk 0 0 ([]:Bytes) [] []) [T7.1] Ud.1.fAt),T7.2)
def dv:Nat->al->Option (ad×al)
 | 0,_=>none
 | n+1,OF =>
 ((cH n) OF).bind λ r1 =>
 jn (bM n (aC n) r1 n r1.1.Ar r1.1.fOp r1.1.AI r1.1.Gw r1.1.A'.Ar r1.1.A'.E' r1.1.A'.If r1.1.A'.Df r1.1.A'.C' r1.1.By r1.2.fl r1.2.fat r1.2.H' r1.2.G' r1.2.AT.Ar r1.2.AT.fAt r1.2.AT.AI) λ _q123 =>
 none
def cH:Nat->al->Option (ad×al)
 | 0,_=>none
 | n+1,OF =>
 (aR OF).bind λ r1 =>
 if r1.1=true then
  some ((ad.mk 0 0 ([]:Bytes) ([]:Bytes) (am.mk 0 0 ([]:Bytes) [] []) [] 0),r1.2)
 else
  (bq n r1.2).bind λ r4 =>
  if r4.1.Ar=2 then
   (j6 n r4.1.B').bind λ r7 =>
   if r7.2=0 then
    (aJ n r4.2).bind λ Tv =>
    (gB (am.mk 2 r7.1 ([]:Bytes) [] []) r4.1.fAt).bind λ Xj =>
    some (Xj,Tv.2)
   else
    (bp r4.2 r7.2 r4.1.fAt).bind λ Tp =>
    some (Tp.1,Tp.2)
  else
   if r4.1.Ar=3 then
    ((eP n) r4.2).bind λ VL =>
    some (VL.1,VL.2)
   else
    if r4.1.Ar=1 then
     ((ge n) r4.2).bind λ T7 =>
     some (T7.1,T7.2)
    else
     if r4.1.Ar=4 then
      ((gD n) r4.2).bind λ Ts =>
      some (Ts.1,Ts.2)
     else
      (bp r4.2 2 r4.1.fAt).bind λ UE =>
      some (UE.1,UE.2)
def eP:Nat->al->Option (ad×al)
 | 0,_=>none
 | n+1,OF =>
 (bq n OF).bind λ r1 =>
 ck (inR (r1.1.fAt+1)) <|
 ((ff n) r1.1.B' (r1.1.fAt+1)).bind λ r4 =>
 if r4.2.Ar=0 then
  (aJ n r1.2).bind λ r9 =>
  some ((ad.mk r4.1.Ar r4.1.fOp r4.1.AI r4.1.Gw r4.1.A' r4.1.By r1.1.fAt),r9.2)
 else
  (bp r1.2 r4.2.Ar r4.2.fAt).bind λ r7 =>
  some (r7.1,r7.2)
def ge:Nat->al->Option (ad×al)
 | 0,_=>none
 | n+1,OF =>
 (bq n OF).bind λ r1 =>
 if r1.1.B'=([110,117,108,108]:Bytes) then
  (aJ n r1.2).bind λ r4 =>
  (gB (am.mk 0 0 ([]:Bytes) [] []) r1.1.fAt).bind λ r6 =>
  some (r6,r4.2)
 else
  (
    if r1.1.B'=([116,114,117,101]:Bytes) then
     some true
    else
     some (decide (r1.1.B'=([102,97,108,115,101]:Bytes)))
   ).bind λ t9 =>
  if t9=true then
   (aJ n r1.2).bind λ VW =>
   (
     if r1.1.B'=([116,114,117,101]:Bytes) then
      some 1
     else
      some 0
    ).bind λ Yx =>
   (gB (am.mk 1 Yx ([]:Bytes) [] []) r1.1.fAt).bind λ S6 =>
   some (S6,VW.2)
  else
   (fX r1.1.B').bind λ VL =>
   if VL=true then
    (bp r1.2 2 r1.1.fAt).bind λ T7 =>
    some (T7.1,T7.2)
   else
    (aJ n r1.2).bind λ Vb =>
    (aZ n Vb.2 ([40]:Bytes)).bind λ Vs =>
    if (!Vs.1)=true then
     some ((ad.mk 3 0 r1.1.B' ([]:Bytes) (am.mk 0 0 ([]:Bytes) [] []) [] r1.1.fAt),Vs.2)
    else
     (cG n Vs.2).bind λ Uc =>
     ((gf n) Uc ([41]:Bytes)).bind λ Xi =>
     (bz n Xi.2 ([41]:Bytes)).bind λ Wd =>
     some ((ad.mk 9 0 r1.1.B' ([]:Bytes) (am.mk 0 0 ([]:Bytes) [] []) Xi.1 r1.1.fAt),Wd)
def gD:Nat->al->Option (ad×al)
 | 0,_=>none
 | n+1,OF =>
 (bq n OF).bind λ r1 =>
 if r1.1.B'=([40]:Bytes) then
  (cG n r1.2).bind λ r4 =>
  ((aC n) r4).bind λ r6 =>
  (bz n r6.2 ([41]:Bytes)).bind λ r8 =>
  some (r6.1,r8)
 else
  if r1.1.B'=([91]:Bytes) then
   (cG n r1.2).bind λ VW =>
   (cF n VW ([102,111,114]:Bytes)).bind λ UU =>
   if UU.1=true then
    ((eM n) UU.2 r1.1.fAt 12).bind λ WR =>
    some (WR.1,WR.2)
   else
    ((gf n) UU.2 ([93]:Bytes)).bind λ Ud =>
    (bz n Ud.2 ([93]:Bytes)).bind λ T7 =>
    some ((ad.mk 10 0 ([]:Bytes) ([]:Bytes) (am.mk 0 0 ([]:Bytes) [] []) Ud.1 r1.1.fAt),T7)
  else
   if r1.1.B'=([123]:Bytes) then
    (cG n r1.2).bind λ Ts =>
    (cF n Ts ([102,111,114]:Bytes)).bind λ UE =>
    if UE.1=true then
     ((eM n) UE.2 r1.1.fAt 13).bind λ Ty =>
     some (Ty.1,Ty.2)
    else
     ((fH n) UE.2).bind λ Wm =>
     (bz n Wm.2 ([125]:Bytes)).bind λ Vr =>
     some ((ad.mk 11 0 ([]:Bytes) ([]:Bytes) (am.mk 0 0 ([]:Bytes) [] []) Wm.1 r1.1.fAt),Vr)
   else
    (bp r1.2 2 r1.1.fAt).bind λ Tg =>
    some (Tg.1,Tg.2)
def gf:Nat->al->Bytes->Option ((List ad)×al)
 | 0,_,_=>none
 | n+1,OF,end_1 =>
 (cK n (aC n) end_1 n [] OF.fl OF.fat OF.H' OF.G' OF.AT.Ar OF.AT.fAt OF.AT.AI).bind λ YG =>
 some (YG.1,(al.mk YG.2.1 YG.2.2.1 YG.2.2.2.1 YG.2.2.2.2.1 (ao.mk YG.2.2.2.2.2.1 YG.2.2.2.2.2.2.1 YG.2.2.2.2.2.2.2)))
def eM:Nat->al->Int->Int->Option (ad×al)
 | 0,_,_,_=>none
 | n+1,OF,N',k_2 =>
 (aJ n OF).bind λ r1 =>
 (cw n r1.2).bind λ r3 =>
 (
   (aZ n r3.2 ([44]:Bytes)).bind λ r5 =>
   if r5.1=true then
    (aJ n r5.2).bind λ r8 =>
    (cw n r8.2).bind λ Tp =>
    some (Tp.1,r3.1,Tp.2.fl,Tp.2.fat,Tp.2.H',Tp.2.G',Tp.2.AT.Ar,Tp.2.AT.fAt,Tp.2.AT.AI)
   else
    some (r3.1,([]:Bytes),r5.2.fl,r5.2.fat,r5.2.H',r5.2.G',r5.2.AT.Ar,r5.2.AT.fAt,r5.2.AT.AI)
  ).bind λ Yj =>
 (dm n (al.mk Yj.2.2.1 Yj.2.2.2.1 Yj.2.2.2.2.1 Yj.2.2.2.2.2.1 (ao.mk Yj.2.2.2.2.2.2.1 Yj.2.2.2.2.2.2.2.1 Yj.2.2.2.2.2.2.2.2)) ([105,110]:Bytes)).bind λ Te =>
 ((aC n) Te).bind λ Ts =>
 ck ([Ts.1].length*160<=140737488355328) <|
 (cr n Ts.2 ([58]:Bytes)).bind λ TT =>
 ((aC n) TT).bind λ Ty =>
 ck (([Ts.1].length+[Ty.1].length)*160<=140737488355328) <|
 (
   if k_2=13 then
    (cr n Ty.2 ([61,62]:Bytes)).bind λ Vr =>
    ((aC n) Vr).bind λ Tg =>
    ck ((([Ts.1]++[Ty.1]).length+[Tg.1].length)*160<=140737488355328) <|
    some (([125]:Bytes),([Ts.1]++[Ty.1])++[Tg.1],Tg.2.fl,Tg.2.fat,Tg.2.H',Tg.2.G',Tg.2.AT.Ar,Tg.2.AT.fAt,Tg.2.AT.AI)
   else
    some (([93]:Bytes),[Ts.1]++[Ty.1],Ty.2.fl,Ty.2.fat,Ty.2.H',Ty.2.G',Ty.2.AT.Ar,Ty.2.AT.fAt,Ty.2.AT.AI)
  ).bind λ V5 =>
 (
   (cF n (al.mk V5.2.2.1 V5.2.2.2.1 V5.2.2.2.2.1 V5.2.2.2.2.2.1 (ao.mk V5.2.2.2.2.2.2.1 V5.2.2.2.2.2.2.2.1 V5.2.2.2.2.2.2.2.2)) ([105,102]:Bytes)).bind λ V3 =>
   if V3.1=true then
    (aJ n V3.2).bind λ Wb =>
    ((aC n) Wb.2).bind λ TR =>
    ck ((V5.2.1.length+[TR.1].length)*160<=140737488355328) <|
    some (V5.2.1++[TR.1],TR.2.fl,TR.2.fat,TR.2.H',TR.2.G',TR.2.AT.Ar,TR.2.AT.fAt,TR.2.AT.AI)
   else
    some (V5.2.1,V3.2.fl,V3.2.fat,V3.2.H',V3.2.G',V3.2.AT.Ar,V3.2.AT.fAt,V3.2.AT.AI)
  ).bind λ Wg =>
 (bz n (al.mk Wg.2.1 Wg.2.2.1 Wg.2.2.2.1 Wg.2.2.2.2.1 (ao.mk Wg.2.2.2.2.2.1 Wg.2.2.2.2.2.2.1 Wg.2.2.2.2.2.2.2)) V5.1).bind λ r62 =>
 some ((ad.mk k_2 0 Yj.1 Yj.2.1 (am.mk 0 0 ([]:Bytes) [] []) Wg.1 N'),r62)
def fH:Nat->al->Option ((List ad)×al)
 | 0,_=>none
 | n+1,OF =>
 (ce n (aC n) (dc n) n [] OF.fl OF.fat OF.H' OF.G' OF.AT.Ar OF.AT.fAt OF.AT.AI).bind λ Vg =>
 some (Vg.1,(al.mk Vg.2.1 Vg.2.2.1 Vg.2.2.2.1 Vg.2.2.2.2.1 (ao.mk Vg.2.2.2.2.2.1 Vg.2.2.2.2.2.2.1 Vg.2.2.2.2.2.2.2)))
def dc:Nat->al->Option (ad×al)
 | 0,_=>none
 | n+1,OF =>
 (bq n OF).bind λ r1 =>
 if r1.1.Ar=1 then
  (aJ n r1.2).bind λ r4 =>
  (gB (am.mk 3 0 r1.1.B' [] []) r1.1.fAt).bind λ r6 =>
  some (r6,r4.2)
 else
  if r1.1.Ar=3 then
   ((eP n) r1.2).bind λ r9 =>
   some (r9.1,r9.2)
  else
   (aZ n r1.2 ([40]:Bytes)).bind λ VW =>
   if VW.1=true then
    (cG n VW.2).bind λ Xj =>
    ((aC n) Xj).bind λ WR =>
    (bz n WR.2 ([41]:Bytes)).bind λ Ud =>
    some (WR.1,Ud)
   else
    (bp VW.2 2 r1.1.fAt).bind λ T7 =>
    some (T7.1,T7.2)
end
theorem mN (n:Nat):qY (ff n) 19/\qY (iv n) 33/\zv (gm n) 38/\ln (aC n) 65/\zv (aM n) 77/\(∀ (OF:al) (O':Int) (r:ad×al),HO (a6 n OF O'=some r) Tryz.prog 100 [.ptr 1000000 0,.p (eI O')] [(1000000,((al.cs OF).map .p))] (.p (.agg (ad.cs r.1))) ([(1000000,((al.cs r.2).map .p))]))/\ln (cS n) 139/\ln (dv n) 166/\ln (cH n) 184/\ln (eP n) 197/\ln (ge n) 198/\ln (gD n) 199/\(∀ (OF:al) (end_1:Bytes) (r:(List ad)×al),HO (gf n OF end_1=some r) Tryz.prog 210 [.ptr 1000000 0,.p (eS end_1)] [(1000000,((al.cs OF).map .p))] (.p (eL ak r.1)) ([(1000000,((al.cs r.2).map .p))]))/\(∀ (OF:al) (N':Int) (k_2:Int) (r:ad×al),HO (eM n OF N' k_2=some r) Tryz.prog 212 [.ptr 1000000 0,.p (eI N'),.p (eI k_2)] [(1000000,((al.cs OF).map .p))] (.p (.agg (ad.cs r.1))) ([(1000000,((al.cs r.2).map .p))]))/\(∀ (OF:al) (r:(List ad)×al),HO (fH n OF=some r) Tryz.prog 213 [.ptr 1000000 0] [(1000000,((al.cs OF).map .p))] (.p (eL ak r.1)) ([(1000000,((al.cs r.2).map .p))]))/\ln (dc n) 225:=by
 induction n with
 | zero=>exact Zr
 | succ n ih =>
 obtain ⟨_,_,_,_,_,_,_,_,_,_,_,_,_,_,_,_⟩:=ih;refine ⟨?_,?_,?_,?_,?_,?_,?_,?_,?_,?_,?_,?_,?_,?_,?_,?_⟩
 ·refine λ Mr N'=>hP good Tryz.func19 Z Z λ r h0 _ w0=>?_;rw [ff] at h0;refine nx 16 Z (bd h0 λ r1 e2 h0=>?_);refine mO Z (aY [12] [890000] 101000 101001 (HO.c e2) Z Z Z Z Z ⟨sr,trivial⟩ Z Z ⟨⟨_,Z,⟨sr,sr,sr,sr,sr,AV.sub_nilvec _ _ _,sr,trivial⟩⟩,trivial⟩ Z Z Z Z Z Z Z Z Tryz.call38 Z Z ?_);refine nx 10 Z (fN [17] h0 Z (λ c3 h0=>?_) λ c3 h0=>?_)
  ·refine nx 10 Z (bd h0 λ r4 e5 h0=>?_);refine oK (HP.c e5) Z ⟨nD ⟨.inl Z,.inl Z,.inl Z,.inr ⟨Z,Z⟩,.inr ⟨Z,Z⟩,trivial⟩,sr,trivial⟩ Tryz.call39 Z (nx 4 Z ?_);refine bd h0 λ Wx h1 h0=>kN Wx (λ WY=>⟨[(4,.ptr 4 0),(5,.ptr 5 0),(7,.ptr 7 0),(8,.ptr 8 0)],[(4,bw),(5,cx),(7,(ao.cs r1.1).map .p),(8,(Iy WY))]⟩) ?_ ?_
   ·exact J0
   refine nx 7 Z (fB [30] h1 Z (λ c6 h1=>?_) λ c6 h1=>?_)
   ·refine nx 4 Z (bd h1 λ r7 e8 h1=>?_);refine mO Z (cVq [12] [101000] 102000 102001 (HO.c e8) Tryz.call40 Z ?_);exact ay
   exact ay
  exact J0
 ·refine λ Mr base_1=>hP good Tryz.func33 Z Z λ r h0 _ w0=>?_;rw [iv] at h0;refine nx 8 Z (bd h0 λ r1 e2 h0=>?_);refine oK (HP.c e2) Z ⟨sr,trivial⟩ Tryz.call25 Z (nx 14 Z ?_);refine fN [18] h0 Z (λ c3 h0=>?_) λ c3 h0=>?_
  ·have:=js [601];have:=jO 601 (List ac×Int×Int×Int×Int×Int×Bytes) λ v=>[(30,(fG v))]
   exact J0
  refine nx 2 Z (cc' h0 λ W7 h0=>?_);refine mG (gE (t:=⟨[(1,.p (eI base_1)),(4,.ptr 4 0),(5,.ptr 5 0),(7,.ptr 7 0)],[(4,bw),(5,cx),(7,(ao.cs r1.2).map .p)]⟩) Z Z) (mSq ⟨2,[8,9],(λ _=>.none),(λ _=>[(1,.p (eI base_1)),(4,.ptr 4 0),(5,.ptr 5 0),(7,.ptr 7 0)]),(ob3 ([(4,bw),(5,cx),(7,((ao.cs r1.2).map .p))]) (4,bw) (5,[.p (eI r1.2.Ar),.p (eI (base_1+r1.2.fAt)),.p (eS ([]:Bytes))]))⟩ Z ?_);refine dPc (.p (.agg o0)) Z (dPc (.ptr 7 0) Z ?_);refine dPc (.p (eI r1.2.Ar)) Z (dPc (.p (eI base_1)) Z ?_);refine dPc (.ptr 7 1) Z (dPc (.p (eI r1.2.fAt)) Z ?_);refine dO (.p (eI (base_1+r1.2.fAt))) [22,24] Z (λ _ sl Sk K hK=>ap Z (fY Z Z Z (Sk _ _ Z) (Sk _ _ Z) Z W7 hK)) (dPc (.p (.agg [eI r1.2.Ar,eI (base_1+r1.2.fAt),eS ([]:Bytes)])) Z ?_);exact J0
 ·refine λ Pn=>hO good [800000] [1000000] Tryz.func38 Z Z λ r h0 _ w0 F=>?_;rw [gm] at h0;refine nx 6 rfl ?_;obtain ⟨o85,h1,TC,hR0⟩:=br h0;refine kEx 0 (λ Xe:Bytes×Int×Int×Int×Bytes×(List ad)×Bool=>o85=.inl Xe) (λ Xe=>⟨[(2,.ptr 2 0)],[(2,cx),(1000000,[.p (eS Xe.1),.p (eI Xe.2.1),.p (eI Xe.2.2.1),.p (eI Xe.2.2.2.1),.p (eS Xe.2.2.2.2.1),.vec 900000 11 0 (Xe.2.2.2.2.2.1.map ak),.p (eB Xe.2.2.2.2.2.2)])]⟩) (λ Xe hv=>?_) ?_
  ·have h0:=TC _ hv;exact nx 7 Z Bz
  refine lG (λ (Vg:Bytes×Int×Int×Int×Bytes×(List ad)×Bool)=>⟨[(0,.ptr 1000000 0),(2,.ptr 2 0)],[(2,cx),(1000000,[.p (eS Vg.1),.p (eI Vg.2.1),.p (eI Vg.2.2.1),.p (eI Vg.2.2.2.1),.p (eS Vg.2.2.2.2.1),.vec 900000 11 0 (Vg.2.2.2.2.2.1.map ak),.p (eB Vg.2.2.2.2.2.2)])]⟩) (λ m (Vg:Bytes×Int×Int×Int×Bytes×(List ad)×Bool)=>bZ n (aM n) m Vg.1 Vg.2.1 Vg.2.2.1 Vg.2.2.2.1 Vg.2.2.2.2.1 Vg.2.2.2.2.2.1 Vg.2.2.2.2.2.2) Y (Pn.fs,Pn.fat,Pn.fi,Pn.D',Pn.F',Pn.BY,Pn.IN) h1 (gE rfl rfl) ?_;rintro m ⟨US,Vn,T8,UR,Vf,Vm,Vl⟩ h1;replace h1:bZ n (aM n) (m+1) US Vn T8 UR Vf Vm Vl=some o85:=h1;rw [bZ] at h1;refine nx 2 rfl (mD [(0,.ptr 1000000 0),(2,.ptr 2 0)] rfl ⟨rfl,rfl,trivial⟩ rfl ?_);refine dR 8 rfl (dq (.p (eI (US.length:Int))) [12] rfl (λ _ e _ q=>ap rfl (oM rfl rfl rfl rfl rfl (e _ _ rfl) q)) rfl ?_);refine dR 1 rfl (dE rfl ?_);refine nx 1 rfl (fD [14] h1 rfl (λ c42 h1=>?_) λ c42 h1=>?_)
  ·refine nx 9 Z (cc' h1 λ hk43 h1=>?_);refine mD [(0,.ptr 1000000 0),(2,.ptr 2 0),(3,.ptr 3 0)] Z ⟨Z,Z,Z,trivial⟩ Z (dR 8 Z ?_);refine dq (.p (eS (sub US T8 (US.length:Int)))) [18,22] Z (λ _ e _ q=>ap Z (fy (a:=US) (l:=T8) (h:=(US.length:Int)) Z Z Z Z Z (e _ _ Z) pE Z hk43 q)) Z (dR 1 Z ?_);refine dE Z (nx 1 Z ?_);refine bd h1 λ YI h2 h1=>kN YI (λ XZ=>⟨[(0,.ptr 1000000 0),(2,.ptr 2 0),(3,.ptr 3 0)],[(2,cx),(3,[.p (eI XZ.1),.p (eI XZ.2.1),.p (eS XZ.2.2.1)]),(1000000,[.p (eS XZ.2.2.2.1),.p (eI XZ.2.2.2.2.1),.p (eI XZ.2.2.2.2.2.1),.p (eI XZ.2.2.2.2.2.2.1),.p (eS XZ.2.2.2.2.2.2.2.1),.vec 106000 11 0 (XZ.2.2.2.2.2.2.2.2.1.map ak),.p (eB XZ.2.2.2.2.2.2.2.2.2)])]⟩) ?_ ?_
   ·refine nx 7 Z (fN [52] h1 Z (λ c68 h1=>?_) λ c68 h1=>?_)
    ·exact nx 2 Z (eX (YI.2.2.2.1,YI.2.2.2.2.1,YI.2.2.2.2.2.1,YI.2.2.2.2.2.2.1,YI.2.2.2.2.2.2.2.1,YI.2.2.2.2.2.2.2.2.1,YI.2.2.2.2.2.2.2.2.2) h1 (bj (ca 106000 900000 Z Z Z Z Z) (gE Z Z)))
    exact nx 7 Z (mQo (hR0 _ (oi h1).symm) (bj (ca 106000 800000 Z Z Z Z Z) (aU _)) Z Z Z Z (sr) ⟨⟨_,Z,⟨sr,sr,sr,sr,sr,sr,sr,trivial⟩⟩,trivial⟩)
   refine nx 4 Z (bd h2 λ Xg e45 h2=>?_);refine oK (dY (sub US T8 (US.length:Int)) ([36,36,123]:Bytes) _ e45) Z ⟨sr,sr,trivial⟩ Tryz.call75 Z (nx 2 Z ?_);refine fB [26,28] h2 Z (λ c46 h2=>?_) λ c46 h2=>?_
   ·refine nx 7 Z (oC h2 Z λ Yr h2=>?_);refine nx 10 Z (oA h2 Z Z λ Yq h2=>?_);refine nx 4 Z (mG (gE (t:=⟨[(0,.ptr 1000000 0),(2,.ptr 2 0),(3,.ptr 3 0)],[(2,cx),(3,cx),(1000000,[.p (eS US),.p (eI Vn),.p (eI (T8+3)),.p (eI UR),.p (eS (Vf++([36,123]:Bytes))),.vec 900000 11 0 (Vm.map ak),.p (eB Vl)])]⟩) Z Z) ?_);refine nx 2 Z (bd h2 λ Wb e50 h2=>?_);refine mO Z (cVq [1000000] [900000] 104000 104001 (HO.c e50) Tryz.call76 Z ?_);exact nx 2 Z (eX _ (oi h2).symm (bj (ca 104000 106000 Z Z Z Z Z) (gE Z Z)))
   refine nx 4 Z (bd h2 λ TR Zz h2=>?_);refine oK (dY (sub US T8 (US.length:Int)) ([36,123]:Bytes) _ Zz) Z ⟨sr,sr,trivial⟩ Tryz.call75 Z (nx 2 Z ?_);refine fB [45,47] h2 Z (λ c53 h2=>?_) λ c53 h2=>?_
   ·refine nx 3 Z (bd h2 λ UP e55 h2=>?_);refine mO Z (cVq [1000000] [900000] 105000 105001 (HO.c e55) Tryz.call77 Z ?_);exact nx 2 Z (eX _ (oi h2).symm (bj (ca 105000 106000 Z Z Z Z Z) (gE Z Z)))
   refine nx 3 Z (bd h2 λ Ux e57 h2=>?_);refine mO Z (cVq [1000000] [900000] 106000 106001 (HO.c e57) Tryz.call78 Z ?_);exact bV
  exact ay
 ·refine λ OF=>hO good [] [1000000] Tryz.func65 Z Z λ r h0 _ w0 F=>?_;rw [aC] at h0;refine nx 7 Z (bd h0 λ r1 e2 h0=>?_);refine mO Z (cVq [1000000] [] 101000 101000 (HO.c e2) Tryz.call100 Z ?_);refine nx 7 Z (bd h0 λ r3 e4 h0=>?_);refine mO Z (cVq [1000000] [] 102000 102000 (HO.c e4) Tryz.call101 Z ?_);refine nx 2 Z (fB [10] h0 Z (λ c5 h0=>?_) λ c5 h0=>?_)
  ·exact J0
  refine nx 5 Z (K0 λ r6 h0=>?_);refine nx 4 Z (K0 λ r8 h0=>?_);refine nx 6 Z (K0 λ Tp h0=>?_);refine nx 4 Z (bd h0 λ Tv ZO h0=>?_);refine mO Z (cVq [1000000] [] 106000 106000 (HO.c ZO) Tryz.call65 Z ?_);refine nx 8 Z (mO Z (aH ak [r1.1,r8.1,Tv.1] Z Z Z Z Z Z Z Z Z Z Z Z Z fo ?_));exact J0
 ·refine λ Pn=>hO good [800000] [1000000] Tryz.func77 Z Z λ r h0 _ w0 F=>?_;rw [aM] at h0;refine nx 7 Z (bd h0 λ r1 e2 h0=>?_);refine mO Z (cVq [1000000] [900000] 101000 101001 (HO.c e2) Tryz.call40 Z ?_);refine nx 9 Z (cc' h0 λ XJ h0=>?_);refine bd h0 λ r4 e5 h0=>mD [(0,.ptr 1000000 0),(2,.ptr 2 0)] Z ⟨Z,Z,trivial⟩ Z (dR 8 Z ?_);refine dq (.p (eI (r1.fi+2))) [18] Z (λ _ e _ q=>ap Z (fY Z Z Z (e _ _ Z) Z Z XJ q)) Z (dq (.p (eI r4)) [14,19] Z (λ _ e _ q=>ap Z (gG (HP.c e5) Z Z Z (aT (e _ _ Z) (aT (e _ _ Z) b9)) ⟨sr,sr,trivial⟩ Tryz.call124 Z q)) Z ?_);refine dR 1 Z (dE Z ?_);refine nx 7 Z (fD [22] h0 Z (λ c6 h0=>?_) λ c6 h0=>?_)
  ·refine nx 2 Z (cc' h0 λ WU h0=>?_);refine mG (gE (t:=⟨[(0,.ptr 1000000 0),(2,.ptr 2 0)],[(2,cx),(1000000,[.p (eS r1.fs),.p (eI r1.fat),.p (eI r1.fi),.p (eI r1.D'),.p (eS r1.F'),.vec 101000 11 0 (r1.BY.map ak),.p (eB true)])]⟩) Z Z) (mSq ⟨1,[10],(λ _=>.none),(λ _=>[(0,.ptr 1000000 0),(2,.ptr 2 0)]),(ob2 ([(2,cx),(1000000,[.p (eS r1.fs),.p (eI r1.fat),.p (eI r1.fi),.p (eI r1.D'),.p (eS r1.F'),.vec 101000 11 0 (r1.BY.map ak),.p (eB true)])]) (2,[.p (eI 40),.p (eI (r1.fat+r1.fi)),.p (eS ([]:Bytes))]))⟩ Z ?_);refine dPc (.ptr 1000000 0) Z (dPc (.ptr 1000000 0) Z ?_);refine dPc (.ptr 1000000 1) Z (dPc (.p (eI r1.fat)) Z ?_);refine dPc (.ptr 1000000 0) Z (dPc (.ptr 1000000 0) Z ?_);refine dPc (.ptr 1000000 2) Z (dPc (.p (eI r1.fi)) Z ?_);refine dO (.p (eI (r1.fat+r1.fi))) [26,30] Z (λ _ sl Sk K hK=>ap Z (fY Z Z Z (Sk _ _ Z) (Sk _ _ Z) Z WU hK)) (dPc (.p (.agg [eI 40,eI (r1.fat+r1.fi),eS ([]:Bytes)])) Z ?_);refine dS Z (fq ?_);exact nx 2 Z BA
  refine nx 3 Z (cc' h0 λ YN h0=>?_);refine cc' h0 λ YM h0=>cc' h0 λ VR h0=>cc' h0 λ Vv h0=>bd h0 λ Tv ZO h0=>mG (gE (t:=⟨[(0,.ptr 1000000 0),(2,.ptr 2 0),(3,.p (eI r4))],[(2,cx),(1000000,[.p (eS r1.fs),.p (eI r1.fat),.p (eI r1.fi),.p (eI r1.D'),.p (eS r1.F'),.vec 101000 11 0 (r1.BY.map ak),.p (eB true)])]⟩) Z Z) (mSS ⟨4,[25,26,27,28],(by5 (.some λ i=>Nat.beq i 4) (.some λ i=>Nat.beq i 5) .none .none .none),(λ _=>[(0,.ptr 1000000 0),(2,.ptr 2 0),(3,.p (eI r4))]),(ob5 ([(2,cx),(1000000,[.p (eS r1.fs),.p (eI r1.fat),.p (eI r1.fi),.p (eI r1.D'),.p (eS r1.F'),.vec 101000 11 0 (r1.BY.map ak),.p (eB true)])]) (4,bw) (5,cx) (4,((ad.cs Tv.1).map .p)) (5,((ao.cs Tv.2).map .p)))⟩ ⟨4,[26,25,27,28],(by5 (.some λ i=>Nat.beq i 5) (.some λ i=>Nat.beq i 4) .none .none .none),(λ _=>[(0,.ptr 1000000 0),(2,.ptr 2 0),(3,.p (eI r4))]),(ob5 ([(2,cx),(1000000,[.p (eS r1.fs),.p (eI r1.fat),.p (eI r1.fi),.p (eI r1.D'),.p (eS r1.F'),.vec 101000 11 0 (r1.BY.map ak),.p (eB true)])]) (5,cx) (4,bw) (4,((ad.cs Tv.1).map .p)) (5,((ao.cs Tv.2).map .p)))⟩ Z Z Z Z Z Z Z ⟨Z,Z,Z,trivial⟩ Z (lt4 ⟨Z,Z,Z,trivial⟩ ⟨Z,Z,Z,trivial⟩ ⟨Z,Z,Z,trivial⟩ ⟨Z,Z,Z,trivial⟩) (lt4 ⟨Z,Z,Z,trivial⟩ ⟨Z,Z,Z,trivial⟩ ⟨Z,Z,Z,trivial⟩ ⟨Z,Z,Z,trivial⟩) Z Z Z Z Z ?_);refine dPc (.ptr 1000000 0) Z (dPc (.ptr 1000000 0) Z ?_);refine dPc (.ptr 1000000 0) Z (dPc (.p (eS r1.fs)) Z ?_);refine dPc (.ptr 1000000 0) Z (dPc (.ptr 1000000 0) Z ?_);refine dPc (.ptr 1000000 2) Z (dPc (.p (eI r1.fi)) Z ?_);refine dO (.p (eI (r1.fi+2))) [41] Z (λ _ sl Sk K hK=>ap Z (fY Z Z Z (Sk _ _ Z) Z Z YN hK)) (dPc (.p (eI r4)) Z ?_);refine dO (.p (eS (sub r1.fs (r1.fi+2) r4))) [37,42,43] Z (λ _ sl Sk K hK=>ap Z (fy (a:=r1.fs) (l:=r1.fi+2) (h:=r4) Z Z Z Z Z (Sk _ _ Z) xQ wZ YM hK)) (dPc (.ptr 1000000 0) Z ?_);refine dPc (.ptr 1000000 0) Z (dPc (.ptr 1000000 1) Z ?_);refine dPc (.p (eI r1.fat)) Z (dPc (.ptr 1000000 0) Z ?_);refine dPc (.ptr 1000000 0) Z (dPc (.ptr 1000000 2) Z ?_);refine dPc (.p (eI r1.fi)) Z (dO (.p (eI (r1.fat+r1.fi))) [48,52] Z (λ _ sl Sk K hK=>ap Z (fY Z Z Z (Sk _ _ Z) (Sk _ _ Z) Z VR hK)) ?_);refine dO (.p (eI ((r1.fat+r1.fi)+2))) [53] Z (λ _ sl Sk K hK=>ap Z (fY Z Z Z (Sk _ _ Z) Z Z Vv hK)) (dO (.tuple [.p (.agg (ad.cs Tv.1)),.p (.agg (ao.cs Tv.2))]) [44,54] Z (λ _ sl Sk K hK=>ap Z (gG (HP.c ZO) Z Z Z (aT (Sk _ _ Z) (aT (Sk _ _ Z) b9)) ⟨sr,sr,trivial⟩ Tryz.call33 Z hK)) ?_);refine dPc (.tuple [.p (.agg (ad.cs Tv.1)),.p (.agg (ao.cs Tv.2))]) Z (dPc (.p (.agg (ad.cs Tv.1))) Z ?_);refine dPc (.p (.agg (ao.cs Tv.2))) Z (dI (λ _=>.ptr 4 0) [] Z (λ sl Sk K hK=>ap Z (iQ Z Z Z Z Z hK)) ?_);refine dI (λ _=>.ptr 5 0) [] Z (λ sl Sk K hK=>ap Z (iQ Z Z Z Z Z hK)) (dS Z ?_);refine dS Z (Cc (dPc (.ptr 1000000 0) Z (dPc (.ptr 1000000 0) Z (dPc (.ptr 1000000 0) Z (dPc (.p (eS r1.fs)) Z (dPc (.ptr 1000000 0) Z (dPc (.ptr 1000000 0) Z (dPc (.ptr 1000000 2) Z (dPc (.p (eI r1.fi)) Z (dO (.p (eI (r1.fi+2))) [41] Z (λ _ sl Sk K hK=>ap Z (fY Z Z Z (Sk _ _ Z) Z Z YN hK)) (dPc (.p (eI r4)) Z (dO (.p (eS (sub r1.fs (r1.fi+2) r4))) [37,42,43] Z (λ _ sl Sk K hK=>ap Z (fy (a:=r1.fs) (l:=r1.fi+2) (h:=r4) Z Z Z Z Z (Sk _ _ Z) xQ wZ YM hK)) (dPc (.ptr 1000000 0) Z (dPc (.ptr 1000000 0) Z (dPc (.ptr 1000000 1) Z (dPc (.p (eI r1.fat)) Z (dPc (.ptr 1000000 0) Z (dPc (.ptr 1000000 0) Z (dPc (.ptr 1000000 2) Z (dPc (.p (eI r1.fi)) Z (dO (.p (eI (r1.fat+r1.fi))) [48,52] Z (λ _ sl Sk K hK=>ap Z (fY Z Z Z (Sk _ _ Z) (Sk _ _ Z) Z VR hK)) (dO (.p (eI ((r1.fat+r1.fi)+2))) [53] Z (λ _ sl Sk K hK=>ap Z (fY Z Z Z (Sk _ _ Z) Z Z Vv hK)) (dO (.tuple [.p (.agg (ad.cs Tv.1)),.p (.agg (ao.cs Tv.2))]) [44,54] Z (λ _ sl Sk K hK=>ap Z (gG (HP.c ZO) Z Z Z (aT (Sk _ _ Z) (aT (Sk _ _ Z) b9)) ⟨sr,sr,trivial⟩ Tryz.call33 Z hK)) (dPc (.tuple [.p (.agg (ad.cs Tv.1)),.p (.agg (ao.cs Tv.2))]) Z (dPc (.p (.agg (ad.cs Tv.1))) Z (dPc (.p (.agg (ao.cs Tv.2))) Z (dI (λ _=>.ptr 4 0) [] Z (λ sl Sk K hK=>ap Z (iQ Z Z Z Z Z hK)) (dI (λ _=>.ptr 5 0) [] Z (λ sl Sk K hK=>ap Z (iQ Z Z Z Z Z hK)) (dS Z (dS Z (OI Z ⟨Z,Z,Z,Z,Z,Z,trivial⟩ ⟨⟨Z,Z,.inl Z⟩,⟨⟨Z,Z,.inl Z⟩,⟨⟨Z,Z,.inr Z⟩,⟨⟨Z,Z,.inr Z⟩,⟨⟨Z,Z,.inr Z⟩,⟨⟨Z,Z,.inr Z⟩,⟨⟨Z,Z,.inr Z⟩,⟨⟨Z,Z,.inr Z⟩,⟨⟨Z,Z,.inr Z⟩,⟨⟨Z,Z,.inr Z⟩,⟨⟨Z,Z,.inr Z⟩,⟨⟨Z,Z,.inr Z⟩,⟨⟨Z,Z,.inr Z⟩,⟨⟨Z,Z,.inr Z⟩,⟨⟨Z,Z,.inr Z⟩,⟨⟨Z,Z,.inr Z⟩,⟨⟨Z,Z,.inr Z⟩,⟨⟨Z,Z,.inr Z⟩,⟨⟨Z,Z,.inr Z⟩,⟨⟨Z,Z,.inr Z⟩,⟨⟨Z,Z,.inr Z⟩,⟨⟨Z,Z,.inr Z⟩,⟨⟨Z,Z,.inr Z⟩,⟨⟨Z,Z,.inr Z⟩,⟨⟨Z,Z,.inr Z⟩,⟨⟨Z,Z,.inr Z⟩,⟨⟨Z,Z,.inr Z⟩,trivial⟩⟩⟩⟩⟩⟩⟩⟩⟩⟩⟩⟩⟩⟩⟩⟩⟩⟩⟩⟩⟩⟩⟩⟩⟩⟩⟩)))))))))))))))))))))))))))))) ?_);refine nx 1 Z (mG (gE (t:=⟨[(0,.ptr 1000000 0),(2,.ptr 2 0),(3,.p (eI r4)),(4,.ptr 4 0),(5,.ptr 5 0)],[(2,cx),(4,(ad.cs Tv.1).map .p),(5,(ao.cs Tv.2).map .p),(1000000,[.p (eS r1.fs),.p (eI r1.fat),.p (eI r1.fi),.p (eI r1.D'),.p (eS r1.F'),.vec 101000 11 0 (r1.BY.map ak),.p (eB true)])]⟩) Z Z) ?_);refine nx 7 Z (fN [60] h0 Z (λ Xc h0=>?_) λ Xc h0=>?_)
  ·refine nx 3 Z (cc' h0 λ U6 h0=>?_);refine mG (gE (t:=⟨[(0,.ptr 1000000 0),(2,.ptr 2 0),(3,.p (eI r4)),(4,.ptr 4 0)],[(2,cx),(4,(ad.cs Tv.1).map .p),(1000000,[.p (eS r1.fs),.p (eI r1.fat),.p (eI r1.fi),.p (eI r1.D'),.p (eS r1.F'),.vec 101000 11 0 (r1.BY.map ak),.p (eB true)])]⟩) Z Z) (mSP ⟨3,[7,9,12],(by4 (.some λ i=>Nat.beq i 101000||Nat.beq i 69) (.fn (upP 69 11 (.agg (ad.cs Tv.1)))) .none .none),(λ _=>[(0,.ptr 1000000 0),(2,.ptr 2 0),(3,.p (eI r4)),(4,.ptr 4 0)]),(by4 ([(2,cx),(4,((ad.cs Tv.1).map .p)),(1000000,[.p (eS r1.fs),.p (eI r1.fat),.p (eI r1.fi),.p (eI r1.D'),.p (eS r1.F'),.vec 101000 11 0 (r1.BY.map ak),.p (eB true)])]) ([(2,cx),(4,((ad.cs Tv.1).map .p)),(1000000,[.p (eS r1.fs),.p (eI r1.fat),.p (eI r1.fi),.p (eI r1.D'),.p (eS r1.F'),.p (eL ak r1.BY),.p (eB true)])]) ([(2,cx),(4,((ad.cs Tv.1).map .p)),(1000000,[.p (eS r1.fs),.p (eI r1.fat),.p (eI r1.fi),.p (eI r1.D'),.p (eS r1.F'),.p (eL ak r1.BY),.p (eB true)])]) ([(1000000,[.p (eS r1.fs),.p (eI r1.fat),.p (eI r1.fi),.p (eI r1.D'),.p (eS r1.F'),.vec 69 11 0 (r1.BY.map ak++[.agg (ad.cs Tv.1)]),.p (eB true)]),(2,cx),(4,((ad.cs Tv.1).map .p)),(1000000,[.p (eS r1.fs),.p (eI r1.fat),.p (eI r1.fi),.p (eI r1.D'),.p (eS r1.F'),.p (eL ak r1.BY),.p (eB true)])]))⟩ ⟨3,[7,12,9],(by4 (.some λ i=>Nat.beq i 101000||Nat.beq i 69) .none (.fn (upP 69 11 (.agg (ad.cs Tv.1)))) .none),(λ _=>[(0,.ptr 1000000 0),(2,.ptr 2 0),(3,.p (eI r4)),(4,.ptr 4 0)]),(by4 ([(2,cx),(4,((ad.cs Tv.1).map .p)),(1000000,[.p (eS r1.fs),.p (eI r1.fat),.p (eI r1.fi),.p (eI r1.D'),.p (eS r1.F'),.vec 101000 11 0 (r1.BY.map ak),.p (eB true)])]) ([(2,cx),(4,((ad.cs Tv.1).map .p)),(1000000,[.p (eS r1.fs),.p (eI r1.fat),.p (eI r1.fi),.p (eI r1.D'),.p (eS r1.F'),.p (eL ak r1.BY),.p (eB true)])]) ([(1000000,[.p (eS r1.fs),.p (eI r1.fat),.p (eI r1.fi),.p (eI r1.D'),.p (eS r1.F'),.vecp 69 11 0 (r1.BY.map ak),.p (eB true)]),(2,cx),(4,((ad.cs Tv.1).map .p)),(1000000,[.p (eS r1.fs),.p (eI r1.fat),.p (eI r1.fi),.p (eI r1.D'),.p (eS r1.F'),.p (eL ak r1.BY),.p (eB true)])]) ([(1000000,[.p (eS r1.fs),.p (eI r1.fat),.p (eI r1.fi),.p (eI r1.D'),.p (eS r1.F'),.vec 69 11 0 (r1.BY.map ak++[.agg (ad.cs Tv.1)]),.p (eB true)]),(2,cx),(4,((ad.cs Tv.1).map .p)),(1000000,[.p (eS r1.fs),.p (eI r1.fat),.p (eI r1.fi),.p (eI r1.D'),.p (eS r1.F'),.p (eL ak r1.BY),.p (eB true)])]))⟩ Z Z Z Z Z Z Z ⟨Z,Z,Z,Z,trivial⟩ Z (lt3 ⟨Z,Z,Z,Z,trivial⟩ ⟨Z,Z,Z,Z,trivial⟩ ⟨Z,Z,Z,Z,trivial⟩) (lt3 ⟨Z,Z,Z,Z,trivial⟩ ⟨Z,Z,Z,Z,trivial⟩ ⟨Z,Z,Z,Z,trivial⟩) Z Z Z Z Z ?_);refine dPc (.ptr 1000000 0) Z (dPc (.ptr 1000000 0) Z ?_);refine dPc (.ptr 1000000 5) Z (dP (by4 (.vec 101000 11 0 (r1.BY.map ak)) (.p (eL ak r1.BY)) (.p (eL ak r1.BY)) (.p (eL ak r1.BY))) Z ?_);refine dPc (.p (.agg (ad.cs Tv.1))) Z (dO (.p (eI (r1.BY.length:Int))) [65] Z (λ _ sl Sk K hK=>ap Z (mV (f:=ak) (l:=r1.BY) Z Z Z Z Z (Sk _ _ Z) Z hK)) ?_);refine dO (.p (eL (λ x:PV=>x) [.agg o0])) [] Z (λ _ sl Sk K hK=>ap Z (aH (λ x:PV=>x) [.agg o0] Z Z Z Z Z Z (cP Z Z dW) Z Z Z Z Z Z Z hK)) (dI (by4 (.vecp 69 11 0 (r1.BY.map ak)) (.vecp 69 11 0 (r1.BY.map ak)) (.vec 69 11 0 (r1.BY.map ak++[.agg (ad.cs Tv.1)])) (.vec 69 11 0 (r1.BY.map ak++[.agg (ad.cs Tv.1)]))) [65,68] Z (λ sl Sk K hK=>ap Z (qZ ak r1.BY Z Z Z Z Z Z Z Z (Sk _ _ Z) Z Z (Sk _ _ Z) Z Z Z Z Z U6 hK)) ?_);refine q9 (by4 (.elp 69 11) (.elp 69 11) .undef .undef) Z Z Z (Nk Z Z Z Y) (lt3 (nl Z) Y Y) (jR Z (jR Z (kI [(67,_),(69,_)] ⟨.inr ⟨5,_,Z,Z,Z⟩,.inr ⟨7,_,Z,Z,Z⟩,trivial⟩ (λ sl Sk K hK=>ap Z (pQ Z Z Z Z Z Z Z (Sk _ _ Z) (Sk _ _ Z) rL hK)) (jR Z mM)))) (lj [(66,_),(70,_)] Z ⟨.inr ⟨4,_,Z,Z,Z⟩,.inr ⟨8,_,Z,Z,Z⟩,trivial⟩ Z (λ sl Sk K hK=>ap Z (wM (z:=.agg (ad.cs Tv.1)) Z Z Z Z (Sk _ _ Z) (Sk _ _ Z) Z Z Z Z Z hK)) ?_);refine dPc (.ptr 1000000 0) Z (dPc (.ptr 1000000 5) Z ?_);refine dS Z (Cc (dPc (.ptr 1000000 0) Z (dPc (.ptr 1000000 0) Z (dPc (.ptr 1000000 5) Z (dP (by4 (.vec 101000 11 0 (r1.BY.map ak)) (.p (eL ak r1.BY)) (.p (eL ak r1.BY)) (.p (eL ak r1.BY))) Z (dPc (.p (.agg (ad.cs Tv.1))) Z (dO (.p (eI (r1.BY.length:Int))) [65] Z (λ _ sl Sk K hK=>ap Z (mV (f:=ak) (l:=r1.BY) Z Z Z Z Z (Sk _ _ Z) Z hK)) (dO (.p (eL (λ x:PV=>x) [.agg o0])) [] Z (λ _ sl Sk K hK=>ap Z (aH (λ x:PV=>x) [.agg o0] Z Z Z Z Z Z (cP Z Z dW) Z Z Z Z Z Z Z hK)) (dI (by4 (.vecp 69 11 0 (r1.BY.map ak)) (.vecp 69 11 0 (r1.BY.map ak)) (.vecp 69 11 0 (r1.BY.map ak)) (.vec 69 11 0 (r1.BY.map ak++[.agg (ad.cs Tv.1)]))) [65,68] Z (λ sl Sk K hK=>ap Z (qZ ak r1.BY Z Z Z Z Z Z Z Z (Sk _ _ Z) Z Z (Sk _ _ Z) Z Z Z Z Z U6 hK)) (q9 (by4 (.elp 69 11) (.elp 69 11) (.elp 69 11) .undef) Z Z Z (Nk Z Z Z Y) (lt3 (nl Z) Y Y) (jR Z (kI [(67,_),(69,_)] ⟨.inr ⟨5,_,Z,Z,Z⟩,.inr ⟨7,_,Z,Z,Z⟩,trivial⟩ (λ sl Sk K hK=>ap Z (pQ Z Z Z Z Z Z Z (Sk _ _ Z) (Sk _ _ Z) rL hK)) (kI [(67,_),(69,_)] ⟨.inr ⟨5,_,Z,Z,Z⟩,.inr ⟨7,_,Z,Z,Z⟩,trivial⟩ (λ sl Sk K hK=>ap Z (pQ Z Z Z Z Z Z Z (Sk _ _ Z) (Sk _ _ Z) rL hK)) (jR Z mM)))) (lj [(66,_),(70,_)] Z ⟨.inr ⟨4,_,Z,Z,Z⟩,.inr ⟨8,_,Z,Z,Z⟩,trivial⟩ Z (λ sl Sk K hK=>ap Z (wM (z:=.agg (ad.cs Tv.1)) Z Z Z Z (Sk _ _ Z) (Sk _ _ Z) Z Z Z Z Z hK)) (dPc (.ptr 1000000 0) Z (dPc (.ptr 1000000 5) Z (dS Z (Da Z ⟨Z,Z,Z,Z,trivial⟩ ⟨⟨Z,Z,.inr Z⟩,⟨⟨Z,Z,.inr Z⟩,⟨⟨Z,Z,.inr Z⟩,⟨⟨Z,Z,.inr Z⟩,⟨⟨Z,Z,.inr Z⟩,⟨⟨Z,Z,.inr Z⟩,⟨⟨Z,Z,.inr Z⟩,⟨⟨Z,Z,.inr Z⟩,⟨⟨Z,Z,.inr Z⟩,⟨⟨Z,Z,.inr Z⟩,⟨⟨Z,Z,.inr Z⟩,trivial⟩⟩⟩⟩⟩⟩⟩⟩⟩⟩⟩)))))))))))))) ?_);refine mG (dX (t:=⟨[(0,.ptr 1000000 0),(2,.ptr 2 0),(3,.p (eI r4))],[(2,cx),(1000000,[.p (eS r1.fs),.p (eI r1.fat),.p (eI r1.fi),.p (eI r1.D'),.p (eS r1.F'),.vec 69 11 0 ((r1.BY++[Tv.1]).map ak),.p (eB true)])]⟩) (lq ⟨er Z,er Z,er Z,trivial⟩ ⟨⟨_,Z,⟨sr,sr,sr,trivial⟩⟩,⟨_,Z,⟨sr,sr,sr,sr,sr,AV.sub_of_eq Im,sr,trivial⟩⟩,trivial⟩)) (nx 5 Z ?_);exact oA h0 Z Z λ UN h0=>nx 21 Z (mQo (oi h0) (bj (ca 69 800000 Z Z Z Z Z) (aU _)) Z Z Z Z (sr) ⟨⟨_,Z,⟨sr,sr,sr,sr,sr,sr,sr,trivial⟩⟩,trivial⟩)
  exact nx 7 Z BA
 ·refine λ OF O'=>hO good [] [1000000] Tryz.func100 Z Z λ r h0 _ w0 F=>?_;rw [a6] at h0;refine nx 10 Z (fD [10] h0 Z (λ c1 h0=>?_) λ c1 h0=>?_)
  ·exact J0
  refine nx 6 rfl (oA h0 Z Z λ W7 h0=>?_);refine bd h0 λ r5 e6 h0=>mO rfl (cVq [1000000] [] 102000 102000 (HO.c e6) Tryz.call100 rfl ?_);refine nx 4 rfl ?_;obtain ⟨o90,h1,TC,hR0⟩:=br h0;refine kEx 0 (λ v91:(List ac)×Int×Int×Int×Int×Int×Bytes=>o90=.inl v91) (λ v91=>⟨[],[(1000000,(fG v91))]⟩) (λ v91 hv=>?_) ?_
  ·exact Ag
  refine lG (λ (UH:Int×Int×Bytes×Bytes×Int×Int×Bytes×(List am)×(List Bytes)×(List ad)×(List ac)×Int×Int×Int×Int×Int×Bytes)=>⟨[(0,.ptr 1000000 0),(1,.p (eI O')),(4,.ptr 4 0),(5,.ptr 5 0)],[(4,bw),(5,[.p (eI UH.1),.p (eI UH.2.1),.p (eS UH.2.2.1),.p (eS UH.2.2.2.1),.p (eI UH.2.2.2.2.1),.p (eI UH.2.2.2.2.2.1),.p (eS UH.2.2.2.2.2.2.1),.p (eL cY UH.2.2.2.2.2.2.2.1),.p (eL eS UH.2.2.2.2.2.2.2.2.1),.p (eL ak UH.2.2.2.2.2.2.2.2.2.1),.p (eI r5.1.fAt)]),(1000000,(fG UH.2.2.2.2.2.2.2.2.2.2))]⟩) (λ m (UH:Int×Int×Bytes×Bytes×Int×Int×Bytes×(List am)×(List Bytes)×(List ad)×(List ac)×Int×Int×Int×Int×Int×Bytes)=>bS n (a6 n) O' r5 m UH.1 UH.2.1 UH.2.2.1 UH.2.2.2.1 UH.2.2.2.2.1 UH.2.2.2.2.2.1 UH.2.2.2.2.2.2.1 UH.2.2.2.2.2.2.2.1 UH.2.2.2.2.2.2.2.2.1 UH.2.2.2.2.2.2.2.2.2.1 UH.2.2.2.2.2.2.2.2.2.2.1 UH.2.2.2.2.2.2.2.2.2.2.2.1 UH.2.2.2.2.2.2.2.2.2.2.2.2.1 UH.2.2.2.2.2.2.2.2.2.2.2.2.2.1 UH.2.2.2.2.2.2.2.2.2.2.2.2.2.2.1 UH.2.2.2.2.2.2.2.2.2.2.2.2.2.2.2.1 UH.2.2.2.2.2.2.2.2.2.2.2.2.2.2.2.2) Y (r5.1.Ar,r5.1.fOp,r5.1.AI,r5.1.Gw,r5.1.A'.Ar,r5.1.A'.E',r5.1.A'.If,r5.1.A'.Df,r5.1.A'.C',r5.1.By,r5.2.fl,r5.2.fat,r5.2.H',r5.2.G',r5.2.AT.Ar,r5.2.AT.fAt,r5.2.AT.AI) h1 (gE rfl rfl) ?_;rintro m ⟨Vn,T8,UR,Vf,Vm,Vl,Vk,Vj,VI,VH,XS,XR,WO,WN,WM,Vw,VT⟩ h1;replace h1:bS n (a6 n) O' r5 (m+1) Vn T8 UR Vf Vm Vl Vk Vj VI VH XS XR WO WN WM Vw VT=some o90:=h1;rw [bS] at h1;refine nx 5 rfl (bd h1 λ X3 e54 h1=>?_);refine oK (HP.c e54) rfl ⟨sr,trivial⟩ Tryz.call141 rfl (K1 λ TD h1=>?_);refine nx 12 rfl (fB [25] h1 rfl (λ c57 h1=>?_) λ c57 h1=>?_)
  ·exact ay
  refine nx 5 Z (bd h1 λ TX e59 h1=>?_);refine mO Z (cVq [1000000] [] 107000 107000 (HO.c e59) Tryz.call102 Z ?_);refine nx 5 Z (oA h1 Z Z λ XG h1=>?_);refine bd h1 λ TQ e62 h1=>mO Z (cVq [1000000] [] 108000 108000 (HO.c e62) Tryz.call100 Z ?_);refine nx 3 Z (bd h1 λ Va e64 h1=>?_);refine mG (gE (t:=⟨[(0,.ptr 1000000 0),(1,.p (eI O')),(4,.ptr 4 0),(5,.ptr 5 0),(6,.p (eS TD.1)),(8,.ptr 8 0)],[(4,bw),(5,[.p (eI Vn),.p (eI T8),.p (eS UR),.p (eS Vf),.p (eI Vm),.p (eI Vl),.p (eS Vk),.p (eL cY Vj),.p (eL eS VI),.p (eL ak VH),.p (eI r5.1.fAt)]),(8,(ad.cs TQ.1).map .p),(1000000,(al.cs TQ.2).map .p)]⟩) Z Z) (mSq ⟨1,[8],(λ _=>.none),(λ _=>[(0,.ptr 1000000 0),(1,.p (eI O')),(4,.ptr 4 0),(5,.ptr 5 0),(6,.p (eS TD.1)),(8,.ptr 8 0)]),(ob2 ([(4,bw),(5,[.p (eI Vn),.p (eI T8),.p (eS UR),.p (eS Vf),.p (eI Vm),.p (eI Vl),.p (eS Vk),.p (eL cY Vj),.p (eL eS VI),.p (eL ak VH),.p (eI r5.1.fAt)]),(8,((ad.cs TQ.1).map .p)),(1000000,((al.cs TQ.2).map .p))]) (5,[.p (eI 7),.p (eI Va),.p (eS ([]:Bytes)),.p (eS ([]:Bytes)),.p (eI 0),.p (eI 0),.p (eS ([]:Bytes)),.p (.val (.slice none 0 0)),.p (.val (.slice none 0 0)),.p (eL ak [(ad.mk Vn T8 UR Vf (am.mk Vm Vl Vk Vj VI) VH r5.1.fAt),TQ.1]),.p (eI r5.1.fAt)]))⟩ Z ?_);refine dPc (.p (eS TD.1)) Z (dO (.p (eI Va)) [33] Z (λ _ sl Sk K hK=>ap Z (gG (HP.c e64) Z Z Z (aT (Sk _ _ Z) b9) ⟨sr,trivial⟩ Tryz.call142 Z hK)) ?_);refine dPc (.p (.agg [eI Vn,eI T8,eS UR,eS Vf,eI Vm,eI Vl,eS Vk,eL cY Vj,eL eS VI,eL ak VH,eI r5.1.fAt])) Z (dPc (.p (.agg (ad.cs TQ.1))) Z ?_);refine dO (.p (eL ak [(ad.mk Vn T8 UR Vf (am.mk Vm Vl Vk Vj VI) VH r5.1.fAt),TQ.1])) [35,36] Z (λ _ sl Sk K hK=>ap Z (aH ak [(ad.mk Vn T8 UR Vf (am.mk Vm Vl Vk Vj VI) VH r5.1.fAt),TQ.1] Z Z Z Z Z Z (cP (Sk _ _ Z) Z (cP (Sk _ _ Z) Z dW)) Z Z Z Z Z Z fo hK)) (dPc (.ptr 5 10) Z ?_);refine dPc (.p (eI r5.1.fAt)) Z (dPc (.p (.agg [eI 7,eI Va,eS ([]:Bytes),eS ([]:Bytes),eI 0,eI 0,eS ([]:Bytes),.val (.slice none 0 0),.val (.slice none 0 0),eL ak [(ad.mk Vn T8 UR Vf (am.mk Vm Vl Vk Vj VI) VH r5.1.fAt),TQ.1],eI r5.1.fAt])) Z ?_);refine dS Z (fq ?_);exact nx 1 Z (eX (7,Va,([]:Bytes),([]:Bytes),0,0,([]:Bytes),[],[],[(ad.mk Vn T8 UR Vf (am.mk Vm Vl Vk Vj VI) VH r5.1.fAt),TQ.1],TQ.2.fl,TQ.2.fat,TQ.2.H',TQ.2.G',TQ.2.AT.Ar,TQ.2.AT.fAt,TQ.2.AT.AI) h1 (dX (lq ⟨er Z,er Z,er Z,er Z,trivial⟩ ⟨⟨_,Z,⟨sr,sr,sr,sr,sr,sr,sr,sr,sr,sr,sr,trivial⟩⟩,⟨_,Z,⟨sr,sr,sr,sr,sr,sr,sr,iL _,iL _,sr,sr,trivial⟩⟩,⟨_,Z,⟨sr,sr,sr,sr,sr,sr,sr,trivial⟩⟩,trivial⟩)))
 ·refine λ OF=>hO good [] [1000000] Tryz.func139 Z Z λ r h0 _ w0 F=>?_;rw [cS] at h0;refine nx 9 Z (bd h0 λ Wx h1 h0=>?_);refine kN Wx (λ WY=>⟨[(0,.ptr 1000000 0),(2,.ptr 2 0),(3,.p (eI WY.1))],[(2,bw),(1000000,(fG WY.2))]⟩) ?_ ?_
  ·refine nx 7 Z (fD [10] h0 Z (λ XX h0=>?_) λ XX h0=>?_)
   ·exact J0
   refine nx 5 Z (K0 λ Ud h0=>?_);refine nx 4 Z (bd h0 λ T7 e21 h0=>?_);refine mG (gE (t:=⟨[(0,.ptr 1000000 0),(2,.ptr 2 0),(3,.p (eI Wx.1)),(4,.ptr 4 0)],[(2,bw),(4,(ac.cs Ud.1).map .p),(1000000,(al.cs Ud.2).map .p)]⟩) Z Z) (mSq ⟨2,[2,7],(by3 (.some (cj [] 105000 105000)) .none .none),(λ _=>[(0,.ptr 1000000 0),(2,.ptr 2 0),(3,.p (eI Wx.1)),(4,.ptr 4 0)]),(by3 ([(2,bw),(4,((ac.cs Ud.1).map .p)),(1000000,((al.cs Ud.2).map .p))]) ([(1000000,((al.cs T7.2).map .p)),(2,bw),(4,((ac.cs Ud.1).map .p))]) ([(2,[.p (eI 6),.p (eI Wx.1),.p (eS ([]:Bytes)),.p (eS ([]:Bytes)),.p (eI 0),.p (eI 0),.p (eS ([]:Bytes)),.p (.val (.slice none 0 0)),.p (.val (.slice none 0 0)),.p (eL ak [T7.1]),.p (eI Ud.1.fAt)]),(1000000,((al.cs T7.2).map .p)),(2,bw),(4,((ac.cs Ud.1).map .p))]))⟩ Z ?_);refine dPc (.p (eI Wx.1)) Z (dPc (.ptr 1000000 0) Z ?_);refine dI (λ _=>.p (.agg (ad.cs T7.1))) [16] Z (λ sl Sk K hK=>ap Z (aY [1000000] [] 105000 105000 (HO.c e21) Z Z Z (aT (Sk _ _ Z) b9) Z ⟨sr,trivial⟩ Z Z ⟨⟨_,Z,⟨sr,sr,sr,sr,sr,sr,sr,trivial⟩⟩,trivial⟩ Z Z Z Z Z Z Z Z Tryz.call139 Z Z hK)) (dO (.p (eL ak [T7.1])) [17] Z (λ _ sl Sk K hK=>ap Z (aH ak [T7.1] Z Z Z Z Z Z (cP (Sk _ _ Z) Z dW) Z Z Z Z Z Z fo hK)) ?_);refine dPc (.ptr 4 2) Z (dPc (.p (eI Ud.1.fAt)) Z ?_);refine dPc (.p (.agg [eI 6,eI Wx.1,eS ([]:Bytes),eS ([]:Bytes),eI 0,eI 0,eS ([]:Bytes),.val (.slice none 0 0),.val (.slice none 0 0),eL ak [T7.1],eI Ud.1.fAt])) Z (dS Z ?_);refine fq (nx 2 Z ?_);exact J0
  exact ay
 ·refine λ OF=>hO good [] [1000000] Tryz.func166 Z Z λ r h0 _ w0 F=>?_;rw [dv] at h0;refine nx 7 rfl (bd h0 λ r1 e2 h0=>?_);refine mO rfl (cVq [1000000] [] 101000 101000 (HO.c e2) Tryz.call184 rfl ?_);refine nx 4 rfl ?_;obtain ⟨aae,h1,TC,hR0⟩:=br h0;refine kEx 0 (λ Yb:(List ac)×Int×Int×Int×Int×Int×Bytes=>aae=.inl Yb) (λ Yb=>⟨[],[(1000000,(fG Yb))]⟩) (λ Yb hv=>?_) ?_
  ·exact Ag
  refine lG (λ (TG:Int×Int×Bytes×Bytes×Int×Int×Bytes×(List am)×(List Bytes)×(List ad)×(List ac)×Int×Int×Int×Int×Int×Bytes)=>⟨[(0,.ptr 1000000 0),(2,.ptr 2 0),(3,.ptr 3 0)],[(2,bw),(3,[.p (eI TG.1),.p (eI TG.2.1),.p (eS TG.2.2.1),.p (eS TG.2.2.2.1),.p (eI TG.2.2.2.2.1),.p (eI TG.2.2.2.2.2.1),.p (eS TG.2.2.2.2.2.2.1),.p (eL cY TG.2.2.2.2.2.2.2.1),.p (eL eS TG.2.2.2.2.2.2.2.2.1),.p (eL ak TG.2.2.2.2.2.2.2.2.2.1),.p (eI r1.1.fAt)]),(1000000,(fG TG.2.2.2.2.2.2.2.2.2.2))]⟩) (λ m (TG:Int×Int×Bytes×Bytes×Int×Int×Bytes×(List am)×(List Bytes)×(List ad)×(List ac)×Int×Int×Int×Int×Int×Bytes)=>bM n (aC n) r1 m TG.1 TG.2.1 TG.2.2.1 TG.2.2.2.1 TG.2.2.2.2.1 TG.2.2.2.2.2.1 TG.2.2.2.2.2.2.1 TG.2.2.2.2.2.2.2.1 TG.2.2.2.2.2.2.2.2.1 TG.2.2.2.2.2.2.2.2.2.1 TG.2.2.2.2.2.2.2.2.2.2.1 TG.2.2.2.2.2.2.2.2.2.2.2.1 TG.2.2.2.2.2.2.2.2.2.2.2.2.1 TG.2.2.2.2.2.2.2.2.2.2.2.2.2.1 TG.2.2.2.2.2.2.2.2.2.2.2.2.2.2.1 TG.2.2.2.2.2.2.2.2.2.2.2.2.2.2.2.1 TG.2.2.2.2.2.2.2.2.2.2.2.2.2.2.2.2) Y (r1.1.Ar,r1.1.fOp,r1.1.AI,r1.1.Gw,r1.1.A'.Ar,r1.1.A'.E',r1.1.A'.If,r1.1.A'.Df,r1.1.A'.C',r1.1.By,r1.2.fl,r1.2.fat,r1.2.H',r1.2.G',r1.2.AT.Ar,r1.2.AT.fAt,r1.2.AT.AI) h1 (gE rfl rfl) ?_;rintro m ⟨Vw,VT,WL,XQ,XP,XO,XN,Zy,Zx,VS,WK,WJ,WI,WH,WG,WF,WE⟩ h1;replace h1:bM n (aC n) r1 (m+1) Vw VT WL XQ XP XO XN Zy Zx VS WK WJ WI WH WG WF WE=some aae:=h1;rw [bM] at h1;refine nx 1 rfl ?_;obtain ⟨o128,h2,hL1,hR1⟩:=br h1;refine kX (λ T':Int×Bytes×(List ad)×(List ac)×Int×Int×Int×Int×Int×Bytes=>o128=.inl T') (λ T'=>⟨[(0,.ptr 1000000 0),(2,.ptr 2 0),(3,.ptr 3 0)],[(2,bw),(3,[.p (eI T'.1),.p (eI 0),.p (eS T'.2.1),.p (eS ([]:Bytes)),.p (eI 0),.p (eI 0),.p (eS ([]:Bytes)),.p (.val (.slice none 0 0)),.p (.val (.slice none 0 0)),.p (eL ak T'.2.2.1),.p (eI r1.1.fAt)]),(1000000,(fG T'.2.2.2))]⟩) (λ T' hv=>?_) ?_
  ·have h1:=hL1 _ hv;exact nx 1 Z (eX (T'.1,0,T'.2.1,([]:Bytes),0,0,([]:Bytes),[],[],T'.2.2.1,T'.2.2.2.1,T'.2.2.2.2.1,T'.2.2.2.2.2.1,T'.2.2.2.2.2.2.1,T'.2.2.2.2.2.2.2.1,T'.2.2.2.2.2.2.2.2.1,T'.2.2.2.2.2.2.2.2.2) h1 (dX (lq ⟨er Z,er Z,er Z,trivial⟩ ⟨⟨_,Z,⟨sr,sr,sr,sr,sr,sr,sr,sr,sr,sr,sr,trivial⟩⟩,⟨_,Z,⟨sr,sr,sr,sr,sr,sr,sr,iL _,iL _,sr,sr,trivial⟩⟩,⟨_,Z,⟨sr,sr,sr,sr,sr,sr,sr,trivial⟩⟩,trivial⟩)))
  refine nx 4 Z (K2 λ r68 h2=>?_);refine nx 2 Z (fB [9,11] h2 Z (λ c70 h2=>?_) λ c70 h2=>?_)
  ·refine nx 4 Z (K2 λ Xs h2=>?_);refine nx 4 Z (K2 λ Uw h2=>?_);refine nx 10 Z (fN [18] h2 Z (λ c75 h2=>?_) λ c75 h2=>?_)
   ·refine nx 5 Z (K2 λ Wa h2=>?_);refine nx 5 Z (mO Z (aH ak [(ad.mk Vw VT WL XQ (am.mk XP XO XN Zy Zx) VS r1.1.fAt)] Z Z Z Z Z Z Z Z Z Z Z Z Z fo ?_));exact bV
   refine nx 6 Z (K2 λ VG h2=>?_);exact nx 3 Z Kb
  refine nx 4 Z (K2 λ r80 h2=>?_);refine nx 2 Z (fB [32,34] h2 Z (λ c82 h2=>?_) λ c82 h2=>?_)
  ·refine nx 4 Z (K2 λ Vz h2=>?_);refine nx 4 Z (K2 λ r85 h2=>?_);refine nx 6 Z (K2 λ YC h2=>?_);refine nx 4 Z (mO Z (aH ak [(ad.mk Vw VT WL XQ (am.mk XP XO XN Zy Zx) VS r1.1.fAt),r85.1] Z Z Z Z Z Z Z Z Z Z Z Z Z fo ?_));exact bV
  exact nx 7 Z Kb
 ·refine λ OF=>hO good [] [1000000] Tryz.func184 Z Z λ r h0 _ w0 F=>?_;rw [cH] at h0;exact J0
 ·refine λ OF=>hO good [] [1000000] Tryz.func197 Z Z λ r h0 _ w0 F=>?_;rw [eP] at h0;exact J0
 ·refine λ OF=>hO good [] [1000000] Tryz.func198 Z Z λ r h0 _ w0 F=>?_;rw [ge] at h0;have:=js [601,1001];have:=jS 601 Bool λ v=>[(18,.p (eB v))]
  have:=jO 1001 Int λ v=>[(4,[.p (eI 1),.p (eI v),.p (eS ([]:Bytes)),.p (.val (.slice none 0 0)),.p (.val (.slice none 0 0))])]
  exact J0
 ·refine λ OF=>hO good [] [1000000] Tryz.func199 Z Z λ r h0 _ w0 F=>?_;rw [gD] at h0;exact J0
 ·refine λ OF end_1=>hO good [] [1000000] Tryz.func210 Z Z λ r h0 _ w0 F=>?_;rw [gf] at h0;refine nx 10 Z (bd h0 λ o79 h1 h0=>?_);refine kE 0 o79 (λ v80=>⟨[(5,.vec 19 11 0 (v80.1.map ak))],[(1000000,(fG v80.2))]⟩) ?_ ?_
  ·exact J0
  refine lG (λ (Xx:(List ad)×(List ac)×Int×Int×Int×Int×Int×Bytes)=>⟨[(0,.ptr 1000000 0),(1,.p (eS end_1)),(5,.vec 19 11 0 (Xx.1.map ak))],[(1000000,(fG Xx.2))]⟩) (λ m (Xx:(List ad)×(List ac)×Int×Int×Int×Int×Int×Bytes)=>cK n (aC n) end_1 m Xx.1 Xx.2.1 Xx.2.2.1 Xx.2.2.2.1 Xx.2.2.2.2.1 Xx.2.2.2.2.2.1 Xx.2.2.2.2.2.2.1 Xx.2.2.2.2.2.2.2) Y ([],OF.fl,OF.fat,OF.H',OF.G',OF.AT.Ar,OF.AT.fAt,OF.AT.AI) h1 (dX (lq ⟨er rfl,er rfl,⟨_,rfl,AV.sub_nilvec _ _ _⟩,trivial⟩ ⟨⟨_,rfl,⟨sr,sr,sr,sr,sr,sr,sr,trivial⟩⟩,trivial⟩)) ?_;rintro m ⟨U9,Xm,f33,f34,US,Vn,T8,UR⟩ h1;replace h1:cK n (aC n) end_1 (m+1) U9 Xm f33 f34 US Vn T8 UR=some o79:=h1;rw [cK] at h1;refine nx 2 rfl (bd h1 λ o82 h2 h1=>?_);refine kN o82 (λ v83=>⟨[(0,.ptr 1000000 0),(1,.p (eS end_1)),(5,.vec 19 11 0 (U9.map ak)),(14,.p (eB v83.1))],[(1000000,(fG v83.2))]⟩) ?_ ?_
  ·refine nx 1 Z (fB [14] h1 Z (λ c52 h1=>?_) λ c52 h1=>?_)
   ·refine nx 7 Z (K1 λ X3 h1=>?_);refine mO Z (aH ak [X3.1] Z Z Z Z Z Z Z Z Z Z Z Z Z fo ?_);refine cc' h1 λ Yo h1=>mO Z (dZ ak U9 [X3.1] Z Z Z Z Z Z Z Z Z Z Z Z Z (λ x=>congrArg List.length (ad.It x)) Z Z Z Z Yo ?_);exact ay
   exact ay
  exact bV
 ·refine λ OF N' k_2=>hO good [] [1000000] Tryz.func212 Z Z λ r h0 _ w0 F=>?_;rw [eM] at h0;refine nx 7 Z (K0 λ r1 h0=>?_);refine nx 6 Z (K0 λ r3 h0=>?_);refine nx 5 Z (bd h0 λ TJ h1 h0=>?_);refine kN TJ (λ ZQ=>⟨[(0,.ptr 1000000 0),(2,.p (eI k_2)),(6,.ptr 6 0),(7,.ptr 7 0)],[(6,bw),(7,(nZ (.p (eI k_2)) (.p (eS ZQ.1)) (.p (eS ZQ.2.1)) (.p (eI N')))),(1000000,(fG ZQ.2.2))]⟩) ?_ ?_
  ·refine nx 4 Z (K0 λ Te h0=>?_);refine nx 2 Z (bd h0 λ Ts e24 h0=>?_);refine cc' h0 λ VQ h0=>mG (gE (t:=⟨[(0,.ptr 1000000 0),(2,.p (eI k_2)),(6,.ptr 6 0),(7,.ptr 7 0)],[(6,bw),(7,(nZ (.p (eI k_2)) (.p (eS TJ.1)) (.p (eS TJ.2.1)) (.p (eI N')))),(1000000,(al.cs Te).map .p)]⟩) Z Z) (mSq ⟨3,[3,5,7],(by4 (.some (cj [] 107000 107000)) (.some λ i=>Nat.beq i 33) .none .none),(λ _=>[(0,.ptr 1000000 0),(2,.p (eI k_2)),(6,.ptr 6 0),(7,.ptr 7 0)]),(by4 ([(6,bw),(7,(nZ (.p (eI k_2)) (.p (eS TJ.1)) (.p (eS TJ.2.1)) (.p (eI N')))),(1000000,((al.cs Te).map .p))]) ([(1000000,((al.cs Ts.2).map .p)),(6,bw),(7,(nZ (.p (eI k_2)) (.p (eS TJ.1)) (.p (eS TJ.2.1)) (.p (eI N'))))]) ([(1000000,((al.cs Ts.2).map .p)),(6,bw),(7,(nZ (.p (eI k_2)) (.p (eS TJ.1)) (.p (eS TJ.2.1)) (.p (eI N'))))]) ([(7,(dy (.p (eI k_2)) (.p (eS TJ.1)) (.p (eS TJ.2.1)) (.vec 33 11 0 ([Ts.1].map ak)) (.p (eI N')))),(1000000,((al.cs Ts.2).map .p)),(6,bw),(7,(nZ (.p (eI k_2)) (.p (eS TJ.1)) (.p (eS TJ.2.1)) (.p (eI N'))))]))⟩ Z ?_);refine dPc (.ptr 7 9) Z (dPc (.p (.val (.slice none 0 0))) Z ?_);refine dPc (.ptr 1000000 0) Z (dI (λ _=>.p (.agg (ad.cs Ts.1))) [30] Z (λ sl Sk K hK=>ap Z (aY [1000000] [] 107000 107000 (HO.c e24) Z Z Z (aT (Sk _ _ Z) b9) Z ⟨sr,trivial⟩ Z Z ⟨⟨_,Z,⟨sr,sr,sr,sr,sr,sr,sr,trivial⟩⟩,trivial⟩ Z Z Z Z Z Z Z Z Tryz.call65 Z Z hK)) ?_);refine dO (.p (eL ak [Ts.1])) [31] Z (λ _ sl Sk K hK=>ap Z (aH ak [Ts.1] Z Z Z Z Z Z (cP (Sk _ _ Z) Z dW) Z Z Z Z Z Z fo hK)) (dI (λ _=>.vec 33 11 0 ([Ts.1].map ak)) [29,32] Z (λ sl Sk K hK=>ap Z (C9 ak [Ts.1] 0 Z Z Z Z Z Z Z Z (Sk _ _ Z) (Sk _ _ Z) Z (λ x=>congrArg List.length (ad.It x)) Z Z Z Z VQ hK)) ?_);refine dPc (.ptr 7 9) Z (dS Z ?_);refine fq (nx 4 Z ?_);refine bd h0 λ TT e27 h0=>mO Z (cVq [1000000] [] 108000 108000 (HO.c e27) Tryz.call103 Z ?_);refine nx 2 Z (bd h0 λ Ty e29 h0=>?_);refine cc' h0 λ Zq h0=>mG (gE (t:=⟨[(0,.ptr 1000000 0),(2,.p (eI k_2)),(6,.ptr 6 0),(7,.ptr 7 0)],[(6,bw),(7,(dy (.p (eI k_2)) (.p (eS TJ.1)) (.p (eS TJ.2.1)) (.vec 33 11 0 ([Ts.1].map ak)) (.p (eI N')))),(1000000,(al.cs TT).map .p)]⟩) Z Z) (mSq ⟨3,[3,5,7],(by4 (.some (cj [] 109000 109000)) (.some λ i=>Nat.beq i 33||Nat.beq i 42) .none .none),(λ _=>[(0,.ptr 1000000 0),(2,.p (eI k_2)),(6,.ptr 6 0),(7,.ptr 7 0)]),(by4 ([(6,bw),(7,(dy (.p (eI k_2)) (.p (eS TJ.1)) (.p (eS TJ.2.1)) (.vec 33 11 0 ([Ts.1].map ak)) (.p (eI N')))),(1000000,((al.cs TT).map .p))]) ([(1000000,((al.cs Ty.2).map .p)),(6,bw),(7,(dy (.p (eI k_2)) (.p (eS TJ.1)) (.p (eS TJ.2.1)) (.vec 33 11 0 ([Ts.1].map ak)) (.p (eI N'))))]) ([(1000000,((al.cs Ty.2).map .p)),(6,bw),(7,(dy (.p (eI k_2)) (.p (eS TJ.1)) (.p (eS TJ.2.1)) (.p (eL ak [Ts.1])) (.p (eI N'))))]) ([(7,(dy (.p (eI k_2)) (.p (eS TJ.1)) (.p (eS TJ.2.1)) (.vec 42 11 0 (([Ts.1]++[Ty.1]).map ak)) (.p (eI N')))),(1000000,((al.cs Ty.2).map .p)),(6,bw),(7,(dy (.p (eI k_2)) (.p (eS TJ.1)) (.p (eS TJ.2.1)) (.p (eL ak [Ts.1])) (.p (eI N'))))]))⟩ Z ?_);refine dPc (.ptr 7 9) Z (dP (by4 (.vec 33 11 0 ([Ts.1].map ak)) (.vec 33 11 0 ([Ts.1].map ak)) (.p (eL ak [Ts.1])) (.p (eL ak [Ts.1]))) Z ?_);refine dPc (.ptr 1000000 0) Z (dI (λ _=>.p (.agg (ad.cs Ty.1))) [39] Z (λ sl Sk K hK=>ap Z (aY [1000000] [] 109000 109000 (HO.c e29) Z Z Z (aT (Sk _ _ Z) b9) Z ⟨sr,trivial⟩ Z Z ⟨⟨_,Z,⟨sr,sr,sr,sr,sr,sr,sr,trivial⟩⟩,trivial⟩ Z Z Z Z Z Z Z Z Tryz.call65 Z Z hK)) ?_);refine dO (.p (eL ak [Ty.1])) [40] Z (λ _ sl Sk K hK=>ap Z (aH ak [Ty.1] Z Z Z Z Z Z (cP (Sk _ _ Z) Z dW) Z Z Z Z Z Z fo hK)) (dI (λ _=>.vec 42 11 0 (([Ts.1]++[Ty.1]).map ak)) [38,41] Z (λ sl Sk K hK=>ap Z (dZ ak [Ts.1] [Ty.1] Z Z Z Z Z Z Z Z (Sk _ _ Z) Z Z (Sk _ _ Z) Z (λ x=>congrArg List.length (ad.It x)) Z Z Z Z Zq hK)) ?_);refine dPc (.ptr 7 9) Z (dS Z ?_);refine fq (nx 6 Z ?_);refine bd h0 λ UL h1 h0=>kN UL (λ ZP=>⟨[(0,.ptr 1000000 0),(6,.ptr 6 0),(7,.ptr 7 0),(8,.p (eS ZP.1))],[(6,bw),(7,(dy (.p (eI k_2)) (.p (eS TJ.1)) (.p (eS TJ.2.1)) (.vec 53 11 0 (ZP.2.1.map ak)) (.p (eI N')))),(1000000,(fG ZP.2.2))]⟩) ?_ ?_
   ·refine nx 2 Z (bd h0 λ o71 h1 h0=>?_);refine kN o71 (λ X0=>⟨[(0,.ptr 1000000 0),(6,.ptr 6 0),(7,.ptr 7 0),(8,.p (eS UL.1))],[(6,bw),(7,(dy (.p (eI k_2)) (.p (eS TJ.1)) (.p (eS TJ.2.1)) (.vec 64 11 0 (X0.1.map ak)) (.p (eI N')))),(1000000,(fG X0.2))]⟩) ?_ ?_
    ·exact J0
    refine nx 3 Z (K1 λ V3 h1=>?_);refine nx 1 Z (fB [56] h1 Z (λ c48 h1=>?_) λ c48 h1=>?_)
    ·refine nx 4 Z (K1 λ Wb h1=>?_);refine nx 1 Z (bd h1 λ TR Zz h1=>?_);refine cc' h1 λ Yp h1=>mG (gE (t:=⟨[(0,.ptr 1000000 0),(6,.ptr 6 0),(7,.ptr 7 0),(8,.p (eS UL.1))],[(6,bw),(7,(dy (.p (eI k_2)) (.p (eS TJ.1)) (.p (eS TJ.2.1)) (.vec 53 11 0 (UL.2.1.map ak)) (.p (eI N')))),(1000000,(al.cs Wb.2).map .p)]⟩) Z Z) (mSq ⟨3,[3,5,7],(by4 (.some (cj [] 114000 114000)) (.some λ i=>Nat.beq i 53||Nat.beq i 64) .none .none),(λ _=>[(0,.ptr 1000000 0),(6,.ptr 6 0),(7,.ptr 7 0),(8,.p (eS UL.1))]),(by4 ([(6,bw),(7,(dy (.p (eI k_2)) (.p (eS TJ.1)) (.p (eS TJ.2.1)) (.vec 53 11 0 (UL.2.1.map ak)) (.p (eI N')))),(1000000,((al.cs Wb.2).map .p))]) ([(1000000,((al.cs TR.2).map .p)),(6,bw),(7,(dy (.p (eI k_2)) (.p (eS TJ.1)) (.p (eS TJ.2.1)) (.vec 53 11 0 (UL.2.1.map ak)) (.p (eI N'))))]) ([(1000000,((al.cs TR.2).map .p)),(6,bw),(7,(dy (.p (eI k_2)) (.p (eS TJ.1)) (.p (eS TJ.2.1)) (.p (eL ak UL.2.1)) (.p (eI N'))))]) ([(7,(dy (.p (eI k_2)) (.p (eS TJ.1)) (.p (eS TJ.2.1)) (.vec 64 11 0 ((UL.2.1++[TR.1]).map ak)) (.p (eI N')))),(1000000,((al.cs TR.2).map .p)),(6,bw),(7,(dy (.p (eI k_2)) (.p (eS TJ.1)) (.p (eS TJ.2.1)) (.p (eL ak UL.2.1)) (.p (eI N'))))]))⟩ Z ?_);refine dPc (.ptr 7 9) Z (dP (by4 (.vec 53 11 0 (UL.2.1.map ak)) (.vec 53 11 0 (UL.2.1.map ak)) (.p (eL ak UL.2.1)) (.p (eL ak UL.2.1))) Z ?_);refine dPc (.ptr 1000000 0) Z (dI (λ _=>.p (.agg (ad.cs TR.1))) [61] Z (λ sl Sk K hK=>ap Z (aY [1000000] [] 114000 114000 (HO.c Zz) Z Z Z (aT (Sk _ _ Z) b9) Z ⟨sr,trivial⟩ Z Z ⟨⟨_,Z,⟨sr,sr,sr,sr,sr,sr,sr,trivial⟩⟩,trivial⟩ Z Z Z Z Z Z Z Z Tryz.call65 Z Z hK)) ?_);refine dO (.p (eL ak [TR.1])) [62] Z (λ _ sl Sk K hK=>ap Z (aH ak [TR.1] Z Z Z Z Z Z (cP (Sk _ _ Z) Z dW) Z Z Z Z Z Z fo hK)) (dI (λ _=>.vec 64 11 0 ((UL.2.1++[TR.1]).map ak)) [60,63] Z (λ sl Sk K hK=>ap Z (dZ ak UL.2.1 [TR.1] Z Z Z Z Z Z Z Z (Sk _ _ Z) Z Z (Sk _ _ Z) Z (λ x=>congrArg List.length (ad.It x)) Z Z Z Z Yp hK)) ?_);refine dPc (.ptr 7 9) Z (dS Z ?_);exact ay
    exact nx 2 Z (eX _ (oi h1).symm (bj (ca 53 64 Z Z Z Z Z) (gE Z Z)))
   refine nx 5 Z (fD [45] h1 Z (λ ZE h1=>?_) λ ZE h1=>?_)
   ·refine nx 4 Z (K1 λ Vr h1=>?_);refine nx 2 Z (bd h1 λ Tg e35 h1=>?_);refine cc' h1 λ Zo h1=>mG (gE (t:=⟨[(0,.ptr 1000000 0),(6,.ptr 6 0),(7,.ptr 7 0)],[(6,bw),(7,(dy (.p (eI k_2)) (.p (eS TJ.1)) (.p (eS TJ.2.1)) (.vec 42 11 0 (([Ts.1]++[Ty.1]).map ak)) (.p (eI N')))),(1000000,(al.cs Vr).map .p)]⟩) Z Z) (mSq ⟨3,[3,5,7],(by4 (.some (cj [] 111000 111000)) (.some λ i=>Nat.beq i 42||Nat.beq i 53) .none .none),(λ _=>[(0,.ptr 1000000 0),(6,.ptr 6 0),(7,.ptr 7 0)]),(by4 ([(6,bw),(7,(dy (.p (eI k_2)) (.p (eS TJ.1)) (.p (eS TJ.2.1)) (.vec 42 11 0 (([Ts.1]++[Ty.1]).map ak)) (.p (eI N')))),(1000000,((al.cs Vr).map .p))]) ([(1000000,((al.cs Tg.2).map .p)),(6,bw),(7,(dy (.p (eI k_2)) (.p (eS TJ.1)) (.p (eS TJ.2.1)) (.vec 42 11 0 (([Ts.1]++[Ty.1]).map ak)) (.p (eI N'))))]) ([(1000000,((al.cs Tg.2).map .p)),(6,bw),(7,(dy (.p (eI k_2)) (.p (eS TJ.1)) (.p (eS TJ.2.1)) (.p (eL ak ([Ts.1]++[Ty.1]))) (.p (eI N'))))]) ([(7,(dy (.p (eI k_2)) (.p (eS TJ.1)) (.p (eS TJ.2.1)) (.vec 53 11 0 ((([Ts.1]++[Ty.1])++[Tg.1]).map ak)) (.p (eI N')))),(1000000,((al.cs Tg.2).map .p)),(6,bw),(7,(dy (.p (eI k_2)) (.p (eS TJ.1)) (.p (eS TJ.2.1)) (.p (eL ak ([Ts.1]++[Ty.1]))) (.p (eI N'))))]))⟩ Z ?_);refine dPc (.ptr 7 9) Z (dP (by4 (.vec 42 11 0 (([Ts.1]++[Ty.1]).map ak)) (.vec 42 11 0 (([Ts.1]++[Ty.1]).map ak)) (.p (eL ak ([Ts.1]++[Ty.1]))) (.p (eL ak ([Ts.1]++[Ty.1])))) Z ?_);refine dPc (.ptr 1000000 0) Z (dI (λ _=>.p (.agg (ad.cs Tg.1))) [50] Z (λ sl Sk K hK=>ap Z (aY [1000000] [] 111000 111000 (HO.c e35) Z Z Z (aT (Sk _ _ Z) b9) Z ⟨sr,trivial⟩ Z Z ⟨⟨_,Z,⟨sr,sr,sr,sr,sr,sr,sr,trivial⟩⟩,trivial⟩ Z Z Z Z Z Z Z Z Tryz.call65 Z Z hK)) ?_);refine dO (.p (eL ak [Tg.1])) [51] Z (λ _ sl Sk K hK=>ap Z (aH ak [Tg.1] Z Z Z Z Z Z (cP (Sk _ _ Z) Z dW) Z Z Z Z Z Z fo hK)) (dI (λ _=>.vec 53 11 0 ((([Ts.1]++[Ty.1])++[Tg.1]).map ak)) [49,52] Z (λ sl Sk K hK=>ap Z (dZ ak ([Ts.1]++[Ty.1]) [Tg.1] Z Z Z Z Z Z Z Z (Sk _ _ Z) Z Z (Sk _ _ Z) Z (λ x=>congrArg List.length (ad.It x)) Z Z Z Z Zo hK)) ?_);refine dPc (.ptr 7 9) Z (dS Z ?_);exact ay
   exact nx 2 Z (eX _ (oi h1).symm (bj (ca 42 53 Z Z Z Z Z) (gE Z Z)))
  exact ay
 ·refine λ OF=>hO good [] [1000000] Tryz.func213 Z Z λ r h0 _ w0 F=>?_;rw [fH] at h0;refine nx 10 Z (bd h0 λ o89 h1 h0=>?_);refine kE 0 o89 (λ v90=>⟨[(3,.vec 23 11 0 (v90.1.map ak))],[(1000000,(fG v90.2))]⟩) ?_ ?_
  ·exact J0
  refine lG (λ (Xw:(List ad)×(List ac)×Int×Int×Int×Int×Int×Bytes)=>⟨[(0,.ptr 1000000 0),(3,.vec 23 11 0 (Xw.1.map ak))],[(1000000,(fG Xw.2))]⟩) (λ m (Xw:(List ad)×(List ac)×Int×Int×Int×Int×Int×Bytes)=>ce n (aC n) (dc n) m Xw.1 Xw.2.1 Xw.2.2.1 Xw.2.2.2.1 Xw.2.2.2.2.1 Xw.2.2.2.2.2.1 Xw.2.2.2.2.2.2.1 Xw.2.2.2.2.2.2.2) Y ([],OF.fl,OF.fat,OF.H',OF.G',OF.AT.Ar,OF.AT.fAt,OF.AT.AI) h1 (dX (lq ⟨er rfl,⟨_,rfl,AV.sub_nilvec _ _ _⟩,trivial⟩ ⟨⟨_,rfl,⟨sr,sr,sr,sr,sr,sr,sr,trivial⟩⟩,trivial⟩)) ?_;rintro m ⟨Uq,T8,UR,Vf,Vm,Vl,Vk,Vj⟩ h1;replace h1:ce n (aC n) (dc n) (m+1) Uq T8 UR Vf Vm Vl Vk Vj=some o89:=h1;rw [ce] at h1;refine nx 2 rfl (bd h1 λ o92 h2 h1=>?_);refine kN o92 (λ v93=>⟨[(0,.ptr 1000000 0),(3,.vec 23 11 0 (Uq.map ak)),(11,.p (eB v93.1))],[(1000000,(fG v93.2))]⟩) ?_ ?_
  ·refine nx 1 Z (fB [11] h1 Z (λ c57 h1=>?_) λ c57 h1=>?_)
   ·refine nx 7 Z (K1 λ TX h1=>?_);refine mO Z (aH ak [TX.1] Z Z Z Z Z Z Z Z Z Z Z Z Z fo ?_);refine cc' h1 λ XG h1=>mO Z (dZ ak Uq [TX.1] Z Z Z Z Z Z Z Z Z Z Z Z Z (λ x=>congrArg List.length (ad.It x)) Z Z Z Z XG ?_);refine nx 5 Z (K1 λ TQ h1=>?_);refine nx 5 Z (K1 λ Va h1=>?_);refine mO Z (aH ak [Va.1] Z Z Z Z Z Z Z Z Z Z Z Z Z fo ?_);refine cc' h1 λ XF h1=>mO Z (dZ ak (Uq++[TX.1]) [Va.1] Z Z Z Z Z Z Z Z Z Z Z Z Z (λ x=>congrArg List.length (ad.It x)) Z Z Z Z XF ?_);exact ay
   exact ay
  exact bV
 ·refine λ OF=>hO good [] [1000000] Tryz.func225 Z Z λ r h0 _ w0 F=>?_;rw [dc] at h0;exact J0
instance D7 (n:Nat):qY (ff n) 19:=(mN n).1
instance Lm (n:Nat):qY (iv n) 33:=(mN n).2.1
def ik (n:Nat)(Mr:Bytes):Option (ad×ao) :=
 (iv n Mr 0).bind λ r1 =>
 (iP n r1.1 r1.2).bind λ r3 =>
 some (r3.1,r3.2)
instance Lq (n:Nat) (Mr:Bytes):∀ (r:ad×ao),HP (ik n Mr=some r) Tryz.prog 16 [eS Mr] (.tuple [.p (.agg (ad.cs r.1)),.p (.agg (ao.cs r.2))]):=by
 refine hP good Tryz.func16 Z Z λ r h0 _ w0=>?_;unfold ik at h0;exact J0
def d4 (UC:ad->Option Int)(SU:ad):Nat->Int->Int->Option Int
 | 0,_,_=>none
 | m+1,n9,X1 =>
 if X1 < (SU.By.length:Int) then
  ck ((0:Int)<=X1/\X1 < (SU.By.length:Int)) <|
  (UC (lat SU.By X1)).bind λ UU =>
  ck (inR (n9+UU)) <|
  ck (inR (X1+1)) <|
  d4 UC SU m (n9+UU) (X1+1)
 else
  some n9
def gk:Nat->ad->Option Int
 | 0,_=>none
 | n+1,SU =>
 (d4 (gk n) SU n 1 0).bind λ n19 =>
 some n19
instance Lg (n:Nat):∀ (SU:ad) (r:Int),HP (gk n SU=some r) Tryz.prog 14 [.agg (ad.cs SU)] (.p (eI r)):=by
 induction n with
 | zero=>exact Zr
 | succ n ih =>
 refine λ SU=>hP good Tryz.func14 Z Z λ r h0 _ w0=>?_;rw [gk] at h0;refine nx 14 Z (oLl (f:=ak) Z Z ?_);refine nx 3 Z (bd h0 λ Wi h1 h0=>?_);refine kE 0 Wi (λ YS=>⟨[(3,.p (eI YS))],[]⟩) ?_ ?_
 ·exact J0
 refine lG (λ (Wp:Int×Int)=>⟨[(3,.p (eI Wp.1)),(7,.p (eL ak SU.By)),(8,.p (eI (SU.By.length:Int))),(9,.p (eI Wp.2))],[]⟩) (λ m (Wp:Int×Int)=>d4 (gk n) SU m Wp.1 Wp.2) Y (1,0) h1 (gE rfl rfl) ?_;rintro m ⟨n9,X1⟩ h1;replace h1:d4 (gk n) SU (m+1) n9 X1=some Wi:=h1;rw [d4] at h1;exact ay
end Go.Ab.R06
end
section
namespace Go.Ab.R06
open Go.Proofs Go.Ab Go.Ab.RB
set_option maxRecDepth 4000
attribute [local irreducible] awp io bg bO cv AV.sub M cZ
end Go.Ab.R06
end
section
namespace Go.Ab.R06
open Go.Proofs Go.Ab Go.Ab.RB
section
variable {p:Prop}
theorem tK (h:p:=by
  exact nx 6 Z (mQ (oi h0) Z (sr))):p:=h
theorem Hi (h:p:=by
  refine nx 2 Z (oLl (f:=ak) Z Z ?_)
  exact nx 3 Z (eX _ (oi h1).symm (gE Z Z))):p:=h
theorem Bl (h:p:=by
  exact nx 17 Z (eX _ (oi h1).symm (gE Z Z))):p:=h
theorem Ch (h:p:=by
  exact nx 6 Z (eX _ (oi h1).symm (gE Z Z))):p:=h
end
set_option maxRecDepth 4000
attribute [local irreducible] awp io bg bO cv AV.sub M cZ
instance Q9:HE Tryz.prog 16:=⟨Tryz.call16⟩
def jD (n:Nat):Option Bool :=
 (ik n ([49,32,43,32,50,32,42,32,51]:Bytes)).bind λ r1 =>
 (ik n ([34,120,36,123,34,121,34,125,34]:Bytes)).bind λ r3 =>
 (ik n ([97,32,43]:Bytes)).bind λ r5 =>
 (ik n ([91,102,111,114,32,107,44,32,118,32,105,110,32,109,32,58,32,118,32,105,102,32,107,32,33,61,32,34,97,34,93]:Bytes)).bind λ r7 =>
 (
   if r1.2.Ar=0 then
    if r3.2.Ar=0 then
     if r5.2.Ar=2 then
      if r5.2.fAt=3 then
       if r7.2.Ar=0 then
        if (r1.1.By.length:Int)=2 then
         some (!decide ((r3.1.By.length:Int)=2))
        else
         some true
       else
        some true
      else
       some true
     else
      some true
    else
     some true
   else
    some true
  ).bind λ t15 =>
 if t15=true then
  some false
 else
  (
    if r1.1.fOp=11 then
     ck ((0:Int)<=1/\1 < (r1.1.By.length:Int)) <|
     if (lat r1.1.By 1).fOp=13 then
      if r3.1.Ar=2 then
       if r7.1.Ar=12 then
        if r7.1.Gw=([107]:Bytes) then
         if r7.1.AI=([118]:Bytes) then
          if (r7.1.By.length:Int)=3 then
           (gk n r1.1).bind λ UE =>
           some (decide (UE=5))
          else
           some false
         else
          some false
        else
         some false
       else
        some false
      else
       some false
     else
      some false
    else
     some false
   ).bind λ t27 =>
  some t27
instance KY (n:Nat):∀ (r:Bool),HP (jD n=some r) Tryz.prog 11 [] (.p (eB r)):=by
 refine hP good Tryz.func11 Z Z λ r h0 _ w0=>?_;unfold jD at h0;refine nx 6 Z (K0 λ r1 h0=>nx 10 Z ?_);refine bd h0 λ r3 e4 h0=>oK (HP.c e4) Z ⟨sr,trivial⟩ Tryz.call16 Z (nx 10 Z ?_);refine bd h0 λ r5 e6 h0=>oK (HP.c e6) Z ⟨sr,trivial⟩ Tryz.call16 Z (nx 10 Z ?_);refine bd h0 λ r7 e8 h0=>oK (HP.c e8) Z ⟨sr,trivial⟩ Tryz.call16 Z (nx 10 Z ?_);refine bd h0 λ X6 h1 h0=>kN X6 (λ WQ=>⟨[(1,.ptr 1 0),(3,.ptr 3 0),(7,.ptr 7 0),(59,.p (eB WQ))],[(1,(ad.cs r1.1).map .p),(3,(ad.cs r3.1).map .p),(7,(ad.cs r7.1).map .p)]⟩) ?_ ?_
 ·refine nx 1 Z (fB [59] h0 Z (λ ZG h0=>?_) λ ZG h0=>?_)
  ·exact tK
  refine nx 3 Z (bd h0 λ WT h1 h0=>?_);refine kN WT (λ YR=>⟨[(0,.p (eB YR))],[]⟩) ?_ ?_
  ·exact nx 2 Z (mQ (oi h0) Z (sr))
  refine nx 5 Z (fD [62,63] h1 Z (λ Tz h1=>?_) λ Tz h1=>?_)
  ·refine nx 2 Z (oE h1 ad.It Z Z Y λ Uv h1=>?_);refine nx 5 Z (fD [69,70,71] h1 Z (λ Xn h1=>?_) λ Xn h1=>?_)
   ·refine nx 5 Z (fD [74,75,76] h1 Z (λ c20 h1=>?_) λ c20 h1=>?_)
    ·refine nx 5 Z (fD [79,80,81] h1 Z (λ c21 h1=>?_) λ c21 h1=>?_)
     ·refine nx 2 Z (oS Z Z ?_);refine nx 2 Z (fD [84,85,86] h1 Z (λ c22 h1=>?_) λ c22 h1=>?_)
      ·refine nx 2 Z (oS Z Z ?_);refine nx 2 Z (fD [89,90,91] h1 Z (λ V2 h1=>?_) λ V2 h1=>?_)
       ·refine nx 2 Z (oLl (f:=ak) Z Z ?_);refine nx 3 Z (fD [95,96,97] h1 Z (λ XW h1=>?_) λ XW h1=>?_)
        ·refine nx 1 Z (K1 λ UE h1=>nx 4 Z ?_);exact eX _ (oi h1).symm (gE Z Z)
        exact Ch
       exact nx 12 Z gJ
      exact Bl
     exact nx 22 Z gJ
    exact nx 27 Z gJ
   exact nx 32 Z gJ
  exact nx 40 Z gJ
 refine nx 5 Z (fN [27,28] h1 Z (λ c9 h1=>?_) λ c9 h1=>?_)
 ·refine nx 5 Z (fN [31,32,33] h1 Z (λ YA h1=>?_) λ YA h1=>?_)
  ·refine nx 5 Z (fN [36,37,38] h1 Z (λ Xd h1=>?_) λ Xd h1=>?_)
   ·refine nx 5 Z (fN [41,42,43] h1 Z (λ ZH h1=>?_) λ ZH h1=>?_)
    ·refine nx 5 Z (fN [46,47,48] h1 Z (λ XY h1=>?_) λ XY h1=>?_)
     ·refine nx 2 Z (oLl (f:=ak) Z Z ?_);refine nx 3 Z (fN [52,53,54] h1 Z (λ Xc h1=>?_) λ Xc h1=>?_)
      ·exact Hi
      exact Ch
     exact nx 12 Z gJ
    exact Bl
   exact nx 22 Z gJ
  exact nx 27 Z gJ
 exact nx 32 Z gJ
end Go.Ab.R06
end
section
namespace Go.Ab.R06
open Go.Ab
end Go.Ab.R06
end
section
namespace Go.Ab.R06
open Go.Ab Go.Ab.RB Go.Lib
section
variable {p:Prop}
theorem ru (h:p:=by
 exact ae Z (aa Z)):p:=h
theorem rJ (h:p:=by
 exact af G (aa Z)):p:=h
theorem qD (h:p:=by simp [hb]):p:=h
theorem nt (h:p:=by simpa using h):p:=h
theorem oH (h:p:=by simp only [aq]; omega):p:=h
theorem qq (h:p:=by simpa using hb):p:=h
theorem xq (h:p:=by exact ax (qF s (b::r) o d) Z):p:=h
end
def pz (s l:Bytes):Int:=(s.length:Int) - (l.length:Int)
theorem tT {s l:Bytes}(h:l <:+ s):pz s l=((s.length - l.length:Nat):Int):=by
 have:=h.length_le;unfold pz; omega
theorem rk {s l:Bytes}(h:l <:+ s):s.drop (s.length - l.length)=l:=by
 obtain ⟨t,rfl⟩:=h;simp
theorem ee {s r:Bytes}{b:UInt8}(h:(b::r) <:+ s):r <:+ s:=(List.suffix_cons b r).trans h
theorem sM {s l:Bytes}(k:Nat)(h:l <:+ s):l.drop k <:+ s:=(List.drop_suffix k l).trans h
theorem jQ {s r:Bytes}{b:UInt8}:pz s r=pz s (b::r)+1:=by
 unfold pz; simp only [aq]; omega
theorem lH {s l:Bytes}{k:Nat}(hk:k<=l.length):pz s (l.drop k)=pz s l+(k:Int):=by
 unfold pz; rw [ld]; omega
theorem ua {s l:Bytes}(h:l <:+ s):0<=pz s l:=by have:=h.length_le; unfold pz; omega
theorem qc {s l:Bytes}:pz s l<=s.length:=by unfold pz; omega
theorem w3 {s r:Bytes}{b:UInt8}:pz s (b::r) < s.length:=by unfold pz; simp only [aq]; omega
theorem DF (s:Bytes):pz s s=0:=by unfold pz; omega
theorem gH {s r:Bytes}{b:UInt8}(h:(b::r) <:+ s):byt s (pz s (b::r))=(b.toNat:Int):=by
 rw [tT h,cD];have h1:=rk h;have h2:s.length - (b::r).length < s.length:=by have:=h.length_le; simp only [aq] at this ⊢; omega
 rw [List.drop_eq_getElem_cons h2] at h1;rw [List.getD_eq_getElem?_getD,List.getElem?_eq_getElem h2];exact congrArg _ (congrArg _ (qr h1).1)
theorem qV {s l:Bytes}(h:l <:+ s):sub s (pz s l) (s.length:Int)=l:=by
 rw [jU,tT h,Int.toNat_natCast,rk h]
theorem pK {s l l':Bytes}(h:l <:+ s)(h':l' <:+ l):sub s (pz s l) (pz s l')=l.take (l.length - l'.length):=by
 have h1:=h.length_le;have h2:=h'.length_le;rw [tT h,tT (h'.trans h),xa,List.drop_take,rk h];congr 1; omega
def ia (b:UInt8):Bool:=decide (b.toNat=32)||decide (b.toNat=9)||decide (b.toNat=13)
def ll (b:UInt8):Nat:=if jg b then 2 else if d3 b then 3 else if b.toNat=34 then 5 else if b.toNat=10 then 6 else if b.toNat=35 then 7 else if ia b then 1 else if (lat iY (b.toNat:Int)).toNat=4 then 4 else 0
theorem Sn:(List.range 256).all (λ n=>(lat iY ((UInt8.ofNat n).toNat:Int)).toNat == ll (UInt8.ofNat n))=true:=by decide +kernel
theorem su (b:UInt8):(lat iY (b.toNat:Int)).toNat=ll b:=by
 have:=py.1 Sn b.toNat (List.mem_range.2 (UInt8.toNat_lt b));rw [UInt8.ofNat_toNat] at this;exact eq_of_beq this
theorem rY {s r:Bytes}{b:UInt8}(h:(b::r) <:+ s):(0:Int)<=byt s (pz s (b::r))/\byt s (pz s (b::r)) < 256:=by
 rw [gH h];have:=UInt8.toNat_lt b;omega
theorem iJ {s r:Bytes}{b:UInt8}(h:(b::r) <:+ s):(0:Int)<=pz s (b::r)/\pz s (b::r) < (s.length:Int):=⟨ua h,w3⟩
theorem jF (b:UInt8):(ll b=1↔ia b=true)/\(ll b=2↔jg b=true)/\(ll b=3↔d3 b=true)/\(ll b=5↔b.toNat=34)/\(ll b=6↔b.toNat=10)/\(ll b=7↔b.toNat=35):=by
 have h1:=mC b;have h2:=jq b;have h3:ia b=true↔b.toNat=32\/b.toNat=9\/b.toNat=13:=by simp [ia,or_assoc]
 unfold ll
 repeat' split
 all_goals (refine ⟨?_,?_,?_,?_,?_,?_⟩ <;> simp_all <;> omega)
def scx (s l:Bytes)(o:Int)(d:ao):ab:=.mk s (pz s l) o d
theorem qF (s l:Bytes)(o:Int)(d:ao):bE (scx s l o d)=some (!l.isEmpty,scx s l o d):=by
 unfold bE scx;simp only [bt,ur,and_true]
 cases l with
 | nil=>simp [pz]
 | cons b r=>simp only [List.isEmpty_cons,Bool.not_false,decide_eq_true_eq]; exact w3
def fF (c:Bool)(l:Bytes):Bytes :=
 match l.dropWhile ia with
 | b::r=>if c&&decide (b.toNat=35) then (b::r).dropWhile (λ x=>!decide (x=10)) else b::r
 | []=>[]
theorem lu {p:UInt8->Bool}(l:Bytes):l.dropWhile p <:+ l:=List.dropWhile_suffix p
theorem nC (c:Bool)(l:Bytes):fF c l <:+ l:=by
 unfold fF;have h:=lu (p:=ia) l;split
 ·rename_i b r hb;rw [hb] at h;split
  ·exact (lu _).trans h
  ·exact h
 ·exact List.nil_suffix
theorem zA:∀ (l:Bytes),(indexByte l 10 < 0->l.dropWhile (λ x=>!decide (x=10))=[])/\(0<=indexByte l 10->l.dropWhile (λ x=>!decide (x=10))=l.drop (indexByte l 10).toNat/\(indexByte l 10).toNat < l.length)
 | []=>by simp [indexByte]
 | b::r=>by
  have ih:=zA r;have hge:=indexByte_ge r 10;unfold indexByte;by_cases h:b=10
  ·subst h; simp
  ·rw [if_neg nt];simp only [List.dropWhile_cons,h,decide_false,Bool.not_false,if_true];by_cases hn:indexByte r 10 < 0
   ·rw [if_pos (by rw [beq_iff_eq]; omega)];exact ⟨λ _=>ih.1 hn,λ h=>by omega⟩
   ·rw [if_neg (by rw [beq_iff_eq]; omega)];have:=ih.2 O;refine ⟨λ h=>by omega,λ _=>⟨?_,?_⟩⟩
    ·rw [this.1,show (indexByte r 10+1).toNat=(indexByte r 10).toNat+1 by omega,List.drop_succ_cons]
    ·simp only [aq]; omega
theorem RE (l:Bytes):strings_IndexByte l 10=some (indexByte l 10):=rfl
theorem vT {s r:Bytes}{b:UInt8}{o:Int}{d:ao}(h:(b::r) <:+ s)(h1:ll b≠1)(h7:¬ (ll b=7/\o < 0)):Ev2 (λ _ m=>bh m (scx s (b::r) o d)) (·=.inr (scx s (b::r) o d)):=by
 refine aw ?_;simp only [bh];refine aj _ xq (ae G ?_);simp only [scx];refine ag (iJ h) (ag (rY h) ?_);simp only [gH h,su];refine iC _ (af O ?_) rfl;by_cases h7':ll b=7
 ·exact aj false (ae O (aa (decide_eq_false O))) og
 ·exact aj false ov og
theorem yM {s:Bytes}{o:Int}{d:ao}:Ev2 (λ _ m=>bh m (scx s [] o d)) (·=.inl (scx s [] o d)):=by
 refine aw ?_;simp only [bh];exact aj _ (ax (qF s [] o d) Z) og
def skR (c:Bool)(l:Bytes)(x:ab):ab⊕ab:=if (fF c l).isEmpty then .inl x else .inr x
theorem C8 (s:Bytes)(hs:s.length<=1000000000)(o:Int)(d:ao):∀ (l:Bytes),l <:+ s->Ev2 (λ _ m=>bh m (scx s l o d)) (·=skR (decide (o < 0)) l (scx s (fF (decide (o < 0)) l) o d))
 | [],_=>yM
 | b::r,h=>by
  by_cases h1:ll b=1
  ·have hb:=(jF b).1.1 h1
   have e:fF (decide (o < 0)) (b::r)=fF (decide (o < 0)) r:=by
    unfold fF; rw [List.dropWhile_cons_of_pos hb]
   unfold skR;rw [e];have ih:=C8 s hs o d r (ee h);unfold skR at ih;refine aw ?_;simp only [bh];refine aj _ xq (ae G ?_);simp only [scx];have:=iJ h;refine ag (iJ h) (ag (rY h) ?_);simp only [gH h,su];refine ez (scx s r o d) (ae O (ag aB (aa ?_))) ih;rw [scx,show pz s r=pz s (b::r)+1 from jQ]
  ·have hb:¬ ia b=true:=λ q=>h1 ((jF b).1.2 q);have e0:(b::r).dropWhile ia=b::r:=List.dropWhile_cons_of_neg hb;by_cases h7:ll b=7/\o < 0
   ·have h35:=(jF b).2.2.2.2.2.1 h7.1
    have e:fF (decide (o < 0)) (b::r)=(b::r).dropWhile (λ x=>!decide (x=10)):=by
     unfold fF; rw [e0]; simp [h7.2,h35]
    have hsf:(b::r).dropWhile (λ x=>!decide (x=10)) <:+ s:=(lu _).trans h;have hi:=zA (b::r);have S':=iJ h;have hge:=indexByte_ge (b::r) 10;unfold skR;rw [e];refine aw ?_;simp only [bh];refine aj _ xq (ae G ?_);simp only [scx];refine ag (iJ h) (ag (rY h) ?_);simp only [gH h,su];refine ez (scx s ((b::r).dropWhile (λ x=>!decide (x=10))) o d) (af O (aj true (ae O (aa (decide_eq_true h7.2))) (ae Z (ag O ?_)))) ?_
    ·rw [qV h];refine aj _ (ax (RE _) rfl) ?_;by_cases hn:indexByte (b::r) 10 < 0
     ·rw [hi.1 hn];refine aj ((s.length:Int) - pz s (b::r)) (ae hn qB) (ag aB (aa ?_));rw [scx]; congr 2; unfold pz; simp only [n8,aq]; omega
     ·have hh:=hi.2 O;rw [hh.1];refine aj (indexByte (b::r) 10) (af hn (aa Z)) (ag (bv (by have:=qc (s:=s) (l:=b::r); omega) (by unfold pz at S' ⊢; omega)) (aa ?_));rw [scx,lH O]; congr 2; omega
    ·generalize hq:(b::r).dropWhile (λ x=>!decide (x=10))=q at hsf
     cases q with
     | nil=>exact yM
     | cons c t =>
      have hc:c=10:=by
       have:=List.head?_dropWhile_not (λ x:UInt8=>!decide (x=10)) (b::r);rw [hq] at this;simpa using this
      subst hc;exact vT hsf (by decide) (λ q=>absurd q.1 (by decide))
   ·have e:fF (decide (o < 0)) (b::r)=b::r:=by
     unfold fF; rw [e0]
     have:(decide (o < 0)&&decide (b.toNat=35))=false:=by
      rw [Bool.and_eq_false_iff,decide_eq_false_iff_not,decide_eq_false_iff_not];by_cases q:o < 0
      ·exact .inr λ w=>h7 ⟨(jF b).2.2.2.2.2.2 w,q⟩
      ·exact .inl q
     simp only [this]
     rfl
    unfold skR;rw [e];exact vT h h1 h7
theorem Dj (s l:Bytes)(hs:s.length<=1000000000)(h:l <:+ s)(o:Int)(d:ao):Ev2 (λ n _=>eN n (scx s l o d)) (·=scx s (fF (decide (o < 0)) l) o d):=by
 simp only [eN];refine cm (aQ (aO (f:=λ _ m=>bh m (scx s l o d)) (C8 s hs o d l h)) λ r hr=>?_);subst hr;unfold skR;split
 ·rename_i hx;split at hx
  ·cases hx; exact aa rfl
  ·cases hx
 ·rename_i hx;split at hx
  ·cases hx
  ·cases hx; rfl
def oq:List Bytes:=[[61,62],[61,61],[33,61],[60,61],[62,61],[38,38],[124,124]]
def mH:Bytes:=[123,125,91,93,40,41,44,61,60,62,43,45,42,47,37,33,63,58,46]
def OX:Bytes->Bytes
 | []=>[]
 | b::_=>if indexByte mH b < 0 then [] else [b]
theorem rz (b:UInt8)(r:Bytes):OX (b::r)=if indexByte mH b < 0 then [] else [b]:=rfl
def iD (l:Bytes):Bytes:=match oq.find? (λ t=>hasPrefix l t) with
 | some t=>t
 | none=>OX l
theorem HW (l:Bytes):∀ (j k:Nat),k+j=7->Ev2 (λ _ m=>dD l m (k:Int)) (·=match (oq.drop k).find? (λ t=>hasPrefix l t) with | some t=>.inr t | none=>.inl ())
 | 0,k,hk=>by
  have:k=7:=by omega
  subst this;refine aw ?_;simp only [dD];exact ut
 | j+1,k,hk=>by
  have WU:k < oq.length:=by show k < 7; omega
  refine aw ?_;simp only [dD];refine ae O (ag O ?_);have e:lat ([([61,62]:Bytes),([61,61]:Bytes),([33,61]:Bytes),([60,61]:Bytes),([62,61]:Bytes),([38,38]:Bytes),([124,124]:Bytes)]:List Bytes) (k:Int)=oq[k]:=mW oq k WU;rw [e,List.drop_eq_getElem_cons WU,List.find?_cons];refine aj (hasPrefix l oq[k]) oe ?_
  cases hp:hasPrefix l oq[k]
  ·refine af G (ag aB ?_);exact HW l j (k+1) O
  ·exact ru
theorem vP (l:Bytes)(hl:l.length<=1000000000):Ev2 (λ n _=>i6 n l) (·=iD l):=by
 simp only [i6];refine cm (aQ (aO (f:=λ _ m=>dD l m 0) (HW l 7 0 rfl)) λ r hr=>?_);subst hr;unfold iD;rw [List.drop_zero]
 cases oq.find? (λ t=>hasPrefix l t) with
 | some t=>rfl
 | none =>
  cases l with
  | nil=>exact aj true (ae Z (aa Z)) (ae Z (aa Z))
  | cons b r =>
   have hb:byt (b::r) 0=(b.toNat:Int):=rfl;refine aj (decide (indexByte mH b < 0)) (af G (ag oH ?_)) ?_
   ·rw [hb];refine aj (indexByte mH b) (ax ?_ rfl) (aa rfl);unfold strings_IndexByte;rw [Int.toNat_natCast];congr 2;exact UInt8.ofNat_toNat
   ·simp only [rz];by_cases h:indexByte mH b < 0
    ·rw [if_pos h];exact ae nt (aa rfl)
    ·rw [if_neg h];exact af nt (ag oH (aa rfl))
theorem rc {l:Bytes}(hs:iD l≠[]):1<=(iD l).length/\(iD l).length<=l.length:=by
 have h0:1<=(iD l).length:=by cases h:iD l with | nil=>exact absurd h hs | cons _ _=>simp
 refine ⟨h0,?_⟩;unfold iD
 cases h:oq.find? (λ t=>hasPrefix l t) with
 | some t=>exact hasPrefix_le (List.find?_some h)
 | none =>
  cases l with
  | nil=>exact bx _
  | cons b r =>
   show (OX (b::r)).length<=_;rw [rz];split <;> simp
def jd:Bytes->Bool
 | []=>false
 | b::r=>jg b||d3 b||decide (b.toNat=34)||decide (b.toNat=10)||!(iD (b::r)).isEmpty
theorem jV (b:UInt8)(r:Bytes):jd (b::r)=(jg b||d3 b||decide (b.toNat=34)||decide (b.toNat=10)||!(iD (b::r)).isEmpty):=rfl
theorem wh (s:Bytes)(hs:s.length<=1000000000){b:UInt8}{r:Bytes}(h:(b::r) <:+ s)(o:Int)(d:ao):Ev2 (λ n _=>dU n (scx s (b::r) o d)) (·=(jd (b::r),scx s (b::r) o d)):=by
 obtain ⟨f1,f2,f3,f4,f5,f6⟩:=jF b;have S':=iJ h;simp only [dU,scx];refine ag S' (ag (rY h) ?_);simp only [gH h,su];refine aj (jg b||d3 b||decide (b.toNat=34)||decide (b.toNat=10)) (av (λ q=>aa ?_) (λ q2=>av (λ q=>aa ?_) (λ q3=>av (λ q=>aa ?_) (λ q5=>aa ?_)))) ?_
 ·rw [f2.1 O]; rfl
 ·rw [f3.1 O]; simp
 ·rw [decide_eq_true (f4.1 O)]; simp
 ·have e2:jg b=false:=by rw [Bool.eq_false_iff]; exact λ w=>q2 (by rw [f2.2 w]; rfl)
  have e3:d3 b=false:=by rw [Bool.eq_false_iff]; exact λ w=>q3 (by rw [f3.2 w]; rfl)
  have e5:¬ b.toNat=34:=λ w=>q5 (by rw [f4.2 w]; rfl);rw [e2,e3,decide_eq_false e5];refine eqB ?_;simp only [Bool.or_false,Bool.false_or,decide_eq_true_eq];constructor
  ·intro w; exact f5.1 O
  ·intro w; rw [f5.2 w]; rfl
 ·refine av (λ q=>aa ?_) (λ q=>ag ⟨S'.1,by omega,by omega⟩ ?_)
  ·rw [jV,q]; rfl
  ·rw [qV h];refine aj _ (vP (b::r) (by have:=h.length_le; omega)) (aa ?_);rw [Bool.not_eq_true] at q;rw [jV,q,Bool.false_or];congr 1
   cases iD (b::r) <;> simp
theorem Ia (s:Bytes)(hs:s.length<=1000000000)(o:Int)(d:ao)(p:UInt8->Bool)(x y:Nat)(hp:∀ c,p c=true↔ll c=x\/ll c=y):∀ (l:Bytes),l <:+ s->Ev2 (λ _ m=>cg (x:Int) (y:Int) m (scx s l o d)) (·=scx s (l.dropWhile p) o d)
 | [],_=>by
  refine aw ?_;simp only [cg];refine aj (false,scx s [] o d) (aj _ (ax (qF s [] o d) Z) og) og
 | b::r,h=>by
  have S':=iJ h;refine aw ?_;simp only [cg];refine aj (p b,scx s (b::r) o d) (aj _ xq (ae G ?_)) ?_
  ·simp only [scx];refine ag S' (ag (rY h) ?_);simp only [gH h,su];refine av (λ q=>aa ?_) (λ q=>ag S' (ag ?_ (aa ?_)))
   ·rw [(hp b).2 (.inl O)]
   ·have:=UInt8.toNat_lt b; omega
   ·congr 1;refine eqB ?_;rw [decide_eq_true_eq,hp b];omega
  ·cases hb:p b
   ·rw [List.dropWhile_cons_of_neg qD];exact rJ
   ·rw [List.dropWhile_cons_of_pos hb];refine ae rfl ?_;simp only [scx];refine ag aB ?_;rw [<- show pz s r=pz s (b::r)+1 from jQ];exact Ia s hs o d p x y hp r (ee h)
theorem tz (p:UInt8->Bool)(l:Bytes):l.take (l.length - (l.dropWhile p).length)=l.takeWhile p:=by
 have h:=List.takeWhile_append_dropWhile (p:=p) (l:=l);have hl:=congrArg List.length h;rw [ph] at hl
 conv=>lhs; rw [<- h]
 rw [List.take_append_of_le_length (by rw [h]; omega),List.take_of_length_le (by rw [h]; omega)]
theorem Cg (s l:Bytes)(hs:s.length<=1000000000)(h:l <:+ s)(o:Int)(d:ao)(p:UInt8->Bool)(x y:Nat)(hp:∀ c,p c=true↔ll c=x\/ll c=y):Ev2 (λ n _=>fu n (scx s l o d) (x:Int) (y:Int)) (·=(l.takeWhile p,scx s (l.dropWhile p) o d)):=by
 simp only [fu];refine aj _ (aO (f:=λ _ m=>cg (x:Int) (y:Int) m (scx s l o d)) (Ia s hs o d p x y hp l h)) ?_;simp only [scx];have h1:=ua h;have h2:pz s l<=pz s (l.dropWhile p):=by have:=(lu (p:=p) l).length_le; unfold pz; omega
 refine ag ⟨h1,h2,qc⟩ (aa ?_);rw [pK h (lu l),tz]
theorem G4 (c:UInt8):idB c=true↔ll c=2\/ll c=3:=by
 obtain ⟨f1,f2,f3,f4,f5,f6⟩:=jF c;rw [f2,f3]; simp [idB]
theorem Mo (c:UInt8):d3 c=true↔ll c=3\/ll c=3:=by
 obtain ⟨f1,f2,f3,f4,f5,f6⟩:=jF c;rw [f3]; simp
theorem xt (s l:Bytes)(o:Int)(d:ao)(k a:Int):cz (scx s l o d) k a=some (false,scx s l o (ao.mk k a [])):=rfl
theorem Ni (s:Bytes)(hs:s.length<=1000000000){b:UInt8}{r:Bytes}(h:(b::r) <:+ s)(o:Int)(d:ao):Ev2 (λ _ _=>dT (scx s (b::r) o d)) (·=if jx (decodeL (b::r)) then (false,scx s (b::r) o d) else (true,scx s ((b::r).drop (decodeL (b::r)).2) o d)):=by
 have S':=iJ h;simp only [dT,scx];refine ag ⟨S'.1,by omega,by omega⟩ ?_;rw [qV h]
 have hd:bm (b::r)=some (((decodeL (b::r)).1:Int),((decodeL (b::r)).2:Int)):=by
  exact Ce
 refine aj _ (ax hd rfl) ?_;have hdf:=iA (b::r) G;have M':=h.length_le;generalize decodeL (b::r)=D at hdf ⊢;obtain ⟨c,w⟩:=D;simp only at hdf ⊢
 have hbad:Ev2 (λ _ _=>(if (c:Int)=65533 then if (w:Int)=1 then some true else if (c:Int) < 32 then some true else some (decide ((c:Int)=127)) else if (c:Int) < 32 then some true else some (decide ((c:Int)=127)):Option Bool)) (·=decide (jx (c,w))):=by
  exact KC
 refine aj _ hbad ?_;by_cases hb:jx (c,w)
 ·rw [if_pos hb];exact ae qq (aa rfl)
 ·rw [if_neg hb];refine af qq (ag (bv O (by have:=qc (s:=s) (l:=b::r); omega)) (aa ?_));rw [lH hdf.2.1]
end Go.Ab.R06
end
section
namespace Go.Ab.R06
open Go.Ab Go.Ab.RB Go.Lib
section
variable {p:Prop}
theorem Bg (h:p:=by
 exact ae (by rw [hx.1]; rfl) (aa ⟨Z,hx.2⟩)):p:=h
theorem Iw (h:p:=by
 congr 1
 cases kh f (out.length+1) l' with
 | inl e=>rfl
 | inr ts =>
  show (_,_)=(_,_)
  rw [List.append_assoc]; rfl):p:=h
theorem xc (h:p:=by
 simp only [show c=4 from q,true_and]):p:=h
theorem x4 (h:p:=by
 cases h; exact ⟨List.suffix_cons _ _,Nat.lt_succ_self _⟩):p:=h
theorem AL (h:p:=by
 rw [<- show pz s r=pz s (b::r)+1 from jQ]; rfl):p:=h
theorem va (h:p:=by exact bv (by show _<=pz s (b::r)+1; omega) (by show pz s (b::r)+1<=_; omega)):p:=h
theorem I0 (h:p:=by exact aj _ (ax (xt _ _ _ _ _ _) Z) (aa ⟨Z,Z⟩)):p:=h
theorem Kp (h:p:=by exact ⟨S'.1,by show pz s (b::r)<=(s.length:Int); omega,by show (s.length:Int)<=(s.length:Int); omega⟩):p:=h
theorem AW (h:p:=by exact ax (xt _ _ _ _ _ _) Z):p:=h
end
abbrev SE:=Int×Option Nat
def jY (src:Bytes->SE⊕Bytes):Bytes->SE⊕(Int×Bytes×Bytes)
 | []=>.inl (2,some 0)
 | b::r=>if jg b=true then (if 64 < ((b::r).takeWhile idB).length then .inl (7,some (b::r).length) else .inr (1,(b::r).takeWhile idB,(b::r).dropWhile idB))
  else if d3 b=true then .inr (2,(b::r).takeWhile d3,(b::r).dropWhile d3)
  else if b.toNat=10 then .inr (5,[10],r)
  else if b.toNat=34 then (match src r with | .inl e=>.inl e | .inr r'=>.inr (3,r.take (r.length - r'.length - 1),r'))
  else if iD (b::r)=[] then .inl (2,some (b::r).length) else .inr (4,iD (b::r),(b::r).drop (iD (b::r)).length)
mutual
def fA:Nat->Nat->Bytes->SE⊕Bytes
 | 0,_,_=>.inl (40,none)
 | _+1,_,[]=>.inl (40,none)
 | f+1,k,b::r=>if b.toNat=34 then .inr r
  else if hasPrefix (b::r) [36,36,123]=true then fA f k ((b::r).drop 3)
  else if hasPrefix (b::r) [36,123]=true then (if 32<=k then .inl (4,some (b::r).length) else match jl f (k+1) 1 ((b::r).drop 2) with | .inl e=>.inl e | .inr l=>fA f k l)
  else match (if b.toNat=92 then r else b::r) with
   | []=>.inl (40,none)
   | c::t=>if jx (decodeL (c::t)) then .inl (2,some (c::t).length) else fA f k ((c::t).drop (decodeL (c::t)).2)
def jl:Nat->Nat->Nat->Bytes->SE⊕Bytes
 | 0,_,_,_=>.inl (40,none)
 | f+1,k,n,l=>match fF false l with
  | []=>.inl (40,none)
  | b::r=>match jY (fA f k) (b::r) with
   | .inl e=>.inl e
   | .inr (c,t,l')=>if c=4/\t=[125] then (if n=1 then .inr l' else jl f k (n - 1) l') else if c=4/\t=[123] then jl f k (n+1) l' else jl f k n l'
end
theorem kB (src:Bytes->SE⊕Bytes)(b:UInt8)(r:Bytes):jY src (b::r)=if jg b=true then (if 64 < ((b::r).takeWhile idB).length then .inl (7,some (b::r).length) else .inr (1,(b::r).takeWhile idB,(b::r).dropWhile idB))
  else if d3 b=true then .inr (2,(b::r).takeWhile d3,(b::r).dropWhile d3)
  else if b.toNat=10 then .inr (5,[10],r)
  else if b.toNat=34 then (match src r with | .inl e=>.inl e | .inr r'=>.inr (3,r.take (r.length - r'.length - 1),r'))
  else if iD (b::r)=[] then .inl (2,some (b::r).length) else .inr (4,iD (b::r),(b::r).drop (iD (b::r)).length):=rfl
theorem nF (f k:Nat)(b:UInt8)(r:Bytes):fA (f+1) k (b::r)=if b.toNat=34 then .inr r
  else if hasPrefix (b::r) [36,36,123]=true then fA f k ((b::r).drop 3)
  else if hasPrefix (b::r) [36,123]=true then (if 32<=k then .inl (4,some (b::r).length) else match jl f (k+1) 1 ((b::r).drop 2) with | .inl e=>.inl e | .inr l=>fA f k l)
  else match (if b.toNat=92 then r else b::r) with
   | []=>.inl (40,none)
   | c::t=>if jx (decodeL (c::t)) then .inl (2,some (c::t).length) else fA f k ((c::t).drop (decodeL (c::t)).2):=by rw [fA]; rfl
def Iu (q:Nat->Bytes->SE⊕Bytes)(n:Nat):SE⊕(Int×Bytes×Bytes)->SE⊕Bytes
 | .inl e=>.inl e
 | .inr (c,t,l')=>if c=4/\t=[125] then (if n=1 then .inr l' else q (n - 1) l') else if c=4/\t=[123] then q (n+1) l' else q n l'
def PM (q:Nat->Bytes->SE⊕Bytes)(src:Bytes->SE⊕Bytes)(n:Nat):Bytes->SE⊕Bytes
 | []=>.inl (40,none)
 | b::r=>Iu q n (jY src (b::r))
theorem GE (q:Nat->Bytes->SE⊕Bytes)(src:Bytes->SE⊕Bytes)(n:Nat):PM q src n []=.inl (40,none):=rfl
theorem nR (q:Nat->Bytes->SE⊕Bytes)(src:Bytes->SE⊕Bytes)(n:Nat)(b:UInt8)(r:Bytes):PM q src n (b::r)=Iu q n (jY src (b::r)):=rfl
theorem rb (q:Nat->Bytes->SE⊕Bytes)(n:Nat)(e:SE):Iu q n (.inl e)=.inl e:=rfl
theorem oY (q:Nat->Bytes->SE⊕Bytes)(n:Nat)(c:Int)(t l':Bytes):Iu q n (.inr (c,t,l'))=if c=4/\t=[125] then (if n=1 then .inr l' else q (n - 1) l') else if c=4/\t=[123] then q (n+1) l' else q n l':=rfl
theorem nT (f k n:Nat)(l:Bytes):jl (f+1) k n l=PM (jl f k) (fA f k) n (fF false l):=by
 rw [jl]
 cases fF false l with
 | nil=>rfl
 | cons b r =>
  show (match jY (fA f k) (b::r) with
   | .inl e=>.inl e
   | .inr (c,t,l')=>if c=4/\t=[125] then (if n=1 then .inr l' else jl f k (n - 1) l') else if c=4/\t=[123] then jl f k (n+1) l' else jl f k n l')=Iu (jl f k) n (jY (fA f k) (b::r))
  cases jY (fA f k) (b::r) with
  | inl e=>rfl
  | inr z=>rfl
theorem kO {src:Bytes->SE⊕Bytes}{l:Bytes}(hsrc:∀ r r',r.length < l.length->src r=.inr r'->r' <:+ r/\r'.length < r.length){c:Int}{t l':Bytes}(h:jY src l=.inr (c,t,l')):l' <:+ l/\l'.length < l.length:=by
 cases l with
 | nil=>cases h
 | cons b r =>
  rw [kB] at h;split at h
  ·rename_i hb;split at h
   ·cases h
   ·cases h
    refine ⟨lu _,?_⟩;rw [List.dropWhile_cons_of_pos (by simp [idB,hb])];exact Nat.lt_succ_of_le (lu r).length_le
  split at h
  ·rename_i hb
   cases h
   refine ⟨lu _,?_⟩;rw [List.dropWhile_cons_of_pos hb];exact Nat.lt_succ_of_le (lu r).length_le
  split at h
  ·exact x4
  split at h
  ·split at h
   ·cases h
   ·rename_i r' hr
    cases h
    obtain ⟨h1,h2⟩:=hsrc r _ (Nat.lt_succ_self _) hr;exact ⟨h1.trans (List.suffix_cons _ _),Nat.lt_succ_of_lt h2⟩
  split at h
  ·cases h
  ·rename_i hs
   cases h
   have:=rc hs;refine ⟨List.drop_suffix _ _,?_⟩;rw [ld]; simp only [aq] at this ⊢; omega
theorem gQ:∀ (f k:Nat),(∀ l l',fA f k l=.inr l'->l' <:+ l/\l'.length < l.length)/\(∀ n l l',jl f k n l=.inr l'->l' <:+ l/\l'.length < l.length)
 | 0,k=>⟨λ l l' h=>(by rw [fA] at h; cases h),λ n l l' h=>(by rw [jl] at h; cases h)⟩
 | f+1,k=>by
  have ih:=gQ f;constructor
  ·intro l l' h
   cases l with
   | nil=>rw [fA] at h; cases h
   | cons b r =>
    rw [nF] at h;split at h
    ·exact x4
    split at h
    ·obtain ⟨h1,h2⟩:=(ih k).1 _ _ h;exact ⟨h1.trans (List.drop_suffix _ _),by have:=ld (i:=3) (l:=b::r); simp only [aq] at this ⊢; omega⟩
    split at h
    ·split at h
     ·cases h
     ·split at h
      ·cases h
      ·rename_i l1 hl1;obtain ⟨h1,h2⟩:=(ih (k+1)).2 _ _ _ hl1;obtain ⟨h3,h4⟩:=(ih k).1 _ _ h;exact ⟨h3.trans (h1.trans (List.drop_suffix _ _)),by have:=ld (i:=2) (l:=b::r); simp only [aq] at this ⊢; omega⟩
    ·have hs:(if b.toNat=92 then r else b::r) <:+ b::r:=by split; exact List.suffix_cons _ _; exact List.suffix_rfl
     split at h
     ·cases h
     ·rename_i c t hct;rw [hct] at hs;split at h
      ·cases h
      ·obtain ⟨h1,h2⟩:=(ih k).1 _ _ h;exact ⟨h1.trans ((List.drop_suffix _ _).trans hs),by have:=hs.length_le; have:=(List.drop_suffix (decodeL (c::t)).2 (c::t)).length_le; omega⟩
  ·intro n l l' h;rw [nT] at h;have hs:=nC false l;generalize hbr:fF false l=l0 at h hs
   cases l0 with
   | nil=>cases h
   | cons b r =>
    rw [nR] at h
    cases hl1:jY (fA f k) (b::r) with
    | inl e=>rw [hl1] at h; cases h
    | inr z =>
     obtain ⟨c,t,l1⟩:=z;rw [hl1,oY] at h;obtain ⟨h1,h2⟩:=kO (λ r r' _ hr=>(ih k).1 _ _ hr) hl1;have h3:=hs.length_le
     have key:∀ n,jl f k n l1=.inr l'->l' <:+ l/\l'.length < l.length:=λ n hn=>by
      obtain ⟨h4,h5⟩:=(ih k).2 _ _ _ hn;exact ⟨h4.trans (h1.trans hs),by omega⟩
     split at h
     ·split at h
      ·cases h; exact ⟨h1.trans hs,by omega⟩
      ·exact key _ h
     split at h
     ·exact key _ h
     ·exact key _ h
def rt (s:Bytes)(o:Int)(e:SE):ao:=ao.mk e.1 (match e.2 with | some n=>(s.length:Int) - (n:Int) | none=>o) []
def EU (s:Bytes)(o o':Int)(d:ao)(q:SE⊕Bytes)(r:Bool×ab):Prop:=match q with
 | .inl e=>r.1=false/\r.2.AT=rt s o e
 | .inr l=>r=(true,scx s l o' d)
def PP (s l:Bytes)(o o':Int)(d:ao)(q:SE⊕(Int×Bytes×Bytes))(r:ac×Bool×ab):Prop:=match q with
 | .inl e=>r.2.1=false/\r.2.2.AT=rt s o e
 | .inr (c,t,l')=>r=(ac.mk c t (pz s l),true,scx s l' o' d)
theorem KJ {s:Bytes}(hs:s.length<=1000000000){o o':Int}{d:ao}{k:Nat}{src:Bytes->SE⊕Bytes}{b:UInt8}{r:Bytes}(h:(b::r) <:+ s)(hsuf:∀ l',src r=.inr l'->l' <:+ r/\l'.length < r.length)(ho:¬ b.toNat=34->o'=(scx s (b::r) o d).IS)
  {oE:Int} (hsrc:b.toNat=34->Ev2 (λ n _=>cy n (scx s (b::r) o d) (k:Int)) (EU s oE o' d (src r))) (hb:jd (b::r)=true) :
  Ev2 (λ n _=>bb n (scx s (b::r) o d) (k:Int)) (PP s (b::r) oE o' d (jY src (b::r))):=by
 obtain ⟨f1,f2,f3,f4,f5,f6⟩:=jF b;have S':=iJ h;have hle:=h.length_le;refine aP ?_;simp only [bb];rw [kB];have hat':(0:Int)<=(scx s (b::r) o d).fat/\(scx s (b::r) o d).fat < ((scx s (b::r) o d).fs.length:Int):=S';refine ag hat' (ag (rY h) ?_);simp only [show byt (scx s (b::r) o d).fs (scx s (b::r) o d).fat=(b.toNat:Int) from gH h,su];by_cases h2:jg b=true
 ·have hn34:¬ b.toNat=34:=λ q=>by have:=(mC b).1 h2; omega
  rw [if_pos h2];have hc:=f2.2 h2;by_cases hl:64 < ((b::r).takeWhile idB).length
  ·rw [if_pos hl];refine cm (ae O (aj _ (Cg s (b::r) hs h o d idB 2 3 G4) (ae pr (aj _ AW (aa ?_)))));exact ⟨rfl,rfl⟩
  ·rw [if_neg hl];refine cm (ae O (aj _ (Cg s (b::r) hs h o d idB 2 3 G4) (af pr (aa (aa ?_)))));rw [ho hn34]; rfl
 rw [if_neg h2];have c2:¬ ((ll b:Nat):Int)=2:=λ q=>h2 (f2.1 O);by_cases h3:d3 b=true
 ·have hn34:¬ b.toNat=34:=λ q=>by have:=(jq b).1 h3; omega
  rw [if_pos h3];have hc:=f3.2 h3;refine cm (af c2 (ae O (aj _ (Cg s (b::r) hs h o d d3 3 3 Mo) (aa (aa ?_)))));rw [ho hn34]; rfl
 rw [if_neg h3];have c3:¬ ((ll b:Nat):Int)=3:=λ q=>h3 (f3.1 O);by_cases h10:b.toNat=10
 ·rw [if_pos h10];have hc:=f5.2 h10;refine cm (af c2 (af c3 (ae O (ag va (aa (aa ?_))))));rw [ho O];show (ac.mk 5 [10] (pz s (b::r)),true,ab.mk s (pz s (b::r)+1) o d)=_;exact AL
 rw [if_neg h10];have c6:¬ ((ll b:Nat):Int)=6:=λ q=>h10 (f5.1 O);by_cases h34:b.toNat=34
 ·rw [if_pos h34];have hc:=f4.2 h34;refine cm (af c2 (af c3 (af c6 (ae O (ah _ (hsrc h34) λ x hx=>?_)))))
  cases hq:src r with
  | inl e =>
   rw [hq] at hx;exact Bg
  | inr l' =>
   rw [hq] at hx;obtain ⟨g1,g2⟩:=hsuf l' hq;have hx:x=(true,scx s l' o' d):=hx;subst hx;have e1:(scx s (b::r) o d).fat+1=pz s r:=(jQ (b:=b)).symm;have hl':l' <:+ s:=g1.trans (ee h);have e2:(scx s l' o' d).fat - 1=(s.length:Int) - ((l'.length+1:Nat):Int):=by show pz s l' - 1=_; unfold pz; omega
   have hrl:=(ee h).length_le;have hd:r.drop (r.length - (l'.length+1)) <:+ r:=List.drop_suffix _ _;have hdl:(r.drop (r.length - (l'.length+1))).length=l'.length+1:=by rw [ld]; omega
   have e3:(scx s l' o' d).fat - 1=pz s (r.drop (r.length - (l'.length+1))):=by rw [e2]; unfold pz; rw [hdl]
   refine af G (ag va (ag (bv (by rw [e2]; omega) (by rw [e2]; omega)) (ag ?_ (aa (aa ?_)))))
   ·rw [e1,e3];refine ⟨ua (ee h),?_,qc⟩;unfold pz; rw [hdl]; omega
   ·show _=_;rw [e1,e3,show sub (scx s l' o' d).fs (pz s r) (pz s (r.drop (r.length - (l'.length+1))))=_ from pK (ee h) hd,hdl,show r.length - (l'.length+1)=r.length - l'.length - 1 by omega]
    rfl
 rw [if_neg h34];have c5:¬ ((ll b:Nat):Int)=5:=λ q=>h34 (f4.1 O)
 have hsn:iD (b::r)≠[]:=by
  rw [jV,Bool.not_eq_true _ |>.mp h2,Bool.not_eq_true _ |>.mp h3,decide_eq_false h34,decide_eq_false h10] at hb;intro q; rw [q] at hb; cases hb
 rw [if_neg hsn];have Sk:=rc hsn;refine cm (af c2 (af c3 (af c6 (af c5 (ag Kp ?_)))));rw [show sub (scx s (b::r) o d).fs (scx s (b::r) o d).fat ((scx s (b::r) o d).fs.length:Int)=b::r from qV h];refine aj _ (vP (b::r) O) (ag (bv (by show _<=pz s (b::r)+_; omega) (by show pz s (b::r)+_<=_; omega)) (aa (aa ?_)));rw [ho h34];show (ac.mk 4 (iD (b::r)) (pz s (b::r)),true,ab.mk s (pz s (b::r)+((iD (b::r)).length:Int)) o d)=_;rw [<- lH Sk.2]; rfl
def A4 (s:Bytes)(o:Int)(d:ao)(q:SE⊕Bytes)(r:ab⊕(Bool×ab)):Prop:=match r with
 | .inl x=>x=scx s [] o d/\q=.inl (40,none)
 | .inr y=>EU s o o d q y
def L6 (s:Bytes)(o:Int)(d:ao)(q:SE⊕Bytes)(r:ab⊕(Bool×ab)):Prop:=match r with
 | .inl x=>∃ l,q=.inr l/\x=scx s l o d
 | .inr y=>∃ e,q=.inl e/\y.1=false/\y.2.AT=rt s o e
theorem za {src:Bytes->SE⊕Bytes}{b:UInt8}{r:Bytes}(h:jd (b::r)=false):jY src (b::r)=.inl (2,some (b::r).length):=by
 rw [jV] at h;simp only [Bool.or_eq_false_iff,decide_eq_false_iff_not,Bool.not_eq_false',List.isEmpty_iff] at h;obtain ⟨⟨⟨⟨h1,h2⟩,h3⟩,h4⟩,h5⟩:=h;rw [kB,if_neg (by simp [h1]),if_neg (by simp [h2]),if_neg h4,if_neg h3,if_pos h5]
theorem sY {s:Bytes}(hs:s.length<=1000000000){o:Int}{d:ao}{k:Nat}{b:UInt8}{r:Bytes}(h:(b::r) <:+ s){q:SE⊕Bytes}(hl:Ev2 (λ n m=>aN (aF n) (k:Int) m (scx s r o d)) (A4 s o d q)) :
  Ev2 (λ n _=>de n (scx s (b::r) o d) (k:Int)) (EU s o o d q):=by
 have S':=iJ h;have hle:=h.length_le;refine aP ?_;simp only [de];refine ag va ?_
 have e:ab.mk (scx s (b::r) o d).fs ((scx s (b::r) o d).fat+1) (scx s (b::r) o d).IS (scx s (b::r) o d).AT=scx s r o d:=by
  show ab.mk s (pz s (b::r)+1) o d=_;exact AL
 rw [e];refine cm (aQ (aO (f:=λ n m=>aN (aF n) (k:Int) m (scx s r o d)) hl) λ x hx=>?_)
 cases x with
 | inl x =>
  obtain ⟨rfl,rfl⟩:=hx;exact aj _ AW (aa ⟨rfl,rfl⟩)
 | inr y=>exact hx
theorem El {s:Bytes}(hs:s.length<=1000000000){o:Int}(ho:0<=o){d:ao}{k:Nat}{b:UInt8}{r:Bytes}(h:(b::r) <:+ s){q:SE⊕Bytes}(hl:Ev2 (λ n m=>aN (aF n) (k:Int) m (scx s r o d)) (A4 s o d q)) :
  Ev2 (λ n _=>cy n (scx s (b::r) o d) (k:Int)) (EU s o o d q):=by
 refine aP ?_;simp only [cy];exact af (by show ¬ o < 0; omega) (sY hs h hl)
theorem BU {s:Bytes}(hs:s.length<=1000000000){d:ao}{k:Nat}{b:UInt8}{r:Bytes}(h:(b::r) <:+ s){q:SE⊕Bytes}(hl:Ev2 (λ n m=>aN (aF n) (k:Int) m (scx s r (pz s (b::r)) d)) (A4 s (pz s (b::r)) d q)) :
  Ev2 (λ n _=>cy n (scx s (b::r) (-1) d) (k:Int)) (EU s (pz s (b::r)) (-1) d q):=by
 refine aP ?_;simp only [cy];refine ae (by show (-1:Int) < 0; omega) (ah _ (sY hs h hl) λ x hx=>aa ?_)
 cases q with
 | inl e=>exact hx
 | inr l =>
  have hx:x=(true,scx s l (pz s (b::r)) d):=hx;subst hx; rfl
theorem tY (s:Bytes)(b:UInt8)(r:Bytes)(o:Int)(d:ao):bE (scx s (b::r) o d)=some (true,scx s (b::r) o d):=qF _ _ _ _
theorem tP (s:Bytes)(o:Int)(d:ao):bE (scx s [] o d)=some (false,scx s [] o d):=qF _ _ _ _
theorem IY (l p:Bytes):strings_HasPrefix l p=some (hasPrefix l p):=rfl
theorem CR {s l:Bytes}{o:Int}{d:ao}{k:Nat}(hk:k<=l.length):ab.mk s (pz s l+(k:Int)) o d=scx s (l.drop k) o d:=by rw [scx,lH hk]
theorem yZ {s r:Bytes}{b:UInt8}{o:Int}{d:ao}:ab.mk s (pz s (b::r)+1) o d=scx s r o d:=by rw [scx,show pz s r=pz s (b::r)+1 from jQ]
theorem Ht {s:Bytes}(hs:s.length<=1000000000){o:Int}{d:ao}{f k:Nat}
  (ih1:∀ l,l <:+ s->l.length < f->Ev2 (λ n m=>aN (aF n) (k:Int) m (scx s l o d)) (A4 s o d (fA f k l)))
  (ih2:∀ l,l <:+ s->l.length < f->k < 32->Ev2 (λ nn m=>aI nn (bb nn) (k:Int) m 1 (scx s l o d)) (L6 s o d (jl f (k+1) 1 l))) :
  ∀ l,l <:+ s->l.length < f+1->Ev2 (λ n m=>aN (aF n) (k:Int) m (scx s l o d)) (A4 s o d (fA (f+1) k l)):=by
 intro l h hf;refine aw ?_;simp only [aN]
 cases l with
 | nil =>
  refine aj _ (ax (tP s o d) Z) (af G (aa ⟨Z,?_⟩));rw [fA]
 | cons b r =>
  have S':=iJ h;have hle:=h.length_le;have hfr:r.length < f:=by simp only [aq] at hf; omega
  refine aj _ (ax (tY s b r o d) Z) (ae Z (ag Kp ?_));rw [nF];simp only [show sub (scx s (b::r) o d).fs (scx s (b::r) o d).fat ((scx s (b::r) o d).fs.length:Int)=b::r from qV h,show byt (b::r) 0=(b.toNat:Int) from rfl];refine cm (ag oH ?_);by_cases h34:b.toNat=34
  ·rw [if_pos h34];refine ae O (ag va (aa ?_));show (true,ab.mk s (pz s (b::r)+1) o d)=_;rw [yZ]
  rw [if_neg h34];refine af O (aj _ (ax (IY _ _) rfl) ?_);by_cases h3:hasPrefix (b::r) [36,36,123]=true
  ·rw [if_pos h3];have hp:=hasPrefix_le h3;simp only [aq,n8] at hp;refine ae h3 (ag (bv (by show _<=pz s (b::r)+3; omega) (by show pz s (b::r)+3<=_; omega)) (aa ?_));have:=ih1 ((b::r).drop 3) (sM 3 h) tJ;rw [<- CR (k:=3) oH] at this;exact this
  rw [if_neg h3];refine af h3 (aj _ (ax (IY _ _) rfl) ?_);by_cases h2:hasPrefix (b::r) [36,123]=true
  ·rw [if_pos h2];have hp:=hasPrefix_le h2;simp only [aq,n8] at hp;refine ae h2 (ah (EU s o o d (if 32<=k then .inl (4,some (b::r).length) else jl f (k+1) 1 ((b::r).drop 2))) ?_ λ x hx=>?_)
   ·refine aP ?_;simp only [aF];by_cases hk:32<=k
    ·rw [if_pos hk];exact ae O I0
    ·rw [if_neg hk];refine af O (ag (bv (by show _<=pz s (b::r)+2; omega) (by show pz s (b::r)+2<=_; omega)) ?_);have:=ih2 ((b::r).drop 2) (sM 2 h) tJ O;rw [<- CR (k:=2) oH] at this;refine cm (aQ (aO (f:=λ nn m=>aI nn (bb nn) (k:Int) m 1 (ab.mk s (pz s (b::r)+2) o d)) this) λ y hy=>?_)
     cases y with
     | inl y =>
      obtain ⟨l',e1,rfl⟩:=hy;rw [e1];exact aa rfl
     | inr y =>
      obtain ⟨e,e1,e2,e3⟩:=hy;rw [e1];exact ⟨e2,e3⟩
   ·by_cases hk:32<=k
    ·rw [if_pos hk] at hx ⊢;exact Bg
    ·rw [if_neg hk] at hx ⊢
     cases hq:jl f (k+1) 1 ((b::r).drop 2) with
     | inl e =>
      rw [hq] at hx;exact Bg
     | inr l' =>
      rw [hq] at hx;have hx:x=(true,scx s l' o d):=hx;subst hx;obtain ⟨g1,g2⟩:=(gQ f (k+1)).2 _ _ _ hq;refine af G (aa (ih1 l' (g1.trans (sM 2 h)) ?_));rw [ld] at g2; simp only [aq] at g2; omega
  rw [if_neg h2];refine af h2 (aj (scx s (if b.toNat=92 then r else b::r) o d) (ag oH ?_) ?_)
  ·by_cases h92:b.toNat=92
   ·rw [if_pos h92];refine ae O (ag va (aa ?_));show ab.mk s (pz s (b::r)+1) o d=_;rw [yZ]
   ·rw [if_neg h92];exact ut
  ·have hsf:(if b.toNat=92 then r else b::r) <:+ s:=by split; exact ee h; exact h
   have hln:(if b.toNat=92 then r else b::r).length<=r.length+1:=by split <;> simp
   generalize (if b.toNat=92 then r else b::r)=l1 at hsf hln ⊢
   cases l1 with
   | nil =>
    refine aj _ (ax (tP s o d) rfl) (ae rfl (aa ?_));have:=ih1 [] List.nil_suffix (by simp only [n8]; omega);obtain ⟨f,rfl⟩:∃ g,f=g+1:=⟨f - 1,by omega⟩
    rw [fA] at this;exact this
   | cons c t =>
    refine aj _ (ax (tY s c t o d) Z) (af G (aj _ (Ni s hs hsf o d) ?_));have hdf:=iA (c::t) G;by_cases hb:jx (decodeL (c::t))
    ·simp only [if_pos hb];exact ae rfl I0
    ·simp only [if_neg hb];refine af G (aa (ih1 _ (sM _ hsf) ?_));rw [ld]; simp only [aq] at hln ⊢; omega
theorem Gm {s:Bytes}(hs:s.length<=1000000000){o:Int}(ho:0<=o){d:ao}{f k:Nat}(hk:k < 32)
  (ih1:∀ l,l <:+ s->l.length < f->Ev2 (λ n m=>aN (aF n) ((k+1:Nat):Int) m (scx s l o d)) (A4 s o d (fA f (k+1) l)))
  (ih2:∀ l n,1<=n->n+l.length<=s.length+1->l <:+ s->l.length < f->Ev2 (λ nn m=>aI nn (bb nn) (k:Int) m (n:Int) (scx s l o d)) (L6 s o d (jl f (k+1) n l))) :
  ∀ l n,1<=n->n+l.length<=s.length+1->l <:+ s->l.length < f+1->Ev2 (λ nn m=>aI nn (bb nn) (k:Int) m (n:Int) (scx s l o d)) (L6 s o d (jl (f+1) (k+1) n l)):=by
 intro l n hn hnl h hf;refine aw ?_;simp only [aI];rw [nT];have hsk:=nC false l;have hd:decide (o < 0)=false:=decide_eq_false O;have hskip:=Dj s l hs h o d;rw [hd] at hskip;refine ae O (cm (aj _ hskip ?_));have Sk:=hsk.length_le;have hss:=hsk.trans h;generalize fF false l=l1 at hsk Sk hss ⊢
 cases l1 with
 | nil=>exact aj _ (ax (tP s o d) Z) (ae Z (aj _ (ax (xt _ _ _ _ _ _) Z) (aa ⟨_,Z,Z,Z⟩)))
 | cons b r =>
  refine aj _ (ax (tY s b r o d) Z) (af G (aj _ (wh s hs hss o d) ?_));rw [nR]
  cases hb:jd (b::r)
  ·rw [za hb,rb];exact ae rfl (aj _ AW (aa ⟨_,rfl,rfl,rfl⟩))
  ·have hbl:=hss.length_le;simp only [aq] at Sk hbl;have htok:=KJ (k:=k+1) (src:=fA f (k+1)) (o':=o) (oE:=o) hs hss (λ l' hl'=>(gQ f (k+1)).1 _ _ hl') Y (λ _=>El hs ho hss (ih1 r (ee hss) O)) hb (d:=d);refine af G (ag aB (ah (PP s (b::r) o o d (jY (fA f (k+1)) (b::r))) htok λ x hx=>?_))
   cases hq:jY (fA f (k+1)) (b::r) with
   | inl e =>
    rw [hq] at hx;rw [rb];exact ae (by rw [hx.1]; rfl) (aa ⟨e,rfl,rfl,hx.2⟩)
   | inr z =>
    obtain ⟨c,t,l'⟩:=z;rw [hq] at hx;have hx:x=(ac.mk c t (pz s (b::r)),true,scx s l' o d):=hx;subst hx;obtain ⟨g1,g2⟩:=kO (λ r r' _ hr=>(gQ f (k+1)).1 _ _ hr) hq;simp only [aq] at g2;have hl's:=g1.trans hss;rw [oY];refine af G (aj (if c=4/\t=[123] then (n:Int)+1 else (n:Int)) (aj (decide (c=4/\t=[123])) (av (λ q=>aa ?_) (λ q=>aa ?_)) (av (λ q=>ag aB (aa ?_)) (λ q=>aa ?_))) (aj (decide (c=4/\t=[125])) (av (λ q=>aa ?_) (λ q=>aa ?_)) ?_))
    ·exact xc
    ·symm; rw [decide_eq_false_iff_not]; exact λ w=>q w.1
    ·rw [decide_eq_true_eq] at q; rw [if_pos q]
    ·rw [decide_eq_true_eq] at q; rw [if_neg q]
    ·exact xc
    ·symm; rw [decide_eq_false_iff_not]; exact λ w=>q w.1
    by_cases h125:c=4/\t=[125]
    ·have hn123:¬ (c=4/\t=[123]):=λ w=>by rw [h125.2] at w; exact absurd w.2 (by decide)
     rw [if_neg hn123];simp only [if_pos h125];refine ae (by simpa using h125) (ag aB (aa ?_));by_cases h1:n=1
     ·subst h1;rw [if_pos rfl];refine aw ?_;simp only [aI];exact af O (aa ⟨l',rfl,rfl⟩)
     ·rw [if_neg h1];have:=ih2 l' (n - 1) O O  hl's O;rw [show ((n - 1:Nat):Int)=(n:Int) - 1 by omega] at this;exact this
    ·simp only [if_neg h125];refine af (by simpa using h125) (aa ?_);by_cases h123:c=4/\t=[123]
     ·rw [if_pos h123];simp only [if_pos h123];exact ih2 l' (n+1) O O  hl's O
     ·rw [if_neg h123];simp only [if_neg h123];exact ih2 l' n hn O hl's O
theorem Dv {s:Bytes}(hs:s.length<=1000000000){o:Int}(ho:0<=o){d:ao}:∀ (f:Nat),
  (∀ (k:Nat) l,l <:+ s->l.length < f->Ev2 (λ n m=>aN (aF n) (k:Int) m (scx s l o d)) (A4 s o d (fA f k l))) /\
  (∀ (k:Nat) l n,k < 32->1<=n->n+l.length<=s.length+1->l <:+ s->l.length < f->Ev2 (λ nn m=>aI nn (bb nn) (k:Int) m (n:Int) (scx s l o d)) (L6 s o d (jl f (k+1) n l)))
 | 0=>⟨λ k l _ h=>absurd h (Nat.not_lt_zero _),λ k l n _ _ _ _ h=>absurd h (Nat.not_lt_zero _)⟩
 | f+1=>by
  obtain ⟨i1,i2⟩:=Dv hs ho (d:=d) f;refine ⟨λ k=>Ht hs (i1 k) (λ l h hf hk=>?_),λ k l n hk=>Gm hs ho hk (i1 (k+1)) (λ l n a b c e=>i2 k l n hk a b c e) l n⟩;exact i2 k l 1 hk (bx _) (by have:=h.length_le; omega) h hf
theorem Lt {s:Bytes}(hs:s.length<=1000000000){d:ao}{f:Nat}{b:UInt8}{r:Bytes}(h:(b::r) <:+ s)(hf:r.length < f)(hb:jd (b::r)=true) :
  Ev2 (λ n _=>bb n (scx s (b::r) (-1) d) 0) (PP s (b::r) (pz s (b::r)) (-1) d (jY (fA f 0) (b::r))) :=
 KJ (k:=0) hs h (λ _l' hl'=>(gQ f 0).1 _ _ hl') Y (λ _=>BU hs h ((Dv hs (ua h) f).1 0 r (ee h) hf)) hb
def MN (n:Nat)(e:SE):SE:=(e.1,some (e.2.getD n))
abbrev Tk:=Int×Bytes×Nat
def FA (q:Bytes->SE⊕List Tk)(n:Nat):SE⊕(Int×Bytes×Bytes)->SE⊕List Tk
 | .inl e=>.inl (MN n e)
 | .inr (k,t,l')=>(match q l' with
  | .inl e=>.inl e
  | .inr ts=>.inr ((k,t,n)::ts))
def CJ (q:Bytes->SE⊕List Tk)(src:Bytes->SE⊕Bytes)(c:Nat):Bytes->SE⊕List Tk
 | []=>if c=16384 then .inl (14,some 0) else .inr [(6,[],0)]
 | b::r=>if jd (b::r)=false then .inl (2,some (b::r).length) else if c=16384 then .inl (14,some (b::r).length)
   else FA q (b::r).length (jY src (b::r))
def kh:Nat->Nat->Bytes->SE⊕List Tk
 | 0,_,_=>.inl (40,none)
 | f+1,c,l=>CJ (kh f (c+1)) (fA f 0) c (fF true l)
theorem ml (f c:Nat)(l:Bytes):kh (f+1) c l=CJ (kh f (c+1)) (fA f 0) c (fF true l):=rfl
theorem nX (q:Bytes->SE⊕List Tk)(src:Bytes->SE⊕Bytes)(c:Nat):CJ q src c []=if c=16384 then .inl (14,some 0) else .inr [(6,[],0)]:=rfl
theorem mh (q:Bytes->SE⊕List Tk)(src:Bytes->SE⊕Bytes)(c:Nat)(b:UInt8)(r:Bytes):CJ q src c (b::r)=if jd (b::r)=false then .inl (2,some (b::r).length) else if c=16384 then .inl (14,some (b::r).length)
   else FA q (b::r).length (jY src (b::r)):=rfl
theorem oa (q:Bytes->SE⊕List Tk)(n:Nat)(k:Int)(t l':Bytes):FA q n (.inr (k,t,l'))=match q l' with
  | .inl e=>.inl e
  | .inr ts=>.inr ((k,t,n)::ts):=rfl
def tkS (s:Bytes)(z:Tk):ac:=ac.mk z.1 z.2.1 ((s.length:Int) - (z.2.2:Int))
def IQ (s:Bytes)(out:List ac)(q:SE⊕List Tk):List ac×ao:=match q with
 | .inl e=>([],rt s 0 e)
 | .inr ts=>(out++ts.map (tkS s),ao.mk 0 0 [])
theorem zh (s l:Bytes)(o:Int)(e:SE):rt s (pz s l) e=rt s o (MN l.length e):=by
 obtain ⟨k,n⟩:=e
 cases n <;> rfl
theorem CE {s:Bytes}(hs:s.length<=1000000000){d:ao}:∀ (f:Nat) (l:Bytes) (out:List ac),out.length<=16384->l <:+ s->l.length < f->Ev2 (λ n m=>fW n m out (scx s l (-1) d)) (·=.inr (IQ s out (kh f out.length l)))
 | 0,l,out,_,_,h=>absurd h (Nat.not_lt_zero _)
 | f+1,l,out,hout,h,hf=>by
  refine aw ?_;simp only [fW];rw [ml];have hsk:=nC true l;have hskip:=Dj s l hs h (-1) d;rw [show decide ((-1:Int) < 0)=true from rfl] at hskip;refine aj _ hskip ?_;have Sk:=hsk.length_le;have hss:=hsk.trans h;generalize fF true l=l1 at hsk Sk hss ⊢
  cases l1 with
  | nil =>
   refine aj (false,scx s [] (-1) d) (aj _ (ax (tP s (-1) d) Z) og) (af G ?_);rw [nX];by_cases hc:out.length=16384
   ·rw [if_pos hc];refine ae O (aa ?_)
    rfl
   ·rw [if_neg hc];refine af O (aj _ (ax (tP s (-1) d) rfl) (ae rfl (ag ns (aa ?_))))
    rfl
  | cons b r =>
   refine aj (!jd (b::r),scx s (b::r) (-1) d) (aj _ (ax (tY s b r (-1) d) Z) (ae Z (aj _ (wh s hs hss (-1) d) (aa Z)))) ?_;rw [mh]
   cases hb:jd (b::r)
   ·exact ru
   ·refine af G ?_;rw [if_neg G];by_cases hc:out.length=16384
    ·rw [if_pos hc];exact sd
    ·rw [if_neg hc];simp only [aq] at Sk;refine af O (aj _ (ax (tY s b r (-1) d) rfl) (af G (ah _ (Lt hs hss (f:=f) O hb) λ x hx=>?_)))
     cases hq:jY (fA f 0) (b::r) with
     | inl e =>
      rw [hq] at hx;refine ae (by rw [hx.1]; rfl) (aa ?_);rw [hx.2,zh s (b::r) 0]
      rfl
     | inr z =>
      obtain ⟨c,t,l'⟩:=z;rw [hq] at hx;have hx:x=(ac.mk c t (pz s (b::r)),true,scx s l' (-1) d):=hx;subst hx;obtain ⟨g1,g2⟩:=kO (λ r r' _ hr=>(gQ f 0).1 _ _ hr) hq;simp only [aq] at g2;have ih:=CE hs (d:=d) f l' (out++[ac.mk c t (pz s (b::r))]) kt (g1.trans hss) O;simp only [ph,aq,n8,Nat.zero_add] at ih;rw [oa];refine af G (ag ns (NU ih ?_));exact Iw
def eG (s:Bytes):List ac×ao:=if 65536 < s.length then ([],ao.mk 3 0 []) else IQ s [] (kh (s.length+1) 0 s)
theorem LZ (s:Bytes):Ev2 (λ n _=>mu n s) (·=eG s):=by
 simp only [mu];unfold eG;by_cases h:65536 < s.length
 ·rw [if_pos h];exact sd
 ·rw [if_neg h];refine af O (aj (scx s s (-1) (ao.mk 0 0 [])) (ax ?_ rfl) ?_)
  ·rw [scx,DF]; rfl
  ·have:=CE (s:=s) O (d:=ao.mk 0 0 []) (s.length+1) s [] G List.suffix_rfl (Nat.lt_succ_self _);exact iC _ (aO (f:=λ n m=>fW n m [] (scx s s (-1) (ao.mk 0 0 []))) this) Z
end Go.Ab.R06
end
section
namespace Go.Ab.R06
open Go.Ab Go.Ab.RB Go.Lib
section
variable {p:Prop}
theorem JA (h:p:=by
 simp only [List.any_cons,List.any_nil,Bool.or_false];by_cases h1:s=[110,117,108,108]
 ·simp [h1]
 by_cases h2:s=[116,114,117,101]
 ·simp [h2]
 by_cases h3:s=[102,97,108,115,101]
 ·simp [h3]
 by_cases h4:s=[102,111,114]
 ·simp [h4]
 by_cases h5:s=[105,110]
 ·simp [h5]
 by_cases h6:s=[105,102]
 ·simp [h6]
 simp [h1,h2,h3,h4,h5,h6]):p:=h
theorem uH (h:p:=by exact ax (PZ _) Z):p:=h
end
def v0:am:=am.mk 0 0 [] [] []
def e0:ad:=ad.mk 0 0 [] [] v0 [] 0
def E4 (v:am)(at':Int):ad:=ad.mk 1 0 [] [] v [] at'
def xe (s:Bytes)(at':Int):ad:=E4 (am.mk 3 0 s [] []) at'
def PU:List Bytes:=[[110,117,108,108],[116,114,117,101],[102,97,108,115,101],[102,111,114],[105,110],[105,102]]
def kR (s:Bytes):Bool:=PU.any (λ t=>decide (s=t))
theorem PZ (s:Bytes):fX s=some (kR s):=by
 unfold fX kR PU;exact JA
def vB (v:am):Int:=if v.Ar=1/\v.E'≠0/\v.E'≠1\/v.Ar≠1/\v.Ar≠2/\v.E'≠0\/v.Ar≠3/\v.If≠[]\/v.Df≠[]\/v.C'≠[] then 1
 else if v.Ar=2/\¬ (-iw<=v.E'/\v.E'<=iw) then 5
 else if v.Ar=3/\4096 < v.If.length then 3
 else if v.Ar=3/\validD v.If=false then 1 else 0
def xI (e:ad):Bool:=(iM e).getD false
def p9 (e:ad):Int:=if xI e=false then 1 else if e.Ar=1 then vB e.A'
 else if (e.Ar=3\/e.Ar=4\/e.Ar=9\/e.Ar=12\/e.Ar=13)/\(fm e.AI=false\/e.Ar≠4/\kR e.AI=true) then 7
 else if e.Gw≠[]/\(fm e.Gw=false\/kR e.Gw=true) then 7 else 0
mutual
def pY:Nat->Nat->ad->Int×Nat
 | c,lv,.mk k op nm key v kids at'=>if 32 < lv then (4,c) else if 4096<=c then (14,c)
  else if p9 (.mk k op nm key v kids at')=0 then nO (c+1) (lv+1) kids else (p9 (.mk k op nm key v kids at'),c+1)
def nO:Nat->Nat->List ad->Int×Nat
 | c,_,[]=>(0,c)
 | c,lv,x::r=>if (pY c lv x).1=0 then nO (pY c lv x).2 lv r else pY c lv x
end
theorem CH (c lv:Nat)(e:ad):pY c lv e=if 32 < lv then (4,c) else if 4096<=c then (14,c) else if p9 e=0 then nO (c+1) (lv+1) e.By else (p9 e,c+1):=by
 cases e; rw [pY]; rfl
theorem vV (c lv:Nat)(x:ad)(r:List ad):nO c lv (x::r)=if (pY c lv x).1=0 then nO (pY c lv x).2 lv r else pY c lv x:=by rw [nO]
def chk (e:ad):Int:=(pY 0 1 e).1
def nlT (t:ac):Bool:=decide (t.Ar=5)
def nf (b:Bool)(l:List ac):List ac:=if b then l.dropWhile nlT else l
def hd (b:Bool)(l:List ac):ac:=(nf b l).headD (ac.mk 6 [] 0)
def tl (b:Bool)(l:List ac):List ac:=(nf b l).tail
def sgB (b:Bool)(l:List ac)(s:Bytes):Bool:=decide ((hd b l).Ar=4)&&decide ((hd b l).B'=s)
def wdB (b:Bool)(l:List ac)(s:Bytes):Bool:=decide ((hd b l).Ar=1)&&decide ((hd b l).B'=s)
abbrev PE:=Int×Int
abbrev PR (α:Type):=Option (PE⊕(α×List ac))
def pb {α β:Type}(x:PR α)(k:α->List ac->PR β):PR β:=match x with
 | none=>none
 | some (.inl e)=>some (.inl e)
 | some (.inr (a,l))=>k a l
def pok {α:Type}(a:α)(l:List ac):PR α:=some (.inr (a,l))
def per {α:Type}(k a:Int):PR α:=some (.inl (k,a))
def ek (b:Bool)(s:Bytes)(l:List ac):PR Unit:=if sgB b l s then pok () (tl b l) else per 2 (hd b l).fAt
def y9 (b:Bool)(s:Bytes)(l:List ac):PR Unit:=if wdB b l s then pok () (tl b l) else per 2 (hd b l).fAt
def xE (b:Bool)(l:List ac):PR Bytes:=if (hd b l).Ar=1/\kR (hd b l).B'=false then pok (hd b l).B' (tl b l) else per 2 (hd b l).fAt
def iz:Nat->List (Bytes×Int)
 | 0=>[([124,124],3)]
 | 1=>[([38,38],4)]
 | 2=>[([61,61],5),([33,61],6)]
 | 3=>[([60],7),([60,61],8),([62],9),([62,61],10)]
 | 4=>[([43],11),([45],12)]
 | _=>[([42],13),([47],14),([37],15)]
def vu (b:Bool)(l:List ac)(SR:Nat):Option (Bytes×Int):=(iz SR).find? (λ p=>sgB b l p.1)
def mvT (base:Int)(t:ac):ac:=ac.mk t.Ar t.B' (t.fAt+base)
mutual
def fV:Nat->Nat->Bytes->Option (Option Bytes)
 | 0,_,_=>none
 | _+1,_,[]=>some none
 | f+1,d,b::r=>if b.toNat=123 then fV f (d+1) r
  else if b.toNat=125 then (if d=1 then some (some r) else fV f (d - 1) r)
  else if b.toNat=34 then (match ix f r with | none=>none | some none=>some none | some (some r')=>fV f d r')
  else fV f d r
def ix:Nat->Bytes->Option (Option Bytes)
 | 0,_=>none
 | _+1,[]=>some none
 | f+1,b::r=>if b.toNat=34 then some (some r)
  else if b.toNat=92 then ix f (r.drop 1)
  else if hasPrefix (b::r) [36,36,123]=true then ix f ((b::r).drop 3)
  else if hasPrefix (b::r) [36,123]=true then (match fV f 1 ((b::r).drop 2) with | none=>none | some none=>some none | some (some r')=>ix f r')
  else ix f r
end
def iE:Bytes->Int⊕(Bytes×Nat)
 | []=>.inl 40
 | b::r=>if b.toNat=92 then (if (cV r).2.2=0 then .inr (encodeRune (cV r).1,(cV r).2.1.toNat+1) else .inl (cV r).2.2)
  else if jx (decodeL (b::r))\/b.toNat=34 then .inl 2 else .inr ((b::r).take (decodeL (b::r)).2,(decodeL (b::r)).2)
def flS (frm pos:Int)(text:Bytes)(parts:List ad):List ad:=if frm < pos then parts++[xe text frm] else parts
def qE:PE⊕ad->PE⊕ad
 | .inl e=>.inl e
 | .inr e=>if chk e=0 then .inr e else .inl (chk e,e.fAt)
def sC:PE⊕ad->ad×ao
 | .inl e=>(e0,ao.mk e.1 e.2 [])
 | .inr e=>(e,ao.mk 0 0 [])
def qT (at':Int):Int×Int×Bytes×List ad×Bool->ad
 | (frm,pos,text,parts,Td)=>if Td then ad.mk 2 0 [] [] v0 (flS frm pos text parts) at' else xe text at'
mutual
def gi:Nat->Bool->List ac->PR ad
 | 0,_,_=>none
 | f+1,b,l=>pb (nU f 0 b l) λ c l=>if sgB b l [63] then pb (gi f b (tl b l)) λ a l=>pb (ek b [58] l) λ _ l=>pb (gi f b l) λ d l=>pok (ad.mk 8 0 [] [] v0 [c,a,d] c.fAt) l else pok c l
def nU:Nat->Nat->Bool->List ac->PR ad
 | 0,_,_,_=>none
 | f+1,SR,b,l=>if 5 < SR then unS f b l else pb (nU f (SR+1) b l) λ e l=>oW f SR b e l
def oW:Nat->Nat->Bool->ad->List ac->PR ad
 | 0,_,_,_,_=>none
 | f+1,SR,b,e,l=>match vu b l SR with
  | none=>pok e l
  | some p=>pb (nU f (SR+1) b (tl b l)) λ x l=>oW f SR b (ad.mk 7 p.2 [] [] v0 [e,x] e.fAt) l
def unS:Nat->Bool->List ac->PR ad
 | 0,_,_=>none
 | f+1,b,l=>if sgB b l [33] then pb (unS f b (tl b l)) λ e l'=>pok (ad.mk 6 1 [] [] v0 [e] (hd b l).fAt) l'
  else if sgB b l [45] then pb (unS f b (tl b l)) λ e l'=>pok (ad.mk 6 2 [] [] v0 [e] (hd b l).fAt) l'
  else pb (lE f b l) λ e l=>j4 f b e l
def j4:Nat->Bool->ad->List ac->PR ad
 | 0,_,_,_=>none
 | f+1,b,e,l=>if sgB b l [46] then (if (hd b (tl b l)).Ar=1 then j4 f b (ad.mk 4 0 (hd b (tl b l)).B' [] v0 [e] e.fAt) (tl b (tl b l)) else per 2 (hd b (tl b l)).fAt)
  else if sgB b l [91] then pb (gi f true (tl b l)) λ x l=>pb (ek true [93] l) λ _ l=>j4 f b (ad.mk 5 0 [] [] v0 [e,x] e.fAt) l
  else pok e l
def lE:Nat->Bool->List ac->PR ad
 | 0,_,_=>none
 | f+1,b,l=>if (hd b l).Ar=2 then (if (oG (hd b l).B').2=0 then pok (E4 (am.mk 2 (oG (hd b l).B').1 [] [] []) (hd b l).fAt) (tl b l) else per (oG (hd b l).B').2 (hd b l).fAt)
  else if (hd b l).Ar=3 then qn f b l
  else if (hd b l).Ar=1 then mT f b l
  else if sgB b l [40] then pb (gi f true (tl b l)) λ e l=>pb (ek true [41] l) λ _ l=>pok e l
  else if sgB b l [91] then (if wdB true (tl b l) [102,111,114] then lC f (hd b l).fAt 12 (tl true (tl b l)) else pb (ip f [93] (tl b l)) λ ks l'=>pok (ad.mk 10 0 [] [] v0 ks (hd b l).fAt) l')
  else if sgB b l [123] then (if wdB true (tl b l) [102,111,114] then lC f (hd b l).fAt 13 (tl true (tl b l)) else pb (oX f (tl b l)) λ ks l'=>pok (ad.mk 11 0 [] [] v0 ks (hd b l).fAt) l')
  else per 2 (hd b l).fAt
def qn:Nat->Bool->List ac->PR ad
 | 0,_,_=>none
 | f+1,b,l=>match jC f (hd b l).B' ((hd b l).fAt+1) with
  | none=>none
  | some (.inl e)=>some (.inl e)
  | some (.inr e)=>pok (ad.mk e.Ar e.fOp e.AI e.Gw e.A' e.By (hd b l).fAt) (tl b l)
def mT:Nat->Bool->List ac->PR ad
 | 0,_,_=>none
 | f+1,b,l=>if (hd b l).B'=[110,117,108,108] then pok (E4 v0 (hd b l).fAt) (tl b l)
  else if (hd b l).B'=[116,114,117,101] then pok (E4 (am.mk 1 1 [] [] []) (hd b l).fAt) (tl b l)
  else if (hd b l).B'=[102,97,108,115,101] then pok (E4 (am.mk 1 0 [] [] []) (hd b l).fAt) (tl b l)
  else if kR (hd b l).B'=true then per 2 (hd b l).fAt
  else if sgB b (tl b l) [40] then pb (ip f [41] (tl b (tl b l))) λ ks l'=>pok (ad.mk 9 0 (hd b l).B' [] v0 ks (hd b l).fAt) l'
  else pok (ad.mk 3 0 (hd b l).B' [] v0 [] (hd b l).fAt) (tl b l)
def ip:Nat->Bytes->List ac->PR (List ad)
 | 0,_,_=>none
 | f+1,e,l=>if sgB true l e then pok [] (tl true l)
  else pb (gi f true l) λ x l=>if sgB true l [44] then pb (ip f e (tl true l)) λ r l=>pok (x::r) l else pb (ek true e l) λ _ l=>pok [x] l
def oX:Nat->List ac->PR (List ad)
 | 0,_=>none
 | f+1,l=>if sgB true l [125] then pok [] (tl true l)
  else pb (na f l) λ k l=>pb (ek true [61] l) λ _ l=>pb (gi f true l) λ x l=>if sgB true l [44] then pb (oX f (tl true l)) λ r l=>pok (k::x::r) l else pb (ek true [125] l) λ _ l=>pok [k,x] l
def na:Nat->List ac->PR ad
 | 0,_=>none
 | f+1,l=>if (hd true l).Ar=1 then pok (xe (hd true l).B' (hd true l).fAt) (tl true l)
  else if (hd true l).Ar=3 then qn f true l
  else if sgB true l [40] then pb (gi f true (tl true l)) λ e l=>pb (ek true [41] l) λ _ l=>pok e l
  else per 2 (hd true l).fAt
def lC:Nat->Int->Int->List ac->PR ad
 | 0,_,_,_=>none
 | f+1,at',k,l=>pb (xE true l) λ v l =>
  pb (if sgB true l [44] then pb (xE true (tl true l)) λ w l=>pok (w,v) l else pok (v,[]) l) λ nk l =>
  pb (y9 true [105,110] l) λ _ l=>pb (gi f true l) λ a l=>pb (ek true [58] l) λ _ l=>pb (gi f true l) λ c l =>
  pb (if k=13 then pb (ek true [61,62] l) λ _ l=>pb (gi f true l) λ d l=>pok [a,c,d] l else pok [a,c] l) λ ks l =>
  pb (if wdB true l [105,102] then pb (gi f true (tl true l)) λ e l=>pok (ks++[e]) l else pok ks l) λ ks l =>
  pb (ek true (if k=13 then [125] else [93]) l) λ _ l=>pok (ad.mk k 0 nk.1 nk.2 v0 ks at') l
def jC:Nat->Bytes->Int->Option (PE⊕ad)
 | 0,_,_=>none
 | f+1,s,at'=>match eH f at' at' [] [] false s with
  | none=>none
  | some (.inl e)=>some (.inl e)
  | some (.inr z)=>some (qE (.inr (qT at' z)))
def eH:Nat->Int->Int->Bytes->List ad->Bool->Bytes->Option (PE⊕(Int×Int×Bytes×List ad×Bool))
 | 0,_,_,_,_,_,_=>none
 | f+1,frm,pos,text,parts,Td,l=>match l with
  | []=>some (.inr (frm,pos,text,parts,Td))
  | c::r=>if hasPrefix (c::r) [36,36,123]=true then (if 4096 < text.length+2 then some (.inl (3,frm)) else eH f frm (pos+3) (text++[36,123]) parts Td ((c::r).drop 3))
   else if hasPrefix (c::r) [36,123]=true then (match fV f 1 ((c::r).drop 2) with
    | none=>none
    | some none=>some (.inl (40,pos))
    | some (some r')=>match gv f (((c::r).drop 2).take (((c::r).drop 2).length - r'.length - 1)) (pos+2) with
     | none=>none
     | some (.inl e)=>some (.inl e)
     | some (.inr e)=>eH f (pos+((c::r).length - r'.length:Nat)) (pos+((c::r).length - r'.length:Nat)) [] (flS frm pos text parts++[e]) true r')
   else match iE (c::r) with
    | .inl k=>some (.inl (k,pos))
    | .inr (t,n)=>if 4096 < text.length+t.length then some (.inl (3,frm)) else eH f frm (pos+(n:Int)) (text++t) parts Td ((c::r).drop n)
def gv:Nat->Bytes->Int->Option (PE⊕ad)
 | 0,_,_=>none
 | f+1,s,base=>if (eG s).2.Ar≠0 then some (.inl ((eG s).2.Ar,base+(eG s).2.fAt))
  else match gi f true ((eG s).1.map (mvT base)) with
   | none=>none
   | some (.inl e)=>some (.inl e)
   | some (.inr (e,l))=>if (hd true l).Ar=6 then some (.inr e) else some (.inl (2,(hd true l).fAt))
end
theorem bG {α σ β:Type}{f:Nat->Nat->Option (α×σ)}{g:Nat->Nat->α×σ->Option β}{a:α}{mk:Nat->σ}{P:Nat->Prop}{Q:β->Prop}(h:Ev2 f (λ z=>z.1=a/\∃ j,z.2=mk j/\P j))(k:∀ j,P j->Ev2 (λ n m=>g n m (a,mk j)) Q) :
  Ev2 (λ n m=>(f n m).bind (g n m)) Q:=by
 refine ah _ h ?_;rintro ⟨z1,z2⟩ ⟨h1,j,h2,h3⟩;replace h1:z1=_:=h1; subst h1;replace h2:z2=_:=h2; subst h2;exact k j h3
end Go.Ab.R06
end
section
namespace Go.Ab.R06
open Go.Ab Go.Ab.RB Go.Lib
section
variable {p:Prop}
theorem Ir (h:p:=by
 rintro r ⟨j',h1,h2,h3,h4⟩;refine ⟨j',h1,by omega,h3,?_⟩
 rw [h4,hd',mZ,if_pos ⟨by simp [h.1],h.2⟩]):p:=h
theorem Ip (h:p:=by
 refine bG (gC hL M' h) λ j ⟨h3,h4,h5⟩=>?_;refine aj (false,L,(j:Int),Mp,base,e.1,e.2,[]) ?_ (aa ⟨j,Z,h3⟩);have:(!(!decide ((eD e).Ar=0)))=false:=by show (!(!decide (e.1=0)))=false; simp [he]
 exact af (by show ¬ (!(!decide ((eD e).Ar=0)))=true; simp [this]) (aa Z)):p:=h
theorem J9 (h:p:=by
 show al.mk L j (Mp+1 - 1) base (eD e)=_
 rw [Int.add_sub_cancel]):p:=h
theorem JX (h:p:=by
 rintro ⟨y1,y2⟩ ⟨g1,k,g2,g3,g4,g5⟩
 cases g2
 exact aa ⟨k,Z,g3,g4⟩):p:=h
theorem JD (h:p:=by
 cases hr:kR (hd b l).B' with
 | true=>rfl
 | false=>exact absurd ⟨h1,hr⟩ hs):p:=h
theorem Jj (h:p:=by
 rw [<- e] at Tc;rcases Nat.lt_or_ge (j+1) L.length with q | q
 ·exact q
 ·rw [List.drop_eq_nil_of_le q] at Tc; exact absurd rfl Tc):p:=h
theorem F3 (h:p:=by
 rintro _ ⟨j,rfl,h3⟩;refine ae rfl (ah _ (gC hL M' h3) ?_);rintro ⟨y1,y2⟩ ⟨g1,k,g2,g3,g4,g5⟩;replace g1:y1=_:=g1; subst g1; cases g2
 exact aj _ (ax (xJ he _ _ _ _) Z) (aa ⟨k,l,Z,g3⟩)):p:=h
theorem Ju (h:p:=by
 rw [if_neg hs] at hq; cases hq;refine ae (by simpa using hs) (ah _ (gC hL M' h3) ?_);rintro ⟨y1,y2⟩ ⟨g1,k,g2,g3,g4,g5⟩;replace g1:y1=_:=g1; subst g1; cases g2
 refine aj _ (ax (u4 _ _ _ _) Z) (aa ⟨(by decide:(2:Int)≠0),k,l,Z,g3⟩)):p:=h
theorem Iz (h:p:=by
 refine af (by simpa using h) (aa ⟨i,Z,bx _,by omega,?_⟩)
 rw [hd',mZ,if_neg (by simpa using h)]):p:=h
theorem JC (h:p:=by
 have:=vQ h2.2;rcases Nat.eq_zero_or_pos k with hk | hk
 ·subst hk; rw [List.drop_eq_nil_of_le O] at this; exact absurd rfl this
 ·exact hk):p:=h
theorem uI (h:p:=by exact aj _ (ax (u4 _ _ _ _) Z) (aa ⟨(by decide:(2:Int)≠0),j,l,Z,h3⟩)):p:=h
theorem x6 (h:p:=by exact ax (u4 _ _ _ _) Z):p:=h
theorem mr (h:p:=by exact bv (by show _<=Mp+1 - 1; omega) (by show Mp+1 - 1<=_; omega)):p:=h
theorem qt (h:p:=by exact bv (by show _<=Mp+1; omega) (by show Mp+1<=_; omega)):p:=h
theorem fR (h:p:=by exact bv (by show _<=(j:Int)+1; omega) (by show (j:Int)+1<=_; omega)):p:=h
theorem oN (h:p:=by exact aa ⟨Z,j,Z,h3⟩):p:=h
end
theorem kj {P:Int->Prop}{i:Nat}(h:P ((i+1:Nat):Int)):P ((i:Int)+1):=by rwa [Int.natCast_add,Int.natCast_one] at h
def TkB (t:ac):Prop:=0<=t.fAt/\t.fAt+(t.B'.length:Int)<=1000000000/\(t.Ar=3->t.fAt+1+(t.B'.length:Int)<=1000000000)/\(t.Ar=2->t.B'.all d3=true)
def Gd:List ac->Prop
 | []=>False
 | t::r=>TkB t/\((t.Ar=6/\r=[])\/(t.Ar≠6/\Gd r))
theorem MJ {t:ac}:nlT t=true↔t.Ar=5:=by simp [nlT]
theorem xN (b:Bool):nf b []=[]:=by cases b <;> rfl
theorem mZ (b:Bool)(t:ac)(r:List ac):nf b (t::r)=if b=true/\t.Ar=5 then nf b r else t::r:=by
 cases b with
 | false=>simp [nf]
 | true=>simp only [nf,if_true,true_and]; rw [List.dropWhile_cons]; simp only [MJ]
theorem KX (b:Bool):∀ (l:List ac),nf b (nf b l)=nf b l
 | []=>by rw [xN,xN]
 | t::r=>by
  rw [mZ];split
  ·exact KX b r
  ·rename_i h; rw [mZ,if_neg h]
theorem rl {b:Bool}:∀ {l:List ac},Gd l->Gd (nf b l)
 | [],h=>h.elim
 | t::r,h=>by
  rw [mZ];split
  ·rename_i h1;rcases h.2 with h2 | h2
   ·omega
   ·exact rl h2.2
  ·exact h
theorem AA (b:Bool):∀ (l:List ac),(nf b l).length<=l.length
 | []=>by rw [xN]; exact bx _
 | t::r=>by
  rw [mZ];split
  ·exact Nat.le_succ_of_le (AA b r)
  ·exact bx _
theorem wI (b:Bool)(base:Int):∀ (l:List ac),nf b (l.map (mvT base))=(nf b l).map (mvT base)
 | []=>by rw [th,xN,th]
 | t::r=>by
  rw [la,mZ,mZ,wI b base r];show (if b=true/\t.Ar=5 then _ else _)=_;split <;> rfl
theorem vQ {l:List ac}(h:Gd l):l≠[]:=by intro e; subst e; exact h
theorem qe {b:Bool}{l:List ac}(h:Gd (nf b l)):nf b l=hd b l::tl b l:=by
 unfold hd tl
 cases hn:nf b l with
 | nil=>rw [hn] at h; exact h.elim
 | cons t r=>rfl
theorem sX {b:Bool}{l:List ac}(h:Gd (nf b l)):TkB (hd b l):=by
 have:=h; rw [qe h] at this; exact this.1
theorem CQ {b:Bool}{l:List ac}(h:Gd (nf b l))(h6:(hd b l).Ar≠6):Gd (tl b l):=by
 have:=h; rw [qe h] at this;rcases this.2 with h2 | h2
 ·exact absurd h2.1 h6
 ·exact h2.2
theorem P4 {b:Bool}{l:List ac}(h:Gd (nf b l)):(tl b l).length < l.length:=by
 have h1:=congrArg List.length (qe h);have:=AA b l;rw [aq] at h1; omega
theorem lI {b:Bool}{l:List ac}{s:Bytes}:sgB b l s=true↔(hd b l).Ar=4/\(hd b l).B'=s:=by simp [sgB]
theorem x7 {b:Bool}{l:List ac}{s:Bytes}:wdB b l s=true↔(hd b l).Ar=1/\(hd b l).B'=s:=by simp [wdB]
theorem xX {base:Int}:∀ {L:List ac} {i:Nat},Gd (L.map (mvT base))->i < L.length->Gd ((L.drop i).map (mvT base))
 | [],_,h,_=>h.elim
 | t::r,0,h,_=>h
 | t::r,i+1,h,hi=>by
  rcases h.2 with h2 | h2
  ·have:r=[]:=List.map_eq_nil_iff.1 h2.2;subst this; simp at hi
  ·exact xX (L:=r) (i:=i) h2.2 (by simpa using hi)
theorem md {L:List ac}{i:Nat}(h:i < L.length):L.drop i=lat L (i:Int)::L.drop (i+1):=by
 rw [mW L i h]; exact List.drop_eq_getElem_cons h
section
variable {L:List ac} {base:Int}
def Pos (L:List ac)(base:Int)(i:Nat)(Mp:Int)(b:Bool)(l:List ac):Prop :=
 i < L.length/\0<=Mp/\Mp+((L.length - i:Nat):Int)<=1000000000/\b=decide (0 < Mp)/\nf b ((L.drop i).map (mvT base))=nf b l
theorem Pos.gd {i:Nat}{Mp:Int}{b:Bool}{l:List ac}(hL:Gd (L.map (mvT base)))(h:Pos L base i Mp b l):Gd (nf b l):=by
 rw [<- h.2.2.2.2]; exact rl (xX hL h.1)
theorem Mc (hL:Gd (L.map (mvT base)))(M':L.length<=1000000000){Mp:Int}{d:ao}{a:Int}:∀ (k i:Nat),i+k=L.length->0 < k ->
  Ev2 (λ _ m=>cI (.mk L a Mp base d) m (i:Int)) (λ j=>∃ j':Nat,j=(j':Int)/\i<=j'/\j' < L.length/\L.drop j'=nf (decide (0 < Mp)) (L.drop i)):=by
 intro k
 induction k with
 | zero=>intro i _ h; omega
 | succ k ih =>
  intro i hi _;have hd':=md (L:=L) (i:=i) O;refine aw ?_;simp only [cI];refine aj (decide (0 < Mp/\(lat L (i:Int)).Ar=5)) ?_ ?_
  ·refine av (λ h=>ag ⟨by omega,by show (i:Int) < (L.length:Int); omega⟩ (aa ?_)) (λ h=>aa ?_)
   ·have h:0 < Mp:=h;simp only [h,true_and]
   ·have h:¬ 0 < Mp:=h;simp [h]
  ·by_cases h:0 < Mp/\(lat L (i:Int)).Ar=5
   ·refine ae nt (ag aB ?_)
    have hk:0 < k:=by
     have hg:=xX hL (i:=i) O;rw [hd',la] at hg;rcases hg.2 with h2 | h2
     ·have h2:(lat L (i:Int)).Ar=6:=h2.1;omega
     ·exact JC
    refine aQ (kj (P:=λ j=>Ev2 (λ _ m=>cI (.mk L a Mp base d) m j) _) (ih (i+1) O hk)) ?_;exact Ir
   ·exact Iz
theorem Pos.ext {i j:Nat}{Mp:Int}{b:Bool}{l:List ac}(h:Pos L base i Mp b l)(h1:i<=j)(h2:j < L.length)(h3:L.drop j=nf b (L.drop i)):Pos L base j Mp b l:=by
 obtain ⟨q1,q2,q3,q4,q5⟩:=h;refine ⟨h2,q2,by omega,q4,?_⟩;rw [wI,h3,KX,<- wI,q5]
theorem Pos.any {i:Nat}{Mp:Int}{b:Bool}{l:List ac}(h:Pos L base i Mp b l):Pos L base i Mp b ((L.drop i).map (mvT base)):=⟨h.1,h.2.1,h.2.2.1,h.2.2.2.1,Z⟩
theorem gC (hL:Gd (L.map (mvT base)))(M':L.length<=1000000000){i:Nat}{Mp:Int}{b:Bool}{l:List ac}{d:ao}(h:Pos L base i Mp b l) :
  Ev2 (λ n _=>bq n (.mk L (i:Int) Mp base d)) (λ z=>z.1=hd b l/\∃ j:Nat,z.2=.mk L (j:Int) Mp base d/\Pos L base j Mp b l/\(L.drop j).map (mvT base)=nf b l/\i<=j):=by
 simp only [bq];have hi:=h.1;refine ah _ (aO (Mc hL M' (d:=d) (a:=(i:Int)) (L.length - i) i O O)) ?_;rintro x ⟨j,rfl,h1,h2,h3⟩;rw [<- h.2.2.2.1] at h3;have hg:Gd (nf b l):=h.gd hL;have hdr:(L.drop j).map (mvT base)=nf b l:=by rw [h3,<- wI,h.2.2.2.2]
 have hhd:mvT base (lat L (j:Int))=hd b l:=by
  have:=hdr;rw [md h2,la,qe hg] at this;exact (qr this).1
 have hb:=sX hg;rw [<- hhd] at hb;obtain ⟨b1,b2,-,-⟩:=hb;have b1:0<=(lat L (j:Int)).fAt+base:=b1;have b2:(lat L (j:Int)).fAt+base+((lat L (j:Int)).B'.length:Int)<=1000000000:=b2;refine ag ⟨by omega,by show (j:Int) < (L.length:Int); omega⟩ (ag (bv (by show _<=(lat L (j:Int)).fAt+base; omega) (by show (lat L (j:Int)).fAt+base<=_; omega)) (aa ⟨hhd,j,rfl,h.ext h1 h2 h3,hdr,h1⟩))
theorem Pos.next {j:Nat}{Mp:Int}{b:Bool}{l:List ac}(hL:Gd (L.map (mvT base)))(h:Pos L base j Mp b l)(hdr:(L.drop j).map (mvT base)=nf b l)(h6:(hd b l).Ar≠6) :
  Pos L base (j+1) Mp b (tl b l)/\(L.drop (j+1)).map (mvT base)=tl b l:=by
 have hg:Gd (nf b l):=h.gd hL
 have e:(L.drop (j+1)).map (mvT base)=tl b l:=by
  have:=hdr;rw [md h.1,la,qe hg] at this;exact (qr this).2
 have Tc:=vQ (CQ hg h6)
 have:j+1 < L.length:=by
  exact Jj
 obtain ⟨q1,q2,q3,q4,q5⟩:=h;exact ⟨⟨this,q2,by omega,q4,by rw [e]⟩,e⟩
theorem Mu (hL:Gd (L.map (mvT base)))(M':L.length<=1000000000){i:Nat}{Mp:Int}{b:Bool}{l:List ac}{d:ao}(h:Pos L base i Mp b l) :
  Ev2 (λ n _=>aJ n (.mk L (i:Int) Mp base d)) (λ z=>z.1=hd b l/\∃ j:Nat,z.2=.mk L (j:Int) Mp base d/\if (hd b l).Ar=6 then Pos L base j Mp b l else Pos L base j Mp b (tl b l)/\(L.drop j).map (mvT base)=tl b l/\i < j):=by
 simp only [aJ];refine bG (gC hL M' h) λ j ⟨h3,h4,h5⟩=>?_;have hj:=h3.1;by_cases h6:(hd b l).Ar=6
 ·refine aj (j:Int) (ae h6 (aa Z)) (aa ⟨Z,j,Z,?_⟩);rw [if_pos h6]; exact h3
 ·refine aj ((j:Int)+1) (af h6 (ag fR (aa Z))) (aa ⟨Z,j+1,Z,?_⟩);rw [if_neg h6]; exact ⟨(h3.next hL h4 h6).1,(h3.next hL h4 h6).2,by omega⟩
theorem eA (hL:Gd (L.map (mvT base)))(M':L.length<=1000000000){i:Nat}{Mp:Int}{b:Bool}{l:List ac}{d:ao}(h:Pos L base i Mp b l)(h6:(hd b l).Ar≠6) :
  Ev2 (λ n _=>aJ n (.mk L (i:Int) Mp base d)) (λ z=>z.1=hd b l/\∃ j:Nat,z.2=.mk L (j:Int) Mp base d/\Pos L base j Mp b (tl b l)/\(L.drop j).map (mvT base)=tl b l/\i < j) :=
 aQ (Mu hL M' h) λ z ⟨h1,j,h2,h3⟩=>⟨h1,j,h2,by rw [if_neg h6] at h3; exact h3⟩
theorem Mb (p:al)(k a:Int):bp p k a=some (e0,if p.AT.Ar=0 then .mk p.fl p.fat p.H' p.G' (.mk k a []) else .mk p.fl p.fat p.H' p.G' (.mk p.AT.Ar p.AT.fAt p.AT.AI)):=by
 simp only [bp,aR,cl];by_cases h:p.AT.Ar=0
 ·simp only [h]; rfl
 ·simp only [h]; rfl
def dOk:ao:=ao.mk 0 0 []
def eD (e:PE):ao:=ao.mk e.1 e.2 []
def Out {α:Type}(L:List ac)(base:Int)(Mp:Int)(b:Bool)(q:PE⊕(α×List ac))(z:α×al):Prop:=match q with
 | .inl e=>e.1≠0/\∃ (j:Nat) (l':List ac),z.2=.mk L (j:Int) Mp base (eD e)/\Pos L base j Mp b l'
 | .inr (x,l)=>z.1=x/\∃ j:Nat,z.2=.mk L (j:Int) Mp base dOk/\Pos L base j Mp b l
def GO (L:List ac)(base:Int)(Mp:Int)(b:Bool)(q:PE⊕(Unit×List ac))(z:al):Prop:=match q with
 | .inl e=>e.1≠0/\∃ (j:Nat) (l':List ac),z=.mk L (j:Int) Mp base (eD e)/\Pos L base j Mp b l'
 | .inr (_,l)=>∃ j:Nat,z=.mk L (j:Int) Mp base dOk/\Pos L base j Mp b l/\(L.drop j).map (mvT base)=l
theorem xm (hL:Gd (L.map (mvT base)))(M':L.length<=1000000000){i:Nat}{Mp:Int}{b:Bool}{l:List ac}(s:Bytes)(h:Pos L base i Mp b l) :
  Ev2 (λ n _=>aZ n (.mk L (i:Int) Mp base dOk) s) (λ z=>z.1=sgB b l s/\∃ j:Nat,z.2=.mk L (j:Int) Mp base dOk/\Pos L base j Mp b l):=by
 simp only [aZ,aR,cl];refine bG (gC hL M' h) λ j ⟨h3,h4,h5⟩=>?_;refine aj (sgB b l s,L,(j:Int),Mp,base,0,0,[]) ?_ oN;refine ae rfl (av (λ h=>aa ?_) (λ h=>aa ?_))
 ·have h:(hd b l).Ar=4:=h;simp only [sgB,h,decide_true,Bool.true_and] <;> rfl
 ·have h:¬ (hd b l).Ar=4:=h;simp only [sgB,h,decide_false,Bool.false_and] <;> rfl
theorem rv (hL:Gd (L.map (mvT base)))(M':L.length<=1000000000){i:Nat}{Mp:Int}{b:Bool}{l:List ac}{e:PE}(s:Bytes)(he:e.1≠0)(h:Pos L base i Mp b l) :
  Ev2 (λ n _=>aZ n (.mk L (i:Int) Mp base (eD e)) s) (λ z=>∃ j:Nat,z=(false,.mk L (j:Int) Mp base (eD e))/\Pos L base j Mp b l):=by
 simp only [aZ,aR,cl];exact Ip
theorem rm (hL:Gd (L.map (mvT base)))(M':L.length<=1000000000){i:Nat}{Mp:Int}{b:Bool}{l:List ac}(s:Bytes)(h:Pos L base i Mp b l) :
  Ev2 (λ n _=>cF n (.mk L (i:Int) Mp base dOk) s) (λ z=>z.1=wdB b l s/\∃ j:Nat,z.2=.mk L (j:Int) Mp base dOk/\Pos L base j Mp b l):=by
 simp only [cF,aR,cl];refine bG (gC hL M' h) λ j ⟨h3,h4,h5⟩=>?_;refine aj (wdB b l s,L,(j:Int),Mp,base,0,0,[]) ?_ oN;refine ae rfl (av (λ h=>aa ?_) (λ h=>aa ?_))
 ·have h:(hd b l).Ar=1:=h;simp only [wdB,h,decide_true,Bool.true_and] <;> rfl
 ·have h:¬ (hd b l).Ar=1:=h;simp only [wdB,h,decide_false,Bool.false_and] <;> rfl
theorem wL (hL:Gd (L.map (mvT base)))(M':L.length<=1000000000){i:Nat}{Mp:Int}{b:Bool}{l:List ac}{e:PE}(s:Bytes)(he:e.1≠0)(h:Pos L base i Mp b l) :
  Ev2 (λ n _=>cF n (.mk L (i:Int) Mp base (eD e)) s) (λ z=>∃ j:Nat,z=(false,.mk L (j:Int) Mp base (eD e))/\Pos L base j Mp b l):=by
 simp only [cF,aR,cl];exact Ip
theorem u4 (i Mp:Int)(k a:Int):bp (.mk L i Mp base dOk) k a=some (e0,.mk L i Mp base (eD (k,a))):=rfl
theorem xJ {e:PE}(he:e.1≠0)(i Mp:Int)(k a:Int):bp (.mk L i Mp base (eD e)) k a=some (e0,.mk L i Mp base (eD e)):=by
 rw [Mb,if_neg (show ¬ (eD e).Ar=0 from he)]
theorem od (hL:Gd (L.map (mvT base)))(M':L.length<=1000000000){i:Nat}{Mp:Int}{b:Bool}{l:List ac}(s:Bytes){q:PE⊕(Unit×List ac)}(h:Pos L base i Mp b l)(hq:ek b s l=some q) :
  Ev2 (λ n _=>cr n (.mk L (i:Int) Mp base dOk) s) (GO L base Mp b q):=by
 simp only [cr];refine bG (xm hL M' s h) λ j h3=>?_;unfold ek at hq;by_cases hs:sgB b l s=true
 ·rw [if_pos hs] at hq; cases hq;refine af (by simp [hs]) (ah _ (eA hL M' h3 (by have:=(lI.1 hs).1; omega)) ?_);exact JX
 ·exact Ju
theorem Bb (hL:Gd (L.map (mvT base)))(M':L.length<=1000000000){i:Nat}{Mp:Int}{b:Bool}{l:List ac}{e:PE}(s:Bytes)(he:e.1≠0)(h:Pos L base i Mp b l) :
  Ev2 (λ n _=>cr n (.mk L (i:Int) Mp base (eD e)) s) (λ z=>∃ (j:Nat) (l':List ac),z=.mk L (j:Int) Mp base (eD e)/\Pos L base j Mp b l'):=by
 simp only [cr];refine ah _ (rv hL M' s he h) ?_;exact F3
theorem Ah (hL:Gd (L.map (mvT base)))(M':L.length<=1000000000){i:Nat}{Mp:Int}{b:Bool}{l:List ac}(s:Bytes){q:PE⊕(Unit×List ac)}(h:Pos L base i Mp b l)(hq:y9 b s l=some q) :
  Ev2 (λ n _=>dm n (.mk L (i:Int) Mp base dOk) s) (GO L base Mp b q):=by
 simp only [dm];refine bG (rm hL M' s h) λ j h3=>?_;unfold y9 at hq;by_cases hs:wdB b l s=true
 ·rw [if_pos hs] at hq; cases hq;refine af (by simp [hs]) (ah _ (eA hL M' h3 (by have:=(x7.1 hs).1; omega)) ?_);exact JX
 ·exact Ju
theorem Ez (hL:Gd (L.map (mvT base)))(M':L.length<=1000000000){i:Nat}{Mp:Int}{b:Bool}{l:List ac}{e:PE}(s:Bytes)(he:e.1≠0)(h:Pos L base i Mp b l) :
  Ev2 (λ n _=>dm n (.mk L (i:Int) Mp base (eD e)) s) (λ z=>∃ (j:Nat) (l':List ac),z=.mk L (j:Int) Mp base (eD e)/\Pos L base j Mp b l'):=by
 simp only [dm];refine ah _ (wL hL M' s he h) ?_;exact F3
theorem Pos.out {j:Nat}{Mp:Int}{l l':List ac}(h:Pos L base j (Mp+1) true l)(h0:0<=Mp)(he:(L.drop j).map (mvT base)=l'):Pos L base j Mp (decide (0 < Mp)) l':=by
 obtain ⟨q1,q2,q3,q4,q5⟩:=h;exact ⟨q1,h0,by omega,rfl,by rw [he]⟩
theorem Hw (hL:Gd (L.map (mvT base)))(M':L.length<=1000000000){i:Nat}{Mp:Int}{l:List ac}(s:Bytes){q:PE⊕(Unit×List ac)}(h0:0<=Mp)(h:Pos L base i (Mp+1) true l)(hq:ek true s l=some q) :
  Ev2 (λ n _=>bz n (.mk L (i:Int) (Mp+1) base dOk) s) (GO L base Mp (decide (0 < Mp)) q):=by
 simp only [bz];refine ah _ (od hL M' s h hq) ?_;intro z hz;have hb:=h.2.2.1;rcases q with e | ⟨u,l'⟩
 ·obtain ⟨he,j,l',rfl,hp⟩:=hz;refine ag mr (aa ⟨he,j,(L.drop j).map (mvT base),?_,hp.out h0 rfl⟩);exact J9
 ·obtain ⟨j,rfl,hp,hx⟩:=hz;refine ag mr (aa ⟨j,?_,hp.out h0 hx,hx⟩);show al.mk L j (Mp+1 - 1) base dOk=_;rw [Int.add_sub_cancel]
theorem M4 (hL:Gd (L.map (mvT base)))(M':L.length<=1000000000){i:Nat}{Mp:Int}{l:List ac}{e:PE}(s:Bytes)(he:e.1≠0)(h0:0<=Mp)(h:Pos L base i (Mp+1) true l) :
  Ev2 (λ n _=>bz n (.mk L (i:Int) (Mp+1) base (eD e)) s) (λ z=>∃ (j:Nat) (l':List ac),z=.mk L (j:Int) Mp base (eD e)/\Pos L base j Mp (decide (0 < Mp)) l'):=by
 simp only [bz];refine ah _ (Bb hL M' s he h) ?_;rintro _ ⟨j,l',rfl,hp⟩;have hb:=h.2.2.1;refine ag mr (aa ⟨j,(L.drop j).map (mvT base),?_,hp.out h0 rfl⟩);exact J9
theorem pS (hL:Gd (L.map (mvT base)))(M':L.length<=1000000000){i:Nat}{Mp:Int}{b:Bool}{l:List ac}(h:Pos L base i Mp b l)(h6:(hd b l).Ar≠6) :
  Ev2 (λ n _=>cG n (.mk L (i:Int) Mp base dOk)) (λ z=>∃ j:Nat,z=.mk L (j:Int) (Mp+1) base dOk/\Pos L base j (Mp+1) true (tl b l)):=by
 simp only [cG];refine ah _ (eA hL M' h h6) ?_;rintro ⟨z1,z2⟩ ⟨h1,j,h2,h3,h4,h5⟩
 cases h2
 have hb:=h.2.2.1;have hn:=h.2.1;have hj:=h3.1;refine ag qt (aa ⟨j,Z,h3.1,by omega,by omega,?_,by rw [h4]⟩)
 symm; rw [decide_eq_true_eq]; omega
theorem po (hL:Gd (L.map (mvT base)))(M':L.length<=1000000000){i:Nat}{Mp:Int}{b:Bool}{l:List ac}{q:PE⊕(Bytes×List ac)}(h:Pos L base i Mp b l)(hq:xE b l=some q) :
  Ev2 (λ n _=>cw n (.mk L (i:Int) Mp base dOk)) (Out L base Mp b q):=by
 simp only [cw,aR,cl];refine bG (gC hL M' h) λ j ⟨h3,h4,h5⟩=>?_;unfold xE at hq;by_cases hs:(hd b l).Ar=1/\kR (hd b l).B'=false
 ·rw [if_pos hs] at hq; cases hq;refine aj (false,L,(j:Int),Mp,base,0,0,[]) (af mv (ae hs.1 (aj _ uH (aa ?_)))) ?_
  ·rw [hs.2]; rfl
  ·refine af mv (ah _ (eA hL M' h3 O) ?_);rintro ⟨y1,y2⟩ ⟨g1,k,g2,g3,g4,g5⟩
   cases g2
   exact aa ⟨Z,k,Z,g3⟩
 ·rw [if_neg hs] at hq; cases hq;refine aj (true,L,(j:Int),Mp,base,0,0,[]) (af mv (av (λ h1=>aj _ uH (aa ?_)) (λ h1=>aa rfl))) ?_
  ·have h1:(hd b l).Ar=1:=h1
   have:kR (hd b l).B'=true:=by
    exact JD
   rw [this]; rfl
  ·exact ae Z uI
theorem vb (hL:Gd (L.map (mvT base)))(M':L.length<=1000000000){i:Nat}{Mp:Int}{b:Bool}{l:List ac}{e:PE}(he:e.1≠0)(h:Pos L base i Mp b l) :
  Ev2 (λ n _=>cw n (.mk L (i:Int) Mp base (eD e))) (λ z=>∃ (j:Nat) (l':List ac),z.2=.mk L (j:Int) Mp base (eD e)/\Pos L base j Mp b l'):=by
 simp only [cw,aR,cl];refine bG (gC hL M' h) λ j ⟨h3,h4,h5⟩=>?_;have hk:(!decide ((eD e).Ar=0))=true:=by show (!decide (e.1=0))=true; simp [he]
 refine aj (true,L,(j:Int),Mp,base,e.1,e.2,[]) (ae hk (aa Z)) ?_;exact ae Z (aj _ (ax (xJ he _ _ _ _) Z) (aa ⟨j,l,Z,h3⟩))
end
end Go.Ab.R06
end
section
namespace Go.Ab.R06
open Go.Ab Go.Ab.RB Go.Lib
section
variable {p:Prop}
theorem Jw (h:p:=by
 rw [hf] at hl;refine cm (aQ (aO hl) ?_);rintro _ ⟨j,rfl,hp⟩
 exact ⟨j,Z,hp⟩):p:=h
theorem xG (h:p:=by
 rintro _ ⟨z,rfl,hz⟩
 exact hz):p:=h
theorem I3 (h:p:=by
 rcases SR with _ | _ | _ | _ | _ | _ | k
 ·rfl
 ·rfl
 ·rfl
 ·rfl
 ·rfl
 ·rfl
 ·omega):p:=h
theorem jw (h:p:=by
 rintro ⟨z1,z2⟩ hz
 exact aa hz):p:=h
theorem GA (h:p:=by
 refine af O (aa ?_);rw [List.drop_eq_nil_of_le O]
 exact ⟨i,Z,h⟩):p:=h
theorem Ck (h:p:=by
 refine cm (aQ (aO hl) ?_);rintro _ ⟨j,rfl,hp⟩
 exact aa ⟨j,Z,hp⟩):p:=h
theorem F9 (h:p:=by exact aO (vS hL M' he h3 O (z1,.mk L (j:Int) Mp base (eD e)) _ _ _ _ _ _ _ _ _ _)):p:=h
theorem GD (h:p:=by exact aO (vf hL M' he h3 (z1,.mk L (j:Int) Mp base (eD e)) _ _ _ _ _ _ _ _ _ _)):p:=h
theorem qz (h:p:=by exact aa ⟨j,Z,h3⟩):p:=h
theorem sx (h:p:=by exact rv hL M' _ he h3):p:=h
theorem qw (h:p:=by exact xm hL M' _ h):p:=h
end
section
variable {L:List ac} {base:Int}
theorem JK (hL:Gd (L.map (mvT base)))(M':L.length<=1000000000){Mp:Int}{b:Bool}{l:List ac}(ls:List Bytes)(hls:ls.length<=1000):∀ (k t i:Nat),t+k=ls.length->Pos L base i Mp b l ->
  Ev2 (λ n m=>bo n ls m (t:Int) L (i:Int) Mp base 0 0 []) (λ r=>match (ls.drop t).find? (λ s=>sgB b l s) with
   | some s=>∃ j:Nat,r=.inr (s,true,.mk L (j:Int) Mp base dOk)/\Pos L base j Mp b l
   | none=>∃ j:Nat,r=.inl (L,(j:Int),Mp,base,0,0,[])/\Pos L base j Mp b l):=by
 intro k
 induction k with
 | zero =>
  intro t i ht h;refine aw ?_;simp only [bo];exact GA
 | succ k ih =>
  intro t i ht h;refine aw ?_;simp only [bo];have hdr:ls.drop t=lat ls (t:Int)::ls.drop (t+1):=by rw [mW ls t O]; exact List.drop_eq_getElem_cons O
  refine ae O (ag qp (ah _ qw ?_));rintro ⟨z1,z2⟩ ⟨h1,j,h2,h3⟩;replace h1:z1=_:=h1; subst h1; cases h2;rw [hdr,List.find?_cons]
  cases hs:sgB b l (lat ls (t:Int)) with
  | true=>exact ae Z (aa ⟨j,Z,h3⟩)
  | false=>exact af mv (ag (bv O O) (kj (P:=λ x=>Ev2 (λ n m=>bo n ls m x L (j:Int) Mp base 0 0 []) _) (ih (t+1) j O h3)))
theorem Fy (hL:Gd (L.map (mvT base)))(M':L.length<=1000000000){i:Nat}{Mp:Int}{b:Bool}{l:List ac}(ls:List Bytes)(hls:ls.length<=1000)(h:Pos L base i Mp b l) :
  Ev2 (λ n _=>d8 n (.mk L (i:Int) Mp base dOk) ls) (λ r=>match ls.find? (λ s=>sgB b l s) with
   | some s=>∃ j:Nat,r=(s,true,.mk L (j:Int) Mp base dOk)/\Pos L base j Mp b l
   | none=>∃ j:Nat,r=([],false,.mk L (j:Int) Mp base dOk)/\Pos L base j Mp b l):=by
 simp only [d8];have hl:=JK hL M' ls hls ls.length 0 i O h;rw [List.drop_zero] at hl
 cases hf:ls.find? (λ s=>sgB b l s) with
 | some s =>
  exact Jw
 | none =>
  rw [hf] at hl;exact Ck
theorem I4 (hL:Gd (L.map (mvT base)))(M':L.length<=1000000000){Mp:Int}{b:Bool}{l:List ac}{e:PE}(he:e.1≠0)(ls:List Bytes)(hls:ls.length<=1000):∀ (k t i:Nat),t+k=ls.length->Pos L base i Mp b l ->
  Ev2 (λ n m=>bo n ls m (t:Int) L (i:Int) Mp base e.1 e.2 []) (λ r=>∃ j:Nat,r=.inl (L,(j:Int),Mp,base,e.1,e.2,[])/\Pos L base j Mp b l):=by
 intro k
 induction k with
 | zero =>
  intro t i ht h;refine aw ?_;simp only [bo];exact af O (aa ⟨i,rfl,h⟩)
 | succ k ih =>
  intro t i ht h;refine aw ?_;simp only [bo];refine ae O (ag qp (ah _ (rv hL M' _ he h) ?_));rintro _ ⟨j,rfl,h3⟩;exact af mv (ag aB (kj (P:=λ x=>Ev2 (λ n m=>bo n ls m x L (j:Int) Mp base e.1 e.2 []) _) (ih (t+1) j O h3)))
theorem L1 (hL:Gd (L.map (mvT base)))(M':L.length<=1000000000){i:Nat}{Mp:Int}{b:Bool}{l:List ac}{e:PE}(he:e.1≠0)(ls:List Bytes)(hls:ls.length<=1000)(h:Pos L base i Mp b l) :
  Ev2 (λ n _=>d8 n (.mk L (i:Int) Mp base (eD e)) ls) (λ r=>∃ j:Nat,r=([],false,.mk L (j:Int) Mp base (eD e))/\Pos L base j Mp b l):=by
 simp only [d8];have hl:=I4 hL M' he ls hls ls.length 0 i O h;exact Ck
theorem zH {SR:Nat}(h:SR<=5):j1 (SR:Int)=some ((iz SR).map (·.1)):=by
 exact I3
def qM:List Bytes:=[[124,124],[38,38],[61,61],[33,61],[60],[60,61],[62],[62,61],[43],[45],[42],[47],[37]]
theorem RD (s:Bytes):∀ (k t:Nat),t+k=13->Ev2 (λ _ m=>il s m (t:Int)) (·=match (qM.drop t).findIdx? (λ x=>decide (x=s)) with | some i=>.inr ((3+t+i:Nat):Int) | none=>.inl ()):=by
 intro k
 induction k with
 | zero =>
  intro t ht;refine aw ?_;simp only [il];have:t=13:=by omega
  subst this;exact af (by decide) (aa rfl)
 | succ k ih =>
  intro t ht;refine aw ?_;simp only [il];have hdr:qM.drop t=lat qM (t:Int)::qM.drop (t+1):=by rw [mW qM t (by show t < 13; omega)]; exact List.drop_eq_getElem_cons (by show t < 13; omega)
  refine ae O (ag qp ?_);rw [hdr,List.findIdx?_cons];by_cases hs:lat qM (t:Int)=s
  ·refine ae hs (ag aB (aa ?_));rw [decide_eq_true hs];show _=Sum.inr _;rw [show (3:Int)+(t:Int)=((3+t+0:Nat):Int) by omega]
  ·refine af hs (ag aB (aQ (kj (P:=λ x=>Ev2 (λ _ m=>il s m x) _) (ih (t+1) O)) ?_));rintro r rfl;rw [decide_eq_false hs]
   cases (qM.drop (t+1)).findIdx? (λ x=>decide (x=s)) with
   | none=>rfl
   | some i =>
    show Sum.inr ((3+(t+1)+i:Nat):Int)=Sum.inr ((3+t+(i+1):Nat):Int);congr 2; omega
theorem Ny {SR:Nat}(h:SR<=5){p:Bytes×Int}(hp:p∈iz SR):Ev2 (λ n _=>qR n p.1) (·=p.2):=by
 simp only [qR];have hl:=RD p.1 13 0 rfl;rw [List.drop_zero] at hl
 have:(match qM.findIdx? (λ x=>decide (x=p.1)) with | some i=>Sum.inr ((3+0+i:Nat):Int) | none=>(Sum.inl ():Unit⊕Int))=.inr p.2:=by
  have hall:∀ SR:Fin 6,∀ p∈iz SR.1,(match qM.findIdx? (λ x=>decide (x=p.1)) with | some i=>Sum.inr ((3+0+i:Nat):Int) | none=>(Sum.inl ():Unit⊕Int))=.inr p.2:=by decide
  exact hall ⟨SR,by omega⟩ p hp
 rw [this] at hl;exact iC p.2 (aO hl) rfl
theorem KB (b:Bool)(l:List ac)(SR:Nat):((iz SR).map (·.1)).find? (λ s=>sgB b l s)=(vu b l SR).map (·.1):=by
 unfold vu
 induction iz SR with
 | nil=>rfl
 | cons p r ih =>
  rw [la,List.find?_cons,List.find?_cons]
  cases sgB b l p.1 with
  | true=>rfl
  | false=>exact ih
theorem DX {b:Bool}{l:List ac}{SR:Nat}{p:Bytes×Int}(h:vu b l SR=some p):p∈iz SR/\sgB b l p.1=true:=⟨List.mem_of_find?_eq_some h,List.find?_some (p:=λ p:Bytes×Int=>sgB b l p.1) h⟩
theorem De {SR:Nat}:((iz SR).map (·.1)).length<=1000:=by
 rcases SR with _ | _ | _ | _ | _ | k <;> simp [iz]
def uW {α:Type}(L:List ac)(base:Int)(Mp:Int)(b:Bool)(e:PE)(z:α×al):Prop:=∃ (j:Nat) (l':List ac),z.2=.mk L (j:Int) Mp base (eD e)/\Pos L base j Mp b l'
theorem kC {e:PE}(he:e.1≠0):(!decide ((eD e).Ar=0))=true:=by show (!decide (e.1=0))=true; simp [he]
theorem EP {i:Nat}{Mp:Int}{b:Bool}{l:List ac}{e:PE}(he:e.1≠0)(h:Pos L base i Mp b l) :
  Ev2 (λ n _=>cH n (.mk L (i:Int) Mp base (eD e))) (uW L base Mp b e):=by
 refine aP ?_;simp only [cH,aR,cl];exact ae (kC he) (aa ⟨i,l,Z,h⟩)
theorem vf (hL:Gd (L.map (mvT base)))(M':L.length<=1000000000){i:Nat}{Mp:Int}{b:Bool}{l:List ac}{e:PE}(he:e.1≠0)(h:Pos L base i Mp b l)(r1:ad×al)(k op:Int)(nm key:Bytes)(vk vn:Int)(vs:Bytes)(vi:List am)(vks:List Bytes)(kids:List ad) :
  Ev2 (λ n m=>bM n (aC n) r1 m k op nm key vk vn vs vi vks kids L (i:Int) Mp base e.1 e.2 []) (λ s=>∃ z,s=.inr z/\uW L base Mp b e z):=by
 refine aw ?_;simp only [bM];refine cm (ah _ (rv hL M' _ he h) ?_);rintro _ ⟨j,rfl,h3⟩;refine af mv (ah _ sx ?_);rintro _ ⟨j,rfl,h3⟩;exact af mv (aa ⟨_,rfl,j,l,rfl,h3⟩)
theorem EY (hL:Gd (L.map (mvT base)))(M':L.length<=1000000000){i:Nat}{Mp:Int}{b:Bool}{l:List ac}{e:PE}(he:e.1≠0)(h:Pos L base i Mp b l) :
  Ev2 (λ n _=>dv n (.mk L (i:Int) Mp base (eD e))) (uW L base Mp b e):=by
 refine aP ?_;simp only [dv];refine ah _ (EP he h) ?_;rintro ⟨z1,z2⟩ ⟨j,l',h2,h3⟩
 cases h2
 refine cm (aQ GD ?_);exact xG
theorem Lv (hL:Gd (L.map (mvT base)))(M':L.length<=1000000000){i:Nat}{Mp:Int}{b:Bool}{l:List ac}{e:PE}(he:e.1≠0)(h:Pos L base i Mp b l) :
  Ev2 (λ n _=>cS n (.mk L (i:Int) Mp base (eD e))) (uW L base Mp b e):=by
 refine aP ?_;simp only [cS];refine ah (λ t=>∃ j:Nat,t=(0,L,(j:Int),Mp,base,e.1,e.2,[])/\Pos L base j Mp b l) ?_ ?_
 ·refine ah _ (rv hL M' _ he h) ?_;rintro _ ⟨j,rfl,h3⟩;refine af mv (ah _ sx ?_);rintro _ ⟨j,rfl,h3⟩;exact af mv qz
 ·rintro _ ⟨j,rfl,h3⟩;refine ae rfl (ah _ (EY hL M' he h3) ?_);exact jw
theorem vS (hL:Gd (L.map (mvT base)))(M':L.length<=1000000000){i:Nat}{Mp:Int}{b:Bool}{l:List ac}{e:PE}(he:e.1≠0)(h:Pos L base i Mp b l){SR:Nat}(hlev:SR<=5)(r5:ad×al)(k op:Int)(nm key:Bytes)(vk vn:Int)(vs:Bytes)(vi:List am)(vks:List Bytes)(kids:List ad) :
  Ev2 (λ n m=>bS n (a6 n) (SR:Int) r5 m k op nm key vk vn vs vi vks kids L (i:Int) Mp base e.1 e.2 []) (λ s=>∃ z,s=.inr z/\uW L base Mp b e z):=by
 refine aw ?_;simp only [bS];refine aj _ (ax (zH hlev) rfl) (ah _ (L1 hL M' he _ De h) ?_);rintro _ ⟨j,rfl,h3⟩;exact ae rfl (aa ⟨_,rfl,j,l,rfl,h3⟩)
theorem Gy (hL:Gd (L.map (mvT base)))(M':L.length<=1000000000){Mp:Int}{b:Bool}{e:PE}(he:e.1≠0):∀ (k SR i:Nat) (l:List ac),SR+k=6->Pos L base i Mp b l ->
  Ev2 (λ n _=>a6 n (.mk L (i:Int) Mp base (eD e)) (SR:Int)) (uW L base Mp b e):=by
 intro k
 induction k with
 | zero =>
  intro SR i l hk h;refine aP ?_;simp only [a6];refine ae O (ah _ (Lv hL M' he h) ?_);exact jw
 | succ k ih =>
  intro SR i l hk h;refine aP ?_;simp only [a6];refine af O (ag aB (ah _ (kj (P:=λ x=>Ev2 (λ n _=>a6 n (.mk L (i:Int) Mp base (eD e)) x) _) (ih (SR+1) i l O h)) ?_));rintro ⟨z1,z2⟩ ⟨j,l',h2,h3⟩
  cases h2
  refine cm (aQ F9 ?_);exact xG
theorem Gk (hL:Gd (L.map (mvT base)))(M':L.length<=1000000000){i:Nat}{Mp:Int}{b:Bool}{l:List ac}{e:PE}(he:e.1≠0)(h:Pos L base i Mp b l) :
  Ev2 (λ n _=>aC n (.mk L (i:Int) Mp base (eD e))) (uW L base Mp b e):=by
 refine aP ?_;simp only [aC];refine ah _ (Gy hL M' he 6 0 i l rfl h) ?_;rintro ⟨z1,z2⟩ ⟨j,l',h2,h3⟩
 cases h2
 refine ah _ sx ?_;rintro _ ⟨j,rfl,h3⟩;exact ae rfl (aa ⟨j,l',rfl,h3⟩)
end
end Go.Ab.R06
end
