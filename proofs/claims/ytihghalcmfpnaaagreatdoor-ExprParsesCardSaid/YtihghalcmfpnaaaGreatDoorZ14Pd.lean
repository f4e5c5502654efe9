/- Texts of the proof, one behind the other. No statement is proved here. -/
import Derived.Lib.IndexLaws
import Derived.Lib.Bytes2
import Derived.Test.YtihghalcmfpnaaaGreatDoorZ14Pa
import Derived.Test.YtihghalcmfpnaaaGreatDoorZ14Pb
import Derived.Test.YtihghalcmfpnaaaGreatDoorZ14Pc
set_option maxHeartbeats 4000000
section
namespace Go.Ab.R06
open Go.Proofs Go.Ab Go.Ab.RB
attribute [local irreducible] awp ik bg bO cv AV.sub M dc
instance RO:HE Tryz.prog 188:=⟨Tryz.call188⟩
instance Rq:HE Tryz.prog 170:=⟨Tryz.call170⟩
instance SC:HE Tryz.prog 172:=⟨Tryz.call172⟩
instance RH:HE Tryz.prog 150:=⟨Tryz.call150⟩
def j6 (SO:am):Option Bool :=
 (
   if SO.Ar < 0 then
    some true
   else
    some (decide (6 < SO.Ar))
  ).bind λ t2 =>
 if t2=true then
  some false
 else
  jn (
    if SO.Ar=1 then
     (
       if SO.E'=0 then
        some false
       else
        some (!decide (SO.E'=1))
      ).bind λ t6 =>
     if t6=true then
      some (.inr false)
     else
      some (.inl ())
    else
     if SO.Ar=2 then
      some (.inl ())
     else
      if SO.E'=0 then
       some (.inl ())
      else
       some (.inr false)
   : Option (Unit⊕Bool)) λ _q20 =>
  (
    if SO.Ar=3 then
     if SO.Ar=4 then
      some false
     else
      if SO.Ar=5 then
       some false
      else
       some (decide (0 < (SO.Df.length:Int)))
    else
     if SO.If=([]:Bytes) then
      if SO.Ar=4 then
       some false
      else
       if SO.Ar=5 then
        some false
       else
        some (decide (0 < (SO.Df.length:Int)))
     else
      some true
   ).bind λ TY =>
  if TY=true then
   some false
  else
   if SO.Ar=5 then
    some (decide ((SO.C'.length:Int)=(SO.Df.length:Int)))
   else
    some (decide ((SO.C'.length:Int)=0))
instance Ff (SO:am):∀ (r:Bool),HP (j6 SO=some r) Tryz.prog 170 [.agg (am.cs SO)] (.p (eB r)):=by
 refine hP good Tryz.func170 Z Z λ r h0 _ w0=>?_;unfold j6 at h0;refine nx 7 Z (bd h0 λ Wv h1 h0=>kN Wv (λ WW=>⟨[(1,.ptr 1 0),(10,.p (eB WW))],[(1,(am.cs SO).map .p)]⟩) ?_ ?_)
 ·refine nx 1 Z (fB [10] h0 Z (λ c3 h0=>?_) λ c3 h0=>?_)
  ·exact J0
  refine nx 8 rfl ?_;obtain ⟨VY,h1,Tz,hR0⟩:=br h0;refine kX (λ VH:Unit=>VY=.inl VH) (λ VH=>⟨[(1,.ptr 1 0)],[(1,(am.cs SO).map .p)]⟩) (λ VH hv=>?_) ?_
  ·have h0:=Tz _ hv;refine nx 3 Z (bd h0 λ Y9 h1 h0=>kN Y9 (λ ZR=>⟨[(1,.ptr 1 0),(51,.p (eB ZR))],[(1,(am.cs SO).map .p)]⟩) ?_ ?_)
   ·exact J0
   exact ay
  refine nx 6 Z (fD [16,17] h1 Z (λ c4 h1=>?_) λ c4 h1=>?_)
  ·refine nx 2 Z (bd h1 λ VN h2 h1=>kN VN (λ Ux=>⟨[(1,.ptr 1 0),(25,.p (eB Ux))],[(1,(am.cs SO).map .p)]⟩) ?_ ?_)
   ·exact ay
   exact bV
  exact ay
 exact ay
def km (Mr:Bytes):Option Int :=
 if 4096 < (Mr.length:Int) then
  some 3
 else
  (jX Mr).bind λ r2 =>
  if (!r2)=true then
   some 1
  else
   some 0
instance Lc (Mr:Bytes):∀ (r:Int),HP (km Mr=some r) Tryz.prog 172 [eS Mr] (.p (eI r)):=by
 refine hP good Tryz.func172 Z Z λ r h0 _ w0=>?_;unfold km at h0;exact J0
def jj (SO:am):Nat->Int->Option (Unit⊕(Unit⊕Int))
 | 0,_=>none
 | m+1,Vw =>
 if Vw < (SO.C'.length:Int) then
  ck ((0:Int)<=Vw/\Vw < (SO.C'.length:Int)) <|
  (km (lat SO.C' Vw)).bind λ Ua =>
  if Ua=0 then
   (
     if 0 < Vw then
      ck (inR (Vw - 1)) <|
      ck ((0:Int)<=Vw - 1/\Vw - 1 < (SO.C'.length:Int)) <|
      some (Op.bytesLess (lat SO.C' Vw) (lat SO.C' (Vw - 1))||decide (lat SO.C' Vw=lat SO.C' (Vw - 1)))
     else
      some false
    ).bind λ t33 =>
   if t33=true then
    some (.inr (.inr 1))
   else
    ck (inR (Vw+1)) <|
    jj SO m (Vw+1)
  else
   some (.inr (.inr Ua))
 else
  some (.inl ())
def mz (n:Nat)(SO:am):Option Int :=
 (j6 SO).bind λ r1 =>
 if (!r1)=true then
  some 1
 else
  jn (
    if SO.Ar=2 then
     (i6 SO.E').bind λ r5 =>
     if (!r5)=true then
      some (.inr 5)
     else
      some (.inl ())
    else
     if SO.Ar=3 then
      (km SO.If).bind λ r9 =>
      some (.inr r9)
     else
      if SO.Ar=5 then
       jn (jj SO n 0) λ _Z8 =>
       some (.inl ())
      else
       some (.inl ())
   : Option (Unit⊕Int)) λ _Yk =>
  some 0
instance Lk (n:Nat) (SO:am):∀ (r:Int),HP (mz n SO=some r) Tryz.prog 150 [.agg (am.cs SO)] (.p (eI r)):=by
 refine hP good Tryz.func150 Z Z λ r h0 _ w0=>?_;unfold mz at h0;refine nx 9 Z (K0 λ r1 h0=>nx 2 Z (fB [8] h0 Z (λ c3 h0=>?_) λ c3 h0=>?_))
 ·exact J0
 refine nx 8 rfl ?_;obtain ⟨o40,h1,Tz,hR0⟩:=br h0;refine kX (λ ZQ:Unit=>o40=.inl ZQ) (λ ZQ=>⟨[],[]⟩) (λ ZQ hv=>?_) ?_
 ·exact fP
 refine nx 6 Z (fD [11,12] h1 Z (λ c4 h1=>?_) λ c4 h1=>?_)
 ·exact ay
 refine nx 6 Z (fD [17,18] h1 Z (λ c8 h1=>?_) λ c8 h1=>?_)
 ·exact ay
 refine nx 6 Z (fD [22,23] h1 Z (λ W9 h1=>?_) λ W9 h1=>?_)
 ·refine nx 5 rfl (oLl (f:=eS) Z Z (nx 3 rfl ?_));obtain ⟨Xh,h2,hL1,hR1⟩:=br h1;refine kEx 1 (λ VS:Unit=>Xh=.inl VS) (λ VS=>⟨[],[]⟩) (λ VS hv=>?_) ?_
  ·have h1:=hL1 _ hv;exact ay
  refine lG (λ (Xx:Int)=>⟨[(1,.ptr 1 0),(25,.p (eL eS SO.C')),(26,.p (eI (SO.C'.length:Int))),(27,.p (eI Xx))],[(1,(am.cs SO).map .p)]⟩) (λ m (Xx:Int)=>jj SO m Xx) Y 0 h2 (gE rfl rfl) ?_;rintro m Vw h2;replace h2:jj SO (m+1) Vw=some Xh:=h2;rw [jj] at h2;refine nx 5 rfl (fD [28] h2 rfl (λ c25 h2=>?_) λ c25 h2=>?_)
  ·refine nx 7 Z (oE h2 Y Z Z Y λ Wz h2=>nx 8 Z (K2 λ Ua h2=>nx 7 Z (fN [35] h2 Z (λ c29 h2=>?_) λ c29 h2=>?_)))
   ·refine nx 3 Z (bd h2 λ Y7 h3 h2=>kN Y7 (λ v46=>⟨[(1,.ptr 1 0),(25,.p (eL eS SO.C')),(26,.p (eI (SO.C'.length:Int))),(27,.p (eI Vw)),(48,.p (eB v46))],[(1,(am.cs SO).map .p)]⟩) ?_ ?_)
    ·exact bV
    refine nx 4 Z (fD [38,39] h3 Z (λ ZE h3=>?_) λ ZE h3=>?_)
    ·exact nx 4 Z (oA h3 Z Z λ XE h3=>oE h3 Y Z Z Y λ Zn h3=>nx 1 Z Ay)
    exact nx 10 Z lA
   exact bV
  exact bV
 exact ay
def eP (TZ:am->Int->Int->Option (Int×Int))(SO:am)(O':Int):Nat->Int->Int->Option (Int⊕(Int×Int))
 | 0,_,_=>none
 | m+1,TY,WT =>
 if TY < (SO.Df.length:Int) then
  ck ((0:Int)<=TY/\TY < (SO.Df.length:Int)) <|
  ck (inR (O'+1)) <|
  (TZ (lat SO.Df TY) (O'+1) WT).bind λ Tc =>
  if Tc.1=0 then
   ck (inR (TY+1)) <|
   eP TZ SO O' m (TY+1) Tc.2
  else
   some (.inr (Tc.1,Tc.2))
 else
  some (.inl WT)
def f0:Nat->am->Int->Int->Option (Int×Int)
 | 0,_,_,_=>none
 | n+1,SO,O',cap_0 =>
 if 32 < O' then
  some (4,cap_0)
 else
  if 4096<=cap_0 then
   some (14,cap_0)
  else
   ck (inR (cap_0+1)) <|
   (mz n SO).bind λ r4 =>
   if r4=0 then
    jn (eP (f0 n) SO O' n 0 (cap_0+1)) λ f27 =>
    some (0,f27)
   else
    some (r4,cap_0+1)
instance Eq (n:Nat):∀ (SO:am) (O':Int) (cap_0:Int) (r:Int×Int),HO (f0 n SO O' cap_0=some r) Tryz.prog 149 [.p (.agg (am.cs SO)),.p (eI O'),.ptr 1000000 0,.ptr 1000001 0] [(1000000,[.p (eI cap_0)]),(1000001,[.func (.func 149) [.ptr 1000000 0,.ptr 1000001 0]])] (.p (eI r.1)) ([(1000000,[.p (eI r.2)]),(1000001,[.func (.func 149) [.ptr 1000000 0,.ptr 1000001 0]])]):=by
 induction n with
 | zero=>exact Zr
 | succ n ih =>
 refine λ SO O' cap_0=>hO good [] [1000000,1000001] Tryz.func149 Z Z λ r h0 _ w0 F=>?_;rw [f0] at h0;refine nx 11 Z (fD [12] h0 Z (λ c1 h0=>?_) λ c1 h0=>?_)
 ·exact J0
 refine nx 8 Z (fD [14] h0 Z (λ c2 h0=>?_) λ c2 h0=>?_)
 ·exact J0
 refine nx 5 Z (oA h0 Z Z λ XF h0=>nx 6 Z (K0 λ r4 h0=>nx 7 Z (fN [20] h0 Z (λ c6 h0=>?_) λ c6 h0=>?_)))
 ·refine nx 7 rfl (oLl (f:=cX) Z Z (nx 3 rfl ?_));obtain ⟨VN,h1,Tz,hR0⟩:=br h0;refine kEx 0 (λ Ux:Int=>VN=.inl Ux) (λ Ux=>⟨[],[(1000000,[.p (eI Ux)]),(1000001,[.func (.func 149) [.ptr 1000000 0,.ptr 1000001 0]])]⟩) (λ Ux hv=>?_) ?_
  ·exact fP
  refine lG (λ (UT:Int×Int)=>⟨[(1,.p (eI O')),(3,.ptr 1000001 0),(23,.p (eL cX SO.Df)),(24,.p (eI (SO.Df.length:Int))),(25,.p (eI UT.1))],[(1000000,[.p (eI UT.2)]),(1000001,[.func (.func 149) [.ptr 1000000 0,.ptr 1000001 0]])]⟩) (λ m (UT:Int×Int)=>eP (f0 n) SO O' m UT.1 UT.2) Y (0,cap_0+1) h1 (gE rfl rfl) ?_;rintro m ⟨TY,WT⟩ h1;replace h1:eP (f0 n) SO O' (m+1) TY WT=some VN:=h1;rw [eP] at h1;refine nx 5 rfl (fD [26] h1 rfl (λ c18 h1=>?_) λ c18 h1=>?_)
  ·refine nx 6 Z (oE h1 am.It Z Z Y λ U3 h1=>nx 9 Z (oA h1 Z Z λ VD h1=>bd h1 λ Tc e22 h1=>mO Z (wo [1000000,1000001] [] 102000 102000 (HO.c e22) Z Z Z Z Z Z ⟨sr,sr,sr,sr,trivial⟩ Z Z ⟨⟨_,Z,⟨sr,trivial⟩⟩,⟨_,Z,⟨sr,trivial⟩⟩,trivial⟩ Z Z Z Z Z Z Z Z Tryz.call149 Z Z ?_)));exact ay
  exact ay
 exact J0
def lj (n:Nat)(SO:am):Option Int :=
 (f0 n SO 1 0).bind λ r1 =>
 some r1.1
instance G2 (n:Nat) (SO:am):∀ (r:Int),HP (lj n SO=some r) Tryz.prog 111 [.agg (am.cs SO)] (.p (eI r)):=by
 refine hP good Tryz.func111 Z Z λ r h0 _ w0=>?_;unfold lj at h0;exact nx 16 Z (mO Z (yw Z Z Z Z (nx 6 Z (bd h0 λ r1 e2 h0=>mO Z (wo [3,4] [] 101000 101000 (HO.c e2) Z Z Z Z Z Z ⟨sr,sr,sr,sr,trivial⟩ Z Z ⟨⟨_,Z,⟨sr,trivial⟩⟩,⟨_,Z,⟨sr,trivial⟩⟩,trivial⟩ Z Z Z Z Z Z Z Z Tryz.call149 Z Z J0)))))
end Go.Ab.R06
end
section
namespace Go.Ab.R06
open Go.Proofs Go.Ab Go.Ab.RB
section
variable {p:Prop}
theorem WD (h:p:=by
  have:=js [200];have:=jB 200 (Bool×List ac×Int×Int×Int×Int×Int×Bytes) (λ v=>[(4,.p (eB v.1))]) λ v=>[(1000000,(pB v.2))]
  exact J0):p:=h
theorem FU (h:p:=by first | (simp only [List.map_append,la,th,ad.J']; done) | (simp only [List.map_append,la,th,ad.J']; rfl)):p:=h
theorem rG (h:p:=by rw [List.length_map]):p:=h
theorem Ca (h:p:=by exact mQo (oi h0) (bj (ca 900000 800000 Z Z Z Z Z) (aU _)) Z Z Z Z (sr) ⟨⟨_,Z,⟨sr,sr,sr,sr,sr,sr,sr,trivial⟩⟩,trivial⟩):p:=h
theorem Ak (h:p:=by exact mQo (oi h0) (bj (ca 101000 800000 Z Z Z Z Z) (aU _)) Z Z Z Z (sr) ⟨⟨_,Z,⟨sr,sr,sr,sr,sr,sr,sr,trivial⟩⟩,trivial⟩):p:=h
theorem F0 (h:p:=by exact gE (t:=⟨[(0,.ptr 1000000 0),(2,.ptr 2 0)],[(2,jU),(1000000,[.p (eS Pn.fs),.p (eI Pn.fat),.p (eI Pn.fi),.p (eI Pn.D'),.p (eS Pn.F'),.vec 900000 11 0 (Pn.BY.map ak),.p (eB Pn.IN)])]⟩) Z Z):p:=h
end
set_option maxRecDepth 4000
attribute [local irreducible] awp ik bg bO cv AV.sub M dc
instance QQ:HE Tryz.prog 146:=⟨Tryz.call146⟩
instance QI:HE Tryz.prog 148:=⟨Tryz.call148⟩
instance Q0:HE Tryz.prog 112:=⟨Tryz.call112⟩
instance Rn:HE Tryz.prog 147:=⟨Tryz.call147⟩
instance Q3:HE Tryz.prog 145:=⟨Tryz.call145⟩
instance Ri:HE Tryz.prog 110:=⟨Tryz.call110⟩
instance Rm:HE Tryz.prog 111:=⟨Tryz.call111⟩
instance QU:HE Tryz.prog 113:=⟨Tryz.call113⟩
instance Qx:HE Tryz.prog 114:=⟨Tryz.call114⟩
instance Qu:HE Tryz.prog 68:=⟨Tryz.call68⟩
instance O5:HE Tryz.prog 31:=⟨Tryz.call31⟩
instance PK:HE Tryz.prog 70:=⟨Tryz.call70⟩
instance OV:HE Tryz.prog 121:=⟨Tryz.call121⟩
instance Om:HE Tryz.prog 12:=⟨Tryz.call12⟩
instance P7:HE Tryz.prog 39:=⟨Tryz.call39⟩
instance Pl:HE Tryz.prog 156:=⟨Tryz.call156⟩
instance Pw:HE Tryz.prog 124:=⟨Tryz.call124⟩
instance PY:HE Tryz.prog 158:=⟨Tryz.call158⟩
instance PZ:HE Tryz.prog 157:=⟨Tryz.call157⟩
instance Qh:HE Tryz.prog 125:=⟨Tryz.call125⟩
instance NZ:HE Tryz.prog 102:=⟨Tryz.call102⟩
instance Oy:HE Tryz.prog 101:=⟨Tryz.call101⟩
instance O2:HE Tryz.prog 71:=⟨Tryz.call71⟩
instance On:HE Tryz.prog 103:=⟨Tryz.call103⟩
instance Qm:HE Tryz.prog 211:=⟨Tryz.call211⟩
abbrev tQ (F:Bytes->Int->Option (Int))(k:Nat):Prop:=∀ (a0:Bytes) (a1:Int) (r:Int),HP (F a0 a1=some r) Tryz.prog k [eS a0,eI a1] (.p (eI r))
abbrev uE (F:al->Bytes->Option (al))(k:Nat):Prop:=∀ (a0:al) (a1:Bytes) (r:al),HO (F a0 a1=some r) Tryz.prog k [.ptr 1000000 0,.p (eS a1)] [(1000000,((al.cs a0).map .p))] (.tuple []) ([(1000000,((al.cs r).map .p))])
abbrev pB (v:List ac×Int×Int×Int×Int×Int×Bytes):List AV:=[.p (eL aF v.1),.p (eI v.2.1),.p (eI v.2.2.1),.p (eI v.2.2.2.1),.p (eI v.2.2.2.2.1),.p (eI v.2.2.2.2.2.1),.p (eS v.2.2.2.2.2.2)]
abbrev rq:List PV:=[eI 0,eI 0,eS ([]:Bytes),eS ([]:Bytes),eI 0,eI 0,eS ([]:Bytes),.val (.slice none 0 0),.val (.slice none 0 0),.val (.slice none 0 0),eI 0]
abbrev jY:List AV:=[.p (eI 0),.p (eS ([]:Bytes)),.p (eI 0)]
abbrev jU:List AV:=[.p (eI 0),.p (eI 0),.p (eS ([]:Bytes))]
def ki (Ty:Int):Option Bool :=
 (
   if Ty=12 then
    some true
   else
    some (decide (Ty=13))
  ).bind λ t2 =>
 some t2
instance Mo (Ty:Int):∀ (r:Bool),HP (ki Ty=some r) Tryz.prog 146 [eI Ty] (.p (eB r)):=by
 refine hP good Tryz.func146 Z Z λ r h0 _ w0=>?_;unfold ki at h0;exact kb
def jy (Ty:Int):Option Bool :=
 (
   if Ty=3 then
    some true
   else
    if Ty=4 then
     some true
    else
     if Ty=9 then
      some true
     else
      (ki Ty).bind λ r4 =>
      some r4
  ).bind λ t6 =>
 some t6
instance Ll (Ty:Int):∀ (r:Bool),HP (jy Ty=some r) Tryz.prog 112 [eI Ty] (.p (eB r)):=by
 refine hP good Tryz.func112 Z Z λ r h0 _ w0=>?_;unfold jy at h0;exact kb
def kF (SR:ad):Option Bool :=
 if SR.Ar=6 then
  (
    if SR.fOp=1 then
     some true
    else
     some (decide (SR.fOp=2))
   ).bind λ t3 =>
  some t3
 else
  if SR.Ar=7 then
   (
     if 3<=SR.fOp then
      some (decide (SR.fOp<=15))
     else
      some false
    ).bind λ t6 =>
   some t6
  else
   some (decide (SR.fOp=0))
instance EQ (SR:ad):∀ (r:Bool),HP (kF SR=some r) Tryz.prog 145 [.agg (ad.cs SR)] (.p (eB r)):=by
 refine hP good Tryz.func145 Z Z λ r h0 _ w0=>?_;unfold kF at h0;have:=js [300,500];have:=jS 300 Bool λ v=>[(2,.p (eB v))]
 have:=jS 500 Bool λ v=>[(2,.p (eB v))]
 exact J0
def jG (SO:am):Option Bool :=
 (
   if SO.Ar=0 then
    if SO.E'=0 then
     if SO.If=([]:Bytes) then
      ck (inR ((SO.Df.length:Int)+(SO.C'.length:Int))) <|
      some (decide ((SO.Df.length:Int)+(SO.C'.length:Int)=0))
     else
      some false
    else
     some false
   else
    some false
  ).bind λ t5 =>
 some t5
instance Nb (SO:am):∀ (r:Bool),HP (jG SO=some r) Tryz.prog 147 [.agg (am.cs SO)] (.p (eB r)):=by
 refine hP good Tryz.func147 Z Z λ r h0 _ w0=>?_;unfold jG at h0;exact kb
def pI (Ty:Int):Option (Int×Int×Bool) :=
 (
   if Ty=1 then
    some true
   else
    some (decide (Ty=3))
  ).bind λ t2 =>
 if t2=true then
  some (0,0,false)
 else
  (
    if Ty=4 then
     some true
    else
     some (decide (Ty=6))
   ).bind λ t5 =>
  if t5=true then
   some (1,1,false)
  else
   (
     if Ty=5 then
      some true
     else
      some (decide (Ty=7))
    ).bind λ t8 =>
   if t8=true then
    some (2,2,false)
   else
    if Ty=8 then
     some (3,3,false)
    else
     if Ty=2 then
      some (1,4096,false)
     else
      if Ty=12 then
       some (2,3,false)
      else
       if Ty=13 then
        some (3,4,false)
       else
        if Ty=11 then
         some (0,4096,true)
        else
         some (0,4096,false)
instance M8 (Ty:Int):∀ (r:Int×Int×Bool),HP (pI Ty=some r) Tryz.prog 148 [eI Ty] (.tuple [.p (eI r.1),.p (eI r.2.1),.p (eB r.2.2)]):=by
 refine hP good Tryz.func148 Z Z λ r h0 _ w0=>?_;unfold pI at h0;have:=js [201,501,801];have:=jS 201 Bool λ v=>[(6,.p (eB v))]
 have:=jS 501 Bool λ v=>[(9,.p (eB v))]
 have:=jS 801 Bool λ v=>[(12,.p (eB v))]
 exact J0
def iH (SR:ad):Option Bool :=
 (
   if SR.Ar < 1 then
    some true
   else
    if 13 < SR.Ar then
     some true
    else
     (kF SR).bind λ r3 =>
     some (!r3)
  ).bind λ t5 =>
 if t5=true then
  some false
 else
  (
    (jy SR.Ar).bind λ r7 =>
    if (!r7)=true then
     if SR.AI=([]:Bytes) then
      (ki SR.Ar).bind λ VU =>
      if (!VU)=true then
       if SR.Gw=([]:Bytes) then
        if SR.Ar=1 then
         some false
        else
         (jG SR.A').bind λ WP =>
         some (!WP)
       else
        some true
      else
       if SR.Ar=1 then
        some false
       else
        (jG SR.A').bind λ Va =>
        some (!Va)
     else
      some true
    else
     (ki SR.Ar).bind λ Tc =>
     if (!Tc)=true then
      if SR.Gw=([]:Bytes) then
       if SR.Ar=1 then
        some false
       else
        (jG SR.A').bind λ TR =>
        some (!TR)
      else
       some true
     else
      if SR.Ar=1 then
       some false
      else
       (jG SR.A').bind λ Xe =>
       some (!Xe)
   ).bind λ t31 =>
  if t31=true then
   some false
  else
   (pI SR.Ar).bind λ Vo =>
   (
     if (SR.By.length:Int) < Vo.1 then
      some true
     else
      if Vo.2.1 < (SR.By.length:Int) then
       if Vo.2.1 < 4096 then
        some true
       else
        if Vo.2.2=true then
         ck ((2:Int)≠0) <|
         some (decide ((SR.By.length:Int).tmod 2=1))
        else
         some false
      else
       if Vo.2.2=true then
        ck ((2:Int)≠0) <|
        some (decide ((SR.By.length:Int).tmod 2=1))
       else
        some false
    ).bind λ t42 =>
   if t42=true then
    some false
   else
    if SR.Ar=1 then
     (
       if 0<=SR.A'.Ar then
        if SR.A'.Ar<=3 then
         if SR.A'.Ar=2 then
          some (decide (0<=SR.A'.E'))
         else
          some true
        else
         some false
       else
        some false
      ).bind λ t48 =>
     some t48
    else
     some true
instance IP (SR:ad):∀ (r:Bool),HP (iH SR=some r) Tryz.prog 110 [.agg (ad.cs SR)] (.p (eB r)):=by
 refine hP good Tryz.func110 Z Z λ r h0 _ w0=>?_;unfold iH at h0;refine nx 7 Z (bd h0 λ We h1 h0=>?_);refine kN We (λ Xl=>⟨[(1,.ptr 1 0),(19,.p (eB Xl))],[(1,(ad.cs SR).map .p)]⟩) ?_ ?_
 ·refine nx 1 Z (fB [19] h0 Z (λ c6 h0=>?_) λ c6 h0=>?_)
  ·exact J0
  refine nx 4 Z (bd h0 λ o55 h1 h0=>?_);refine kN o55 (λ YO=>⟨[(1,.ptr 1 0),(50,.p (eB YO))],[(1,(ad.cs SR).map .p)]⟩) ?_ ?_
  ·refine nx 1 Z (fB [50] h0 Z (λ c32 h0=>?_) λ c32 h0=>?_)
   ·exact J0
   refine nx 6 Z (K0 λ Vo h0=>nx 10 Z ?_);refine bd h0 λ o57 h1 h0=>kN o57 (λ v58=>⟨[(1,.ptr 1 0),(83,.p (eB v58))],[(1,(ad.cs SR).map .p)]⟩) ?_ ?_
   ·have:=js [1100];have:=jS 1100 Bool λ v=>[(2,.p (eB v))]
    exact J0
   refine nx 3 Z (oLl (f:=ak) Z Z ?_);refine nx 3 Z (fD [62,63] h1 Z (λ c35 h1=>?_) λ c35 h1=>?_)
   ·exact ay
   refine nx 2 Z (oLl (f:=ak) Z Z ?_);refine nx 3 Z (fD [68,69] h1 Z (λ XS h1=>?_) λ XS h1=>?_)
   ·refine nx 5 Z (fD [71,72,73,74] h1 Z (λ c37 h1=>?_) λ c37 h1=>?_)
    ·exact ay
    refine nx 2 Z (fB [5,57,75,76] h1 Z (λ c38 h1=>?_) λ c38 h1=>?_)
    ·refine nx 2 Z (oLl (f:=ak) Z Z ?_);refine cc' h1 λ Zk h1=>mO Z (Iz Z Z Z Z Z Z Zk ?_);exact ay
    exact ay
   refine nx 7 Z (fB [5,57,75,76] h1 Z (λ ZB h1=>?_) λ ZB h1=>?_)
   ·refine nx 2 Z (oLl (f:=ak) Z Z ?_);refine cc' h1 λ VC h1=>mO Z (Iz Z Z Z Z Z Z VC ?_);exact ay
   exact ay
  exact ay
 exact ay
def da (Mr:Bytes):Nat->Int->Option (Unit⊕Bool)
 | 0,_=>none
 | m+1,Ue =>
 if Ue < (Mr.length:Int) then
  ck ((0:Int)<=Ue/\Ue < (Mr.length:Int)) <|
  (
    ck ((0:Int)<=Ue/\Ue < (Mr.length:Int)) <|
    if byt Mr Ue=95 then
     some false
    else
     if iOr .u8 (byt Mr Ue) 32 < 97 then
      if Ue=0 then
       some true
      else
       ck ((0:Int)<=Ue/\Ue < (Mr.length:Int)) <|
       if byt Mr Ue < 48 then
        some true
       else
        ck ((0:Int)<=Ue/\Ue < (Mr.length:Int)) <|
        some (decide (57 < byt Mr Ue))
     else
      if 122 < iOr .u8 (byt Mr Ue) 32 then
       if Ue=0 then
        some true
       else
        ck ((0:Int)<=Ue/\Ue < (Mr.length:Int)) <|
        if byt Mr Ue < 48 then
         some true
        else
         ck ((0:Int)<=Ue/\Ue < (Mr.length:Int)) <|
         some (decide (57 < byt Mr Ue))
      else
       some false
   ).bind λ t34 =>
  if t34=true then
   some (.inr false)
  else
   ck (inR (Ue+1)) <|
   da Mr m (Ue+1)
 else
  some (.inl ())
def gw (n:Nat)(Mr:Bytes):Option Bool :=
 jn (da Mr n 0) λ _Yj =>
 (
   if Mr=([]:Bytes) then
    some false
   else
    some (decide ((Mr.length:Int)<=64))
  ).bind λ t39 =>
 some t39
instance Bh (n:Nat) (Mr:Bytes):∀ (r:Bool),HP (gw n Mr=some r) Tryz.prog 113 [eS Mr] (.p (eB r)):=by
 refine hP good Tryz.func113 Z Z λ r h0 _ w0=>?_;unfold gw at h0;refine nx 8 rfl (oLs rfl ?_);refine nx 3 rfl ?_;obtain ⟨o43,h1,Tz,hR0⟩:=br h0;refine kEx 0 (λ v44:Unit=>o43=.inl v44) (λ v44=>⟨[(0,.p (eS Mr))],[]⟩) (λ v44 hv=>?_) ?_
 ·have h0:=Tz _ hv;have:=js [800];have:=jS 800 Bool λ v=>[(2,.p (eB v))]
  exact J0
 refine lG (λ (U6:Int)=>⟨[(0,.p (eS Mr)),(6,.p (eI (Mr.length:Int))),(7,.p (eI U6))],[]⟩) (λ m (U6:Int)=>da Mr m U6) Y 0 h1 (gE rfl rfl) ?_;rintro m Ue h1;replace h1:da Mr (m+1) Ue=some o43:=h1;rw [da] at h1;have:=js [500];have:=jS 500 Bool λ v=>[(41,.p (eB v))]
 exact ay
def fV (Mr:Bytes):Option Bool :=
 (
   if Mr=([110,117,108,108]:Bytes) then
    some true
   else
    if Mr=([116,114,117,101]:Bytes) then
     some true
    else
     if Mr=([102,97,108,115,101]:Bytes) then
      some true
     else
      if Mr=([102,111,114]:Bytes) then
       some true
      else
       if Mr=([105,110]:Bytes) then
        some true
       else
        some (decide (Mr=([105,102]:Bytes)))
  ).bind λ t6 =>
 if t6=true then
  some true
 else
  some false
instance Ee (Mr:Bytes):∀ (r:Bool),HP (fV Mr=some r) Tryz.prog 114 [eS Mr] (.p (eB r)):=by
 refine hP good Tryz.func114 Z Z λ r h0 _ w0=>?_;unfold fV at h0;have:=js [201];have:=jS 201 Bool λ v=>[(4,.p (eB v))]
 exact J0
def nR (n:Nat)(SR:ad):Option Int :=
 (iH SR).bind λ r1 =>
 if (!r1)=true then
  some 1
 else
  if SR.Ar=1 then
   (lj n SR.A').bind λ r5 =>
   some r5
  else
   (
     (jy SR.Ar).bind λ r7 =>
     if r7=true then
      (gw n SR.AI).bind λ Tn =>
      if (!Tn)=true then
       some true
      else
       if SR.Ar=4 then
        some false
       else
        (fV SR.AI).bind λ Xf =>
        some Xf
     else
      some false
    ).bind λ TY =>
   if TY=true then
    some 7
   else
    (
      if SR.Gw=([]:Bytes) then
       some false
      else
       (gw n SR.Gw).bind λ Va =>
       if (!Va)=true then
        some true
       else
        (fV SR.Gw).bind λ U' =>
        some U'
     ).bind λ Vw =>
    if Vw=true then
     some 7
    else
     some 0
instance Lz (n:Nat) (SR:ad):∀ (r:Int),HP (nR n SR=some r) Tryz.prog 68 [.agg (ad.cs SR)] (.p (eI r)):=by
 refine hP good Tryz.func68 Z Z λ r h0 _ w0=>?_;unfold nR at h0;have:=js [500,700];have:=jS 500 Bool λ v=>[(30,.p (eB v))]
 have:=jS 700 Bool λ v=>[(44,.p (eB v))]
 exact J0
def bS (TN:bY->ad->Int->Option (Int×bY))(e_1:ad)(Ts:Int):Nat->Int->Int->Option (Int⊕(Int×bY))
 | 0,_,_=>none
 | m+1,TY,WT =>
 if TY < (e_1.By.length:Int) then
  ck ((0:Int)<=TY/\TY < (e_1.By.length:Int)) <|
  ck (inR (Ts+1)) <|
  (TN (bY.mk WT) (lat e_1.By TY) (Ts+1)).bind λ Tc =>
  if Tc.1=0 then
   ck (inR (TY+1)) <|
   bS TN e_1 Ts m (TY+1) Tc.2.fcount
  else
   some (.inr (Tc.1,Tc.2))
 else
  some (.inl WT)
def bX:Nat->bY->ad->Int->Option (Int×bY)
 | 0,_,_,_=>none
 | n+1,S3,e_1,Ts =>
 if 32 < Ts then
  some (4,S3)
 else
  if 4096<=S3.fcount then
   some (14,S3)
  else
   ck (inR (S3.fcount+1)) <|
   (nR n e_1).bind λ r4 =>
   if r4=0 then
    jn (bS (bX n) e_1 Ts n 0 (S3.fcount+1)) λ f27 =>
    some (0,(bY.mk f27))
   else
    some (r4,(bY.mk (S3.fcount+1)))
instance yh (n:Nat):∀ (S3:bY) (e_1:ad) (Ts:Int) (r:Int×bY),HO (bX n S3 e_1 Ts=some r) Tryz.prog 31 [.ptr 1000000 0,.p (.agg (ad.cs e_1)),.p (eI Ts)] [(1000000,[.p (eI S3.fcount)])] (.p (eI r.1)) ([(1000000,[.p (eI r.2.fcount)])]):=by
 induction n with
 | zero=>exact Zr
 | succ n ih =>
 refine λ S3 e_1 Ts=>hO good [] [1000000] Tryz.func31 Z Z λ r h0 _ w0 F=>?_;rw [bX] at h0;refine nx 11 Z (fD [12] h0 Z (λ c1 h0=>?_) λ c1 h0=>?_)
 ·exact J0
 refine nx 11 Z (fD [17] h0 Z (λ c2 h0=>?_) λ c2 h0=>?_)
 ·exact J0
 refine nx 8 Z (oA h0 Z Z λ XF h0=>?_);refine nx 8 Z (K0 λ r4 h0=>nx 7 Z ?_);refine fN [28] h0 Z (λ c6 h0=>?_) λ c6 h0=>?_
 ·refine nx 7 rfl (oLl (f:=ak) Z Z ?_);refine nx 3 rfl ?_;obtain ⟨VN,h1,Tz,hR0⟩:=br h0;refine kEx 0 (λ Ux:Int=>VN=.inl Ux) (λ Ux=>⟨[],[(1000000,[.p (eI Ux)])]⟩) (λ Ux hv=>?_) ?_
  ·exact fP
  refine lG (λ (UT:Int×Int)=>⟨[(0,.ptr 1000000 0),(2,.p (eI Ts)),(31,.p (eL ak e_1.By)),(32,.p (eI (e_1.By.length:Int))),(33,.p (eI UT.1))],[(1000000,[.p (eI UT.2)])]⟩) (λ m (UT:Int×Int)=>bS (bX n) e_1 Ts m UT.1 UT.2) Y (0,S3.fcount+1) h1 (gE rfl rfl) ?_;rintro m ⟨TY,WT⟩ h1;replace h1:bS (bX n) e_1 Ts (m+1) TY WT=some VN:=h1;rw [bS] at h1;exact ay
 exact J0
def lX (n:Nat)(SR:ad):Option Int :=
 (bX n (bY.mk 0) SR 1).bind λ r1 =>
 some r1.1
instance Ld (n:Nat) (SR:ad):∀ (r:Int),HP (lX n SR=some r) Tryz.prog 12 [.agg (ad.cs SR)] (.p (eI r)):=by
 refine hP good Tryz.func12 Z Z λ r h0 _ w0=>?_;unfold lX at h0;exact J0
def cK (OF:al):Nat->Int->Option Int
 | 0,_=>none
 | m+1,f7 =>
 (
   if 0 < OF.H' then
    ck ((0:Int)<=f7/\f7 < (OF.fl.length:Int)) <|
    some (decide ((lat OF.fl f7).Ar=5))
   else
    some false
  ).bind λ XZ =>
 if XZ=true then
  ck (inR (f7+1)) <|
  cK OF m (f7+1)
 else
  some f7
def bp (n:Nat)(OF:al):Option (ac×al) :=
 (cK OF n OF.fat).bind λ Yw =>
 ck ((0:Int)<=Yw/\Yw < (OF.fl.length:Int)) <|
 ck (inR (((lat OF.fl Yw).fAt)+OF.G')) <|
 some ((ac.mk ((lat OF.fl Yw).Ar) ((lat OF.fl Yw).B') (((lat OF.fl Yw).fAt)+OF.G')),(al.mk OF.fl Yw OF.H' OF.G' OF.AT))
instance zQ (n:Nat) (OF:al):∀ (r:ac×al),HO (bp n OF=some r) Tryz.prog 70 [.ptr 1000000 0] [(1000000,((al.cs OF).map .p))] (.p (.agg (ac.cs r.1))) ([(1000000,((al.cs r.2).map .p))]):=by
 refine hO good [] [1000000] Tryz.func70 Z Z λ r h0 _ w0 F=>?_;unfold bp at h0;refine nx 6 Z (bd h0 λ VB h1 h0=>?_);refine kE 0 VB (λ v20=>⟨[(0,.ptr 1000000 0),(2,.ptr 2 0)],[(2,jY),(1000000,[.p (eL aF OF.fl),.p (eI v20),.p (eI OF.H'),.p (eI OF.G'),.p (eI OF.AT.Ar),.p (eI OF.AT.fAt),.p (eS OF.AT.AI)])]⟩) ?_ ?_
 ·refine nx 2 Z (cc' h0 λ U4 h0=>?_);refine mG (gE (t:=⟨[(0,.ptr 1000000 0),(2,.ptr 2 0)],[(2,jY),(1000000,[.p (eL aF OF.fl),.p (eI VB),.p (eI OF.H'),.p (eI OF.G'),.p (eI OF.AT.Ar),.p (eI OF.AT.fAt),.p (eS OF.AT.AI)])]⟩) Z Z) (mSq ⟨2,[10,11],(by3 (.some λ i=>Nat.beq i 3) .none .none),(λ _=>[(0,.ptr 1000000 0),(2,.ptr 2 0)]),(ob3 ([(2,jY),(1000000,[.p (eL aF OF.fl),.p (eI VB),.p (eI OF.H'),.p (eI OF.G'),.p (eI OF.AT.Ar),.p (eI OF.AT.fAt),.p (eS OF.AT.AI)])]) (3,jY) (3,[.p (eI ((lat OF.fl VB).Ar)),.p (eS ((lat OF.fl VB).B')),.p (eI ((lat OF.fl VB).fAt))]))⟩ Z ?_);refine dPc (.ptr 1000000 0) Z (dPc (.ptr 1000000 0) Z ?_);refine dPc (.ptr 1000000 0) Z (dPc (.p (eL aF OF.fl)) Z ?_);refine dPc (.ptr 1000000 0) Z (dPc (.ptr 1000000 0) Z ?_);refine dPc (.ptr 1000000 1) Z (dPc (.p (eI VB)) Z ?_);refine dO (.rptr (ac.cs (lat OF.fl VB))) [33,37] Z (λ _ sl Sk K hK=>ap Z (j5 (f:=aF) (l:=OF.fl) ac.cs Z Z Z Z Z Z (Sk _ _ Z) Z (Sk _ _ Z) U4 ac.It Y hK)) (dPc (.p (.agg (ac.cs (lat OF.fl VB)))) Z ?_);refine dI (λ _=>.ptr 3 0) [] Z (λ sl Sk K hK=>ap Z (iP Z Z Z Z Z hK)) (dS Z ?_);refine fj (nx 2 Z ?_);refine cc' h0 λ UL h0=>mG (gE (t:=⟨[(0,.ptr 1000000 0),(2,.ptr 2 0),(3,.ptr 3 0)],[(2,jY),(3,(ac.cs (lat OF.fl VB)).map .p),(1000000,[.p (eL aF OF.fl),.p (eI VB),.p (eI OF.H'),.p (eI OF.G'),.p (eI OF.AT.Ar),.p (eI OF.AT.fAt),.p (eS OF.AT.AI)])]⟩) Z Z) (mSq ⟨1,[8],(λ _=>.none),(λ _=>[(0,.ptr 1000000 0),(2,.ptr 2 0),(3,.ptr 3 0)]),(ob2 ([(2,jY),(3,[.p (eI ((lat OF.fl VB).Ar)),.p (eS ((lat OF.fl VB).B')),.p (eI ((lat OF.fl VB).fAt))]),(1000000,[.p (eL aF OF.fl),.p (eI VB),.p (eI OF.H'),.p (eI OF.G'),.p (eI OF.AT.Ar),.p (eI OF.AT.fAt),.p (eS OF.AT.AI)])]) (3,[.p (eI ((lat OF.fl VB).Ar)),.p (eS ((lat OF.fl VB).B')),.p (eI (((lat OF.fl VB).fAt)+OF.G'))]))⟩ Z ?_);refine dPc (.ptr 3 2) Z (dPc (.p (eI ((lat OF.fl VB).fAt))) Z ?_);refine dPc (.ptr 1000000 0) Z (dPc (.ptr 1000000 0) Z ?_);refine dPc (.ptr 1000000 3) Z (dPc (.p (eI OF.G')) Z ?_);refine dO (.p (eI (((lat OF.fl VB).fAt)+OF.G'))) [41,45] Z (λ _ sl Sk K hK=>ap Z (fY Z Z Z (Sk _ _ Z) (Sk _ _ Z) Z UL hK)) (dPc (.ptr 3 2) Z ?_);exact J0
 refine lG (λ (Wo:Int)=>⟨[(0,.ptr 1000000 0),(2,.ptr 2 0)],[(2,jY),(1000000,[.p (eL aF OF.fl),.p (eI Wo),.p (eI OF.H'),.p (eI OF.G'),.p (eI OF.AT.Ar),.p (eI OF.AT.fAt),.p (eS OF.AT.AI)])]⟩) (λ m (Wo:Int)=>cK OF m Wo) Y OF.fat h1 (gE rfl rfl) ?_;rintro m f7 h1;replace h1:cK OF (m+1) f7=some VB:=h1;rw [cK] at h1;refine nx 2 rfl (bd h1 λ o22 h2 h1=>?_);refine kN o22 (λ v23=>⟨[(0,.ptr 1000000 0),(2,.ptr 2 0),(22,.p (eB v23))],[(2,jY),(1000000,[.p (eL aF OF.fl),.p (eI f7),.p (eI OF.H'),.p (eI OF.G'),.p (eI OF.AT.Ar),.p (eI OF.AT.fAt),.p (eS OF.AT.AI)])]⟩) ?_ ?_
 ·exact ay
 refine fD (p:=0 < OF.H') [] h2 Z (λ c8 h2=>?_) λ c8 h2=>?_
 ·refine cc' h2 λ YK h2=>mD [(0,.ptr 1000000 0),(2,.ptr 2 0)] Z ⟨Z,Z,trivial⟩ Z (dR 4 Z ?_);refine dL (dt c8) Z (dR 9 Z ?_);refine dq (.rptr (ac.cs (lat OF.fl f7))) [9,13,17] Z (λ _ e _ q=>dB (j5 (f:=aF) (l:=OF.fl) ac.cs Z Z Z Z Z Z (e _ _ Z) Z (e _ _ Z) YK ac.It Y q) Z Z (e _ _ Z) (rfl)) Z (dR 4 Z ?_);exact bV
 refine mD [(0,.ptr 1000000 0),(2,.ptr 2 0)] Z ⟨Z,Z,trivial⟩ Z (dR 4 Z ?_);refine dL (df c8) Z (dR 14 Z ?_);refine dE Z (nx 1 Z ?_);exact bV
def aJ (n:Nat)(OF:al):Option (ac×al) :=
 (bp n OF).bind λ r1 =>
 (
   if r1.1.Ar=6 then
    some r1.2.fat
   else
    ck (inR (r1.2.fat+1)) <|
    some (r1.2.fat+1)
  ).bind λ f5 =>
 some (r1.1,(al.mk r1.2.fl f5 r1.2.H' r1.2.G' r1.2.AT))
instance zT (n:Nat) (OF:al):∀ (r:ac×al),HO (aJ n OF=some r) Tryz.prog 102 [.ptr 1000000 0] [(1000000,((al.cs OF).map .p))] (.p (.agg (ac.cs r.1))) ([(1000000,((al.cs r.2).map .p))]):=by
 refine hO good [] [1000000] Tryz.func102 Z Z λ r h0 _ w0 F=>?_;unfold aJ at h0;refine nx 7 Z (K0 λ r1 h0=>?_);refine nx 4 Z (bd h0 λ o7 h1 h0=>?_);refine kN o7 (λ v8=>⟨[(2,.ptr 2 0),(3,.ptr 3 0)],[(2,jY),(3,(ac.cs r1.1).map .p),(1000000,[.p (eL aF r1.2.fl),.p (eI v8),.p (eI r1.2.H'),.p (eI r1.2.G'),.p (eI r1.2.AT.Ar),.p (eI r1.2.AT.fAt),.p (eS r1.2.AT.AI)])]⟩) ?_ ?_
 ·exact J0
 exact ay
def aR (OF:al):Option (Bool×al) :=
 some (!decide (OF.AT.Ar=0),OF)
instance ya (OF:al):∀ (r:Bool×al),HO (aR OF=some r) Tryz.prog 121 [.ptr 1000000 0] [(1000000,((al.cs OF).map .p))] (.p (eB r.1)) ([(1000000,((al.cs r.2).map .p))]):=by
 refine hO good [] [1000000] Tryz.func121 Z Z λ r h0 _ w0 F=>?_;unfold aR at h0;exact J0
def aY (n:Nat)(OF:al)(s_1:Bytes):Option (Bool×al) :=
 (bp n OF).bind λ r1 =>
 (
   (aR r1.2).bind λ r3 =>
   if (!r3.1)=true then
    if r1.1.Ar=4 then
     some (decide (r1.1.B'=s_1),r3.2.fl,r3.2.fat,r3.2.H',r3.2.G',r3.2.AT.Ar,r3.2.AT.fAt,r3.2.AT.AI)
    else
     some (false,r3.2.fl,r3.2.fat,r3.2.H',r3.2.G',r3.2.AT.Ar,r3.2.AT.fAt,r3.2.AT.AI)
   else
    some (false,r3.2.fl,r3.2.fat,r3.2.H',r3.2.G',r3.2.AT.Ar,r3.2.AT.fAt,r3.2.AT.AI)
  ).bind λ VX =>
 some (VX.1,(al.mk VX.2.1 VX.2.2.1 VX.2.2.2.1 VX.2.2.2.2.1 (ao.mk VX.2.2.2.2.2.1 VX.2.2.2.2.2.2.1 VX.2.2.2.2.2.2.2)))
instance zY (n:Nat) (OF:al) (s_1:Bytes):∀ (r:Bool×al),HO (aY n OF s_1=some r) Tryz.prog 101 [.ptr 1000000 0,.p (eS s_1)] [(1000000,((al.cs OF).map .p))] (.p (eB r.1)) ([(1000000,((al.cs r.2).map .p))]):=by
 refine hO good [] [1000000] Tryz.func101 Z Z λ r h0 _ w0 F=>?_;unfold aY at h0;exact WD
def bo (OF:al)(k_1:Int)(at_2:Int):Option (ad×al) :=
 (
   (aR OF).bind λ r1 =>
   if (!r1.1)=true then
    some (r1.2.fl,r1.2.fat,r1.2.H',r1.2.G',k_1,at_2,([]:Bytes))
   else
    some (r1.2.fl,r1.2.fat,r1.2.H',r1.2.G',r1.2.AT.Ar,r1.2.AT.fAt,r1.2.AT.AI)
  ).bind λ Y5 =>
 some ((ad.mk 0 0 ([]:Bytes) ([]:Bytes) (am.mk 0 0 ([]:Bytes) [] []) [] 0),(al.mk Y5.1 Y5.2.1 Y5.2.2.1 Y5.2.2.2.1 (ao.mk Y5.2.2.2.2.1 Y5.2.2.2.2.2.1 Y5.2.2.2.2.2.2)))
instance zU (OF:al) (k_1:Int) (at_2:Int):∀ (r:ad×al),HO (bo OF k_1 at_2=some r) Tryz.prog 71 [.ptr 1000000 0,.p (eI k_1),.p (eI at_2)] [(1000000,((al.cs OF).map .p))] (.p (.agg (ad.cs r.1))) ([(1000000,((al.cs r.2).map .p))]):=by
 refine hO good [] [1000000] Tryz.func71 Z Z λ r h0 _ w0 F=>?_;unfold bo at h0;have:=js [101];have:=jO 101 (List ac×Int×Int×Int×Int×Int×Bytes) λ v=>[(1000000,(pB v))]
 exact J0
def gD (SO:am)(N':Int):Option ad :=
 some (ad.mk 1 0 ([]:Bytes) ([]:Bytes) SO [] N')
instance Fc (SO:am) (N':Int):∀ (r:ad),HP (gD SO N'=some r) Tryz.prog 39 [.agg (am.cs SO),eI N'] (.p (.agg (ad.cs r))):=by
 refine hP good Tryz.func39 Z Z λ r h0 _ w0=>?_;unfold gD at h0;exact J0
def iJ (n:Nat)(SR:ad)(d_1:ao):Option (ad×ao) :=
 if d_1.Ar=0 then
  (lX n SR).bind λ r2 =>
  if r2=0 then
   some (SR,(ao.mk 0 0 ([]:Bytes)))
  else
   some ((ad.mk 0 0 ([]:Bytes) ([]:Bytes) (am.mk 0 0 ([]:Bytes) [] []) [] 0),(ao.mk r2 SR.fAt ([]:Bytes)))
 else
  some ((ad.mk 0 0 ([]:Bytes) ([]:Bytes) (am.mk 0 0 ([]:Bytes) [] []) [] 0),d_1)
instance KR (n:Nat) (SR:ad) (d_1:ao):∀ (r:ad×ao),HP (iJ n SR d_1=some r) Tryz.prog 34 [.agg (ad.cs SR),.agg (ao.cs d_1)] (.tuple [.p (.agg (ad.cs r.1)),.p (.agg (ao.cs r.2))]):=by
 refine hP good Tryz.func34 Z Z λ r h0 _ w0=>?_;unfold iJ at h0;exact J0
def dH (Pn:ar):Option (ao×ar) :=
 if 4096 < (Pn.F'.length:Int) then
  ck (inR (Pn.fat+Pn.D')) <|
  some ((ao.mk 3 (Pn.fat+Pn.D') ([]:Bytes)),(ar.mk Pn.fs Pn.fat Pn.fi Pn.D' Pn.F' Pn.BY Pn.IN))
 else
  some ((ao.mk 0 0 ([]:Bytes)),(ar.mk Pn.fs Pn.fat Pn.fi Pn.D' Pn.F' Pn.BY Pn.IN))
instance yi (Pn:ar):∀ (r:ao×ar),HO (dH Pn=some r) Tryz.prog 76 [.ptr 1000000 0] [(1000000,[.p (eS Pn.fs),.p (eI Pn.fat),.p (eI Pn.fi),.p (eI Pn.D'),.p (eS Pn.F'),.vec 900000 11 0 (Pn.BY.map ak),.p (eB Pn.IN)])] (.p (.agg (ao.cs r.1))) ([(1000000,[.p (eS r.2.fs),.p (eI r.2.fat),.p (eI r.2.fi),.p (eI r.2.D'),.p (eS r.2.F'),.vec 2000000 11 0 (r.2.BY.map ak),.p (eB r.2.IN)])]):=by
 refine hO good [800000] [1000000] Tryz.func76 Z Z λ r h0 _ w0 F=>?_;unfold dH at h0;refine nx 11 Z (oLs Z ?_);refine nx 2 Z (fD [8] h0 Z (λ c1 h0=>?_) λ c1 h0=>?_)
 ·refine nx 2 Z (cc' h0 λ Vg h0=>?_);refine mG F0 (mSq ⟨1,[10],(λ _=>.none),(λ _=>[(0,.ptr 1000000 0),(2,.ptr 2 0)]),(ob2 ([(2,jU),(1000000,[.p (eS Pn.fs),.p (eI Pn.fat),.p (eI Pn.fi),.p (eI Pn.D'),.p (eS Pn.F'),.vec 900000 11 0 (Pn.BY.map ak),.p (eB Pn.IN)])]) (2,[.p (eI 3),.p (eI (Pn.fat+Pn.D')),.p (eS ([]:Bytes))]))⟩ Z ?_);refine dPc (.ptr 1000000 0) Z (dPc (.ptr 1000000 0) Z ?_);refine dPc (.ptr 1000000 1) Z (dPc (.p (eI Pn.fat)) Z ?_);refine dPc (.ptr 1000000 0) Z (dPc (.ptr 1000000 0) Z ?_);refine dPc (.ptr 1000000 3) Z (dPc (.p (eI Pn.D')) Z ?_);refine dO (.p (eI (Pn.fat+Pn.D'))) [12,16] Z (λ _ sl Sk K hK=>ap Z (fY Z Z Z (Sk _ _ Z) (Sk _ _ Z) Z Vg hK)) (dPc (.p (.agg [eI 3,eI (Pn.fat+Pn.D'),eS ([]:Bytes)])) Z ?_);refine dS Z (fj ?_);exact nx 2 Z Ca
 exact nx 8 Z Ca
def ep (Pn:ar):Option ar :=
 (
   if Pn.D' < Pn.fi then
    ck (inR (Pn.fat+Pn.D')) <|
    (gD (am.mk 3 0 Pn.F' [] []) (Pn.fat+Pn.D')).bind λ r3 =>
    ck ((Pn.BY.length+1)*160<=140737488355328) <|
    some (Pn.BY++[r3])
   else
    some Pn.BY
  ).bind λ f6 =>
 some (ar.mk Pn.fs Pn.fat Pn.fi Pn.D' ([]:Bytes) f6 Pn.IN)
instance wM (Pn:ar):∀ (r:ar),HO (ep Pn=some r) Tryz.prog 40 [.ptr 1000000 0] [(1000000,[.p (eS Pn.fs),.p (eI Pn.fat),.p (eI Pn.fi),.p (eI Pn.D'),.p (eS Pn.F'),.vec 900000 11 0 (Pn.BY.map ak),.p (eB Pn.IN)])] (.tuple []) ([(1000000,[.p (eS r.fs),.p (eI r.fat),.p (eI r.fi),.p (eI r.D'),.p (eS r.F'),.vec 2000000 11 0 (r.BY.map ak),.p (eB r.IN)])]):=by
 refine hO good [800000] [1000000] Tryz.func40 Z Z λ r h0 _ w0 F=>?_;unfold ep at h0;refine nx 1 Z (bd h0 λ o8 h1 h0=>?_);refine kN o8 (λ v9=>⟨[(0,.ptr 1000000 0)],[(1000000,[.p (eS Pn.fs),.p (eI Pn.fat),.p (eI Pn.fi),.p (eI Pn.D'),.p (eS Pn.F'),.vec 900000 11 0 (v9.map ak),.p (eB Pn.IN)])]⟩) ?_ ?_
 ·exact nx 7 Z (Nj (oi h0) (bj (ca 900000 800000 Z Z Z Z Z) (aU _)) Z Z Z Z (sr) ⟨⟨_,Z,⟨sr,sr,sr,sr,sr,sr,sr,trivial⟩⟩,trivial⟩)
 refine nx 1 Z (mD [(0,.ptr 1000000 0)] Z ⟨Z,trivial⟩ Z ?_);refine dR 9 Z (dE Z ?_);refine nx 1 Z (fD [10] h1 Z (λ c1 h1=>?_) λ c1 h1=>?_)
 ·refine nx 1 Z (cc' h1 λ Vg h1=>?_);refine bd h1 λ r3 e4 h1=>cc' h1 λ YM h1=>mG (gE (t:=⟨[(0,.ptr 1000000 0)],[(1000000,[.p (eS Pn.fs),.p (eI Pn.fat),.p (eI Pn.fi),.p (eI Pn.D'),.p (eS Pn.F'),.vec 900000 11 0 (Pn.BY.map ak),.p (eB Pn.IN)])]⟩) Z Z) (mSP ⟨3,[21,23,26],(by4 (.some λ i=>Nat.beq i 900000||Nat.beq i 32) (.fn (upP 32 11 (.agg (ad.cs r3)))) .none .none),(λ _=>[(0,.ptr 1000000 0)]),(by4 ([(1000000,[.p (eS Pn.fs),.p (eI Pn.fat),.p (eI Pn.fi),.p (eI Pn.D'),.p (eS Pn.F'),.vec 900000 11 0 (Pn.BY.map ak),.p (eB Pn.IN)])]) ([(1000000,((ar.cs Pn).map .p))]) ([(1000000,((ar.cs Pn).map .p))]) ([(1000000,[.p (eS Pn.fs),.p (eI Pn.fat),.p (eI Pn.fi),.p (eI Pn.D'),.p (eS Pn.F'),.vec 32 11 0 (Pn.BY.map ak++[.agg (ad.cs r3)]),.p (eB Pn.IN)]),(1000000,((ar.cs Pn).map .p))]))⟩ ⟨3,[21,26,23],(by4 (.some λ i=>Nat.beq i 900000||Nat.beq i 32) .none (.fn (upP 32 11 (.agg (ad.cs r3)))) .none),(λ _=>[(0,.ptr 1000000 0)]),(by4 ([(1000000,[.p (eS Pn.fs),.p (eI Pn.fat),.p (eI Pn.fi),.p (eI Pn.D'),.p (eS Pn.F'),.vec 900000 11 0 (Pn.BY.map ak),.p (eB Pn.IN)])]) ([(1000000,((ar.cs Pn).map .p))]) ([(1000000,[.p (eS Pn.fs),.p (eI Pn.fat),.p (eI Pn.fi),.p (eI Pn.D'),.p (eS Pn.F'),.vecp 32 11 0 (Pn.BY.map ak),.p (eB Pn.IN)]),(1000000,((ar.cs Pn).map .p))]) ([(1000000,[.p (eS Pn.fs),.p (eI Pn.fat),.p (eI Pn.fi),.p (eI Pn.D'),.p (eS Pn.F'),.vec 32 11 0 (Pn.BY.map ak++[.agg (ad.cs r3)]),.p (eB Pn.IN)]),(1000000,((ar.cs Pn).map .p))]))⟩ Z Z Z Z Z Z Z ⟨Z,trivial⟩ Z (lt3 ⟨Z,trivial⟩ ⟨Z,trivial⟩ ⟨Z,trivial⟩) (lt3 ⟨Z,trivial⟩ ⟨Z,trivial⟩ ⟨Z,trivial⟩) Z Z Z Z Z ?_);refine dPc (.ptr 1000000 0) Z (dPc (.ptr 1000000 0) Z ?_);refine dPc (.ptr 1000000 5) Z (dP (by4 (.vec 900000 11 0 (Pn.BY.map ak)) (.p (eL ak Pn.BY)) (.p (eL ak Pn.BY)) (.p (eL ak Pn.BY))) Z ?_);refine dPc (.ptr 1000000 0) Z (dPc (.ptr 1000000 0) Z ?_);refine dPc (.ptr 1000000 4) Z (dPc (.p (eS Pn.F')) Z ?_);refine dPc (.p (.agg [eI 3,eI 0,eS Pn.F',.val (.slice none 0 0),.val (.slice none 0 0)])) Z (dPc (.ptr 1000000 0) Z ?_);refine dPc (.ptr 1000000 0) Z (dPc (.ptr 1000000 1) Z ?_);refine dPc (.p (eI Pn.fat)) Z (dPc (.ptr 1000000 0) Z ?_);refine dPc (.ptr 1000000 0) Z (dPc (.ptr 1000000 3) Z ?_);refine dPc (.p (eI Pn.D')) Z (dO (.p (eI (Pn.fat+Pn.D'))) [23,27] Z (λ _ sl Sk K hK=>ap Z (fY Z Z Z (Sk _ _ Z) (Sk _ _ Z) Z Vg hK)) ?_);refine dO (.p (.agg (ad.cs r3))) [19,28] Z (λ _ sl Sk K hK=>ap Z (gA (HP.c e4) Z Z Z (aT (Sk _ _ Z) (aT (Sk _ _ Z) b9)) ⟨n0 ⟨.inl Z,.inl Z,.inl Z,.inr ⟨Z,Z⟩,.inr ⟨Z,Z⟩,trivial⟩,sr,trivial⟩ Tryz.call39 Z hK)) (dO (.p (eI (Pn.BY.length:Int))) [14] Z (λ _ sl Sk K hK=>ap Z (mZ (f:=ak) (l:=Pn.BY) Z Z Z Z Z (Sk _ _ Z) Z hK)) ?_);refine dO (.p (eL (λ x:PV=>x) [.agg rq])) [] Z (λ _ sl Sk K hK=>ap Z (aH (λ x:PV=>x) [.agg rq] Z Z Z Z Z Z (cO Z Z dW) Z Z Z Z Z Z Z hK)) (dI (by4 (.vecp 32 11 0 (Pn.BY.map ak)) (.vecp 32 11 0 (Pn.BY.map ak)) (.vec 32 11 0 (Pn.BY.map ak++[.agg (ad.cs r3)])) (.vec 32 11 0 (Pn.BY.map ak++[.agg (ad.cs r3)]))) [14,31] Z (λ sl Sk K hK=>ap Z (qU ak Pn.BY Z Z Z Z Z Z Z Z (Sk _ _ Z) Z Z (Sk _ _ Z) Z Z Z Z Z YM hK)) ?_);refine rc (by4 (.elp 32 11) (.elp 32 11) .undef .undef) Z Z Z (L6 Z Z Z Y) (lt3 (nl Z) Y Y) (jR Z (jR Z (kD [(30,_),(32,_)] ⟨.inr ⟨19,_,Z,Z,Z⟩,.inr ⟨21,_,Z,Z,Z⟩,trivial⟩ (λ sl Sk K hK=>ap Z (pT Z Z Z Z Z Z Z (Sk _ _ Z) (Sk _ _ Z) rG hK)) (jR Z mT)))) (lr [(29,_),(33,_)] Z ⟨.inr ⟨18,_,Z,Z,Z⟩,.inr ⟨22,_,Z,Z,Z⟩,trivial⟩ Z (λ sl Sk K hK=>ap Z (wS (z:=.agg (ad.cs r3)) Z Z Z Z (Sk _ _ Z) (Sk _ _ Z) Z Z Z Z Z hK)) ?_);refine dPc (.ptr 1000000 0) Z (dPc (.ptr 1000000 5) Z ?_);refine dS Z (Bm (dPc (.ptr 1000000 0) Z (dPc (.ptr 1000000 0) Z (dPc (.ptr 1000000 5) Z (dP (by4 (.vec 900000 11 0 (Pn.BY.map ak)) (.p (eL ak Pn.BY)) (.p (eL ak Pn.BY)) (.p (eL ak Pn.BY))) Z (dPc (.ptr 1000000 0) Z (dPc (.ptr 1000000 0) Z (dPc (.ptr 1000000 4) Z (dPc (.p (eS Pn.F')) Z (dPc (.p (.agg [eI 3,eI 0,eS Pn.F',.val (.slice none 0 0),.val (.slice none 0 0)])) Z (dPc (.ptr 1000000 0) Z (dPc (.ptr 1000000 0) Z (dPc (.ptr 1000000 1) Z (dPc (.p (eI Pn.fat)) Z (dPc (.ptr 1000000 0) Z (dPc (.ptr 1000000 0) Z (dPc (.ptr 1000000 3) Z (dPc (.p (eI Pn.D')) Z (dO (.p (eI (Pn.fat+Pn.D'))) [23,27] Z (λ _ sl Sk K hK=>ap Z (fY Z Z Z (Sk _ _ Z) (Sk _ _ Z) Z Vg hK)) (dO (.p (.agg (ad.cs r3))) [19,28] Z (λ _ sl Sk K hK=>ap Z (gA (HP.c e4) Z Z Z (aT (Sk _ _ Z) (aT (Sk _ _ Z) b9)) ⟨n0 ⟨.inl Z,.inl Z,.inl Z,.inr ⟨Z,Z⟩,.inr ⟨Z,Z⟩,trivial⟩,sr,trivial⟩ Tryz.call39 Z hK)) (dO (.p (eI (Pn.BY.length:Int))) [14] Z (λ _ sl Sk K hK=>ap Z (mZ (f:=ak) (l:=Pn.BY) Z Z Z Z Z (Sk _ _ Z) Z hK)) (dO (.p (eL (λ x:PV=>x) [.agg rq])) [] Z (λ _ sl Sk K hK=>ap Z (aH (λ x:PV=>x) [.agg rq] Z Z Z Z Z Z (cO Z Z dW) Z Z Z Z Z Z Z hK)) (dI (by4 (.vecp 32 11 0 (Pn.BY.map ak)) (.vecp 32 11 0 (Pn.BY.map ak)) (.vecp 32 11 0 (Pn.BY.map ak)) (.vec 32 11 0 (Pn.BY.map ak++[.agg (ad.cs r3)]))) [14,31] Z (λ sl Sk K hK=>ap Z (qU ak Pn.BY Z Z Z Z Z Z Z Z (Sk _ _ Z) Z Z (Sk _ _ Z) Z Z Z Z Z YM hK)) (rc (by4 (.elp 32 11) (.elp 32 11) (.elp 32 11) .undef) Z Z Z (L6 Z Z Z Y) (lt3 (nl Z) Y Y) (jR Z (kD [(30,_),(32,_)] ⟨.inr ⟨19,_,Z,Z,Z⟩,.inr ⟨21,_,Z,Z,Z⟩,trivial⟩ (λ sl Sk K hK=>ap Z (pT Z Z Z Z Z Z Z (Sk _ _ Z) (Sk _ _ Z) rG hK)) (kD [(30,_),(32,_)] ⟨.inr ⟨19,_,Z,Z,Z⟩,.inr ⟨21,_,Z,Z,Z⟩,trivial⟩ (λ sl Sk K hK=>ap Z (pT Z Z Z Z Z Z Z (Sk _ _ Z) (Sk _ _ Z) rG hK)) (jR Z mT)))) (lr [(29,_),(33,_)] Z ⟨.inr ⟨18,_,Z,Z,Z⟩,.inr ⟨22,_,Z,Z,Z⟩,trivial⟩ Z (λ sl Sk K hK=>ap Z (wS (z:=.agg (ad.cs r3)) Z Z Z Z (Sk _ _ Z) (Sk _ _ Z) Z Z Z Z Z hK)) (dPc (.ptr 1000000 0) Z (dPc (.ptr 1000000 5) Z (dS Z (D1 Z ⟨Z,Z,trivial⟩ ⟨⟨Z,Z,.inr Z⟩,⟨⟨Z,Z,.inr Z⟩,⟨⟨Z,Z,.inr Z⟩,⟨⟨Z,Z,.inr Z⟩,⟨⟨Z,Z,.inr Z⟩,⟨⟨Z,Z,.inr Z⟩,⟨⟨Z,Z,.inr Z⟩,⟨⟨Z,Z,.inr Z⟩,⟨⟨Z,Z,.inr Z⟩,⟨⟨Z,Z,.inr Z⟩,⟨⟨Z,Z,.inr Z⟩,⟨⟨Z,Z,.inr Z⟩,⟨⟨Z,Z,.inr Z⟩,⟨⟨Z,Z,.inr Z⟩,⟨⟨Z,Z,.inr Z⟩,⟨⟨Z,Z,.inr Z⟩,⟨⟨Z,Z,.inr Z⟩,⟨⟨Z,Z,.inr Z⟩,⟨⟨Z,Z,.inr Z⟩,⟨⟨Z,Z,.inr Z⟩,⟨⟨Z,Z,.inr Z⟩,⟨⟨Z,Z,.inr Z⟩,⟨⟨Z,Z,.inr Z⟩,⟨⟨Z,Z,.inr Z⟩,⟨⟨Z,Z,.inr Z⟩,trivial⟩⟩⟩⟩⟩⟩⟩⟩⟩⟩⟩⟩⟩⟩⟩⟩⟩⟩⟩⟩⟩⟩⟩⟩⟩)))))))))))))))))))))))))))) ?_);refine mG (dN (t:=⟨[(0,.ptr 1000000 0)],[(1000000,[.p (eS Pn.fs),.p (eI Pn.fat),.p (eI Pn.fi),.p (eI Pn.D'),.p (eS Pn.F'),.vec 32 11 0 ((Pn.BY++[r3]).map ak),.p (eB Pn.IN)])]⟩) (kU ⟨er Z,trivial⟩ ⟨⟨_,Z,⟨sr,sr,sr,sr,sr,AV.sub_of_eq FU,sr,trivial⟩⟩,trivial⟩)) (nx 1 Z ?_);exact eX _ (oi h1).symm (bj (ca 32 900000 Z Z Z Z Z) (gE Z Z))
 exact ay
def dG (Ul:Bytes->Int->Option Int)(Mr:Bytes):Nat->Int->Int->Option (Unit⊕Int)
 | 0,_,_=>none
 | m+1,i18,depth19 =>
 if i18 < (Mr.length:Int) then
  ck ((0:Int)<=i18/\i18 < (Mr.length:Int)) <|
  jn (
    if byt Mr i18=123 then
     ck (inR (depth19+1)) <|
     some (.inl (i18,depth19+1))
    else
     if byt Mr i18=125 then
      ck (inR (depth19 - 1)) <|
      if depth19 - 1=0 then
       some (.inr (.inr i18))
      else
       some (.inl (i18,depth19 - 1))
     else
      if byt Mr i18=34 then
       ck (inR (i18+1)) <|
       (Ul Mr (i18+1)).bind λ Xe =>
       if Xe < 0 then
        some (.inr (.inr (-1)))
       else
        some (.inl (Xe,depth19))
      else
       some (.inl (i18,depth19))
   : Option ((Int×Int)⊕(Unit⊕Int))) λ Z8 =>
  ck (inR (Z8.1+1)) <|
  dG Ul Mr m (Z8.1+1) Z8.2
 else
  some (.inl ())
def ef (T9:Bytes->Int->Option Int)(Mr:Bytes):Nat->Int->Option (Unit⊕Int)
 | 0,_=>none
 | m+1,i23 =>
 if i23 < (Mr.length:Int) then
  jn (
    ck ((0:Int)<=i23/\i23 < (Mr.length:Int)) <|
    if byt Mr i23=34 then
     some (.inr (.inr i23))
    else
     ck ((0:Int)<=i23/\i23 < (Mr.length:Int)) <|
     if byt Mr i23=92 then
      ck (inR (i23+1)) <|
      some (.inl (i23+1))
     else
      ck ((0:Int)<=i23/\i23<=(Mr.length:Int)/\(Mr.length:Int)<=(Mr.length:Int)) <|
      (strings_HasPrefix (sub Mr i23 (Mr.length:Int)) ([36,36,123]:Bytes)).bind λ Wb =>
      if Wb=true then
       ck (inR (i23+2)) <|
       some (.inl (i23+2))
      else
       ck ((0:Int)<=i23/\i23<=(Mr.length:Int)/\(Mr.length:Int)<=(Mr.length:Int)) <|
       (strings_HasPrefix (sub Mr i23 (Mr.length:Int)) ([36,123]:Bytes)).bind λ Xr =>
       if Xr=true then
        ck (inR (i23+2)) <|
        (T9 Mr (i23+2)).bind λ Xq =>
        if Xq < 0 then
         some (.inr (.inr (-1)))
        else
         some (.inl Xq)
       else
        some (.inl i23)
   : Option (Int⊕(Unit⊕Int))) λ i43 =>
  ck (inR (i43+1)) <|
  ef T9 Mr m (i43+1)
 else
  some (.inl ())
mutual
def dF:Nat->Bytes->Int->Option Int
 | 0,_,_=>none
 | n+1,Mr,SJ =>
 jn (dG (fS n) Mr n SJ 1) λ _Yk =>
 some (-1)
def fS:Nat->Bytes->Int->Option Int
 | 0,_,_=>none
 | n+1,Mr,SJ =>
 jn (ef (dF n) Mr n SJ) λ _VW =>
 some (-1)
end
theorem sF (n:Nat):tQ (dF n) 124/\tQ (fS n) 156:=by
 induction n with
 | zero=>exact Zr
 | succ n ih =>
 obtain ⟨_,_⟩:=ih;refine ⟨?_,?_⟩
 ·refine λ Mr SJ=>hP good Tryz.func124 Z Z λ r h0 _ w0=>?_;rw [dF] at h0;refine nx 10 rfl ?_;obtain ⟨o39,h1,Tz,hR0⟩:=br h0;refine kEx 0 (λ v40:Unit=>o39=.inl v40) (λ v40=>⟨[],[]⟩) (λ v40 hv=>?_) ?_
  ·exact fP
  refine lG (λ (ZI:Int×Int)=>⟨[(0,.p (eS Mr)),(1,.p (eI ZI.1)),(5,.p (eI ZI.2))],[]⟩) (λ m (ZI:Int×Int)=>dG (fS n) Mr m ZI.1 ZI.2) Y (SJ,1) h1 (gE rfl rfl) ?_;rintro m ⟨i18,depth19⟩ h1;replace h1:dG (fS n) Mr (m+1) i18 depth19=some o39:=h1;rw [dG] at h1;refine nx 5 rfl (oLs rfl ?_);refine nx 2 rfl (fD [9] h1 rfl (λ c20 h1=>?_) λ c20 h1=>?_)
  ·refine nx 8 rfl (oI h1 rfl λ U2 h1=>?_);refine nx 1 rfl ?_;obtain ⟨Xh,h2,hL1,hR1⟩:=br h1;refine kX (λ VS:Int×Int=>Xh=.inl VS) (λ VS=>⟨[(0,.p (eS Mr)),(1,.p (eI VS.1)),(5,.p (eI VS.2))],[]⟩) (λ VS hv=>?_) ?_
   ·have h1:=hL1 _ hv;exact ay
   exact bV
  exact ay
 ·refine λ Mr SJ=>hP good Tryz.func156 Z Z λ r h0 _ w0=>?_;rw [fS] at h0;refine nx 6 rfl ?_;obtain ⟨Yl,h1,Tz,hR0⟩:=br h0;refine kEx 0 (λ WN:Unit=>Yl=.inl WN) (λ WN=>⟨[],[]⟩) (λ WN hv=>?_) ?_
  ·exact fP
  refine lG (λ (Xu:Int)=>⟨[(0,.p (eS Mr)),(1,.p (eI Xu))],[]⟩) (λ m (Xu:Int)=>ef (dF n) Mr m Xu) Y SJ h1 (gE rfl rfl) ?_;rintro m i23 h1;replace h1:ef (dF n) Mr (m+1) i23=some Yl:=h1;rw [ef] at h1;refine nx 5 rfl (oLs rfl ?_);refine nx 2 rfl (fD [8] h1 rfl (λ XT h1=>?_) λ XT h1=>?_)
  ·refine nx 4 rfl ?_;obtain ⟨o51,h2,hL1,hR1⟩:=br h1;refine kX (λ X7:Int=>o51=.inl X7) (λ X7=>⟨[(0,.p (eS Mr)),(1,.p (eI X7))],[]⟩) (λ X7 hv=>?_) ?_
   ·have h1:=hL1 _ hv;exact ay
   exact bV
  exact ay
instance Fx (n:Nat):tQ (dF n) 124:=(sF n).1
def b8 (Mr:Bytes):Nat->Int->Option Int
 | 0,_=>none
 | m+1,n10 =>
 (
   if n10 < (Mr.length:Int) then
    if n10 < 6 then
     ck ((0:Int)<=n10/\n10 < (Mr.length:Int)) <|
     (strings_IndexByte ([48,49,50,51,52,53,54,55,56,57,97,98,99,100,101,102]:Bytes) (byt Mr n10)).bind λ Xf =>
     some (decide (0<=Xf))
    else
     some false
   else
    some false
  ).bind λ TY =>
 if TY=true then
  ck (inR (n10+1)) <|
  b8 Mr m (n10+1)
 else
  some n10
def gS (n:Nat)(Mr:Bytes):Option Int :=
 (b8 Mr n 0).bind λ n20 =>
 some n20
instance zP (n:Nat) (Mr:Bytes):∀ (r:Int),HP (gS n Mr=some r) Tryz.prog 157 [eS Mr] (.p (eI r)):=by
 refine hP good Tryz.func157 Z Z λ r h0 _ w0=>?_;unfold gS at h0;refine nx 10 Z (bd h0 λ Wv h1 h0=>?_);refine kE 0 Wv (λ WW=>⟨[(3,.p (eI WW))],[]⟩) ?_ ?_
 ·exact J0
 refine lG (λ (q25:Int)=>⟨[(0,.p (eS Mr)),(3,.p (eI q25))],[]⟩) (λ m (q25:Int)=>b8 Mr m q25) Y 0 h1 (gE rfl rfl) ?_;rintro m n10 h1;replace h1:b8 Mr (m+1) n10=some Wv:=h1;rw [b8] at h1;have:=js [200];have:=jS 200 Bool λ v=>[(18,.p (eB v))]
 exact ay
def lh (n:Nat)(Mr:Bytes):Option (Bytes×Int×Int) :=
 jn (
   (strings_HasPrefix Mr ([92,117]:Bytes)).bind λ r1 =>
   if r1=true then
    (
      if 2 < (Mr.length:Int) then
       ck ((0:Int)<=2/\2 < (Mr.length:Int)) <|
       some (!decide (byt Mr 2=123))
      else
       some false
     ).bind λ t6 =>
    if t6=true then
     some (.inr (([]:Bytes),0,2))
    else
     if 3 < (Mr.length:Int) then
      ck ((0:Int)<=3/\3<=(Mr.length:Int)/\(Mr.length:Int)<=(Mr.length:Int)) <|
      (gS n (sub Mr 3 (Mr.length:Int))).bind λ Tn =>
      ck (inR (4+Tn)) <|
      some (.inl (4+Tn))
     else
      some (.inl 4)
   else
    some (.inl 2)
  : Option (Int⊕(Bytes×Int×Int))) λ n13 =>
 if (Mr.length:Int) < n13 then
  some (([]:Bytes),0,40)
 else
  ck ((0:Int)<=0/\0<=n13/\n13<=(Mr.length:Int)) <|
  ck (([34]:Bytes).length+(sub Mr 0 n13).length<=9223372036854775807) <|
  ck ((([34]:Bytes)++(sub Mr 0 n13)).length+([34]:Bytes).length<=9223372036854775807) <|
  (hQ n ((([34]:Bytes)++(sub Mr 0 n13))++([34]:Bytes))).bind λ Ub =>
  if Ub.2.2=0 then
   some (Ub.1,n13,0)
  else
   some (([]:Bytes),0,2)
instance Gn (n:Nat) (Mr:Bytes):∀ (r:Bytes×Int×Int),HP (lh n Mr=some r) Tryz.prog 125 [eS Mr] (.tuple [.p (eS r.1),.p (eI r.2.1),.p (eI r.2.2)]):=by
 refine hP good Tryz.func125 Z Z λ r h0 _ w0=>?_;unfold lh at h0;refine nx 11 rfl ?_;obtain ⟨Wv,h1,Tz,hR0⟩:=br h0;refine kX (λ WW:Int=>Wv=.inl WW) (λ WW=>⟨[(0,.p (eS Mr)),(5,.p (eI WW))],[]⟩) (λ WW hv=>?_) ?_
 ·exact fP
 have:=js [300];have:=jS 300 Bool λ v=>[(18,.p (eB v))]
 exact ay
def gm (n:Nat)(Pn:ar):Option (ao×ar) :=
 ck ((0:Int)<=Pn.fi/\Pn.fi<=(Pn.fs.length:Int)/\(Pn.fs.length:Int)<=(Pn.fs.length:Int)) <|
 jn (
   ck ((0:Int)<=0/\0 < ((sub Pn.fs Pn.fi (Pn.fs.length:Int)).length:Int)) <|
   if byt (sub Pn.fs Pn.fi (Pn.fs.length:Int)) 0=92 then
    (lh n (sub Pn.fs Pn.fi (Pn.fs.length:Int))).bind λ r4 =>
    if r4.2.2=0 then
     ck (Pn.F'.length+r4.1.length<=9223372036854775807) <|
     ck (inR (Pn.fi+r4.2.1)) <|
     some (.inl (Pn.fi+r4.2.1,Pn.F'++r4.1))
    else
     ck (inR (Pn.fat+Pn.fi)) <|
     some (.inr ((ao.mk r4.2.2 (Pn.fat+Pn.fi) ([]:Bytes)),(ar.mk Pn.fs Pn.fat Pn.fi Pn.D' Pn.F' Pn.BY Pn.IN)))
   else
    (bm (sub Pn.fs Pn.fi (Pn.fs.length:Int))).bind λ Tn =>
    (
      if Tn.1=65533 then
       if Tn.2=1 then
        some true
       else
        if Tn.1 < 32 then
         some true
        else
         if Tn.1=127 then
          some true
         else
          some (decide (Tn.1=34))
      else
       if Tn.1 < 32 then
        some true
       else
        if Tn.1=127 then
         some true
        else
         some (decide (Tn.1=34))
     ).bind λ t18 =>
    if t18=true then
     ck (inR (Pn.fat+Pn.fi)) <|
     some (.inr ((ao.mk 2 (Pn.fat+Pn.fi) ([]:Bytes)),(ar.mk Pn.fs Pn.fat Pn.fi Pn.D' Pn.F' Pn.BY Pn.IN)))
    else
     ck ((0:Int)<=0/\0<=Tn.2/\Tn.2<=((sub Pn.fs Pn.fi (Pn.fs.length:Int)).length:Int)) <|
     ck (Pn.F'.length+(sub (sub Pn.fs Pn.fi (Pn.fs.length:Int)) 0 Tn.2).length<=9223372036854775807) <|
     ck (inR (Pn.fi+Tn.2)) <|
     some (.inl (Pn.fi+Tn.2,Pn.F'++(sub (sub Pn.fs Pn.fi (Pn.fs.length:Int)) 0 Tn.2)))
  : Option ((Int×Bytes)⊕(ao×ar))) λ Y2 =>
 (dH (ar.mk Pn.fs Pn.fat Y2.1 Pn.D' Y2.2 Pn.BY Pn.IN)).bind λ TR =>
 some (TR.1,(ar.mk TR.2.fs TR.2.fat TR.2.fi TR.2.D' TR.2.F' TR.2.BY TR.2.IN))
instance yg (n:Nat) (Pn:ar):∀ (r:ao×ar),HO (gm n Pn=some r) Tryz.prog 78 [.ptr 1000000 0] [(1000000,[.p (eS Pn.fs),.p (eI Pn.fat),.p (eI Pn.fi),.p (eI Pn.D'),.p (eS Pn.F'),.vec 900000 11 0 (Pn.BY.map ak),.p (eB Pn.IN)])] (.p (.agg (ao.cs r.1))) ([(1000000,[.p (eS r.2.fs),.p (eI r.2.fat),.p (eI r.2.fi),.p (eI r.2.D'),.p (eS r.2.F'),.vec 2000000 11 0 (r.2.BY.map ak),.p (eB r.2.IN)])]):=by
 refine hO good [800000] [1000000] Tryz.func78 Z Z λ r h0 _ w0 F=>?_;unfold gm at h0;refine nx 5 rfl (cc' h0 λ W8 h0=>?_);refine mD [(0,.ptr 1000000 0),(2,.ptr 2 0)] rfl ⟨rfl,rfl,trivial⟩ rfl (dR 8 rfl ?_);refine dq (.p (eS (sub Pn.fs Pn.fi (Pn.fs.length:Int)))) [12,16] rfl (λ _ e _ q=>ap rfl (fu (a:=Pn.fs) (l:=Pn.fi) (h:=(Pn.fs.length:Int)) Z Z Z Z Z (e _ _ rfl) pc rfl W8 q)) rfl (dR 1 rfl ?_);refine dE rfl (nx 2 rfl ?_);obtain ⟨X4,h1,Tz,hR0⟩:=br h0;refine kX (λ WO:Int×Bytes=>X4=.inl WO) (λ WO=>⟨[(0,.ptr 1000000 0),(2,.ptr 2 0)],[(2,jU),(1000000,[.p (eS Pn.fs),.p (eI Pn.fat),.p (eI WO.1),.p (eI Pn.D'),.p (eS WO.2),.vec 900000 11 0 (Pn.BY.map ak),.p (eB Pn.IN)])]⟩) (λ WO hv=>?_) ?_
 ·have h0:=Tz _ hv;refine nx 4 Z (bd h0 λ TR e27 h0=>?_);refine mO Z (cVq [1000000] [900000] 101000 101001 (HO.c e27) Tryz.call76 Z ?_);exact nx 3 Z Ak
 refine nx 3 Z (oI h1 Z λ Vg h1=>?_);refine nx 2 Z (fD [20] h1 Z (λ c3 h1=>?_) λ c3 h1=>?_)
 ·refine nx 4 Z (K1 λ r4 h1=>nx 14 Z ?_);refine fN [28] h1 Z (λ c6 h1=>?_) λ c6 h1=>?_
  ·exact ay
  refine nx 2 Z (cc' h1 λ WS h1=>?_);refine mG (gE (t:=⟨[(0,.ptr 1000000 0),(2,.ptr 2 0),(6,.p (eI r4.2.2))],[(2,jU),(1000000,[.p (eS Pn.fs),.p (eI Pn.fat),.p (eI Pn.fi),.p (eI Pn.D'),.p (eS Pn.F'),.vec 900000 11 0 (Pn.BY.map ak),.p (eB Pn.IN)])]⟩) Z Z) (mSq ⟨1,[11],(λ _=>.none),(λ _=>[(0,.ptr 1000000 0),(2,.ptr 2 0),(6,.p (eI r4.2.2))]),(ob2 ([(2,jU),(1000000,[.p (eS Pn.fs),.p (eI Pn.fat),.p (eI Pn.fi),.p (eI Pn.D'),.p (eS Pn.F'),.vec 900000 11 0 (Pn.BY.map ak),.p (eB Pn.IN)])]) (2,[.p (eI r4.2.2),.p (eI (Pn.fat+Pn.fi)),.p (eS ([]:Bytes))]))⟩ Z ?_);refine dPc (.p (eI r4.2.2)) Z (dPc (.ptr 1000000 0) Z ?_);refine dPc (.ptr 1000000 0) Z (dPc (.ptr 1000000 1) Z ?_);refine dPc (.p (eI Pn.fat)) Z (dPc (.ptr 1000000 0) Z ?_);refine dPc (.ptr 1000000 0) Z (dPc (.ptr 1000000 2) Z ?_);refine dPc (.p (eI Pn.fi)) Z (dO (.p (eI (Pn.fat+Pn.fi))) [33,37] Z (λ _ sl Sk K hK=>ap Z (fY Z Z Z (Sk _ _ Z) (Sk _ _ Z) Z WS hK)) ?_);refine dPc (.p (.agg [eI r4.2.2,eI (Pn.fat+Pn.fi),eS ([]:Bytes)])) Z (dS Z ?_);refine fj (nx 2 Z ?_);exact mQo (hR0 _ (oi h1).symm) (bj (ca 900000 800000 Z Z Z Z Z) (aU _)) Z Z Z Z (sr) ⟨⟨_,Z,⟨sr,sr,sr,sr,sr,sr,sr,trivial⟩⟩,trivial⟩
 refine nx 4 Z (bd h1 λ Tn XQ h1=>?_);refine oK (dK (sub Pn.fs Pn.fi (Pn.fs.length:Int)) _ XQ) Z ⟨sr,trivial⟩ Tryz.call126 Z (nx 8 Z ?_);refine bd h1 λ WR h2 h1=>kN WR (λ YQ=>⟨[(0,.ptr 1000000 0),(2,.ptr 2 0),(3,.p (eS (sub Pn.fs Pn.fi (Pn.fs.length:Int)))),(8,.p (eI Tn.2)),(78,.p (eB YQ))],[(2,jU),(1000000,[.p (eS Pn.fs),.p (eI Pn.fat),.p (eI Pn.fi),.p (eI Pn.D'),.p (eS Pn.F'),.vec 900000 11 0 (Pn.BY.map ak),.p (eB Pn.IN)])]⟩) ?_ ?_
 ·refine nx 1 Z (fB [78] h1 Z (λ Xj h1=>?_) λ Xj h1=>?_)
  ·refine nx 2 Z (cc' h1 λ VD h1=>?_);refine mG F0 (mSq ⟨1,[10],(λ _=>.none),(λ _=>[(0,.ptr 1000000 0),(2,.ptr 2 0)]),(ob2 ([(2,jU),(1000000,[.p (eS Pn.fs),.p (eI Pn.fat),.p (eI Pn.fi),.p (eI Pn.D'),.p (eS Pn.F'),.vec 900000 11 0 (Pn.BY.map ak),.p (eB Pn.IN)])]) (2,[.p (eI 2),.p (eI (Pn.fat+Pn.fi)),.p (eS ([]:Bytes))]))⟩ Z ?_);refine dPc (.ptr 1000000 0) Z (dPc (.ptr 1000000 0) Z ?_);refine dPc (.ptr 1000000 1) Z (dPc (.p (eI Pn.fat)) Z ?_);refine dPc (.ptr 1000000 0) Z (dPc (.ptr 1000000 0) Z ?_);refine dPc (.ptr 1000000 2) Z (dPc (.p (eI Pn.fi)) Z ?_);refine dO (.p (eI (Pn.fat+Pn.fi))) [82,86] Z (λ _ sl Sk K hK=>ap Z (fY Z Z Z (Sk _ _ Z) (Sk _ _ Z) Z VD hK)) (dPc (.p (.agg [eI 2,eI (Pn.fat+Pn.fi),eS ([]:Bytes)])) Z ?_);refine dS Z (fj ?_);exact nx 2 Z (mQo (hR0 _ (oi h1).symm) (bj (ca 900000 800000 Z Z Z Z Z) (aU _)) Z Z Z Z (sr) ⟨⟨_,Z,⟨sr,sr,sr,sr,sr,sr,sr,trivial⟩⟩,trivial⟩)
  refine nx 3 Z (cc' h1 λ U2 h1=>?_);refine cc' h1 λ W7 h1=>mG (gE (t:=⟨[(0,.ptr 1000000 0),(2,.ptr 2 0),(3,.p (eS (sub Pn.fs Pn.fi (Pn.fs.length:Int)))),(8,.p (eI Tn.2))],[(2,jU),(1000000,[.p (eS Pn.fs),.p (eI Pn.fat),.p (eI Pn.fi),.p (eI Pn.D'),.p (eS Pn.F'),.vec 900000 11 0 (Pn.BY.map ak),.p (eB Pn.IN)])]⟩) Z Z) (mSq ⟨1,[10],(λ _=>.none),(λ _=>[(0,.ptr 1000000 0),(2,.ptr 2 0),(3,.p (eS (sub Pn.fs Pn.fi (Pn.fs.length:Int)))),(8,.p (eI Tn.2))]),(ob2 ([(2,jU),(1000000,[.p (eS Pn.fs),.p (eI Pn.fat),.p (eI Pn.fi),.p (eI Pn.D'),.p (eS Pn.F'),.vec 900000 11 0 (Pn.BY.map ak),.p (eB Pn.IN)])]) (1000000,[.p (eS Pn.fs),.p (eI Pn.fat),.p (eI Pn.fi),.p (eI Pn.D'),.p (eS (Pn.F'++(sub (sub Pn.fs Pn.fi (Pn.fs.length:Int)) 0 Tn.2))),.vec 900000 11 0 (Pn.BY.map ak),.p (eB Pn.IN)]))⟩ Z ?_);refine dPc (.ptr 1000000 0) Z (dPc (.ptr 1000000 0) Z ?_);refine dPc (.ptr 1000000 4) Z (dPc (.p (eS Pn.F')) Z ?_);refine dPc (.p (eS (sub Pn.fs Pn.fi (Pn.fs.length:Int)))) Z (dPc (.p (eI Tn.2)) Z ?_);refine dO (.p (eS (sub (sub Pn.fs Pn.fi (Pn.fs.length:Int)) 0 Tn.2))) [93,94] Z (λ _ sl Sk K hK=>ap Z (fu (a:=sub Pn.fs Pn.fi (Pn.fs.length:Int)) (l:=0) (h:=Tn.2) Z Z Z Z Z (Sk _ _ Z) Z xg U2 hK)) (dO (.p (eS (Pn.F'++(sub (sub Pn.fs Pn.fi (Pn.fs.length:Int)) 0 Tn.2)))) [92,95] Z (λ _ sl Sk K hK=>ap Z (sj Z Z Z (Sk _ _ Z) (Sk _ _ Z) W7 hK)) ?_);exact ay
 exact bV
def cE (n:Nat)(OF:al):Option al :=
 (aJ n OF).bind λ r1 =>
 ck (inR (r1.2.H'+1)) <|
 some (al.mk r1.2.fl r1.2.fat (r1.2.H'+1) r1.2.G' r1.2.AT)
instance zW (n:Nat) (OF:al):∀ (r:al),HO (cE n OF=some r) Tryz.prog 185 [.ptr 1000000 0] [(1000000,((al.cs OF).map .p))] (.tuple []) ([(1000000,((al.cs r).map .p))]):=by
 refine hO good [] [1000000] Tryz.func185 Z Z λ r h0 _ w0 F=>?_;unfold cE at h0;exact J0
def ct (n:Nat)(OF:al)(s_1:Bytes):Option al :=
 (aY n OF s_1).bind λ r1 =>
 if (!r1.1)=true then
  (bp n r1.2).bind λ r4 =>
  (bo r4.2 2 r4.1.fAt).bind λ r6 =>
  some r6.2
 else
  (aJ n r1.2).bind λ r8 =>
  some r8.2
instance zS (n:Nat):uE (ct n) 103:=by
 refine λ OF s_1=>hO good [] [1000000] Tryz.func103 Z Z λ r h0 _ w0 F=>?_;unfold ct at h0;exact J0
def bw (n:Nat)(OF:al)(s_1:Bytes):Option al :=
 (ct n OF s_1).bind λ r1 =>
 ck (inR (r1.H' - 1)) <|
 some (al.mk r1.fl r1.fat (r1.H' - 1) r1.G' r1.AT)
instance zq (n:Nat):uE (bw n) 186:=by
 refine λ OF s_1=>hO good [] [1000000] Tryz.func186 Z Z λ r h0 _ w0 F=>?_;unfold bw at h0;exact J0
def cG (n:Nat)(OF:al)(s_1:Bytes):Option (Bool×al) :=
 (bp n OF).bind λ r1 =>
 (
   (aR r1.2).bind λ r3 =>
   if (!r3.1)=true then
    if r1.1.Ar=1 then
     some (decide (r1.1.B'=s_1),r3.2.fl,r3.2.fat,r3.2.H',r3.2.G',r3.2.AT.Ar,r3.2.AT.fAt,r3.2.AT.AI)
    else
     some (false,r3.2.fl,r3.2.fat,r3.2.H',r3.2.G',r3.2.AT.Ar,r3.2.AT.fAt,r3.2.AT.AI)
   else
    some (false,r3.2.fl,r3.2.fat,r3.2.H',r3.2.G',r3.2.AT.Ar,r3.2.AT.fAt,r3.2.AT.AI)
  ).bind λ VX =>
 some (VX.1,(al.mk VX.2.1 VX.2.2.1 VX.2.2.2.1 VX.2.2.2.2.1 (ao.mk VX.2.2.2.2.2.1 VX.2.2.2.2.2.2.1 VX.2.2.2.2.2.2.2)))
instance zV (n:Nat) (OF:al) (s_1:Bytes):∀ (r:Bool×al),HO (cG n OF s_1=some r) Tryz.prog 211 [.ptr 1000000 0,.p (eS s_1)] [(1000000,((al.cs OF).map .p))] (.p (eB r.1)) ([(1000000,((al.cs r.2).map .p))]):=by
 refine hO good [] [1000000] Tryz.func211 Z Z λ r h0 _ w0 F=>?_;unfold cG at h0;exact WD
def cw (n:Nat)(OF:al):Option (Bytes×al) :=
 (bp n OF).bind λ r1 =>
 (
   (aR r1.2).bind λ r3 =>
   if r3.1=true then
    some (true,r3.2.fl,r3.2.fat,r3.2.H',r3.2.G',r3.2.AT.Ar,r3.2.AT.fAt,r3.2.AT.AI)
   else
    if r1.1.Ar=1 then
     (fV r1.1.B').bind λ r7 =>
     some (r7,r3.2.fl,r3.2.fat,r3.2.H',r3.2.G',r3.2.AT.Ar,r3.2.AT.fAt,r3.2.AT.AI)
    else
     some (true,r3.2.fl,r3.2.fat,r3.2.H',r3.2.G',r3.2.AT.Ar,r3.2.AT.fAt,r3.2.AT.AI)
  ).bind λ TD =>
 if TD.1=true then
  (bo (al.mk TD.2.1 TD.2.2.1 TD.2.2.2.1 TD.2.2.2.2.1 (ao.mk TD.2.2.2.2.2.1 TD.2.2.2.2.2.2.1 TD.2.2.2.2.2.2.2)) 2 r1.1.fAt).bind λ Ub =>
  some (([]:Bytes),Ub.2)
 else
  (aJ n (al.mk TD.2.1 TD.2.2.1 TD.2.2.2.1 TD.2.2.2.2.1 (ao.mk TD.2.2.2.2.2.1 TD.2.2.2.2.2.2.1 TD.2.2.2.2.2.2.2))).bind λ T5 =>
  some (r1.1.B',T5.2)
instance vR (n:Nat) (OF:al):∀ (r:Bytes×al),HO (cw n OF=some r) Tryz.prog 223 [.ptr 1000000 0] [(1000000,((al.cs OF).map .p))] (.p (eS r.1)) ([(1000000,((al.cs r.2).map .p))]):=by
 refine hO good [] [1000000] Tryz.func223 Z Z λ r h0 _ w0 F=>?_;unfold cw at h0;have:=js [200];have:=jB 200 (Bool×List ac×Int×Int×Int×Int×Int×Bytes) (λ v=>[(17,.p (eB v.1))]) λ v=>[(1000000,(pB v.2))]
 exact J0
def du (n:Nat)(OF:al)(s_1:Bytes):Option al :=
 (cG n OF s_1).bind λ r1 =>
 if (!r1.1)=true then
  (bp n r1.2).bind λ r4 =>
  (bo r4.2 2 r4.1.fAt).bind λ r6 =>
  some r6.2
 else
  (aJ n r1.2).bind λ r8 =>
  some r8.2
instance xx (n:Nat):uE (du n) 224:=by
 refine λ OF s_1=>hO good [] [1000000] Tryz.func224 Z Z λ r h0 _ w0 F=>?_;unfold du at h0;exact J0
def bq (n:Nat)(l_1:List Bytes):Nat->Int->(List ac)->Int->Int->Int->Int->Int->Bytes->Option (((List ac)×Int×Int×Int×Int×Int×Bytes)⊕(Bytes×Bool×al))
 | 0,_,_,_,_,_,_,_,_=>none
 | m+1,t15,XP,WT,f18,f19,Yv,Yu,Yt =>
 if t15 < (l_1.length:Int) then
  ck ((0:Int)<=t15/\t15 < (l_1.length:Int)) <|
  (aY n (al.mk XP WT f18 f19 (ao.mk Yv Yu Yt)) (lat l_1 t15)).bind λ UC =>
  if UC.1=true then
   some (.inr (lat l_1 t15,true,UC.2))
  else
   ck (inR (t15+1)) <|
   bq n l_1 m (t15+1) UC.2.fl UC.2.fat UC.2.H' UC.2.G' UC.2.AT.Ar UC.2.AT.fAt UC.2.AT.AI
 else
  some (.inl (XP,WT,f18,f19,Yv,Yu,Yt))
def eh (n:Nat)(OF:al)(l_1:List Bytes):Option (Bytes×Bool×al) :=
 jn (bq n l_1 n 0 OF.fl OF.fat OF.H' OF.G' OF.AT.Ar OF.AT.fAt OF.AT.AI) λ Xx =>
 some (([]:Bytes),false,(al.mk Xx.1 Xx.2.1 Xx.2.2.1 Xx.2.2.2.1 (ao.mk Xx.2.2.2.2.1 Xx.2.2.2.2.2.1 Xx.2.2.2.2.2.2)))
instance yR (n:Nat) (OF:al) (l_1:List Bytes):∀ (r:Bytes×Bool×al),HO (eh n OF l_1=some r) Tryz.prog 140 [.ptr 1000000 0,.p (eL eS l_1)] [(1000000,((al.cs OF).map .p))] (.tuple [.p (eS r.1),.p (eB r.2.1)]) ([(1000000,((al.cs r.2.2).map .p))]):=by
 refine hO good [] [1000000] Tryz.func140 Z Z λ r h0 _ w0 F=>?_;unfold eh at h0;refine nx 9 rfl (oLl (f:=eS) Z Z ?_);refine nx 3 rfl ?_;obtain ⟨Y7,h1,Tz,hR0⟩:=br h0;refine kEx 0 (λ v46:(List ac)×Int×Int×Int×Int×Int×Bytes=>Y7=.inl v46) (λ v46=>⟨[],[(1000000,(pB v46))]⟩) (λ v46 hv=>?_) ?_
 ·exact fP
 refine lG (λ (U6:Int×(List ac)×Int×Int×Int×Int×Int×Bytes)=>⟨[(0,.ptr 1000000 0),(8,.p (eL eS l_1)),(9,.p (eI (l_1.length:Int))),(10,.p (eI U6.1))],[(1000000,(pB U6.2))]⟩) (λ m (U6:Int×(List ac)×Int×Int×Int×Int×Int×Bytes)=>bq n l_1 m U6.1 U6.2.1 U6.2.2.1 U6.2.2.2.1 U6.2.2.2.2.1 U6.2.2.2.2.2.1 U6.2.2.2.2.2.2.1 U6.2.2.2.2.2.2.2) Y (0,OF.fl,OF.fat,OF.H',OF.G',OF.AT.Ar,OF.AT.fAt,OF.AT.AI) h1 (gE rfl rfl) ?_;rintro m ⟨t15,XP,WT,f18,f19,Yv,Yu,Yt⟩ h1;replace h1:bq n l_1 (m+1) t15 XP WT f18 f19 Yv Yu Yt=some Y7:=h1;rw [bq] at h1;exact ay
def jP (SU:Int):Option (List Bytes) :=
 if SU=0 then
  some ([([124,124]:Bytes)])
 else
  if SU=1 then
   some ([([38,38]:Bytes)])
  else
   if SU=2 then
    some ([([61,61]:Bytes),([33,61]:Bytes)])
   else
    if SU=3 then
     some ([([60]:Bytes),([60,61]:Bytes),([62]:Bytes),([62,61]:Bytes)])
    else
     if SU=4 then
      some ([([43]:Bytes),([45]:Bytes)])
     else
      some ([([42]:Bytes),([47]:Bytes),([37]:Bytes)])
instance Ds (SU:Int):∀ (r:(List Bytes)),HP (jP SU=some r) Tryz.prog 141 [eI SU] (.p (eL eS r)):=by
 refine hP good Tryz.func141 Z Z λ r h0 _ w0=>?_;unfold jP at h0;refine nx 15 Z (fD [4,5] h0 Z (λ c1 h0=>?_) λ c1 h0=>?_)
 ·exact Jk
 exact Gp
def il (Mr:Bytes):Nat->Int->Option (Unit⊕Int)
 | 0,_=>none
 | m+1,t7 =>
 if t7 < 13 then
  ck ((0:Int)<=t7/\t7 < 13) <|
  if lat ([([124,124]:Bytes),([38,38]:Bytes),([61,61]:Bytes),([33,61]:Bytes),([60]:Bytes),([60,61]:Bytes),([62]:Bytes),([62,61]:Bytes),([43]:Bytes),([45]:Bytes),([42]:Bytes),([47]:Bytes),([37]:Bytes)]:List Bytes) t7=Mr then
   ck (inR (3+t7)) <|
   some (.inr (3+t7))
  else
   ck (inR (t7+1)) <|
   il Mr m (t7+1)
 else
  some (.inl ())
def qN (n:Nat)(Mr:Bytes):Option Int :=
 jn (il Mr n 0) λ _q14 =>
 some 0
instance Pu (n:Nat) (Mr:Bytes):∀ (r:Int),HP (qN n Mr=some r) Tryz.prog 142 [eS Mr] (.p (eI r)):=by
 refine hP good Tryz.func142 Z Z λ r h0 _ w0=>?_;unfold qN at h0;refine nx 11 rfl ?_;obtain ⟨o15,h1,Tz,hR0⟩:=br h0;refine kEx 0 (λ v16:Unit=>o15=.inl v16) (λ v16=>⟨[],[]⟩) (λ v16 hv=>?_) ?_
 ·exact fP
 refine lG (λ (Xy:Int)=>⟨[(0,.p (eS Mr)),(5,.p (.agg [eS ([124,124]:Bytes),eS ([38,38]:Bytes),eS ([61,61]:Bytes),eS ([33,61]:Bytes),eS ([60]:Bytes),eS ([60,61]:Bytes),eS ([62]:Bytes),eS ([62,61]:Bytes),eS ([43]:Bytes),eS ([45]:Bytes),eS ([42]:Bytes),eS ([47]:Bytes),eS ([37]:Bytes)])),(6,.p (eI Xy))],[]⟩) (λ m (Xy:Int)=>il Mr m Xy) Y 0 h1 (gE rfl rfl) ?_;rintro m t7 h1;replace h1:il Mr (m+1) t7=some o15:=h1;rw [il] at h1;refine nx 5 rfl (fD [7] h1 rfl (λ c8 h1=>?_) λ c8 h1=>?_)
 ·refine nx 7 Z (cc' h1 λ YK h1=>?_);refine mO Z (vT eS ([([124,124]:Bytes),([38,38]:Bytes),([61,61]:Bytes),([33,61]:Bytes),([60]:Bytes),([60,61]:Bytes),([62]:Bytes),([62,61]:Bytes),([43]:Bytes),([45]:Bytes),([42]:Bytes),([47]:Bytes),([37]:Bytes)]:List Bytes) Z Z Z Z Z Z Z Z Z Z Z (by have:=YK; simp only [aq,n8]; omega) ?_);exact ay
 exact ay
end Go.Ab.R06
end
section
namespace Go.Ab.R06
open Go.Proofs Go.Ab Go.Ab.RB
section
variable {p:Prop}
theorem HH (h:p:=by exact mQo (hR0 _ (hR1 _ (oi h2).symm).symm) (aU _) Z Z Z Z (sr) ⟨⟨_,Z,⟨sr,sr,sr,sr,sr,sr,sr,trivial⟩⟩,trivial⟩):p:=h
end
set_option maxRecDepth 4000
attribute [local irreducible] awp ik bg bO cv AV.sub M dc
instance QM:HE Tryz.prog 34:=⟨Tryz.call34⟩
instance QY:HE Tryz.prog 65:=⟨Tryz.call65⟩
instance QT:HE Tryz.prog 33:=⟨Tryz.call33⟩
instance Q9:HE Tryz.prog 139:=⟨Tryz.call139⟩
instance NY:HE Tryz.prog 140:=⟨Tryz.call140⟩
instance OI:HE Tryz.prog 166:=⟨Tryz.call166⟩
instance Pr:HE Tryz.prog 185:=⟨Tryz.call185⟩
instance P2:HE Tryz.prog 186:=⟨Tryz.call186⟩
instance O4:HE Tryz.prog 196:=⟨Tryz.call196⟩
instance Qi:HE Tryz.prog 197:=⟨Tryz.call197⟩
instance Qb:HE Tryz.prog 198:=⟨Tryz.call198⟩
instance Or:HE Tryz.prog 199:=⟨Tryz.call199⟩
instance OJ:HE Tryz.prog 19:=⟨Tryz.call19⟩
instance Oo:HE Tryz.prog 210:=⟨Tryz.call210⟩
instance OU:HE Tryz.prog 212:=⟨Tryz.call212⟩
instance Pq:HE Tryz.prog 213:=⟨Tryz.call213⟩
instance Pz:HE Tryz.prog 223:=⟨Tryz.call223⟩
instance PT:HE Tryz.prog 224:=⟨Tryz.call224⟩
instance OZ:HE Tryz.prog 225:=⟨Tryz.call225⟩
instance Qg:HE Tryz.prog 14:=⟨Tryz.call14⟩
abbrev ln (F:al->Option (ad×al))(k:Nat):Prop:=∀ (a0:al) (r:ad×al),HO (F a0=some r) Tryz.prog k [.ptr 1000000 0] [(1000000,((al.cs a0).map .p))] (.p (.agg (ad.cs r.1))) ([(1000000,((al.cs r.2).map .p))])
abbrev vj (F:Bytes->Int->Option (ad×ao))(k:Nat):Prop:=∀ (a0:Bytes) (a1:Int) (r:ad×ao),HP (F a0 a1=some r) Tryz.prog k [eS a0,eI a1] (.tuple [.p (.agg (ad.cs r.1)),.p (.agg (ao.cs r.2))])
abbrev zb (F:ar->Option (ao×ar))(k:Nat):Prop:=∀ (a0:ar) (r:ao×ar),HO (F a0=some r) Tryz.prog k [.ptr 1000000 0] [(1000000,[.p (eS a0.fs),.p (eI a0.fat),.p (eI a0.fi),.p (eI a0.D'),.p (eS a0.F'),.vec 900000 11 0 (a0.BY.map ak),.p (eB a0.IN)])] (.p (.agg (ao.cs r.1))) ([(1000000,[.p (eS r.2.fs),.p (eI r.2.fat),.p (eI r.2.fi),.p (eI r.2.D'),.p (eS r.2.F'),.vec 2000000 11 0 (r.2.BY.map ak),.p (eB r.2.IN)])])
abbrev Hs (v:Int×Int×Bytes×Bytes×Int×Int×Bytes×List am×List Bytes×List ad×Int):List AV:=[.p (eI v.1),.p (eI v.2.1),.p (eS v.2.2.1),.p (eS v.2.2.2.1),.p (eI v.2.2.2.2.1),.p (eI v.2.2.2.2.2.1),.p (eS v.2.2.2.2.2.2.1),.p (eL cX v.2.2.2.2.2.2.2.1),.p (eL eS v.2.2.2.2.2.2.2.2.1),.p (eL ak v.2.2.2.2.2.2.2.2.2.1),.p (eI v.2.2.2.2.2.2.2.2.2.2)]
abbrev fF (v:List ac×Int×Int×Int×Int×Int×Bytes):List AV:=[.p (eL aF v.1),.p (eI v.2.1),.p (eI v.2.2.1),.p (eI v.2.2.2.1),.p (eI v.2.2.2.2.1),.p (eI v.2.2.2.2.2.1),.p (eS v.2.2.2.2.2.2)]
abbrev dz (a0 a1 a2 a3 a4:AV):List AV:=[a0,.p (eI 0),a1,a2,.p (eI 0),.p (eI 0),.p (eS ([]:Bytes)),.p (.val (.slice none 0 0)),.p (.val (.slice none 0 0)),a3,a4]
abbrev nY (a0 a1 a2 a3:AV):List AV:=[a0,.p (eI 0),a1,a2,.p (eI 0),.p (eI 0),.p (eS ([]:Bytes)),.p (.val (.slice none 0 0)),.p (.val (.slice none 0 0)),.p (.val (.slice none 0 0)),a3]
abbrev bz:List AV:=[.p (eI 0),.p (eI 0),.p (eS ([]:Bytes)),.p (eS ([]:Bytes)),.p (eI 0),.p (eI 0),.p (eS ([]:Bytes)),.p (.val (.slice none 0 0)),.p (.val (.slice none 0 0)),.p (.val (.slice none 0 0)),.p (eI 0)]
abbrev pD:List PV:=[eI 0,eI 0,eS ([]:Bytes),eS ([]:Bytes),eI 0,eI 0,eS ([]:Bytes),.val (.slice none 0 0),.val (.slice none 0 0),.val (.slice none 0 0),eI 0]
abbrev cx:List AV:=[.p (eI 0),.p (eI 0),.p (eS ([]:Bytes))]
def b7 (n:Nat)(Ti:ar->Option (ao×ar)):Nat->Bytes->Int->Int->Int->Bytes->(List ad)->Bool->Option ((Bytes×Int×Int×Int×Bytes×(List ad)×Bool)⊕(ao×ar))
 | 0,_,_,_,_,_,_,_=>none
 | m+1,UQ,Vl,T6,UP,Vd,Vk,Vj =>
 if T6 < (UQ.length:Int) then
  ck ((0:Int)<=T6/\T6<=(UQ.length:Int)/\(UQ.length:Int)<=(UQ.length:Int)) <|
  (
    (strings_HasPrefix (sub UQ T6 (UQ.length:Int)) ([36,36,123]:Bytes)).bind λ Xc =>
    if Xc=true then
     ck (Vd.length+([36,123]:Bytes).length<=9223372036854775807) <|
     ck (inR (T6+3)) <|
     (dH (ar.mk UQ Vl (T6+3) UP (Vd++([36,123]:Bytes)) Vk Vj)).bind λ V' =>
     some (V'.1.Ar,V'.1.fAt,V'.1.AI,V'.2.fs,V'.2.fat,V'.2.fi,V'.2.D',V'.2.F',V'.2.BY,V'.2.IN)
    else
     (strings_HasPrefix (sub UQ T6 (UQ.length:Int)) ([36,123]:Bytes)).bind λ TP =>
     if TP=true then
      (Ti (ar.mk UQ Vl T6 UP Vd Vk Vj)).bind λ UM =>
      some (UM.1.Ar,UM.1.fAt,UM.1.AI,UM.2.fs,UM.2.fat,UM.2.fi,UM.2.D',UM.2.F',UM.2.BY,UM.2.IN)
     else
      (gm n (ar.mk UQ Vl T6 UP Vd Vk Vj)).bind λ Uv =>
      some (Uv.1.Ar,Uv.1.fAt,Uv.1.AI,Uv.2.fs,Uv.2.fat,Uv.2.fi,Uv.2.D',Uv.2.F',Uv.2.BY,Uv.2.IN)
   ).bind λ VV =>
  if VV.1=0 then
   b7 n Ti m VV.2.2.2.1 VV.2.2.2.2.1 VV.2.2.2.2.2.1 VV.2.2.2.2.2.2.1 VV.2.2.2.2.2.2.2.1 VV.2.2.2.2.2.2.2.2.1 VV.2.2.2.2.2.2.2.2.2
  else
   some (.inr ((ao.mk VV.1 VV.2.1 VV.2.2.1),(ar.mk VV.2.2.2.1 VV.2.2.2.2.1 VV.2.2.2.2.2.1 VV.2.2.2.2.2.2.1 VV.2.2.2.2.2.2.2.1 VV.2.2.2.2.2.2.2.2.1 VV.2.2.2.2.2.2.2.2.2)))
 else
  some (.inl (UQ,Vl,T6,UP,Vd,Vk,Vj))
def bR (n:Nat)(TM:al->Int->Option (ad×al))(O':Int)(r5:ad×al):Nat->Int->Int->Bytes->Bytes->Int->Int->Bytes->(List am)->(List Bytes)->(List ad)->(List ac)->Int->Int->Int->Int->Int->Bytes->Option (((List ac)×Int×Int×Int×Int×Int×Bytes)⊕(ad×al))
 | 0,_,_,_,_,_,_,_,_,_,_,_,_,_,_,_,_,_=>none
 | m+1,Vl,T6,UP,Vd,Vk,Vj,Vi,Vh,VG,VF,XO,XN,WM,WL,WK,Vu,VR =>
 (jP O').bind λ X1 =>
 (eh n (al.mk XO XN WM WL (ao.mk WK Vu VR)) X1).bind λ TB =>
 if (!TB.2.1)=true then
  some (.inr ((ad.mk Vl T6 UP Vd (am.mk Vk Vj Vi Vh VG) VF r5.1.fAt),TB.2.2))
 else
  (aJ n TB.2.2).bind λ TV =>
  ck (inR (O'+1)) <|
  (TM TV.2 (O'+1)).bind λ TO =>
  (qN n TB.1).bind λ U9 =>
  bR n TM O' r5 m 7 U9 ([]:Bytes) ([]:Bytes) 0 0 ([]:Bytes) [] [] [(ad.mk Vl T6 UP Vd (am.mk Vk Vj Vi Vh VG) VF r5.1.fAt),TO.1] TO.2.fl TO.2.fat TO.2.H' TO.2.G' TO.2.AT.Ar TO.2.AT.fAt TO.2.AT.AI
def bK (n:Nat)(SS:al->Option (ad×al))(r1:ad×al):Nat->Int->Int->Bytes->Bytes->Int->Int->Bytes->(List am)->(List Bytes)->(List ad)->(List ac)->Int->Int->Int->Int->Int->Bytes->Option (((List ac)×Int×Int×Int×Int×Int×Bytes)⊕(ad×al))
 | 0,_,_,_,_,_,_,_,_,_,_,_,_,_,_,_,_,_=>none
 | m+1,Vu,VR,WJ,XM,XL,XK,XJ,Zw,Zv,VQ,WI,WH,WG,WF,WE,WC,WB =>
 jn (
   (aY n (al.mk WI WH WG WF (ao.mk WE WC WB)) ([46]:Bytes)).bind λ r68 =>
   if r68.1=true then
    (aJ n r68.2).bind λ Xo =>
    (bp n Xo.2).bind λ Uu =>
    if Uu.1.Ar=1 then
     (aJ n Uu.2).bind λ V9 =>
     some (.inl (4,Uu.1.B',[(ad.mk Vu VR WJ XM (am.mk XL XK XJ Zw Zv) VQ r1.1.fAt)],V9.2.fl,V9.2.fat,V9.2.H',V9.2.G',V9.2.AT.Ar,V9.2.AT.fAt,V9.2.AT.AI))
    else
     (bo Uu.2 2 Uu.1.fAt).bind λ VE =>
     some (.inr (.inr (VE.1,VE.2)))
   else
    (aY n r68.2 ([91]:Bytes)).bind λ r80 =>
    if r80.1=true then
     (cE n r80.2).bind λ Vx =>
     (SS Vx).bind λ r85 =>
     (bw n r85.2 ([93]:Bytes)).bind λ YA =>
     some (.inl (5,([]:Bytes),[(ad.mk Vu VR WJ XM (am.mk XL XK XJ Zw Zv) VQ r1.1.fAt),r85.1],YA.fl,YA.fat,YA.H',YA.G',YA.AT.Ar,YA.AT.fAt,YA.AT.AI))
    else
     some (.inr (.inr ((ad.mk Vu VR WJ XM (am.mk XL XK XJ Zw Zv) VQ r1.1.fAt),r80.2)))
  : Option ((Int×Bytes×(List ad)×(List ac)×Int×Int×Int×Int×Int×Bytes)⊕(((List ac)×Int×Int×Int×Int×Int×Bytes)⊕(ad×al)))) λ VA =>
 bK n SS r1 m VA.1 0 VA.2.1 ([]:Bytes) 0 0 ([]:Bytes) [] [] VA.2.2.1 VA.2.2.2.1 VA.2.2.2.2.1 VA.2.2.2.2.2.1 VA.2.2.2.2.2.2.1 VA.2.2.2.2.2.2.2.1 VA.2.2.2.2.2.2.2.2.1 VA.2.2.2.2.2.2.2.2.2
def cH (n:Nat)(SS:al->Option (ad×al))(end_1:Bytes):Nat->(List ad)->(List ac)->Int->Int->Int->Int->Int->Bytes->Option ((List ad)×(List ac)×Int×Int×Int×Int×Int×Bytes)
 | 0,_,_,_,_,_,_,_,_=>none
 | m+1,U7,Xi,f33,f34,UQ,Vl,T6,UP =>
 (
   (aR (al.mk Xi f33 f34 UQ (ao.mk Vl T6 UP))).bind λ Wa =>
   if (!Wa.1)=true then
    (aY n Wa.2 end_1).bind λ Um =>
    some (!Um.1,Um.2.fl,Um.2.fat,Um.2.H',Um.2.G',Um.2.AT.Ar,Um.2.AT.fAt,Um.2.AT.AI)
   else
    some (false,Wa.2.fl,Wa.2.fat,Wa.2.H',Wa.2.G',Wa.2.AT.Ar,Wa.2.AT.fAt,Wa.2.AT.AI)
  ).bind λ Vr =>
 if Vr.1=true then
  (SS (al.mk Vr.2.1 Vr.2.2.1 Vr.2.2.2.1 Vr.2.2.2.2.1 (ao.mk Vr.2.2.2.2.2.1 Vr.2.2.2.2.2.2.1 Vr.2.2.2.2.2.2.2))).bind λ X1 =>
  ck ((U7.length+[X1.1].length)*160<=140737488355328) <|
  (aY n X1.2 ([44]:Bytes)).bind λ Uv =>
  if (!Uv.1)=true then
   some (U7++[X1.1],Uv.2.fl,Uv.2.fat,Uv.2.H',Uv.2.G',Uv.2.AT.Ar,Uv.2.AT.fAt,Uv.2.AT.AI)
  else
   (aJ n Uv.2).bind λ Xp =>
   cH n SS end_1 m (U7++[X1.1]) Xp.2.fl Xp.2.fat Xp.2.H' Xp.2.G' Xp.2.AT.Ar Xp.2.AT.fAt Xp.2.AT.AI
 else
  some (U7,Vr.2.1,Vr.2.2.1,Vr.2.2.2.1,Vr.2.2.2.2.1,Vr.2.2.2.2.2.1,Vr.2.2.2.2.2.2.1,Vr.2.2.2.2.2.2.2)
def cg (n:Nat)(SS:al->Option (ad×al))(TU:al->Option (ad×al)):Nat->(List ad)->(List ac)->Int->Int->Int->Int->Int->Bytes->Option ((List ad)×(List ac)×Int×Int×Int×Int×Int×Bytes)
 | 0,_,_,_,_,_,_,_,_=>none
 | m+1,Uo,T6,UP,Vd,Vk,Vj,Vi,Vh =>
 (
   (aR (al.mk T6 UP Vd Vk (ao.mk Vj Vi Vh))).bind λ Xc =>
   if (!Xc.1)=true then
    (aY n Xc.2 ([125]:Bytes)).bind λ YD =>
    some (!YD.1,YD.2.fl,YD.2.fat,YD.2.H',YD.2.G',YD.2.AT.Ar,YD.2.AT.fAt,YD.2.AT.AI)
   else
    some (false,Xc.2.fl,Xc.2.fat,Xc.2.H',Xc.2.G',Xc.2.AT.Ar,Xc.2.AT.fAt,Xc.2.AT.AI)
  ).bind λ Wc =>
 if Wc.1=true then
  (TU (al.mk Wc.2.1 Wc.2.2.1 Wc.2.2.2.1 Wc.2.2.2.2.1 (ao.mk Wc.2.2.2.2.2.1 Wc.2.2.2.2.2.2.1 Wc.2.2.2.2.2.2.2))).bind λ TV =>
  ck ((Uo.length+[TV.1].length)*160<=140737488355328) <|
  (ct n TV.2 ([61]:Bytes)).bind λ TO =>
  (SS TO).bind λ U9 =>
  ck (((Uo++[TV.1]).length+[U9.1].length)*160<=140737488355328) <|
  (aY n U9.2 ([44]:Bytes)).bind λ VI =>
  if (!VI.1)=true then
   some ((Uo++[TV.1])++[U9.1],VI.2.fl,VI.2.fat,VI.2.H',VI.2.G',VI.2.AT.Ar,VI.2.AT.fAt,VI.2.AT.AI)
  else
   (aJ n VI.2).bind λ TW =>
   cg n SS TU m ((Uo++[TV.1])++[U9.1]) TW.2.fl TW.2.fat TW.2.H' TW.2.G' TW.2.AT.Ar TW.2.AT.fAt TW.2.AT.AI
 else
  some (Uo,Wc.2.1,Wc.2.2.1,Wc.2.2.2.1,Wc.2.2.2.2.1,Wc.2.2.2.2.2.1,Wc.2.2.2.2.2.2.1,Wc.2.2.2.2.2.2.2)
mutual
def iA:Nat->Bytes->Int->Option (ad×ao)
 | 0,_,_=>none
 | n+1,Mr,N' =>
 ((gh n) (ar.mk Mr N' 0 0 ([]:Bytes) [] false)).bind λ r1 =>
 if r1.1.Ar=0 then
  (gD (am.mk 3 0 r1.2.F' [] []) N').bind λ r4 =>
  (
    if r1.2.IN=true then
     (ep (ar.mk r1.2.fs r1.2.fat r1.2.fi r1.2.D' r1.2.F' r1.2.BY r1.2.IN)).bind λ r7 =>
     some (2,0,([]:Bytes),([]:Bytes),0,0,([]:Bytes),[],[],r7.BY,N')
    else
     some (r4.Ar,r4.fOp,r4.AI,r4.Gw,r4.A'.Ar,r4.A'.E',r4.A'.If,r4.A'.Df,r4.A'.C',r4.By,r4.fAt)
   ).bind λ TD =>
  (iJ n (ad.mk TD.1 TD.2.1 TD.2.2.1 TD.2.2.2.1 (am.mk TD.2.2.2.2.1 TD.2.2.2.2.2.1 TD.2.2.2.2.2.2.1 TD.2.2.2.2.2.2.2.1 TD.2.2.2.2.2.2.2.2.1) TD.2.2.2.2.2.2.2.2.2.1 TD.2.2.2.2.2.2.2.2.2.2) r1.1).bind λ T5 =>
  some (T5.1,T5.2)
 else
  some ((ad.mk 0 0 ([]:Bytes) ([]:Bytes) (am.mk 0 0 ([]:Bytes) [] []) [] 0),r1.1)
def ip:Nat->Bytes->Int->Option (ad×ao)
 | 0,_,_=>none
 | n+1,Mr,base_1 =>
 (mt n Mr).bind λ r1 =>
 if r1.2.Ar=0 then
  ((aC n) (al.mk r1.1 0 1 base_1 (ao.mk 0 0 ([]:Bytes)))).bind λ r5 =>
  (
    (bp n r5.2).bind λ r7 =>
    if r7.1.Ar=6 then
     some (r7.2.fl,r7.2.fat,r7.2.H',r7.2.G',r7.2.AT.Ar,r7.2.AT.fAt,r7.2.AT.AI)
    else
     (bo r7.2 2 r7.1.fAt).bind λ Tn =>
     some (Tn.2.fl,Tn.2.fat,Tn.2.H',Tn.2.G',Tn.2.AT.Ar,Tn.2.AT.fAt,Tn.2.AT.AI)
   ).bind λ q19 =>
  some (r5.1,(ao.mk q19.2.2.2.2.1 q19.2.2.2.2.2.1 q19.2.2.2.2.2.2))
 else
  ck (inR (base_1+r1.2.fAt)) <|
  some ((ad.mk 0 0 ([]:Bytes) ([]:Bytes) (am.mk 0 0 ([]:Bytes) [] []) [] 0),(ao.mk r1.2.Ar (base_1+r1.2.fAt) ([]:Bytes)))
def gh:Nat->ar->Option (ao×ar)
 | 0,_=>none
 | n+1,Pn =>
 jn (b7 n (aM n) n Pn.fs Pn.fat Pn.fi Pn.D' Pn.F' Pn.BY Pn.IN) λ YY =>
 some ((ao.mk 0 0 ([]:Bytes)),(ar.mk YY.1 YY.2.1 YY.2.2.1 YY.2.2.2.1 YY.2.2.2.2.1 YY.2.2.2.2.2.1 YY.2.2.2.2.2.2))
def aC:Nat->al->Option (ad×al)
 | 0,_=>none
 | n+1,OF =>
 ((a8 n) OF 0).bind λ r1 =>
 (aY n r1.2 ([63]:Bytes)).bind λ r3 =>
 if (!r3.1)=true then
  some (r1.1,r3.2)
 else
  (aJ n r3.2).bind λ r6 =>
  ((aC n) r6.2).bind λ r8 =>
  (ct n r8.2 ([58]:Bytes)).bind λ Tn =>
  ((aC n) Tn).bind λ Tt =>
  some ((ad.mk 8 0 ([]:Bytes) ([]:Bytes) (am.mk 0 0 ([]:Bytes) [] []) [r1.1,r8.1,Tt.1] r1.1.fAt),Tt.2)
def aM:Nat->ar->Option (ao×ar)
 | 0,_=>none
 | n+1,Pn =>
 (ep (ar.mk Pn.fs Pn.fat Pn.fi Pn.D' Pn.F' Pn.BY Pn.IN)).bind λ r1 =>
 ck (inR (r1.fi+2)) <|
 (dF n r1.fs (r1.fi+2)).bind λ r4 =>
 if r4 < 0 then
  ck (inR (r1.fat+r1.fi)) <|
  some ((ao.mk 40 (r1.fat+r1.fi) ([]:Bytes)),(ar.mk r1.fs r1.fat r1.fi r1.D' r1.F' r1.BY true))
 else
  ck (inR (r1.fi+2)) <|
  ck ((0:Int)<=r1.fi+2/\r1.fi+2<=r4/\r4<=(r1.fs.length:Int)) <|
  ck (inR (r1.fat+r1.fi)) <|
  ck (inR ((r1.fat+r1.fi)+2)) <|
  ((ip n) (sub r1.fs (r1.fi+2) r4) ((r1.fat+r1.fi)+2)).bind λ Tt =>
  if Tt.2.Ar=0 then
   ck ((r1.BY.length+1)*160<=140737488355328) <|
   ck (inR (r4+1)) <|
   some ((ao.mk 0 0 ([]:Bytes)),(ar.mk r1.fs r1.fat (r4+1) (r4+1) r1.F' (r1.BY++[Tt.1]) true))
  else
   some (Tt.2,(ar.mk r1.fs r1.fat r1.fi r1.D' r1.F' r1.BY true))
def a8:Nat->al->Int->Option (ad×al)
 | 0,_,_=>none
 | n+1,OF,O' =>
 if 5 < O' then
  ((cT n) OF).bind λ r2 =>
  some (r2.1,r2.2)
 else
  ck (inR (O'+1)) <|
  ((a8 n) OF (O'+1)).bind λ r5 =>
  jn (bR n (a8 n) O' r5 n r5.1.Ar r5.1.fOp r5.1.AI r5.1.Gw r5.1.A'.Ar r5.1.A'.E' r5.1.A'.If r5.1.A'.Df r5.1.A'.C' r5.1.By r5.2.fl r5.2.fat r5.2.H' r5.2.G' r5.2.AT.Ar r5.2.AT.fAt r5.2.AT.AI) λ _q89 =>
  none
def cT:Nat->al->Option (ad×al)
 | 0,_=>none
 | n+1,OF =>
 (
   (aY n OF ([33]:Bytes)).bind λ r1 =>
   if r1.1=true then
    some (1,r1.2.fl,r1.2.fat,r1.2.H',r1.2.G',r1.2.AT.Ar,r1.2.AT.fAt,r1.2.AT.AI)
   else
    (aY n r1.2 ([45]:Bytes)).bind λ r4 =>
    if r4.1=true then
     some (2,r4.2.fl,r4.2.fat,r4.2.H',r4.2.G',r4.2.AT.Ar,r4.2.AT.fAt,r4.2.AT.AI)
    else
     some (0,r4.2.fl,r4.2.fat,r4.2.H',r4.2.G',r4.2.AT.Ar,r4.2.AT.fAt,r4.2.AT.AI)
  ).bind λ TD =>
 if TD.1=0 then
  ((dp n) (al.mk TD.2.1 TD.2.2.1 TD.2.2.2.1 TD.2.2.2.2.1 (ao.mk TD.2.2.2.2.2.1 TD.2.2.2.2.2.2.1 TD.2.2.2.2.2.2.2))).bind λ WP =>
  some (WP.1,WP.2)
 else
  (aJ n (al.mk TD.2.1 TD.2.2.1 TD.2.2.2.1 TD.2.2.2.2.1 (ao.mk TD.2.2.2.2.2.1 TD.2.2.2.2.2.2.1 TD.2.2.2.2.2.2.2))).bind λ Ub =>
  ((cT n) Ub.2).bind λ T5 =>
  some ((ad.mk 6 TD.1 ([]:Bytes) ([]:Bytes) (am.mk 0 0 ([]:Bytes) [] []) [T5.1] Ub.1.fAt),T5.2)
def dp:Nat->al->Option (ad×al)
 | 0,_=>none
 | n+1,OF =>
 ((cJ n) OF).bind λ r1 =>
 jn (bK n (aC n) r1 n r1.1.Ar r1.1.fOp r1.1.AI r1.1.Gw r1.1.A'.Ar r1.1.A'.E' r1.1.A'.If r1.1.A'.Df r1.1.A'.C' r1.1.By r1.2.fl r1.2.fat r1.2.H' r1.2.G' r1.2.AT.Ar r1.2.AT.fAt r1.2.AT.AI) λ _q123 =>
 none
def cJ:Nat->al->Option (ad×al)
 | 0,_=>none
 | n+1,OF =>
 (aR OF).bind λ r1 =>
 if r1.1=true then
  some ((ad.mk 0 0 ([]:Bytes) ([]:Bytes) (am.mk 0 0 ([]:Bytes) [] []) [] 0),r1.2)
 else
  (bp n r1.2).bind λ r4 =>
  if r4.1.Ar=2 then
   (kc n r4.1.B').bind λ r7 =>
   if r7.2=0 then
    (aJ n r4.2).bind λ Tt =>
    (gD (am.mk 2 r7.1 ([]:Bytes) [] []) r4.1.fAt).bind λ Xf =>
    some (Xf,Tt.2)
   else
    (bo r4.2 r7.2 r4.1.fAt).bind λ Tn =>
    some (Tn.1,Tn.2)
  else
   if r4.1.Ar=3 then
    ((eJ n) r4.2).bind λ VJ =>
    some (VJ.1,VJ.2)
   else
    if r4.1.Ar=1 then
     ((ga n) r4.2).bind λ T5 =>
     some (T5.1,T5.2)
    else
     if r4.1.Ar=4 then
      ((gG n) r4.2).bind λ Tp =>
      some (Tp.1,Tp.2)
     else
      (bo r4.2 2 r4.1.fAt).bind λ UC =>
      some (UC.1,UC.2)
def eJ:Nat->al->Option (ad×al)
 | 0,_=>none
 | n+1,OF =>
 (bp n OF).bind λ r1 =>
 ck (inR (r1.1.fAt+1)) <|
 ((iA n) r1.1.B' (r1.1.fAt+1)).bind λ r4 =>
 if r4.2.Ar=0 then
  (aJ n r1.2).bind λ r9 =>
  some ((ad.mk r4.1.Ar r4.1.fOp r4.1.AI r4.1.Gw r4.1.A' r4.1.By r1.1.fAt),r9.2)
 else
  (bo r1.2 r4.2.Ar r4.2.fAt).bind λ r7 =>
  some (r7.1,r7.2)
def ga:Nat->al->Option (ad×al)
 | 0,_=>none
 | n+1,OF =>
 (bp n OF).bind λ r1 =>
 if r1.1.B'=([110,117,108,108]:Bytes) then
  (aJ n r1.2).bind λ r4 =>
  (gD (am.mk 0 0 ([]:Bytes) [] []) r1.1.fAt).bind λ r6 =>
  some (r6,r4.2)
 else
  (
    if r1.1.B'=([116,114,117,101]:Bytes) then
     some true
    else
     some (decide (r1.1.B'=([102,97,108,115,101]:Bytes)))
   ).bind λ t9 =>
  if t9=true then
   (aJ n r1.2).bind λ VU =>
   (
     if r1.1.B'=([116,114,117,101]:Bytes) then
      some 1
     else
      some 0
    ).bind λ Yw =>
   (gD (am.mk 1 Yw ([]:Bytes) [] []) r1.1.fAt).bind λ S5 =>
   some (S5,VU.2)
  else
   (fV r1.1.B').bind λ VJ =>
   if VJ=true then
    (bo r1.2 2 r1.1.fAt).bind λ T5 =>
    some (T5.1,T5.2)
   else
    (aJ n r1.2).bind λ U' =>
    (aY n U'.2 ([40]:Bytes)).bind λ Vq =>
    if (!Vq.1)=true then
     some ((ad.mk 3 0 r1.1.B' ([]:Bytes) (am.mk 0 0 ([]:Bytes) [] []) [] r1.1.fAt),Vq.2)
    else
     (cE n Vq.2).bind λ Ua =>
     ((ge n) Ua ([41]:Bytes)).bind λ Xe =>
     (bw n Xe.2 ([41]:Bytes)).bind λ Wb =>
     some ((ad.mk 9 0 r1.1.B' ([]:Bytes) (am.mk 0 0 ([]:Bytes) [] []) Xe.1 r1.1.fAt),Wb)
def gG:Nat->al->Option (ad×al)
 | 0,_=>none
 | n+1,OF =>
 (bp n OF).bind λ r1 =>
 if r1.1.B'=([40]:Bytes) then
  (cE n r1.2).bind λ r4 =>
  ((aC n) r4).bind λ r6 =>
  (bw n r6.2 ([41]:Bytes)).bind λ r8 =>
  some (r6.1,r8)
 else
  if r1.1.B'=([91]:Bytes) then
   (cE n r1.2).bind λ VU =>
   (cG n VU ([102,111,114]:Bytes)).bind λ US =>
   if US.1=true then
    ((eO n) US.2 r1.1.fAt 12).bind λ WP =>
    some (WP.1,WP.2)
   else
    ((ge n) US.2 ([93]:Bytes)).bind λ Ub =>
    (bw n Ub.2 ([93]:Bytes)).bind λ T5 =>
    some ((ad.mk 10 0 ([]:Bytes) ([]:Bytes) (am.mk 0 0 ([]:Bytes) [] []) Ub.1 r1.1.fAt),T5)
  else
   if r1.1.B'=([123]:Bytes) then
    (cE n r1.2).bind λ Tp =>
    (cG n Tp ([102,111,114]:Bytes)).bind λ UC =>
    if UC.1=true then
     ((eO n) UC.2 r1.1.fAt 13).bind λ Tw =>
     some (Tw.1,Tw.2)
    else
     ((fE n) UC.2).bind λ Wk =>
     (bw n Wk.2 ([125]:Bytes)).bind λ Vp =>
     some ((ad.mk 11 0 ([]:Bytes) ([]:Bytes) (am.mk 0 0 ([]:Bytes) [] []) Wk.1 r1.1.fAt),Vp)
   else
    (bo r1.2 2 r1.1.fAt).bind λ Te =>
    some (Te.1,Te.2)
def ge:Nat->al->Bytes->Option ((List ad)×al)
 | 0,_,_=>none
 | n+1,OF,end_1 =>
 (cH n (aC n) end_1 n [] OF.fl OF.fat OF.H' OF.G' OF.AT.Ar OF.AT.fAt OF.AT.AI).bind λ YE =>
 some (YE.1,(al.mk YE.2.1 YE.2.2.1 YE.2.2.2.1 YE.2.2.2.2.1 (ao.mk YE.2.2.2.2.2.1 YE.2.2.2.2.2.2.1 YE.2.2.2.2.2.2.2)))
def eO:Nat->al->Int->Int->Option (ad×al)
 | 0,_,_,_=>none
 | n+1,OF,N',k_2 =>
 (aJ n OF).bind λ r1 =>
 (cw n r1.2).bind λ r3 =>
 (
   (aY n r3.2 ([44]:Bytes)).bind λ r5 =>
   if r5.1=true then
    (aJ n r5.2).bind λ r8 =>
    (cw n r8.2).bind λ Tn =>
    some (Tn.1,r3.1,Tn.2.fl,Tn.2.fat,Tn.2.H',Tn.2.G',Tn.2.AT.Ar,Tn.2.AT.fAt,Tn.2.AT.AI)
   else
    some (r3.1,([]:Bytes),r5.2.fl,r5.2.fat,r5.2.H',r5.2.G',r5.2.AT.Ar,r5.2.AT.fAt,r5.2.AT.AI)
  ).bind λ Yi =>
 (du n (al.mk Yi.2.2.1 Yi.2.2.2.1 Yi.2.2.2.2.1 Yi.2.2.2.2.2.1 (ao.mk Yi.2.2.2.2.2.2.1 Yi.2.2.2.2.2.2.2.1 Yi.2.2.2.2.2.2.2.2)) ([105,110]:Bytes)).bind λ Tc =>
 ((aC n) Tc).bind λ Tp =>
 ck ([Tp.1].length*160<=140737488355328) <|
 (ct n Tp.2 ([58]:Bytes)).bind λ TR =>
 ((aC n) TR).bind λ Tw =>
 ck (([Tp.1].length+[Tw.1].length)*160<=140737488355328) <|
 (
   if k_2=13 then
    (ct n Tw.2 ([61,62]:Bytes)).bind λ Vp =>
    ((aC n) Vp).bind λ Te =>
    ck ((([Tp.1]++[Tw.1]).length+[Te.1].length)*160<=140737488355328) <|
    some (([125]:Bytes),([Tp.1]++[Tw.1])++[Te.1],Te.2.fl,Te.2.fat,Te.2.H',Te.2.G',Te.2.AT.Ar,Te.2.AT.fAt,Te.2.AT.AI)
   else
    some (([93]:Bytes),[Tp.1]++[Tw.1],Tw.2.fl,Tw.2.fat,Tw.2.H',Tw.2.G',Tw.2.AT.Ar,Tw.2.AT.fAt,Tw.2.AT.AI)
  ).bind λ V3 =>
 (
   (cG n (al.mk V3.2.2.1 V3.2.2.2.1 V3.2.2.2.2.1 V3.2.2.2.2.2.1 (ao.mk V3.2.2.2.2.2.2.1 V3.2.2.2.2.2.2.2.1 V3.2.2.2.2.2.2.2.2)) ([105,102]:Bytes)).bind λ V0 =>
   if V0.1=true then
    (aJ n V0.2).bind λ V' =>
    ((aC n) V'.2).bind λ TP =>
    ck ((V3.2.1.length+[TP.1].length)*160<=140737488355328) <|
    some (V3.2.1++[TP.1],TP.2.fl,TP.2.fat,TP.2.H',TP.2.G',TP.2.AT.Ar,TP.2.AT.fAt,TP.2.AT.AI)
   else
    some (V3.2.1,V0.2.fl,V0.2.fat,V0.2.H',V0.2.G',V0.2.AT.Ar,V0.2.AT.fAt,V0.2.AT.AI)
  ).bind λ Wd =>
 (bw n (al.mk Wd.2.1 Wd.2.2.1 Wd.2.2.2.1 Wd.2.2.2.2.1 (ao.mk Wd.2.2.2.2.2.1 Wd.2.2.2.2.2.2.1 Wd.2.2.2.2.2.2.2)) V3.1).bind λ r62 =>
 some ((ad.mk k_2 0 Yi.1 Yi.2.1 (am.mk 0 0 ([]:Bytes) [] []) Wd.1 N'),r62)
def fE:Nat->al->Option ((List ad)×al)
 | 0,_=>none
 | n+1,OF =>
 (cg n (aC n) (de n) n [] OF.fl OF.fat OF.H' OF.G' OF.AT.Ar OF.AT.fAt OF.AT.AI).bind λ Ve =>
 some (Ve.1,(al.mk Ve.2.1 Ve.2.2.1 Ve.2.2.2.1 Ve.2.2.2.2.1 (ao.mk Ve.2.2.2.2.2.1 Ve.2.2.2.2.2.2.1 Ve.2.2.2.2.2.2.2)))
def de:Nat->al->Option (ad×al)
 | 0,_=>none
 | n+1,OF =>
 (bp n OF).bind λ r1 =>
 if r1.1.Ar=1 then
  (aJ n r1.2).bind λ r4 =>
  (gD (am.mk 3 0 r1.1.B' [] []) r1.1.fAt).bind λ r6 =>
  some (r6,r4.2)
 else
  if r1.1.Ar=3 then
   ((eJ n) r1.2).bind λ r9 =>
   some (r9.1,r9.2)
  else
   (aY n r1.2 ([40]:Bytes)).bind λ VU =>
   if VU.1=true then
    (cE n VU.2).bind λ Xf =>
    ((aC n) Xf).bind λ WP =>
    (bw n WP.2 ([41]:Bytes)).bind λ Ub =>
    some (WP.1,Ub)
   else
    (bo VU.2 2 r1.1.fAt).bind λ T5 =>
    some (T5.1,T5.2)
end
theorem re (n:Nat):vj (iA n) 19/\vj (ip n) 33/\zb (gh n) 38/\ln (aC n) 65/\zb (aM n) 77/\(∀ (OF:al) (O':Int) (r:ad×al),HO (a8 n OF O'=some r) Tryz.prog 100 [.ptr 1000000 0,.p (eI O')] [(1000000,((al.cs OF).map .p))] (.p (.agg (ad.cs r.1))) ([(1000000,((al.cs r.2).map .p))]))/\ln (cT n) 139/\ln (dp n) 166/\ln (cJ n) 184/\ln (eJ n) 197/\ln (ga n) 198/\ln (gG n) 199/\(∀ (OF:al) (end_1:Bytes) (r:(List ad)×al),HO (ge n OF end_1=some r) Tryz.prog 210 [.ptr 1000000 0,.p (eS end_1)] [(1000000,((al.cs OF).map .p))] (.p (eL ak r.1)) ([(1000000,((al.cs r.2).map .p))]))/\(∀ (OF:al) (N':Int) (k_2:Int) (r:ad×al),HO (eO n OF N' k_2=some r) Tryz.prog 212 [.ptr 1000000 0,.p (eI N'),.p (eI k_2)] [(1000000,((al.cs OF).map .p))] (.p (.agg (ad.cs r.1))) ([(1000000,((al.cs r.2).map .p))]))/\(∀ (OF:al) (r:(List ad)×al),HO (fE n OF=some r) Tryz.prog 213 [.ptr 1000000 0] [(1000000,((al.cs OF).map .p))] (.p (eL ak r.1)) ([(1000000,((al.cs r.2).map .p))]))/\ln (de n) 225:=by
 induction n with
 | zero=>exact Zr
 | succ n ih =>
 obtain ⟨_,_,_,_,_,_,_,_,_,_,_,_,_,_,_,_⟩:=ih;refine ⟨?_,?_,?_,?_,?_,?_,?_,?_,?_,?_,?_,?_,?_,?_,?_,?_⟩
 ·refine λ Mr N'=>hP good Tryz.func19 Z Z λ r h0 _ w0=>?_;rw [iA] at h0;refine nx 16 Z (bd h0 λ r1 e2 h0=>?_);refine mO Z (aW [12] [890000] 101000 101001 (HO.c e2) Z Z Z Z Z ⟨sr,trivial⟩ Z Z ⟨⟨_,Z,⟨sr,sr,sr,sr,sr,AV.sub_nilvec _ _ _,sr,trivial⟩⟩,trivial⟩ Z Z Z Z Z Z Z Z Tryz.call38 Z Z ?_);refine nx 10 Z (fN [17] h0 Z (λ c3 h0=>?_) λ c3 h0=>?_)
  ·refine nx 10 Z (bd h0 λ r4 e5 h0=>?_);refine oK (HP.c e5) Z ⟨n0 ⟨.inl Z,.inl Z,.inl Z,.inr ⟨Z,Z⟩,.inr ⟨Z,Z⟩,trivial⟩,sr,trivial⟩ Tryz.call39 Z (nx 4 Z ?_);refine bd h0 λ Wv h1 h0=>kN Wv (λ WW=>⟨[(4,.ptr 4 0),(5,.ptr 5 0),(7,.ptr 7 0),(8,.ptr 8 0)],[(4,bz),(5,cx),(7,(ao.cs r1.1).map .p),(8,(Hs WW))]⟩) ?_ ?_
   ·exact J0
   refine nx 7 Z (fB [30] h1 Z (λ c6 h1=>?_) λ c6 h1=>?_)
   ·refine nx 4 Z (bd h1 λ r7 e8 h1=>?_);refine mO Z (cVq [12] [101000] 102000 102001 (HO.c e8) Tryz.call40 Z ?_);exact ay
   exact ay
  exact J0
 ·refine λ Mr base_1=>hP good Tryz.func33 Z Z λ r h0 _ w0=>?_;rw [ip] at h0;refine nx 8 Z (bd h0 λ r1 e2 h0=>?_);refine oK (HP.c e2) Z ⟨sr,trivial⟩ Tryz.call25 Z (nx 14 Z ?_);refine fN [18] h0 Z (λ c3 h0=>?_) λ c3 h0=>?_
  ·have:=js [601];have:=jO 601 (List ac×Int×Int×Int×Int×Int×Bytes) λ v=>[(30,(fF v))]
   exact J0
  refine nx 2 Z (cc' h0 λ W5 h0=>?_);refine mG (gE (t:=⟨[(1,.p (eI base_1)),(4,.ptr 4 0),(5,.ptr 5 0),(7,.ptr 7 0)],[(4,bz),(5,cx),(7,(ao.cs r1.2).map .p)]⟩) Z Z) (mSq ⟨2,[8,9],(λ _=>.none),(λ _=>[(1,.p (eI base_1)),(4,.ptr 4 0),(5,.ptr 5 0),(7,.ptr 7 0)]),(ob3 ([(4,bz),(5,cx),(7,((ao.cs r1.2).map .p))]) (4,bz) (5,[.p (eI r1.2.Ar),.p (eI (base_1+r1.2.fAt)),.p (eS ([]:Bytes))]))⟩ Z ?_);refine dPc (.p (.agg pD)) Z (dPc (.ptr 7 0) Z ?_);refine dPc (.p (eI r1.2.Ar)) Z (dPc (.p (eI base_1)) Z ?_);refine dPc (.ptr 7 1) Z (dPc (.p (eI r1.2.fAt)) Z ?_);refine dO (.p (eI (base_1+r1.2.fAt))) [22,24] Z (λ _ sl Sk K hK=>ap Z (fY Z Z Z (Sk _ _ Z) (Sk _ _ Z) Z W5 hK)) (dPc (.p (.agg [eI r1.2.Ar,eI (base_1+r1.2.fAt),eS ([]:Bytes)])) Z ?_);exact J0
 ·refine λ Pn=>hO good [800000] [1000000] Tryz.func38 Z Z λ r h0 _ w0 F=>?_;rw [gh] at h0;refine nx 6 rfl ?_;obtain ⟨o85,h1,Tz,hR0⟩:=br h0;refine kEx 0 (λ Xa:Bytes×Int×Int×Int×Bytes×(List ad)×Bool=>o85=.inl Xa) (λ Xa=>⟨[(2,.ptr 2 0)],[(2,cx),(1000000,[.p (eS Xa.1),.p (eI Xa.2.1),.p (eI Xa.2.2.1),.p (eI Xa.2.2.2.1),.p (eS Xa.2.2.2.2.1),.vec 900000 11 0 (Xa.2.2.2.2.2.1.map ak),.p (eB Xa.2.2.2.2.2.2)])]⟩) (λ Xa hv=>?_) ?_
  ·have h0:=Tz _ hv;exact nx 7 Z Ca
  refine lG (λ (Ve:Bytes×Int×Int×Int×Bytes×(List ad)×Bool)=>⟨[(0,.ptr 1000000 0),(2,.ptr 2 0)],[(2,cx),(1000000,[.p (eS Ve.1),.p (eI Ve.2.1),.p (eI Ve.2.2.1),.p (eI Ve.2.2.2.1),.p (eS Ve.2.2.2.2.1),.vec 900000 11 0 (Ve.2.2.2.2.2.1.map ak),.p (eB Ve.2.2.2.2.2.2)])]⟩) (λ m (Ve:Bytes×Int×Int×Int×Bytes×(List ad)×Bool)=>b7 n (aM n) m Ve.1 Ve.2.1 Ve.2.2.1 Ve.2.2.2.1 Ve.2.2.2.2.1 Ve.2.2.2.2.2.1 Ve.2.2.2.2.2.2) Y (Pn.fs,Pn.fat,Pn.fi,Pn.D',Pn.F',Pn.BY,Pn.IN) h1 (gE rfl rfl) ?_;rintro m ⟨UQ,Vl,T6,UP,Vd,Vk,Vj⟩ h1;replace h1:b7 n (aM n) (m+1) UQ Vl T6 UP Vd Vk Vj=some o85:=h1;rw [b7] at h1;refine nx 2 rfl (mD [(0,.ptr 1000000 0),(2,.ptr 2 0)] rfl ⟨rfl,rfl,trivial⟩ rfl ?_);refine dR 8 rfl (dq (.p (eI (UQ.length:Int))) [12] rfl (λ _ e _ q=>ap rfl (oq rfl rfl rfl rfl rfl (e _ _ rfl) q)) rfl ?_);refine dR 1 rfl (dE rfl ?_);refine nx 1 rfl (fD [14] h1 rfl (λ c42 h1=>?_) λ c42 h1=>?_)
  ·refine nx 9 Z (cc' h1 λ hk43 h1=>?_);refine mD [(0,.ptr 1000000 0),(2,.ptr 2 0),(3,.ptr 3 0)] Z ⟨Z,Z,Z,trivial⟩ Z (dR 8 Z ?_);refine dq (.p (eS (sub UQ T6 (UQ.length:Int)))) [18,22] Z (λ _ e _ q=>ap Z (fu (a:=UQ) (l:=T6) (h:=(UQ.length:Int)) Z Z Z Z Z (e _ _ Z) pc Z hk43 q)) Z (dR 1 Z ?_);refine dE Z (nx 1 Z ?_);refine bd h1 λ YG h2 h1=>kN YG (λ XX=>⟨[(0,.ptr 1000000 0),(2,.ptr 2 0),(3,.ptr 3 0)],[(2,cx),(3,[.p (eI XX.1),.p (eI XX.2.1),.p (eS XX.2.2.1)]),(1000000,[.p (eS XX.2.2.2.1),.p (eI XX.2.2.2.2.1),.p (eI XX.2.2.2.2.2.1),.p (eI XX.2.2.2.2.2.2.1),.p (eS XX.2.2.2.2.2.2.2.1),.vec 106000 11 0 (XX.2.2.2.2.2.2.2.2.1.map ak),.p (eB XX.2.2.2.2.2.2.2.2.2)])]⟩) ?_ ?_
   ·refine nx 7 Z (fN [52] h1 Z (λ c68 h1=>?_) λ c68 h1=>?_)
    ·exact nx 2 Z (eX (YG.2.2.2.1,YG.2.2.2.2.1,YG.2.2.2.2.2.1,YG.2.2.2.2.2.2.1,YG.2.2.2.2.2.2.2.1,YG.2.2.2.2.2.2.2.2.1,YG.2.2.2.2.2.2.2.2.2) h1 (bj (ca 106000 900000 Z Z Z Z Z) (gE Z Z)))
    exact nx 7 Z (mQo (hR0 _ (oi h1).symm) (bj (ca 106000 800000 Z Z Z Z Z) (aU _)) Z Z Z Z (sr) ⟨⟨_,Z,⟨sr,sr,sr,sr,sr,sr,sr,trivial⟩⟩,trivial⟩)
   refine nx 4 Z (bd h2 λ Xc e45 h2=>?_);refine oK (dU (sub UQ T6 (UQ.length:Int)) ([36,36,123]:Bytes) _ e45) Z ⟨sr,sr,trivial⟩ Tryz.call75 Z (nx 2 Z ?_);refine fB [26,28] h2 Z (λ c46 h2=>?_) λ c46 h2=>?_
   ·refine nx 7 Z (oC h2 Z λ Yq h2=>?_);refine nx 10 Z (oA h2 Z Z λ Yp h2=>?_);refine nx 4 Z (mG (gE (t:=⟨[(0,.ptr 1000000 0),(2,.ptr 2 0),(3,.ptr 3 0)],[(2,cx),(3,cx),(1000000,[.p (eS UQ),.p (eI Vl),.p (eI (T6+3)),.p (eI UP),.p (eS (Vd++([36,123]:Bytes))),.vec 900000 11 0 (Vk.map ak),.p (eB Vj)])]⟩) Z Z) ?_);refine nx 2 Z (bd h2 λ V' e50 h2=>?_);refine mO Z (cVq [1000000] [900000] 104000 104001 (HO.c e50) Tryz.call76 Z ?_);exact nx 2 Z (eX _ (oi h2).symm (bj (ca 104000 106000 Z Z Z Z Z) (gE Z Z)))
   refine nx 4 Z (bd h2 λ TP Zx h2=>?_);refine oK (dU (sub UQ T6 (UQ.length:Int)) ([36,123]:Bytes) _ Zx) Z ⟨sr,sr,trivial⟩ Tryz.call75 Z (nx 2 Z ?_);refine fB [45,47] h2 Z (λ c53 h2=>?_) λ c53 h2=>?_
   ·refine nx 3 Z (bd h2 λ UM e55 h2=>?_);refine mO Z (cVq [1000000] [900000] 105000 105001 (HO.c e55) Tryz.call77 Z ?_);exact nx 2 Z (eX _ (oi h2).symm (bj (ca 105000 106000 Z Z Z Z Z) (gE Z Z)))
   refine nx 3 Z (bd h2 λ Uv e57 h2=>?_);refine mO Z (cVq [1000000] [900000] 106000 106001 (HO.c e57) Tryz.call78 Z ?_);exact bV
  exact ay
 ·refine λ OF=>hO good [] [1000000] Tryz.func65 Z Z λ r h0 _ w0 F=>?_;rw [aC] at h0;refine nx 7 Z (bd h0 λ r1 e2 h0=>?_);refine mO Z (cVq [1000000] [] 101000 101000 (HO.c e2) Tryz.call100 Z ?_);refine nx 7 Z (bd h0 λ r3 e4 h0=>?_);refine mO Z (cVq [1000000] [] 102000 102000 (HO.c e4) Tryz.call101 Z ?_);refine nx 2 Z (fB [10] h0 Z (λ c5 h0=>?_) λ c5 h0=>?_)
  ·exact J0
  refine nx 5 Z (K0 λ r6 h0=>?_);refine nx 4 Z (K0 λ r8 h0=>?_);refine nx 6 Z (K0 λ Tn h0=>?_);refine nx 4 Z (bd h0 λ Tt YN h0=>?_);refine mO Z (cVq [1000000] [] 106000 106000 (HO.c YN) Tryz.call65 Z ?_);refine nx 8 Z (mO Z (aH ak [r1.1,r8.1,Tt.1] Z Z Z Z Z Z Z Z Z Z Z Z Z ff ?_));exact J0
 ·refine λ Pn=>hO good [800000] [1000000] Tryz.func77 Z Z λ r h0 _ w0 F=>?_;rw [aM] at h0;refine nx 7 Z (bd h0 λ r1 e2 h0=>?_);refine mO Z (cVq [1000000] [900000] 101000 101001 (HO.c e2) Tryz.call40 Z ?_);refine nx 9 Z (cc' h0 λ XF h0=>?_);refine bd h0 λ r4 e5 h0=>mD [(0,.ptr 1000000 0),(2,.ptr 2 0)] Z ⟨Z,Z,trivial⟩ Z (dR 8 Z ?_);refine dq (.p (eI (r1.fi+2))) [18] Z (λ _ e _ q=>ap Z (fY Z Z Z (e _ _ Z) Z Z XF q)) Z (dq (.p (eI r4)) [14,19] Z (λ _ e _ q=>ap Z (gA (HP.c e5) Z Z Z (aT (e _ _ Z) (aT (e _ _ Z) b9)) ⟨sr,sr,trivial⟩ Tryz.call124 Z q)) Z ?_);refine dR 1 Z (dE Z ?_);refine nx 7 Z (fD [22] h0 Z (λ c6 h0=>?_) λ c6 h0=>?_)
  ·refine nx 2 Z (cc' h0 λ WS h0=>?_);refine mG (gE (t:=⟨[(0,.ptr 1000000 0),(2,.ptr 2 0)],[(2,cx),(1000000,[.p (eS r1.fs),.p (eI r1.fat),.p (eI r1.fi),.p (eI r1.D'),.p (eS r1.F'),.vec 101000 11 0 (r1.BY.map ak),.p (eB true)])]⟩) Z Z) (mSq ⟨1,[10],(λ _=>.none),(λ _=>[(0,.ptr 1000000 0),(2,.ptr 2 0)]),(ob2 ([(2,cx),(1000000,[.p (eS r1.fs),.p (eI r1.fat),.p (eI r1.fi),.p (eI r1.D'),.p (eS r1.F'),.vec 101000 11 0 (r1.BY.map ak),.p (eB true)])]) (2,[.p (eI 40),.p (eI (r1.fat+r1.fi)),.p (eS ([]:Bytes))]))⟩ Z ?_);refine dPc (.ptr 1000000 0) Z (dPc (.ptr 1000000 0) Z ?_);refine dPc (.ptr 1000000 1) Z (dPc (.p (eI r1.fat)) Z ?_);refine dPc (.ptr 1000000 0) Z (dPc (.ptr 1000000 0) Z ?_);refine dPc (.ptr 1000000 2) Z (dPc (.p (eI r1.fi)) Z ?_);refine dO (.p (eI (r1.fat+r1.fi))) [26,30] Z (λ _ sl Sk K hK=>ap Z (fY Z Z Z (Sk _ _ Z) (Sk _ _ Z) Z WS hK)) (dPc (.p (.agg [eI 40,eI (r1.fat+r1.fi),eS ([]:Bytes)])) Z ?_);refine dS Z (fj ?_);exact nx 2 Z Ak
  refine nx 3 Z (cc' h0 λ YL h0=>?_);refine cc' h0 λ YK h0=>cc' h0 λ VP h0=>cc' h0 λ Vt h0=>bd h0 λ Tt YN h0=>mG (gE (t:=⟨[(0,.ptr 1000000 0),(2,.ptr 2 0),(3,.p (eI r4))],[(2,cx),(1000000,[.p (eS r1.fs),.p (eI r1.fat),.p (eI r1.fi),.p (eI r1.D'),.p (eS r1.F'),.vec 101000 11 0 (r1.BY.map ak),.p (eB true)])]⟩) Z Z) (mSS ⟨4,[25,26,27,28],(by5 (.some λ i=>Nat.beq i 4) (.some λ i=>Nat.beq i 5) .none .none .none),(λ _=>[(0,.ptr 1000000 0),(2,.ptr 2 0),(3,.p (eI r4))]),(ob5 ([(2,cx),(1000000,[.p (eS r1.fs),.p (eI r1.fat),.p (eI r1.fi),.p (eI r1.D'),.p (eS r1.F'),.vec 101000 11 0 (r1.BY.map ak),.p (eB true)])]) (4,bz) (5,cx) (4,((ad.cs Tt.1).map .p)) (5,((ao.cs Tt.2).map .p)))⟩ ⟨4,[26,25,27,28],(by5 (.some λ i=>Nat.beq i 5) (.some λ i=>Nat.beq i 4) .none .none .none),(λ _=>[(0,.ptr 1000000 0),(2,.ptr 2 0),(3,.p (eI r4))]),(ob5 ([(2,cx),(1000000,[.p (eS r1.fs),.p (eI r1.fat),.p (eI r1.fi),.p (eI r1.D'),.p (eS r1.F'),.vec 101000 11 0 (r1.BY.map ak),.p (eB true)])]) (5,cx) (4,bz) (4,((ad.cs Tt.1).map .p)) (5,((ao.cs Tt.2).map .p)))⟩ Z Z Z Z Z Z Z ⟨Z,Z,Z,trivial⟩ Z (lt4 ⟨Z,Z,Z,trivial⟩ ⟨Z,Z,Z,trivial⟩ ⟨Z,Z,Z,trivial⟩ ⟨Z,Z,Z,trivial⟩) (lt4 ⟨Z,Z,Z,trivial⟩ ⟨Z,Z,Z,trivial⟩ ⟨Z,Z,Z,trivial⟩ ⟨Z,Z,Z,trivial⟩) Z Z Z Z Z ?_);refine dPc (.ptr 1000000 0) Z (dPc (.ptr 1000000 0) Z ?_);refine dPc (.ptr 1000000 0) Z (dPc (.p (eS r1.fs)) Z ?_);refine dPc (.ptr 1000000 0) Z (dPc (.ptr 1000000 0) Z ?_);refine dPc (.ptr 1000000 2) Z (dPc (.p (eI r1.fi)) Z ?_);refine dO (.p (eI (r1.fi+2))) [41] Z (λ _ sl Sk K hK=>ap Z (fY Z Z Z (Sk _ _ Z) Z Z YL hK)) (dPc (.p (eI r4)) Z ?_);refine dO (.p (eS (sub r1.fs (r1.fi+2) r4))) [37,42,43] Z (λ _ sl Sk K hK=>ap Z (fu (a:=r1.fs) (l:=r1.fi+2) (h:=r4) Z Z Z Z Z (Sk _ _ Z) wX xg YK hK)) (dPc (.ptr 1000000 0) Z ?_);refine dPc (.ptr 1000000 0) Z (dPc (.ptr 1000000 1) Z ?_);refine dPc (.p (eI r1.fat)) Z (dPc (.ptr 1000000 0) Z ?_);refine dPc (.ptr 1000000 0) Z (dPc (.ptr 1000000 2) Z ?_);refine dPc (.p (eI r1.fi)) Z (dO (.p (eI (r1.fat+r1.fi))) [48,52] Z (λ _ sl Sk K hK=>ap Z (fY Z Z Z (Sk _ _ Z) (Sk _ _ Z) Z VP hK)) ?_);refine dO (.p (eI ((r1.fat+r1.fi)+2))) [53] Z (λ _ sl Sk K hK=>ap Z (fY Z Z Z (Sk _ _ Z) Z Z Vt hK)) (dO (.tuple [.p (.agg (ad.cs Tt.1)),.p (.agg (ao.cs Tt.2))]) [44,54] Z (λ _ sl Sk K hK=>ap Z (gA (HP.c YN) Z Z Z (aT (Sk _ _ Z) (aT (Sk _ _ Z) b9)) ⟨sr,sr,trivial⟩ Tryz.call33 Z hK)) ?_);refine dPc (.tuple [.p (.agg (ad.cs Tt.1)),.p (.agg (ao.cs Tt.2))]) Z (dPc (.p (.agg (ad.cs Tt.1))) Z ?_);refine dPc (.p (.agg (ao.cs Tt.2))) Z (dI (λ _=>.ptr 4 0) [] Z (λ sl Sk K hK=>ap Z (iP Z Z Z Z Z hK)) ?_);refine dI (λ _=>.ptr 5 0) [] Z (λ sl Sk K hK=>ap Z (iP Z Z Z Z Z hK)) (dS Z ?_);refine dS Z (Bm (dPc (.ptr 1000000 0) Z (dPc (.ptr 1000000 0) Z (dPc (.ptr 1000000 0) Z (dPc (.p (eS r1.fs)) Z (dPc (.ptr 1000000 0) Z (dPc (.ptr 1000000 0) Z (dPc (.ptr 1000000 2) Z (dPc (.p (eI r1.fi)) Z (dO (.p (eI (r1.fi+2))) [41] Z (λ _ sl Sk K hK=>ap Z (fY Z Z Z (Sk _ _ Z) Z Z YL hK)) (dPc (.p (eI r4)) Z (dO (.p (eS (sub r1.fs (r1.fi+2) r4))) [37,42,43] Z (λ _ sl Sk K hK=>ap Z (fu (a:=r1.fs) (l:=r1.fi+2) (h:=r4) Z Z Z Z Z (Sk _ _ Z) wX xg YK hK)) (dPc (.ptr 1000000 0) Z (dPc (.ptr 1000000 0) Z (dPc (.ptr 1000000 1) Z (dPc (.p (eI r1.fat)) Z (dPc (.ptr 1000000 0) Z (dPc (.ptr 1000000 0) Z (dPc (.ptr 1000000 2) Z (dPc (.p (eI r1.fi)) Z (dO (.p (eI (r1.fat+r1.fi))) [48,52] Z (λ _ sl Sk K hK=>ap Z (fY Z Z Z (Sk _ _ Z) (Sk _ _ Z) Z VP hK)) (dO (.p (eI ((r1.fat+r1.fi)+2))) [53] Z (λ _ sl Sk K hK=>ap Z (fY Z Z Z (Sk _ _ Z) Z Z Vt hK)) (dO (.tuple [.p (.agg (ad.cs Tt.1)),.p (.agg (ao.cs Tt.2))]) [44,54] Z (λ _ sl Sk K hK=>ap Z (gA (HP.c YN) Z Z Z (aT (Sk _ _ Z) (aT (Sk _ _ Z) b9)) ⟨sr,sr,trivial⟩ Tryz.call33 Z hK)) (dPc (.tuple [.p (.agg (ad.cs Tt.1)),.p (.agg (ao.cs Tt.2))]) Z (dPc (.p (.agg (ad.cs Tt.1))) Z (dPc (.p (.agg (ao.cs Tt.2))) Z (dI (λ _=>.ptr 4 0) [] Z (λ sl Sk K hK=>ap Z (iP Z Z Z Z Z hK)) (dI (λ _=>.ptr 5 0) [] Z (λ sl Sk K hK=>ap Z (iP Z Z Z Z Z hK)) (dS Z (dS Z (PW Z ⟨Z,Z,Z,Z,Z,Z,trivial⟩ ⟨⟨Z,Z,.inl Z⟩,⟨⟨Z,Z,.inl Z⟩,⟨⟨Z,Z,.inr Z⟩,⟨⟨Z,Z,.inr Z⟩,⟨⟨Z,Z,.inr Z⟩,⟨⟨Z,Z,.inr Z⟩,⟨⟨Z,Z,.inr Z⟩,⟨⟨Z,Z,.inr Z⟩,⟨⟨Z,Z,.inr Z⟩,⟨⟨Z,Z,.inr Z⟩,⟨⟨Z,Z,.inr Z⟩,⟨⟨Z,Z,.inr Z⟩,⟨⟨Z,Z,.inr Z⟩,⟨⟨Z,Z,.inr Z⟩,⟨⟨Z,Z,.inr Z⟩,⟨⟨Z,Z,.inr Z⟩,⟨⟨Z,Z,.inr Z⟩,⟨⟨Z,Z,.inr Z⟩,⟨⟨Z,Z,.inr Z⟩,⟨⟨Z,Z,.inr Z⟩,⟨⟨Z,Z,.inr Z⟩,⟨⟨Z,Z,.inr Z⟩,⟨⟨Z,Z,.inr Z⟩,⟨⟨Z,Z,.inr Z⟩,⟨⟨Z,Z,.inr Z⟩,⟨⟨Z,Z,.inr Z⟩,⟨⟨Z,Z,.inr Z⟩,trivial⟩⟩⟩⟩⟩⟩⟩⟩⟩⟩⟩⟩⟩⟩⟩⟩⟩⟩⟩⟩⟩⟩⟩⟩⟩⟩⟩)))))))))))))))))))))))))))))) ?_);refine nx 1 Z (mG (gE (t:=⟨[(0,.ptr 1000000 0),(2,.ptr 2 0),(3,.p (eI r4)),(4,.ptr 4 0),(5,.ptr 5 0)],[(2,cx),(4,(ad.cs Tt.1).map .p),(5,(ao.cs Tt.2).map .p),(1000000,[.p (eS r1.fs),.p (eI r1.fat),.p (eI r1.fi),.p (eI r1.D'),.p (eS r1.F'),.vec 101000 11 0 (r1.BY.map ak),.p (eB true)])]⟩) Z Z) ?_);refine nx 7 Z (fN [60] h0 Z (λ XV h0=>?_) λ XV h0=>?_)
  ·refine nx 3 Z (cc' h0 λ U4 h0=>?_);refine mG (gE (t:=⟨[(0,.ptr 1000000 0),(2,.ptr 2 0),(3,.p (eI r4)),(4,.ptr 4 0)],[(2,cx),(4,(ad.cs Tt.1).map .p),(1000000,[.p (eS r1.fs),.p (eI r1.fat),.p (eI r1.fi),.p (eI r1.D'),.p (eS r1.F'),.vec 101000 11 0 (r1.BY.map ak),.p (eB true)])]⟩) Z Z) (mSP ⟨3,[7,9,12],(by4 (.some λ i=>Nat.beq i 101000||Nat.beq i 69) (.fn (upP 69 11 (.agg (ad.cs Tt.1)))) .none .none),(λ _=>[(0,.ptr 1000000 0),(2,.ptr 2 0),(3,.p (eI r4)),(4,.ptr 4 0)]),(by4 ([(2,cx),(4,((ad.cs Tt.1).map .p)),(1000000,[.p (eS r1.fs),.p (eI r1.fat),.p (eI r1.fi),.p (eI r1.D'),.p (eS r1.F'),.vec 101000 11 0 (r1.BY.map ak),.p (eB true)])]) ([(2,cx),(4,((ad.cs Tt.1).map .p)),(1000000,[.p (eS r1.fs),.p (eI r1.fat),.p (eI r1.fi),.p (eI r1.D'),.p (eS r1.F'),.p (eL ak r1.BY),.p (eB true)])]) ([(2,cx),(4,((ad.cs Tt.1).map .p)),(1000000,[.p (eS r1.fs),.p (eI r1.fat),.p (eI r1.fi),.p (eI r1.D'),.p (eS r1.F'),.p (eL ak r1.BY),.p (eB true)])]) ([(1000000,[.p (eS r1.fs),.p (eI r1.fat),.p (eI r1.fi),.p (eI r1.D'),.p (eS r1.F'),.vec 69 11 0 (r1.BY.map ak++[.agg (ad.cs Tt.1)]),.p (eB true)]),(2,cx),(4,((ad.cs Tt.1).map .p)),(1000000,[.p (eS r1.fs),.p (eI r1.fat),.p (eI r1.fi),.p (eI r1.D'),.p (eS r1.F'),.p (eL ak r1.BY),.p (eB true)])]))⟩ ⟨3,[7,12,9],(by4 (.some λ i=>Nat.beq i 101000||Nat.beq i 69) .none (.fn (upP 69 11 (.agg (ad.cs Tt.1)))) .none),(λ _=>[(0,.ptr 1000000 0),(2,.ptr 2 0),(3,.p (eI r4)),(4,.ptr 4 0)]),(by4 ([(2,cx),(4,((ad.cs Tt.1).map .p)),(1000000,[.p (eS r1.fs),.p (eI r1.fat),.p (eI r1.fi),.p (eI r1.D'),.p (eS r1.F'),.vec 101000 11 0 (r1.BY.map ak),.p (eB true)])]) ([(2,cx),(4,((ad.cs Tt.1).map .p)),(1000000,[.p (eS r1.fs),.p (eI r1.fat),.p (eI r1.fi),.p (eI r1.D'),.p (eS r1.F'),.p (eL ak r1.BY),.p (eB true)])]) ([(1000000,[.p (eS r1.fs),.p (eI r1.fat),.p (eI r1.fi),.p (eI r1.D'),.p (eS r1.F'),.vecp 69 11 0 (r1.BY.map ak),.p (eB true)]),(2,cx),(4,((ad.cs Tt.1).map .p)),(1000000,[.p (eS r1.fs),.p (eI r1.fat),.p (eI r1.fi),.p (eI r1.D'),.p (eS r1.F'),.p (eL ak r1.BY),.p (eB true)])]) ([(1000000,[.p (eS r1.fs),.p (eI r1.fat),.p (eI r1.fi),.p (eI r1.D'),.p (eS r1.F'),.vec 69 11 0 (r1.BY.map ak++[.agg (ad.cs Tt.1)]),.p (eB true)]),(2,cx),(4,((ad.cs Tt.1).map .p)),(1000000,[.p (eS r1.fs),.p (eI r1.fat),.p (eI r1.fi),.p (eI r1.D'),.p (eS r1.F'),.p (eL ak r1.BY),.p (eB true)])]))⟩ Z Z Z Z Z Z Z ⟨Z,Z,Z,Z,trivial⟩ Z (lt3 ⟨Z,Z,Z,Z,trivial⟩ ⟨Z,Z,Z,Z,trivial⟩ ⟨Z,Z,Z,Z,trivial⟩) (lt3 ⟨Z,Z,Z,Z,trivial⟩ ⟨Z,Z,Z,Z,trivial⟩ ⟨Z,Z,Z,Z,trivial⟩) Z Z Z Z Z ?_);refine dPc (.ptr 1000000 0) Z (dPc (.ptr 1000000 0) Z ?_);refine dPc (.ptr 1000000 5) Z (dP (by4 (.vec 101000 11 0 (r1.BY.map ak)) (.p (eL ak r1.BY)) (.p (eL ak r1.BY)) (.p (eL ak r1.BY))) Z ?_);refine dPc (.p (.agg (ad.cs Tt.1))) Z (dO (.p (eI (r1.BY.length:Int))) [65] Z (λ _ sl Sk K hK=>ap Z (mZ (f:=ak) (l:=r1.BY) Z Z Z Z Z (Sk _ _ Z) Z hK)) ?_);refine dO (.p (eL (λ x:PV=>x) [.agg pD])) [] Z (λ _ sl Sk K hK=>ap Z (aH (λ x:PV=>x) [.agg pD] Z Z Z Z Z Z (cO Z Z dW) Z Z Z Z Z Z Z hK)) (dI (by4 (.vecp 69 11 0 (r1.BY.map ak)) (.vecp 69 11 0 (r1.BY.map ak)) (.vec 69 11 0 (r1.BY.map ak++[.agg (ad.cs Tt.1)])) (.vec 69 11 0 (r1.BY.map ak++[.agg (ad.cs Tt.1)]))) [65,68] Z (λ sl Sk K hK=>ap Z (qU ak r1.BY Z Z Z Z Z Z Z Z (Sk _ _ Z) Z Z (Sk _ _ Z) Z Z Z Z Z U4 hK)) ?_);refine rc (by4 (.elp 69 11) (.elp 69 11) .undef .undef) Z Z Z (L6 Z Z Z Y) (lt3 (nl Z) Y Y) (jR Z (jR Z (kD [(67,_),(69,_)] ⟨.inr ⟨5,_,Z,Z,Z⟩,.inr ⟨7,_,Z,Z,Z⟩,trivial⟩ (λ sl Sk K hK=>ap Z (pT Z Z Z Z Z Z Z (Sk _ _ Z) (Sk _ _ Z) rG hK)) (jR Z mT)))) (lr [(66,_),(70,_)] Z ⟨.inr ⟨4,_,Z,Z,Z⟩,.inr ⟨8,_,Z,Z,Z⟩,trivial⟩ Z (λ sl Sk K hK=>ap Z (wS (z:=.agg (ad.cs Tt.1)) Z Z Z Z (Sk _ _ Z) (Sk _ _ Z) Z Z Z Z Z hK)) ?_);refine dPc (.ptr 1000000 0) Z (dPc (.ptr 1000000 5) Z ?_);refine dS Z (Bm (dPc (.ptr 1000000 0) Z (dPc (.ptr 1000000 0) Z (dPc (.ptr 1000000 5) Z (dP (by4 (.vec 101000 11 0 (r1.BY.map ak)) (.p (eL ak r1.BY)) (.p (eL ak r1.BY)) (.p (eL ak r1.BY))) Z (dPc (.p (.agg (ad.cs Tt.1))) Z (dO (.p (eI (r1.BY.length:Int))) [65] Z (λ _ sl Sk K hK=>ap Z (mZ (f:=ak) (l:=r1.BY) Z Z Z Z Z (Sk _ _ Z) Z hK)) (dO (.p (eL (λ x:PV=>x) [.agg pD])) [] Z (λ _ sl Sk K hK=>ap Z (aH (λ x:PV=>x) [.agg pD] Z Z Z Z Z Z (cO Z Z dW) Z Z Z Z Z Z Z hK)) (dI (by4 (.vecp 69 11 0 (r1.BY.map ak)) (.vecp 69 11 0 (r1.BY.map ak)) (.vecp 69 11 0 (r1.BY.map ak)) (.vec 69 11 0 (r1.BY.map ak++[.agg (ad.cs Tt.1)]))) [65,68] Z (λ sl Sk K hK=>ap Z (qU ak r1.BY Z Z Z Z Z Z Z Z (Sk _ _ Z) Z Z (Sk _ _ Z) Z Z Z Z Z U4 hK)) (rc (by4 (.elp 69 11) (.elp 69 11) (.elp 69 11) .undef) Z Z Z (L6 Z Z Z Y) (lt3 (nl Z) Y Y) (jR Z (kD [(67,_),(69,_)] ⟨.inr ⟨5,_,Z,Z,Z⟩,.inr ⟨7,_,Z,Z,Z⟩,trivial⟩ (λ sl Sk K hK=>ap Z (pT Z Z Z Z Z Z Z (Sk _ _ Z) (Sk _ _ Z) rG hK)) (kD [(67,_),(69,_)] ⟨.inr ⟨5,_,Z,Z,Z⟩,.inr ⟨7,_,Z,Z,Z⟩,trivial⟩ (λ sl Sk K hK=>ap Z (pT Z Z Z Z Z Z Z (Sk _ _ Z) (Sk _ _ Z) rG hK)) (jR Z mT)))) (lr [(66,_),(70,_)] Z ⟨.inr ⟨4,_,Z,Z,Z⟩,.inr ⟨8,_,Z,Z,Z⟩,trivial⟩ Z (λ sl Sk K hK=>ap Z (wS (z:=.agg (ad.cs Tt.1)) Z Z Z Z (Sk _ _ Z) (Sk _ _ Z) Z Z Z Z Z hK)) (dPc (.ptr 1000000 0) Z (dPc (.ptr 1000000 5) Z (dS Z (D1 Z ⟨Z,Z,Z,Z,trivial⟩ ⟨⟨Z,Z,.inr Z⟩,⟨⟨Z,Z,.inr Z⟩,⟨⟨Z,Z,.inr Z⟩,⟨⟨Z,Z,.inr Z⟩,⟨⟨Z,Z,.inr Z⟩,⟨⟨Z,Z,.inr Z⟩,⟨⟨Z,Z,.inr Z⟩,⟨⟨Z,Z,.inr Z⟩,⟨⟨Z,Z,.inr Z⟩,⟨⟨Z,Z,.inr Z⟩,⟨⟨Z,Z,.inr Z⟩,trivial⟩⟩⟩⟩⟩⟩⟩⟩⟩⟩⟩)))))))))))))) ?_);refine mG (dN (t:=⟨[(0,.ptr 1000000 0),(2,.ptr 2 0),(3,.p (eI r4))],[(2,cx),(1000000,[.p (eS r1.fs),.p (eI r1.fat),.p (eI r1.fi),.p (eI r1.D'),.p (eS r1.F'),.vec 69 11 0 ((r1.BY++[Tt.1]).map ak),.p (eB true)])]⟩) (kU ⟨er Z,er Z,er Z,trivial⟩ ⟨⟨_,Z,⟨sr,sr,sr,trivial⟩⟩,⟨_,Z,⟨sr,sr,sr,sr,sr,AV.sub_of_eq FU,sr,trivial⟩⟩,trivial⟩)) (nx 5 Z ?_);exact oA h0 Z Z λ UL h0=>nx 21 Z (mQo (oi h0) (bj (ca 69 800000 Z Z Z Z Z) (aU _)) Z Z Z Z (sr) ⟨⟨_,Z,⟨sr,sr,sr,sr,sr,sr,sr,trivial⟩⟩,trivial⟩)
  exact nx 7 Z Ak
 ·refine λ OF O'=>hO good [] [1000000] Tryz.func100 Z Z λ r h0 _ w0 F=>?_;rw [a8] at h0;refine nx 10 Z (fD [10] h0 Z (λ c1 h0=>?_) λ c1 h0=>?_)
  ·exact J0
  refine nx 6 rfl (oA h0 Z Z λ W5 h0=>?_);refine bd h0 λ r5 e6 h0=>mO rfl (cVq [1000000] [] 102000 102000 (HO.c e6) Tryz.call100 rfl ?_);refine nx 4 rfl ?_;obtain ⟨o90,h1,Tz,hR0⟩:=br h0;refine kEx 0 (λ v91:(List ac)×Int×Int×Int×Int×Int×Bytes=>o90=.inl v91) (λ v91=>⟨[],[(1000000,(fF v91))]⟩) (λ v91 hv=>?_) ?_
  ·exact AZ
  refine lG (λ (UF:Int×Int×Bytes×Bytes×Int×Int×Bytes×(List am)×(List Bytes)×(List ad)×(List ac)×Int×Int×Int×Int×Int×Bytes)=>⟨[(0,.ptr 1000000 0),(1,.p (eI O')),(4,.ptr 4 0),(5,.ptr 5 0)],[(4,bz),(5,[.p (eI UF.1),.p (eI UF.2.1),.p (eS UF.2.2.1),.p (eS UF.2.2.2.1),.p (eI UF.2.2.2.2.1),.p (eI UF.2.2.2.2.2.1),.p (eS UF.2.2.2.2.2.2.1),.p (eL cX UF.2.2.2.2.2.2.2.1),.p (eL eS UF.2.2.2.2.2.2.2.2.1),.p (eL ak UF.2.2.2.2.2.2.2.2.2.1),.p (eI r5.1.fAt)]),(1000000,(fF UF.2.2.2.2.2.2.2.2.2.2))]⟩) (λ m (UF:Int×Int×Bytes×Bytes×Int×Int×Bytes×(List am)×(List Bytes)×(List ad)×(List ac)×Int×Int×Int×Int×Int×Bytes)=>bR n (a8 n) O' r5 m UF.1 UF.2.1 UF.2.2.1 UF.2.2.2.1 UF.2.2.2.2.1 UF.2.2.2.2.2.1 UF.2.2.2.2.2.2.1 UF.2.2.2.2.2.2.2.1 UF.2.2.2.2.2.2.2.2.1 UF.2.2.2.2.2.2.2.2.2.1 UF.2.2.2.2.2.2.2.2.2.2.1 UF.2.2.2.2.2.2.2.2.2.2.2.1 UF.2.2.2.2.2.2.2.2.2.2.2.2.1 UF.2.2.2.2.2.2.2.2.2.2.2.2.2.1 UF.2.2.2.2.2.2.2.2.2.2.2.2.2.2.1 UF.2.2.2.2.2.2.2.2.2.2.2.2.2.2.2.1 UF.2.2.2.2.2.2.2.2.2.2.2.2.2.2.2.2) Y (r5.1.Ar,r5.1.fOp,r5.1.AI,r5.1.Gw,r5.1.A'.Ar,r5.1.A'.E',r5.1.A'.If,r5.1.A'.Df,r5.1.A'.C',r5.1.By,r5.2.fl,r5.2.fat,r5.2.H',r5.2.G',r5.2.AT.Ar,r5.2.AT.fAt,r5.2.AT.AI) h1 (gE rfl rfl) ?_;rintro m ⟨Vl,T6,UP,Vd,Vk,Vj,Vi,Vh,VG,VF,XO,XN,WM,WL,WK,Vu,VR⟩ h1;replace h1:bR n (a8 n) O' r5 (m+1) Vl T6 UP Vd Vk Vj Vi Vh VG VF XO XN WM WL WK Vu VR=some o90:=h1;rw [bR] at h1;refine nx 5 rfl (bd h1 λ X1 e54 h1=>?_);refine oK (HP.c e54) rfl ⟨sr,trivial⟩ Tryz.call141 rfl (K1 λ TB h1=>?_);refine nx 12 rfl (fB [25] h1 rfl (λ c57 h1=>?_) λ c57 h1=>?_)
  ·exact ay
  refine nx 5 Z (bd h1 λ TV e59 h1=>?_);refine mO Z (cVq [1000000] [] 107000 107000 (HO.c e59) Tryz.call102 Z ?_);refine nx 5 Z (oA h1 Z Z λ XC h1=>?_);refine bd h1 λ TO e62 h1=>mO Z (cVq [1000000] [] 108000 108000 (HO.c e62) Tryz.call100 Z ?_);refine nx 3 Z (bd h1 λ U9 e64 h1=>?_);refine mG (gE (t:=⟨[(0,.ptr 1000000 0),(1,.p (eI O')),(4,.ptr 4 0),(5,.ptr 5 0),(6,.p (eS TB.1)),(8,.ptr 8 0)],[(4,bz),(5,[.p (eI Vl),.p (eI T6),.p (eS UP),.p (eS Vd),.p (eI Vk),.p (eI Vj),.p (eS Vi),.p (eL cX Vh),.p (eL eS VG),.p (eL ak VF),.p (eI r5.1.fAt)]),(8,(ad.cs TO.1).map .p),(1000000,(al.cs TO.2).map .p)]⟩) Z Z) (mSq ⟨1,[8],(λ _=>.none),(λ _=>[(0,.ptr 1000000 0),(1,.p (eI O')),(4,.ptr 4 0),(5,.ptr 5 0),(6,.p (eS TB.1)),(8,.ptr 8 0)]),(ob2 ([(4,bz),(5,[.p (eI Vl),.p (eI T6),.p (eS UP),.p (eS Vd),.p (eI Vk),.p (eI Vj),.p (eS Vi),.p (eL cX Vh),.p (eL eS VG),.p (eL ak VF),.p (eI r5.1.fAt)]),(8,((ad.cs TO.1).map .p)),(1000000,((al.cs TO.2).map .p))]) (5,[.p (eI 7),.p (eI U9),.p (eS ([]:Bytes)),.p (eS ([]:Bytes)),.p (eI 0),.p (eI 0),.p (eS ([]:Bytes)),.p (.val (.slice none 0 0)),.p (.val (.slice none 0 0)),.p (eL ak [(ad.mk Vl T6 UP Vd (am.mk Vk Vj Vi Vh VG) VF r5.1.fAt),TO.1]),.p (eI r5.1.fAt)]))⟩ Z ?_);refine dPc (.p (eS TB.1)) Z (dO (.p (eI U9)) [33] Z (λ _ sl Sk K hK=>ap Z (gA (HP.c e64) Z Z Z (aT (Sk _ _ Z) b9) ⟨sr,trivial⟩ Tryz.call142 Z hK)) ?_);refine dPc (.p (.agg [eI Vl,eI T6,eS UP,eS Vd,eI Vk,eI Vj,eS Vi,eL cX Vh,eL eS VG,eL ak VF,eI r5.1.fAt])) Z (dPc (.p (.agg (ad.cs TO.1))) Z ?_);refine dO (.p (eL ak [(ad.mk Vl T6 UP Vd (am.mk Vk Vj Vi Vh VG) VF r5.1.fAt),TO.1])) [35,36] Z (λ _ sl Sk K hK=>ap Z (aH ak [(ad.mk Vl T6 UP Vd (am.mk Vk Vj Vi Vh VG) VF r5.1.fAt),TO.1] Z Z Z Z Z Z (cO (Sk _ _ Z) Z (cO (Sk _ _ Z) Z dW)) Z Z Z Z Z Z ff hK)) (dPc (.ptr 5 10) Z ?_);refine dPc (.p (eI r5.1.fAt)) Z (dPc (.p (.agg [eI 7,eI U9,eS ([]:Bytes),eS ([]:Bytes),eI 0,eI 0,eS ([]:Bytes),.val (.slice none 0 0),.val (.slice none 0 0),eL ak [(ad.mk Vl T6 UP Vd (am.mk Vk Vj Vi Vh VG) VF r5.1.fAt),TO.1],eI r5.1.fAt])) Z ?_);refine dS Z (fj ?_);exact nx 1 Z (eX (7,U9,([]:Bytes),([]:Bytes),0,0,([]:Bytes),[],[],[(ad.mk Vl T6 UP Vd (am.mk Vk Vj Vi Vh VG) VF r5.1.fAt),TO.1],TO.2.fl,TO.2.fat,TO.2.H',TO.2.G',TO.2.AT.Ar,TO.2.AT.fAt,TO.2.AT.AI) h1 (dN (kU ⟨er Z,er Z,er Z,er Z,trivial⟩ ⟨⟨_,Z,⟨sr,sr,sr,sr,sr,sr,sr,sr,sr,sr,sr,trivial⟩⟩,⟨_,Z,⟨sr,sr,sr,sr,sr,sr,sr,iy _,iy _,sr,sr,trivial⟩⟩,⟨_,Z,⟨sr,sr,sr,sr,sr,sr,sr,trivial⟩⟩,trivial⟩)))
 ·refine λ OF=>hO good [] [1000000] Tryz.func139 Z Z λ r h0 _ w0 F=>?_;rw [cT] at h0;refine nx 9 Z (bd h0 λ Wv h1 h0=>?_);refine kN Wv (λ WW=>⟨[(0,.ptr 1000000 0),(2,.ptr 2 0),(3,.p (eI WW.1))],[(2,bz),(1000000,(fF WW.2))]⟩) ?_ ?_
  ·refine nx 7 Z (fD [10] h0 Z (λ XU h0=>?_) λ XU h0=>?_)
   ·exact J0
   refine nx 5 Z (K0 λ Ub h0=>?_);refine nx 4 Z (bd h0 λ T5 e21 h0=>?_);refine mG (gE (t:=⟨[(0,.ptr 1000000 0),(2,.ptr 2 0),(3,.p (eI Wv.1)),(4,.ptr 4 0)],[(2,bz),(4,(ac.cs Ub.1).map .p),(1000000,(al.cs Ub.2).map .p)]⟩) Z Z) (mSq ⟨2,[2,7],(by3 (.some (cm [] 105000 105000)) .none .none),(λ _=>[(0,.ptr 1000000 0),(2,.ptr 2 0),(3,.p (eI Wv.1)),(4,.ptr 4 0)]),(by3 ([(2,bz),(4,((ac.cs Ub.1).map .p)),(1000000,((al.cs Ub.2).map .p))]) ([(1000000,((al.cs T5.2).map .p)),(2,bz),(4,((ac.cs Ub.1).map .p))]) ([(2,[.p (eI 6),.p (eI Wv.1),.p (eS ([]:Bytes)),.p (eS ([]:Bytes)),.p (eI 0),.p (eI 0),.p (eS ([]:Bytes)),.p (.val (.slice none 0 0)),.p (.val (.slice none 0 0)),.p (eL ak [T5.1]),.p (eI Ub.1.fAt)]),(1000000,((al.cs T5.2).map .p)),(2,bz),(4,((ac.cs Ub.1).map .p))]))⟩ Z ?_);refine dPc (.p (eI Wv.1)) Z (dPc (.ptr 1000000 0) Z ?_);refine dI (λ _=>.p (.agg (ad.cs T5.1))) [16] Z (λ sl Sk K hK=>ap Z (aW [1000000] [] 105000 105000 (HO.c e21) Z Z Z (aT (Sk _ _ Z) b9) Z ⟨sr,trivial⟩ Z Z ⟨⟨_,Z,⟨sr,sr,sr,sr,sr,sr,sr,trivial⟩⟩,trivial⟩ Z Z Z Z Z Z Z Z Tryz.call139 Z Z hK)) (dO (.p (eL ak [T5.1])) [17] Z (λ _ sl Sk K hK=>ap Z (aH ak [T5.1] Z Z Z Z Z Z (cO (Sk _ _ Z) Z dW) Z Z Z Z Z Z ff hK)) ?_);refine dPc (.ptr 4 2) Z (dPc (.p (eI Ub.1.fAt)) Z ?_);refine dPc (.p (.agg [eI 6,eI Wv.1,eS ([]:Bytes),eS ([]:Bytes),eI 0,eI 0,eS ([]:Bytes),.val (.slice none 0 0),.val (.slice none 0 0),eL ak [T5.1],eI Ub.1.fAt])) Z (dS Z ?_);refine fj (nx 2 Z ?_);exact J0
  exact ay
 ·refine λ OF=>hO good [] [1000000] Tryz.func166 Z Z λ r h0 _ w0 F=>?_;rw [dp] at h0;refine nx 7 rfl (bd h0 λ r1 e2 h0=>?_);refine mO rfl (cVq [1000000] [] 101000 101000 (HO.c e2) Tryz.call184 rfl ?_);refine nx 4 rfl ?_;obtain ⟨aab,h1,Tz,hR0⟩:=br h0;refine kEx 0 (λ X9:(List ac)×Int×Int×Int×Int×Int×Bytes=>aab=.inl X9) (λ X9=>⟨[],[(1000000,(fF X9))]⟩) (λ X9 hv=>?_) ?_
  ·exact AZ
  refine lG (λ (TE:Int×Int×Bytes×Bytes×Int×Int×Bytes×(List am)×(List Bytes)×(List ad)×(List ac)×Int×Int×Int×Int×Int×Bytes)=>⟨[(0,.ptr 1000000 0),(2,.ptr 2 0),(3,.ptr 3 0)],[(2,bz),(3,[.p (eI TE.1),.p (eI TE.2.1),.p (eS TE.2.2.1),.p (eS TE.2.2.2.1),.p (eI TE.2.2.2.2.1),.p (eI TE.2.2.2.2.2.1),.p (eS TE.2.2.2.2.2.2.1),.p (eL cX TE.2.2.2.2.2.2.2.1),.p (eL eS TE.2.2.2.2.2.2.2.2.1),.p (eL ak TE.2.2.2.2.2.2.2.2.2.1),.p (eI r1.1.fAt)]),(1000000,(fF TE.2.2.2.2.2.2.2.2.2.2))]⟩) (λ m (TE:Int×Int×Bytes×Bytes×Int×Int×Bytes×(List am)×(List Bytes)×(List ad)×(List ac)×Int×Int×Int×Int×Int×Bytes)=>bK n (aC n) r1 m TE.1 TE.2.1 TE.2.2.1 TE.2.2.2.1 TE.2.2.2.2.1 TE.2.2.2.2.2.1 TE.2.2.2.2.2.2.1 TE.2.2.2.2.2.2.2.1 TE.2.2.2.2.2.2.2.2.1 TE.2.2.2.2.2.2.2.2.2.1 TE.2.2.2.2.2.2.2.2.2.2.1 TE.2.2.2.2.2.2.2.2.2.2.2.1 TE.2.2.2.2.2.2.2.2.2.2.2.2.1 TE.2.2.2.2.2.2.2.2.2.2.2.2.2.1 TE.2.2.2.2.2.2.2.2.2.2.2.2.2.2.1 TE.2.2.2.2.2.2.2.2.2.2.2.2.2.2.2.1 TE.2.2.2.2.2.2.2.2.2.2.2.2.2.2.2.2) Y (r1.1.Ar,r1.1.fOp,r1.1.AI,r1.1.Gw,r1.1.A'.Ar,r1.1.A'.E',r1.1.A'.If,r1.1.A'.Df,r1.1.A'.C',r1.1.By,r1.2.fl,r1.2.fat,r1.2.H',r1.2.G',r1.2.AT.Ar,r1.2.AT.fAt,r1.2.AT.AI) h1 (gE rfl rfl) ?_;rintro m ⟨Vu,VR,WJ,XM,XL,XK,XJ,Zw,Zv,VQ,WI,WH,WG,WF,WE,WC,WB⟩ h1;replace h1:bK n (aC n) r1 (m+1) Vu VR WJ XM XL XK XJ Zw Zv VQ WI WH WG WF WE WC WB=some aab:=h1;rw [bK] at h1;refine nx 1 rfl ?_;obtain ⟨o128,h2,hL1,hR1⟩:=br h1;refine kX (λ T8:Int×Bytes×(List ad)×(List ac)×Int×Int×Int×Int×Int×Bytes=>o128=.inl T8) (λ T8=>⟨[(0,.ptr 1000000 0),(2,.ptr 2 0),(3,.ptr 3 0)],[(2,bz),(3,[.p (eI T8.1),.p (eI 0),.p (eS T8.2.1),.p (eS ([]:Bytes)),.p (eI 0),.p (eI 0),.p (eS ([]:Bytes)),.p (.val (.slice none 0 0)),.p (.val (.slice none 0 0)),.p (eL ak T8.2.2.1),.p (eI r1.1.fAt)]),(1000000,(fF T8.2.2.2))]⟩) (λ T8 hv=>?_) ?_
  ·have h1:=hL1 _ hv;exact nx 1 Z (eX (T8.1,0,T8.2.1,([]:Bytes),0,0,([]:Bytes),[],[],T8.2.2.1,T8.2.2.2.1,T8.2.2.2.2.1,T8.2.2.2.2.2.1,T8.2.2.2.2.2.2.1,T8.2.2.2.2.2.2.2.1,T8.2.2.2.2.2.2.2.2.1,T8.2.2.2.2.2.2.2.2.2) h1 (dN (kU ⟨er Z,er Z,er Z,trivial⟩ ⟨⟨_,Z,⟨sr,sr,sr,sr,sr,sr,sr,sr,sr,sr,sr,trivial⟩⟩,⟨_,Z,⟨sr,sr,sr,sr,sr,sr,sr,iy _,iy _,sr,sr,trivial⟩⟩,⟨_,Z,⟨sr,sr,sr,sr,sr,sr,sr,trivial⟩⟩,trivial⟩)))
  refine nx 4 Z (K2 λ r68 h2=>?_);refine nx 2 Z (fB [9,11] h2 Z (λ c70 h2=>?_) λ c70 h2=>?_)
  ·refine nx 4 Z (K2 λ Xo h2=>?_);refine nx 4 Z (K2 λ Uu h2=>?_);refine nx 10 Z (fN [18] h2 Z (λ c75 h2=>?_) λ c75 h2=>?_)
   ·refine nx 5 Z (K2 λ V9 h2=>?_);refine nx 5 Z (mO Z (aH ak [(ad.mk Vu VR WJ XM (am.mk XL XK XJ Zw Zv) VQ r1.1.fAt)] Z Z Z Z Z Z Z Z Z Z Z Z Z ff ?_));exact bV
   refine nx 6 Z (K2 λ VE h2=>?_);exact nx 3 Z HH
  refine nx 4 Z (K2 λ r80 h2=>?_);refine nx 2 Z (fB [32,34] h2 Z (λ c82 h2=>?_) λ c82 h2=>?_)
  ·refine nx 4 Z (K2 λ Vx h2=>?_);refine nx 4 Z (K2 λ r85 h2=>?_);refine nx 6 Z (K2 λ YA h2=>?_);refine nx 4 Z (mO Z (aH ak [(ad.mk Vu VR WJ XM (am.mk XL XK XJ Zw Zv) VQ r1.1.fAt),r85.1] Z Z Z Z Z Z Z Z Z Z Z Z Z ff ?_));exact bV
  exact nx 7 Z HH
 ·refine λ OF=>hO good [] [1000000] Tryz.func184 Z Z λ r h0 _ w0 F=>?_;rw [cJ] at h0;exact J0
 ·refine λ OF=>hO good [] [1000000] Tryz.func197 Z Z λ r h0 _ w0 F=>?_;rw [eJ] at h0;exact J0
 ·refine λ OF=>hO good [] [1000000] Tryz.func198 Z Z λ r h0 _ w0 F=>?_;rw [ga] at h0;have:=js [601,1001];have:=jS 601 Bool λ v=>[(18,.p (eB v))]
  have:=jO 1001 Int λ v=>[(4,[.p (eI 1),.p (eI v),.p (eS ([]:Bytes)),.p (.val (.slice none 0 0)),.p (.val (.slice none 0 0))])]
  exact J0
 ·refine λ OF=>hO good [] [1000000] Tryz.func199 Z Z λ r h0 _ w0 F=>?_;rw [gG] at h0;exact J0
 ·refine λ OF end_1=>hO good [] [1000000] Tryz.func210 Z Z λ r h0 _ w0 F=>?_;rw [ge] at h0;refine nx 10 Z (bd h0 λ o79 h1 h0=>?_);refine kE 0 o79 (λ v80=>⟨[(5,.vec 19 11 0 (v80.1.map ak))],[(1000000,(fF v80.2))]⟩) ?_ ?_
  ·exact J0
  refine lG (λ (Xt:(List ad)×(List ac)×Int×Int×Int×Int×Int×Bytes)=>⟨[(0,.ptr 1000000 0),(1,.p (eS end_1)),(5,.vec 19 11 0 (Xt.1.map ak))],[(1000000,(fF Xt.2))]⟩) (λ m (Xt:(List ad)×(List ac)×Int×Int×Int×Int×Int×Bytes)=>cH n (aC n) end_1 m Xt.1 Xt.2.1 Xt.2.2.1 Xt.2.2.2.1 Xt.2.2.2.2.1 Xt.2.2.2.2.2.1 Xt.2.2.2.2.2.2.1 Xt.2.2.2.2.2.2.2) Y ([],OF.fl,OF.fat,OF.H',OF.G',OF.AT.Ar,OF.AT.fAt,OF.AT.AI) h1 (dN (kU ⟨er rfl,er rfl,⟨_,rfl,AV.sub_nilvec _ _ _⟩,trivial⟩ ⟨⟨_,rfl,⟨sr,sr,sr,sr,sr,sr,sr,trivial⟩⟩,trivial⟩)) ?_;rintro m ⟨U7,Xi,f33,f34,UQ,Vl,T6,UP⟩ h1;replace h1:cH n (aC n) end_1 (m+1) U7 Xi f33 f34 UQ Vl T6 UP=some o79:=h1;rw [cH] at h1;refine nx 2 rfl (bd h1 λ o82 h2 h1=>?_);refine kN o82 (λ v83=>⟨[(0,.ptr 1000000 0),(1,.p (eS end_1)),(5,.vec 19 11 0 (U7.map ak)),(14,.p (eB v83.1))],[(1000000,(fF v83.2))]⟩) ?_ ?_
  ·refine nx 1 Z (fB [14] h1 Z (λ c52 h1=>?_) λ c52 h1=>?_)
   ·refine nx 7 Z (K1 λ X1 h1=>?_);refine mO Z (aH ak [X1.1] Z Z Z Z Z Z Z Z Z Z Z Z Z ff ?_);refine cc' h1 λ Yn h1=>mO Z (dZ ak U7 [X1.1] Z Z Z Z Z Z Z Z Z Z Z Z Z (λ x=>congrArg List.length (ad.It x)) Z Z Z Z Yn ?_);exact ay
   exact ay
  exact bV
 ·refine λ OF N' k_2=>hO good [] [1000000] Tryz.func212 Z Z λ r h0 _ w0 F=>?_;rw [eO] at h0;refine nx 7 Z (K0 λ r1 h0=>?_);refine nx 6 Z (K0 λ r3 h0=>?_);refine nx 5 Z (bd h0 λ TG h1 h0=>?_);refine kN TG (λ ZO=>⟨[(0,.ptr 1000000 0),(2,.p (eI k_2)),(6,.ptr 6 0),(7,.ptr 7 0)],[(6,bz),(7,(nY (.p (eI k_2)) (.p (eS ZO.1)) (.p (eS ZO.2.1)) (.p (eI N')))),(1000000,(fF ZO.2.2))]⟩) ?_ ?_
  ·refine nx 4 Z (K0 λ Tc h0=>?_);refine nx 2 Z (bd h0 λ Tp e24 h0=>?_);refine cc' h0 λ VO h0=>mG (gE (t:=⟨[(0,.ptr 1000000 0),(2,.p (eI k_2)),(6,.ptr 6 0),(7,.ptr 7 0)],[(6,bz),(7,(nY (.p (eI k_2)) (.p (eS TG.1)) (.p (eS TG.2.1)) (.p (eI N')))),(1000000,(al.cs Tc).map .p)]⟩) Z Z) (mSq ⟨3,[3,5,7],(by4 (.some (cm [] 107000 107000)) (.some λ i=>Nat.beq i 33) .none .none),(λ _=>[(0,.ptr 1000000 0),(2,.p (eI k_2)),(6,.ptr 6 0),(7,.ptr 7 0)]),(by4 ([(6,bz),(7,(nY (.p (eI k_2)) (.p (eS TG.1)) (.p (eS TG.2.1)) (.p (eI N')))),(1000000,((al.cs Tc).map .p))]) ([(1000000,((al.cs Tp.2).map .p)),(6,bz),(7,(nY (.p (eI k_2)) (.p (eS TG.1)) (.p (eS TG.2.1)) (.p (eI N'))))]) ([(1000000,((al.cs Tp.2).map .p)),(6,bz),(7,(nY (.p (eI k_2)) (.p (eS TG.1)) (.p (eS TG.2.1)) (.p (eI N'))))]) ([(7,(dz (.p (eI k_2)) (.p (eS TG.1)) (.p (eS TG.2.1)) (.vec 33 11 0 ([Tp.1].map ak)) (.p (eI N')))),(1000000,((al.cs Tp.2).map .p)),(6,bz),(7,(nY (.p (eI k_2)) (.p (eS TG.1)) (.p (eS TG.2.1)) (.p (eI N'))))]))⟩ Z ?_);refine dPc (.ptr 7 9) Z (dPc (.p (.val (.slice none 0 0))) Z ?_);refine dPc (.ptr 1000000 0) Z (dI (λ _=>.p (.agg (ad.cs Tp.1))) [30] Z (λ sl Sk K hK=>ap Z (aW [1000000] [] 107000 107000 (HO.c e24) Z Z Z (aT (Sk _ _ Z) b9) Z ⟨sr,trivial⟩ Z Z ⟨⟨_,Z,⟨sr,sr,sr,sr,sr,sr,sr,trivial⟩⟩,trivial⟩ Z Z Z Z Z Z Z Z Tryz.call65 Z Z hK)) ?_);refine dO (.p (eL ak [Tp.1])) [31] Z (λ _ sl Sk K hK=>ap Z (aH ak [Tp.1] Z Z Z Z Z Z (cO (Sk _ _ Z) Z dW) Z Z Z Z Z Z ff hK)) (dI (λ _=>.vec 33 11 0 ([Tp.1].map ak)) [29,32] Z (λ sl Sk K hK=>ap Z (Du ak [Tp.1] 0 Z Z Z Z Z Z Z Z (Sk _ _ Z) (Sk _ _ Z) Z (λ x=>congrArg List.length (ad.It x)) Z Z Z Z VO hK)) ?_);refine dPc (.ptr 7 9) Z (dS Z ?_);refine fj (nx 4 Z ?_);refine bd h0 λ TR e27 h0=>mO Z (cVq [1000000] [] 108000 108000 (HO.c e27) Tryz.call103 Z ?_);refine nx 2 Z (bd h0 λ Tw e29 h0=>?_);refine cc' h0 λ Zo h0=>mG (gE (t:=⟨[(0,.ptr 1000000 0),(2,.p (eI k_2)),(6,.ptr 6 0),(7,.ptr 7 0)],[(6,bz),(7,(dz (.p (eI k_2)) (.p (eS TG.1)) (.p (eS TG.2.1)) (.vec 33 11 0 ([Tp.1].map ak)) (.p (eI N')))),(1000000,(al.cs TR).map .p)]⟩) Z Z) (mSq ⟨3,[3,5,7],(by4 (.some (cm [] 109000 109000)) (.some λ i=>Nat.beq i 33||Nat.beq i 42) .none .none),(λ _=>[(0,.ptr 1000000 0),(2,.p (eI k_2)),(6,.ptr 6 0),(7,.ptr 7 0)]),(by4 ([(6,bz),(7,(dz (.p (eI k_2)) (.p (eS TG.1)) (.p (eS TG.2.1)) (.vec 33 11 0 ([Tp.1].map ak)) (.p (eI N')))),(1000000,((al.cs TR).map .p))]) ([(1000000,((al.cs Tw.2).map .p)),(6,bz),(7,(dz (.p (eI k_2)) (.p (eS TG.1)) (.p (eS TG.2.1)) (.vec 33 11 0 ([Tp.1].map ak)) (.p (eI N'))))]) ([(1000000,((al.cs Tw.2).map .p)),(6,bz),(7,(dz (.p (eI k_2)) (.p (eS TG.1)) (.p (eS TG.2.1)) (.p (eL ak [Tp.1])) (.p (eI N'))))]) ([(7,(dz (.p (eI k_2)) (.p (eS TG.1)) (.p (eS TG.2.1)) (.vec 42 11 0 (([Tp.1]++[Tw.1]).map ak)) (.p (eI N')))),(1000000,((al.cs Tw.2).map .p)),(6,bz),(7,(dz (.p (eI k_2)) (.p (eS TG.1)) (.p (eS TG.2.1)) (.p (eL ak [Tp.1])) (.p (eI N'))))]))⟩ Z ?_);refine dPc (.ptr 7 9) Z (dP (by4 (.vec 33 11 0 ([Tp.1].map ak)) (.vec 33 11 0 ([Tp.1].map ak)) (.p (eL ak [Tp.1])) (.p (eL ak [Tp.1]))) Z ?_);refine dPc (.ptr 1000000 0) Z (dI (λ _=>.p (.agg (ad.cs Tw.1))) [39] Z (λ sl Sk K hK=>ap Z (aW [1000000] [] 109000 109000 (HO.c e29) Z Z Z (aT (Sk _ _ Z) b9) Z ⟨sr,trivial⟩ Z Z ⟨⟨_,Z,⟨sr,sr,sr,sr,sr,sr,sr,trivial⟩⟩,trivial⟩ Z Z Z Z Z Z Z Z Tryz.call65 Z Z hK)) ?_);refine dO (.p (eL ak [Tw.1])) [40] Z (λ _ sl Sk K hK=>ap Z (aH ak [Tw.1] Z Z Z Z Z Z (cO (Sk _ _ Z) Z dW) Z Z Z Z Z Z ff hK)) (dI (λ _=>.vec 42 11 0 (([Tp.1]++[Tw.1]).map ak)) [38,41] Z (λ sl Sk K hK=>ap Z (dZ ak [Tp.1] [Tw.1] Z Z Z Z Z Z Z Z (Sk _ _ Z) Z Z (Sk _ _ Z) Z (λ x=>congrArg List.length (ad.It x)) Z Z Z Z Zo hK)) ?_);refine dPc (.ptr 7 9) Z (dS Z ?_);refine fj (nx 6 Z ?_);refine bd h0 λ UJ h1 h0=>kN UJ (λ ZN=>⟨[(0,.ptr 1000000 0),(6,.ptr 6 0),(7,.ptr 7 0),(8,.p (eS ZN.1))],[(6,bz),(7,(dz (.p (eI k_2)) (.p (eS TG.1)) (.p (eS TG.2.1)) (.vec 53 11 0 (ZN.2.1.map ak)) (.p (eI N')))),(1000000,(fF ZN.2.2))]⟩) ?_ ?_
   ·refine nx 2 Z (bd h0 λ o71 h1 h0=>?_);refine kN o71 (λ XY=>⟨[(0,.ptr 1000000 0),(6,.ptr 6 0),(7,.ptr 7 0),(8,.p (eS UJ.1))],[(6,bz),(7,(dz (.p (eI k_2)) (.p (eS TG.1)) (.p (eS TG.2.1)) (.vec 64 11 0 (XY.1.map ak)) (.p (eI N')))),(1000000,(fF XY.2))]⟩) ?_ ?_
    ·exact J0
    refine nx 3 Z (K1 λ V0 h1=>?_);refine nx 1 Z (fB [56] h1 Z (λ c48 h1=>?_) λ c48 h1=>?_)
    ·refine nx 4 Z (K1 λ V' h1=>?_);refine nx 1 Z (bd h1 λ TP Zx h1=>?_);refine cc' h1 λ Yo h1=>mG (gE (t:=⟨[(0,.ptr 1000000 0),(6,.ptr 6 0),(7,.ptr 7 0),(8,.p (eS UJ.1))],[(6,bz),(7,(dz (.p (eI k_2)) (.p (eS TG.1)) (.p (eS TG.2.1)) (.vec 53 11 0 (UJ.2.1.map ak)) (.p (eI N')))),(1000000,(al.cs V'.2).map .p)]⟩) Z Z) (mSq ⟨3,[3,5,7],(by4 (.some (cm [] 114000 114000)) (.some λ i=>Nat.beq i 53||Nat.beq i 64) .none .none),(λ _=>[(0,.ptr 1000000 0),(6,.ptr 6 0),(7,.ptr 7 0),(8,.p (eS UJ.1))]),(by4 ([(6,bz),(7,(dz (.p (eI k_2)) (.p (eS TG.1)) (.p (eS TG.2.1)) (.vec 53 11 0 (UJ.2.1.map ak)) (.p (eI N')))),(1000000,((al.cs V'.2).map .p))]) ([(1000000,((al.cs TP.2).map .p)),(6,bz),(7,(dz (.p (eI k_2)) (.p (eS TG.1)) (.p (eS TG.2.1)) (.vec 53 11 0 (UJ.2.1.map ak)) (.p (eI N'))))]) ([(1000000,((al.cs TP.2).map .p)),(6,bz),(7,(dz (.p (eI k_2)) (.p (eS TG.1)) (.p (eS TG.2.1)) (.p (eL ak UJ.2.1)) (.p (eI N'))))]) ([(7,(dz (.p (eI k_2)) (.p (eS TG.1)) (.p (eS TG.2.1)) (.vec 64 11 0 ((UJ.2.1++[TP.1]).map ak)) (.p (eI N')))),(1000000,((al.cs TP.2).map .p)),(6,bz),(7,(dz (.p (eI k_2)) (.p (eS TG.1)) (.p (eS TG.2.1)) (.p (eL ak UJ.2.1)) (.p (eI N'))))]))⟩ Z ?_);refine dPc (.ptr 7 9) Z (dP (by4 (.vec 53 11 0 (UJ.2.1.map ak)) (.vec 53 11 0 (UJ.2.1.map ak)) (.p (eL ak UJ.2.1)) (.p (eL ak UJ.2.1))) Z ?_);refine dPc (.ptr 1000000 0) Z (dI (λ _=>.p (.agg (ad.cs TP.1))) [61] Z (λ sl Sk K hK=>ap Z (aW [1000000] [] 114000 114000 (HO.c Zx) Z Z Z (aT (Sk _ _ Z) b9) Z ⟨sr,trivial⟩ Z Z ⟨⟨_,Z,⟨sr,sr,sr,sr,sr,sr,sr,trivial⟩⟩,trivial⟩ Z Z Z Z Z Z Z Z Tryz.call65 Z Z hK)) ?_);refine dO (.p (eL ak [TP.1])) [62] Z (λ _ sl Sk K hK=>ap Z (aH ak [TP.1] Z Z Z Z Z Z (cO (Sk _ _ Z) Z dW) Z Z Z Z Z Z ff hK)) (dI (λ _=>.vec 64 11 0 ((UJ.2.1++[TP.1]).map ak)) [60,63] Z (λ sl Sk K hK=>ap Z (dZ ak UJ.2.1 [TP.1] Z Z Z Z Z Z Z Z (Sk _ _ Z) Z Z (Sk _ _ Z) Z (λ x=>congrArg List.length (ad.It x)) Z Z Z Z Yo hK)) ?_);refine dPc (.ptr 7 9) Z (dS Z ?_);exact ay
    exact nx 2 Z (eX _ (oi h1).symm (bj (ca 53 64 Z Z Z Z Z) (gE Z Z)))
   refine nx 5 Z (fD [45] h1 Z (λ ZD h1=>?_) λ ZD h1=>?_)
   ·refine nx 4 Z (K1 λ Vp h1=>?_);refine nx 2 Z (bd h1 λ Te e35 h1=>?_);refine cc' h1 λ Zm h1=>mG (gE (t:=⟨[(0,.ptr 1000000 0),(6,.ptr 6 0),(7,.ptr 7 0)],[(6,bz),(7,(dz (.p (eI k_2)) (.p (eS TG.1)) (.p (eS TG.2.1)) (.vec 42 11 0 (([Tp.1]++[Tw.1]).map ak)) (.p (eI N')))),(1000000,(al.cs Vp).map .p)]⟩) Z Z) (mSq ⟨3,[3,5,7],(by4 (.some (cm [] 111000 111000)) (.some λ i=>Nat.beq i 42||Nat.beq i 53) .none .none),(λ _=>[(0,.ptr 1000000 0),(6,.ptr 6 0),(7,.ptr 7 0)]),(by4 ([(6,bz),(7,(dz (.p (eI k_2)) (.p (eS TG.1)) (.p (eS TG.2.1)) (.vec 42 11 0 (([Tp.1]++[Tw.1]).map ak)) (.p (eI N')))),(1000000,((al.cs Vp).map .p))]) ([(1000000,((al.cs Te.2).map .p)),(6,bz),(7,(dz (.p (eI k_2)) (.p (eS TG.1)) (.p (eS TG.2.1)) (.vec 42 11 0 (([Tp.1]++[Tw.1]).map ak)) (.p (eI N'))))]) ([(1000000,((al.cs Te.2).map .p)),(6,bz),(7,(dz (.p (eI k_2)) (.p (eS TG.1)) (.p (eS TG.2.1)) (.p (eL ak ([Tp.1]++[Tw.1]))) (.p (eI N'))))]) ([(7,(dz (.p (eI k_2)) (.p (eS TG.1)) (.p (eS TG.2.1)) (.vec 53 11 0 ((([Tp.1]++[Tw.1])++[Te.1]).map ak)) (.p (eI N')))),(1000000,((al.cs Te.2).map .p)),(6,bz),(7,(dz (.p (eI k_2)) (.p (eS TG.1)) (.p (eS TG.2.1)) (.p (eL ak ([Tp.1]++[Tw.1]))) (.p (eI N'))))]))⟩ Z ?_);refine dPc (.ptr 7 9) Z (dP (by4 (.vec 42 11 0 (([Tp.1]++[Tw.1]).map ak)) (.vec 42 11 0 (([Tp.1]++[Tw.1]).map ak)) (.p (eL ak ([Tp.1]++[Tw.1]))) (.p (eL ak ([Tp.1]++[Tw.1])))) Z ?_);refine dPc (.ptr 1000000 0) Z (dI (λ _=>.p (.agg (ad.cs Te.1))) [50] Z (λ sl Sk K hK=>ap Z (aW [1000000] [] 111000 111000 (HO.c e35) Z Z Z (aT (Sk _ _ Z) b9) Z ⟨sr,trivial⟩ Z Z ⟨⟨_,Z,⟨sr,sr,sr,sr,sr,sr,sr,trivial⟩⟩,trivial⟩ Z Z Z Z Z Z Z Z Tryz.call65 Z Z hK)) ?_);refine dO (.p (eL ak [Te.1])) [51] Z (λ _ sl Sk K hK=>ap Z (aH ak [Te.1] Z Z Z Z Z Z (cO (Sk _ _ Z) Z dW) Z Z Z Z Z Z ff hK)) (dI (λ _=>.vec 53 11 0 ((([Tp.1]++[Tw.1])++[Te.1]).map ak)) [49,52] Z (λ sl Sk K hK=>ap Z (dZ ak ([Tp.1]++[Tw.1]) [Te.1] Z Z Z Z Z Z Z Z (Sk _ _ Z) Z Z (Sk _ _ Z) Z (λ x=>congrArg List.length (ad.It x)) Z Z Z Z Zm hK)) ?_);refine dPc (.ptr 7 9) Z (dS Z ?_);exact ay
   exact nx 2 Z (eX _ (oi h1).symm (bj (ca 42 53 Z Z Z Z Z) (gE Z Z)))
  exact ay
 ·refine λ OF=>hO good [] [1000000] Tryz.func213 Z Z λ r h0 _ w0 F=>?_;rw [fE] at h0;refine nx 10 Z (bd h0 λ o89 h1 h0=>?_);refine kE 0 o89 (λ v90=>⟨[(3,.vec 23 11 0 (v90.1.map ak))],[(1000000,(fF v90.2))]⟩) ?_ ?_
  ·exact J0
  refine lG (λ (Xs:(List ad)×(List ac)×Int×Int×Int×Int×Int×Bytes)=>⟨[(0,.ptr 1000000 0),(3,.vec 23 11 0 (Xs.1.map ak))],[(1000000,(fF Xs.2))]⟩) (λ m (Xs:(List ad)×(List ac)×Int×Int×Int×Int×Int×Bytes)=>cg n (aC n) (de n) m Xs.1 Xs.2.1 Xs.2.2.1 Xs.2.2.2.1 Xs.2.2.2.2.1 Xs.2.2.2.2.2.1 Xs.2.2.2.2.2.2.1 Xs.2.2.2.2.2.2.2) Y ([],OF.fl,OF.fat,OF.H',OF.G',OF.AT.Ar,OF.AT.fAt,OF.AT.AI) h1 (dN (kU ⟨er rfl,⟨_,rfl,AV.sub_nilvec _ _ _⟩,trivial⟩ ⟨⟨_,rfl,⟨sr,sr,sr,sr,sr,sr,sr,trivial⟩⟩,trivial⟩)) ?_;rintro m ⟨Uo,T6,UP,Vd,Vk,Vj,Vi,Vh⟩ h1;replace h1:cg n (aC n) (de n) (m+1) Uo T6 UP Vd Vk Vj Vi Vh=some o89:=h1;rw [cg] at h1;refine nx 2 rfl (bd h1 λ o92 h2 h1=>?_);refine kN o92 (λ v93=>⟨[(0,.ptr 1000000 0),(3,.vec 23 11 0 (Uo.map ak)),(11,.p (eB v93.1))],[(1000000,(fF v93.2))]⟩) ?_ ?_
  ·refine nx 1 Z (fB [11] h1 Z (λ c57 h1=>?_) λ c57 h1=>?_)
   ·refine nx 7 Z (K1 λ TV h1=>?_);refine mO Z (aH ak [TV.1] Z Z Z Z Z Z Z Z Z Z Z Z Z ff ?_);refine cc' h1 λ XC h1=>mO Z (dZ ak Uo [TV.1] Z Z Z Z Z Z Z Z Z Z Z Z Z (λ x=>congrArg List.length (ad.It x)) Z Z Z Z XC ?_);refine nx 5 Z (K1 λ TO h1=>?_);refine nx 5 Z (K1 λ U9 h1=>?_);refine mO Z (aH ak [U9.1] Z Z Z Z Z Z Z Z Z Z Z Z Z ff ?_);refine cc' h1 λ XB h1=>mO Z (dZ ak (Uo++[TV.1]) [U9.1] Z Z Z Z Z Z Z Z Z Z Z Z Z (λ x=>congrArg List.length (ad.It x)) Z Z Z Z XB ?_);exact ay
   exact ay
  exact bV
 ·refine λ OF=>hO good [] [1000000] Tryz.func225 Z Z λ r h0 _ w0 F=>?_;rw [de] at h0;exact J0
instance Lh (n:Nat):vj (ip n) 33:=(re n).2.1
def gf (n:Nat)(Mr:Bytes):Option (ad×ao) :=
 (ip n Mr 0).bind λ r1 =>
 (iJ n r1.1 r1.2).bind λ r3 =>
 some (r3.1,r3.2)
instance Lb (n:Nat) (Mr:Bytes):∀ (r:ad×ao),HP (gf n Mr=some r) Tryz.prog 16 [eS Mr] (.tuple [.p (.agg (ad.cs r.1)),.p (.agg (ao.cs r.2))]):=by
 refine hP good Tryz.func16 Z Z λ r h0 _ w0=>?_;unfold gf at h0;exact J0
def d5 (UA:ad->Option Int)(SR:ad):Nat->Int->Int->Option Int
 | 0,_,_=>none
 | m+1,n9,XZ =>
 if XZ < (SR.By.length:Int) then
  ck ((0:Int)<=XZ/\XZ < (SR.By.length:Int)) <|
  (UA (lat SR.By XZ)).bind λ US =>
  ck (inR (n9+US)) <|
  ck (inR (XZ+1)) <|
  d5 UA SR m (n9+US) (XZ+1)
 else
  some n9
def gj:Nat->ad->Option Int
 | 0,_=>none
 | n+1,SR =>
 (d5 (gj n) SR n 1 0).bind λ n19 =>
 some n19
instance Lr (n:Nat):∀ (SR:ad) (r:Int),HP (gj n SR=some r) Tryz.prog 14 [.agg (ad.cs SR)] (.p (eI r)):=by
 induction n with
 | zero=>exact Zr
 | succ n ih =>
 refine λ SR=>hP good Tryz.func14 Z Z λ r h0 _ w0=>?_;rw [gj] at h0;refine nx 14 Z (oLl (f:=ak) Z Z ?_);refine nx 3 Z (bd h0 λ Wg h1 h0=>?_);refine kE 0 Wg (λ YR=>⟨[(3,.p (eI YR))],[]⟩) ?_ ?_
 ·exact J0
 refine lG (λ (Wn:Int×Int)=>⟨[(3,.p (eI Wn.1)),(7,.p (eL ak SR.By)),(8,.p (eI (SR.By.length:Int))),(9,.p (eI Wn.2))],[]⟩) (λ m (Wn:Int×Int)=>d5 (gj n) SR m Wn.1 Wn.2) Y (1,0) h1 (gE rfl rfl) ?_;rintro m ⟨n9,XZ⟩ h1;replace h1:d5 (gj n) SR (m+1) n9 XZ=some Wg:=h1;rw [d5] at h1;exact ay
end Go.Ab.R06
end
section
namespace Go.Ab.R06
open Go.Proofs Go.Ab Go.Ab.RB
set_option maxRecDepth 4000
attribute [local irreducible] awp ik bg bO cv AV.sub M dc
end Go.Ab.R06
end
section
namespace Go.Ab.R06
open Go.Proofs Go.Ab Go.Ab.RB
section
variable {p:Prop}
theorem uK (h:p:=by
  exact nx 6 Z (mQ (oi h0) Z (sr))):p:=h
theorem Iw (h:p:=by
  refine nx 2 Z (oLl (f:=ak) Z Z ?_)
  exact nx 3 Z (eX _ (oi h1).symm (gE Z Z))):p:=h
theorem AF (h:p:=by
  exact nx 17 Z (eX _ (oi h1).symm (gE Z Z))):p:=h
theorem BP (h:p:=by
  exact nx 6 Z (eX _ (oi h1).symm (gE Z Z))):p:=h
end
set_option maxRecDepth 4000
attribute [local irreducible] awp ik bg bO cv AV.sub M dc
instance QR:HE Tryz.prog 16:=⟨Tryz.call16⟩
def jF (n:Nat):Option Bool :=
 (gf n ([49,32,43,32,50,32,42,32,51]:Bytes)).bind λ r1 =>
 (gf n ([34,120,36,123,34,121,34,125,34]:Bytes)).bind λ r3 =>
 (gf n ([97,32,43]:Bytes)).bind λ r5 =>
 (gf n ([91,102,111,114,32,107,44,32,118,32,105,110,32,109,32,58,32,118,32,105,102,32,107,32,33,61,32,34,97,34,93]:Bytes)).bind λ r7 =>
 (
   if r1.2.Ar=0 then
    if r3.2.Ar=0 then
     if r5.2.Ar=2 then
      if r5.2.fAt=3 then
       if r7.2.Ar=0 then
        if (r1.1.By.length:Int)=2 then
         some (!decide ((r3.1.By.length:Int)=2))
        else
         some true
       else
        some true
      else
       some true
     else
      some true
    else
     some true
   else
    some true
  ).bind λ t15 =>
 if t15=true then
  some false
 else
  (
    if r1.1.fOp=11 then
     ck ((0:Int)<=1/\1 < (r1.1.By.length:Int)) <|
     if (lat r1.1.By 1).fOp=13 then
      if r3.1.Ar=2 then
       if r7.1.Ar=12 then
        if r7.1.Gw=([107]:Bytes) then
         if r7.1.AI=([118]:Bytes) then
          if (r7.1.By.length:Int)=3 then
           (gj n r1.1).bind λ UC =>
           some (decide (UC=5))
          else
           some false
         else
          some false
        else
         some false
       else
        some false
      else
       some false
     else
      some false
    else
     some false
   ).bind λ t27 =>
  some t27
instance Kv (n:Nat):∀ (r:Bool),HP (jF n=some r) Tryz.prog 11 [] (.p (eB r)):=by
 refine hP good Tryz.func11 Z Z λ r h0 _ w0=>?_;unfold jF at h0;refine nx 6 Z (K0 λ r1 h0=>nx 10 Z ?_);refine bd h0 λ r3 e4 h0=>oK (HP.c e4) Z ⟨sr,trivial⟩ Tryz.call16 Z (nx 10 Z ?_);refine bd h0 λ r5 e6 h0=>oK (HP.c e6) Z ⟨sr,trivial⟩ Tryz.call16 Z (nx 10 Z ?_);refine bd h0 λ r7 e8 h0=>oK (HP.c e8) Z ⟨sr,trivial⟩ Tryz.call16 Z (nx 10 Z ?_);refine bd h0 λ X4 h1 h0=>kN X4 (λ WO=>⟨[(1,.ptr 1 0),(3,.ptr 3 0),(7,.ptr 7 0),(59,.p (eB WO))],[(1,(ad.cs r1.1).map .p),(3,(ad.cs r3.1).map .p),(7,(ad.cs r7.1).map .p)]⟩) ?_ ?_
 ·refine nx 1 Z (fB [59] h0 Z (λ ZF h0=>?_) λ ZF h0=>?_)
  ·exact uK
  refine nx 3 Z (bd h0 λ WR h1 h0=>?_);refine kN WR (λ YQ=>⟨[(0,.p (eB YQ))],[]⟩) ?_ ?_
  ·exact nx 2 Z (mQ (oi h0) Z (sr))
  refine nx 5 Z (fD [62,63] h1 Z (λ Tx h1=>?_) λ Tx h1=>?_)
  ·refine nx 2 Z (oE h1 ad.It Z Z Y λ Ut h1=>?_);refine nx 5 Z (fD [69,70,71] h1 Z (λ Xj h1=>?_) λ Xj h1=>?_)
   ·refine nx 5 Z (fD [74,75,76] h1 Z (λ c20 h1=>?_) λ c20 h1=>?_)
    ·refine nx 5 Z (fD [79,80,81] h1 Z (λ c21 h1=>?_) λ c21 h1=>?_)
     ·refine nx 2 Z (oS Z Z ?_);refine nx 2 Z (fD [84,85,86] h1 Z (λ c22 h1=>?_) λ c22 h1=>?_)
      ·refine nx 2 Z (oS Z Z ?_);refine nx 2 Z (fD [89,90,91] h1 Z (λ VZ h1=>?_) λ VZ h1=>?_)
       ·refine nx 2 Z (oLl (f:=ak) Z Z ?_);refine nx 3 Z (fD [95,96,97] h1 Z (λ XT h1=>?_) λ XT h1=>?_)
        ·refine nx 1 Z (K1 λ UC h1=>nx 4 Z ?_);exact eX _ (oi h1).symm (gE Z Z)
        exact BP
       exact nx 12 Z gH
      exact AF
     exact nx 22 Z gH
    exact nx 27 Z gH
   exact nx 32 Z gH
  exact nx 40 Z gH
 refine nx 5 Z (fN [27,28] h1 Z (λ c9 h1=>?_) λ c9 h1=>?_)
 ·refine nx 5 Z (fN [31,32,33] h1 Z (λ Yy h1=>?_) λ Yy h1=>?_)
  ·refine nx 5 Z (fN [36,37,38] h1 Z (λ W9 h1=>?_) λ W9 h1=>?_)
   ·refine nx 5 Z (fN [41,42,43] h1 Z (λ ZG h1=>?_) λ ZG h1=>?_)
    ·refine nx 5 Z (fN [46,47,48] h1 Z (λ XW h1=>?_) λ XW h1=>?_)
     ·refine nx 2 Z (oLl (f:=ak) Z Z ?_);refine nx 3 Z (fN [52,53,54] h1 Z (λ XV h1=>?_) λ XV h1=>?_)
      ·exact Iw
      exact BP
     exact nx 12 Z gH
    exact AF
   exact nx 22 Z gH
  exact nx 27 Z gH
 exact nx 32 Z gH
end Go.Ab.R06
end
section
namespace Go.Ab.R06
open Go.Ab
end Go.Ab.R06
end
section
namespace Go.Ab.R06
open Go.Ab Go.Ab.RB Go.Lib
section
variable {p:Prop}
theorem si (h:p:=by
 exact ae Z (aa Z)):p:=h
theorem rL (h:p:=by
 exact af G (aa Z)):p:=h
theorem qE (h:p:=by simp [hb]):p:=h
theorem ol (h:p:=by simpa using h):p:=h
theorem oB (h:p:=by simp only [aq]; omega):p:=h
theorem qB (h:p:=by simpa using hb):p:=h
theorem xf (h:p:=by exact ax (qF s (b::r) o d) Z):p:=h
end
def pz (s l:Bytes):Int:=(s.length:Int) - (l.length:Int)
theorem va {s l:Bytes}(h:l <:+ s):pz s l=((s.length - l.length:Nat):Int):=by
 have:=h.length_le;unfold pz; omega
theorem qR {s l:Bytes}(h:l <:+ s):s.drop (s.length - l.length)=l:=by
 obtain ⟨t,rfl⟩:=h;simp
theorem ek {s r:Bytes}{b:UInt8}(h:(b::r) <:+ s):r <:+ s:=(List.suffix_cons b r).trans h
theorem ta {s l:Bytes}(k:Nat)(h:l <:+ s):l.drop k <:+ s:=(List.drop_suffix k l).trans h
theorem j1 {s r:Bytes}{b:UInt8}:pz s r=pz s (b::r)+1:=by
 unfold pz; simp only [aq]; omega
theorem lH {s l:Bytes}{k:Nat}(hk:k<=l.length):pz s (l.drop k)=pz s l+(k:Int):=by
 unfold pz; rw [ld]; omega
theorem tH {s l:Bytes}(h:l <:+ s):0<=pz s l:=by have:=h.length_le; unfold pz; omega
theorem qa {s l:Bytes}:pz s l<=s.length:=by unfold pz; omega
theorem xZ {s r:Bytes}{b:UInt8}:pz s (b::r) < s.length:=by unfold pz; simp only [aq]; omega
theorem Dv (s:Bytes):pz s s=0:=by unfold pz; omega
theorem gC {s r:Bytes}{b:UInt8}(h:(b::r) <:+ s):byt s (pz s (b::r))=(b.toNat:Int):=by
 rw [va h,cD];have h1:=qR h;have h2:s.length - (b::r).length < s.length:=by have:=h.length_le; simp only [aq] at this ⊢; omega
 rw [List.drop_eq_getElem_cons h2] at h1;rw [List.getD_eq_getElem?_getD,List.getElem?_eq_getElem h2];exact congrArg _ (congrArg _ (qr h1).1)
theorem rb {s l:Bytes}(h:l <:+ s):sub s (pz s l) (s.length:Int)=l:=by
 rw [jQ,va h,Int.toNat_natCast,qR h]
theorem pH {s l l':Bytes}(h:l <:+ s)(h':l' <:+ l):sub s (pz s l) (pz s l')=l.take (l.length - l'.length):=by
 have h1:=h.length_le;have h2:=h'.length_le;rw [va h,va (h'.trans h),xP,List.drop_take,qR h];congr 1; omega
def gV (b:UInt8):Bool:=decide (b.toNat=32)||decide (b.toNat=9)||decide (b.toNat=13)
def kW (b:UInt8):Nat:=if ji b then 2 else if d3 b then 3 else if b.toNat=34 then 5 else if b.toNat=10 then 6 else if b.toNat=35 then 7 else if gV b then 1 else if (lat iY (b.toNat:Int)).toNat=4 then 4 else 0
theorem Sp:(List.range 256).all (λ n=>(lat iY ((UInt8.ofNat n).toNat:Int)).toNat == kW (UInt8.ofNat n))=true:=by decide +kernel
theorem sx (b:UInt8):(lat iY (b.toNat:Int)).toNat=kW b:=by
 have:=py.1 Sp b.toNat (List.mem_range.2 (UInt8.toNat_lt b));rw [UInt8.ofNat_toNat] at this;exact eq_of_beq this
theorem rU {s r:Bytes}{b:UInt8}(h:(b::r) <:+ s):(0:Int)<=byt s (pz s (b::r))/\byt s (pz s (b::r)) < 256:=by
 rw [gC h];have:=UInt8.toNat_lt b;omega
theorem iQ {s r:Bytes}{b:UInt8}(h:(b::r) <:+ s):(0:Int)<=pz s (b::r)/\pz s (b::r) < (s.length:Int):=⟨tH h,xZ⟩
theorem jD (b:UInt8):(kW b=1↔gV b=true)/\(kW b=2↔ji b=true)/\(kW b=3↔d3 b=true)/\(kW b=5↔b.toNat=34)/\(kW b=6↔b.toNat=10)/\(kW b=7↔b.toNat=35):=by
 have h1:=mq b;have h2:=jl b;have h3:gV b=true↔b.toNat=32\/b.toNat=9\/b.toNat=13:=by simp [gV,or_assoc]
 unfold kW
 repeat' split
 all_goals (refine ⟨?_,?_,?_,?_,?_,?_⟩ <;> simp_all <;> omega)
def scx (s l:Bytes)(o:Int)(d:ao):ab:=.mk s (pz s l) o d
theorem qF (s l:Bytes)(o:Int)(d:ao):bE (scx s l o d)=some (!l.isEmpty,scx s l o d):=by
 unfold bE scx;simp only [bt,ur,and_true]
 cases l with
 | nil=>simp [pz]
 | cons b r=>simp only [List.isEmpty_cons,Bool.not_false,decide_eq_true_eq]; exact xZ
def fC (c:Bool)(l:Bytes):Bytes :=
 match l.dropWhile gV with
 | b::r=>if c&&decide (b.toNat=35) then (b::r).dropWhile (λ x=>!decide (x=10)) else b::r
 | []=>[]
theorem lz {p:UInt8->Bool}(l:Bytes):l.dropWhile p <:+ l:=List.dropWhile_suffix p
theorem oa (c:Bool)(l:Bytes):fC c l <:+ l:=by
 unfold fC;have h:=lz (p:=gV) l;split
 ·rename_i b r hb;rw [hb] at h;split
  ·exact (lz _).trans h
  ·exact h
 ·exact List.nil_suffix
theorem yq:∀ (l:Bytes),(indexByte l 10 < 0->l.dropWhile (λ x=>!decide (x=10))=[])/\(0<=indexByte l 10->l.dropWhile (λ x=>!decide (x=10))=l.drop (indexByte l 10).toNat/\(indexByte l 10).toNat < l.length)
 | []=>by simp [indexByte]
 | b::r=>by
  have ih:=yq r;have hge:=indexByte_ge r 10;unfold indexByte;by_cases h:b=10
  ·subst h; simp
  ·rw [if_neg ol];simp only [List.dropWhile_cons,h,decide_false,Bool.not_false,if_true];by_cases hn:indexByte r 10 < 0
   ·rw [if_pos (by rw [beq_iff_eq]; omega)];exact ⟨λ _=>ih.1 hn,λ h=>by omega⟩
   ·rw [if_neg (by rw [beq_iff_eq]; omega)];have:=ih.2 O;refine ⟨λ h=>by omega,λ _=>⟨?_,?_⟩⟩
    ·rw [this.1,show (indexByte r 10+1).toNat=(indexByte r 10).toNat+1 by omega,List.drop_succ_cons]
    ·simp only [aq]; omega
theorem Rs (l:Bytes):strings_IndexByte l 10=some (indexByte l 10):=rfl
theorem vZ {s r:Bytes}{b:UInt8}{o:Int}{d:ao}(h:(b::r) <:+ s)(h1:kW b≠1)(h7:¬ (kW b=7/\o < 0)):Ev2 (λ _ m=>bh m (scx s (b::r) o d)) (·=.inr (scx s (b::r) o d)):=by
 refine aw ?_;simp only [bh];refine aj _ xf (ae G ?_);simp only [scx];refine ag (iQ h) (ag (rU h) ?_);simp only [gC h,sx];refine iC _ (af O ?_) rfl;by_cases h7':kW b=7
 ·exact aj false (ae O (aa (decide_eq_false O))) oz
 ·exact aj false oO oz
theorem y8 {s:Bytes}{o:Int}{d:ao}:Ev2 (λ _ m=>bh m (scx s [] o d)) (·=.inl (scx s [] o d)):=by
 refine aw ?_;simp only [bh];exact aj _ (ax (qF s [] o d) Z) oz
def skR (c:Bool)(l:Bytes)(x:ab):ab⊕ab:=if (fC c l).isEmpty then .inl x else .inr x
theorem C4 (s:Bytes)(hs:s.length<=1000000000)(o:Int)(d:ao):∀ (l:Bytes),l <:+ s->Ev2 (λ _ m=>bh m (scx s l o d)) (·=skR (decide (o < 0)) l (scx s (fC (decide (o < 0)) l) o d))
 | [],_=>y8
 | b::r,h=>by
  by_cases h1:kW b=1
  ·have hb:=(jD b).1.1 h1
   have e:fC (decide (o < 0)) (b::r)=fC (decide (o < 0)) r:=by
    unfold fC; rw [List.dropWhile_cons_of_pos hb]
   unfold skR;rw [e];have ih:=C4 s hs o d r (ek h);unfold skR at ih;refine aw ?_;simp only [bh];refine aj _ xf (ae G ?_);simp only [scx];have:=iQ h;refine ag (iQ h) (ag (rU h) ?_);simp only [gC h,sx];refine ey (scx s r o d) (ae O (ag aB (aa ?_))) ih;rw [scx,show pz s r=pz s (b::r)+1 from j1]
  ·have hb:¬ gV b=true:=λ q=>h1 ((jD b).1.2 q);have e0:(b::r).dropWhile gV=b::r:=List.dropWhile_cons_of_neg hb;by_cases h7:kW b=7/\o < 0
   ·have h35:=(jD b).2.2.2.2.2.1 h7.1
    have e:fC (decide (o < 0)) (b::r)=(b::r).dropWhile (λ x=>!decide (x=10)):=by
     unfold fC; rw [e0]; simp [h7.2,h35]
    have hsf:(b::r).dropWhile (λ x=>!decide (x=10)) <:+ s:=(lz _).trans h;have hi:=yq (b::r);have S8:=iQ h;have hge:=indexByte_ge (b::r) 10;unfold skR;rw [e];refine aw ?_;simp only [bh];refine aj _ xf (ae G ?_);simp only [scx];refine ag (iQ h) (ag (rU h) ?_);simp only [gC h,sx];refine ey (scx s ((b::r).dropWhile (λ x=>!decide (x=10))) o d) (af O (aj true (ae O (aa (decide_eq_true h7.2))) (ae Z (ag O ?_)))) ?_
    ·rw [rb h];refine aj _ (ax (Rs _) rfl) ?_;by_cases hn:indexByte (b::r) 10 < 0
     ·rw [hi.1 hn];refine aj ((s.length:Int) - pz s (b::r)) (ae hn qm) (ag aB (aa ?_));rw [scx]; congr 2; unfold pz; simp only [n8,aq]; omega
     ·have hh:=hi.2 O;rw [hh.1];refine aj (indexByte (b::r) 10) (af hn (aa Z)) (ag (bv (by have:=qa (s:=s) (l:=b::r); omega) (by unfold pz at S8 ⊢; omega)) (aa ?_));rw [scx,lH O]; congr 2; omega
    ·generalize hq:(b::r).dropWhile (λ x=>!decide (x=10))=q at hsf
     cases q with
     | nil=>exact y8
     | cons c t =>
      have hc:c=10:=by
       have:=List.head?_dropWhile_not (λ x:UInt8=>!decide (x=10)) (b::r);rw [hq] at this;simpa using this
      subst hc;exact vZ hsf (by decide) (λ q=>absurd q.1 (by decide))
   ·have e:fC (decide (o < 0)) (b::r)=b::r:=by
     unfold fC; rw [e0]
     have:(decide (o < 0)&&decide (b.toNat=35))=false:=by
      rw [Bool.and_eq_false_iff,decide_eq_false_iff_not,decide_eq_false_iff_not];by_cases q:o < 0
      ·exact .inr λ w=>h7 ⟨(jD b).2.2.2.2.2.2 w,q⟩
      ·exact .inl q
     simp only [this]
     rfl
    unfold skR;rw [e];exact vZ h h1 h7
theorem C7 (s l:Bytes)(hs:s.length<=1000000000)(h:l <:+ s)(o:Int)(d:ao):Ev2 (λ n _=>eH n (scx s l o d)) (·=scx s (fC (decide (o < 0)) l) o d):=by
 simp only [eH];refine cj (aQ (aN (f:=λ _ m=>bh m (scx s l o d)) (C4 s hs o d l h)) λ r hr=>?_);subst hr;unfold skR;split
 ·rename_i hx;split at hx
  ·cases hx; exact aa rfl
  ·cases hx
 ·rename_i hx;split at hx
  ·cases hx
  ·cases hx; rfl
def oo:List Bytes:=[[61,62],[61,61],[33,61],[60,61],[62,61],[38,38],[124,124]]
def me:Bytes:=[123,125,91,93,40,41,44,61,60,62,43,45,42,47,37,33,63,58,46]
def Qp:Bytes->Bytes
 | []=>[]
 | b::_=>if indexByte me b < 0 then [] else [b]
theorem rD (b:UInt8)(r:Bytes):Qp (b::r)=if indexByte me b < 0 then [] else [b]:=rfl
def iF (l:Bytes):Bytes:=match oo.find? (λ t=>hasPrefix l t) with
 | some t=>t
 | none=>Qp l
theorem Ie (l:Bytes):∀ (j k:Nat),k+j=7->Ev2 (λ _ m=>dC l m (k:Int)) (·=match (oo.drop k).find? (λ t=>hasPrefix l t) with | some t=>.inr t | none=>.inl ())
 | 0,k,hk=>by
  have:k=7:=by omega
  subst this;refine aw ?_;simp only [dC];exact uN
 | j+1,k,hk=>by
  have WS:k < oo.length:=by show k < 7; omega
  refine aw ?_;simp only [dC];refine ae O (ag O ?_);have e:lat ([([61,62]:Bytes),([61,61]:Bytes),([33,61]:Bytes),([60,61]:Bytes),([62,61]:Bytes),([38,38]:Bytes),([124,124]:Bytes)]:List Bytes) (k:Int)=oo[k]:=m9 oo k WS;rw [e,List.drop_eq_getElem_cons WS,List.find?_cons];refine aj (hasPrefix l oo[k]) oN ?_
  cases hp:hasPrefix l oo[k]
  ·refine af G (ag aB ?_);exact Ie l j (k+1) O
  ·exact si
theorem vP (l:Bytes)(hl:l.length<=1000000000):Ev2 (λ n _=>i7 n l) (·=iF l):=by
 simp only [i7];refine cj (aQ (aN (f:=λ _ m=>dC l m 0) (Ie l 7 0 rfl)) λ r hr=>?_);subst hr;unfold iF;rw [List.drop_zero]
 cases oo.find? (λ t=>hasPrefix l t) with
 | some t=>rfl
 | none =>
  cases l with
  | nil=>exact aj true (ae Z (aa Z)) (ae Z (aa Z))
  | cons b r =>
   have hb:byt (b::r) 0=(b.toNat:Int):=rfl;refine aj (decide (indexByte me b < 0)) (af G (ag oB ?_)) ?_
   ·rw [hb];refine aj (indexByte me b) (ax ?_ rfl) (aa rfl);unfold strings_IndexByte;rw [Int.toNat_natCast];congr 2;exact UInt8.ofNat_toNat
   ·simp only [rD];by_cases h:indexByte me b < 0
    ·rw [if_pos h];exact ae ol (aa rfl)
    ·rw [if_neg h];exact af ol (ag oB (aa rfl))
theorem qY {l:Bytes}(hs:iF l≠[]):1<=(iF l).length/\(iF l).length<=l.length:=by
 have h0:1<=(iF l).length:=by cases h:iF l with | nil=>exact absurd h hs | cons _ _=>simp
 refine ⟨h0,?_⟩;unfold iF
 cases h:oo.find? (λ t=>hasPrefix l t) with
 | some t=>exact hasPrefix_le (List.find?_some h)
 | none =>
  cases l with
  | nil=>exact bx _
  | cons b r =>
   show (Qp (b::r)).length<=_;rw [rD];split <;> simp
def jf:Bytes->Bool
 | []=>false
 | b::r=>ji b||d3 b||decide (b.toNat=34)||decide (b.toNat=10)||!(iF (b::r)).isEmpty
theorem jI (b:UInt8)(r:Bytes):jf (b::r)=(ji b||d3 b||decide (b.toNat=34)||decide (b.toNat=10)||!(iF (b::r)).isEmpty):=rfl
theorem vX (s:Bytes)(hs:s.length<=1000000000){b:UInt8}{r:Bytes}(h:(b::r) <:+ s)(o:Int)(d:ao):Ev2 (λ n _=>dX n (scx s (b::r) o d)) (·=(jf (b::r),scx s (b::r) o d)):=by
 obtain ⟨f1,f2,f3,f4,f5,f6⟩:=jD b;have S8:=iQ h;simp only [dX,scx];refine ag S8 (ag (rU h) ?_);simp only [gC h,sx];refine aj (ji b||d3 b||decide (b.toNat=34)||decide (b.toNat=10)) (av (λ q=>aa ?_) (λ q2=>av (λ q=>aa ?_) (λ q3=>av (λ q=>aa ?_) (λ q5=>aa ?_)))) ?_
 ·rw [f2.1 O]; rfl
 ·rw [f3.1 O]; simp
 ·rw [decide_eq_true (f4.1 O)]; simp
 ·have e2:ji b=false:=by rw [Bool.eq_false_iff]; exact λ w=>q2 (by rw [f2.2 w]; rfl)
  have e3:d3 b=false:=by rw [Bool.eq_false_iff]; exact λ w=>q3 (by rw [f3.2 w]; rfl)
  have e5:¬ b.toNat=34:=λ w=>q5 (by rw [f4.2 w]; rfl);rw [e2,e3,decide_eq_false e5];refine eqB ?_;simp only [Bool.or_false,Bool.false_or,decide_eq_true_eq];constructor
  ·intro w; exact f5.1 O
  ·intro w; rw [f5.2 w]; rfl
 ·refine av (λ q=>aa ?_) (λ q=>ag ⟨S8.1,by omega,by omega⟩ ?_)
  ·rw [jI,q]; rfl
  ·rw [rb h];refine aj _ (vP (b::r) (by have:=h.length_le; omega)) (aa ?_);rw [Bool.not_eq_true] at q;rw [jI,q,Bool.false_or];congr 1
   cases iF (b::r) <;> simp
theorem HQ (s:Bytes)(hs:s.length<=1000000000)(o:Int)(d:ao)(p:UInt8->Bool)(x y:Nat)(hp:∀ c,p c=true↔kW c=x\/kW c=y):∀ (l:Bytes),l <:+ s->Ev2 (λ _ m=>ce (x:Int) (y:Int) m (scx s l o d)) (·=scx s (l.dropWhile p) o d)
 | [],_=>by
  refine aw ?_;simp only [ce];refine aj (false,scx s [] o d) (aj _ (ax (qF s [] o d) Z) oz) oz
 | b::r,h=>by
  have S8:=iQ h;refine aw ?_;simp only [ce];refine aj (p b,scx s (b::r) o d) (aj _ xf (ae G ?_)) ?_
  ·simp only [scx];refine ag S8 (ag (rU h) ?_);simp only [gC h,sx];refine av (λ q=>aa ?_) (λ q=>ag S8 (ag ?_ (aa ?_)))
   ·rw [(hp b).2 (.inl O)]
   ·have:=UInt8.toNat_lt b; omega
   ·congr 1;refine eqB ?_;rw [decide_eq_true_eq,hp b];omega
  ·cases hb:p b
   ·rw [List.dropWhile_cons_of_neg qE];exact rL
   ·rw [List.dropWhile_cons_of_pos hb];refine ae rfl ?_;simp only [scx];refine ag aB ?_;rw [<- show pz s r=pz s (b::r)+1 from j1];exact HQ s hs o d p x y hp r (ek h)
theorem tq (p:UInt8->Bool)(l:Bytes):l.take (l.length - (l.dropWhile p).length)=l.takeWhile p:=by
 have h:=List.takeWhile_append_dropWhile (p:=p) (l:=l);have hl:=congrArg List.length h;rw [ph] at hl
 conv=>lhs; rw [<- h]
 rw [List.take_append_of_le_length (by rw [h]; omega),List.take_of_length_le (by rw [h]; omega)]
theorem Ah (s l:Bytes)(hs:s.length<=1000000000)(h:l <:+ s)(o:Int)(d:ao)(p:UInt8->Bool)(x y:Nat)(hp:∀ c,p c=true↔kW c=x\/kW c=y):Ev2 (λ n _=>fv n (scx s l o d) (x:Int) (y:Int)) (·=(l.takeWhile p,scx s (l.dropWhile p) o d)):=by
 simp only [fv];refine aj _ (aN (f:=λ _ m=>ce (x:Int) (y:Int) m (scx s l o d)) (HQ s hs o d p x y hp l h)) ?_;simp only [scx];have h1:=tH h;have h2:pz s l<=pz s (l.dropWhile p):=by have:=(lz (p:=p) l).length_le; unfold pz; omega
 refine ag ⟨h1,h2,qa⟩ (aa ?_);rw [pH h (lz l),tq]
theorem KX (c:UInt8):idB c=true↔kW c=2\/kW c=3:=by
 obtain ⟨f1,f2,f3,f4,f5,f6⟩:=jD c;rw [f2,f3]; simp [idB]
theorem Mx (c:UInt8):d3 c=true↔kW c=3\/kW c=3:=by
 obtain ⟨f1,f2,f3,f4,f5,f6⟩:=jD c;rw [f3]; simp
theorem w3 (s l:Bytes)(o:Int)(d:ao)(k a:Int):cz (scx s l o d) k a=some (false,scx s l o (ao.mk k a [])):=rfl
theorem MI (s:Bytes)(hs:s.length<=1000000000){b:UInt8}{r:Bytes}(h:(b::r) <:+ s)(o:Int)(d:ao):Ev2 (λ _ _=>dY (scx s (b::r) o d)) (·=if jz (decodeL (b::r)) then (false,scx s (b::r) o d) else (true,scx s ((b::r).drop (decodeL (b::r)).2) o d)):=by
 have S8:=iQ h;simp only [dY,scx];refine ag ⟨S8.1,by omega,by omega⟩ ?_;rw [rb h]
 have hd:bm (b::r)=some (((decodeL (b::r)).1:Int),((decodeL (b::r)).2:Int)):=by
  exact AG
 refine aj _ (ax hd rfl) ?_;have hdf:=iB (b::r) G;have M':=h.length_le;generalize decodeL (b::r)=D at hdf ⊢;obtain ⟨c,w⟩:=D;simp only at hdf ⊢
 have hbad:Ev2 (λ _ _=>(if (c:Int)=65533 then if (w:Int)=1 then some true else if (c:Int) < 32 then some true else some (decide ((c:Int)=127)) else if (c:Int) < 32 then some true else some (decide ((c:Int)=127)):Option Bool)) (·=decide (jz (c,w))):=by
  exact GU
 refine aj _ hbad ?_;by_cases hb:jz (c,w)
 ·rw [if_pos hb];exact ae qB (aa rfl)
 ·rw [if_neg hb];refine af qB (ag (bv O (by have:=qa (s:=s) (l:=b::r); omega)) (aa ?_));rw [lH hdf.2.1]
end Go.Ab.R06
end
section
namespace Go.Ab.R06
open Go.Ab Go.Ab.RB Go.Lib
section
variable {p:Prop}
theorem BV (h:p:=by
 exact ae (by rw [hx.1]; rfl) (aa ⟨Z,hx.2⟩)):p:=h
theorem Hz (h:p:=by
 congr 1
 cases kf f (out.length+1) l' with
 | inl e=>rfl
 | inr ts =>
  show (_,_)=(_,_)
  rw [List.append_assoc]; rfl):p:=h
theorem wW (h:p:=by
 simp only [show c=4 from q,true_and]):p:=h
theorem xz (h:p:=by
 cases h; exact ⟨List.suffix_cons _ _,Nat.lt_succ_self _⟩):p:=h
theorem A8 (h:p:=by
 rw [<- show pz s r=pz s (b::r)+1 from j1]; rfl):p:=h
theorem tR (h:p:=by exact bv (by show _<=pz s (b::r)+1; omega) (by show pz s (b::r)+1<=_; omega)):p:=h
theorem Ku (h:p:=by exact aj _ (ax (w3 _ _ _ _ _ _) Z) (aa ⟨Z,Z⟩)):p:=h
theorem Ip (h:p:=by exact ⟨S8.1,by show pz s (b::r)<=(s.length:Int); omega,by show (s.length:Int)<=(s.length:Int); omega⟩):p:=h
theorem BH (h:p:=by exact ax (w3 _ _ _ _ _ _) Z):p:=h
end
abbrev SE:=Int×Option Nat
def j2 (src:Bytes->SE⊕Bytes):Bytes->SE⊕(Int×Bytes×Bytes)
 | []=>.inl (2,some 0)
 | b::r=>if ji b=true then (if 64 < ((b::r).takeWhile idB).length then .inl (7,some (b::r).length) else .inr (1,(b::r).takeWhile idB,(b::r).dropWhile idB))
  else if d3 b=true then .inr (2,(b::r).takeWhile d3,(b::r).dropWhile d3)
  else if b.toNat=10 then .inr (5,[10],r)
  else if b.toNat=34 then (match src r with | .inl e=>.inl e | .inr r'=>.inr (3,r.take (r.length - r'.length - 1),r'))
  else if iF (b::r)=[] then .inl (2,some (b::r).length) else .inr (4,iF (b::r),(b::r).drop (iF (b::r)).length)
mutual
def fy:Nat->Nat->Bytes->SE⊕Bytes
 | 0,_,_=>.inl (40,none)
 | _+1,_,[]=>.inl (40,none)
 | f+1,k,b::r=>if b.toNat=34 then .inr r
  else if hasPrefix (b::r) [36,36,123]=true then fy f k ((b::r).drop 3)
  else if hasPrefix (b::r) [36,123]=true then (if 32<=k then .inl (4,some (b::r).length) else match jq f (k+1) 1 ((b::r).drop 2) with | .inl e=>.inl e | .inr l=>fy f k l)
  else match (if b.toNat=92 then r else b::r) with
   | []=>.inl (40,none)
   | c::t=>if jz (decodeL (c::t)) then .inl (2,some (c::t).length) else fy f k ((c::t).drop (decodeL (c::t)).2)
def jq:Nat->Nat->Nat->Bytes->SE⊕Bytes
 | 0,_,_,_=>.inl (40,none)
 | f+1,k,n,l=>match fC false l with
  | []=>.inl (40,none)
  | b::r=>match j2 (fy f k) (b::r) with
   | .inl e=>.inl e
   | .inr (c,t,l')=>if c=4/\t=[125] then (if n=1 then .inr l' else jq f k (n - 1) l') else if c=4/\t=[123] then jq f k (n+1) l' else jq f k n l'
end
theorem kC (src:Bytes->SE⊕Bytes)(b:UInt8)(r:Bytes):j2 src (b::r)=if ji b=true then (if 64 < ((b::r).takeWhile idB).length then .inl (7,some (b::r).length) else .inr (1,(b::r).takeWhile idB,(b::r).dropWhile idB))
  else if d3 b=true then .inr (2,(b::r).takeWhile d3,(b::r).dropWhile d3)
  else if b.toNat=10 then .inr (5,[10],r)
  else if b.toNat=34 then (match src r with | .inl e=>.inl e | .inr r'=>.inr (3,r.take (r.length - r'.length - 1),r'))
  else if iF (b::r)=[] then .inl (2,some (b::r).length) else .inr (4,iF (b::r),(b::r).drop (iF (b::r)).length):=rfl
theorem nQ (f k:Nat)(b:UInt8)(r:Bytes):fy (f+1) k (b::r)=if b.toNat=34 then .inr r
  else if hasPrefix (b::r) [36,36,123]=true then fy f k ((b::r).drop 3)
  else if hasPrefix (b::r) [36,123]=true then (if 32<=k then .inl (4,some (b::r).length) else match jq f (k+1) 1 ((b::r).drop 2) with | .inl e=>.inl e | .inr l=>fy f k l)
  else match (if b.toNat=92 then r else b::r) with
   | []=>.inl (40,none)
   | c::t=>if jz (decodeL (c::t)) then .inl (2,some (c::t).length) else fy f k ((c::t).drop (decodeL (c::t)).2):=by rw [fy]; rfl
def Ke (q:Nat->Bytes->SE⊕Bytes)(n:Nat):SE⊕(Int×Bytes×Bytes)->SE⊕Bytes
 | .inl e=>.inl e
 | .inr (c,t,l')=>if c=4/\t=[125] then (if n=1 then .inr l' else q (n - 1) l') else if c=4/\t=[123] then q (n+1) l' else q n l'
def OW (q:Nat->Bytes->SE⊕Bytes)(src:Bytes->SE⊕Bytes)(n:Nat):Bytes->SE⊕Bytes
 | []=>.inl (40,none)
 | b::r=>Ke q n (j2 src (b::r))
theorem H9 (q:Nat->Bytes->SE⊕Bytes)(src:Bytes->SE⊕Bytes)(n:Nat):OW q src n []=.inl (40,none):=rfl
theorem nS (q:Nat->Bytes->SE⊕Bytes)(src:Bytes->SE⊕Bytes)(n:Nat)(b:UInt8)(r:Bytes):OW q src n (b::r)=Ke q n (j2 src (b::r)):=rfl
theorem qK (q:Nat->Bytes->SE⊕Bytes)(n:Nat)(e:SE):Ke q n (.inl e)=.inl e:=rfl
theorem pf (q:Nat->Bytes->SE⊕Bytes)(n:Nat)(c:Int)(t l':Bytes):Ke q n (.inr (c,t,l'))=if c=4/\t=[125] then (if n=1 then .inr l' else q (n - 1) l') else if c=4/\t=[123] then q (n+1) l' else q n l':=rfl
theorem nJ (f k n:Nat)(l:Bytes):jq (f+1) k n l=OW (jq f k) (fy f k) n (fC false l):=by
 rw [jq]
 cases fC false l with
 | nil=>rfl
 | cons b r =>
  show (match j2 (fy f k) (b::r) with
   | .inl e=>.inl e
   | .inr (c,t,l')=>if c=4/\t=[125] then (if n=1 then .inr l' else jq f k (n - 1) l') else if c=4/\t=[123] then jq f k (n+1) l' else jq f k n l')=Ke (jq f k) n (j2 (fy f k) (b::r))
  cases j2 (fy f k) (b::r) with
  | inl e=>rfl
  | inr z=>rfl
theorem kZ {src:Bytes->SE⊕Bytes}{l:Bytes}(hsrc:∀ r r',r.length < l.length->src r=.inr r'->r' <:+ r/\r'.length < r.length){c:Int}{t l':Bytes}(h:j2 src l=.inr (c,t,l')):l' <:+ l/\l'.length < l.length:=by
 cases l with
 | nil=>cases h
 | cons b r =>
  rw [kC] at h;split at h
  ·rename_i hb;split at h
   ·cases h
   ·cases h
    refine ⟨lz _,?_⟩;rw [List.dropWhile_cons_of_pos (by simp [idB,hb])];exact Nat.lt_succ_of_le (lz r).length_le
  split at h
  ·rename_i hb
   cases h
   refine ⟨lz _,?_⟩;rw [List.dropWhile_cons_of_pos hb];exact Nat.lt_succ_of_le (lz r).length_le
  split at h
  ·exact xz
  split at h
  ·split at h
   ·cases h
   ·rename_i r' hr
    cases h
    obtain ⟨h1,h2⟩:=hsrc r _ (Nat.lt_succ_self _) hr;exact ⟨h1.trans (List.suffix_cons _ _),Nat.lt_succ_of_lt h2⟩
  split at h
  ·cases h
  ·rename_i hs
   cases h
   have:=qY hs;refine ⟨List.drop_suffix _ _,?_⟩;rw [ld]; simp only [aq] at this ⊢; omega
theorem gO:∀ (f k:Nat),(∀ l l',fy f k l=.inr l'->l' <:+ l/\l'.length < l.length)/\(∀ n l l',jq f k n l=.inr l'->l' <:+ l/\l'.length < l.length)
 | 0,k=>⟨λ l l' h=>(by rw [fy] at h; cases h),λ n l l' h=>(by rw [jq] at h; cases h)⟩
 | f+1,k=>by
  have ih:=gO f;constructor
  ·intro l l' h
   cases l with
   | nil=>rw [fy] at h; cases h
   | cons b r =>
    rw [nQ] at h;split at h
    ·exact xz
    split at h
    ·obtain ⟨h1,h2⟩:=(ih k).1 _ _ h;exact ⟨h1.trans (List.drop_suffix _ _),by have:=ld (i:=3) (l:=b::r); simp only [aq] at this ⊢; omega⟩
    split at h
    ·split at h
     ·cases h
     ·split at h
      ·cases h
      ·rename_i l1 hl1;obtain ⟨h1,h2⟩:=(ih (k+1)).2 _ _ _ hl1;obtain ⟨h3,h4⟩:=(ih k).1 _ _ h;exact ⟨h3.trans (h1.trans (List.drop_suffix _ _)),by have:=ld (i:=2) (l:=b::r); simp only [aq] at this ⊢; omega⟩
    ·have hs:(if b.toNat=92 then r else b::r) <:+ b::r:=by split; exact List.suffix_cons _ _; exact List.suffix_rfl
     split at h
     ·cases h
     ·rename_i c t hct;rw [hct] at hs;split at h
      ·cases h
      ·obtain ⟨h1,h2⟩:=(ih k).1 _ _ h;exact ⟨h1.trans ((List.drop_suffix _ _).trans hs),by have:=hs.length_le; have:=(List.drop_suffix (decodeL (c::t)).2 (c::t)).length_le; omega⟩
  ·intro n l l' h;rw [nJ] at h;have hs:=oa false l;generalize hbr:fC false l=l0 at h hs
   cases l0 with
   | nil=>cases h
   | cons b r =>
    rw [nS] at h
    cases hl1:j2 (fy f k) (b::r) with
    | inl e=>rw [hl1] at h; cases h
    | inr z =>
     obtain ⟨c,t,l1⟩:=z;rw [hl1,pf] at h;obtain ⟨h1,h2⟩:=kZ (λ r r' _ hr=>(ih k).1 _ _ hr) hl1;have h3:=hs.length_le
     have key:∀ n,jq f k n l1=.inr l'->l' <:+ l/\l'.length < l.length:=λ n hn=>by
      obtain ⟨h4,h5⟩:=(ih k).2 _ _ _ hn;exact ⟨h4.trans (h1.trans hs),by omega⟩
     split at h
     ·split at h
      ·cases h; exact ⟨h1.trans hs,by omega⟩
      ·exact key _ h
     split at h
     ·exact key _ h
     ·exact key _ h
def rz (s:Bytes)(o:Int)(e:SE):ao:=ao.mk e.1 (match e.2 with | some n=>(s.length:Int) - (n:Int) | none=>o) []
def D4 (s:Bytes)(o o':Int)(d:ao)(q:SE⊕Bytes)(r:Bool×ab):Prop:=match q with
 | .inl e=>r.1=false/\r.2.AT=rz s o e
 | .inr l=>r=(true,scx s l o' d)
def P9 (s l:Bytes)(o o':Int)(d:ao)(q:SE⊕(Int×Bytes×Bytes))(r:ac×Bool×ab):Prop:=match q with
 | .inl e=>r.2.1=false/\r.2.2.AT=rz s o e
 | .inr (c,t,l')=>r=(ac.mk c t (pz s l),true,scx s l' o' d)
theorem Jp {s:Bytes}(hs:s.length<=1000000000){o o':Int}{d:ao}{k:Nat}{src:Bytes->SE⊕Bytes}{b:UInt8}{r:Bytes}(h:(b::r) <:+ s)(hsuf:∀ l',src r=.inr l'->l' <:+ r/\l'.length < r.length)(ho:¬ b.toNat=34->o'=(scx s (b::r) o d).IS)
  {oE:Int} (hsrc:b.toNat=34->Ev2 (λ n _=>cy n (scx s (b::r) o d) (k:Int)) (D4 s oE o' d (src r))) (hb:jf (b::r)=true) :
  Ev2 (λ n _=>bb n (scx s (b::r) o d) (k:Int)) (P9 s (b::r) oE o' d (j2 src (b::r))):=by
 obtain ⟨f1,f2,f3,f4,f5,f6⟩:=jD b;have S8:=iQ h;have hle:=h.length_le;refine aP ?_;simp only [bb];rw [kC];have hat':(0:Int)<=(scx s (b::r) o d).fat/\(scx s (b::r) o d).fat < ((scx s (b::r) o d).fs.length:Int):=S8;refine ag hat' (ag (rU h) ?_);simp only [show byt (scx s (b::r) o d).fs (scx s (b::r) o d).fat=(b.toNat:Int) from gC h,sx];by_cases h2:ji b=true
 ·have hn34:¬ b.toNat=34:=λ q=>by have:=(mq b).1 h2; omega
  rw [if_pos h2];have hc:=f2.2 h2;by_cases hl:64 < ((b::r).takeWhile idB).length
  ·rw [if_pos hl];refine cj (ae O (aj _ (Ah s (b::r) hs h o d idB 2 3 KX) (ae pt (aj _ BH (aa ?_)))));exact ⟨rfl,rfl⟩
  ·rw [if_neg hl];refine cj (ae O (aj _ (Ah s (b::r) hs h o d idB 2 3 KX) (af pt (aa (aa ?_)))));rw [ho hn34]; rfl
 rw [if_neg h2];have c2:¬ ((kW b:Nat):Int)=2:=λ q=>h2 (f2.1 O);by_cases h3:d3 b=true
 ·have hn34:¬ b.toNat=34:=λ q=>by have:=(jl b).1 h3; omega
  rw [if_pos h3];have hc:=f3.2 h3;refine cj (af c2 (ae O (aj _ (Ah s (b::r) hs h o d d3 3 3 Mx) (aa (aa ?_)))));rw [ho hn34]; rfl
 rw [if_neg h3];have c3:¬ ((kW b:Nat):Int)=3:=λ q=>h3 (f3.1 O);by_cases h10:b.toNat=10
 ·rw [if_pos h10];have hc:=f5.2 h10;refine cj (af c2 (af c3 (ae O (ag tR (aa (aa ?_))))));rw [ho O];show (ac.mk 5 [10] (pz s (b::r)),true,ab.mk s (pz s (b::r)+1) o d)=_;exact A8
 rw [if_neg h10];have c6:¬ ((kW b:Nat):Int)=6:=λ q=>h10 (f5.1 O);by_cases h34:b.toNat=34
 ·rw [if_pos h34];have hc:=f4.2 h34;refine cj (af c2 (af c3 (af c6 (ae O (ah _ (hsrc h34) λ x hx=>?_)))))
  cases hq:src r with
  | inl e =>
   rw [hq] at hx;exact BV
  | inr l' =>
   rw [hq] at hx;obtain ⟨g1,g2⟩:=hsuf l' hq;have hx:x=(true,scx s l' o' d):=hx;subst hx;have e1:(scx s (b::r) o d).fat+1=pz s r:=(j1 (b:=b)).symm;have hl':l' <:+ s:=g1.trans (ek h);have e2:(scx s l' o' d).fat - 1=(s.length:Int) - ((l'.length+1:Nat):Int):=by show pz s l' - 1=_; unfold pz; omega
   have hrl:=(ek h).length_le;have hd:r.drop (r.length - (l'.length+1)) <:+ r:=List.drop_suffix _ _;have hdl:(r.drop (r.length - (l'.length+1))).length=l'.length+1:=by rw [ld]; omega
   have e3:(scx s l' o' d).fat - 1=pz s (r.drop (r.length - (l'.length+1))):=by rw [e2]; unfold pz; rw [hdl]
   refine af G (ag tR (ag (bv (by rw [e2]; omega) (by rw [e2]; omega)) (ag ?_ (aa (aa ?_)))))
   ·rw [e1,e3];refine ⟨tH (ek h),?_,qa⟩;unfold pz; rw [hdl]; omega
   ·show _=_;rw [e1,e3,show sub (scx s l' o' d).fs (pz s r) (pz s (r.drop (r.length - (l'.length+1))))=_ from pH (ek h) hd,hdl,show r.length - (l'.length+1)=r.length - l'.length - 1 by omega]
    rfl
 rw [if_neg h34];have c5:¬ ((kW b:Nat):Int)=5:=λ q=>h34 (f4.1 O)
 have hsn:iF (b::r)≠[]:=by
  rw [jI,Bool.not_eq_true _ |>.mp h2,Bool.not_eq_true _ |>.mp h3,decide_eq_false h34,decide_eq_false h10] at hb;intro q; rw [q] at hb; cases hb
 rw [if_neg hsn];have Sk:=qY hsn;refine cj (af c2 (af c3 (af c6 (af c5 (ag Ip ?_)))));rw [show sub (scx s (b::r) o d).fs (scx s (b::r) o d).fat ((scx s (b::r) o d).fs.length:Int)=b::r from rb h];refine aj _ (vP (b::r) O) (ag (bv (by show _<=pz s (b::r)+_; omega) (by show pz s (b::r)+_<=_; omega)) (aa (aa ?_)));rw [ho h34];show (ac.mk 4 (iF (b::r)) (pz s (b::r)),true,ab.mk s (pz s (b::r)+((iF (b::r)).length:Int)) o d)=_;rw [<- lH Sk.2]; rfl
def CC (s:Bytes)(o:Int)(d:ao)(q:SE⊕Bytes)(r:ab⊕(Bool×ab)):Prop:=match r with
 | .inl x=>x=scx s [] o d/\q=.inl (40,none)
 | .inr y=>D4 s o o d q y
def M3 (s:Bytes)(o:Int)(d:ao)(q:SE⊕Bytes)(r:ab⊕(Bool×ab)):Prop:=match r with
 | .inl x=>∃ l,q=.inr l/\x=scx s l o d
 | .inr y=>∃ e,q=.inl e/\y.1=false/\y.2.AT=rz s o e
theorem yT {src:Bytes->SE⊕Bytes}{b:UInt8}{r:Bytes}(h:jf (b::r)=false):j2 src (b::r)=.inl (2,some (b::r).length):=by
 rw [jI] at h;simp only [Bool.or_eq_false_iff,decide_eq_false_iff_not,Bool.not_eq_false',List.isEmpty_iff] at h;obtain ⟨⟨⟨⟨h1,h2⟩,h3⟩,h4⟩,h5⟩:=h;rw [kC,if_neg (by simp [h1]),if_neg (by simp [h2]),if_neg h4,if_neg h3,if_pos h5]
theorem sN {s:Bytes}(hs:s.length<=1000000000){o:Int}{d:ao}{k:Nat}{b:UInt8}{r:Bytes}(h:(b::r) <:+ s){q:SE⊕Bytes}(hl:Ev2 (λ n m=>aO (aG n) (k:Int) m (scx s r o d)) (CC s o d q)) :
  Ev2 (λ n _=>dh n (scx s (b::r) o d) (k:Int)) (D4 s o o d q):=by
 have S8:=iQ h;have hle:=h.length_le;refine aP ?_;simp only [dh];refine ag tR ?_
 have e:ab.mk (scx s (b::r) o d).fs ((scx s (b::r) o d).fat+1) (scx s (b::r) o d).IS (scx s (b::r) o d).AT=scx s r o d:=by
  show ab.mk s (pz s (b::r)+1) o d=_;exact A8
 rw [e];refine cj (aQ (aN (f:=λ n m=>aO (aG n) (k:Int) m (scx s r o d)) hl) λ x hx=>?_)
 cases x with
 | inl x =>
  obtain ⟨rfl,rfl⟩:=hx;exact aj _ BH (aa ⟨rfl,rfl⟩)
 | inr y=>exact hx
theorem EM {s:Bytes}(hs:s.length<=1000000000){o:Int}(ho:0<=o){d:ao}{k:Nat}{b:UInt8}{r:Bytes}(h:(b::r) <:+ s){q:SE⊕Bytes}(hl:Ev2 (λ n m=>aO (aG n) (k:Int) m (scx s r o d)) (CC s o d q)) :
  Ev2 (λ n _=>cy n (scx s (b::r) o d) (k:Int)) (D4 s o o d q):=by
 refine aP ?_;simp only [cy];exact af (by show ¬ o < 0; omega) (sN hs h hl)
theorem Aq {s:Bytes}(hs:s.length<=1000000000){d:ao}{k:Nat}{b:UInt8}{r:Bytes}(h:(b::r) <:+ s){q:SE⊕Bytes}(hl:Ev2 (λ n m=>aO (aG n) (k:Int) m (scx s r (pz s (b::r)) d)) (CC s (pz s (b::r)) d q)) :
  Ev2 (λ n _=>cy n (scx s (b::r) (-1) d) (k:Int)) (D4 s (pz s (b::r)) (-1) d q):=by
 refine aP ?_;simp only [cy];refine ae (by show (-1:Int) < 0; omega) (ah _ (sN hs h hl) λ x hx=>aa ?_)
 cases q with
 | inl e=>exact hx
 | inr l =>
  have hx:x=(true,scx s l (pz s (b::r)) d):=hx;subst hx; rfl
theorem uC (s:Bytes)(b:UInt8)(r:Bytes)(o:Int)(d:ao):bE (scx s (b::r) o d)=some (true,scx s (b::r) o d):=qF _ _ _ _
theorem ui (s:Bytes)(o:Int)(d:ao):bE (scx s [] o d)=some (false,scx s [] o d):=qF _ _ _ _
theorem GI (l p:Bytes):strings_HasPrefix l p=some (hasPrefix l p):=rfl
theorem DU {s l:Bytes}{o:Int}{d:ao}{k:Nat}(hk:k<=l.length):ab.mk s (pz s l+(k:Int)) o d=scx s (l.drop k) o d:=by rw [scx,lH hk]
theorem zl {s r:Bytes}{b:UInt8}{o:Int}{d:ao}:ab.mk s (pz s (b::r)+1) o d=scx s r o d:=by rw [scx,show pz s r=pz s (b::r)+1 from j1]
theorem Hx {s:Bytes}(hs:s.length<=1000000000){o:Int}{d:ao}{f k:Nat}
  (ih1:∀ l,l <:+ s->l.length < f->Ev2 (λ n m=>aO (aG n) (k:Int) m (scx s l o d)) (CC s o d (fy f k l)))
  (ih2:∀ l,l <:+ s->l.length < f->k < 32->Ev2 (λ nn m=>aI nn (bb nn) (k:Int) m 1 (scx s l o d)) (M3 s o d (jq f (k+1) 1 l))) :
  ∀ l,l <:+ s->l.length < f+1->Ev2 (λ n m=>aO (aG n) (k:Int) m (scx s l o d)) (CC s o d (fy (f+1) k l)):=by
 intro l h hf;refine aw ?_;simp only [aO]
 cases l with
 | nil =>
  refine aj _ (ax (ui s o d) Z) (af G (aa ⟨Z,?_⟩));rw [fy]
 | cons b r =>
  have S8:=iQ h;have hle:=h.length_le;have hfr:r.length < f:=by simp only [aq] at hf; omega
  refine aj _ (ax (uC s b r o d) Z) (ae Z (ag Ip ?_));rw [nQ];simp only [show sub (scx s (b::r) o d).fs (scx s (b::r) o d).fat ((scx s (b::r) o d).fs.length:Int)=b::r from rb h,show byt (b::r) 0=(b.toNat:Int) from rfl];refine cj (ag oB ?_);by_cases h34:b.toNat=34
  ·rw [if_pos h34];refine ae O (ag tR (aa ?_));show (true,ab.mk s (pz s (b::r)+1) o d)=_;rw [zl]
  rw [if_neg h34];refine af O (aj _ (ax (GI _ _) rfl) ?_);by_cases h3:hasPrefix (b::r) [36,36,123]=true
  ·rw [if_pos h3];have hp:=hasPrefix_le h3;simp only [aq,n8] at hp;refine ae h3 (ag (bv (by show _<=pz s (b::r)+3; omega) (by show pz s (b::r)+3<=_; omega)) (aa ?_));have:=ih1 ((b::r).drop 3) (ta 3 h) uh;rw [<- DU (k:=3) oB] at this;exact this
  rw [if_neg h3];refine af h3 (aj _ (ax (GI _ _) rfl) ?_);by_cases h2:hasPrefix (b::r) [36,123]=true
  ·rw [if_pos h2];have hp:=hasPrefix_le h2;simp only [aq,n8] at hp;refine ae h2 (ah (D4 s o o d (if 32<=k then .inl (4,some (b::r).length) else jq f (k+1) 1 ((b::r).drop 2))) ?_ λ x hx=>?_)
   ·refine aP ?_;simp only [aG];by_cases hk:32<=k
    ·rw [if_pos hk];exact ae O Ku
    ·rw [if_neg hk];refine af O (ag (bv (by show _<=pz s (b::r)+2; omega) (by show pz s (b::r)+2<=_; omega)) ?_);have:=ih2 ((b::r).drop 2) (ta 2 h) uh O;rw [<- DU (k:=2) oB] at this;refine cj (aQ (aN (f:=λ nn m=>aI nn (bb nn) (k:Int) m 1 (ab.mk s (pz s (b::r)+2) o d)) this) λ y hy=>?_)
     cases y with
     | inl y =>
      obtain ⟨l',e1,rfl⟩:=hy;rw [e1];exact aa rfl
     | inr y =>
      obtain ⟨e,e1,e2,e3⟩:=hy;rw [e1];exact ⟨e2,e3⟩
   ·by_cases hk:32<=k
    ·rw [if_pos hk] at hx ⊢;exact BV
    ·rw [if_neg hk] at hx ⊢
     cases hq:jq f (k+1) 1 ((b::r).drop 2) with
     | inl e =>
      rw [hq] at hx;exact BV
     | inr l' =>
      rw [hq] at hx;have hx:x=(true,scx s l' o d):=hx;subst hx;obtain ⟨g1,g2⟩:=(gO f (k+1)).2 _ _ _ hq;refine af G (aa (ih1 l' (g1.trans (ta 2 h)) ?_));rw [ld] at g2; simp only [aq] at g2; omega
  rw [if_neg h2];refine af h2 (aj (scx s (if b.toNat=92 then r else b::r) o d) (ag oB ?_) ?_)
  ·by_cases h92:b.toNat=92
   ·rw [if_pos h92];refine ae O (ag tR (aa ?_));show ab.mk s (pz s (b::r)+1) o d=_;rw [zl]
   ·rw [if_neg h92];exact uN
  ·have hsf:(if b.toNat=92 then r else b::r) <:+ s:=by split; exact ek h; exact h
   have hln:(if b.toNat=92 then r else b::r).length<=r.length+1:=by split <;> simp
   generalize (if b.toNat=92 then r else b::r)=l1 at hsf hln ⊢
   cases l1 with
   | nil =>
    refine aj _ (ax (ui s o d) rfl) (ae rfl (aa ?_));have:=ih1 [] List.nil_suffix (by simp only [n8]; omega);obtain ⟨f,rfl⟩:∃ g,f=g+1:=⟨f - 1,by omega⟩
    rw [fy] at this;exact this
   | cons c t =>
    refine aj _ (ax (uC s c t o d) Z) (af G (aj _ (MI s hs hsf o d) ?_));have hdf:=iB (c::t) G;by_cases hb:jz (decodeL (c::t))
    ·simp only [if_pos hb];exact ae rfl Ku
    ·simp only [if_neg hb];refine af G (aa (ih1 _ (ta _ hsf) ?_));rw [ld]; simp only [aq] at hln ⊢; omega
theorem JB {s:Bytes}(hs:s.length<=1000000000){o:Int}(ho:0<=o){d:ao}{f k:Nat}(hk:k < 32)
  (ih1:∀ l,l <:+ s->l.length < f->Ev2 (λ n m=>aO (aG n) ((k+1:Nat):Int) m (scx s l o d)) (CC s o d (fy f (k+1) l)))
  (ih2:∀ l n,1<=n->n+l.length<=s.length+1->l <:+ s->l.length < f->Ev2 (λ nn m=>aI nn (bb nn) (k:Int) m (n:Int) (scx s l o d)) (M3 s o d (jq f (k+1) n l))) :
  ∀ l n,1<=n->n+l.length<=s.length+1->l <:+ s->l.length < f+1->Ev2 (λ nn m=>aI nn (bb nn) (k:Int) m (n:Int) (scx s l o d)) (M3 s o d (jq (f+1) (k+1) n l)):=by
 intro l n hn hnl h hf;refine aw ?_;simp only [aI];rw [nJ];have hsk:=oa false l;have hd:decide (o < 0)=false:=decide_eq_false O;have hskip:=C7 s l hs h o d;rw [hd] at hskip;refine ae O (cj (aj _ hskip ?_));have Sk:=hsk.length_le;have hss:=hsk.trans h;generalize fC false l=l1 at hsk Sk hss ⊢
 cases l1 with
 | nil=>exact aj _ (ax (ui s o d) Z) (ae Z (aj _ (ax (w3 _ _ _ _ _ _) Z) (aa ⟨_,Z,Z,Z⟩)))
 | cons b r =>
  refine aj _ (ax (uC s b r o d) Z) (af G (aj _ (vX s hs hss o d) ?_));rw [nS]
  cases hb:jf (b::r)
  ·rw [yT hb,qK];exact ae rfl (aj _ BH (aa ⟨_,rfl,rfl,rfl⟩))
  ·have hbl:=hss.length_le;simp only [aq] at Sk hbl;have htok:=Jp (k:=k+1) (src:=fy f (k+1)) (o':=o) (oE:=o) hs hss (λ l' hl'=>(gO f (k+1)).1 _ _ hl') Y (λ _=>EM hs ho hss (ih1 r (ek hss) O)) hb (d:=d);refine af G (ag aB (ah (P9 s (b::r) o o d (j2 (fy f (k+1)) (b::r))) htok λ x hx=>?_))
   cases hq:j2 (fy f (k+1)) (b::r) with
   | inl e =>
    rw [hq] at hx;rw [qK];exact ae (by rw [hx.1]; rfl) (aa ⟨e,rfl,rfl,hx.2⟩)
   | inr z =>
    obtain ⟨c,t,l'⟩:=z;rw [hq] at hx;have hx:x=(ac.mk c t (pz s (b::r)),true,scx s l' o d):=hx;subst hx;obtain ⟨g1,g2⟩:=kZ (λ r r' _ hr=>(gO f (k+1)).1 _ _ hr) hq;simp only [aq] at g2;have hl's:=g1.trans hss;rw [pf];refine af G (aj (if c=4/\t=[123] then (n:Int)+1 else (n:Int)) (aj (decide (c=4/\t=[123])) (av (λ q=>aa ?_) (λ q=>aa ?_)) (av (λ q=>ag aB (aa ?_)) (λ q=>aa ?_))) (aj (decide (c=4/\t=[125])) (av (λ q=>aa ?_) (λ q=>aa ?_)) ?_))
    ·exact wW
    ·symm; rw [decide_eq_false_iff_not]; exact λ w=>q w.1
    ·rw [decide_eq_true_eq] at q; rw [if_pos q]
    ·rw [decide_eq_true_eq] at q; rw [if_neg q]
    ·exact wW
    ·symm; rw [decide_eq_false_iff_not]; exact λ w=>q w.1
    by_cases h125:c=4/\t=[125]
    ·have hn123:¬ (c=4/\t=[123]):=λ w=>by rw [h125.2] at w; exact absurd w.2 (by decide)
     rw [if_neg hn123];simp only [if_pos h125];refine ae (by simpa using h125) (ag aB (aa ?_));by_cases h1:n=1
     ·subst h1;rw [if_pos rfl];refine aw ?_;simp only [aI];exact af O (aa ⟨l',rfl,rfl⟩)
     ·rw [if_neg h1];have:=ih2 l' (n - 1) O O  hl's O;rw [show ((n - 1:Nat):Int)=(n:Int) - 1 by omega] at this;exact this
    ·simp only [if_neg h125];refine af (by simpa using h125) (aa ?_);by_cases h123:c=4/\t=[123]
     ·rw [if_pos h123];simp only [if_pos h123];exact ih2 l' (n+1) O O  hl's O
     ·rw [if_neg h123];simp only [if_neg h123];exact ih2 l' n hn O hl's O
theorem DI {s:Bytes}(hs:s.length<=1000000000){o:Int}(ho:0<=o){d:ao}:∀ (f:Nat),
  (∀ (k:Nat) l,l <:+ s->l.length < f->Ev2 (λ n m=>aO (aG n) (k:Int) m (scx s l o d)) (CC s o d (fy f k l))) /\
  (∀ (k:Nat) l n,k < 32->1<=n->n+l.length<=s.length+1->l <:+ s->l.length < f->Ev2 (λ nn m=>aI nn (bb nn) (k:Int) m (n:Int) (scx s l o d)) (M3 s o d (jq f (k+1) n l)))
 | 0=>⟨λ k l _ h=>absurd h (Nat.not_lt_zero _),λ k l n _ _ _ _ h=>absurd h (Nat.not_lt_zero _)⟩
 | f+1=>by
  obtain ⟨i1,i2⟩:=DI hs ho (d:=d) f;refine ⟨λ k=>Hx hs (i1 k) (λ l h hf hk=>?_),λ k l n hk=>JB hs ho hk (i1 (k+1)) (λ l n a b c e=>i2 k l n hk a b c e) l n⟩;exact i2 k l 1 hk (bx _) (by have:=h.length_le; omega) h hf
theorem Mz {s:Bytes}(hs:s.length<=1000000000){d:ao}{f:Nat}{b:UInt8}{r:Bytes}(h:(b::r) <:+ s)(hf:r.length < f)(hb:jf (b::r)=true) :
  Ev2 (λ n _=>bb n (scx s (b::r) (-1) d) 0) (P9 s (b::r) (pz s (b::r)) (-1) d (j2 (fy f 0) (b::r))) :=
 Jp (k:=0) hs h (λ _l' hl'=>(gO f 0).1 _ _ hl') Y (λ _=>Aq hs h ((DI hs (tH h) f).1 0 r (ek h) hf)) hb
def LM (n:Nat)(e:SE):SE:=(e.1,some (e.2.getD n))
abbrev Tk:=Int×Bytes×Nat
def IZ (q:Bytes->SE⊕List Tk)(n:Nat):SE⊕(Int×Bytes×Bytes)->SE⊕List Tk
 | .inl e=>.inl (LM n e)
 | .inr (k,t,l')=>(match q l' with
  | .inl e=>.inl e
  | .inr ts=>.inr ((k,t,n)::ts))
def Dl (q:Bytes->SE⊕List Tk)(src:Bytes->SE⊕Bytes)(c:Nat):Bytes->SE⊕List Tk
 | []=>if c=16384 then .inl (14,some 0) else .inr [(6,[],0)]
 | b::r=>if jf (b::r)=false then .inl (2,some (b::r).length) else if c=16384 then .inl (14,some (b::r).length)
   else IZ q (b::r).length (j2 src (b::r))
def kf:Nat->Nat->Bytes->SE⊕List Tk
 | 0,_,_=>.inl (40,none)
 | f+1,c,l=>Dl (kf f (c+1)) (fy f 0) c (fC true l)
theorem mg (f c:Nat)(l:Bytes):kf (f+1) c l=Dl (kf f (c+1)) (fy f 0) c (fC true l):=rfl
theorem nP (q:Bytes->SE⊕List Tk)(src:Bytes->SE⊕Bytes)(c:Nat):Dl q src c []=if c=16384 then .inl (14,some 0) else .inr [(6,[],0)]:=rfl
theorem mw (q:Bytes->SE⊕List Tk)(src:Bytes->SE⊕Bytes)(c:Nat)(b:UInt8)(r:Bytes):Dl q src c (b::r)=if jf (b::r)=false then .inl (2,some (b::r).length) else if c=16384 then .inl (14,some (b::r).length)
   else IZ q (b::r).length (j2 src (b::r)):=rfl
theorem nU (q:Bytes->SE⊕List Tk)(n:Nat)(k:Int)(t l':Bytes):IZ q n (.inr (k,t,l'))=match q l' with
  | .inl e=>.inl e
  | .inr ts=>.inr ((k,t,n)::ts):=rfl
def tkS (s:Bytes)(z:Tk):ac:=ac.mk z.1 z.2.1 ((s.length:Int) - (z.2.2:Int))
def Ii (s:Bytes)(out:List ac)(q:SE⊕List Tk):List ac×ao:=match q with
 | .inl e=>([],rz s 0 e)
 | .inr ts=>(out++ts.map (tkS s),ao.mk 0 0 [])
theorem ym (s l:Bytes)(o:Int)(e:SE):rz s (pz s l) e=rz s o (LM l.length e):=by
 obtain ⟨k,n⟩:=e
 cases n <;> rfl
theorem CI {s:Bytes}(hs:s.length<=1000000000){d:ao}:∀ (f:Nat) (l:Bytes) (out:List ac),out.length<=16384->l <:+ s->l.length < f->Ev2 (λ n m=>fQ n m out (scx s l (-1) d)) (·=.inr (Ii s out (kf f out.length l)))
 | 0,l,out,_,_,h=>absurd h (Nat.not_lt_zero _)
 | f+1,l,out,hout,h,hf=>by
  refine aw ?_;simp only [fQ];rw [mg];have hsk:=oa true l;have hskip:=C7 s l hs h (-1) d;rw [show decide ((-1:Int) < 0)=true from rfl] at hskip;refine aj _ hskip ?_;have Sk:=hsk.length_le;have hss:=hsk.trans h;generalize fC true l=l1 at hsk Sk hss ⊢
  cases l1 with
  | nil =>
   refine aj (false,scx s [] (-1) d) (aj _ (ax (ui s (-1) d) Z) oz) (af G ?_);rw [nP];by_cases hc:out.length=16384
   ·rw [if_pos hc];refine ae O (aa ?_)
    rfl
   ·rw [if_neg hc];refine af O (aj _ (ax (ui s (-1) d) rfl) (ae rfl (ag nc (aa ?_))))
    rfl
  | cons b r =>
   refine aj (!jf (b::r),scx s (b::r) (-1) d) (aj _ (ax (uC s b r (-1) d) Z) (ae Z (aj _ (vX s hs hss (-1) d) (aa Z)))) ?_;rw [mw]
   cases hb:jf (b::r)
   ·exact si
   ·refine af G ?_;rw [if_neg G];by_cases hc:out.length=16384
    ·rw [if_pos hc];exact rN
    ·rw [if_neg hc];simp only [aq] at Sk;refine af O (aj _ (ax (uC s b r (-1) d) rfl) (af G (ah _ (Mz hs hss (f:=f) O hb) λ x hx=>?_)))
     cases hq:j2 (fy f 0) (b::r) with
     | inl e =>
      rw [hq] at hx;refine ae (by rw [hx.1]; rfl) (aa ?_);rw [hx.2,ym s (b::r) 0]
      rfl
     | inr z =>
      obtain ⟨c,t,l'⟩:=z;rw [hq] at hx;have hx:x=(ac.mk c t (pz s (b::r)),true,scx s l' (-1) d):=hx;subst hx;obtain ⟨g1,g2⟩:=kZ (λ r r' _ hr=>(gO f 0).1 _ _ hr) hq;simp only [aq] at g2;have ih:=CI hs (d:=d) f l' (out++[ac.mk c t (pz s (b::r))]) kw (g1.trans hss) O;simp only [ph,aq,n8,Nat.zero_add] at ih;rw [nU];refine af G (ag nc (NF ih ?_));exact Hz
def eG (s:Bytes):List ac×ao:=if 65536 < s.length then ([],ao.mk 3 0 []) else Ii s [] (kf (s.length+1) 0 s)
theorem M7 (s:Bytes):Ev2 (λ n _=>mt n s) (·=eG s):=by
 simp only [mt];unfold eG;by_cases h:65536 < s.length
 ·rw [if_pos h];exact rN
 ·rw [if_neg h];refine af O (aj (scx s s (-1) (ao.mk 0 0 [])) (ax ?_ rfl) ?_)
  ·rw [scx,Dv]; rfl
  ·have:=CI (s:=s) O (d:=ao.mk 0 0 []) (s.length+1) s [] G List.suffix_rfl (Nat.lt_succ_self _);exact iC _ (aN (f:=λ n m=>fQ n m [] (scx s s (-1) (ao.mk 0 0 []))) this) Z
end Go.Ab.R06
end
section
namespace Go.Ab.R06
open Go.Ab Go.Ab.RB Go.Lib
section
variable {p:Prop}
theorem Km (h:p:=by
 simp only [List.any_cons,List.any_nil,Bool.or_false];by_cases h1:s=[110,117,108,108]
 ·simp [h1]
 by_cases h2:s=[116,114,117,101]
 ·simp [h2]
 by_cases h3:s=[102,97,108,115,101]
 ·simp [h3]
 by_cases h4:s=[102,111,114]
 ·simp [h4]
 by_cases h5:s=[105,110]
 ·simp [h5]
 by_cases h6:s=[105,102]
 ·simp [h6]
 simp [h1,h2,h3,h4,h5,h6]):p:=h
theorem vl (h:p:=by exact ax (O3 _) Z):p:=h
end
def v0:am:=am.mk 0 0 [] [] []
def e0:ad:=ad.mk 0 0 [] [] v0 [] 0
def Ep (v:am)(at':Int):ad:=ad.mk 1 0 [] [] v [] at'
def x7 (s:Bytes)(at':Int):ad:=Ep (am.mk 3 0 s [] []) at'
def PD:List Bytes:=[[110,117,108,108],[116,114,117,101],[102,97,108,115,101],[102,111,114],[105,110],[105,102]]
def lc (s:Bytes):Bool:=PD.any (λ t=>decide (s=t))
theorem O3 (s:Bytes):fV s=some (lc s):=by
 unfold fV lc PD;exact Km
def vC (v:am):Int:=if v.Ar=1/\v.E'≠0/\v.E'≠1\/v.Ar≠1/\v.Ar≠2/\v.E'≠0\/v.Ar≠3/\v.If≠[]\/v.Df≠[]\/v.C'≠[] then 1
 else if v.Ar=2/\¬ (-iu<=v.E'/\v.E'<=iu) then 5
 else if v.Ar=3/\4096 < v.If.length then 3
 else if v.Ar=3/\validD v.If=false then 1 else 0
def wY (e:ad):Bool:=(iH e).getD false
def qd (e:ad):Int:=if wY e=false then 1 else if e.Ar=1 then vC e.A'
 else if (e.Ar=3\/e.Ar=4\/e.Ar=9\/e.Ar=12\/e.Ar=13)/\(fh e.AI=false\/e.Ar≠4/\lc e.AI=true) then 7
 else if e.Gw≠[]/\(fh e.Gw=false\/lc e.Gw=true) then 7 else 0
mutual
def p6:Nat->Nat->ad->Int×Nat
 | c,lv,.mk k op nm key v kids at'=>if 32 < lv then (4,c) else if 4096<=c then (14,c)
  else if qd (.mk k op nm key v kids at')=0 then nB (c+1) (lv+1) kids else (qd (.mk k op nm key v kids at'),c+1)
def nB:Nat->Nat->List ad->Int×Nat
 | c,_,[]=>(0,c)
 | c,lv,x::r=>if (p6 c lv x).1=0 then nB (p6 c lv x).2 lv r else p6 c lv x
end
theorem CZ (c lv:Nat)(e:ad):p6 c lv e=if 32 < lv then (4,c) else if 4096<=c then (14,c) else if qd e=0 then nB (c+1) (lv+1) e.By else (qd e,c+1):=by
 cases e; rw [p6]; rfl
theorem we (c lv:Nat)(x:ad)(r:List ad):nB c lv (x::r)=if (p6 c lv x).1=0 then nB (p6 c lv x).2 lv r else p6 c lv x:=by rw [nB]
def chk (e:ad):Int:=(p6 0 1 e).1
def nlT (t:ac):Bool:=decide (t.Ar=5)
def nf (b:Bool)(l:List ac):List ac:=if b then l.dropWhile nlT else l
def hd (b:Bool)(l:List ac):ac:=(nf b l).headD (ac.mk 6 [] 0)
def tl (b:Bool)(l:List ac):List ac:=(nf b l).tail
def sgB (b:Bool)(l:List ac)(s:Bytes):Bool:=decide ((hd b l).Ar=4)&&decide ((hd b l).B'=s)
def wdB (b:Bool)(l:List ac)(s:Bytes):Bool:=decide ((hd b l).Ar=1)&&decide ((hd b l).B'=s)
abbrev PE:=Int×Int
abbrev PR (α:Type):=Option (PE⊕(α×List ac))
def pb {α β:Type}(x:PR α)(k:α->List ac->PR β):PR β:=match x with
 | none=>none
 | some (.inl e)=>some (.inl e)
 | some (.inr (a,l))=>k a l
def pok {α:Type}(a:α)(l:List ac):PR α:=some (.inr (a,l))
def per {α:Type}(k a:Int):PR α:=some (.inl (k,a))
def ei (b:Bool)(s:Bytes)(l:List ac):PR Unit:=if sgB b l s then pok () (tl b l) else per 2 (hd b l).fAt
def zt (b:Bool)(s:Bytes)(l:List ac):PR Unit:=if wdB b l s then pok () (tl b l) else per 2 (hd b l).fAt
def wC (b:Bool)(l:List ac):PR Bytes:=if (hd b l).Ar=1/\lc (hd b l).B'=false then pok (hd b l).B' (tl b l) else per 2 (hd b l).fAt
def iv:Nat->List (Bytes×Int)
 | 0=>[([124,124],3)]
 | 1=>[([38,38],4)]
 | 2=>[([61,61],5),([33,61],6)]
 | 3=>[([60],7),([60,61],8),([62],9),([62,61],10)]
 | 4=>[([43],11),([45],12)]
 | _=>[([42],13),([47],14),([37],15)]
def vo (b:Bool)(l:List ac)(SP:Nat):Option (Bytes×Int):=(iv SP).find? (λ p=>sgB b l p.1)
def mvT (base:Int)(t:ac):ac:=ac.mk t.Ar t.B' (t.fAt+base)
mutual
def fZ:Nat->Nat->Bytes->Option (Option Bytes)
 | 0,_,_=>none
 | _+1,_,[]=>some none
 | f+1,d,b::r=>if b.toNat=123 then fZ f (d+1) r
  else if b.toNat=125 then (if d=1 then some (some r) else fZ f (d - 1) r)
  else if b.toNat=34 then (match ix f r with | none=>none | some none=>some none | some (some r')=>fZ f d r')
  else fZ f d r
def ix:Nat->Bytes->Option (Option Bytes)
 | 0,_=>none
 | _+1,[]=>some none
 | f+1,b::r=>if b.toNat=34 then some (some r)
  else if b.toNat=92 then ix f (r.drop 1)
  else if hasPrefix (b::r) [36,36,123]=true then ix f ((b::r).drop 3)
  else if hasPrefix (b::r) [36,123]=true then (match fZ f 1 ((b::r).drop 2) with | none=>none | some none=>some none | some (some r')=>ix f r')
  else ix f r
end
def iG:Bytes->Int⊕(Bytes×Nat)
 | []=>.inl 40
 | b::r=>if b.toNat=92 then (if (cW r).2.2=0 then .inr (encodeRune (cW r).1,(cW r).2.1.toNat+1) else .inl (cW r).2.2)
  else if jz (decodeL (b::r))\/b.toNat=34 then .inl 2 else .inr ((b::r).take (decodeL (b::r)).2,(decodeL (b::r)).2)
def flS (frm pos:Int)(text:Bytes)(parts:List ad):List ad:=if frm < pos then parts++[x7 text frm] else parts
def pY:PE⊕ad->PE⊕ad
 | .inl e=>.inl e
 | .inr e=>if chk e=0 then .inr e else .inl (chk e,e.fAt)
def sf:PE⊕ad->ad×ao
 | .inl e=>(e0,ao.mk e.1 e.2 [])
 | .inr e=>(e,ao.mk 0 0 [])
def qG (at':Int):Int×Int×Bytes×List ad×Bool->ad
 | (frm,pos,text,parts,Tb)=>if Tb then ad.mk 2 0 [] [] v0 (flS frm pos text parts) at' else x7 text at'
mutual
def gg:Nat->Bool->List ac->PR ad
 | 0,_,_=>none
 | f+1,b,l=>pb (nX f 0 b l) λ c l=>if sgB b l [63] then pb (gg f b (tl b l)) λ a l=>pb (ei b [58] l) λ _ l=>pb (gg f b l) λ d l=>pok (ad.mk 8 0 [] [] v0 [c,a,d] c.fAt) l else pok c l
def nX:Nat->Nat->Bool->List ac->PR ad
 | 0,_,_,_=>none
 | f+1,SP,b,l=>if 5 < SP then unS f b l else pb (nX f (SP+1) b l) λ e l=>oW f SP b e l
def oW:Nat->Nat->Bool->ad->List ac->PR ad
 | 0,_,_,_,_=>none
 | f+1,SP,b,e,l=>match vo b l SP with
  | none=>pok e l
  | some p=>pb (nX f (SP+1) b (tl b l)) λ x l=>oW f SP b (ad.mk 7 p.2 [] [] v0 [e,x] e.fAt) l
def unS:Nat->Bool->List ac->PR ad
 | 0,_,_=>none
 | f+1,b,l=>if sgB b l [33] then pb (unS f b (tl b l)) λ e l'=>pok (ad.mk 6 1 [] [] v0 [e] (hd b l).fAt) l'
  else if sgB b l [45] then pb (unS f b (tl b l)) λ e l'=>pok (ad.mk 6 2 [] [] v0 [e] (hd b l).fAt) l'
  else pb (lF f b l) λ e l=>jM f b e l
def jM:Nat->Bool->ad->List ac->PR ad
 | 0,_,_,_=>none
 | f+1,b,e,l=>if sgB b l [46] then (if (hd b (tl b l)).Ar=1 then jM f b (ad.mk 4 0 (hd b (tl b l)).B' [] v0 [e] e.fAt) (tl b (tl b l)) else per 2 (hd b (tl b l)).fAt)
  else if sgB b l [91] then pb (gg f true (tl b l)) λ x l=>pb (ei true [93] l) λ _ l=>jM f b (ad.mk 5 0 [] [] v0 [e,x] e.fAt) l
  else pok e l
def lF:Nat->Bool->List ac->PR ad
 | 0,_,_=>none
 | f+1,b,l=>if (hd b l).Ar=2 then (if (oy (hd b l).B').2=0 then pok (Ep (am.mk 2 (oy (hd b l).B').1 [] [] []) (hd b l).fAt) (tl b l) else per (oy (hd b l).B').2 (hd b l).fAt)
  else if (hd b l).Ar=3 then qz f b l
  else if (hd b l).Ar=1 then mN f b l
  else if sgB b l [40] then pb (gg f true (tl b l)) λ e l=>pb (ei true [41] l) λ _ l=>pok e l
  else if sgB b l [91] then (if wdB true (tl b l) [102,111,114] then lD f (hd b l).fAt 12 (tl true (tl b l)) else pb (ir f [93] (tl b l)) λ ks l'=>pok (ad.mk 10 0 [] [] v0 ks (hd b l).fAt) l')
  else if sgB b l [123] then (if wdB true (tl b l) [102,111,114] then lD f (hd b l).fAt 13 (tl true (tl b l)) else pb (pA f (tl b l)) λ ks l'=>pok (ad.mk 11 0 [] [] v0 ks (hd b l).fAt) l')
  else per 2 (hd b l).fAt
def qz:Nat->Bool->List ac->PR ad
 | 0,_,_=>none
 | f+1,b,l=>match jT f (hd b l).B' ((hd b l).fAt+1) with
  | none=>none
  | some (.inl e)=>some (.inl e)
  | some (.inr e)=>pok (ad.mk e.Ar e.fOp e.AI e.Gw e.A' e.By (hd b l).fAt) (tl b l)
def mN:Nat->Bool->List ac->PR ad
 | 0,_,_=>none
 | f+1,b,l=>if (hd b l).B'=[110,117,108,108] then pok (Ep v0 (hd b l).fAt) (tl b l)
  else if (hd b l).B'=[116,114,117,101] then pok (Ep (am.mk 1 1 [] [] []) (hd b l).fAt) (tl b l)
  else if (hd b l).B'=[102,97,108,115,101] then pok (Ep (am.mk 1 0 [] [] []) (hd b l).fAt) (tl b l)
  else if lc (hd b l).B'=true then per 2 (hd b l).fAt
  else if sgB b (tl b l) [40] then pb (ir f [41] (tl b (tl b l))) λ ks l'=>pok (ad.mk 9 0 (hd b l).B' [] v0 ks (hd b l).fAt) l'
  else pok (ad.mk 3 0 (hd b l).B' [] v0 [] (hd b l).fAt) (tl b l)
def ir:Nat->Bytes->List ac->PR (List ad)
 | 0,_,_=>none
 | f+1,e,l=>if sgB true l e then pok [] (tl true l)
  else pb (gg f true l) λ x l=>if sgB true l [44] then pb (ir f e (tl true l)) λ r l=>pok (x::r) l else pb (ei true e l) λ _ l=>pok [x] l
def pA:Nat->List ac->PR (List ad)
 | 0,_=>none
 | f+1,l=>if sgB true l [125] then pok [] (tl true l)
  else pb (nb f l) λ k l=>pb (ei true [61] l) λ _ l=>pb (gg f true l) λ x l=>if sgB true l [44] then pb (pA f (tl true l)) λ r l=>pok (k::x::r) l else pb (ei true [125] l) λ _ l=>pok [k,x] l
def nb:Nat->List ac->PR ad
 | 0,_=>none
 | f+1,l=>if (hd true l).Ar=1 then pok (x7 (hd true l).B' (hd true l).fAt) (tl true l)
  else if (hd true l).Ar=3 then qz f true l
  else if sgB true l [40] then pb (gg f true (tl true l)) λ e l=>pb (ei true [41] l) λ _ l=>pok e l
  else per 2 (hd true l).fAt
def lD:Nat->Int->Int->List ac->PR ad
 | 0,_,_,_=>none
 | f+1,at',k,l=>pb (wC true l) λ v l =>
  pb (if sgB true l [44] then pb (wC true (tl true l)) λ w l=>pok (w,v) l else pok (v,[]) l) λ nk l =>
  pb (zt true [105,110] l) λ _ l=>pb (gg f true l) λ a l=>pb (ei true [58] l) λ _ l=>pb (gg f true l) λ c l =>
  pb (if k=13 then pb (ei true [61,62] l) λ _ l=>pb (gg f true l) λ d l=>pok [a,c,d] l else pok [a,c] l) λ ks l =>
  pb (if wdB true l [105,102] then pb (gg f true (tl true l)) λ e l=>pok (ks++[e]) l else pok ks l) λ ks l =>
  pb (ei true (if k=13 then [125] else [93]) l) λ _ l=>pok (ad.mk k 0 nk.1 nk.2 v0 ks at') l
def jT:Nat->Bytes->Int->Option (PE⊕ad)
 | 0,_,_=>none
 | f+1,s,at'=>match eF f at' at' [] [] false s with
  | none=>none
  | some (.inl e)=>some (.inl e)
  | some (.inr z)=>some (pY (.inr (qG at' z)))
def eF:Nat->Int->Int->Bytes->List ad->Bool->Bytes->Option (PE⊕(Int×Int×Bytes×List ad×Bool))
 | 0,_,_,_,_,_,_=>none
 | f+1,frm,pos,text,parts,Tb,l=>match l with
  | []=>some (.inr (frm,pos,text,parts,Tb))
  | c::r=>if hasPrefix (c::r) [36,36,123]=true then (if 4096 < text.length+2 then some (.inl (3,frm)) else eF f frm (pos+3) (text++[36,123]) parts Tb ((c::r).drop 3))
   else if hasPrefix (c::r) [36,123]=true then (match fZ f 1 ((c::r).drop 2) with
    | none=>none
    | some none=>some (.inl (40,pos))
    | some (some r')=>match gi f (((c::r).drop 2).take (((c::r).drop 2).length - r'.length - 1)) (pos+2) with
     | none=>none
     | some (.inl e)=>some (.inl e)
     | some (.inr e)=>eF f (pos+((c::r).length - r'.length:Nat)) (pos+((c::r).length - r'.length:Nat)) [] (flS frm pos text parts++[e]) true r')
   else match iG (c::r) with
    | .inl k=>some (.inl (k,pos))
    | .inr (t,n)=>if 4096 < text.length+t.length then some (.inl (3,frm)) else eF f frm (pos+(n:Int)) (text++t) parts Tb ((c::r).drop n)
def gi:Nat->Bytes->Int->Option (PE⊕ad)
 | 0,_,_=>none
 | f+1,s,base=>if (eG s).2.Ar≠0 then some (.inl ((eG s).2.Ar,base+(eG s).2.fAt))
  else match gg f true ((eG s).1.map (mvT base)) with
   | none=>none
   | some (.inl e)=>some (.inl e)
   | some (.inr (e,l))=>if (hd true l).Ar=6 then some (.inr e) else some (.inl (2,(hd true l).fAt))
end
theorem bF {α σ β:Type}{f:Nat->Nat->Option (α×σ)}{g:Nat->Nat->α×σ->Option β}{a:α}{mk:Nat->σ}{P:Nat->Prop}{Q:β->Prop}(h:Ev2 f (λ z=>z.1=a/\∃ j,z.2=mk j/\P j))(k:∀ j,P j->Ev2 (λ n m=>g n m (a,mk j)) Q) :
  Ev2 (λ n m=>(f n m).bind (g n m)) Q:=by
 refine ah _ h ?_;rintro ⟨z1,z2⟩ ⟨h1,j,h2,h3⟩;replace h1:z1=_:=h1; subst h1;replace h2:z2=_:=h2; subst h2;exact k j h3
end Go.Ab.R06
end
section
namespace Go.Ab.R06
open Go.Ab Go.Ab.RB Go.Lib
section
variable {p:Prop}
theorem Hj (h:p:=by
 rintro r ⟨j',h1,h2,h3,h4⟩;refine ⟨j',h1,by omega,h3,?_⟩
 rw [h4,hd',na,if_pos ⟨by simp [h.1],h.2⟩]):p:=h
theorem GG (h:p:=by
 refine bF (gB hL M' h) λ j ⟨h3,h4,h5⟩=>?_;refine aj (false,L,(j:Int),Mp,base,e.1,e.2,[]) ?_ (aa ⟨j,Z,h3⟩);have:(!(!decide ((eD e).Ar=0)))=false:=by show (!(!decide (e.1=0)))=false; simp [he]
 exact af (by show ¬ (!(!decide ((eD e).Ar=0)))=true; simp [this]) (aa Z)):p:=h
theorem FR (h:p:=by
 show al.mk L j (Mp+1 - 1) base (eD e)=_
 rw [Int.add_sub_cancel]):p:=h
theorem Hk (h:p:=by
 rintro ⟨y1,y2⟩ ⟨g1,k,g2,g3,g4,g5⟩
 cases g2
 exact aa ⟨k,Z,g3,g4⟩):p:=h
theorem Iu (h:p:=by
 cases hr:lc (hd b l).B' with
 | true=>rfl
 | false=>exact absurd ⟨h1,hr⟩ hs):p:=h
theorem Ji (h:p:=by
 rw [<- e] at Ta;rcases Nat.lt_or_ge (j+1) L.length with q | q
 ·exact q
 ·rw [List.drop_eq_nil_of_le q] at Ta; exact absurd rfl Ta):p:=h
theorem IV (h:p:=by
 rintro _ ⟨j,rfl,h3⟩;refine ae rfl (ah _ (gB hL M' h3) ?_);rintro ⟨y1,y2⟩ ⟨g1,k,g2,g3,g4,g5⟩;replace g1:y1=_:=g1; subst g1; cases g2
 exact aj _ (ax (xa he _ _ _ _) Z) (aa ⟨k,l,Z,g3⟩)):p:=h
theorem FQ (h:p:=by
 rw [if_neg hs] at hq; cases hq;refine ae (by simpa using hs) (ah _ (gB hL M' h3) ?_);rintro ⟨y1,y2⟩ ⟨g1,k,g2,g3,g4,g5⟩;replace g1:y1=_:=g1; subst g1; cases g2
 refine aj _ (ax (tF _ _ _ _) Z) (aa ⟨(by decide:(2:Int)≠0),k,l,Z,g3⟩)):p:=h
theorem GW (h:p:=by
 refine af (by simpa using h) (aa ⟨i,Z,bx _,by omega,?_⟩)
 rw [hd',na,if_neg (by simpa using h)]):p:=h
theorem Hn (h:p:=by
 have:=wt h2.2;rcases Nat.eq_zero_or_pos k with hk | hk
 ·subst hk; rw [List.drop_eq_nil_of_le O] at this; exact absurd rfl this
 ·exact hk):p:=h
theorem tX (h:p:=by exact aj _ (ax (tF _ _ _ _) Z) (aa ⟨(by decide:(2:Int)≠0),j,l,Z,h3⟩)):p:=h
theorem wN (h:p:=by exact ax (tF _ _ _ _) Z):p:=h
theorem mu (h:p:=by exact bv (by show _<=Mp+1 - 1; omega) (by show Mp+1 - 1<=_; omega)):p:=h
theorem qC (h:p:=by exact bv (by show _<=Mp+1; omega) (by show Mp+1<=_; omega)):p:=h
theorem fO (h:p:=by exact bv (by show _<=(j:Int)+1; omega) (by show (j:Int)+1<=_; omega)):p:=h
theorem ov (h:p:=by exact aa ⟨Z,j,Z,h3⟩):p:=h
end
theorem kl {P:Int->Prop}{i:Nat}(h:P ((i+1:Nat):Int)):P ((i:Int)+1):=by rwa [Int.natCast_add,Int.natCast_one] at h
def TkB (t:ac):Prop:=0<=t.fAt/\t.fAt+(t.B'.length:Int)<=1000000000/\(t.Ar=3->t.fAt+1+(t.B'.length:Int)<=1000000000)/\(t.Ar=2->t.B'.all d3=true)
def Gd:List ac->Prop
 | []=>False
 | t::r=>TkB t/\((t.Ar=6/\r=[])\/(t.Ar≠6/\Gd r))
theorem LX {t:ac}:nlT t=true↔t.Ar=5:=by simp [nlT]
theorem xV (b:Bool):nf b []=[]:=by cases b <;> rfl
theorem na (b:Bool)(t:ac)(r:List ac):nf b (t::r)=if b=true/\t.Ar=5 then nf b r else t::r:=by
 cases b with
 | false=>simp [nf]
 | true=>simp only [nf,if_true,true_and]; rw [List.dropWhile_cons]; simp only [LX]
theorem Jb (b:Bool):∀ (l:List ac),nf b (nf b l)=nf b l
 | []=>by rw [xV,xV]
 | t::r=>by
  rw [na];split
  ·exact Jb b r
  ·rename_i h; rw [na,if_neg h]
theorem rn {b:Bool}:∀ {l:List ac},Gd l->Gd (nf b l)
 | [],h=>h.elim
 | t::r,h=>by
  rw [na];split
  ·rename_i h1;rcases h.2 with h2 | h2
   ·omega
   ·exact rn h2.2
  ·exact h
theorem Ch (b:Bool):∀ (l:List ac),(nf b l).length<=l.length
 | []=>by rw [xV]; exact bx _
 | t::r=>by
  rw [na];split
  ·exact Nat.le_succ_of_le (Ch b r)
  ·exact bx _
theorem xL (b:Bool)(base:Int):∀ (l:List ac),nf b (l.map (mvT base))=(nf b l).map (mvT base)
 | []=>by rw [th,xV,th]
 | t::r=>by
  rw [la,na,na,xL b base r];show (if b=true/\t.Ar=5 then _ else _)=_;split <;> rfl
theorem wt {l:List ac}(h:Gd l):l≠[]:=by intro e; subst e; exact h
theorem qg {b:Bool}{l:List ac}(h:Gd (nf b l)):nf b l=hd b l::tl b l:=by
 unfold hd tl
 cases hn:nf b l with
 | nil=>rw [hn] at h; exact h.elim
 | cons t r=>rfl
theorem sO {b:Bool}{l:List ac}(h:Gd (nf b l)):TkB (hd b l):=by
 have:=h; rw [qg h] at this; exact this.1
theorem Dz {b:Bool}{l:List ac}(h:Gd (nf b l))(h6:(hd b l).Ar≠6):Gd (tl b l):=by
 have:=h; rw [qg h] at this;rcases this.2 with h2 | h2
 ·exact absurd h2.1 h6
 ·exact h2.2
theorem OS {b:Bool}{l:List ac}(h:Gd (nf b l)):(tl b l).length < l.length:=by
 have h1:=congrArg List.length (qg h);have:=Ch b l;rw [aq] at h1; omega
theorem lN {b:Bool}{l:List ac}{s:Bytes}:sgB b l s=true↔(hd b l).Ar=4/\(hd b l).B'=s:=by simp [sgB]
theorem xY {b:Bool}{l:List ac}{s:Bytes}:wdB b l s=true↔(hd b l).Ar=1/\(hd b l).B'=s:=by simp [wdB]
theorem xw {base:Int}:∀ {L:List ac} {i:Nat},Gd (L.map (mvT base))->i < L.length->Gd ((L.drop i).map (mvT base))
 | [],_,h,_=>h.elim
 | t::r,0,h,_=>h
 | t::r,i+1,h,hi=>by
  rcases h.2 with h2 | h2
  ·have:r=[]:=List.map_eq_nil_iff.1 h2.2;subst this; simp at hi
  ·exact xw (L:=r) (i:=i) h2.2 (by simpa using hi)
theorem mc {L:List ac}{i:Nat}(h:i < L.length):L.drop i=lat L (i:Int)::L.drop (i+1):=by
 rw [m9 L i h]; exact List.drop_eq_getElem_cons h
section
variable {L:List ac} {base:Int}
def Pos (L:List ac)(base:Int)(i:Nat)(Mp:Int)(b:Bool)(l:List ac):Prop :=
 i < L.length/\0<=Mp/\Mp+((L.length - i:Nat):Int)<=1000000000/\b=decide (0 < Mp)/\nf b ((L.drop i).map (mvT base))=nf b l
theorem Pos.gd {i:Nat}{Mp:Int}{b:Bool}{l:List ac}(hL:Gd (L.map (mvT base)))(h:Pos L base i Mp b l):Gd (nf b l):=by
 rw [<- h.2.2.2.2]; exact rn (xw hL h.1)
theorem MS (hL:Gd (L.map (mvT base)))(M':L.length<=1000000000){Mp:Int}{d:ao}{a:Int}:∀ (k i:Nat),i+k=L.length->0 < k ->
  Ev2 (λ _ m=>cK (.mk L a Mp base d) m (i:Int)) (λ j=>∃ j':Nat,j=(j':Int)/\i<=j'/\j' < L.length/\L.drop j'=nf (decide (0 < Mp)) (L.drop i)):=by
 intro k
 induction k with
 | zero=>intro i _ h; omega
 | succ k ih =>
  intro i hi _;have hd':=mc (L:=L) (i:=i) O;refine aw ?_;simp only [cK];refine aj (decide (0 < Mp/\(lat L (i:Int)).Ar=5)) ?_ ?_
  ·refine av (λ h=>ag ⟨by omega,by show (i:Int) < (L.length:Int); omega⟩ (aa ?_)) (λ h=>aa ?_)
   ·have h:0 < Mp:=h;simp only [h,true_and]
   ·have h:¬ 0 < Mp:=h;simp [h]
  ·by_cases h:0 < Mp/\(lat L (i:Int)).Ar=5
   ·refine ae ol (ag aB ?_)
    have hk:0 < k:=by
     have hg:=xw hL (i:=i) O;rw [hd',la] at hg;rcases hg.2 with h2 | h2
     ·have h2:(lat L (i:Int)).Ar=6:=h2.1;omega
     ·exact Hn
    refine aQ (kl (P:=λ j=>Ev2 (λ _ m=>cK (.mk L a Mp base d) m j) _) (ih (i+1) O hk)) ?_;exact Hj
   ·exact GW
theorem Pos.ext {i j:Nat}{Mp:Int}{b:Bool}{l:List ac}(h:Pos L base i Mp b l)(h1:i<=j)(h2:j < L.length)(h3:L.drop j=nf b (L.drop i)):Pos L base j Mp b l:=by
 obtain ⟨q1,q2,q3,q4,q5⟩:=h;refine ⟨h2,q2,by omega,q4,?_⟩;rw [xL,h3,Jb,<- xL,q5]
theorem Pos.any {i:Nat}{Mp:Int}{b:Bool}{l:List ac}(h:Pos L base i Mp b l):Pos L base i Mp b ((L.drop i).map (mvT base)):=⟨h.1,h.2.1,h.2.2.1,h.2.2.2.1,Z⟩
theorem gB (hL:Gd (L.map (mvT base)))(M':L.length<=1000000000){i:Nat}{Mp:Int}{b:Bool}{l:List ac}{d:ao}(h:Pos L base i Mp b l) :
  Ev2 (λ n _=>bp n (.mk L (i:Int) Mp base d)) (λ z=>z.1=hd b l/\∃ j:Nat,z.2=.mk L (j:Int) Mp base d/\Pos L base j Mp b l/\(L.drop j).map (mvT base)=nf b l/\i<=j):=by
 simp only [bp];have hi:=h.1;refine ah _ (aN (MS hL M' (d:=d) (a:=(i:Int)) (L.length - i) i O O)) ?_;rintro x ⟨j,rfl,h1,h2,h3⟩;rw [<- h.2.2.2.1] at h3;have hg:Gd (nf b l):=h.gd hL;have hdr:(L.drop j).map (mvT base)=nf b l:=by rw [h3,<- xL,h.2.2.2.2]
 have hhd:mvT base (lat L (j:Int))=hd b l:=by
  have:=hdr;rw [mc h2,la,qg hg] at this;exact (qr this).1
 have hb:=sO hg;rw [<- hhd] at hb;obtain ⟨b1,b2,-,-⟩:=hb;have b1:0<=(lat L (j:Int)).fAt+base:=b1;have b2:(lat L (j:Int)).fAt+base+((lat L (j:Int)).B'.length:Int)<=1000000000:=b2;refine ag ⟨by omega,by show (j:Int) < (L.length:Int); omega⟩ (ag (bv (by show _<=(lat L (j:Int)).fAt+base; omega) (by show (lat L (j:Int)).fAt+base<=_; omega)) (aa ⟨hhd,j,rfl,h.ext h1 h2 h3,hdr,h1⟩))
theorem Pos.next {j:Nat}{Mp:Int}{b:Bool}{l:List ac}(hL:Gd (L.map (mvT base)))(h:Pos L base j Mp b l)(hdr:(L.drop j).map (mvT base)=nf b l)(h6:(hd b l).Ar≠6) :
  Pos L base (j+1) Mp b (tl b l)/\(L.drop (j+1)).map (mvT base)=tl b l:=by
 have hg:Gd (nf b l):=h.gd hL
 have e:(L.drop (j+1)).map (mvT base)=tl b l:=by
  have:=hdr;rw [mc h.1,la,qg hg] at this;exact (qr this).2
 have Ta:=wt (Dz hg h6)
 have:j+1 < L.length:=by
  exact Ji
 obtain ⟨q1,q2,q3,q4,q5⟩:=h;exact ⟨⟨this,q2,by omega,q4,by rw [e]⟩,e⟩
theorem LL (hL:Gd (L.map (mvT base)))(M':L.length<=1000000000){i:Nat}{Mp:Int}{b:Bool}{l:List ac}{d:ao}(h:Pos L base i Mp b l) :
  Ev2 (λ n _=>aJ n (.mk L (i:Int) Mp base d)) (λ z=>z.1=hd b l/\∃ j:Nat,z.2=.mk L (j:Int) Mp base d/\if (hd b l).Ar=6 then Pos L base j Mp b l else Pos L base j Mp b (tl b l)/\(L.drop j).map (mvT base)=tl b l/\i < j):=by
 simp only [aJ];refine bF (gB hL M' h) λ j ⟨h3,h4,h5⟩=>?_;have hj:=h3.1;by_cases h6:(hd b l).Ar=6
 ·refine aj (j:Int) (ae h6 (aa Z)) (aa ⟨Z,j,Z,?_⟩);rw [if_pos h6]; exact h3
 ·refine aj ((j:Int)+1) (af h6 (ag fO (aa Z))) (aa ⟨Z,j+1,Z,?_⟩);rw [if_neg h6]; exact ⟨(h3.next hL h4 h6).1,(h3.next hL h4 h6).2,by omega⟩
theorem ez (hL:Gd (L.map (mvT base)))(M':L.length<=1000000000){i:Nat}{Mp:Int}{b:Bool}{l:List ac}{d:ao}(h:Pos L base i Mp b l)(h6:(hd b l).Ar≠6) :
  Ev2 (λ n _=>aJ n (.mk L (i:Int) Mp base d)) (λ z=>z.1=hd b l/\∃ j:Nat,z.2=.mk L (j:Int) Mp base d/\Pos L base j Mp b (tl b l)/\(L.drop j).map (mvT base)=tl b l/\i < j) :=
 aQ (LL hL M' h) λ z ⟨h1,j,h2,h3⟩=>⟨h1,j,h2,by rw [if_neg h6] at h3; exact h3⟩
theorem LZ (p:al)(k a:Int):bo p k a=some (e0,if p.AT.Ar=0 then .mk p.fl p.fat p.H' p.G' (.mk k a []) else .mk p.fl p.fat p.H' p.G' (.mk p.AT.Ar p.AT.fAt p.AT.AI)):=by
 simp only [bo,aR,cl];by_cases h:p.AT.Ar=0
 ·simp only [h]; rfl
 ·simp only [h]; rfl
def dOk:ao:=ao.mk 0 0 []
def eD (e:PE):ao:=ao.mk e.1 e.2 []
def Out {α:Type}(L:List ac)(base:Int)(Mp:Int)(b:Bool)(q:PE⊕(α×List ac))(z:α×al):Prop:=match q with
 | .inl e=>e.1≠0/\∃ (j:Nat) (l':List ac),z.2=.mk L (j:Int) Mp base (eD e)/\Pos L base j Mp b l'
 | .inr (x,l)=>z.1=x/\∃ j:Nat,z.2=.mk L (j:Int) Mp base dOk/\Pos L base j Mp b l
def FB (L:List ac)(base:Int)(Mp:Int)(b:Bool)(q:PE⊕(Unit×List ac))(z:al):Prop:=match q with
 | .inl e=>e.1≠0/\∃ (j:Nat) (l':List ac),z=.mk L (j:Int) Mp base (eD e)/\Pos L base j Mp b l'
 | .inr (_,l)=>∃ j:Nat,z=.mk L (j:Int) Mp base dOk/\Pos L base j Mp b l/\(L.drop j).map (mvT base)=l
theorem xH (hL:Gd (L.map (mvT base)))(M':L.length<=1000000000){i:Nat}{Mp:Int}{b:Bool}{l:List ac}(s:Bytes)(h:Pos L base i Mp b l) :
  Ev2 (λ n _=>aY n (.mk L (i:Int) Mp base dOk) s) (λ z=>z.1=sgB b l s/\∃ j:Nat,z.2=.mk L (j:Int) Mp base dOk/\Pos L base j Mp b l):=by
 simp only [aY,aR,cl];refine bF (gB hL M' h) λ j ⟨h3,h4,h5⟩=>?_;refine aj (sgB b l s,L,(j:Int),Mp,base,0,0,[]) ?_ ov;refine ae rfl (av (λ h=>aa ?_) (λ h=>aa ?_))
 ·have h:(hd b l).Ar=4:=h;simp only [sgB,h,decide_true,Bool.true_and] <;> rfl
 ·have h:¬ (hd b l).Ar=4:=h;simp only [sgB,h,decide_false,Bool.false_and] <;> rfl
theorem rv (hL:Gd (L.map (mvT base)))(M':L.length<=1000000000){i:Nat}{Mp:Int}{b:Bool}{l:List ac}{e:PE}(s:Bytes)(he:e.1≠0)(h:Pos L base i Mp b l) :
  Ev2 (λ n _=>aY n (.mk L (i:Int) Mp base (eD e)) s) (λ z=>∃ j:Nat,z=(false,.mk L (j:Int) Mp base (eD e))/\Pos L base j Mp b l):=by
 simp only [aY,aR,cl];exact GG
theorem rp (hL:Gd (L.map (mvT base)))(M':L.length<=1000000000){i:Nat}{Mp:Int}{b:Bool}{l:List ac}(s:Bytes)(h:Pos L base i Mp b l) :
  Ev2 (λ n _=>cG n (.mk L (i:Int) Mp base dOk) s) (λ z=>z.1=wdB b l s/\∃ j:Nat,z.2=.mk L (j:Int) Mp base dOk/\Pos L base j Mp b l):=by
 simp only [cG,aR,cl];refine bF (gB hL M' h) λ j ⟨h3,h4,h5⟩=>?_;refine aj (wdB b l s,L,(j:Int),Mp,base,0,0,[]) ?_ ov;refine ae rfl (av (λ h=>aa ?_) (λ h=>aa ?_))
 ·have h:(hd b l).Ar=1:=h;simp only [wdB,h,decide_true,Bool.true_and] <;> rfl
 ·have h:¬ (hd b l).Ar=1:=h;simp only [wdB,h,decide_false,Bool.false_and] <;> rfl
theorem xe (hL:Gd (L.map (mvT base)))(M':L.length<=1000000000){i:Nat}{Mp:Int}{b:Bool}{l:List ac}{e:PE}(s:Bytes)(he:e.1≠0)(h:Pos L base i Mp b l) :
  Ev2 (λ n _=>cG n (.mk L (i:Int) Mp base (eD e)) s) (λ z=>∃ j:Nat,z=(false,.mk L (j:Int) Mp base (eD e))/\Pos L base j Mp b l):=by
 simp only [cG,aR,cl];exact GG
theorem tF (i Mp:Int)(k a:Int):bo (.mk L i Mp base dOk) k a=some (e0,.mk L i Mp base (eD (k,a))):=rfl
theorem xa {e:PE}(he:e.1≠0)(i Mp:Int)(k a:Int):bo (.mk L i Mp base (eD e)) k a=some (e0,.mk L i Mp base (eD e)):=by
 rw [LZ,if_neg (show ¬ (eD e).Ar=0 from he)]
theorem oG (hL:Gd (L.map (mvT base)))(M':L.length<=1000000000){i:Nat}{Mp:Int}{b:Bool}{l:List ac}(s:Bytes){q:PE⊕(Unit×List ac)}(h:Pos L base i Mp b l)(hq:ei b s l=some q) :
  Ev2 (λ n _=>ct n (.mk L (i:Int) Mp base dOk) s) (FB L base Mp b q):=by
 simp only [ct];refine bF (xH hL M' s h) λ j h3=>?_;unfold ei at hq;by_cases hs:sgB b l s=true
 ·rw [if_pos hs] at hq; cases hq;refine af (by simp [hs]) (ah _ (ez hL M' h3 (by have:=(lN.1 hs).1; omega)) ?_);exact Hk
 ·exact FQ
theorem AP (hL:Gd (L.map (mvT base)))(M':L.length<=1000000000){i:Nat}{Mp:Int}{b:Bool}{l:List ac}{e:PE}(s:Bytes)(he:e.1≠0)(h:Pos L base i Mp b l) :
  Ev2 (λ n _=>ct n (.mk L (i:Int) Mp base (eD e)) s) (λ z=>∃ (j:Nat) (l':List ac),z=.mk L (j:Int) Mp base (eD e)/\Pos L base j Mp b l'):=by
 simp only [ct];refine ah _ (rv hL M' s he h) ?_;exact IV
theorem AE (hL:Gd (L.map (mvT base)))(M':L.length<=1000000000){i:Nat}{Mp:Int}{b:Bool}{l:List ac}(s:Bytes){q:PE⊕(Unit×List ac)}(h:Pos L base i Mp b l)(hq:zt b s l=some q) :
  Ev2 (λ n _=>du n (.mk L (i:Int) Mp base dOk) s) (FB L base Mp b q):=by
 simp only [du];refine bF (rp hL M' s h) λ j h3=>?_;unfold zt at hq;by_cases hs:wdB b l s=true
 ·rw [if_pos hs] at hq; cases hq;refine af (by simp [hs]) (ah _ (ez hL M' h3 (by have:=(xY.1 hs).1; omega)) ?_);exact Hk
 ·exact FQ
theorem Er (hL:Gd (L.map (mvT base)))(M':L.length<=1000000000){i:Nat}{Mp:Int}{b:Bool}{l:List ac}{e:PE}(s:Bytes)(he:e.1≠0)(h:Pos L base i Mp b l) :
  Ev2 (λ n _=>du n (.mk L (i:Int) Mp base (eD e)) s) (λ z=>∃ (j:Nat) (l':List ac),z=.mk L (j:Int) Mp base (eD e)/\Pos L base j Mp b l'):=by
 simp only [du];refine ah _ (xe hL M' s he h) ?_;exact IV
theorem Pos.out {j:Nat}{Mp:Int}{l l':List ac}(h:Pos L base j (Mp+1) true l)(h0:0<=Mp)(he:(L.drop j).map (mvT base)=l'):Pos L base j Mp (decide (0 < Mp)) l':=by
 obtain ⟨q1,q2,q3,q4,q5⟩:=h;exact ⟨q1,h0,by omega,rfl,by rw [he]⟩
theorem KW (hL:Gd (L.map (mvT base)))(M':L.length<=1000000000){i:Nat}{Mp:Int}{l:List ac}(s:Bytes){q:PE⊕(Unit×List ac)}(h0:0<=Mp)(h:Pos L base i (Mp+1) true l)(hq:ei true s l=some q) :
  Ev2 (λ n _=>bw n (.mk L (i:Int) (Mp+1) base dOk) s) (FB L base Mp (decide (0 < Mp)) q):=by
 simp only [bw];refine ah _ (oG hL M' s h hq) ?_;intro z hz;have hb:=h.2.2.1;rcases q with e | ⟨u,l'⟩
 ·obtain ⟨he,j,l',rfl,hp⟩:=hz;refine ag mu (aa ⟨he,j,(L.drop j).map (mvT base),?_,hp.out h0 rfl⟩);exact FR
 ·obtain ⟨j,rfl,hp,hx⟩:=hz;refine ag mu (aa ⟨j,?_,hp.out h0 hx,hx⟩);show al.mk L j (Mp+1 - 1) base dOk=_;rw [Int.add_sub_cancel]
theorem LN (hL:Gd (L.map (mvT base)))(M':L.length<=1000000000){i:Nat}{Mp:Int}{l:List ac}{e:PE}(s:Bytes)(he:e.1≠0)(h0:0<=Mp)(h:Pos L base i (Mp+1) true l) :
  Ev2 (λ n _=>bw n (.mk L (i:Int) (Mp+1) base (eD e)) s) (λ z=>∃ (j:Nat) (l':List ac),z=.mk L (j:Int) Mp base (eD e)/\Pos L base j Mp (decide (0 < Mp)) l'):=by
 simp only [bw];refine ah _ (AP hL M' s he h) ?_;rintro _ ⟨j,l',rfl,hp⟩;have hb:=h.2.2.1;refine ag mu (aa ⟨j,(L.drop j).map (mvT base),?_,hp.out h0 rfl⟩);exact FR
theorem pJ (hL:Gd (L.map (mvT base)))(M':L.length<=1000000000){i:Nat}{Mp:Int}{b:Bool}{l:List ac}(h:Pos L base i Mp b l)(h6:(hd b l).Ar≠6) :
  Ev2 (λ n _=>cE n (.mk L (i:Int) Mp base dOk)) (λ z=>∃ j:Nat,z=.mk L (j:Int) (Mp+1) base dOk/\Pos L base j (Mp+1) true (tl b l)):=by
 simp only [cE];refine ah _ (ez hL M' h h6) ?_;rintro ⟨z1,z2⟩ ⟨h1,j,h2,h3,h4,h5⟩
 cases h2
 have hb:=h.2.2.1;have hn:=h.2.1;have hj:=h3.1;refine ag qC (aa ⟨j,Z,h3.1,by omega,by omega,?_,by rw [h4]⟩)
 symm; rw [decide_eq_true_eq]; omega
theorem o5 (hL:Gd (L.map (mvT base)))(M':L.length<=1000000000){i:Nat}{Mp:Int}{b:Bool}{l:List ac}{q:PE⊕(Bytes×List ac)}(h:Pos L base i Mp b l)(hq:wC b l=some q) :
  Ev2 (λ n _=>cw n (.mk L (i:Int) Mp base dOk)) (Out L base Mp b q):=by
 simp only [cw,aR,cl];refine bF (gB hL M' h) λ j ⟨h3,h4,h5⟩=>?_;unfold wC at hq;by_cases hs:(hd b l).Ar=1/\lc (hd b l).B'=false
 ·rw [if_pos hs] at hq; cases hq;refine aj (false,L,(j:Int),Mp,base,0,0,[]) (af mv (ae hs.1 (aj _ vl (aa ?_)))) ?_
  ·rw [hs.2]; rfl
  ·refine af mv (ah _ (ez hL M' h3 O) ?_);rintro ⟨y1,y2⟩ ⟨g1,k,g2,g3,g4,g5⟩
   cases g2
   exact aa ⟨Z,k,Z,g3⟩
 ·rw [if_neg hs] at hq; cases hq;refine aj (true,L,(j:Int),Mp,base,0,0,[]) (af mv (av (λ h1=>aj _ vl (aa ?_)) (λ h1=>aa rfl))) ?_
  ·have h1:(hd b l).Ar=1:=h1
   have:lc (hd b l).B'=true:=by
    exact Iu
   rw [this]; rfl
  ·exact ae Z tX
theorem uq (hL:Gd (L.map (mvT base)))(M':L.length<=1000000000){i:Nat}{Mp:Int}{b:Bool}{l:List ac}{e:PE}(he:e.1≠0)(h:Pos L base i Mp b l) :
  Ev2 (λ n _=>cw n (.mk L (i:Int) Mp base (eD e))) (λ z=>∃ (j:Nat) (l':List ac),z.2=.mk L (j:Int) Mp base (eD e)/\Pos L base j Mp b l'):=by
 simp only [cw,aR,cl];refine bF (gB hL M' h) λ j ⟨h3,h4,h5⟩=>?_;have hk:(!decide ((eD e).Ar=0))=true:=by show (!decide (e.1=0))=true; simp [he]
 refine aj (true,L,(j:Int),Mp,base,e.1,e.2,[]) (ae hk (aa Z)) ?_;exact ae Z (aj _ (ax (xa he _ _ _ _) Z) (aa ⟨j,l,Z,h3⟩))
end
end Go.Ab.R06
end
section
namespace Go.Ab.R06
open Go.Ab Go.Ab.RB Go.Lib
section
variable {p:Prop}
theorem Il (h:p:=by
 rw [hf] at hl;refine cj (aQ (aN hl) ?_);rintro _ ⟨j,rfl,hp⟩
 exact ⟨j,Z,hp⟩):p:=h
theorem xd (h:p:=by
 rintro _ ⟨z,rfl,hz⟩
 exact hz):p:=h
theorem IG (h:p:=by
 rcases SP with _ | _ | _ | _ | _ | _ | k
 ·rfl
 ·rfl
 ·rfl
 ·rfl
 ·rfl
 ·rfl
 ·omega):p:=h
theorem jA (h:p:=by
 rintro ⟨z1,z2⟩ hz
 exact aa hz):p:=h
theorem Kr (h:p:=by
 refine af O (aa ?_);rw [List.drop_eq_nil_of_le O]
 exact ⟨i,Z,h⟩):p:=h
theorem A7 (h:p:=by
 refine cj (aQ (aN hl) ?_);rintro _ ⟨j,rfl,hp⟩
 exact aa ⟨j,Z,hp⟩):p:=h
theorem Ks (h:p:=by exact aN (v6 hL M' he h3 O (z1,.mk L (j:Int) Mp base (eD e)) _ _ _ _ _ _ _ _ _ _)):p:=h
theorem IR (h:p:=by exact aN (vc hL M' he h3 (z1,.mk L (j:Int) Mp base (eD e)) _ _ _ _ _ _ _ _ _ _)):p:=h
theorem rI (h:p:=by exact ⟨by omega,by omega⟩):p:=h
theorem qA (h:p:=by exact aa ⟨j,Z,h3⟩):p:=h
theorem rZ (h:p:=by exact rv hL M' _ he h3):p:=h
theorem qq (h:p:=by exact xH hL M' _ h):p:=h
end
section
variable {L:List ac} {base:Int}
theorem I6 (hL:Gd (L.map (mvT base)))(M':L.length<=1000000000){Mp:Int}{b:Bool}{l:List ac}(ls:List Bytes)(hls:ls.length<=1000):∀ (k t i:Nat),t+k=ls.length->Pos L base i Mp b l ->
  Ev2 (λ n m=>bq n ls m (t:Int) L (i:Int) Mp base 0 0 []) (λ r=>match (ls.drop t).find? (λ s=>sgB b l s) with
   | some s=>∃ j:Nat,r=.inr (s,true,.mk L (j:Int) Mp base dOk)/\Pos L base j Mp b l
   | none=>∃ j:Nat,r=.inl (L,(j:Int),Mp,base,0,0,[])/\Pos L base j Mp b l):=by
 intro k
 induction k with
 | zero =>
  intro t i ht h;refine aw ?_;simp only [bq];exact Kr
 | succ k ih =>
  intro t i ht h;refine aw ?_;simp only [bq];have hdr:ls.drop t=lat ls (t:Int)::ls.drop (t+1):=by rw [m9 ls t O]; exact List.drop_eq_getElem_cons O
  refine ae O (ag rI (ah _ qq ?_));rintro ⟨z1,z2⟩ ⟨h1,j,h2,h3⟩;replace h1:z1=_:=h1; subst h1; cases h2;rw [hdr,List.find?_cons]
  cases hs:sgB b l (lat ls (t:Int)) with
  | true=>exact ae Z (aa ⟨j,Z,h3⟩)
  | false=>exact af mv (ag (bv O O) (kl (P:=λ x=>Ev2 (λ n m=>bq n ls m x L (j:Int) Mp base 0 0 []) _) (ih (t+1) j O h3)))
theorem GK (hL:Gd (L.map (mvT base)))(M':L.length<=1000000000){i:Nat}{Mp:Int}{b:Bool}{l:List ac}(ls:List Bytes)(hls:ls.length<=1000)(h:Pos L base i Mp b l) :
  Ev2 (λ n _=>eh n (.mk L (i:Int) Mp base dOk) ls) (λ r=>match ls.find? (λ s=>sgB b l s) with
   | some s=>∃ j:Nat,r=(s,true,.mk L (j:Int) Mp base dOk)/\Pos L base j Mp b l
   | none=>∃ j:Nat,r=([],false,.mk L (j:Int) Mp base dOk)/\Pos L base j Mp b l):=by
 simp only [eh];have hl:=I6 hL M' ls hls ls.length 0 i O h;rw [List.drop_zero] at hl
 cases hf:ls.find? (λ s=>sgB b l s) with
 | some s =>
  exact Il
 | none =>
  rw [hf] at hl;exact A7
theorem Ko (hL:Gd (L.map (mvT base)))(M':L.length<=1000000000){Mp:Int}{b:Bool}{l:List ac}{e:PE}(he:e.1≠0)(ls:List Bytes)(hls:ls.length<=1000):∀ (k t i:Nat),t+k=ls.length->Pos L base i Mp b l ->
  Ev2 (λ n m=>bq n ls m (t:Int) L (i:Int) Mp base e.1 e.2 []) (λ r=>∃ j:Nat,r=.inl (L,(j:Int),Mp,base,e.1,e.2,[])/\Pos L base j Mp b l):=by
 intro k
 induction k with
 | zero =>
  intro t i ht h;refine aw ?_;simp only [bq];exact af O (aa ⟨i,rfl,h⟩)
 | succ k ih =>
  intro t i ht h;refine aw ?_;simp only [bq];refine ae O (ag rI (ah _ (rv hL M' _ he h) ?_));rintro _ ⟨j,rfl,h3⟩;exact af mv (ag aB (kl (P:=λ x=>Ev2 (λ n m=>bq n ls m x L (j:Int) Mp base e.1 e.2 []) _) (ih (t+1) j O h3)))
theorem Md (hL:Gd (L.map (mvT base)))(M':L.length<=1000000000){i:Nat}{Mp:Int}{b:Bool}{l:List ac}{e:PE}(he:e.1≠0)(ls:List Bytes)(hls:ls.length<=1000)(h:Pos L base i Mp b l) :
  Ev2 (λ n _=>eh n (.mk L (i:Int) Mp base (eD e)) ls) (λ r=>∃ j:Nat,r=([],false,.mk L (j:Int) Mp base (eD e))/\Pos L base j Mp b l):=by
 simp only [eh];have hl:=Ko hL M' he ls hls ls.length 0 i O h;exact A7
theorem yl {SP:Nat}(h:SP<=5):jP (SP:Int)=some ((iv SP).map (·.1)):=by
 exact IG
def qJ:List Bytes:=[[124,124],[38,38],[61,61],[33,61],[60],[60,61],[62],[62,61],[43],[45],[42],[47],[37]]
theorem Sc (s:Bytes):∀ (k t:Nat),t+k=13->Ev2 (λ _ m=>il s m (t:Int)) (·=match (qJ.drop t).findIdx? (λ x=>decide (x=s)) with | some i=>.inr ((3+t+i:Nat):Int) | none=>.inl ()):=by
 intro k
 induction k with
 | zero =>
  intro t ht;refine aw ?_;simp only [il];have:t=13:=by omega
  subst this;exact af (by decide) (aa rfl)
 | succ k ih =>
  intro t ht;refine aw ?_;simp only [il];have hdr:qJ.drop t=lat qJ (t:Int)::qJ.drop (t+1):=by rw [m9 qJ t (by show t < 13; omega)]; exact List.drop_eq_getElem_cons (by show t < 13; omega)
  refine ae O (ag rI ?_);rw [hdr,List.findIdx?_cons];by_cases hs:lat qJ (t:Int)=s
  ·refine ae hs (ag aB (aa ?_));rw [decide_eq_true hs];show _=Sum.inr _;rw [show (3:Int)+(t:Int)=((3+t+0:Nat):Int) by omega]
  ·refine af hs (ag aB (aQ (kl (P:=λ x=>Ev2 (λ _ m=>il s m x) _) (ih (t+1) O)) ?_));rintro r rfl;rw [decide_eq_false hs]
   cases (qJ.drop (t+1)).findIdx? (λ x=>decide (x=s)) with
   | none=>rfl
   | some i =>
    show Sum.inr ((3+(t+1)+i:Nat):Int)=Sum.inr ((3+t+(i+1):Nat):Int);congr 2; omega
theorem NL {SP:Nat}(h:SP<=5){p:Bytes×Int}(hp:p∈iv SP):Ev2 (λ n _=>qN n p.1) (·=p.2):=by
 simp only [qN];have hl:=Sc p.1 13 0 rfl;rw [List.drop_zero] at hl
 have:(match qJ.findIdx? (λ x=>decide (x=p.1)) with | some i=>Sum.inr ((3+0+i:Nat):Int) | none=>(Sum.inl ():Unit⊕Int))=.inr p.2:=by
  have hall:∀ SP:Fin 6,∀ p∈iv SP.1,(match qJ.findIdx? (λ x=>decide (x=p.1)) with | some i=>Sum.inr ((3+0+i:Nat):Int) | none=>(Sum.inl ():Unit⊕Int))=.inr p.2:=by decide
  exact hall ⟨SP,by omega⟩ p hp
 rw [this] at hl;exact iC p.2 (aN hl) rfl
theorem Gb (b:Bool)(l:List ac)(SP:Nat):((iv SP).map (·.1)).find? (λ s=>sgB b l s)=(vo b l SP).map (·.1):=by
 unfold vo
 induction iv SP with
 | nil=>rfl
 | cons p r ih =>
  rw [la,List.find?_cons,List.find?_cons]
  cases sgB b l p.1 with
  | true=>rfl
  | false=>exact ih
theorem Dg {b:Bool}{l:List ac}{SP:Nat}{p:Bytes×Int}(h:vo b l SP=some p):p∈iv SP/\sgB b l p.1=true:=⟨List.mem_of_find?_eq_some h,List.find?_some (p:=λ p:Bytes×Int=>sgB b l p.1) h⟩
theorem DY {SP:Nat}:((iv SP).map (·.1)).length<=1000:=by
 rcases SP with _ | _ | _ | _ | _ | k <;> simp [iv]
def uD {α:Type}(L:List ac)(base:Int)(Mp:Int)(b:Bool)(e:PE)(z:α×al):Prop:=∃ (j:Nat) (l':List ac),z.2=.mk L (j:Int) Mp base (eD e)/\Pos L base j Mp b l'
theorem ky {e:PE}(he:e.1≠0):(!decide ((eD e).Ar=0))=true:=by show (!decide (e.1=0))=true; simp [he]
theorem EC {i:Nat}{Mp:Int}{b:Bool}{l:List ac}{e:PE}(he:e.1≠0)(h:Pos L base i Mp b l) :
  Ev2 (λ n _=>cJ n (.mk L (i:Int) Mp base (eD e))) (uD L base Mp b e):=by
 refine aP ?_;simp only [cJ,aR,cl];exact ae (ky he) (aa ⟨i,l,Z,h⟩)
theorem vc (hL:Gd (L.map (mvT base)))(M':L.length<=1000000000){i:Nat}{Mp:Int}{b:Bool}{l:List ac}{e:PE}(he:e.1≠0)(h:Pos L base i Mp b l)(r1:ad×al)(k op:Int)(nm key:Bytes)(vk vn:Int)(vs:Bytes)(vi:List am)(vks:List Bytes)(kids:List ad) :
  Ev2 (λ n m=>bK n (aC n) r1 m k op nm key vk vn vs vi vks kids L (i:Int) Mp base e.1 e.2 []) (λ s=>∃ z,s=.inr z/\uD L base Mp b e z):=by
 refine aw ?_;simp only [bK];refine cj (ah _ (rv hL M' _ he h) ?_);rintro _ ⟨j,rfl,h3⟩;refine af mv (ah _ rZ ?_);rintro _ ⟨j,rfl,h3⟩;exact af mv (aa ⟨_,rfl,j,l,rfl,h3⟩)
theorem D3 (hL:Gd (L.map (mvT base)))(M':L.length<=1000000000){i:Nat}{Mp:Int}{b:Bool}{l:List ac}{e:PE}(he:e.1≠0)(h:Pos L base i Mp b l) :
  Ev2 (λ n _=>dp n (.mk L (i:Int) Mp base (eD e))) (uD L base Mp b e):=by
 refine aP ?_;simp only [dp];refine ah _ (EC he h) ?_;rintro ⟨z1,z2⟩ ⟨j,l',h2,h3⟩
 cases h2
 refine cj (aQ IR ?_);exact xd
theorem L5 (hL:Gd (L.map (mvT base)))(M':L.length<=1000000000){i:Nat}{Mp:Int}{b:Bool}{l:List ac}{e:PE}(he:e.1≠0)(h:Pos L base i Mp b l) :
  Ev2 (λ n _=>cT n (.mk L (i:Int) Mp base (eD e))) (uD L base Mp b e):=by
 refine aP ?_;simp only [cT];refine ah (λ t=>∃ j:Nat,t=(0,L,(j:Int),Mp,base,e.1,e.2,[])/\Pos L base j Mp b l) ?_ ?_
 ·refine ah _ (rv hL M' _ he h) ?_;rintro _ ⟨j,rfl,h3⟩;refine af mv (ah _ rZ ?_);rintro _ ⟨j,rfl,h3⟩;exact af mv qA
 ·rintro _ ⟨j,rfl,h3⟩;refine ae rfl (ah _ (D3 hL M' he h3) ?_);exact jA
theorem v6 (hL:Gd (L.map (mvT base)))(M':L.length<=1000000000){i:Nat}{Mp:Int}{b:Bool}{l:List ac}{e:PE}(he:e.1≠0)(h:Pos L base i Mp b l){SP:Nat}(hlev:SP<=5)(r5:ad×al)(k op:Int)(nm key:Bytes)(vk vn:Int)(vs:Bytes)(vi:List am)(vks:List Bytes)(kids:List ad) :
  Ev2 (λ n m=>bR n (a8 n) (SP:Int) r5 m k op nm key vk vn vs vi vks kids L (i:Int) Mp base e.1 e.2 []) (λ s=>∃ z,s=.inr z/\uD L base Mp b e z):=by
 refine aw ?_;simp only [bR];refine aj _ (ax (yl hlev) rfl) (ah _ (Md hL M' he _ DY h) ?_);rintro _ ⟨j,rfl,h3⟩;exact ae rfl (aa ⟨_,rfl,j,l,rfl,h3⟩)
theorem Ig (hL:Gd (L.map (mvT base)))(M':L.length<=1000000000){Mp:Int}{b:Bool}{e:PE}(he:e.1≠0):∀ (k SP i:Nat) (l:List ac),SP+k=6->Pos L base i Mp b l ->
  Ev2 (λ n _=>a8 n (.mk L (i:Int) Mp base (eD e)) (SP:Int)) (uD L base Mp b e):=by
 intro k
 induction k with
 | zero =>
  intro SP i l hk h;refine aP ?_;simp only [a8];refine ae O (ah _ (L5 hL M' he h) ?_);exact jA
 | succ k ih =>
  intro SP i l hk h;refine aP ?_;simp only [a8];refine af O (ag aB (ah _ (kl (P:=λ x=>Ev2 (λ n _=>a8 n (.mk L (i:Int) Mp base (eD e)) x) _) (ih (SP+1) i l O h)) ?_));rintro ⟨z1,z2⟩ ⟨j,l',h2,h3⟩
  cases h2
  refine cj (aQ Ks ?_);exact xd
theorem J3 (hL:Gd (L.map (mvT base)))(M':L.length<=1000000000){i:Nat}{Mp:Int}{b:Bool}{l:List ac}{e:PE}(he:e.1≠0)(h:Pos L base i Mp b l) :
  Ev2 (λ n _=>aC n (.mk L (i:Int) Mp base (eD e))) (uD L base Mp b e):=by
 refine aP ?_;simp only [aC];refine ah _ (Ig hL M' he 6 0 i l rfl h) ?_;rintro ⟨z1,z2⟩ ⟨j,l',h2,h3⟩
 cases h2
 refine ah _ rZ ?_;rintro _ ⟨j,rfl,h3⟩;exact ae rfl (aa ⟨j,l',rfl,h3⟩)
end
end Go.Ab.R06
end
