/- Texts of the proof, one behind the other. No statement is proved here. -/
import Derived.Lib.IndexLaws
import Derived.Lib.Bytes2
import Derived.Test.YtihghalcmfpnaaaGreatDoorZ14Qa
import Derived.Test.YtihghalcmfpnaaaGreatDoorZ14Qb
import Derived.Test.YtihghalcmfpnaaaGreatDoorZ14Qc
set_option maxHeartbeats 4000000
section
namespace Go.Ab.R06
open Go.Proofs Go.Ab Go.Ab.RB
attribute [local irreducible] awp gk aX bv bV AV.sub M cC
instance QG:HE Tryz.prog 188:=⟨Tryz.call188⟩
instance Rv:HE Tryz.prog 170:=⟨Tryz.call170⟩
instance QS:HE Tryz.prog 172:=⟨Tryz.call172⟩
instance QH:HE Tryz.prog 150:=⟨Tryz.call150⟩
def jf (Rz:ag):Option Bool :=
 (
   if Rz.Ar < 0 then
    some true
   else
    some (decide (6 < Rz.Ar))
  ).bind λ t2 =>
 if t2=true then
  some false
 else
  jn (
    if Rz.Ar=1 then
     (
       if Rz.F'=0 then
        some false
       else
        some (!decide (Rz.F'=1))
      ).bind λ t6 =>
     if t6=true then
      some (.inr false)
     else
      some (.inl ())
    else
     if Rz.Ar=2 then
      some (.inl ())
     else
      if Rz.F'=0 then
       some (.inl ())
      else
       some (.inr false)
   : Option (Unit⊕Bool)) λ _q20 =>
  (
    if Rz.Ar=3 then
     if Rz.Ar=4 then
      some false
     else
      if Rz.Ar=5 then
       some false
      else
       some (decide (0 < (Rz.Gw.length:Int)))
    else
     if Rz.If=([]:Bytes) then
      if Rz.Ar=4 then
       some false
      else
       if Rz.Ar=5 then
        some false
       else
        some (decide (0 < (Rz.Gw.length:Int)))
     else
      some true
   ).bind λ Sr =>
  if Sr=true then
   some false
  else
   if Rz.Ar=5 then
    some (decide ((Rz.Df.length:Int)=(Rz.Gw.length:Int)))
   else
    some (decide ((Rz.Df.length:Int)=0))
instance ET (Rz:ag):∀ (r:Bool),HP (jf Rz=some r) Tryz.prog 170 [.agg (ag.cs Rz)] (.p (eB r)):=by
 refine hP good Tryz.func170 Z Z λ r h0 _ w0=>?_;unfold jf at h0;refine nx 7 Z (bd h0 λ TV h1 h0=>kN TV (λ T5=>⟨[(1,.ptr 1 0),(10,.p (eB T5))],[(1,(ag.cs Rz).map .p)]⟩) ?_ ?_)
 ·refine nx 1 Z (fB [10] h0 Z (λ c3 h0=>?_) λ c3 h0=>?_)
  ·exact J0
  refine nx 8 rfl ?_;obtain ⟨VC,h1,Sl,hR0⟩:=cm h0;refine kX (λ Vu:Unit=>VC=.inl Vu) (λ Vu=>⟨[(1,.ptr 1 0)],[(1,(ag.cs Rz).map .p)]⟩) (λ Vu hv=>?_) ?_
  ·have h0:=Sl _ hv;refine nx 3 Z (bd h0 λ Wj h1 h0=>kN Wj (λ W2=>⟨[(1,.ptr 1 0),(51,.p (eB W2))],[(1,(ag.cs Rz).map .p)]⟩) ?_ ?_)
   ·exact J0
   exact aG
  refine nx 6 Z (fD [16,17] h1 Z (λ c4 h1=>?_) λ c4 h1=>?_)
  ·refine nx 2 Z (bd h1 λ TH h2 h1=>kN TH (λ SP=>⟨[(1,.ptr 1 0),(25,.p (eB SP))],[(1,(ag.cs Rz).map .p)]⟩) ?_ ?_)
   ·exact aG
   exact gN
  exact aG
 exact aG
def jI (Mr:Bytes):Option Int :=
 if 4096 < (Mr.length:Int) then
  some 3
 else
  (iX Mr).bind λ r2 =>
  if (!r2)=true then
   some 1
  else
   some 0
instance Ku (Mr:Bytes):∀ (r:Int),HP (jI Mr=some r) Tryz.prog 172 [eS Mr] (.p (eI r)):=by
 refine hP good Tryz.func172 Z Z λ r h0 _ w0=>?_;unfold jI at h0;exact J0
def ix (Rz:ag):Nat->Int->Option (Unit⊕(Unit⊕Int))
 | 0,_=>none
 | m+1,TC =>
 if TC < (Rz.Df.length:Int) then
  ck ((0:Int)<=TC/\TC < (Rz.Df.length:Int)) <|
  (jI (lat Rz.Df TC)).bind λ T8 =>
  if T8=0 then
   (
     if 0 < TC then
      ck (inR (TC - 1)) <|
      ck ((0:Int)<=TC - 1/\TC - 1 < (Rz.Df.length:Int)) <|
      some (Op.bytesLess (lat Rz.Df TC) (lat Rz.Df (TC - 1))||decide (lat Rz.Df TC=lat Rz.Df (TC - 1)))
     else
      some false
    ).bind λ t33 =>
   if t33=true then
    some (.inr (.inr 1))
   else
    ck (inR (TC+1)) <|
    ix Rz m (TC+1)
  else
   some (.inr (.inr T8))
 else
  some (.inl ())
def lj (n:Nat)(Rz:ag):Option Int :=
 (jf Rz).bind λ r1 =>
 if (!r1)=true then
  some 1
 else
  jn (
    if Rz.Ar=2 then
     (ij Rz.F').bind λ r5 =>
     if (!r5)=true then
      some (.inr 5)
     else
      some (.inl ())
    else
     if Rz.Ar=3 then
      (jI Rz.If).bind λ r9 =>
      some (.inr r9)
     else
      if Rz.Ar=5 then
       jn (ix Rz n 0) λ _Xf =>
       some (.inl ())
      else
       some (.inl ())
   : Option (Unit⊕Int)) λ _VA =>
  some 0
instance KB (n:Nat) (Rz:ag):∀ (r:Int),HP (lj n Rz=some r) Tryz.prog 150 [.agg (ag.cs Rz)] (.p (eI r)):=by
 refine hP good Tryz.func150 Z Z λ r h0 _ w0=>?_;unfold lj at h0;refine nx 9 Z (K0 λ r1 h0=>nx 2 Z (fB [8] h0 Z (λ c3 h0=>?_) λ c3 h0=>?_))
 ·exact J0
 refine nx 8 rfl ?_;obtain ⟨o40,h1,Sl,hR0⟩:=cm h0;refine kX (λ WZ:Unit=>o40=.inl WZ) (λ WZ=>⟨[],[]⟩) (λ WZ hv=>?_) ?_
 ·exact jQ
 refine nx 6 Z (fD [11,12] h1 Z (λ c4 h1=>?_) λ c4 h1=>?_)
 ·exact aG
 refine nx 6 Z (fD [17,18] h1 Z (λ c8 h1=>?_) λ c8 h1=>?_)
 ·exact aG
 refine nx 6 Z (fD [22,23] h1 Z (λ Uy h1=>?_) λ Uy h1=>?_)
 ·refine nx 5 rfl (oLl (f:=eS) Z Z (nx 3 rfl ?_));obtain ⟨UE,h2,hL1,hR1⟩:=cm h1;refine kEx 1 (λ TO:Unit=>UE=.inl TO) (λ TO=>⟨[],[]⟩) (λ TO hv=>?_) ?_
  ·have h1:=hL1 _ hv;exact aG
  refine lG (λ (US:Int)=>⟨[(1,.ptr 1 0),(25,.p (eL eS Rz.Df)),(26,.p (eI (Rz.Df.length:Int))),(27,.p (eI US))],[(1,(ag.cs Rz).map .p)]⟩) (λ m (US:Int)=>ix Rz m US) Y 0 h2 (gE rfl rfl) ?_;rintro m TC h2;replace h2:ix Rz (m+1) TC=some UE:=h2;rw [ix] at h2;refine nx 5 rfl (fD [28] h2 rfl (λ c25 h2=>?_) λ c25 h2=>?_)
  ·refine nx 7 Z (oE h2 Y Z Z Y λ Uu h2=>nx 8 Z (K2 λ T8 h2=>nx 7 Z (fN [35] h2 Z (λ c29 h2=>?_) λ c29 h2=>?_)))
   ·refine nx 3 Z (bd h2 λ Wi h3 h2=>kN Wi (λ v46=>⟨[(1,.ptr 1 0),(25,.p (eL eS Rz.Df)),(26,.p (eI (Rz.Df.length:Int))),(27,.p (eI TC)),(48,.p (eB v46))],[(1,(ag.cs Rz).map .p)]⟩) ?_ ?_)
    ·exact gN
    refine nx 4 Z (fD [38,39] h3 Z (λ WL h3=>?_) λ WL h3=>?_)
    ·exact nx 4 Z (oA h3 Z Z λ U8 h3=>oE h3 Y Z Z Y λ U7 h3=>nx 1 Z (oS Z Z (nx 2 Z kD)))
    exact nx 10 Z kD
   exact gN
  exact gN
 exact aG
def dY (Ss:ag->Int->Int->Option (Int×Int))(Rz:ag)(O':Int):Nat->Int->Int->Option (Int⊕(Int×Int))
 | 0,_,_=>none
 | m+1,Sr,Ui =>
 if Sr < (Rz.Gw.length:Int) then
  ck ((0:Int)<=Sr/\Sr < (Rz.Gw.length:Int)) <|
  ck (inR (O'+1)) <|
  (Ss (lat Rz.Gw Sr) (O'+1) Ui).bind λ RQ =>
  if RQ.1=0 then
   ck (inR (Sr+1)) <|
   dY Ss Rz O' m (Sr+1) RQ.2
  else
   some (.inr (RQ.1,RQ.2))
 else
  some (.inl Ui)
def eF:Nat->ag->Int->Int->Option (Int×Int)
 | 0,_,_,_=>none
 | n+1,Rz,O',cap_0 =>
 if 32 < O' then
  some (4,cap_0)
 else
  if 4096<=cap_0 then
   some (14,cap_0)
  else
   ck (inR (cap_0+1)) <|
   (lj n Rz).bind λ r4 =>
   if r4=0 then
    jn (dY (eF n) Rz O' n 0 (cap_0+1)) λ f27 =>
    some (0,f27)
   else
    some (r4,cap_0+1)
instance Ds (n:Nat):∀ (Rz:ag) (O':Int) (cap_0:Int) (r:Int×Int),HO (eF n Rz O' cap_0=some r) Tryz.prog 149 [.p (.agg (ag.cs Rz)),.p (eI O'),.ptr 1000000 0,.ptr 1000001 0] [(1000000,[.p (eI cap_0)]),(1000001,[.func (.func 149) [.ptr 1000000 0,.ptr 1000001 0]])] (.p (eI r.1)) ([(1000000,[.p (eI r.2)]),(1000001,[.func (.func 149) [.ptr 1000000 0,.ptr 1000001 0]])]):=by
 induction n with
 | zero=>exact Zr
 | succ n ih =>
 refine λ Rz O' cap_0=>hO good [] [1000000,1000001] Tryz.func149 Z Z λ r h0 _ w0 F=>?_;rw [eF] at h0;refine nx 11 Z (fD [12] h0 Z (λ c1 h0=>?_) λ c1 h0=>?_)
 ·exact J0
 refine nx 8 Z (fD [14] h0 Z (λ c2 h0=>?_) λ c2 h0=>?_)
 ·exact J0
 refine nx 5 Z (oA h0 Z Z λ U9 h0=>nx 6 Z (K0 λ r4 h0=>nx 7 Z (fN [20] h0 Z (λ c6 h0=>?_) λ c6 h0=>?_)))
 ·refine nx 7 rfl (oLl (f:=dQ) Z Z (nx 3 rfl ?_));obtain ⟨TH,h1,Sl,hR0⟩:=cm h0;refine kEx 0 (λ SP:Int=>TH=.inl SP) (λ SP=>⟨[],[(1000000,[.p (eI SP)]),(1000001,[.func (.func 149) [.ptr 1000000 0,.ptr 1000001 0]])]⟩) (λ SP hv=>?_) ?_
  ·exact jQ
  refine lG (λ (S4:Int×Int)=>⟨[(1,.p (eI O')),(3,.ptr 1000001 0),(23,.p (eL dQ Rz.Gw)),(24,.p (eI (Rz.Gw.length:Int))),(25,.p (eI S4.1))],[(1000000,[.p (eI S4.2)]),(1000001,[.func (.func 149) [.ptr 1000000 0,.ptr 1000001 0]])]⟩) (λ m (S4:Int×Int)=>dY (eF n) Rz O' m S4.1 S4.2) Y (0,cap_0+1) h1 (gE rfl rfl) ?_;rintro m ⟨Sr,Ui⟩ h1;replace h1:dY (eF n) Rz O' (m+1) Sr Ui=some TH:=h1;rw [dY] at h1;refine nx 5 rfl (fD [26] h1 rfl (λ c18 h1=>?_) λ c18 h1=>?_)
  ·refine nx 6 Z (oE h1 ag.It Z Z Y λ Tv h1=>nx 9 Z (oA h1 Z Z λ TY h1=>bd h1 λ RQ XH h1=>mO Z (we [1000000,1000001] [] 102000 102000 (HO.c XH) Z Z Z Z Z Z ⟨sr,sr,sr,sr,trivial⟩ Z Z ⟨⟨_,Z,⟨sr,trivial⟩⟩,⟨_,Z,⟨sr,trivial⟩⟩,trivial⟩ Z Z Z Z Z Z Z Z Tryz.call149 Z Z ?_)));exact aG
  exact aG
 exact J0
def ka (n:Nat)(Rz:ag):Option Int :=
 (eF n Rz 1 0).bind λ r1 =>
 some r1.1
instance FZ (n:Nat) (Rz:ag):∀ (r:Int),HP (ka n Rz=some r) Tryz.prog 111 [.agg (ag.cs Rz)] (.p (eI r)):=by
 refine hP good Tryz.func111 Z Z λ r h0 _ w0=>?_;unfold ka at h0;exact nx 16 Z (mO Z (yi Z Z Z Z (nx 6 Z (bd h0 λ r1 e2 h0=>mO Z (we [3,4] [] 101000 101000 (HO.c e2) Z Z Z Z Z Z ⟨sr,sr,sr,sr,trivial⟩ Z Z ⟨⟨_,Z,⟨sr,trivial⟩⟩,⟨_,Z,⟨sr,trivial⟩⟩,trivial⟩ Z Z Z Z Z Z Z Z Tryz.call149 Z Z J0)))))
end Go.Ab.R06
end
section
namespace Go.Ab.R06
open Go.Proofs Go.Ab Go.Ab.RB
section
variable {p:Prop}
theorem F8 (h:p:=by
  have:=js [200];have:=jB 200 (Bool×List ad×Int×Int×Int×Int×Int×Bytes) (λ v=>[(4,.p (eB v.1))]) λ v=>[(1000000,(og v.2))]
  exact J0):p:=h
theorem Gf (h:p:=by first | (simp only [List.map_append,cl,List.map_nil,aa.I']; done) | (simp only [List.map_append,cl,List.map_nil,aa.I']; rfl)):p:=h
theorem qJ (h:p:=by rw [List.length_map]):p:=h
theorem A8 (h:p:=by exact mQo (oi h0) (bo (ca 900000 800000 Z Z Z Z Z) (aQ _)) Z Z Z Z (sr) ⟨⟨_,Z,⟨sr,sr,sr,sr,sr,sr,sr,trivial⟩⟩,trivial⟩):p:=h
theorem Ap (h:p:=by exact mQo (oi h0) (bo (ca 101000 800000 Z Z Z Z Z) (aQ _)) Z Z Z Z (sr) ⟨⟨_,Z,⟨sr,sr,sr,sr,sr,sr,sr,trivial⟩⟩,trivial⟩):p:=h
theorem Gj (h:p:=by exact gE (t:=⟨[(0,.ptr 1000000 0),(2,.ptr 2 0)],[(2,jw),(1000000,[.p (eS N'.fs),.p (eI N'.fat),.p (eI N'.fi),.p (eI N'.D'),.p (eS N'.E'),.vec 900000 11 0 (N'.BY.map al),.p (eB N'.IN)])]⟩) Z Z):p:=h
end
set_option maxRecDepth 4000
attribute [local irreducible] awp gk aX bv bV AV.sub M cC
instance Qg:HE Tryz.prog 146:=⟨Tryz.call146⟩
instance Qu:HE Tryz.prog 148:=⟨Tryz.call148⟩
instance Qk:HE Tryz.prog 112:=⟨Tryz.call112⟩
instance Qf:HE Tryz.prog 147:=⟨Tryz.call147⟩
instance Qj:HE Tryz.prog 145:=⟨Tryz.call145⟩
instance Ql:HE Tryz.prog 110:=⟨Tryz.call110⟩
instance Qq:HE Tryz.prog 111:=⟨Tryz.call111⟩
instance P8:HE Tryz.prog 113:=⟨Tryz.call113⟩
instance Qv:HE Tryz.prog 114:=⟨Tryz.call114⟩
instance Qo:HE Tryz.prog 68:=⟨Tryz.call68⟩
instance PL:HE Tryz.prog 31:=⟨Tryz.call31⟩
instance O3:HE Tryz.prog 70:=⟨Tryz.call70⟩
instance OC:HE Tryz.prog 121:=⟨Tryz.call121⟩
instance OT:HE Tryz.prog 12:=⟨Tryz.call12⟩
instance N9:HE Tryz.prog 39:=⟨Tryz.call39⟩
instance Nf:HE Tryz.prog 156:=⟨Tryz.call156⟩
instance Po:HE Tryz.prog 124:=⟨Tryz.call124⟩
instance OB:HE Tryz.prog 158:=⟨Tryz.call158⟩
instance OJ:HE Tryz.prog 157:=⟨Tryz.call157⟩
instance OX:HE Tryz.prog 125:=⟨Tryz.call125⟩
instance Ny:HE Tryz.prog 102:=⟨Tryz.call102⟩
instance Pl:HE Tryz.prog 101:=⟨Tryz.call101⟩
instance Oo:HE Tryz.prog 71:=⟨Tryz.call71⟩
instance P1:HE Tryz.prog 103:=⟨Tryz.call103⟩
instance O1:HE Tryz.prog 211:=⟨Tryz.call211⟩
abbrev tu (F:Bytes->Int->Option (Int))(k:Nat):Prop:=∀ (a0:Bytes) (a1:Int) (r:Int),HP (F a0 a1=some r) Tryz.prog k [eS a0,eI a1] (.p (eI r))
abbrev ub (F:af->Bytes->Option (af))(k:Nat):Prop:=∀ (a0:af) (a1:Bytes) (r:af),HO (F a0 a1=some r) Tryz.prog k [.ptr 1000000 0,.p (eS a1)] [(1000000,((af.cs a0).map .p))] (.tuple []) ([(1000000,((af.cs r).map .p))])
abbrev og (v:List ad×Int×Int×Int×Int×Int×Bytes):List AV:=[.p (eL cM v.1),.p (eI v.2.1),.p (eI v.2.2.1),.p (eI v.2.2.2.1),.p (eI v.2.2.2.2.1),.p (eI v.2.2.2.2.2.1),.p (eS v.2.2.2.2.2.2)]
abbrev qz:List PV:=[eI 0,eI 0,eS ([]:Bytes),eS ([]:Bytes),eI 0,eI 0,eS ([]:Bytes),.val (.slice none 0 0),.val (.slice none 0 0),.val (.slice none 0 0),eI 0]
abbrev iV:List AV:=[.p (eI 0),.p (eS ([]:Bytes)),.p (eI 0)]
abbrev jw:List AV:=[.p (eI 0),.p (eI 0),.p (eS ([]:Bytes))]
def jF (Sa:Int):Option Bool :=
 (
   if Sa=12 then
    some true
   else
    some (decide (Sa=13))
  ).bind λ t2 =>
 some t2
instance Lk (Sa:Int):∀ (r:Bool),HP (jF Sa=some r) Tryz.prog 146 [eI Sa] (.p (eB r)):=by
 refine hP good Tryz.func146 Z Z λ r h0 _ w0=>?_;unfold jF at h0;exact kL
def iM (Sa:Int):Option Bool :=
 (
   if Sa=3 then
    some true
   else
    if Sa=4 then
     some true
    else
     if Sa=9 then
      some true
     else
      (jF Sa).bind λ r4 =>
      some r4
  ).bind λ t6 =>
 some t6
instance KA (Sa:Int):∀ (r:Bool),HP (iM Sa=some r) Tryz.prog 112 [eI Sa] (.p (eB r)):=by
 refine hP good Tryz.func112 Z Z λ r h0 _ w0=>?_;unfold iM at h0;exact kL
def iB (M':aa):Option Bool :=
 if M'.Ar=6 then
  (
    if M'.fOp=1 then
     some true
    else
     some (decide (M'.fOp=2))
   ).bind λ t3 =>
  some t3
 else
  if M'.Ar=7 then
   (
     if 3<=M'.fOp then
      some (decide (M'.fOp<=15))
     else
      some false
    ).bind λ t6 =>
   some t6
  else
   some (decide (M'.fOp=0))
instance DI (M':aa):∀ (r:Bool),HP (iB M'=some r) Tryz.prog 145 [.agg (aa.cs M')] (.p (eB r)):=by
 refine hP good Tryz.func145 Z Z λ r h0 _ w0=>?_;unfold iB at h0;have:=js [300,500];have:=jS 300 Bool λ v=>[(2,.p (eB v))]
 have:=jS 500 Bool λ v=>[(2,.p (eB v))]
 exact J0
def iT (Rz:ag):Option Bool :=
 (
   if Rz.Ar=0 then
    if Rz.F'=0 then
     if Rz.If=([]:Bytes) then
      ck (inR ((Rz.Gw.length:Int)+(Rz.Df.length:Int))) <|
      some (decide ((Rz.Gw.length:Int)+(Rz.Df.length:Int)=0))
     else
      some false
    else
     some false
   else
    some false
  ).bind λ t5 =>
 some t5
instance Mt (Rz:ag):∀ (r:Bool),HP (iT Rz=some r) Tryz.prog 147 [.agg (ag.cs Rz)] (.p (eB r)):=by
 refine hP good Tryz.func147 Z Z λ r h0 _ w0=>?_;unfold iT at h0;exact kL
def ou (Sa:Int):Option (Int×Int×Bool) :=
 (
   if Sa=1 then
    some true
   else
    some (decide (Sa=3))
  ).bind λ t2 =>
 if t2=true then
  some (0,0,false)
 else
  (
    if Sa=4 then
     some true
    else
     some (decide (Sa=6))
   ).bind λ t5 =>
  if t5=true then
   some (1,1,false)
  else
   (
     if Sa=5 then
      some true
     else
      some (decide (Sa=7))
    ).bind λ t8 =>
   if t8=true then
    some (2,2,false)
   else
    if Sa=8 then
     some (3,3,false)
    else
     if Sa=2 then
      some (1,4096,false)
     else
      if Sa=12 then
       some (2,3,false)
      else
       if Sa=13 then
        some (3,4,false)
       else
        if Sa=11 then
         some (0,4096,true)
        else
         some (0,4096,false)
instance Lo (Sa:Int):∀ (r:Int×Int×Bool),HP (ou Sa=some r) Tryz.prog 148 [eI Sa] (.tuple [.p (eI r.1),.p (eI r.2.1),.p (eB r.2.2)]):=by
 refine hP good Tryz.func148 Z Z λ r h0 _ w0=>?_;unfold ou at h0;have:=js [201,501,801];have:=jS 201 Bool λ v=>[(6,.p (eB v))]
 have:=jS 501 Bool λ v=>[(9,.p (eB v))]
 have:=jS 801 Bool λ v=>[(12,.p (eB v))]
 exact J0
def gq (M':aa):Option Bool :=
 (
   if M'.Ar < 1 then
    some true
   else
    if 13 < M'.Ar then
     some true
    else
     (iB M').bind λ r3 =>
     some (!r3)
  ).bind λ t5 =>
 if t5=true then
  some false
 else
  (
    (iM M'.Ar).bind λ r7 =>
    if (!r7)=true then
     if M'.A'=([]:Bytes) then
      (jF M'.Ar).bind λ Ug =>
      if (!Ug)=true then
       if M'.B'=([]:Bytes) then
        if M'.Ar=1 then
         some false
        else
         (iT M'.By).bind λ Vn =>
         some (!Vn)
       else
        some true
      else
       if M'.Ar=1 then
        some false
       else
        (iT M'.By).bind λ Uj =>
        some (!Uj)
     else
      some true
    else
     (jF M'.Ar).bind λ RQ =>
     if (!RQ)=true then
      if M'.B'=([]:Bytes) then
       if M'.Ar=1 then
        some false
       else
        (iT M'.By).bind λ SL =>
        some (!SL)
      else
       some true
     else
      if M'.Ar=1 then
       some false
      else
       (iT M'.By).bind λ UB =>
       some (!UB)
   ).bind λ t31 =>
  if t31=true then
   some false
  else
   (ou M'.Ar).bind λ Tz =>
   (
     if (M'.AI.length:Int) < Tz.1 then
      some true
     else
      if Tz.2.1 < (M'.AI.length:Int) then
       if Tz.2.1 < 4096 then
        some true
       else
        if Tz.2.2=true then
         ck ((2:Int)≠0) <|
         some (decide ((M'.AI.length:Int).tmod 2=1))
        else
         some false
      else
       if Tz.2.2=true then
        ck ((2:Int)≠0) <|
        some (decide ((M'.AI.length:Int).tmod 2=1))
       else
        some false
    ).bind λ t42 =>
   if t42=true then
    some false
   else
    if M'.Ar=1 then
     (
       if 0<=M'.By.Ar then
        if M'.By.Ar<=3 then
         if M'.By.Ar=2 then
          some (decide (0<=M'.By.F'))
         else
          some true
        else
         some false
       else
        some false
      ).bind λ t48 =>
     some t48
    else
     some true
instance FO (M':aa):∀ (r:Bool),HP (gq M'=some r) Tryz.prog 110 [.agg (aa.cs M')] (.p (eB r)):=by
 refine hP good Tryz.func110 Z Z λ r h0 _ w0=>?_;unfold gq at h0;refine nx 7 Z (bd h0 λ UD h1 h0=>?_);refine kN UD (λ v54=>⟨[(1,.ptr 1 0),(19,.p (eB v54))],[(1,(aa.cs M').map .p)]⟩) ?_ ?_
 ·refine nx 1 Z (fB [19] h0 Z (λ c6 h0=>?_) λ c6 h0=>?_)
  ·exact J0
  refine nx 4 Z (bd h0 λ o55 h1 h0=>?_);refine kN o55 (λ v56=>⟨[(1,.ptr 1 0),(50,.p (eB v56))],[(1,(aa.cs M').map .p)]⟩) ?_ ?_
  ·refine nx 1 Z (fB [50] h0 Z (λ c32 h0=>?_) λ c32 h0=>?_)
   ·exact J0
   refine nx 6 Z (K0 λ Tz h0=>nx 10 Z ?_);refine bd h0 λ o57 h1 h0=>kN o57 (λ v58=>⟨[(1,.ptr 1 0),(83,.p (eB v58))],[(1,(aa.cs M').map .p)]⟩) ?_ ?_
   ·have:=js [1100];have:=jS 1100 Bool λ v=>[(2,.p (eB v))]
    exact J0
   refine nx 3 Z (oLl (f:=al) Z Z ?_);refine nx 3 Z (fD [62,63] h1 Z (λ c35 h1=>?_) λ c35 h1=>?_)
   ·exact aG
   refine nx 2 Z (oLl (f:=al) Z Z ?_);refine nx 3 Z (fD [68,69] h1 Z (λ WK h1=>?_) λ WK h1=>?_)
   ·refine nx 5 Z (fD [71,72,73,74] h1 Z (λ c37 h1=>?_) λ c37 h1=>?_)
    ·exact aG
    refine nx 2 Z (fB [5,57,75,76] h1 Z (λ c38 h1=>?_) λ c38 h1=>?_)
    ·refine nx 2 Z (oLl (f:=al) Z Z ?_);refine cc' h1 λ VJ h1=>mO Z (oY Z Z Z Z Z Z VJ ?_);exact aG
    exact aG
   refine nx 7 Z (fB [5,57,75,76] h1 Z (λ XK h1=>?_) λ XK h1=>?_)
   ·refine nx 2 Z (oLl (f:=al) Z Z ?_);refine cc' h1 λ Tt h1=>mO Z (oY Z Z Z Z Z Z Tt ?_);exact aG
   exact aG
  exact aG
 exact aG
def cG (Mr:Bytes):Nat->Int->Option (Unit⊕Bool)
 | 0,_=>none
 | m+1,SO =>
 if SO < (Mr.length:Int) then
  ck ((0:Int)<=SO/\SO < (Mr.length:Int)) <|
  (
    ck ((0:Int)<=SO/\SO < (Mr.length:Int)) <|
    if byt Mr SO=95 then
     some false
    else
     if iOr .u8 (byt Mr SO) 32 < 97 then
      if SO=0 then
       some true
      else
       ck ((0:Int)<=SO/\SO < (Mr.length:Int)) <|
       if byt Mr SO < 48 then
        some true
       else
        ck ((0:Int)<=SO/\SO < (Mr.length:Int)) <|
        some (decide (57 < byt Mr SO))
     else
      if 122 < iOr .u8 (byt Mr SO) 32 then
       if SO=0 then
        some true
       else
        ck ((0:Int)<=SO/\SO < (Mr.length:Int)) <|
        if byt Mr SO < 48 then
         some true
        else
         ck ((0:Int)<=SO/\SO < (Mr.length:Int)) <|
         some (decide (57 < byt Mr SO))
      else
       some false
   ).bind λ t34 =>
  if t34=true then
   some (.inr false)
  else
   ck (inR (SO+1)) <|
   cG Mr m (SO+1)
 else
  some (.inl ())
def fA (n:Nat)(Mr:Bytes):Option Bool :=
 jn (cG Mr n 0) λ _Vz =>
 (
   if Mr=([]:Bytes) then
    some false
   else
    some (decide ((Mr.length:Int)<=64))
  ).bind λ t39 =>
 some t39
instance zV (n:Nat) (Mr:Bytes):∀ (r:Bool),HP (fA n Mr=some r) Tryz.prog 113 [eS Mr] (.p (eB r)):=by
 refine hP good Tryz.func113 Z Z λ r h0 _ w0=>?_;unfold fA at h0;refine nx 8 rfl (oLs rfl ?_);refine nx 3 rfl ?_;obtain ⟨o43,h1,Sl,hR0⟩:=cm h0;refine kEx 0 (λ v44:Unit=>o43=.inl v44) (λ v44=>⟨[(0,.p (eS Mr))],[]⟩) (λ v44 hv=>?_) ?_
 ·have h0:=Sl _ hv;have:=js [800];have:=jS 800 Bool λ v=>[(2,.p (eB v))]
  exact J0
 refine lG (λ (Tj:Int)=>⟨[(0,.p (eS Mr)),(6,.p (eI (Mr.length:Int))),(7,.p (eI Tj))],[]⟩) (λ m (Tj:Int)=>cG Mr m Tj) Y 0 h1 (gE rfl rfl) ?_;rintro m SO h1;replace h1:cG Mr (m+1) SO=some o43:=h1;rw [cG] at h1;have:=js [500];have:=jS 500 Bool λ v=>[(41,.p (eB v))]
 exact aG
def eG (Mr:Bytes):Option Bool :=
 (
   if Mr=([110,117,108,108]:Bytes) then
    some true
   else
    if Mr=([116,114,117,101]:Bytes) then
     some true
    else
     if Mr=([102,97,108,115,101]:Bytes) then
      some true
     else
      if Mr=([102,111,114]:Bytes) then
       some true
      else
       if Mr=([105,110]:Bytes) then
        some true
       else
        some (decide (Mr=([105,102]:Bytes)))
  ).bind λ t6 =>
 if t6=true then
  some true
 else
  some false
instance Ee (Mr:Bytes):∀ (r:Bool),HP (eG Mr=some r) Tryz.prog 114 [eS Mr] (.p (eB r)):=by
 refine hP good Tryz.func114 Z Z λ r h0 _ w0=>?_;unfold eG at h0;have:=js [201];have:=jS 201 Bool λ v=>[(4,.p (eB v))]
 exact J0
def mq (n:Nat)(M':aa):Option Int :=
 (gq M').bind λ r1 =>
 if (!r1)=true then
  some 1
 else
  if M'.Ar=1 then
   (ka n M'.By).bind λ r5 =>
   some r5
  else
   (
     (iM M'.Ar).bind λ r7 =>
     if r7=true then
      (fA n M'.A').bind λ R5 =>
      if (!R5)=true then
       some true
      else
       if M'.Ar=4 then
        some false
       else
        (eG M'.A').bind λ T9 =>
        some T9
     else
      some false
    ).bind λ Sr =>
   if Sr=true then
    some 7
   else
    (
      if M'.B'=([]:Bytes) then
       some false
      else
       (fA n M'.B').bind λ Uj =>
       if (!Uj)=true then
        some true
       else
        (eG M'.B').bind λ TA =>
        some TA
     ).bind λ TC =>
    if TC=true then
     some 7
    else
     some 0
instance Mo (n:Nat) (M':aa):∀ (r:Int),HP (mq n M'=some r) Tryz.prog 68 [.agg (aa.cs M')] (.p (eI r)):=by
 refine hP good Tryz.func68 Z Z λ r h0 _ w0=>?_;unfold mq at h0;have:=js [500,700];have:=jS 500 Bool λ v=>[(30,.p (eB v))]
 have:=jS 700 Bool λ v=>[(44,.p (eB v))]
 exact J0
def bz (Si:bn->aa->Int->Option (Int×bn))(e_1:aa)(R8:Int):Nat->Int->Int->Option (Int⊕(Int×bn))
 | 0,_,_=>none
 | m+1,Sr,Ui =>
 if Sr < (e_1.AI.length:Int) then
  ck ((0:Int)<=Sr/\Sr < (e_1.AI.length:Int)) <|
  ck (inR (R8+1)) <|
  (Si (bn.mk Ui) (lat e_1.AI Sr) (R8+1)).bind λ RQ =>
  if RQ.1=0 then
   ck (inR (Sr+1)) <|
   bz Si e_1 R8 m (Sr+1) RQ.2.fcount
  else
   some (.inr (RQ.1,RQ.2))
 else
  some (.inl Ui)
def bH:Nat->bn->aa->Int->Option (Int×bn)
 | 0,_,_,_=>none
 | n+1,Sp,e_1,R8 =>
 if 32 < R8 then
  some (4,Sp)
 else
  if 4096<=Sp.fcount then
   some (14,Sp)
  else
   ck (inR (Sp.fcount+1)) <|
   (mq n e_1).bind λ r4 =>
   if r4=0 then
    jn (bz (bH n) e_1 R8 n 0 (Sp.fcount+1)) λ f27 =>
    some (0,(bn.mk f27))
   else
    some (r4,(bn.mk (Sp.fcount+1)))
instance xR (n:Nat):∀ (Sp:bn) (e_1:aa) (R8:Int) (r:Int×bn),HO (bH n Sp e_1 R8=some r) Tryz.prog 31 [.ptr 1000000 0,.p (.agg (aa.cs e_1)),.p (eI R8)] [(1000000,[.p (eI Sp.fcount)])] (.p (eI r.1)) ([(1000000,[.p (eI r.2.fcount)])]):=by
 induction n with
 | zero=>exact Zr
 | succ n ih =>
 refine λ Sp e_1 R8=>hO good [] [1000000] Tryz.func31 Z Z λ r h0 _ w0 F=>?_;rw [bH] at h0;refine nx 11 Z (fD [12] h0 Z (λ c1 h0=>?_) λ c1 h0=>?_)
 ·exact J0
 refine nx 11 Z (fD [17] h0 Z (λ c2 h0=>?_) λ c2 h0=>?_)
 ·exact J0
 refine nx 8 Z (oA h0 Z Z λ U9 h0=>?_);refine nx 8 Z (K0 λ r4 h0=>nx 7 Z ?_);refine fN [28] h0 Z (λ c6 h0=>?_) λ c6 h0=>?_
 ·refine nx 7 rfl (oLl (f:=al) Z Z ?_);refine nx 3 rfl ?_;obtain ⟨TH,h1,Sl,hR0⟩:=cm h0;refine kEx 0 (λ SP:Int=>TH=.inl SP) (λ SP=>⟨[],[(1000000,[.p (eI SP)])]⟩) (λ SP hv=>?_) ?_
  ·exact jQ
  refine lG (λ (S4:Int×Int)=>⟨[(0,.ptr 1000000 0),(2,.p (eI R8)),(31,.p (eL al e_1.AI)),(32,.p (eI (e_1.AI.length:Int))),(33,.p (eI S4.1))],[(1000000,[.p (eI S4.2)])]⟩) (λ m (S4:Int×Int)=>bz (bH n) e_1 R8 m S4.1 S4.2) Y (0,Sp.fcount+1) h1 (gE rfl rfl) ?_;rintro m ⟨Sr,Ui⟩ h1;replace h1:bz (bH n) e_1 R8 (m+1) Sr Ui=some TH:=h1;rw [bz] at h1;exact aG
 exact J0
def lC (n:Nat)(M':aa):Option Int :=
 (bH n (bn.mk 0) M' 1).bind λ r1 =>
 some r1.1
instance Kq (n:Nat) (M':aa):∀ (r:Int),HP (lC n M'=some r) Tryz.prog 12 [.agg (aa.cs M')] (.p (eI r)):=by
 refine hP good Tryz.func12 Z Z λ r h0 _ w0=>?_;unfold lC at h0;exact J0
def cw (Rx:af):Nat->Int->Option Int
 | 0,_=>none
 | m+1,f7 =>
 (
   if 0 < Rx.H' then
    ck ((0:Int)<=f7/\f7 < (Rx.fl.length:Int)) <|
    some (decide ((lat Rx.fl f7).Ar=5))
   else
    some false
  ).bind λ Vk =>
 if Vk=true then
  ck (inR (f7+1)) <|
  cw Rx m (f7+1)
 else
  some f7
def a6 (n:Nat)(Rx:af):Option (ad×af) :=
 (cw Rx n Rx.fat).bind λ VO =>
 ck ((0:Int)<=VO/\VO < (Rx.fl.length:Int)) <|
 ck (inR (((lat Rx.fl VO).fAt)+Rx.G')) <|
 some ((ad.mk ((lat Rx.fl VO).Ar) ((lat Rx.fl VO).C') (((lat Rx.fl VO).fAt)+Rx.G')),(af.mk Rx.fl VO Rx.H' Rx.G' Rx.AT))
instance zr (n:Nat) (Rx:af):∀ (r:ad×af),HO (a6 n Rx=some r) Tryz.prog 70 [.ptr 1000000 0] [(1000000,((af.cs Rx).map .p))] (.p (.agg (ad.cs r.1))) ([(1000000,((af.cs r.2).map .p))]):=by
 refine hO good [] [1000000] Tryz.func70 Z Z λ r h0 _ w0 F=>?_;unfold a6 at h0;refine nx 6 Z (bd h0 λ Ts h1 h0=>?_);refine kE 0 Ts (λ v20=>⟨[(0,.ptr 1000000 0),(2,.ptr 2 0)],[(2,iV),(1000000,[.p (eL cM Rx.fl),.p (eI v20),.p (eI Rx.H'),.p (eI Rx.G'),.p (eI Rx.AT.Ar),.p (eI Rx.AT.fAt),.p (eS Rx.AT.A')])]⟩) ?_ ?_
 ·refine nx 2 Z (cc' h0 λ S' h0=>?_);refine mG (gE (t:=⟨[(0,.ptr 1000000 0),(2,.ptr 2 0)],[(2,iV),(1000000,[.p (eL cM Rx.fl),.p (eI Ts),.p (eI Rx.H'),.p (eI Rx.G'),.p (eI Rx.AT.Ar),.p (eI Rx.AT.fAt),.p (eS Rx.AT.A')])]⟩) Z Z) (mSq ⟨2,[10,11],(by3 (.some λ i=>Nat.beq i 3) .none .none),(λ _=>[(0,.ptr 1000000 0),(2,.ptr 2 0)]),(ob3 ([(2,iV),(1000000,[.p (eL cM Rx.fl),.p (eI Ts),.p (eI Rx.H'),.p (eI Rx.G'),.p (eI Rx.AT.Ar),.p (eI Rx.AT.fAt),.p (eS Rx.AT.A')])]) (3,iV) (3,[.p (eI ((lat Rx.fl Ts).Ar)),.p (eS ((lat Rx.fl Ts).C')),.p (eI ((lat Rx.fl Ts).fAt))]))⟩ Z ?_);refine dPc (.ptr 1000000 0) Z (dPc (.ptr 1000000 0) Z ?_);refine dPc (.ptr 1000000 0) Z (dPc (.p (eL cM Rx.fl)) Z ?_);refine dPc (.ptr 1000000 0) Z (dPc (.ptr 1000000 0) Z ?_);refine dPc (.ptr 1000000 1) Z (dPc (.p (eI Ts)) Z ?_);refine dO (.rptr (ad.cs (lat Rx.fl Ts))) [33,37] Z (λ _ sl OF K hK=>ak Z (gm (f:=cM) (l:=Rx.fl) ad.cs Z Z Z Z Z Z (OF _ _ Z) Z (OF _ _ Z) S' ad.It Y hK)) (dPc (.p (.agg (ad.cs (lat Rx.fl Ts)))) Z ?_);refine dI (λ _=>.ptr 3 0) [] Z (λ sl OF K hK=>ak Z (gX Z Z Z Z Z hK)) (dS Z ?_);refine fp (nx 2 Z ?_);refine cc' h0 λ TZ h0=>mG (gE (t:=⟨[(0,.ptr 1000000 0),(2,.ptr 2 0),(3,.ptr 3 0)],[(2,iV),(3,(ad.cs (lat Rx.fl Ts)).map .p),(1000000,[.p (eL cM Rx.fl),.p (eI Ts),.p (eI Rx.H'),.p (eI Rx.G'),.p (eI Rx.AT.Ar),.p (eI Rx.AT.fAt),.p (eS Rx.AT.A')])]⟩) Z Z) (mSq ⟨1,[8],(λ _=>.none),(λ _=>[(0,.ptr 1000000 0),(2,.ptr 2 0),(3,.ptr 3 0)]),(ob2 ([(2,iV),(3,[.p (eI ((lat Rx.fl Ts).Ar)),.p (eS ((lat Rx.fl Ts).C')),.p (eI ((lat Rx.fl Ts).fAt))]),(1000000,[.p (eL cM Rx.fl),.p (eI Ts),.p (eI Rx.H'),.p (eI Rx.G'),.p (eI Rx.AT.Ar),.p (eI Rx.AT.fAt),.p (eS Rx.AT.A')])]) (3,[.p (eI ((lat Rx.fl Ts).Ar)),.p (eS ((lat Rx.fl Ts).C')),.p (eI (((lat Rx.fl Ts).fAt)+Rx.G'))]))⟩ Z ?_);refine dPc (.ptr 3 2) Z (dPc (.p (eI ((lat Rx.fl Ts).fAt))) Z ?_);refine dPc (.ptr 1000000 0) Z (dPc (.ptr 1000000 0) Z ?_);refine dPc (.ptr 1000000 3) Z (dPc (.p (eI Rx.G')) Z ?_);refine dO (.p (eI (((lat Rx.fl Ts).fAt)+Rx.G'))) [41,45] Z (λ _ sl OF K hK=>ak Z (fS Z Z Z (OF _ _ Z) (OF _ _ Z) Z TZ hK)) (dPc (.ptr 3 2) Z ?_);exact J0
 refine lG (λ (q21:Int)=>⟨[(0,.ptr 1000000 0),(2,.ptr 2 0)],[(2,iV),(1000000,[.p (eL cM Rx.fl),.p (eI q21),.p (eI Rx.H'),.p (eI Rx.G'),.p (eI Rx.AT.Ar),.p (eI Rx.AT.fAt),.p (eS Rx.AT.A')])]⟩) (λ m (q21:Int)=>cw Rx m q21) Y Rx.fat h1 (gE rfl rfl) ?_;rintro m f7 h1;replace h1:cw Rx (m+1) f7=some Ts:=h1;rw [cw] at h1;refine nx 2 rfl (bd h1 λ WU h2 h1=>?_);refine kN WU (λ W3=>⟨[(0,.ptr 1000000 0),(2,.ptr 2 0),(22,.p (eB W3))],[(2,iV),(1000000,[.p (eL cM Rx.fl),.p (eI f7),.p (eI Rx.H'),.p (eI Rx.G'),.p (eI Rx.AT.Ar),.p (eI Rx.AT.fAt),.p (eS Rx.AT.A')])]⟩) ?_ ?_
 ·exact aG
 refine fD (p:=0 < Rx.H') [] h2 Z (λ c8 h2=>?_) λ c8 h2=>?_
 ·refine cc' h2 λ UZ h2=>mD [(0,.ptr 1000000 0),(2,.ptr 2 0)] Z ⟨Z,Z,trivial⟩ Z (dR 4 Z ?_);refine dL (dt c8) Z (dR 9 Z ?_);refine dq (.rptr (ad.cs (lat Rx.fl f7))) [9,13,17] Z (λ _ e _ q=>fu (gm (f:=cM) (l:=Rx.fl) ad.cs Z Z Z Z Z Z (e _ _ Z) Z (e _ _ Z) UZ ad.It Y q) Z Z (e _ _ Z) (rfl)) Z (dR 4 Z ?_);exact gN
 refine mD [(0,.ptr 1000000 0),(2,.ptr 2 0)] Z ⟨Z,Z,trivial⟩ Z (dR 4 Z ?_);refine dL (df c8) Z (dR 14 Z ?_);refine dE Z (nx 1 Z ?_);exact gN
def aD (n:Nat)(Rx:af):Option (ad×af) :=
 (a6 n Rx).bind λ r1 =>
 (
   if r1.1.Ar=6 then
    some r1.2.fat
   else
    ck (inR (r1.2.fat+1)) <|
    some (r1.2.fat+1)
  ).bind λ f5 =>
 some (r1.1,(af.mk r1.2.fl f5 r1.2.H' r1.2.G' r1.2.AT))
instance zC (n:Nat) (Rx:af):∀ (r:ad×af),HO (aD n Rx=some r) Tryz.prog 102 [.ptr 1000000 0] [(1000000,((af.cs Rx).map .p))] (.p (.agg (ad.cs r.1))) ([(1000000,((af.cs r.2).map .p))]):=by
 refine hO good [] [1000000] Tryz.func102 Z Z λ r h0 _ w0 F=>?_;unfold aD at h0;refine nx 7 Z (K0 λ r1 h0=>?_);refine nx 4 Z (bd h0 λ o7 h1 h0=>?_);refine kN o7 (λ v8=>⟨[(2,.ptr 2 0),(3,.ptr 3 0)],[(2,iV),(3,(ad.cs r1.1).map .p),(1000000,[.p (eL cM r1.2.fl),.p (eI v8),.p (eI r1.2.H'),.p (eI r1.2.G'),.p (eI r1.2.AT.Ar),.p (eI r1.2.AT.fAt),.p (eS r1.2.AT.A')])]⟩) ?_ ?_
 ·exact J0
 exact aG
def aK (Rx:af):Option (Bool×af) :=
 some (!decide (Rx.AT.Ar=0),Rx)
instance xN (Rx:af):∀ (r:Bool×af),HO (aK Rx=some r) Tryz.prog 121 [.ptr 1000000 0] [(1000000,((af.cs Rx).map .p))] (.p (eB r.1)) ([(1000000,((af.cs r.2).map .p))]):=by
 refine hO good [] [1000000] Tryz.func121 Z Z λ r h0 _ w0 F=>?_;unfold aK at h0;exact J0
def aR (n:Nat)(Rx:af)(s_1:Bytes):Option (Bool×af) :=
 (a6 n Rx).bind λ r1 =>
 (
   (aK r1.2).bind λ r3 =>
   if (!r3.1)=true then
    if r1.1.Ar=4 then
     some (decide (r1.1.C'=s_1),r3.2.fl,r3.2.fat,r3.2.H',r3.2.G',r3.2.AT.Ar,r3.2.AT.fAt,r3.2.AT.A')
    else
     some (false,r3.2.fl,r3.2.fat,r3.2.H',r3.2.G',r3.2.AT.Ar,r3.2.AT.fAt,r3.2.AT.A')
   else
    some (false,r3.2.fl,r3.2.fat,r3.2.H',r3.2.G',r3.2.AT.Ar,r3.2.AT.fAt,r3.2.AT.A')
  ).bind λ TT =>
 some (TT.1,(af.mk TT.2.1 TT.2.2.1 TT.2.2.2.1 TT.2.2.2.2.1 (ap.mk TT.2.2.2.2.2.1 TT.2.2.2.2.2.2.1 TT.2.2.2.2.2.2.2)))
instance zu (n:Nat) (Rx:af) (s_1:Bytes):∀ (r:Bool×af),HO (aR n Rx s_1=some r) Tryz.prog 101 [.ptr 1000000 0,.p (eS s_1)] [(1000000,((af.cs Rx).map .p))] (.p (eB r.1)) ([(1000000,((af.cs r.2).map .p))]):=by
 refine hO good [] [1000000] Tryz.func101 Z Z λ r h0 _ w0 F=>?_;unfold aR at h0;exact F8
def bc (Rx:af)(k_1:Int)(at_2:Int):Option (aa×af) :=
 (
   (aK Rx).bind λ r1 =>
   if (!r1.1)=true then
    some (r1.2.fl,r1.2.fat,r1.2.H',r1.2.G',k_1,at_2,([]:Bytes))
   else
    some (r1.2.fl,r1.2.fat,r1.2.H',r1.2.G',r1.2.AT.Ar,r1.2.AT.fAt,r1.2.AT.A')
  ).bind λ Wh =>
 some ((aa.mk 0 0 ([]:Bytes) ([]:Bytes) (ag.mk 0 0 ([]:Bytes) [] []) [] 0),(af.mk Wh.1 Wh.2.1 Wh.2.2.1 Wh.2.2.2.1 (ap.mk Wh.2.2.2.2.1 Wh.2.2.2.2.2.1 Wh.2.2.2.2.2.2)))
instance zD (Rx:af) (k_1:Int) (at_2:Int):∀ (r:aa×af),HO (bc Rx k_1 at_2=some r) Tryz.prog 71 [.ptr 1000000 0,.p (eI k_1),.p (eI at_2)] [(1000000,((af.cs Rx).map .p))] (.p (.agg (aa.cs r.1))) ([(1000000,((af.cs r.2).map .p))]):=by
 refine hO good [] [1000000] Tryz.func71 Z Z λ r h0 _ w0 F=>?_;unfold bc at h0;have:=js [101];have:=jO 101 (List ad×Int×Int×Int×Int×Int×Bytes) λ v=>[(1000000,(og v))]
 exact J0
def fJ (Rz:ag)(RV:Int):Option aa :=
 some (aa.mk 1 0 ([]:Bytes) ([]:Bytes) Rz [] RV)
instance ES (Rz:ag) (RV:Int):∀ (r:aa),HP (fJ Rz RV=some r) Tryz.prog 39 [.agg (ag.cs Rz),eI RV] (.p (.agg (aa.cs r))):=by
 refine hP good Tryz.func39 Z Z λ r h0 _ w0=>?_;unfold fJ at h0;exact J0
def gY (n:Nat)(M':aa)(d_1:ap):Option (aa×ap) :=
 if d_1.Ar=0 then
  (lC n M').bind λ r2 =>
  if r2=0 then
   some (M',(ap.mk 0 0 ([]:Bytes)))
  else
   some ((aa.mk 0 0 ([]:Bytes) ([]:Bytes) (ag.mk 0 0 ([]:Bytes) [] []) [] 0),(ap.mk r2 M'.fAt ([]:Bytes)))
 else
  some ((aa.mk 0 0 ([]:Bytes) ([]:Bytes) (ag.mk 0 0 ([]:Bytes) [] []) [] 0),d_1)
instance JS (n:Nat) (M':aa) (d_1:ap):∀ (r:aa×ap),HP (gY n M' d_1=some r) Tryz.prog 34 [.agg (aa.cs M'),.agg (ap.cs d_1)] (.tuple [.p (.agg (aa.cs r.1)),.p (.agg (ap.cs r.2))]):=by
 refine hP good Tryz.func34 Z Z λ r h0 _ w0=>?_;unfold gY at h0;exact J0
def dh (N':am):Option (ap×am) :=
 if 4096 < (N'.E'.length:Int) then
  ck (inR (N'.fat+N'.D')) <|
  some ((ap.mk 3 (N'.fat+N'.D') ([]:Bytes)),(am.mk N'.fs N'.fat N'.fi N'.D' N'.E' N'.BY N'.IN))
 else
  some ((ap.mk 0 0 ([]:Bytes)),(am.mk N'.fs N'.fat N'.fi N'.D' N'.E' N'.BY N'.IN))
instance xQ (N':am):∀ (r:ap×am),HO (dh N'=some r) Tryz.prog 76 [.ptr 1000000 0] [(1000000,[.p (eS N'.fs),.p (eI N'.fat),.p (eI N'.fi),.p (eI N'.D'),.p (eS N'.E'),.vec 900000 11 0 (N'.BY.map al),.p (eB N'.IN)])] (.p (.agg (ap.cs r.1))) ([(1000000,[.p (eS r.2.fs),.p (eI r.2.fat),.p (eI r.2.fi),.p (eI r.2.D'),.p (eS r.2.E'),.vec 2000000 11 0 (r.2.BY.map al),.p (eB r.2.IN)])]):=by
 refine hO good [800000] [1000000] Tryz.func76 Z Z λ r h0 _ w0 F=>?_;unfold dh at h0;refine nx 11 Z (oLs Z ?_);refine nx 2 Z (fD [8] h0 Z (λ c1 h0=>?_) λ c1 h0=>?_)
 ·refine nx 2 Z (cc' h0 λ To h0=>?_);refine mG Gj (mSq ⟨1,[10],(λ _=>.none),(λ _=>[(0,.ptr 1000000 0),(2,.ptr 2 0)]),(ob2 ([(2,jw),(1000000,[.p (eS N'.fs),.p (eI N'.fat),.p (eI N'.fi),.p (eI N'.D'),.p (eS N'.E'),.vec 900000 11 0 (N'.BY.map al),.p (eB N'.IN)])]) (2,[.p (eI 3),.p (eI (N'.fat+N'.D')),.p (eS ([]:Bytes))]))⟩ Z ?_);refine dPc (.ptr 1000000 0) Z (dPc (.ptr 1000000 0) Z ?_);refine dPc (.ptr 1000000 1) Z (dPc (.p (eI N'.fat)) Z ?_);refine dPc (.ptr 1000000 0) Z (dPc (.ptr 1000000 0) Z ?_);refine dPc (.ptr 1000000 3) Z (dPc (.p (eI N'.D')) Z ?_);refine dO (.p (eI (N'.fat+N'.D'))) [12,16] Z (λ _ sl OF K hK=>ak Z (fS Z Z Z (OF _ _ Z) (OF _ _ Z) Z To hK)) (dPc (.p (.agg [eI 3,eI (N'.fat+N'.D'),eS ([]:Bytes)])) Z ?_);refine dS Z (fp ?_);exact nx 2 Z A8
 exact nx 8 Z A8
def dK (N':am):Option am :=
 (
   if N'.D' < N'.fi then
    ck (inR (N'.fat+N'.D')) <|
    (fJ (ag.mk 3 0 N'.E' [] []) (N'.fat+N'.D')).bind λ r3 =>
    ck ((N'.BY.length+1)*160<=140737488355328) <|
    some (N'.BY++[r3])
   else
    some N'.BY
  ).bind λ f6 =>
 some (am.mk N'.fs N'.fat N'.fi N'.D' ([]:Bytes) f6 N'.IN)
instance wH (N':am):∀ (r:am),HO (dK N'=some r) Tryz.prog 40 [.ptr 1000000 0] [(1000000,[.p (eS N'.fs),.p (eI N'.fat),.p (eI N'.fi),.p (eI N'.D'),.p (eS N'.E'),.vec 900000 11 0 (N'.BY.map al),.p (eB N'.IN)])] (.tuple []) ([(1000000,[.p (eS r.fs),.p (eI r.fat),.p (eI r.fi),.p (eI r.D'),.p (eS r.E'),.vec 2000000 11 0 (r.BY.map al),.p (eB r.IN)])]):=by
 refine hO good [800000] [1000000] Tryz.func40 Z Z λ r h0 _ w0 F=>?_;unfold dK at h0;refine nx 1 Z (bd h0 λ o8 h1 h0=>?_);refine kN o8 (λ v9=>⟨[(0,.ptr 1000000 0)],[(1000000,[.p (eS N'.fs),.p (eI N'.fat),.p (eI N'.fi),.p (eI N'.D'),.p (eS N'.E'),.vec 900000 11 0 (v9.map al),.p (eB N'.IN)])]⟩) ?_ ?_
 ·exact nx 7 Z (Mf (oi h0) (bo (ca 900000 800000 Z Z Z Z Z) (aQ _)) Z Z Z Z (sr) ⟨⟨_,Z,⟨sr,sr,sr,sr,sr,sr,sr,trivial⟩⟩,trivial⟩)
 refine nx 1 Z (mD [(0,.ptr 1000000 0)] Z ⟨Z,trivial⟩ Z ?_);refine dR 9 Z (dE Z ?_);refine nx 1 Z (fD [10] h1 Z (λ c1 h1=>?_) λ c1 h1=>?_)
 ·refine nx 1 Z (cc' h1 λ To h1=>?_);refine bd h1 λ r3 e4 h1=>cc' h1 λ Up h1=>mG (gE (t:=⟨[(0,.ptr 1000000 0)],[(1000000,[.p (eS N'.fs),.p (eI N'.fat),.p (eI N'.fi),.p (eI N'.D'),.p (eS N'.E'),.vec 900000 11 0 (N'.BY.map al),.p (eB N'.IN)])]⟩) Z Z) (mSP ⟨3,[21,23,26],(by4 (.some λ i=>Nat.beq i 900000||Nat.beq i 32) (.fn (upP 32 11 (.agg (aa.cs r3)))) .none .none),(λ _=>[(0,.ptr 1000000 0)]),(by4 ([(1000000,[.p (eS N'.fs),.p (eI N'.fat),.p (eI N'.fi),.p (eI N'.D'),.p (eS N'.E'),.vec 900000 11 0 (N'.BY.map al),.p (eB N'.IN)])]) ([(1000000,((am.cs N').map .p))]) ([(1000000,((am.cs N').map .p))]) ([(1000000,[.p (eS N'.fs),.p (eI N'.fat),.p (eI N'.fi),.p (eI N'.D'),.p (eS N'.E'),.vec 32 11 0 (N'.BY.map al++[.agg (aa.cs r3)]),.p (eB N'.IN)]),(1000000,((am.cs N').map .p))]))⟩ ⟨3,[21,26,23],(by4 (.some λ i=>Nat.beq i 900000||Nat.beq i 32) .none (.fn (upP 32 11 (.agg (aa.cs r3)))) .none),(λ _=>[(0,.ptr 1000000 0)]),(by4 ([(1000000,[.p (eS N'.fs),.p (eI N'.fat),.p (eI N'.fi),.p (eI N'.D'),.p (eS N'.E'),.vec 900000 11 0 (N'.BY.map al),.p (eB N'.IN)])]) ([(1000000,((am.cs N').map .p))]) ([(1000000,[.p (eS N'.fs),.p (eI N'.fat),.p (eI N'.fi),.p (eI N'.D'),.p (eS N'.E'),.vecp 32 11 0 (N'.BY.map al),.p (eB N'.IN)]),(1000000,((am.cs N').map .p))]) ([(1000000,[.p (eS N'.fs),.p (eI N'.fat),.p (eI N'.fi),.p (eI N'.D'),.p (eS N'.E'),.vec 32 11 0 (N'.BY.map al++[.agg (aa.cs r3)]),.p (eB N'.IN)]),(1000000,((am.cs N').map .p))]))⟩ Z Z Z Z Z Z Z ⟨Z,trivial⟩ Z (lt3 ⟨Z,trivial⟩ ⟨Z,trivial⟩ ⟨Z,trivial⟩) (lt3 ⟨Z,trivial⟩ ⟨Z,trivial⟩ ⟨Z,trivial⟩) Z Z Z Z Z ?_);refine dPc (.ptr 1000000 0) Z (dPc (.ptr 1000000 0) Z ?_);refine dPc (.ptr 1000000 5) Z (dP (by4 (.vec 900000 11 0 (N'.BY.map al)) (.p (eL al N'.BY)) (.p (eL al N'.BY)) (.p (eL al N'.BY))) Z ?_);refine dPc (.ptr 1000000 0) Z (dPc (.ptr 1000000 0) Z ?_);refine dPc (.ptr 1000000 4) Z (dPc (.p (eS N'.E')) Z ?_);refine dPc (.p (.agg [eI 3,eI 0,eS N'.E',.val (.slice none 0 0),.val (.slice none 0 0)])) Z (dPc (.ptr 1000000 0) Z ?_);refine dPc (.ptr 1000000 0) Z (dPc (.ptr 1000000 1) Z ?_);refine dPc (.p (eI N'.fat)) Z (dPc (.ptr 1000000 0) Z ?_);refine dPc (.ptr 1000000 0) Z (dPc (.ptr 1000000 3) Z ?_);refine dPc (.p (eI N'.D')) Z (dO (.p (eI (N'.fat+N'.D'))) [23,27] Z (λ _ sl OF K hK=>ak Z (fS Z Z Z (OF _ _ Z) (OF _ _ Z) Z To hK)) ?_);refine dO (.p (.agg (aa.cs r3))) [19,28] Z (λ _ sl OF K hK=>ak Z (bS (HP.c e4) Z Z Z (av (OF _ _ Z) (av (OF _ _ Z) bm)) ⟨oH ⟨.inl Z,.inl Z,.inl Z,.inr ⟨Z,Z⟩,.inr ⟨Z,Z⟩,trivial⟩,sr,trivial⟩ Tryz.call39 Z hK)) (dO (.p (eI (N'.BY.length:Int))) [14] Z (λ _ sl OF K hK=>ak Z (pS (f:=al) (l:=N'.BY) Z Z Z Z Z (OF _ _ Z) Z hK)) ?_);refine dO (.p (eL (λ x:PV=>x) [.agg qz])) [] Z (λ _ sl OF K hK=>ak Z (bp (λ x:PV=>x) [.agg qz] Z Z Z Z Z Z (fh Z Z gH) Z Z Z Z Z Z Z hK)) (dI (by4 (.vecp 32 11 0 (N'.BY.map al)) (.vecp 32 11 0 (N'.BY.map al)) (.vec 32 11 0 (N'.BY.map al++[.agg (aa.cs r3)])) (.vec 32 11 0 (N'.BY.map al++[.agg (aa.cs r3)]))) [14,31] Z (λ sl OF K hK=>ak Z (pQ al N'.BY Z Z Z Z Z Z Z Z (OF _ _ Z) Z Z (OF _ _ Z) Z Z Z Z Z Up hK)) ?_);refine pM (by4 (.elp 32 11) (.elp 32 11) .undef .undef) Z Z Z (Lb Z Z Z Y) (lt3 (nl Z) Y Y) (cP Z (cP Z (cp [(30,_),(32,_)] ⟨.inr ⟨19,_,Z,Z,Z⟩,.inr ⟨21,_,Z,Z,Z⟩,trivial⟩ (λ sl OF K hK=>ak Z (oO Z Z Z Z Z Z Z (OF _ _ Z) (OF _ _ Z) qJ hK)) (cP Z cF)))) (kd [(29,_),(33,_)] Z ⟨.inr ⟨18,_,Z,Z,Z⟩,.inr ⟨22,_,Z,Z,Z⟩,trivial⟩ Z (λ sl OF K hK=>ak Z (xb (z:=.agg (aa.cs r3)) Z Z Z Z (OF _ _ Z) (OF _ _ Z) Z Z Z Z Z hK)) ?_);refine dPc (.ptr 1000000 0) Z (dPc (.ptr 1000000 5) Z ?_);refine dS Z (AW (dPc (.ptr 1000000 0) Z (dPc (.ptr 1000000 0) Z (dPc (.ptr 1000000 5) Z (dP (by4 (.vec 900000 11 0 (N'.BY.map al)) (.p (eL al N'.BY)) (.p (eL al N'.BY)) (.p (eL al N'.BY))) Z (dPc (.ptr 1000000 0) Z (dPc (.ptr 1000000 0) Z (dPc (.ptr 1000000 4) Z (dPc (.p (eS N'.E')) Z (dPc (.p (.agg [eI 3,eI 0,eS N'.E',.val (.slice none 0 0),.val (.slice none 0 0)])) Z (dPc (.ptr 1000000 0) Z (dPc (.ptr 1000000 0) Z (dPc (.ptr 1000000 1) Z (dPc (.p (eI N'.fat)) Z (dPc (.ptr 1000000 0) Z (dPc (.ptr 1000000 0) Z (dPc (.ptr 1000000 3) Z (dPc (.p (eI N'.D')) Z (dO (.p (eI (N'.fat+N'.D'))) [23,27] Z (λ _ sl OF K hK=>ak Z (fS Z Z Z (OF _ _ Z) (OF _ _ Z) Z To hK)) (dO (.p (.agg (aa.cs r3))) [19,28] Z (λ _ sl OF K hK=>ak Z (bS (HP.c e4) Z Z Z (av (OF _ _ Z) (av (OF _ _ Z) bm)) ⟨oH ⟨.inl Z,.inl Z,.inl Z,.inr ⟨Z,Z⟩,.inr ⟨Z,Z⟩,trivial⟩,sr,trivial⟩ Tryz.call39 Z hK)) (dO (.p (eI (N'.BY.length:Int))) [14] Z (λ _ sl OF K hK=>ak Z (pS (f:=al) (l:=N'.BY) Z Z Z Z Z (OF _ _ Z) Z hK)) (dO (.p (eL (λ x:PV=>x) [.agg qz])) [] Z (λ _ sl OF K hK=>ak Z (bp (λ x:PV=>x) [.agg qz] Z Z Z Z Z Z (fh Z Z gH) Z Z Z Z Z Z Z hK)) (dI (by4 (.vecp 32 11 0 (N'.BY.map al)) (.vecp 32 11 0 (N'.BY.map al)) (.vecp 32 11 0 (N'.BY.map al)) (.vec 32 11 0 (N'.BY.map al++[.agg (aa.cs r3)]))) [14,31] Z (λ sl OF K hK=>ak Z (pQ al N'.BY Z Z Z Z Z Z Z Z (OF _ _ Z) Z Z (OF _ _ Z) Z Z Z Z Z Up hK)) (pM (by4 (.elp 32 11) (.elp 32 11) (.elp 32 11) .undef) Z Z Z (Lb Z Z Z Y) (lt3 (nl Z) Y Y) (cP Z (cp [(30,_),(32,_)] ⟨.inr ⟨19,_,Z,Z,Z⟩,.inr ⟨21,_,Z,Z,Z⟩,trivial⟩ (λ sl OF K hK=>ak Z (oO Z Z Z Z Z Z Z (OF _ _ Z) (OF _ _ Z) qJ hK)) (cp [(30,_),(32,_)] ⟨.inr ⟨19,_,Z,Z,Z⟩,.inr ⟨21,_,Z,Z,Z⟩,trivial⟩ (λ sl OF K hK=>ak Z (oO Z Z Z Z Z Z Z (OF _ _ Z) (OF _ _ Z) qJ hK)) (cP Z cF)))) (kd [(29,_),(33,_)] Z ⟨.inr ⟨18,_,Z,Z,Z⟩,.inr ⟨22,_,Z,Z,Z⟩,trivial⟩ Z (λ sl OF K hK=>ak Z (xb (z:=.agg (aa.cs r3)) Z Z Z Z (OF _ _ Z) (OF _ _ Z) Z Z Z Z Z hK)) (dPc (.ptr 1000000 0) Z (dPc (.ptr 1000000 5) Z (dS Z (Cc Z ⟨Z,Z,trivial⟩ ⟨⟨Z,Z,.inr Z⟩,⟨⟨Z,Z,.inr Z⟩,⟨⟨Z,Z,.inr Z⟩,⟨⟨Z,Z,.inr Z⟩,⟨⟨Z,Z,.inr Z⟩,⟨⟨Z,Z,.inr Z⟩,⟨⟨Z,Z,.inr Z⟩,⟨⟨Z,Z,.inr Z⟩,⟨⟨Z,Z,.inr Z⟩,⟨⟨Z,Z,.inr Z⟩,⟨⟨Z,Z,.inr Z⟩,⟨⟨Z,Z,.inr Z⟩,⟨⟨Z,Z,.inr Z⟩,⟨⟨Z,Z,.inr Z⟩,⟨⟨Z,Z,.inr Z⟩,⟨⟨Z,Z,.inr Z⟩,⟨⟨Z,Z,.inr Z⟩,⟨⟨Z,Z,.inr Z⟩,⟨⟨Z,Z,.inr Z⟩,⟨⟨Z,Z,.inr Z⟩,⟨⟨Z,Z,.inr Z⟩,⟨⟨Z,Z,.inr Z⟩,⟨⟨Z,Z,.inr Z⟩,⟨⟨Z,Z,.inr Z⟩,⟨⟨Z,Z,.inr Z⟩,trivial⟩⟩⟩⟩⟩⟩⟩⟩⟩⟩⟩⟩⟩⟩⟩⟩⟩⟩⟩⟩⟩⟩⟩⟩⟩)))))))))))))))))))))))))))) ?_);refine mG (fb (t:=⟨[(0,.ptr 1000000 0)],[(1000000,[.p (eS N'.fs),.p (eI N'.fat),.p (eI N'.fi),.p (eI N'.D'),.p (eS N'.E'),.vec 32 11 0 ((N'.BY++[r3]).map al),.p (eB N'.IN)])]⟩) (nS ⟨er Z,trivial⟩ ⟨⟨_,Z,⟨sr,sr,sr,sr,sr,AV.sub_of_eq Gf,sr,trivial⟩⟩,trivial⟩)) (nx 1 Z ?_);exact eX _ (oi h1).symm (bo (ca 32 900000 Z Z Z Z Z) (gE Z Z))
 exact aG
def dd (SK:Bytes->Int->Option Int)(Mr:Bytes):Nat->Int->Int->Option (Unit⊕Int)
 | 0,_,_=>none
 | m+1,i18,depth19 =>
 if i18 < (Mr.length:Int) then
  ck ((0:Int)<=i18/\i18 < (Mr.length:Int)) <|
  jn (
    if byt Mr i18=123 then
     ck (inR (depth19+1)) <|
     some (.inl (i18,depth19+1))
    else
     if byt Mr i18=125 then
      ck (inR (depth19 - 1)) <|
      if depth19 - 1=0 then
       some (.inr (.inr i18))
      else
       some (.inl (i18,depth19 - 1))
     else
      if byt Mr i18=34 then
       ck (inR (i18+1)) <|
       (SK Mr (i18+1)).bind λ UB =>
       if UB < 0 then
        some (.inr (.inr (-1)))
       else
        some (.inl (UB,depth19))
      else
       some (.inl (i18,depth19))
   : Option ((Int×Int)⊕(Unit⊕Int))) λ Xf =>
  ck (inR (Xf.1+1)) <|
  dd SK Mr m (Xf.1+1) Xf.2
 else
  some (.inl ())
def dD (SA:Bytes->Int->Option Int)(Mr:Bytes):Nat->Int->Option (Unit⊕Int)
 | 0,_=>none
 | m+1,i23 =>
 if i23 < (Mr.length:Int) then
  jn (
    ck ((0:Int)<=i23/\i23 < (Mr.length:Int)) <|
    if byt Mr i23=34 then
     some (.inr (.inr i23))
    else
     ck ((0:Int)<=i23/\i23 < (Mr.length:Int)) <|
     if byt Mr i23=92 then
      ck (inR (i23+1)) <|
      some (.inl (i23+1))
     else
      ck ((0:Int)<=i23/\i23<=(Mr.length:Int)/\(Mr.length:Int)<=(Mr.length:Int)) <|
      (strings_HasPrefix (sub Mr i23 (Mr.length:Int)) ([36,36,123]:Bytes)).bind λ r31 =>
      if r31=true then
       ck (inR (i23+2)) <|
       some (.inl (i23+2))
      else
       ck ((0:Int)<=i23/\i23<=(Mr.length:Int)/\(Mr.length:Int)<=(Mr.length:Int)) <|
       (strings_HasPrefix (sub Mr i23 (Mr.length:Int)) ([36,123]:Bytes)).bind λ r36 =>
       if r36=true then
        ck (inR (i23+2)) <|
        (SA Mr (i23+2)).bind λ VX =>
        if VX < 0 then
         some (.inr (.inr (-1)))
        else
         some (.inl VX)
       else
        some (.inl i23)
   : Option (Int⊕(Unit⊕Int))) λ i43 =>
  ck (inR (i43+1)) <|
  dD SA Mr m (i43+1)
 else
  some (.inl ())
mutual
def da:Nat->Bytes->Int->Option Int
 | 0,_,_=>none
 | n+1,Mr,RG =>
 jn (dd (eJ n) Mr n RG 1) λ _VA =>
 some (-1)
def eJ:Nat->Bytes->Int->Option Int
 | 0,_,_=>none
 | n+1,Mr,RG =>
 jn (dD (da n) Mr n RG) λ _Uh =>
 some (-1)
end
theorem re (n:Nat):tu (da n) 124/\tu (eJ n) 156:=by
 induction n with
 | zero=>exact Zr
 | succ n ih =>
 obtain ⟨_,_⟩:=ih;refine ⟨?_,?_⟩
 ·refine λ Mr RG=>hP good Tryz.func124 Z Z λ r h0 _ w0=>?_;rw [da] at h0;refine nx 10 rfl ?_;obtain ⟨o39,h1,Sl,hR0⟩:=cm h0;refine kEx 0 (λ W0:Unit=>o39=.inl W0) (λ W0=>⟨[],[]⟩) (λ W0 hv=>?_) ?_
  ·exact jQ
  refine lG (λ (Xe:Int×Int)=>⟨[(0,.p (eS Mr)),(1,.p (eI Xe.1)),(5,.p (eI Xe.2))],[]⟩) (λ m (Xe:Int×Int)=>dd (eJ n) Mr m Xe.1 Xe.2) Y (RG,1) h1 (gE rfl rfl) ?_;rintro m ⟨i18,depth19⟩ h1;replace h1:dd (eJ n) Mr (m+1) i18 depth19=some o39:=h1;rw [dd] at h1;refine nx 5 rfl (oLs rfl ?_);refine nx 2 rfl (fD [9] h1 rfl (λ c20 h1=>?_) λ c20 h1=>?_)
  ·refine nx 8 rfl (oI h1 rfl λ Tm h1=>?_);refine nx 1 rfl ?_;obtain ⟨UE,h2,hL1,hR1⟩:=cm h1;refine kX (λ TO:Int×Int=>UE=.inl TO) (λ TO=>⟨[(0,.p (eS Mr)),(1,.p (eI TO.1)),(5,.p (eI TO.2))],[]⟩) (λ TO hv=>?_) ?_
   ·have h1:=hL1 _ hv;exact aG
   exact gN
  exact aG
 ·refine λ Mr RG=>hP good Tryz.func156 Z Z λ r h0 _ w0=>?_;rw [eJ] at h0;refine nx 6 rfl ?_;obtain ⟨o48,h1,Sl,hR0⟩:=cm h0;refine kEx 0 (λ VS:Unit=>o48=.inl VS) (λ VS=>⟨[],[]⟩) (λ VS hv=>?_) ?_
  ·exact jQ
  refine lG (λ (q50:Int)=>⟨[(0,.p (eS Mr)),(1,.p (eI q50))],[]⟩) (λ m (q50:Int)=>dD (da n) Mr m q50) Y RG h1 (gE rfl rfl) ?_;rintro m i23 h1;replace h1:dD (da n) Mr (m+1) i23=some o48:=h1;rw [dD] at h1;refine nx 5 rfl (oLs rfl ?_);refine nx 2 rfl (fD [8] h1 rfl (λ WM h1=>?_) λ WM h1=>?_)
  ·refine nx 4 rfl ?_;obtain ⟨o51,h2,hL1,hR1⟩:=cm h1;refine kX (λ v52:Int=>o51=.inl v52) (λ v52=>⟨[(0,.p (eS Mr)),(1,.p (eI v52))],[]⟩) (λ v52 hv=>?_) ?_
   ·have h1:=hL1 _ hv;exact aG
   exact gN
  exact aG
instance EO (n:Nat):tu (da n) 124:=(re n).1
def bO (Mr:Bytes):Nat->Int->Option Int
 | 0,_=>none
 | m+1,n10 =>
 (
   if n10 < (Mr.length:Int) then
    if n10 < 6 then
     ck ((0:Int)<=n10/\n10 < (Mr.length:Int)) <|
     (strings_IndexByte ([48,49,50,51,52,53,54,55,56,57,97,98,99,100,101,102]:Bytes) (byt Mr n10)).bind λ T9 =>
     some (decide (0<=T9))
    else
     some false
   else
    some false
  ).bind λ Sr =>
 if Sr=true then
  ck (inR (n10+1)) <|
  bO Mr m (n10+1)
 else
  some n10
def fY (n:Nat)(Mr:Bytes):Option Int :=
 (bO Mr n 0).bind λ n20 =>
 some n20
instance zz (n:Nat) (Mr:Bytes):∀ (r:Int),HP (fY n Mr=some r) Tryz.prog 157 [eS Mr] (.p (eI r)):=by
 refine hP good Tryz.func157 Z Z λ r h0 _ w0=>?_;unfold fY at h0;refine nx 10 Z (bd h0 λ TV h1 h0=>?_);refine kE 0 TV (λ T5=>⟨[(3,.p (eI T5))],[]⟩) ?_ ?_
 ·exact J0
 refine lG (λ (VB:Int)=>⟨[(0,.p (eS Mr)),(3,.p (eI VB))],[]⟩) (λ m (VB:Int)=>bO Mr m VB) Y 0 h1 (gE rfl rfl) ?_;rintro m n10 h1;replace h1:bO Mr (m+1) n10=some TV:=h1;rw [bO] at h1;have:=js [200];have:=jS 200 Bool λ v=>[(18,.p (eB v))]
 exact aG
def kx (n:Nat)(Mr:Bytes):Option (Bytes×Int×Int) :=
 jn (
   (strings_HasPrefix Mr ([92,117]:Bytes)).bind λ r1 =>
   if r1=true then
    (
      if 2 < (Mr.length:Int) then
       ck ((0:Int)<=2/\2 < (Mr.length:Int)) <|
       some (!decide (byt Mr 2=123))
      else
       some false
     ).bind λ t6 =>
    if t6=true then
     some (.inr (([]:Bytes),0,2))
    else
     if 3 < (Mr.length:Int) then
      ck ((0:Int)<=3/\3<=(Mr.length:Int)/\(Mr.length:Int)<=(Mr.length:Int)) <|
      (fY n (sub Mr 3 (Mr.length:Int))).bind λ R5 =>
      ck (inR (4+R5)) <|
      some (.inl (4+R5))
     else
      some (.inl 4)
   else
    some (.inl 2)
  : Option (Int⊕(Bytes×Int×Int))) λ n13 =>
 if (Mr.length:Int) < n13 then
  some (([]:Bytes),0,40)
 else
  ck ((0:Int)<=0/\0<=n13/\n13<=(Mr.length:Int)) <|
  ck (([34]:Bytes).length+(sub Mr 0 n13).length<=9223372036854775807) <|
  ck ((([34]:Bytes)++(sub Mr 0 n13)).length+([34]:Bytes).length<=9223372036854775807) <|
  (fZ n ((([34]:Bytes)++(sub Mr 0 n13))++([34]:Bytes))).bind λ S3 =>
  if S3.2.2=0 then
   some (S3.1,n13,0)
  else
   some (([]:Bytes),0,2)
instance Kj (n:Nat) (Mr:Bytes):∀ (r:Bytes×Int×Int),HP (kx n Mr=some r) Tryz.prog 125 [eS Mr] (.tuple [.p (eS r.1),.p (eI r.2.1),.p (eI r.2.2)]):=by
 refine hP good Tryz.func125 Z Z λ r h0 _ w0=>?_;unfold kx at h0;refine nx 11 rfl ?_;obtain ⟨TV,h1,Sl,hR0⟩:=cm h0;refine kX (λ T5:Int=>TV=.inl T5) (λ T5=>⟨[(0,.p (eS Mr)),(5,.p (eI T5))],[]⟩) (λ T5 hv=>?_) ?_
 ·exact jQ
 have:=js [300];have:=jS 300 Bool λ v=>[(18,.p (eB v))]
 exact aG
def fj (n:Nat)(N':am):Option (ap×am) :=
 ck ((0:Int)<=N'.fi/\N'.fi<=(N'.fs.length:Int)/\(N'.fs.length:Int)<=(N'.fs.length:Int)) <|
 jn (
   ck ((0:Int)<=0/\0 < ((sub N'.fs N'.fi (N'.fs.length:Int)).length:Int)) <|
   if byt (sub N'.fs N'.fi (N'.fs.length:Int)) 0=92 then
    (kx n (sub N'.fs N'.fi (N'.fs.length:Int))).bind λ r4 =>
    if r4.2.2=0 then
     ck (N'.E'.length+r4.1.length<=9223372036854775807) <|
     ck (inR (N'.fi+r4.2.1)) <|
     some (.inl (N'.fi+r4.2.1,N'.E'++r4.1))
    else
     ck (inR (N'.fat+N'.fi)) <|
     some (.inr ((ap.mk r4.2.2 (N'.fat+N'.fi) ([]:Bytes)),(am.mk N'.fs N'.fat N'.fi N'.D' N'.E' N'.BY N'.IN)))
   else
    (aZ (sub N'.fs N'.fi (N'.fs.length:Int))).bind λ R5 =>
    (
      if R5.1=65533 then
       if R5.2=1 then
        some true
       else
        if R5.1 < 32 then
         some true
        else
         if R5.1=127 then
          some true
         else
          some (decide (R5.1=34))
      else
       if R5.1 < 32 then
        some true
       else
        if R5.1=127 then
         some true
        else
         some (decide (R5.1=34))
     ).bind λ t18 =>
    if t18=true then
     ck (inR (N'.fat+N'.fi)) <|
     some (.inr ((ap.mk 2 (N'.fat+N'.fi) ([]:Bytes)),(am.mk N'.fs N'.fat N'.fi N'.D' N'.E' N'.BY N'.IN)))
    else
     ck ((0:Int)<=0/\0<=R5.2/\R5.2<=((sub N'.fs N'.fi (N'.fs.length:Int)).length:Int)) <|
     ck (N'.E'.length+(sub (sub N'.fs N'.fi (N'.fs.length:Int)) 0 R5.2).length<=9223372036854775807) <|
     ck (inR (N'.fi+R5.2)) <|
     some (.inl (N'.fi+R5.2,N'.E'++(sub (sub N'.fs N'.fi (N'.fs.length:Int)) 0 R5.2)))
  : Option ((Int×Bytes)⊕(ap×am))) λ Wg =>
 (dh (am.mk N'.fs N'.fat Wg.1 N'.D' Wg.2 N'.BY N'.IN)).bind λ SL =>
 some (SL.1,(am.mk SL.2.fs SL.2.fat SL.2.fi SL.2.D' SL.2.E' SL.2.BY SL.2.IN))
instance xP (n:Nat) (N':am):∀ (r:ap×am),HO (fj n N'=some r) Tryz.prog 78 [.ptr 1000000 0] [(1000000,[.p (eS N'.fs),.p (eI N'.fat),.p (eI N'.fi),.p (eI N'.D'),.p (eS N'.E'),.vec 900000 11 0 (N'.BY.map al),.p (eB N'.IN)])] (.p (.agg (ap.cs r.1))) ([(1000000,[.p (eS r.2.fs),.p (eI r.2.fat),.p (eI r.2.fi),.p (eI r.2.D'),.p (eS r.2.E'),.vec 2000000 11 0 (r.2.BY.map al),.p (eB r.2.IN)])]):=by
 refine hO good [800000] [1000000] Tryz.func78 Z Z λ r h0 _ w0 F=>?_;unfold fj at h0;refine nx 5 rfl (cc' h0 λ UF h0=>?_);refine mD [(0,.ptr 1000000 0),(2,.ptr 2 0)] rfl ⟨rfl,rfl,trivial⟩ rfl (dR 8 rfl ?_);refine dq (.p (eS (sub N'.fs N'.fi (N'.fs.length:Int)))) [12,16] rfl (λ _ e _ q=>ak rfl (eQ (a:=N'.fs) (l:=N'.fi) (h:=(N'.fs.length:Int)) Z Z Z Z Z (e _ _ rfl) pm rfl UF q)) rfl (dR 1 rfl ?_);refine dE rfl (nx 2 rfl ?_);obtain ⟨Xo,h1,Sl,hR0⟩:=cm h0;refine kX (λ Vt:Int×Bytes=>Xo=.inl Vt) (λ Vt=>⟨[(0,.ptr 1000000 0),(2,.ptr 2 0)],[(2,jw),(1000000,[.p (eS N'.fs),.p (eI N'.fat),.p (eI Vt.1),.p (eI N'.D'),.p (eS Vt.2),.vec 900000 11 0 (N'.BY.map al),.p (eB N'.IN)])]⟩) (λ Vt hv=>?_) ?_
 ·have h0:=Sl _ hv;refine nx 4 Z (bd h0 λ SL e27 h0=>?_);refine mO Z (cVq [1000000] [900000] 101000 101001 (HO.c e27) Tryz.call76 Z ?_);exact nx 3 Z Ap
 refine nx 3 Z (oI h1 Z λ To h1=>?_);refine nx 2 Z (fD [20] h1 Z (λ c3 h1=>?_) λ c3 h1=>?_)
 ·refine nx 4 Z (K1 λ r4 h1=>nx 14 Z ?_);refine fN [28] h1 Z (λ c6 h1=>?_) λ c6 h1=>?_
  ·exact aG
  refine nx 2 Z (cc' h1 λ V7 h1=>?_);refine mG (gE (t:=⟨[(0,.ptr 1000000 0),(2,.ptr 2 0),(6,.p (eI r4.2.2))],[(2,jw),(1000000,[.p (eS N'.fs),.p (eI N'.fat),.p (eI N'.fi),.p (eI N'.D'),.p (eS N'.E'),.vec 900000 11 0 (N'.BY.map al),.p (eB N'.IN)])]⟩) Z Z) (mSq ⟨1,[11],(λ _=>.none),(λ _=>[(0,.ptr 1000000 0),(2,.ptr 2 0),(6,.p (eI r4.2.2))]),(ob2 ([(2,jw),(1000000,[.p (eS N'.fs),.p (eI N'.fat),.p (eI N'.fi),.p (eI N'.D'),.p (eS N'.E'),.vec 900000 11 0 (N'.BY.map al),.p (eB N'.IN)])]) (2,[.p (eI r4.2.2),.p (eI (N'.fat+N'.fi)),.p (eS ([]:Bytes))]))⟩ Z ?_);refine dPc (.p (eI r4.2.2)) Z (dPc (.ptr 1000000 0) Z ?_);refine dPc (.ptr 1000000 0) Z (dPc (.ptr 1000000 1) Z ?_);refine dPc (.p (eI N'.fat)) Z (dPc (.ptr 1000000 0) Z ?_);refine dPc (.ptr 1000000 0) Z (dPc (.ptr 1000000 2) Z ?_);refine dPc (.p (eI N'.fi)) Z (dO (.p (eI (N'.fat+N'.fi))) [33,37] Z (λ _ sl OF K hK=>ak Z (fS Z Z Z (OF _ _ Z) (OF _ _ Z) Z V7 hK)) ?_);refine dPc (.p (.agg [eI r4.2.2,eI (N'.fat+N'.fi),eS ([]:Bytes)])) Z (dS Z ?_);refine fp (nx 2 Z ?_);exact mQo (hR0 _ (oi h1).symm) (bo (ca 900000 800000 Z Z Z Z Z) (aQ _)) Z Z Z Z (sr) ⟨⟨_,Z,⟨sr,sr,sr,sr,sr,sr,sr,trivial⟩⟩,trivial⟩
 refine nx 4 Z (bd h1 λ R5 Ux h1=>?_);refine oK (de (sub N'.fs N'.fi (N'.fs.length:Int)) _ Ux) Z ⟨sr,trivial⟩ Tryz.call126 Z (nx 8 Z ?_);refine bd h1 λ T1 h2 h1=>kN T1 (λ Vr=>⟨[(0,.ptr 1000000 0),(2,.ptr 2 0),(3,.p (eS (sub N'.fs N'.fi (N'.fs.length:Int)))),(8,.p (eI R5.2)),(78,.p (eB Vr))],[(2,jw),(1000000,[.p (eS N'.fs),.p (eI N'.fat),.p (eI N'.fi),.p (eI N'.D'),.p (eS N'.E'),.vec 900000 11 0 (N'.BY.map al),.p (eB N'.IN)])]⟩) ?_ ?_
 ·refine nx 1 Z (fB [78] h1 Z (λ WN h1=>?_) λ WN h1=>?_)
  ·refine nx 2 Z (cc' h1 λ TY h1=>?_);refine mG Gj (mSq ⟨1,[10],(λ _=>.none),(λ _=>[(0,.ptr 1000000 0),(2,.ptr 2 0)]),(ob2 ([(2,jw),(1000000,[.p (eS N'.fs),.p (eI N'.fat),.p (eI N'.fi),.p (eI N'.D'),.p (eS N'.E'),.vec 900000 11 0 (N'.BY.map al),.p (eB N'.IN)])]) (2,[.p (eI 2),.p (eI (N'.fat+N'.fi)),.p (eS ([]:Bytes))]))⟩ Z ?_);refine dPc (.ptr 1000000 0) Z (dPc (.ptr 1000000 0) Z ?_);refine dPc (.ptr 1000000 1) Z (dPc (.p (eI N'.fat)) Z ?_);refine dPc (.ptr 1000000 0) Z (dPc (.ptr 1000000 0) Z ?_);refine dPc (.ptr 1000000 2) Z (dPc (.p (eI N'.fi)) Z ?_);refine dO (.p (eI (N'.fat+N'.fi))) [82,86] Z (λ _ sl OF K hK=>ak Z (fS Z Z Z (OF _ _ Z) (OF _ _ Z) Z TY hK)) (dPc (.p (.agg [eI 2,eI (N'.fat+N'.fi),eS ([]:Bytes)])) Z ?_);refine dS Z (fp ?_);exact nx 2 Z (mQo (hR0 _ (oi h1).symm) (bo (ca 900000 800000 Z Z Z Z Z) (aQ _)) Z Z Z Z (sr) ⟨⟨_,Z,⟨sr,sr,sr,sr,sr,sr,sr,trivial⟩⟩,trivial⟩)
  refine nx 3 Z (cc' h1 λ Tm h1=>?_);refine cc' h1 λ TJ h1=>mG (gE (t:=⟨[(0,.ptr 1000000 0),(2,.ptr 2 0),(3,.p (eS (sub N'.fs N'.fi (N'.fs.length:Int)))),(8,.p (eI R5.2))],[(2,jw),(1000000,[.p (eS N'.fs),.p (eI N'.fat),.p (eI N'.fi),.p (eI N'.D'),.p (eS N'.E'),.vec 900000 11 0 (N'.BY.map al),.p (eB N'.IN)])]⟩) Z Z) (mSq ⟨1,[10],(λ _=>.none),(λ _=>[(0,.ptr 1000000 0),(2,.ptr 2 0),(3,.p (eS (sub N'.fs N'.fi (N'.fs.length:Int)))),(8,.p (eI R5.2))]),(ob2 ([(2,jw),(1000000,[.p (eS N'.fs),.p (eI N'.fat),.p (eI N'.fi),.p (eI N'.D'),.p (eS N'.E'),.vec 900000 11 0 (N'.BY.map al),.p (eB N'.IN)])]) (1000000,[.p (eS N'.fs),.p (eI N'.fat),.p (eI N'.fi),.p (eI N'.D'),.p (eS (N'.E'++(sub (sub N'.fs N'.fi (N'.fs.length:Int)) 0 R5.2))),.vec 900000 11 0 (N'.BY.map al),.p (eB N'.IN)]))⟩ Z ?_);refine dPc (.ptr 1000000 0) Z (dPc (.ptr 1000000 0) Z ?_);refine dPc (.ptr 1000000 4) Z (dPc (.p (eS N'.E')) Z ?_);refine dPc (.p (eS (sub N'.fs N'.fi (N'.fs.length:Int)))) Z (dPc (.p (eI R5.2)) Z ?_);refine dO (.p (eS (sub (sub N'.fs N'.fi (N'.fs.length:Int)) 0 R5.2))) [93,94] Z (λ _ sl OF K hK=>ak Z (eQ (a:=sub N'.fs N'.fi (N'.fs.length:Int)) (l:=0) (h:=R5.2) Z Z Z Z Z (OF _ _ Z) Z w9 Tm hK)) (dO (.p (eS (N'.E'++(sub (sub N'.fs N'.fi (N'.fs.length:Int)) 0 R5.2)))) [92,95] Z (λ _ sl OF K hK=>ak Z (bP Z Z Z (OF _ _ Z) (OF _ _ Z) TJ hK)) ?_);exact aG
 exact gN
def cq (n:Nat)(Rx:af):Option af :=
 (aD n Rx).bind λ r1 =>
 ck (inR (r1.2.H'+1)) <|
 some (af.mk r1.2.fl r1.2.fat (r1.2.H'+1) r1.2.G' r1.2.AT)
instance zt (n:Nat) (Rx:af):∀ (r:af),HO (cq n Rx=some r) Tryz.prog 185 [.ptr 1000000 0] [(1000000,((af.cs Rx).map .p))] (.tuple []) ([(1000000,((af.cs r).map .p))]):=by
 refine hO good [] [1000000] Tryz.func185 Z Z λ r h0 _ w0 F=>?_;unfold cq at h0;exact J0
def bX (n:Nat)(Rx:af)(s_1:Bytes):Option af :=
 (aR n Rx s_1).bind λ r1 =>
 if (!r1.1)=true then
  (a6 n r1.2).bind λ r4 =>
  (bc r4.2 2 r4.1.fAt).bind λ r6 =>
  some r6.2
 else
  (aD n r1.2).bind λ r8 =>
  some r8.2
instance zv (n:Nat):ub (bX n) 103:=by
 refine λ Rx s_1=>hO good [] [1000000] Tryz.func103 Z Z λ r h0 _ w0 F=>?_;unfold bX at h0;exact J0
def bj (n:Nat)(Rx:af)(s_1:Bytes):Option af :=
 (bX n Rx s_1).bind λ r1 =>
 ck (inR (r1.H' - 1)) <|
 some (af.mk r1.fl r1.fat (r1.H' - 1) r1.G' r1.AT)
instance yw (n:Nat):ub (bj n) 186:=by
 refine λ Rx s_1=>hO good [] [1000000] Tryz.func186 Z Z λ r h0 _ w0 F=>?_;unfold bj at h0;exact J0
def cr (n:Nat)(Rx:af)(s_1:Bytes):Option (Bool×af) :=
 (a6 n Rx).bind λ r1 =>
 (
   (aK r1.2).bind λ r3 =>
   if (!r3.1)=true then
    if r1.1.Ar=1 then
     some (decide (r1.1.C'=s_1),r3.2.fl,r3.2.fat,r3.2.H',r3.2.G',r3.2.AT.Ar,r3.2.AT.fAt,r3.2.AT.A')
    else
     some (false,r3.2.fl,r3.2.fat,r3.2.H',r3.2.G',r3.2.AT.Ar,r3.2.AT.fAt,r3.2.AT.A')
   else
    some (false,r3.2.fl,r3.2.fat,r3.2.H',r3.2.G',r3.2.AT.Ar,r3.2.AT.fAt,r3.2.AT.A')
  ).bind λ TT =>
 some (TT.1,(af.mk TT.2.1 TT.2.2.1 TT.2.2.2.1 TT.2.2.2.2.1 (ap.mk TT.2.2.2.2.2.1 TT.2.2.2.2.2.2.1 TT.2.2.2.2.2.2.2)))
instance zy (n:Nat) (Rx:af) (s_1:Bytes):∀ (r:Bool×af),HO (cr n Rx s_1=some r) Tryz.prog 211 [.ptr 1000000 0,.p (eS s_1)] [(1000000,((af.cs Rx).map .p))] (.p (eB r.1)) ([(1000000,((af.cs r.2).map .p))]):=by
 refine hO good [] [1000000] Tryz.func211 Z Z λ r h0 _ w0 F=>?_;unfold cr at h0;exact F8
def bZ (n:Nat)(Rx:af):Option (Bytes×af) :=
 (a6 n Rx).bind λ r1 =>
 (
   (aK r1.2).bind λ r3 =>
   if r3.1=true then
    some (true,r3.2.fl,r3.2.fat,r3.2.H',r3.2.G',r3.2.AT.Ar,r3.2.AT.fAt,r3.2.AT.A')
   else
    if r1.1.Ar=1 then
     (eG r1.1.C').bind λ r7 =>
     some (r7,r3.2.fl,r3.2.fat,r3.2.H',r3.2.G',r3.2.AT.Ar,r3.2.AT.fAt,r3.2.AT.A')
    else
     some (true,r3.2.fl,r3.2.fat,r3.2.H',r3.2.G',r3.2.AT.Ar,r3.2.AT.fAt,r3.2.AT.A')
  ).bind λ Sn =>
 if Sn.1=true then
  (bc (af.mk Sn.2.1 Sn.2.2.1 Sn.2.2.2.1 Sn.2.2.2.2.1 (ap.mk Sn.2.2.2.2.2.1 Sn.2.2.2.2.2.2.1 Sn.2.2.2.2.2.2.2)) 2 r1.1.fAt).bind λ S3 =>
  some (([]:Bytes),S3.2)
 else
  (aD n (af.mk Sn.2.1 Sn.2.2.1 Sn.2.2.2.1 Sn.2.2.2.2.1 (ap.mk Sn.2.2.2.2.2.1 Sn.2.2.2.2.2.2.1 Sn.2.2.2.2.2.2.2))).bind λ SD =>
  some (r1.1.C',SD.2)
instance wk (n:Nat) (Rx:af):∀ (r:Bytes×af),HO (bZ n Rx=some r) Tryz.prog 223 [.ptr 1000000 0] [(1000000,((af.cs Rx).map .p))] (.p (eS r.1)) ([(1000000,((af.cs r.2).map .p))]):=by
 refine hO good [] [1000000] Tryz.func223 Z Z λ r h0 _ w0 F=>?_;unfold bZ at h0;have:=js [200];have:=jB 200 (Bool×List ad×Int×Int×Int×Int×Int×Bytes) (λ v=>[(17,.p (eB v.1))]) λ v=>[(1000000,(og v.2))]
 exact J0
def cV (n:Nat)(Rx:af)(s_1:Bytes):Option af :=
 (cr n Rx s_1).bind λ r1 =>
 if (!r1.1)=true then
  (a6 n r1.2).bind λ r4 =>
  (bc r4.2 2 r4.1.fAt).bind λ r6 =>
  some r6.2
 else
  (aD n r1.2).bind λ r8 =>
  some r8.2
instance wX (n:Nat):ub (cV n) 224:=by
 refine λ Rx s_1=>hO good [] [1000000] Tryz.func224 Z Z λ r h0 _ w0 F=>?_;unfold cV at h0;exact J0
def ba (n:Nat)(l_1:List Bytes):Nat->Int->(List ad)->Int->Int->Int->Int->Int->Bytes->Option (((List ad)×Int×Int×Int×Int×Int×Bytes)⊕(Bytes×Bool×af))
 | 0,_,_,_,_,_,_,_,_=>none
 | m+1,t15,f16,Ui,f18,f19,f20,f21,f22 =>
 if t15 < (l_1.length:Int) then
  ck ((0:Int)<=t15/\t15 < (l_1.length:Int)) <|
  (aR n (af.mk f16 Ui f18 f19 (ap.mk f20 f21 f22)) (lat l_1 t15)).bind λ Tn =>
  if Tn.1=true then
   some (.inr (lat l_1 t15,true,Tn.2))
  else
   ck (inR (t15+1)) <|
   ba n l_1 m (t15+1) Tn.2.fl Tn.2.fat Tn.2.H' Tn.2.G' Tn.2.AT.Ar Tn.2.AT.fAt Tn.2.AT.A'
 else
  some (.inl (f16,Ui,f18,f19,f20,f21,f22))
def dA (n:Nat)(Rx:af)(l_1:List Bytes):Option (Bytes×Bool×af) :=
 jn (ba n l_1 n 0 Rx.fl Rx.fat Rx.H' Rx.G' Rx.AT.Ar Rx.AT.fAt Rx.AT.A') λ US =>
 some (([]:Bytes),false,(af.mk US.1 US.2.1 US.2.2.1 US.2.2.2.1 (ap.mk US.2.2.2.2.1 US.2.2.2.2.2.1 US.2.2.2.2.2.2)))
instance zg (n:Nat) (Rx:af) (l_1:List Bytes):∀ (r:Bytes×Bool×af),HO (dA n Rx l_1=some r) Tryz.prog 140 [.ptr 1000000 0,.p (eL eS l_1)] [(1000000,((af.cs Rx).map .p))] (.tuple [.p (eS r.1),.p (eB r.2.1)]) ([(1000000,((af.cs r.2.2).map .p))]):=by
 refine hO good [] [1000000] Tryz.func140 Z Z λ r h0 _ w0 F=>?_;unfold dA at h0;refine nx 9 rfl (oLl (f:=eS) Z Z ?_);refine nx 3 rfl ?_;obtain ⟨Wi,h1,Sl,hR0⟩:=cm h0;refine kEx 0 (λ v46:(List ad)×Int×Int×Int×Int×Int×Bytes=>Wi=.inl v46) (λ v46=>⟨[],[(1000000,(og v46))]⟩) (λ v46 hv=>?_) ?_
 ·exact jQ
 refine lG (λ (Tj:Int×(List ad)×Int×Int×Int×Int×Int×Bytes)=>⟨[(0,.ptr 1000000 0),(8,.p (eL eS l_1)),(9,.p (eI (l_1.length:Int))),(10,.p (eI Tj.1))],[(1000000,(og Tj.2))]⟩) (λ m (Tj:Int×(List ad)×Int×Int×Int×Int×Int×Bytes)=>ba n l_1 m Tj.1 Tj.2.1 Tj.2.2.1 Tj.2.2.2.1 Tj.2.2.2.2.1 Tj.2.2.2.2.2.1 Tj.2.2.2.2.2.2.1 Tj.2.2.2.2.2.2.2) Y (0,Rx.fl,Rx.fat,Rx.H',Rx.G',Rx.AT.Ar,Rx.AT.fAt,Rx.AT.A') h1 (gE rfl rfl) ?_;rintro m ⟨t15,f16,Ui,f18,f19,f20,f21,f22⟩ h1;replace h1:ba n l_1 (m+1) t15 f16 Ui f18 f19 f20 f21 f22=some Wi:=h1;rw [ba] at h1;exact aG
def ja (So:Int):Option (List Bytes) :=
 if So=0 then
  some ([([124,124]:Bytes)])
 else
  if So=1 then
   some ([([38,38]:Bytes)])
  else
   if So=2 then
    some ([([61,61]:Bytes),([33,61]:Bytes)])
   else
    if So=3 then
     some ([([60]:Bytes),([60,61]:Bytes),([62]:Bytes),([62,61]:Bytes)])
    else
     if So=4 then
      some ([([43]:Bytes),([45]:Bytes)])
     else
      some ([([42]:Bytes),([47]:Bytes),([37]:Bytes)])
instance Dr (So:Int):∀ (r:(List Bytes)),HP (ja So=some r) Tryz.prog 141 [eI So] (.p (eL eS r)):=by
 refine hP good Tryz.func141 Z Z λ r h0 _ w0=>?_;unfold ja at h0;refine nx 15 Z (fD [4,5] h0 Z (λ c1 h0=>?_) λ c1 h0=>?_)
 ·refine nx 3 Z (mO Z (bp eS [([124,124]:Bytes)] Z Z Z Z Z Z Z Z Z Z Z Z Z Z ?_));exact J0
 refine nx 6 Z (fD [7,8] h0 Z (λ c2 h0=>?_) λ c2 h0=>?_)
 ·refine nx 3 Z (mO Z (bp eS [([38,38]:Bytes)] Z Z Z Z Z Z Z Z Z Z Z Z Z Z ?_));exact J0
 refine nx 6 Z (fD [10,11] h0 Z (λ c3 h0=>?_) λ c3 h0=>?_)
 ·refine nx 3 Z (mO Z (bp eS [([61,61]:Bytes),([33,61]:Bytes)] Z Z Z Z Z Z Z Z Z Z Z Z Z Z ?_));exact J0
 refine nx 6 Z (fD [13,14] h0 Z (λ c4 h0=>?_) λ c4 h0=>?_)
 ·refine nx 3 Z (mO Z (bp eS [([60]:Bytes),([60,61]:Bytes),([62]:Bytes),([62,61]:Bytes)] Z Z Z Z Z Z Z Z Z Z Z Z Z Z ?_));exact J0
 refine nx 6 Z (fD [16,17] h0 Z (λ c5 h0=>?_) λ c5 h0=>?_)
 ·refine nx 3 Z (mO Z (bp eS [([43]:Bytes),([45]:Bytes)] Z Z Z Z Z Z Z Z Z Z Z Z Z Z ?_));exact J0
 refine nx 4 Z (mO Z (bp eS [([42]:Bytes),([47]:Bytes),([37]:Bytes)] Z Z Z Z Z Z Z Z Z Z Z Z Z Z ?_));exact J0
def gC (Mr:Bytes):Nat->Int->Option (Unit⊕Int)
 | 0,_=>none
 | m+1,t7 =>
 if t7 < 13 then
  ck ((0:Int)<=t7/\t7 < 13) <|
  if lat ([([124,124]:Bytes),([38,38]:Bytes),([61,61]:Bytes),([33,61]:Bytes),([60]:Bytes),([60,61]:Bytes),([62]:Bytes),([62,61]:Bytes),([43]:Bytes),([45]:Bytes),([42]:Bytes),([47]:Bytes),([37]:Bytes)]:List Bytes) t7=Mr then
   ck (inR (3+t7)) <|
   some (.inr (3+t7))
  else
   ck (inR (t7+1)) <|
   gC Mr m (t7+1)
 else
  some (.inl ())
def qm (n:Nat)(Mr:Bytes):Option Int :=
 jn (gC Mr n 0) λ _q14 =>
 some 0
instance Py (n:Nat) (Mr:Bytes):∀ (r:Int),HP (qm n Mr=some r) Tryz.prog 142 [eS Mr] (.p (eI r)):=by
 refine hP good Tryz.func142 Z Z λ r h0 _ w0=>?_;unfold qm at h0;refine nx 11 rfl ?_;obtain ⟨o15,h1,Sl,hR0⟩:=cm h0;refine kEx 0 (λ v16:Unit=>o15=.inl v16) (λ v16=>⟨[],[]⟩) (λ v16 hv=>?_) ?_
 ·exact jQ
 refine lG (λ (q17:Int)=>⟨[(0,.p (eS Mr)),(5,.p (.agg [eS ([124,124]:Bytes),eS ([38,38]:Bytes),eS ([61,61]:Bytes),eS ([33,61]:Bytes),eS ([60]:Bytes),eS ([60,61]:Bytes),eS ([62]:Bytes),eS ([62,61]:Bytes),eS ([43]:Bytes),eS ([45]:Bytes),eS ([42]:Bytes),eS ([47]:Bytes),eS ([37]:Bytes)])),(6,.p (eI q17))],[]⟩) (λ m (q17:Int)=>gC Mr m q17) Y 0 h1 (gE rfl rfl) ?_;rintro m t7 h1;replace h1:gC Mr (m+1) t7=some o15:=h1;rw [gC] at h1;refine nx 5 rfl (fD [7] h1 rfl (λ c8 h1=>?_) λ c8 h1=>?_)
 ·refine nx 7 Z (cc' h1 λ UZ h1=>?_);refine mO Z (vq eS ([([124,124]:Bytes),([38,38]:Bytes),([61,61]:Bytes),([33,61]:Bytes),([60]:Bytes),([60,61]:Bytes),([62]:Bytes),([62,61]:Bytes),([43]:Bytes),([45]:Bytes),([42]:Bytes),([47]:Bytes),([37]:Bytes)]:List Bytes) Z Z Z Z Z Z Z Z Z Z Z (by have:=UZ; simp only [aq,dg]; omega) ?_);exact aG
 exact aG
end Go.Ab.R06
end
section
namespace Go.Ab.R06
open Go.Proofs Go.Ab Go.Ab.RB
section
variable {p:Prop}
theorem GN (h:p:=by exact mQo (hR0 _ (hR1 _ (oi h2).symm).symm) (aQ _) Z Z Z Z (sr) ⟨⟨_,Z,⟨sr,sr,sr,sr,sr,sr,sr,trivial⟩⟩,trivial⟩):p:=h
theorem kB (h:p:=by first | rfl | (simp only [cl,List.map_nil,aa.I']; done) | (simp only [cl,List.map_nil,aa.I']; rfl)):p:=h
end
set_option maxRecDepth 4000
attribute [local irreducible] awp gk aX bv bV AV.sub M cC
instance Qr:HE Tryz.prog 34:=⟨Tryz.call34⟩
instance Qw:HE Tryz.prog 65:=⟨Tryz.call65⟩
instance P6:HE Tryz.prog 33:=⟨Tryz.call33⟩
instance Qi:HE Tryz.prog 139:=⟨Tryz.call139⟩
instance Ot:HE Tryz.prog 140:=⟨Tryz.call140⟩
instance NW:HE Tryz.prog 166:=⟨Tryz.call166⟩
instance Pj:HE Tryz.prog 185:=⟨Tryz.call185⟩
instance Nj:HE Tryz.prog 186:=⟨Tryz.call186⟩
instance Nl:HE Tryz.prog 196:=⟨Tryz.call196⟩
instance OL:HE Tryz.prog 197:=⟨Tryz.call197⟩
instance NK:HE Tryz.prog 198:=⟨Tryz.call198⟩
instance Pi:HE Tryz.prog 199:=⟨Tryz.call199⟩
instance Og:HE Tryz.prog 19:=⟨Tryz.call19⟩
instance Np:HE Tryz.prog 210:=⟨Tryz.call210⟩
instance Oc:HE Tryz.prog 212:=⟨Tryz.call212⟩
instance NN:HE Tryz.prog 213:=⟨Tryz.call213⟩
instance O0:HE Tryz.prog 223:=⟨Tryz.call223⟩
instance Oz:HE Tryz.prog 224:=⟨Tryz.call224⟩
instance PH:HE Tryz.prog 225:=⟨Tryz.call225⟩
instance PU:HE Tryz.prog 14:=⟨Tryz.call14⟩
abbrev ku (F:af->Option (aa×af))(k:Nat):Prop:=∀ (a0:af) (r:aa×af),HO (F a0=some r) Tryz.prog k [.ptr 1000000 0] [(1000000,((af.cs a0).map .p))] (.p (.agg (aa.cs r.1))) ([(1000000,((af.cs r.2).map .p))])
abbrev tF (F:Bytes->Int->Option (aa×ap))(k:Nat):Prop:=∀ (a0:Bytes) (a1:Int) (r:aa×ap),HP (F a0 a1=some r) Tryz.prog k [eS a0,eI a1] (.tuple [.p (.agg (aa.cs r.1)),.p (.agg (ap.cs r.2))])
abbrev yB (F:am->Option (ap×am))(k:Nat):Prop:=∀ (a0:am) (r:ap×am),HO (F a0=some r) Tryz.prog k [.ptr 1000000 0] [(1000000,[.p (eS a0.fs),.p (eI a0.fat),.p (eI a0.fi),.p (eI a0.D'),.p (eS a0.E'),.vec 900000 11 0 (a0.BY.map al),.p (eB a0.IN)])] (.p (.agg (ap.cs r.1))) ([(1000000,[.p (eS r.2.fs),.p (eI r.2.fat),.p (eI r.2.fi),.p (eI r.2.D'),.p (eS r.2.E'),.vec 2000000 11 0 (r.2.BY.map al),.p (eB r.2.IN)])])
abbrev GY (v:Int×Int×Bytes×Bytes×Int×Int×Bytes×List ag×List Bytes×List aa×Int):List AV:=[.p (eI v.1),.p (eI v.2.1),.p (eS v.2.2.1),.p (eS v.2.2.2.1),.p (eI v.2.2.2.2.1),.p (eI v.2.2.2.2.2.1),.p (eS v.2.2.2.2.2.2.1),.p (eL dQ v.2.2.2.2.2.2.2.1),.p (eL eS v.2.2.2.2.2.2.2.2.1),.p (eL al v.2.2.2.2.2.2.2.2.2.1),.p (eI v.2.2.2.2.2.2.2.2.2.2)]
abbrev ew (v:List ad×Int×Int×Int×Int×Int×Bytes):List AV:=[.p (eL cM v.1),.p (eI v.2.1),.p (eI v.2.2.1),.p (eI v.2.2.2.1),.p (eI v.2.2.2.2.1),.p (eI v.2.2.2.2.2.1),.p (eS v.2.2.2.2.2.2)]
abbrev cX (a0 a1 a2 a3 a4:AV):List AV:=[a0,.p (eI 0),a1,a2,.p (eI 0),.p (eI 0),.p (eS ([]:Bytes)),.p (.val (.slice none 0 0)),.p (.val (.slice none 0 0)),a3,a4]
abbrev mB (a0 a1 a2 a3:AV):List AV:=[a0,.p (eI 0),a1,a2,.p (eI 0),.p (eI 0),.p (eS ([]:Bytes)),.p (.val (.slice none 0 0)),.p (.val (.slice none 0 0)),.p (.val (.slice none 0 0)),a3]
abbrev bg:List AV:=[.p (eI 0),.p (eI 0),.p (eS ([]:Bytes)),.p (eS ([]:Bytes)),.p (eI 0),.p (eI 0),.p (eS ([]:Bytes)),.p (.val (.slice none 0 0)),.p (.val (.slice none 0 0)),.p (.val (.slice none 0 0)),.p (eI 0)]
abbrev nW:List PV:=[eI 0,eI 0,eS ([]:Bytes),eS ([]:Bytes),eI 0,eI 0,eS ([]:Bytes),.val (.slice none 0 0),.val (.slice none 0 0),.val (.slice none 0 0),eI 0]
abbrev b9:List AV:=[.p (eI 0),.p (eI 0),.p (eS ([]:Bytes))]
def bM (n:Nat)(RZ:am->Option (ap×am)):Nat->Bytes->Int->Int->Int->Bytes->(List aa)->Bool->Option ((Bytes×Int×Int×Int×Bytes×(List aa)×Bool)⊕(ap×am))
 | 0,_,_,_,_,_,_,_=>none
 | m+1,SZ,Te,Su,SY,Ta,Td,Tc =>
 if Su < (SZ.length:Int) then
  ck ((0:Int)<=Su/\Su<=(SZ.length:Int)/\(SZ.length:Int)<=(SZ.length:Int)) <|
  (
    (strings_HasPrefix (sub SZ Su (SZ.length:Int)) ([36,36,123]:Bytes)).bind λ UA =>
    if UA=true then
     ck (Ta.length+([36,123]:Bytes).length<=9223372036854775807) <|
     ck (inR (Su+3)) <|
     (dh (am.mk SZ Te (Su+3) SY (Ta++([36,123]:Bytes)) Td Tc)).bind λ T0 =>
     some (T0.1.Ar,T0.1.fAt,T0.1.A',T0.2.fs,T0.2.fat,T0.2.fi,T0.2.D',T0.2.E',T0.2.BY,T0.2.IN)
    else
     (strings_HasPrefix (sub SZ Su (SZ.length:Int)) ([36,123]:Bytes)).bind λ Sv =>
     if Sv=true then
      (RZ (am.mk SZ Te Su SY Ta Td Tc)).bind λ T7 =>
      some (T7.1.Ar,T7.1.fAt,T7.1.A',T7.2.fs,T7.2.fat,T7.2.fi,T7.2.D',T7.2.E',T7.2.BY,T7.2.IN)
     else
      (fj n (am.mk SZ Te Su SY Ta Td Tc)).bind λ SX =>
      some (SX.1.Ar,SX.1.fAt,SX.1.A',SX.2.fs,SX.2.fat,SX.2.fi,SX.2.D',SX.2.E',SX.2.BY,SX.2.IN)
   ).bind λ TS =>
  if TS.1=0 then
   bM n RZ m TS.2.2.2.1 TS.2.2.2.2.1 TS.2.2.2.2.2.1 TS.2.2.2.2.2.2.1 TS.2.2.2.2.2.2.2.1 TS.2.2.2.2.2.2.2.2.1 TS.2.2.2.2.2.2.2.2.2
  else
   some (.inr ((ap.mk TS.1 TS.2.1 TS.2.2.1),(am.mk TS.2.2.2.1 TS.2.2.2.2.1 TS.2.2.2.2.2.1 TS.2.2.2.2.2.2.1 TS.2.2.2.2.2.2.2.1 TS.2.2.2.2.2.2.2.2.1 TS.2.2.2.2.2.2.2.2.2)))
 else
  some (.inl (SZ,Te,Su,SY,Ta,Td,Tc))
def bw (n:Nat)(Sg:af->Int->Option (aa×af))(O':Int)(r5:aa×af):Nat->Int->Int->Bytes->Bytes->Int->Int->Bytes->(List ag)->(List Bytes)->(List aa)->(List ad)->Int->Int->Int->Int->Int->Bytes->Option (((List ad)×Int×Int×Int×Int×Int×Bytes)⊕(aa×af))
 | 0,_,_,_,_,_,_,_,_,_,_,_,_,_,_,_,_,_=>none
 | m+1,Te,Su,SY,Ta,Td,Tc,T3,T2,UH,UG,f46,f47,f48,f49,f50,Ve,Vd =>
 (ja O').bind λ Vl =>
 (dA n (af.mk f46 f47 f48 f49 (ap.mk f50 Ve Vd)) Vl).bind λ TW =>
 if (!TW.2.1)=true then
  some (.inr ((aa.mk Te Su SY Ta (ag.mk Td Tc T3 T2 UH) UG r5.1.fAt),TW.2.2))
 else
  (aD n TW.2.2).bind λ S8 =>
  ck (inR (O'+1)) <|
  (Sg S8.2 (O'+1)).bind λ Sw =>
  (qm n TW.1).bind λ TE =>
  bw n Sg O' r5 m 7 TE ([]:Bytes) ([]:Bytes) 0 0 ([]:Bytes) [] [] [(aa.mk Te Su SY Ta (ag.mk Td Tc T3 T2 UH) UG r5.1.fAt),Sw.1] Sw.2.fl Sw.2.fat Sw.2.H' Sw.2.G' Sw.2.AT.Ar Sw.2.AT.fAt Sw.2.AT.A'
def br (n:Nat)(RD:af->Option (aa×af))(r1:aa×af):Nat->Int->Int->Bytes->Bytes->Int->Int->Bytes->(List ag)->(List Bytes)->(List aa)->(List ad)->Int->Int->Int->Int->Int->Bytes->Option (((List ad)×Int×Int×Int×Int×Int×Bytes)⊕(aa×af))
 | 0,_,_,_,_,_,_,_,_,_,_,_,_,_,_,_,_,_=>none
 | m+1,Ve,Vd,WH,WG,WF,WE,WC,WB,WA,Wz,f61,f62,f63,f64,f65,f66,f67 =>
 jn (
   (aR n (af.mk f61 f62 f63 f64 (ap.mk f65 f66 f67)) ([46]:Bytes)).bind λ r68 =>
   if r68.1=true then
    (aD n r68.2).bind λ r71 =>
    (a6 n r71.2).bind λ WP =>
    if WP.1.Ar=1 then
     (aD n WP.2).bind λ TP =>
     some (.inl (4,WP.1.C',[(aa.mk Ve Vd WH WG (ag.mk WF WE WC WB WA) Wz r1.1.fAt)],TP.2.fl,TP.2.fat,TP.2.H',TP.2.G',TP.2.AT.Ar,TP.2.AT.fAt,TP.2.AT.A'))
    else
     (bc WP.2 2 WP.1.fAt).bind λ r76 =>
     some (.inr (.inr (r76.1,r76.2)))
   else
    (aR n r68.2 ([91]:Bytes)).bind λ r80 =>
    if r80.1=true then
     (cq n r80.2).bind λ VU =>
     (RD VU).bind λ r85 =>
     (bj n r85.2 ([93]:Bytes)).bind λ VT =>
     some (.inl (5,([]:Bytes),[(aa.mk Ve Vd WH WG (ag.mk WF WE WC WB WA) Wz r1.1.fAt),r85.1],VT.fl,VT.fat,VT.H',VT.G',VT.AT.Ar,VT.AT.fAt,VT.AT.A'))
    else
     some (.inr (.inr ((aa.mk Ve Vd WH WG (ag.mk WF WE WC WB WA) Wz r1.1.fAt),r80.2)))
  : Option ((Int×Bytes×(List aa)×(List ad)×Int×Int×Int×Int×Int×Bytes)⊕(((List ad)×Int×Int×Int×Int×Int×Bytes)⊕(aa×af)))) λ Tq =>
 br n RD r1 m Tq.1 0 Tq.2.1 ([]:Bytes) 0 0 ([]:Bytes) [] [] Tq.2.2.1 Tq.2.2.2.1 Tq.2.2.2.2.1 Tq.2.2.2.2.2.1 Tq.2.2.2.2.2.2.1 Tq.2.2.2.2.2.2.2.1 Tq.2.2.2.2.2.2.2.2.1 Tq.2.2.2.2.2.2.2.2.2
def cv (n:Nat)(RD:af->Option (aa×af))(end_1:Bytes):Nat->(List aa)->(List ad)->Int->Int->Int->Int->Int->Bytes->Option ((List aa)×(List ad)×Int×Int×Int×Int×Int×Bytes)
 | 0,_,_,_,_,_,_,_,_=>none
 | m+1,S6,UI,f33,f34,SZ,Te,Su,SY =>
 (
   (aK (af.mk UI f33 f34 SZ (ap.mk Te Su SY))).bind λ TF =>
   if (!TF.1)=true then
    (aR n TF.2 end_1).bind λ Tf =>
    some (!Tf.1,Tf.2.fl,Tf.2.fat,Tf.2.H',Tf.2.G',Tf.2.AT.Ar,Tf.2.AT.fAt,Tf.2.AT.A')
   else
    some (false,TF.2.fl,TF.2.fat,TF.2.H',TF.2.G',TF.2.AT.Ar,TF.2.AT.fAt,TF.2.AT.A')
  ).bind λ Ua =>
 if Ua.1=true then
  (RD (af.mk Ua.2.1 Ua.2.2.1 Ua.2.2.2.1 Ua.2.2.2.2.1 (ap.mk Ua.2.2.2.2.2.1 Ua.2.2.2.2.2.2.1 Ua.2.2.2.2.2.2.2))).bind λ Vl =>
  ck ((S6.length+[Vl.1].length)*160<=140737488355328) <|
  (aR n Vl.2 ([44]:Bytes)).bind λ SX =>
  if (!SX.1)=true then
   some (S6++[Vl.1],SX.2.fl,SX.2.fat,SX.2.H',SX.2.G',SX.2.AT.Ar,SX.2.AT.fAt,SX.2.AT.A')
  else
   (aD n SX.2).bind λ Tx =>
   cv n RD end_1 m (S6++[Vl.1]) Tx.2.fl Tx.2.fat Tx.2.H' Tx.2.G' Tx.2.AT.Ar Tx.2.AT.fAt Tx.2.AT.A'
 else
  some (S6,Ua.2.1,Ua.2.2.1,Ua.2.2.2.1,Ua.2.2.2.2.1,Ua.2.2.2.2.2.1,Ua.2.2.2.2.2.2.1,Ua.2.2.2.2.2.2.2)
def bQ (n:Nat)(RD:af->Option (aa×af))(Sm:af->Option (aa×af)):Nat->(List aa)->(List ad)->Int->Int->Int->Int->Int->Bytes->Option ((List aa)×(List ad)×Int×Int×Int×Int×Int×Bytes)
 | 0,_,_,_,_,_,_,_,_=>none
 | m+1,SN,Su,SY,Ta,Td,Tc,T3,T2 =>
 (
   (aK (af.mk Su SY Ta Td (ap.mk Tc T3 T2))).bind λ UA =>
   if (!UA.1)=true then
    (aR n UA.2 ([125]:Bytes)).bind λ VV =>
    some (!VV.1,VV.2.fl,VV.2.fat,VV.2.H',VV.2.G',VV.2.AT.Ar,VV.2.AT.fAt,VV.2.AT.A')
   else
    some (false,UA.2.fl,UA.2.fat,UA.2.H',UA.2.G',UA.2.AT.Ar,UA.2.AT.fAt,UA.2.AT.A')
  ).bind λ T' =>
 if T'.1=true then
  (Sm (af.mk T'.2.1 T'.2.2.1 T'.2.2.2.1 T'.2.2.2.2.1 (ap.mk T'.2.2.2.2.2.1 T'.2.2.2.2.2.2.1 T'.2.2.2.2.2.2.2))).bind λ S8 =>
  ck ((SN.length+[S8.1].length)*160<=140737488355328) <|
  (bX n S8.2 ([61]:Bytes)).bind λ Sw =>
  (RD Sw).bind λ TE =>
  ck (((SN++[S8.1]).length+[TE.1].length)*160<=140737488355328) <|
  (aR n TE.2 ([44]:Bytes)).bind λ TD =>
  if (!TD.1)=true then
   some ((SN++[S8.1])++[TE.1],TD.2.fl,TD.2.fat,TD.2.H',TD.2.G',TD.2.AT.Ar,TD.2.AT.fAt,TD.2.AT.A')
  else
   (aD n TD.2).bind λ Uf =>
   bQ n RD Sm m ((SN++[S8.1])++[TE.1]) Uf.2.fl Uf.2.fat Uf.2.H' Uf.2.G' Uf.2.AT.Ar Uf.2.AT.fAt Uf.2.AT.A'
 else
  some (SN,T'.2.1,T'.2.2.1,T'.2.2.2.1,T'.2.2.2.2.1,T'.2.2.2.2.2.1,T'.2.2.2.2.2.2.1,T'.2.2.2.2.2.2.2)
mutual
def gJ:Nat->Bytes->Int->Option (aa×ap)
 | 0,_,_=>none
 | n+1,Mr,RV =>
 ((eY n) (am.mk Mr RV 0 0 ([]:Bytes) [] false)).bind λ r1 =>
 if r1.1.Ar=0 then
  (fJ (ag.mk 3 0 r1.2.E' [] []) RV).bind λ r4 =>
  (
    if r1.2.IN=true then
     (dK (am.mk r1.2.fs r1.2.fat r1.2.fi r1.2.D' r1.2.E' r1.2.BY r1.2.IN)).bind λ r7 =>
     some (2,0,([]:Bytes),([]:Bytes),0,0,([]:Bytes),[],[],r7.BY,RV)
    else
     some (r4.Ar,r4.fOp,r4.A',r4.B',r4.By.Ar,r4.By.F',r4.By.If,r4.By.Gw,r4.By.Df,r4.AI,r4.fAt)
   ).bind λ Sn =>
  (gY n (aa.mk Sn.1 Sn.2.1 Sn.2.2.1 Sn.2.2.2.1 (ag.mk Sn.2.2.2.2.1 Sn.2.2.2.2.2.1 Sn.2.2.2.2.2.2.1 Sn.2.2.2.2.2.2.2.1 Sn.2.2.2.2.2.2.2.2.1) Sn.2.2.2.2.2.2.2.2.2.1 Sn.2.2.2.2.2.2.2.2.2.2) r1.1).bind λ SD =>
  some (SD.1,SD.2)
 else
  some ((aa.mk 0 0 ([]:Bytes) ([]:Bytes) (ag.mk 0 0 ([]:Bytes) [] []) [] 0),r1.1)
def gA:Nat->Bytes->Int->Option (aa×ap)
 | 0,_,_=>none
 | n+1,Mr,base_1 =>
 (lw n Mr).bind λ r1 =>
 if r1.2.Ar=0 then
  ((ax n) (af.mk r1.1 0 1 base_1 (ap.mk 0 0 ([]:Bytes)))).bind λ r5 =>
  (
    (a6 n r5.2).bind λ r7 =>
    if r7.1.Ar=6 then
     some (r7.2.fl,r7.2.fat,r7.2.H',r7.2.G',r7.2.AT.Ar,r7.2.AT.fAt,r7.2.AT.A')
    else
     (bc r7.2 2 r7.1.fAt).bind λ R5 =>
     some (R5.2.fl,R5.2.fat,R5.2.H',R5.2.G',R5.2.AT.Ar,R5.2.AT.fAt,R5.2.AT.A')
   ).bind λ q19 =>
  some (r5.1,(ap.mk q19.2.2.2.2.1 q19.2.2.2.2.2.1 q19.2.2.2.2.2.2))
 else
  ck (inR (base_1+r1.2.fAt)) <|
  some ((aa.mk 0 0 ([]:Bytes) ([]:Bytes) (ag.mk 0 0 ([]:Bytes) [] []) [] 0),(ap.mk r1.2.Ar (base_1+r1.2.fAt) ([]:Bytes)))
def eY:Nat->am->Option (ap×am)
 | 0,_=>none
 | n+1,N' =>
 jn (bM n (aI n) n N'.fs N'.fat N'.fi N'.D' N'.E' N'.BY N'.IN) λ Wd =>
 some ((ap.mk 0 0 ([]:Bytes)),(am.mk Wd.1 Wd.2.1 Wd.2.2.1 Wd.2.2.2.1 Wd.2.2.2.2.1 Wd.2.2.2.2.2.1 Wd.2.2.2.2.2.2))
def ax:Nat->af->Option (aa×af)
 | 0,_=>none
 | n+1,Rx =>
 ((aT n) Rx 0).bind λ r1 =>
 (aR n r1.2 ([63]:Bytes)).bind λ r3 =>
 if (!r3.1)=true then
  some (r1.1,r3.2)
 else
  (aD n r3.2).bind λ r6 =>
  ((ax n) r6.2).bind λ r8 =>
  (bX n r8.2 ([58]:Bytes)).bind λ R5 =>
  ((ax n) R5).bind λ Sf =>
  some ((aa.mk 8 0 ([]:Bytes) ([]:Bytes) (ag.mk 0 0 ([]:Bytes) [] []) [r1.1,r8.1,Sf.1] r1.1.fAt),Sf.2)
def aI:Nat->am->Option (ap×am)
 | 0,_=>none
 | n+1,N' =>
 (dK (am.mk N'.fs N'.fat N'.fi N'.D' N'.E' N'.BY N'.IN)).bind λ r1 =>
 ck (inR (r1.fi+2)) <|
 (da n r1.fs (r1.fi+2)).bind λ r4 =>
 if r4 < 0 then
  ck (inR (r1.fat+r1.fi)) <|
  some ((ap.mk 40 (r1.fat+r1.fi) ([]:Bytes)),(am.mk r1.fs r1.fat r1.fi r1.D' r1.E' r1.BY true))
 else
  ck (inR (r1.fi+2)) <|
  ck ((0:Int)<=r1.fi+2/\r1.fi+2<=r4/\r4<=(r1.fs.length:Int)) <|
  ck (inR (r1.fat+r1.fi)) <|
  ck (inR ((r1.fat+r1.fi)+2)) <|
  ((gA n) (sub r1.fs (r1.fi+2) r4) ((r1.fat+r1.fi)+2)).bind λ Sf =>
  if Sf.2.Ar=0 then
   ck ((r1.BY.length+1)*160<=140737488355328) <|
   ck (inR (r4+1)) <|
   some ((ap.mk 0 0 ([]:Bytes)),(am.mk r1.fs r1.fat (r4+1) (r4+1) r1.E' (r1.BY++[Sf.1]) true))
  else
   some (Sf.2,(am.mk r1.fs r1.fat r1.fi r1.D' r1.E' r1.BY true))
def aT:Nat->af->Int->Option (aa×af)
 | 0,_,_=>none
 | n+1,Rx,O' =>
 if 5 < O' then
  ((cy n) Rx).bind λ r2 =>
  some (r2.1,r2.2)
 else
  ck (inR (O'+1)) <|
  ((aT n) Rx (O'+1)).bind λ r5 =>
  jn (bw n (aT n) O' r5 n r5.1.Ar r5.1.fOp r5.1.A' r5.1.B' r5.1.By.Ar r5.1.By.F' r5.1.By.If r5.1.By.Gw r5.1.By.Df r5.1.AI r5.2.fl r5.2.fat r5.2.H' r5.2.G' r5.2.AT.Ar r5.2.AT.fAt r5.2.AT.A') λ _q89 =>
  none
def cy:Nat->af->Option (aa×af)
 | 0,_=>none
 | n+1,Rx =>
 (
   (aR n Rx ([33]:Bytes)).bind λ r1 =>
   if r1.1=true then
    some (1,r1.2.fl,r1.2.fat,r1.2.H',r1.2.G',r1.2.AT.Ar,r1.2.AT.fAt,r1.2.AT.A')
   else
    (aR n r1.2 ([45]:Bytes)).bind λ r4 =>
    if r4.1=true then
     some (2,r4.2.fl,r4.2.fat,r4.2.H',r4.2.G',r4.2.AT.Ar,r4.2.AT.fAt,r4.2.AT.A')
    else
     some (0,r4.2.fl,r4.2.fat,r4.2.H',r4.2.G',r4.2.AT.Ar,r4.2.AT.fAt,r4.2.AT.A')
  ).bind λ Sn =>
 if Sn.1=0 then
  ((cT n) (af.mk Sn.2.1 Sn.2.2.1 Sn.2.2.2.1 Sn.2.2.2.2.1 (ap.mk Sn.2.2.2.2.2.1 Sn.2.2.2.2.2.2.1 Sn.2.2.2.2.2.2.2))).bind λ Vn =>
  some (Vn.1,Vn.2)
 else
  (aD n (af.mk Sn.2.1 Sn.2.2.1 Sn.2.2.2.1 Sn.2.2.2.2.1 (ap.mk Sn.2.2.2.2.2.1 Sn.2.2.2.2.2.2.1 Sn.2.2.2.2.2.2.2))).bind λ S3 =>
  ((cy n) S3.2).bind λ SD =>
  some ((aa.mk 6 Sn.1 ([]:Bytes) ([]:Bytes) (ag.mk 0 0 ([]:Bytes) [] []) [SD.1] S3.1.fAt),SD.2)
def cT:Nat->af->Option (aa×af)
 | 0,_=>none
 | n+1,Rx =>
 ((ct n) Rx).bind λ r1 =>
 jn (br n (ax n) r1 n r1.1.Ar r1.1.fOp r1.1.A' r1.1.B' r1.1.By.Ar r1.1.By.F' r1.1.By.If r1.1.By.Gw r1.1.By.Df r1.1.AI r1.2.fl r1.2.fat r1.2.H' r1.2.G' r1.2.AT.Ar r1.2.AT.fAt r1.2.AT.A') λ _q123 =>
 none
def ct:Nat->af->Option (aa×af)
 | 0,_=>none
 | n+1,Rx =>
 (aK Rx).bind λ r1 =>
 if r1.1=true then
  some ((aa.mk 0 0 ([]:Bytes) ([]:Bytes) (ag.mk 0 0 ([]:Bytes) [] []) [] 0),r1.2)
 else
  (a6 n r1.2).bind λ r4 =>
  if r4.1.Ar=2 then
   (jr n r4.1.C').bind λ r7 =>
   if r7.2=0 then
    (aD n r4.2).bind λ Sf =>
    (fJ (ag.mk 2 r7.1 ([]:Bytes) [] []) r4.1.fAt).bind λ T9 =>
    some (T9,Sf.2)
   else
    (bc r4.2 r7.2 r4.1.fAt).bind λ R5 =>
    some (R5.1,R5.2)
  else
   if r4.1.Ar=3 then
    ((dV n) r4.2).bind λ UM =>
    some (UM.1,UM.2)
   else
    if r4.1.Ar=1 then
     ((eR n) r4.2).bind λ SD =>
     some (SD.1,SD.2)
    else
     if r4.1.Ar=4 then
      ((fP n) r4.2).bind λ Sj =>
      some (Sj.1,Sj.2)
     else
      (bc r4.2 2 r4.1.fAt).bind λ Tn =>
      some (Tn.1,Tn.2)
def dV:Nat->af->Option (aa×af)
 | 0,_=>none
 | n+1,Rx =>
 (a6 n Rx).bind λ r1 =>
 ck (inR (r1.1.fAt+1)) <|
 ((gJ n) r1.1.C' (r1.1.fAt+1)).bind λ r4 =>
 if r4.2.Ar=0 then
  (aD n r1.2).bind λ r9 =>
  some ((aa.mk r4.1.Ar r4.1.fOp r4.1.A' r4.1.B' r4.1.By r4.1.AI r1.1.fAt),r9.2)
 else
  (bc r1.2 r4.2.Ar r4.2.fAt).bind λ r7 =>
  some (r7.1,r7.2)
def eR:Nat->af->Option (aa×af)
 | 0,_=>none
 | n+1,Rx =>
 (a6 n Rx).bind λ r1 =>
 if r1.1.C'=([110,117,108,108]:Bytes) then
  (aD n r1.2).bind λ r4 =>
  (fJ (ag.mk 0 0 ([]:Bytes) [] []) r1.1.fAt).bind λ r6 =>
  some (r6,r4.2)
 else
  (
    if r1.1.C'=([116,114,117,101]:Bytes) then
     some true
    else
     some (decide (r1.1.C'=([102,97,108,115,101]:Bytes)))
   ).bind λ t9 =>
  if t9=true then
   (aD n r1.2).bind λ Ug =>
   (
     if r1.1.C'=([116,114,117,101]:Bytes) then
      some 1
     else
      some 0
    ).bind λ VO =>
   (fJ (ag.mk 1 VO ([]:Bytes) [] []) r1.1.fAt).bind λ RJ =>
   some (RJ,Ug.2)
  else
   (eG r1.1.C').bind λ UM =>
   if UM=true then
    (bc r1.2 2 r1.1.fAt).bind λ SD =>
    some (SD.1,SD.2)
   else
    (aD n r1.2).bind λ TA =>
    (aR n TA.2 ([40]:Bytes)).bind λ WR =>
    if (!WR.1)=true then
     some ((aa.mk 3 0 r1.1.C' ([]:Bytes) (ag.mk 0 0 ([]:Bytes) [] []) [] r1.1.fAt),WR.2)
    else
     (cq n WR.2).bind λ T8 =>
     ((eP n) T8 ([41]:Bytes)).bind λ UB =>
     (bj n UB.2 ([41]:Bytes)).bind λ r31 =>
     some ((aa.mk 9 0 r1.1.C' ([]:Bytes) (ag.mk 0 0 ([]:Bytes) [] []) UB.1 r1.1.fAt),r31)
def fP:Nat->af->Option (aa×af)
 | 0,_=>none
 | n+1,Rx =>
 (a6 n Rx).bind λ r1 =>
 if r1.1.C'=([40]:Bytes) then
  (cq n r1.2).bind λ r4 =>
  ((ax n) r4).bind λ r6 =>
  (bj n r6.2 ([41]:Bytes)).bind λ r8 =>
  some (r6.1,r8)
 else
  if r1.1.C'=([91]:Bytes) then
   (cq n r1.2).bind λ Ug =>
   (cr n Ug ([102,111,114]:Bytes)).bind λ S5 =>
   if S5.1=true then
    ((dU n) S5.2 r1.1.fAt 12).bind λ Vn =>
    some (Vn.1,Vn.2)
   else
    ((eP n) S5.2 ([93]:Bytes)).bind λ S3 =>
    (bj n S3.2 ([93]:Bytes)).bind λ SD =>
    some ((aa.mk 10 0 ([]:Bytes) ([]:Bytes) (ag.mk 0 0 ([]:Bytes) [] []) S3.1 r1.1.fAt),SD)
  else
   if r1.1.C'=([123]:Bytes) then
    (cq n r1.2).bind λ Sj =>
    (cr n Sj ([102,111,114]:Bytes)).bind λ Tn =>
    if Tn.1=true then
     ((dU n) Tn.2 r1.1.fAt 13).bind λ Sq =>
     some (Sq.1,Sq.2)
    else
     ((et n) Tn.2).bind λ WQ =>
     (bj n WQ.2 ([125]:Bytes)).bind λ Ti =>
     some ((aa.mk 11 0 ([]:Bytes) ([]:Bytes) (ag.mk 0 0 ([]:Bytes) [] []) WQ.1 r1.1.fAt),Ti)
   else
    (bc r1.2 2 r1.1.fAt).bind λ RX =>
    some (RX.1,RX.2)
def eP:Nat->af->Bytes->Option ((List aa)×af)
 | 0,_,_=>none
 | n+1,Rx,end_1 =>
 (cv n (ax n) end_1 n [] Rx.fl Rx.fat Rx.H' Rx.G' Rx.AT.Ar Rx.AT.fAt Rx.AT.A').bind λ VY =>
 some (VY.1,(af.mk VY.2.1 VY.2.2.1 VY.2.2.2.1 VY.2.2.2.2.1 (ap.mk VY.2.2.2.2.2.1 VY.2.2.2.2.2.2.1 VY.2.2.2.2.2.2.2)))
def dU:Nat->af->Int->Int->Option (aa×af)
 | 0,_,_,_=>none
 | n+1,Rx,RV,k_2 =>
 (aD n Rx).bind λ r1 =>
 (bZ n r1.2).bind λ r3 =>
 (
   (aR n r3.2 ([44]:Bytes)).bind λ r5 =>
   if r5.1=true then
    (aD n r5.2).bind λ r8 =>
    (bZ n r8.2).bind λ R5 =>
    some (R5.1,r3.1,R5.2.fl,R5.2.fat,R5.2.H',R5.2.G',R5.2.AT.Ar,R5.2.AT.fAt,R5.2.AT.A')
   else
    some (r3.1,([]:Bytes),r5.2.fl,r5.2.fat,r5.2.H',r5.2.G',r5.2.AT.Ar,r5.2.AT.fAt,r5.2.AT.A')
  ).bind λ Ub =>
 (cV n (af.mk Ub.2.2.1 Ub.2.2.2.1 Ub.2.2.2.2.1 Ub.2.2.2.2.2.1 (ap.mk Ub.2.2.2.2.2.2.1 Ub.2.2.2.2.2.2.2.1 Ub.2.2.2.2.2.2.2.2)) ([105,110]:Bytes)).bind λ RQ =>
 ((ax n) RQ).bind λ Sj =>
 ck ([Sj.1].length*160<=140737488355328) <|
 (bX n Sj.2 ([58]:Bytes)).bind λ SL =>
 ((ax n) SL).bind λ Sq =>
 ck (([Sj.1].length+[Sq.1].length)*160<=140737488355328) <|
 (
   if k_2=13 then
    (bX n Sq.2 ([61,62]:Bytes)).bind λ Ti =>
    ((ax n) Ti).bind λ RX =>
    ck ((([Sj.1]++[Sq.1]).length+[RX.1].length)*160<=140737488355328) <|
    some (([125]:Bytes),([Sj.1]++[Sq.1])++[RX.1],RX.2.fl,RX.2.fat,RX.2.H',RX.2.G',RX.2.AT.Ar,RX.2.AT.fAt,RX.2.AT.A')
   else
    some (([93]:Bytes),[Sj.1]++[Sq.1],Sq.2.fl,Sq.2.fat,Sq.2.H',Sq.2.G',Sq.2.AT.Ar,Sq.2.AT.fAt,Sq.2.AT.A')
  ).bind λ UR =>
 (
   (cr n (af.mk UR.2.2.1 UR.2.2.2.1 UR.2.2.2.2.1 UR.2.2.2.2.2.1 (ap.mk UR.2.2.2.2.2.2.1 UR.2.2.2.2.2.2.2.1 UR.2.2.2.2.2.2.2.2)) ([105,102]:Bytes)).bind λ Vm =>
   if Vm.1=true then
    (aD n Vm.2).bind λ T0 =>
    ((ax n) T0.2).bind λ Sv =>
    ck ((UR.2.1.length+[Sv.1].length)*160<=140737488355328) <|
    some (UR.2.1++[Sv.1],Sv.2.fl,Sv.2.fat,Sv.2.H',Sv.2.G',Sv.2.AT.Ar,Sv.2.AT.fAt,Sv.2.AT.A')
   else
    some (UR.2.1,Vm.2.fl,Vm.2.fat,Vm.2.H',Vm.2.G',Vm.2.AT.Ar,Vm.2.AT.fAt,Vm.2.AT.A')
  ).bind λ VZ =>
 (bj n (af.mk VZ.2.1 VZ.2.2.1 VZ.2.2.2.1 VZ.2.2.2.2.1 (ap.mk VZ.2.2.2.2.2.1 VZ.2.2.2.2.2.2.1 VZ.2.2.2.2.2.2.2)) UR.1).bind λ T6 =>
 some ((aa.mk k_2 0 Ub.1 Ub.2.1 (ag.mk 0 0 ([]:Bytes) [] []) VZ.1 RV),T6)
def et:Nat->af->Option ((List aa)×af)
 | 0,_=>none
 | n+1,Rx =>
 (bQ n (ax n) (cI n) n [] Rx.fl Rx.fat Rx.H' Rx.G' Rx.AT.Ar Rx.AT.fAt Rx.AT.A').bind λ Tb =>
 some (Tb.1,(af.mk Tb.2.1 Tb.2.2.1 Tb.2.2.2.1 Tb.2.2.2.2.1 (ap.mk Tb.2.2.2.2.2.1 Tb.2.2.2.2.2.2.1 Tb.2.2.2.2.2.2.2)))
def cI:Nat->af->Option (aa×af)
 | 0,_=>none
 | n+1,Rx =>
 (a6 n Rx).bind λ r1 =>
 if r1.1.Ar=1 then
  (aD n r1.2).bind λ r4 =>
  (fJ (ag.mk 3 0 r1.1.C' [] []) r1.1.fAt).bind λ r6 =>
  some (r6,r4.2)
 else
  if r1.1.Ar=3 then
   ((dV n) r1.2).bind λ r9 =>
   some (r9.1,r9.2)
  else
   (aR n r1.2 ([40]:Bytes)).bind λ Ug =>
   if Ug.1=true then
    (cq n Ug.2).bind λ T9 =>
    ((ax n) T9).bind λ Vn =>
    (bj n Vn.2 ([41]:Bytes)).bind λ S3 =>
    some (Vn.1,S3)
   else
    (bc Ug.2 2 r1.1.fAt).bind λ SD =>
    some (SD.1,SD.2)
end
theorem pO (n:Nat):tF (gJ n) 19/\tF (gA n) 33/\yB (eY n) 38/\ku (ax n) 65/\yB (aI n) 77/\(∀ (Rx:af) (O':Int) (r:aa×af),HO (aT n Rx O'=some r) Tryz.prog 100 [.ptr 1000000 0,.p (eI O')] [(1000000,((af.cs Rx).map .p))] (.p (.agg (aa.cs r.1))) ([(1000000,((af.cs r.2).map .p))]))/\ku (cy n) 139/\ku (cT n) 166/\ku (ct n) 184/\ku (dV n) 197/\ku (eR n) 198/\ku (fP n) 199/\(∀ (Rx:af) (end_1:Bytes) (r:(List aa)×af),HO (eP n Rx end_1=some r) Tryz.prog 210 [.ptr 1000000 0,.p (eS end_1)] [(1000000,((af.cs Rx).map .p))] (.p (eL al r.1)) ([(1000000,((af.cs r.2).map .p))]))/\(∀ (Rx:af) (RV:Int) (k_2:Int) (r:aa×af),HO (dU n Rx RV k_2=some r) Tryz.prog 212 [.ptr 1000000 0,.p (eI RV),.p (eI k_2)] [(1000000,((af.cs Rx).map .p))] (.p (.agg (aa.cs r.1))) ([(1000000,((af.cs r.2).map .p))]))/\(∀ (Rx:af) (r:(List aa)×af),HO (et n Rx=some r) Tryz.prog 213 [.ptr 1000000 0] [(1000000,((af.cs Rx).map .p))] (.p (eL al r.1)) ([(1000000,((af.cs r.2).map .p))]))/\ku (cI n) 225:=by
 induction n with
 | zero=>exact Zr
 | succ n ih =>
 obtain ⟨_,_,_,_,_,_,_,_,_,_,_,_,_,_,_,_⟩:=ih;refine ⟨?_,?_,?_,?_,?_,?_,?_,?_,?_,?_,?_,?_,?_,?_,?_,?_⟩
 ·refine λ Mr RV=>hP good Tryz.func19 Z Z λ r h0 _ w0=>?_;rw [gJ] at h0;refine nx 16 Z (bd h0 λ r1 e2 h0=>?_);refine mO Z (a8 [12] [890000] 101000 101001 (HO.c e2) Z Z Z Z Z ⟨sr,trivial⟩ Z Z ⟨⟨_,Z,⟨sr,sr,sr,sr,sr,AV.sub_nilvec _ _ _,sr,trivial⟩⟩,trivial⟩ Z Z Z Z Z Z Z Z Tryz.call38 Z Z ?_);refine nx 10 Z (fN [17] h0 Z (λ c3 h0=>?_) λ c3 h0=>?_)
  ·refine nx 10 Z (bd h0 λ r4 e5 h0=>?_);refine oK (HP.c e5) Z ⟨oH ⟨.inl Z,.inl Z,.inl Z,.inr ⟨Z,Z⟩,.inr ⟨Z,Z⟩,trivial⟩,sr,trivial⟩ Tryz.call39 Z (nx 4 Z ?_);refine bd h0 λ TV h1 h0=>kN TV (λ T5=>⟨[(4,.ptr 4 0),(5,.ptr 5 0),(7,.ptr 7 0),(8,.ptr 8 0)],[(4,bg),(5,b9),(7,(ap.cs r1.1).map .p),(8,(GY T5))]⟩) ?_ ?_
   ·exact J0
   refine nx 7 Z (fB [30] h1 Z (λ c6 h1=>?_) λ c6 h1=>?_)
   ·refine nx 4 Z (bd h1 λ r7 e8 h1=>?_);refine mO Z (cVq [12] [101000] 102000 102001 (HO.c e8) Tryz.call40 Z ?_);exact aG
   exact aG
  exact J0
 ·refine λ Mr base_1=>hP good Tryz.func33 Z Z λ r h0 _ w0=>?_;rw [gA] at h0;refine nx 8 Z (bd h0 λ r1 e2 h0=>?_);refine oK (HP.c e2) Z ⟨sr,trivial⟩ Tryz.call25 Z (nx 14 Z ?_);refine fN [18] h0 Z (λ c3 h0=>?_) λ c3 h0=>?_
  ·have:=js [601];have:=jO 601 (List ad×Int×Int×Int×Int×Int×Bytes) λ v=>[(30,(ew v))]
   exact J0
  refine nx 2 Z (cc' h0 λ V8 h0=>?_);refine mG (gE (t:=⟨[(1,.p (eI base_1)),(4,.ptr 4 0),(5,.ptr 5 0),(7,.ptr 7 0)],[(4,bg),(5,b9),(7,(ap.cs r1.2).map .p)]⟩) Z Z) (mSq ⟨2,[8,9],(λ _=>.none),(λ _=>[(1,.p (eI base_1)),(4,.ptr 4 0),(5,.ptr 5 0),(7,.ptr 7 0)]),(ob3 ([(4,bg),(5,b9),(7,((ap.cs r1.2).map .p))]) (4,bg) (5,[.p (eI r1.2.Ar),.p (eI (base_1+r1.2.fAt)),.p (eS ([]:Bytes))]))⟩ Z ?_);refine dPc (.p (.agg nW)) Z (dPc (.ptr 7 0) Z ?_);refine dPc (.p (eI r1.2.Ar)) Z (dPc (.p (eI base_1)) Z ?_);refine dPc (.ptr 7 1) Z (dPc (.p (eI r1.2.fAt)) Z ?_);refine dO (.p (eI (base_1+r1.2.fAt))) [22,24] Z (λ _ sl OF K hK=>ak Z (fS Z Z Z (OF _ _ Z) (OF _ _ Z) Z V8 hK)) (dPc (.p (.agg [eI r1.2.Ar,eI (base_1+r1.2.fAt),eS ([]:Bytes)])) Z ?_);exact J0
 ·refine λ N'=>hO good [800000] [1000000] Tryz.func38 Z Z λ r h0 _ w0 F=>?_;rw [eY] at h0;refine nx 6 rfl ?_;obtain ⟨o85,h1,Sl,hR0⟩:=cm h0;refine kEx 0 (λ Uz:Bytes×Int×Int×Int×Bytes×(List aa)×Bool=>o85=.inl Uz) (λ Uz=>⟨[(2,.ptr 2 0)],[(2,b9),(1000000,[.p (eS Uz.1),.p (eI Uz.2.1),.p (eI Uz.2.2.1),.p (eI Uz.2.2.2.1),.p (eS Uz.2.2.2.2.1),.vec 900000 11 0 (Uz.2.2.2.2.2.1.map al),.p (eB Uz.2.2.2.2.2.2)])]⟩) (λ Uz hv=>?_) ?_
  ·have h0:=Sl _ hv;exact nx 7 Z A8
  refine lG (λ (Tb:Bytes×Int×Int×Int×Bytes×(List aa)×Bool)=>⟨[(0,.ptr 1000000 0),(2,.ptr 2 0)],[(2,b9),(1000000,[.p (eS Tb.1),.p (eI Tb.2.1),.p (eI Tb.2.2.1),.p (eI Tb.2.2.2.1),.p (eS Tb.2.2.2.2.1),.vec 900000 11 0 (Tb.2.2.2.2.2.1.map al),.p (eB Tb.2.2.2.2.2.2)])]⟩) (λ m (Tb:Bytes×Int×Int×Int×Bytes×(List aa)×Bool)=>bM n (aI n) m Tb.1 Tb.2.1 Tb.2.2.1 Tb.2.2.2.1 Tb.2.2.2.2.1 Tb.2.2.2.2.2.1 Tb.2.2.2.2.2.2) Y (N'.fs,N'.fat,N'.fi,N'.D',N'.E',N'.BY,N'.IN) h1 (gE rfl rfl) ?_;rintro m ⟨SZ,Te,Su,SY,Ta,Td,Tc⟩ h1;replace h1:bM n (aI n) (m+1) SZ Te Su SY Ta Td Tc=some o85:=h1;rw [bM] at h1;refine nx 2 rfl (mD [(0,.ptr 1000000 0),(2,.ptr 2 0)] rfl ⟨rfl,rfl,trivial⟩ rfl ?_);refine dR 8 rfl (dq (.p (eI (SZ.length:Int))) [12] rfl (λ _ e _ q=>ak rfl (qn rfl rfl rfl rfl rfl (e _ _ rfl) q)) rfl ?_);refine dR 1 rfl (dE rfl ?_);refine nx 1 rfl (fD [14] h1 rfl (λ c42 h1=>?_) λ c42 h1=>?_)
  ·refine nx 9 Z (cc' h1 λ hk43 h1=>?_);refine mD [(0,.ptr 1000000 0),(2,.ptr 2 0),(3,.ptr 3 0)] Z ⟨Z,Z,Z,trivial⟩ Z (dR 8 Z ?_);refine dq (.p (eS (sub SZ Su (SZ.length:Int)))) [18,22] Z (λ _ e _ q=>ak Z (eQ (a:=SZ) (l:=Su) (h:=(SZ.length:Int)) Z Z Z Z Z (e _ _ Z) pm Z hk43 q)) Z (dR 1 Z ?_);refine dE Z (nx 1 Z ?_);refine bd h1 λ V3 h2 h1=>kN V3 (λ Vi=>⟨[(0,.ptr 1000000 0),(2,.ptr 2 0),(3,.ptr 3 0)],[(2,b9),(3,[.p (eI Vi.1),.p (eI Vi.2.1),.p (eS Vi.2.2.1)]),(1000000,[.p (eS Vi.2.2.2.1),.p (eI Vi.2.2.2.2.1),.p (eI Vi.2.2.2.2.2.1),.p (eI Vi.2.2.2.2.2.2.1),.p (eS Vi.2.2.2.2.2.2.2.1),.vec 106000 11 0 (Vi.2.2.2.2.2.2.2.2.1.map al),.p (eB Vi.2.2.2.2.2.2.2.2.2)])]⟩) ?_ ?_
   ·refine nx 7 Z (fN [52] h1 Z (λ c68 h1=>?_) λ c68 h1=>?_)
    ·exact nx 2 Z (eX (V3.2.2.2.1,V3.2.2.2.2.1,V3.2.2.2.2.2.1,V3.2.2.2.2.2.2.1,V3.2.2.2.2.2.2.2.1,V3.2.2.2.2.2.2.2.2.1,V3.2.2.2.2.2.2.2.2.2) h1 (bo (ca 106000 900000 Z Z Z Z Z) (gE Z Z)))
    exact nx 7 Z (mQo (hR0 _ (oi h1).symm) (bo (ca 106000 800000 Z Z Z Z Z) (aQ _)) Z Z Z Z (sr) ⟨⟨_,Z,⟨sr,sr,sr,sr,sr,sr,sr,trivial⟩⟩,trivial⟩)
   refine nx 4 Z (bd h2 λ UA XB h2=>?_);refine oK (dj (sub SZ Su (SZ.length:Int)) ([36,36,123]:Bytes) _ XB) Z ⟨sr,sr,trivial⟩ Tryz.call75 Z (nx 2 Z ?_);refine fB [26,28] h2 Z (λ c46 h2=>?_) λ c46 h2=>?_
   ·refine nx 7 Z (oC h2 Z λ Wv h2=>?_);refine nx 10 Z (oA h2 Z Z λ VH h2=>?_);refine nx 4 Z (mG (gE (t:=⟨[(0,.ptr 1000000 0),(2,.ptr 2 0),(3,.ptr 3 0)],[(2,b9),(3,b9),(1000000,[.p (eS SZ),.p (eI Te),.p (eI (Su+3)),.p (eI SY),.p (eS (Ta++([36,123]:Bytes))),.vec 900000 11 0 (Td.map al),.p (eB Tc)])]⟩) Z Z) ?_);refine nx 2 Z (bd h2 λ T0 e50 h2=>?_);refine mO Z (cVq [1000000] [900000] 104000 104001 (HO.c e50) Tryz.call76 Z ?_);exact nx 2 Z (eX _ (oi h2).symm (bo (ca 104000 106000 Z Z Z Z Z) (gE Z Z)))
   refine nx 4 Z (bd h2 λ Sv Xy h2=>?_);refine oK (dj (sub SZ Su (SZ.length:Int)) ([36,123]:Bytes) _ Xy) Z ⟨sr,sr,trivial⟩ Tryz.call75 Z (nx 2 Z ?_);refine fB [45,47] h2 Z (λ c53 h2=>?_) λ c53 h2=>?_
   ·refine nx 3 Z (bd h2 λ T7 e55 h2=>?_);refine mO Z (cVq [1000000] [900000] 105000 105001 (HO.c e55) Tryz.call77 Z ?_);exact nx 2 Z (eX _ (oi h2).symm (bo (ca 105000 106000 Z Z Z Z Z) (gE Z Z)))
   refine nx 3 Z (bd h2 λ SX e57 h2=>?_);refine mO Z (cVq [1000000] [900000] 106000 106001 (HO.c e57) Tryz.call78 Z ?_);exact gN
  exact aG
 ·refine λ Rx=>hO good [] [1000000] Tryz.func65 Z Z λ r h0 _ w0 F=>?_;rw [ax] at h0;refine nx 7 Z (bd h0 λ r1 e2 h0=>?_);refine mO Z (cVq [1000000] [] 101000 101000 (HO.c e2) Tryz.call100 Z ?_);refine nx 7 Z (bd h0 λ r3 e4 h0=>?_);refine mO Z (cVq [1000000] [] 102000 102000 (HO.c e4) Tryz.call101 Z ?_);refine nx 2 Z (fB [10] h0 Z (λ c5 h0=>?_) λ c5 h0=>?_)
  ·exact J0
  refine nx 5 Z (K0 λ r6 h0=>?_);refine nx 4 Z (K0 λ r8 h0=>?_);refine nx 6 Z (K0 λ R5 h0=>?_);refine nx 4 Z (bd h0 λ Sf WX h0=>?_);refine mO Z (cVq [1000000] [] 106000 106000 (HO.c WX) Tryz.call65 Z ?_);refine nx 8 Z (mO Z (bp al [r1.1,r8.1,Sf.1] Z Z Z Z Z Z Z Z Z Z Z Z Z kB ?_));exact J0
 ·refine λ N'=>hO good [800000] [1000000] Tryz.func77 Z Z λ r h0 _ w0 F=>?_;rw [aI] at h0;refine nx 7 Z (bd h0 λ r1 e2 h0=>?_);refine mO Z (cVq [1000000] [900000] 101000 101001 (HO.c e2) Tryz.call40 Z ?_);refine nx 9 Z (cc' h0 λ U9 h0=>?_);refine bd h0 λ r4 e5 h0=>mD [(0,.ptr 1000000 0),(2,.ptr 2 0)] Z ⟨Z,Z,trivial⟩ Z (dR 8 Z ?_);refine dq (.p (eI (r1.fi+2))) [18] Z (λ _ e _ q=>ak Z (fS Z Z Z (e _ _ Z) Z Z U9 q)) Z (dq (.p (eI r4)) [14,19] Z (λ _ e _ q=>ak Z (bS (HP.c e5) Z Z Z (av (e _ _ Z) (av (e _ _ Z) bm)) ⟨sr,sr,trivial⟩ Tryz.call124 Z q)) Z ?_);refine dR 1 Z (dE Z ?_);refine nx 7 Z (fD [22] h0 Z (λ c6 h0=>?_) λ c6 h0=>?_)
  ·refine nx 2 Z (cc' h0 λ V7 h0=>?_);refine mG (gE (t:=⟨[(0,.ptr 1000000 0),(2,.ptr 2 0)],[(2,b9),(1000000,[.p (eS r1.fs),.p (eI r1.fat),.p (eI r1.fi),.p (eI r1.D'),.p (eS r1.E'),.vec 101000 11 0 (r1.BY.map al),.p (eB true)])]⟩) Z Z) (mSq ⟨1,[10],(λ _=>.none),(λ _=>[(0,.ptr 1000000 0),(2,.ptr 2 0)]),(ob2 ([(2,b9),(1000000,[.p (eS r1.fs),.p (eI r1.fat),.p (eI r1.fi),.p (eI r1.D'),.p (eS r1.E'),.vec 101000 11 0 (r1.BY.map al),.p (eB true)])]) (2,[.p (eI 40),.p (eI (r1.fat+r1.fi)),.p (eS ([]:Bytes))]))⟩ Z ?_);refine dPc (.ptr 1000000 0) Z (dPc (.ptr 1000000 0) Z ?_);refine dPc (.ptr 1000000 1) Z (dPc (.p (eI r1.fat)) Z ?_);refine dPc (.ptr 1000000 0) Z (dPc (.ptr 1000000 0) Z ?_);refine dPc (.ptr 1000000 2) Z (dPc (.p (eI r1.fi)) Z ?_);refine dO (.p (eI (r1.fat+r1.fi))) [26,30] Z (λ _ sl OF K hK=>ak Z (fS Z Z Z (OF _ _ Z) (OF _ _ Z) Z V7 hK)) (dPc (.p (.agg [eI 40,eI (r1.fat+r1.fi),eS ([]:Bytes)])) Z ?_);refine dS Z (fp ?_);exact nx 2 Z Ap
  refine nx 3 Z (cc' h0 λ Xt h0=>?_);refine cc' h0 λ UZ h0=>cc' h0 λ TN h0=>cc' h0 λ TL h0=>bd h0 λ Sf WX h0=>mG (gE (t:=⟨[(0,.ptr 1000000 0),(2,.ptr 2 0),(3,.p (eI r4))],[(2,b9),(1000000,[.p (eS r1.fs),.p (eI r1.fat),.p (eI r1.fi),.p (eI r1.D'),.p (eS r1.E'),.vec 101000 11 0 (r1.BY.map al),.p (eB true)])]⟩) Z Z) (mSS ⟨4,[25,26,27,28],(by5 (.some λ i=>Nat.beq i 4) (.some λ i=>Nat.beq i 5) .none .none .none),(λ _=>[(0,.ptr 1000000 0),(2,.ptr 2 0),(3,.p (eI r4))]),(ob5 ([(2,b9),(1000000,[.p (eS r1.fs),.p (eI r1.fat),.p (eI r1.fi),.p (eI r1.D'),.p (eS r1.E'),.vec 101000 11 0 (r1.BY.map al),.p (eB true)])]) (4,bg) (5,b9) (4,((aa.cs Sf.1).map .p)) (5,((ap.cs Sf.2).map .p)))⟩ ⟨4,[26,25,27,28],(by5 (.some λ i=>Nat.beq i 5) (.some λ i=>Nat.beq i 4) .none .none .none),(λ _=>[(0,.ptr 1000000 0),(2,.ptr 2 0),(3,.p (eI r4))]),(ob5 ([(2,b9),(1000000,[.p (eS r1.fs),.p (eI r1.fat),.p (eI r1.fi),.p (eI r1.D'),.p (eS r1.E'),.vec 101000 11 0 (r1.BY.map al),.p (eB true)])]) (5,b9) (4,bg) (4,((aa.cs Sf.1).map .p)) (5,((ap.cs Sf.2).map .p)))⟩ Z Z Z Z Z Z Z ⟨Z,Z,Z,trivial⟩ Z (lt4 ⟨Z,Z,Z,trivial⟩ ⟨Z,Z,Z,trivial⟩ ⟨Z,Z,Z,trivial⟩ ⟨Z,Z,Z,trivial⟩) (lt4 ⟨Z,Z,Z,trivial⟩ ⟨Z,Z,Z,trivial⟩ ⟨Z,Z,Z,trivial⟩ ⟨Z,Z,Z,trivial⟩) Z Z Z Z Z ?_);refine dPc (.ptr 1000000 0) Z (dPc (.ptr 1000000 0) Z ?_);refine dPc (.ptr 1000000 0) Z (dPc (.p (eS r1.fs)) Z ?_);refine dPc (.ptr 1000000 0) Z (dPc (.ptr 1000000 0) Z ?_);refine dPc (.ptr 1000000 2) Z (dPc (.p (eI r1.fi)) Z ?_);refine dO (.p (eI (r1.fi+2))) [41] Z (λ _ sl OF K hK=>ak Z (fS Z Z Z (OF _ _ Z) Z Z Xt hK)) (dPc (.p (eI r4)) Z ?_);refine dO (.p (eS (sub r1.fs (r1.fi+2) r4))) [37,42,43] Z (λ _ sl OF K hK=>ak Z (eQ (a:=r1.fs) (l:=r1.fi+2) (h:=r4) Z Z Z Z Z (OF _ _ Z) wS w9 UZ hK)) (dPc (.ptr 1000000 0) Z ?_);refine dPc (.ptr 1000000 0) Z (dPc (.ptr 1000000 1) Z ?_);refine dPc (.p (eI r1.fat)) Z (dPc (.ptr 1000000 0) Z ?_);refine dPc (.ptr 1000000 0) Z (dPc (.ptr 1000000 2) Z ?_);refine dPc (.p (eI r1.fi)) Z (dO (.p (eI (r1.fat+r1.fi))) [48,52] Z (λ _ sl OF K hK=>ak Z (fS Z Z Z (OF _ _ Z) (OF _ _ Z) Z TN hK)) ?_);refine dO (.p (eI ((r1.fat+r1.fi)+2))) [53] Z (λ _ sl OF K hK=>ak Z (fS Z Z Z (OF _ _ Z) Z Z TL hK)) (dO (.tuple [.p (.agg (aa.cs Sf.1)),.p (.agg (ap.cs Sf.2))]) [44,54] Z (λ _ sl OF K hK=>ak Z (bS (HP.c WX) Z Z Z (av (OF _ _ Z) (av (OF _ _ Z) bm)) ⟨sr,sr,trivial⟩ Tryz.call33 Z hK)) ?_);refine dPc (.tuple [.p (.agg (aa.cs Sf.1)),.p (.agg (ap.cs Sf.2))]) Z (dPc (.p (.agg (aa.cs Sf.1))) Z ?_);refine dPc (.p (.agg (ap.cs Sf.2))) Z (dI (λ _=>.ptr 4 0) [] Z (λ sl OF K hK=>ak Z (gX Z Z Z Z Z hK)) ?_);refine dI (λ _=>.ptr 5 0) [] Z (λ sl OF K hK=>ak Z (gX Z Z Z Z Z hK)) (dS Z ?_);refine dS Z (AW (dPc (.ptr 1000000 0) Z (dPc (.ptr 1000000 0) Z (dPc (.ptr 1000000 0) Z (dPc (.p (eS r1.fs)) Z (dPc (.ptr 1000000 0) Z (dPc (.ptr 1000000 0) Z (dPc (.ptr 1000000 2) Z (dPc (.p (eI r1.fi)) Z (dO (.p (eI (r1.fi+2))) [41] Z (λ _ sl OF K hK=>ak Z (fS Z Z Z (OF _ _ Z) Z Z Xt hK)) (dPc (.p (eI r4)) Z (dO (.p (eS (sub r1.fs (r1.fi+2) r4))) [37,42,43] Z (λ _ sl OF K hK=>ak Z (eQ (a:=r1.fs) (l:=r1.fi+2) (h:=r4) Z Z Z Z Z (OF _ _ Z) wS w9 UZ hK)) (dPc (.ptr 1000000 0) Z (dPc (.ptr 1000000 0) Z (dPc (.ptr 1000000 1) Z (dPc (.p (eI r1.fat)) Z (dPc (.ptr 1000000 0) Z (dPc (.ptr 1000000 0) Z (dPc (.ptr 1000000 2) Z (dPc (.p (eI r1.fi)) Z (dO (.p (eI (r1.fat+r1.fi))) [48,52] Z (λ _ sl OF K hK=>ak Z (fS Z Z Z (OF _ _ Z) (OF _ _ Z) Z TN hK)) (dO (.p (eI ((r1.fat+r1.fi)+2))) [53] Z (λ _ sl OF K hK=>ak Z (fS Z Z Z (OF _ _ Z) Z Z TL hK)) (dO (.tuple [.p (.agg (aa.cs Sf.1)),.p (.agg (ap.cs Sf.2))]) [44,54] Z (λ _ sl OF K hK=>ak Z (bS (HP.c WX) Z Z Z (av (OF _ _ Z) (av (OF _ _ Z) bm)) ⟨sr,sr,trivial⟩ Tryz.call33 Z hK)) (dPc (.tuple [.p (.agg (aa.cs Sf.1)),.p (.agg (ap.cs Sf.2))]) Z (dPc (.p (.agg (aa.cs Sf.1))) Z (dPc (.p (.agg (ap.cs Sf.2))) Z (dI (λ _=>.ptr 4 0) [] Z (λ sl OF K hK=>ak Z (gX Z Z Z Z Z hK)) (dI (λ _=>.ptr 5 0) [] Z (λ sl OF K hK=>ak Z (gX Z Z Z Z Z hK)) (dS Z (dS Z (OV Z ⟨Z,Z,Z,Z,Z,Z,trivial⟩ ⟨⟨Z,Z,.inl Z⟩,⟨⟨Z,Z,.inl Z⟩,⟨⟨Z,Z,.inr Z⟩,⟨⟨Z,Z,.inr Z⟩,⟨⟨Z,Z,.inr Z⟩,⟨⟨Z,Z,.inr Z⟩,⟨⟨Z,Z,.inr Z⟩,⟨⟨Z,Z,.inr Z⟩,⟨⟨Z,Z,.inr Z⟩,⟨⟨Z,Z,.inr Z⟩,⟨⟨Z,Z,.inr Z⟩,⟨⟨Z,Z,.inr Z⟩,⟨⟨Z,Z,.inr Z⟩,⟨⟨Z,Z,.inr Z⟩,⟨⟨Z,Z,.inr Z⟩,⟨⟨Z,Z,.inr Z⟩,⟨⟨Z,Z,.inr Z⟩,⟨⟨Z,Z,.inr Z⟩,⟨⟨Z,Z,.inr Z⟩,⟨⟨Z,Z,.inr Z⟩,⟨⟨Z,Z,.inr Z⟩,⟨⟨Z,Z,.inr Z⟩,⟨⟨Z,Z,.inr Z⟩,⟨⟨Z,Z,.inr Z⟩,⟨⟨Z,Z,.inr Z⟩,⟨⟨Z,Z,.inr Z⟩,⟨⟨Z,Z,.inr Z⟩,trivial⟩⟩⟩⟩⟩⟩⟩⟩⟩⟩⟩⟩⟩⟩⟩⟩⟩⟩⟩⟩⟩⟩⟩⟩⟩⟩⟩)))))))))))))))))))))))))))))) ?_);refine nx 1 Z (mG (gE (t:=⟨[(0,.ptr 1000000 0),(2,.ptr 2 0),(3,.p (eI r4)),(4,.ptr 4 0),(5,.ptr 5 0)],[(2,b9),(4,(aa.cs Sf.1).map .p),(5,(ap.cs Sf.2).map .p),(1000000,[.p (eS r1.fs),.p (eI r1.fat),.p (eI r1.fi),.p (eI r1.D'),.p (eS r1.E'),.vec 101000 11 0 (r1.BY.map al),.p (eB true)])]⟩) Z Z) ?_);refine nx 7 Z (fN [60] h0 Z (λ Vh h0=>?_) λ Vh h0=>?_)
  ·refine nx 3 Z (cc' h0 λ S' h0=>?_);refine mG (gE (t:=⟨[(0,.ptr 1000000 0),(2,.ptr 2 0),(3,.p (eI r4)),(4,.ptr 4 0)],[(2,b9),(4,(aa.cs Sf.1).map .p),(1000000,[.p (eS r1.fs),.p (eI r1.fat),.p (eI r1.fi),.p (eI r1.D'),.p (eS r1.E'),.vec 101000 11 0 (r1.BY.map al),.p (eB true)])]⟩) Z Z) (mSP ⟨3,[7,9,12],(by4 (.some λ i=>Nat.beq i 101000||Nat.beq i 69) (.fn (upP 69 11 (.agg (aa.cs Sf.1)))) .none .none),(λ _=>[(0,.ptr 1000000 0),(2,.ptr 2 0),(3,.p (eI r4)),(4,.ptr 4 0)]),(by4 ([(2,b9),(4,((aa.cs Sf.1).map .p)),(1000000,[.p (eS r1.fs),.p (eI r1.fat),.p (eI r1.fi),.p (eI r1.D'),.p (eS r1.E'),.vec 101000 11 0 (r1.BY.map al),.p (eB true)])]) ([(2,b9),(4,((aa.cs Sf.1).map .p)),(1000000,[.p (eS r1.fs),.p (eI r1.fat),.p (eI r1.fi),.p (eI r1.D'),.p (eS r1.E'),.p (eL al r1.BY),.p (eB true)])]) ([(2,b9),(4,((aa.cs Sf.1).map .p)),(1000000,[.p (eS r1.fs),.p (eI r1.fat),.p (eI r1.fi),.p (eI r1.D'),.p (eS r1.E'),.p (eL al r1.BY),.p (eB true)])]) ([(1000000,[.p (eS r1.fs),.p (eI r1.fat),.p (eI r1.fi),.p (eI r1.D'),.p (eS r1.E'),.vec 69 11 0 (r1.BY.map al++[.agg (aa.cs Sf.1)]),.p (eB true)]),(2,b9),(4,((aa.cs Sf.1).map .p)),(1000000,[.p (eS r1.fs),.p (eI r1.fat),.p (eI r1.fi),.p (eI r1.D'),.p (eS r1.E'),.p (eL al r1.BY),.p (eB true)])]))⟩ ⟨3,[7,12,9],(by4 (.some λ i=>Nat.beq i 101000||Nat.beq i 69) .none (.fn (upP 69 11 (.agg (aa.cs Sf.1)))) .none),(λ _=>[(0,.ptr 1000000 0),(2,.ptr 2 0),(3,.p (eI r4)),(4,.ptr 4 0)]),(by4 ([(2,b9),(4,((aa.cs Sf.1).map .p)),(1000000,[.p (eS r1.fs),.p (eI r1.fat),.p (eI r1.fi),.p (eI r1.D'),.p (eS r1.E'),.vec 101000 11 0 (r1.BY.map al),.p (eB true)])]) ([(2,b9),(4,((aa.cs Sf.1).map .p)),(1000000,[.p (eS r1.fs),.p (eI r1.fat),.p (eI r1.fi),.p (eI r1.D'),.p (eS r1.E'),.p (eL al r1.BY),.p (eB true)])]) ([(1000000,[.p (eS r1.fs),.p (eI r1.fat),.p (eI r1.fi),.p (eI r1.D'),.p (eS r1.E'),.vecp 69 11 0 (r1.BY.map al),.p (eB true)]),(2,b9),(4,((aa.cs Sf.1).map .p)),(1000000,[.p (eS r1.fs),.p (eI r1.fat),.p (eI r1.fi),.p (eI r1.D'),.p (eS r1.E'),.p (eL al r1.BY),.p (eB true)])]) ([(1000000,[.p (eS r1.fs),.p (eI r1.fat),.p (eI r1.fi),.p (eI r1.D'),.p (eS r1.E'),.vec 69 11 0 (r1.BY.map al++[.agg (aa.cs Sf.1)]),.p (eB true)]),(2,b9),(4,((aa.cs Sf.1).map .p)),(1000000,[.p (eS r1.fs),.p (eI r1.fat),.p (eI r1.fi),.p (eI r1.D'),.p (eS r1.E'),.p (eL al r1.BY),.p (eB true)])]))⟩ Z Z Z Z Z Z Z ⟨Z,Z,Z,Z,trivial⟩ Z (lt3 ⟨Z,Z,Z,Z,trivial⟩ ⟨Z,Z,Z,Z,trivial⟩ ⟨Z,Z,Z,Z,trivial⟩) (lt3 ⟨Z,Z,Z,Z,trivial⟩ ⟨Z,Z,Z,Z,trivial⟩ ⟨Z,Z,Z,Z,trivial⟩) Z Z Z Z Z ?_);refine dPc (.ptr 1000000 0) Z (dPc (.ptr 1000000 0) Z ?_);refine dPc (.ptr 1000000 5) Z (dP (by4 (.vec 101000 11 0 (r1.BY.map al)) (.p (eL al r1.BY)) (.p (eL al r1.BY)) (.p (eL al r1.BY))) Z ?_);refine dPc (.p (.agg (aa.cs Sf.1))) Z (dO (.p (eI (r1.BY.length:Int))) [65] Z (λ _ sl OF K hK=>ak Z (pS (f:=al) (l:=r1.BY) Z Z Z Z Z (OF _ _ Z) Z hK)) ?_);refine dO (.p (eL (λ x:PV=>x) [.agg nW])) [] Z (λ _ sl OF K hK=>ak Z (bp (λ x:PV=>x) [.agg nW] Z Z Z Z Z Z (fh Z Z gH) Z Z Z Z Z Z Z hK)) (dI (by4 (.vecp 69 11 0 (r1.BY.map al)) (.vecp 69 11 0 (r1.BY.map al)) (.vec 69 11 0 (r1.BY.map al++[.agg (aa.cs Sf.1)])) (.vec 69 11 0 (r1.BY.map al++[.agg (aa.cs Sf.1)]))) [65,68] Z (λ sl OF K hK=>ak Z (pQ al r1.BY Z Z Z Z Z Z Z Z (OF _ _ Z) Z Z (OF _ _ Z) Z Z Z Z Z S' hK)) ?_);refine pM (by4 (.elp 69 11) (.elp 69 11) .undef .undef) Z Z Z (Lb Z Z Z Y) (lt3 (nl Z) Y Y) (cP Z (cP Z (cp [(67,_),(69,_)] ⟨.inr ⟨5,_,Z,Z,Z⟩,.inr ⟨7,_,Z,Z,Z⟩,trivial⟩ (λ sl OF K hK=>ak Z (oO Z Z Z Z Z Z Z (OF _ _ Z) (OF _ _ Z) qJ hK)) (cP Z cF)))) (kd [(66,_),(70,_)] Z ⟨.inr ⟨4,_,Z,Z,Z⟩,.inr ⟨8,_,Z,Z,Z⟩,trivial⟩ Z (λ sl OF K hK=>ak Z (xb (z:=.agg (aa.cs Sf.1)) Z Z Z Z (OF _ _ Z) (OF _ _ Z) Z Z Z Z Z hK)) ?_);refine dPc (.ptr 1000000 0) Z (dPc (.ptr 1000000 5) Z ?_);refine dS Z (AW (dPc (.ptr 1000000 0) Z (dPc (.ptr 1000000 0) Z (dPc (.ptr 1000000 5) Z (dP (by4 (.vec 101000 11 0 (r1.BY.map al)) (.p (eL al r1.BY)) (.p (eL al r1.BY)) (.p (eL al r1.BY))) Z (dPc (.p (.agg (aa.cs Sf.1))) Z (dO (.p (eI (r1.BY.length:Int))) [65] Z (λ _ sl OF K hK=>ak Z (pS (f:=al) (l:=r1.BY) Z Z Z Z Z (OF _ _ Z) Z hK)) (dO (.p (eL (λ x:PV=>x) [.agg nW])) [] Z (λ _ sl OF K hK=>ak Z (bp (λ x:PV=>x) [.agg nW] Z Z Z Z Z Z (fh Z Z gH) Z Z Z Z Z Z Z hK)) (dI (by4 (.vecp 69 11 0 (r1.BY.map al)) (.vecp 69 11 0 (r1.BY.map al)) (.vecp 69 11 0 (r1.BY.map al)) (.vec 69 11 0 (r1.BY.map al++[.agg (aa.cs Sf.1)]))) [65,68] Z (λ sl OF K hK=>ak Z (pQ al r1.BY Z Z Z Z Z Z Z Z (OF _ _ Z) Z Z (OF _ _ Z) Z Z Z Z Z S' hK)) (pM (by4 (.elp 69 11) (.elp 69 11) (.elp 69 11) .undef) Z Z Z (Lb Z Z Z Y) (lt3 (nl Z) Y Y) (cP Z (cp [(67,_),(69,_)] ⟨.inr ⟨5,_,Z,Z,Z⟩,.inr ⟨7,_,Z,Z,Z⟩,trivial⟩ (λ sl OF K hK=>ak Z (oO Z Z Z Z Z Z Z (OF _ _ Z) (OF _ _ Z) qJ hK)) (cp [(67,_),(69,_)] ⟨.inr ⟨5,_,Z,Z,Z⟩,.inr ⟨7,_,Z,Z,Z⟩,trivial⟩ (λ sl OF K hK=>ak Z (oO Z Z Z Z Z Z Z (OF _ _ Z) (OF _ _ Z) qJ hK)) (cP Z cF)))) (kd [(66,_),(70,_)] Z ⟨.inr ⟨4,_,Z,Z,Z⟩,.inr ⟨8,_,Z,Z,Z⟩,trivial⟩ Z (λ sl OF K hK=>ak Z (xb (z:=.agg (aa.cs Sf.1)) Z Z Z Z (OF _ _ Z) (OF _ _ Z) Z Z Z Z Z hK)) (dPc (.ptr 1000000 0) Z (dPc (.ptr 1000000 5) Z (dS Z (Cc Z ⟨Z,Z,Z,Z,trivial⟩ ⟨⟨Z,Z,.inr Z⟩,⟨⟨Z,Z,.inr Z⟩,⟨⟨Z,Z,.inr Z⟩,⟨⟨Z,Z,.inr Z⟩,⟨⟨Z,Z,.inr Z⟩,⟨⟨Z,Z,.inr Z⟩,⟨⟨Z,Z,.inr Z⟩,⟨⟨Z,Z,.inr Z⟩,⟨⟨Z,Z,.inr Z⟩,⟨⟨Z,Z,.inr Z⟩,⟨⟨Z,Z,.inr Z⟩,trivial⟩⟩⟩⟩⟩⟩⟩⟩⟩⟩⟩)))))))))))))) ?_);refine mG (fb (t:=⟨[(0,.ptr 1000000 0),(2,.ptr 2 0),(3,.p (eI r4))],[(2,b9),(1000000,[.p (eS r1.fs),.p (eI r1.fat),.p (eI r1.fi),.p (eI r1.D'),.p (eS r1.E'),.vec 69 11 0 ((r1.BY++[Sf.1]).map al),.p (eB true)])]⟩) (nS ⟨er Z,er Z,er Z,trivial⟩ ⟨⟨_,Z,⟨sr,sr,sr,trivial⟩⟩,⟨_,Z,⟨sr,sr,sr,sr,sr,AV.sub_of_eq Gf,sr,trivial⟩⟩,trivial⟩)) (nx 5 Z ?_);exact oA h0 Z Z λ TZ h0=>nx 21 Z (mQo (oi h0) (bo (ca 69 800000 Z Z Z Z Z) (aQ _)) Z Z Z Z (sr) ⟨⟨_,Z,⟨sr,sr,sr,sr,sr,sr,sr,trivial⟩⟩,trivial⟩)
  exact nx 7 Z Ap
 ·refine λ Rx O'=>hO good [] [1000000] Tryz.func100 Z Z λ r h0 _ w0 F=>?_;rw [aT] at h0;refine nx 10 Z (fD [10] h0 Z (λ c1 h0=>?_) λ c1 h0=>?_)
  ·exact J0
  refine nx 6 rfl (oA h0 Z Z λ V8 h0=>?_);refine bd h0 λ r5 e6 h0=>mO rfl (cVq [1000000] [] 102000 102000 (HO.c e6) Tryz.call100 rfl ?_);refine nx 4 rfl ?_;obtain ⟨o90,h1,Sl,hR0⟩:=cm h0;refine kEx 0 (λ v91:(List ad)×Int×Int×Int×Int×Int×Bytes=>o90=.inl v91) (λ v91=>⟨[],[(1000000,(ew v91))]⟩) (λ v91 hv=>?_) ?_
  ·exact Bn
  refine lG (λ (SU:Int×Int×Bytes×Bytes×Int×Int×Bytes×(List ag)×(List Bytes)×(List aa)×(List ad)×Int×Int×Int×Int×Int×Bytes)=>⟨[(0,.ptr 1000000 0),(1,.p (eI O')),(4,.ptr 4 0),(5,.ptr 5 0)],[(4,bg),(5,[.p (eI SU.1),.p (eI SU.2.1),.p (eS SU.2.2.1),.p (eS SU.2.2.2.1),.p (eI SU.2.2.2.2.1),.p (eI SU.2.2.2.2.2.1),.p (eS SU.2.2.2.2.2.2.1),.p (eL dQ SU.2.2.2.2.2.2.2.1),.p (eL eS SU.2.2.2.2.2.2.2.2.1),.p (eL al SU.2.2.2.2.2.2.2.2.2.1),.p (eI r5.1.fAt)]),(1000000,(ew SU.2.2.2.2.2.2.2.2.2.2))]⟩) (λ m (SU:Int×Int×Bytes×Bytes×Int×Int×Bytes×(List ag)×(List Bytes)×(List aa)×(List ad)×Int×Int×Int×Int×Int×Bytes)=>bw n (aT n) O' r5 m SU.1 SU.2.1 SU.2.2.1 SU.2.2.2.1 SU.2.2.2.2.1 SU.2.2.2.2.2.1 SU.2.2.2.2.2.2.1 SU.2.2.2.2.2.2.2.1 SU.2.2.2.2.2.2.2.2.1 SU.2.2.2.2.2.2.2.2.2.1 SU.2.2.2.2.2.2.2.2.2.2.1 SU.2.2.2.2.2.2.2.2.2.2.2.1 SU.2.2.2.2.2.2.2.2.2.2.2.2.1 SU.2.2.2.2.2.2.2.2.2.2.2.2.2.1 SU.2.2.2.2.2.2.2.2.2.2.2.2.2.2.1 SU.2.2.2.2.2.2.2.2.2.2.2.2.2.2.2.1 SU.2.2.2.2.2.2.2.2.2.2.2.2.2.2.2.2) Y (r5.1.Ar,r5.1.fOp,r5.1.A',r5.1.B',r5.1.By.Ar,r5.1.By.F',r5.1.By.If,r5.1.By.Gw,r5.1.By.Df,r5.1.AI,r5.2.fl,r5.2.fat,r5.2.H',r5.2.G',r5.2.AT.Ar,r5.2.AT.fAt,r5.2.AT.A') h1 (gE rfl rfl) ?_;rintro m ⟨Te,Su,SY,Ta,Td,Tc,T3,T2,UH,UG,f46,f47,f48,f49,f50,Ve,Vd⟩ h1;replace h1:bw n (aT n) O' r5 (m+1) Te Su SY Ta Td Tc T3 T2 UH UG f46 f47 f48 f49 f50 Ve Vd=some o90:=h1;rw [bw] at h1;refine nx 5 rfl (bd h1 λ Vl e54 h1=>?_);refine oK (HP.c e54) rfl ⟨sr,trivial⟩ Tryz.call141 rfl (K1 λ TW h1=>?_);refine nx 12 rfl (fB [25] h1 rfl (λ XJ h1=>?_) λ XJ h1=>?_)
  ·exact aG
  refine nx 5 Z (bd h1 λ S8 e59 h1=>?_);refine mO Z (cVq [1000000] [] 107000 107000 (HO.c e59) Tryz.call102 Z ?_);refine nx 5 Z (oA h1 Z Z λ U1 h1=>?_);refine bd h1 λ Sw e62 h1=>mO Z (cVq [1000000] [] 108000 108000 (HO.c e62) Tryz.call100 Z ?_);refine nx 3 Z (bd h1 λ TE e64 h1=>?_);refine mG (gE (t:=⟨[(0,.ptr 1000000 0),(1,.p (eI O')),(4,.ptr 4 0),(5,.ptr 5 0),(6,.p (eS TW.1)),(8,.ptr 8 0)],[(4,bg),(5,[.p (eI Te),.p (eI Su),.p (eS SY),.p (eS Ta),.p (eI Td),.p (eI Tc),.p (eS T3),.p (eL dQ T2),.p (eL eS UH),.p (eL al UG),.p (eI r5.1.fAt)]),(8,(aa.cs Sw.1).map .p),(1000000,(af.cs Sw.2).map .p)]⟩) Z Z) (mSq ⟨1,[8],(λ _=>.none),(λ _=>[(0,.ptr 1000000 0),(1,.p (eI O')),(4,.ptr 4 0),(5,.ptr 5 0),(6,.p (eS TW.1)),(8,.ptr 8 0)]),(ob2 ([(4,bg),(5,[.p (eI Te),.p (eI Su),.p (eS SY),.p (eS Ta),.p (eI Td),.p (eI Tc),.p (eS T3),.p (eL dQ T2),.p (eL eS UH),.p (eL al UG),.p (eI r5.1.fAt)]),(8,((aa.cs Sw.1).map .p)),(1000000,((af.cs Sw.2).map .p))]) (5,[.p (eI 7),.p (eI TE),.p (eS ([]:Bytes)),.p (eS ([]:Bytes)),.p (eI 0),.p (eI 0),.p (eS ([]:Bytes)),.p (.val (.slice none 0 0)),.p (.val (.slice none 0 0)),.p (eL al [(aa.mk Te Su SY Ta (ag.mk Td Tc T3 T2 UH) UG r5.1.fAt),Sw.1]),.p (eI r5.1.fAt)]))⟩ Z ?_);refine dPc (.p (eS TW.1)) Z (dO (.p (eI TE)) [33] Z (λ _ sl OF K hK=>ak Z (bS (HP.c e64) Z Z Z (av (OF _ _ Z) bm) ⟨sr,trivial⟩ Tryz.call142 Z hK)) ?_);refine dPc (.p (.agg [eI Te,eI Su,eS SY,eS Ta,eI Td,eI Tc,eS T3,eL dQ T2,eL eS UH,eL al UG,eI r5.1.fAt])) Z (dPc (.p (.agg (aa.cs Sw.1))) Z ?_);refine dO (.p (eL al [(aa.mk Te Su SY Ta (ag.mk Td Tc T3 T2 UH) UG r5.1.fAt),Sw.1])) [35,36] Z (λ _ sl OF K hK=>ak Z (bp al [(aa.mk Te Su SY Ta (ag.mk Td Tc T3 T2 UH) UG r5.1.fAt),Sw.1] Z Z Z Z Z Z (fh (OF _ _ Z) Z (fh (OF _ _ Z) Z gH)) Z Z Z Z Z Z kB hK)) (dPc (.ptr 5 10) Z ?_);refine dPc (.p (eI r5.1.fAt)) Z (dPc (.p (.agg [eI 7,eI TE,eS ([]:Bytes),eS ([]:Bytes),eI 0,eI 0,eS ([]:Bytes),.val (.slice none 0 0),.val (.slice none 0 0),eL al [(aa.mk Te Su SY Ta (ag.mk Td Tc T3 T2 UH) UG r5.1.fAt),Sw.1],eI r5.1.fAt])) Z ?_);refine dS Z (fp ?_);exact nx 1 Z (eX (7,TE,([]:Bytes),([]:Bytes),0,0,([]:Bytes),[],[],[(aa.mk Te Su SY Ta (ag.mk Td Tc T3 T2 UH) UG r5.1.fAt),Sw.1],Sw.2.fl,Sw.2.fat,Sw.2.H',Sw.2.G',Sw.2.AT.Ar,Sw.2.AT.fAt,Sw.2.AT.A') h1 (fb (nS ⟨er Z,er Z,er Z,er Z,trivial⟩ ⟨⟨_,Z,⟨sr,sr,sr,sr,sr,sr,sr,sr,sr,sr,sr,trivial⟩⟩,⟨_,Z,⟨sr,sr,sr,sr,sr,sr,sr,mj _,mj _,sr,sr,trivial⟩⟩,⟨_,Z,⟨sr,sr,sr,sr,sr,sr,sr,trivial⟩⟩,trivial⟩)))
 ·refine λ Rx=>hO good [] [1000000] Tryz.func139 Z Z λ r h0 _ w0 F=>?_;rw [cy] at h0;refine nx 9 Z (bd h0 λ TV h1 h0=>?_);refine kN TV (λ T5=>⟨[(0,.ptr 1000000 0),(2,.ptr 2 0),(3,.p (eI T5.1))],[(2,bg),(1000000,(ew T5.2))]⟩) ?_ ?_
  ·refine nx 7 Z (fD [10] h0 Z (λ c15 h0=>?_) λ c15 h0=>?_)
   ·exact J0
   refine nx 5 Z (K0 λ S3 h0=>?_);refine nx 4 Z (bd h0 λ SD e21 h0=>?_);refine mG (gE (t:=⟨[(0,.ptr 1000000 0),(2,.ptr 2 0),(3,.p (eI TV.1)),(4,.ptr 4 0)],[(2,bg),(4,(ad.cs S3.1).map .p),(1000000,(af.cs S3.2).map .p)]⟩) Z Z) (mSq ⟨2,[2,7],(by3 (.some (cn [] 105000 105000)) .none .none),(λ _=>[(0,.ptr 1000000 0),(2,.ptr 2 0),(3,.p (eI TV.1)),(4,.ptr 4 0)]),(by3 ([(2,bg),(4,((ad.cs S3.1).map .p)),(1000000,((af.cs S3.2).map .p))]) ([(1000000,((af.cs SD.2).map .p)),(2,bg),(4,((ad.cs S3.1).map .p))]) ([(2,[.p (eI 6),.p (eI TV.1),.p (eS ([]:Bytes)),.p (eS ([]:Bytes)),.p (eI 0),.p (eI 0),.p (eS ([]:Bytes)),.p (.val (.slice none 0 0)),.p (.val (.slice none 0 0)),.p (eL al [SD.1]),.p (eI S3.1.fAt)]),(1000000,((af.cs SD.2).map .p)),(2,bg),(4,((ad.cs S3.1).map .p))]))⟩ Z ?_);refine dPc (.p (eI TV.1)) Z (dPc (.ptr 1000000 0) Z ?_);refine dI (λ _=>.p (.agg (aa.cs SD.1))) [16] Z (λ sl OF K hK=>ak Z (a8 [1000000] [] 105000 105000 (HO.c e21) Z Z Z (av (OF _ _ Z) bm) Z ⟨sr,trivial⟩ Z Z ⟨⟨_,Z,⟨sr,sr,sr,sr,sr,sr,sr,trivial⟩⟩,trivial⟩ Z Z Z Z Z Z Z Z Tryz.call139 Z Z hK)) (dO (.p (eL al [SD.1])) [17] Z (λ _ sl OF K hK=>ak Z (bp al [SD.1] Z Z Z Z Z Z (fh (OF _ _ Z) Z gH) Z Z Z Z Z Z kB hK)) ?_);refine dPc (.ptr 4 2) Z (dPc (.p (eI S3.1.fAt)) Z ?_);refine dPc (.p (.agg [eI 6,eI TV.1,eS ([]:Bytes),eS ([]:Bytes),eI 0,eI 0,eS ([]:Bytes),.val (.slice none 0 0),.val (.slice none 0 0),eL al [SD.1],eI S3.1.fAt])) Z (dS Z ?_);refine fp (nx 2 Z ?_);exact J0
  exact aG
 ·refine λ Rx=>hO good [] [1000000] Tryz.func166 Z Z λ r h0 _ w0 F=>?_;rw [cT] at h0;refine nx 7 rfl (bd h0 λ r1 e2 h0=>?_);refine mO rfl (cVq [1000000] [] 101000 101000 (HO.c e2) Tryz.call184 rfl ?_);refine nx 4 rfl ?_;obtain ⟨Xp,h1,Sl,hR0⟩:=cm h0;refine kEx 0 (λ Vv:(List ad)×Int×Int×Int×Int×Int×Bytes=>Xp=.inl Vv) (λ Vv=>⟨[],[(1000000,(ew Vv))]⟩) (λ Vv hv=>?_) ?_
  ·exact Bn
  refine lG (λ (Sb:Int×Int×Bytes×Bytes×Int×Int×Bytes×(List ag)×(List Bytes)×(List aa)×(List ad)×Int×Int×Int×Int×Int×Bytes)=>⟨[(0,.ptr 1000000 0),(2,.ptr 2 0),(3,.ptr 3 0)],[(2,bg),(3,[.p (eI Sb.1),.p (eI Sb.2.1),.p (eS Sb.2.2.1),.p (eS Sb.2.2.2.1),.p (eI Sb.2.2.2.2.1),.p (eI Sb.2.2.2.2.2.1),.p (eS Sb.2.2.2.2.2.2.1),.p (eL dQ Sb.2.2.2.2.2.2.2.1),.p (eL eS Sb.2.2.2.2.2.2.2.2.1),.p (eL al Sb.2.2.2.2.2.2.2.2.2.1),.p (eI r1.1.fAt)]),(1000000,(ew Sb.2.2.2.2.2.2.2.2.2.2))]⟩) (λ m (Sb:Int×Int×Bytes×Bytes×Int×Int×Bytes×(List ag)×(List Bytes)×(List aa)×(List ad)×Int×Int×Int×Int×Int×Bytes)=>br n (ax n) r1 m Sb.1 Sb.2.1 Sb.2.2.1 Sb.2.2.2.1 Sb.2.2.2.2.1 Sb.2.2.2.2.2.1 Sb.2.2.2.2.2.2.1 Sb.2.2.2.2.2.2.2.1 Sb.2.2.2.2.2.2.2.2.1 Sb.2.2.2.2.2.2.2.2.2.1 Sb.2.2.2.2.2.2.2.2.2.2.1 Sb.2.2.2.2.2.2.2.2.2.2.2.1 Sb.2.2.2.2.2.2.2.2.2.2.2.2.1 Sb.2.2.2.2.2.2.2.2.2.2.2.2.2.1 Sb.2.2.2.2.2.2.2.2.2.2.2.2.2.2.1 Sb.2.2.2.2.2.2.2.2.2.2.2.2.2.2.2.1 Sb.2.2.2.2.2.2.2.2.2.2.2.2.2.2.2.2) Y (r1.1.Ar,r1.1.fOp,r1.1.A',r1.1.B',r1.1.By.Ar,r1.1.By.F',r1.1.By.If,r1.1.By.Gw,r1.1.By.Df,r1.1.AI,r1.2.fl,r1.2.fat,r1.2.H',r1.2.G',r1.2.AT.Ar,r1.2.AT.fAt,r1.2.AT.A') h1 (gE rfl rfl) ?_;rintro m ⟨Ve,Vd,WH,WG,WF,WE,WC,WB,WA,Wz,f61,f62,f63,f64,f65,f66,f67⟩ h1;replace h1:br n (ax n) r1 (m+1) Ve Vd WH WG WF WE WC WB WA Wz f61 f62 f63 f64 f65 f66 f67=some Xp:=h1;rw [br] at h1;refine nx 1 rfl ?_;obtain ⟨o128,h2,hL1,hR1⟩:=cm h1;refine kX (λ Sy:Int×Bytes×(List aa)×(List ad)×Int×Int×Int×Int×Int×Bytes=>o128=.inl Sy) (λ Sy=>⟨[(0,.ptr 1000000 0),(2,.ptr 2 0),(3,.ptr 3 0)],[(2,bg),(3,[.p (eI Sy.1),.p (eI 0),.p (eS Sy.2.1),.p (eS ([]:Bytes)),.p (eI 0),.p (eI 0),.p (eS ([]:Bytes)),.p (.val (.slice none 0 0)),.p (.val (.slice none 0 0)),.p (eL al Sy.2.2.1),.p (eI r1.1.fAt)]),(1000000,(ew Sy.2.2.2))]⟩) (λ Sy hv=>?_) ?_
  ·have h1:=hL1 _ hv;exact nx 1 Z (eX (Sy.1,0,Sy.2.1,([]:Bytes),0,0,([]:Bytes),[],[],Sy.2.2.1,Sy.2.2.2.1,Sy.2.2.2.2.1,Sy.2.2.2.2.2.1,Sy.2.2.2.2.2.2.1,Sy.2.2.2.2.2.2.2.1,Sy.2.2.2.2.2.2.2.2.1,Sy.2.2.2.2.2.2.2.2.2) h1 (fb (nS ⟨er Z,er Z,er Z,trivial⟩ ⟨⟨_,Z,⟨sr,sr,sr,sr,sr,sr,sr,sr,sr,sr,sr,trivial⟩⟩,⟨_,Z,⟨sr,sr,sr,sr,sr,sr,sr,mj _,mj _,sr,sr,trivial⟩⟩,⟨_,Z,⟨sr,sr,sr,sr,sr,sr,sr,trivial⟩⟩,trivial⟩)))
  refine nx 4 Z (K2 λ r68 h2=>?_);refine nx 2 Z (fB [9,11] h2 Z (λ c70 h2=>?_) λ c70 h2=>?_)
  ·refine nx 4 Z (K2 λ r71 h2=>?_);refine nx 4 Z (K2 λ WP h2=>?_);refine nx 10 Z (fN [18] h2 Z (λ c75 h2=>?_) λ c75 h2=>?_)
   ·refine nx 5 Z (K2 λ TP h2=>?_);refine nx 5 Z (mO Z (bp al [(aa.mk Ve Vd WH WG (ag.mk WF WE WC WB WA) Wz r1.1.fAt)] Z Z Z Z Z Z Z Z Z Z Z Z Z kB ?_));exact gN
   refine nx 6 Z (K2 λ r76 h2=>?_);exact nx 3 Z GN
  refine nx 4 Z (K2 λ r80 h2=>?_);refine nx 2 Z (fB [32,34] h2 Z (λ c82 h2=>?_) λ c82 h2=>?_)
  ·refine nx 4 Z (K2 λ VU h2=>?_);refine nx 4 Z (K2 λ r85 h2=>?_);refine nx 6 Z (K2 λ VT h2=>?_);refine nx 4 Z (mO Z (bp al [(aa.mk Ve Vd WH WG (ag.mk WF WE WC WB WA) Wz r1.1.fAt),r85.1] Z Z Z Z Z Z Z Z Z Z Z Z Z kB ?_));exact gN
  exact nx 7 Z GN
 ·refine λ Rx=>hO good [] [1000000] Tryz.func184 Z Z λ r h0 _ w0 F=>?_;rw [ct] at h0;exact J0
 ·refine λ Rx=>hO good [] [1000000] Tryz.func197 Z Z λ r h0 _ w0 F=>?_;rw [dV] at h0;exact J0
 ·refine λ Rx=>hO good [] [1000000] Tryz.func198 Z Z λ r h0 _ w0 F=>?_;rw [eR] at h0;have:=js [601,1001];have:=jS 601 Bool λ v=>[(18,.p (eB v))]
  have:=jO 1001 Int λ v=>[(4,[.p (eI 1),.p (eI v),.p (eS ([]:Bytes)),.p (.val (.slice none 0 0)),.p (.val (.slice none 0 0))])]
  exact J0
 ·refine λ Rx=>hO good [] [1000000] Tryz.func199 Z Z λ r h0 _ w0 F=>?_;rw [fP] at h0;exact J0
 ·refine λ Rx end_1=>hO good [] [1000000] Tryz.func210 Z Z λ r h0 _ w0 F=>?_;rw [eP] at h0;refine nx 10 Z (bd h0 λ o79 h1 h0=>?_);refine kE 0 o79 (λ v80=>⟨[(5,.vec 19 11 0 (v80.1.map al))],[(1000000,(ew v80.2))]⟩) ?_ ?_
  ·exact J0
  refine lG (λ (UP:(List aa)×(List ad)×Int×Int×Int×Int×Int×Bytes)=>⟨[(0,.ptr 1000000 0),(1,.p (eS end_1)),(5,.vec 19 11 0 (UP.1.map al))],[(1000000,(ew UP.2))]⟩) (λ m (UP:(List aa)×(List ad)×Int×Int×Int×Int×Int×Bytes)=>cv n (ax n) end_1 m UP.1 UP.2.1 UP.2.2.1 UP.2.2.2.1 UP.2.2.2.2.1 UP.2.2.2.2.2.1 UP.2.2.2.2.2.2.1 UP.2.2.2.2.2.2.2) Y ([],Rx.fl,Rx.fat,Rx.H',Rx.G',Rx.AT.Ar,Rx.AT.fAt,Rx.AT.A') h1 (fb (nS ⟨er rfl,er rfl,⟨_,rfl,AV.sub_nilvec _ _ _⟩,trivial⟩ ⟨⟨_,rfl,⟨sr,sr,sr,sr,sr,sr,sr,trivial⟩⟩,trivial⟩)) ?_;rintro m ⟨S6,UI,f33,f34,SZ,Te,Su,SY⟩ h1;replace h1:cv n (ax n) end_1 (m+1) S6 UI f33 f34 SZ Te Su SY=some o79:=h1;rw [cv] at h1;refine nx 2 rfl (bd h1 λ o82 h2 h1=>?_);refine kN o82 (λ v83=>⟨[(0,.ptr 1000000 0),(1,.p (eS end_1)),(5,.vec 19 11 0 (S6.map al)),(14,.p (eB v83.1))],[(1000000,(ew v83.2))]⟩) ?_ ?_
  ·refine nx 1 Z (fB [14] h1 Z (λ c52 h1=>?_) λ c52 h1=>?_)
   ·refine nx 7 Z (K1 λ Vl h1=>?_);refine mO Z (bp al [Vl.1] Z Z Z Z Z Z Z Z Z Z Z Z Z kB ?_);refine cc' h1 λ Wt h1=>mO Z (ii al S6 [Vl.1] Z Z Z Z Z Z Z Z Z Z Z Z Z (λ x=>congrArg List.length (aa.It x)) Z Z Z Z Wt ?_);exact aG
   exact aG
  exact gN
 ·refine λ Rx RV k_2=>hO good [] [1000000] Tryz.func212 Z Z λ r h0 _ w0 F=>?_;rw [dU] at h0;refine nx 7 Z (K0 λ r1 h0=>?_);refine nx 6 Z (K0 λ r3 h0=>?_);refine nx 5 Z (bd h0 λ Sc h1 h0=>?_);refine kN Sc (λ V9=>⟨[(0,.ptr 1000000 0),(2,.p (eI k_2)),(6,.ptr 6 0),(7,.ptr 7 0)],[(6,bg),(7,(mB (.p (eI k_2)) (.p (eS V9.1)) (.p (eS V9.2.1)) (.p (eI RV)))),(1000000,(ew V9.2.2))]⟩) ?_ ?_
  ·refine nx 4 Z (K0 λ RQ h0=>?_);refine nx 2 Z (bd h0 λ Sj e24 h0=>?_);refine cc' h0 λ Tu h0=>mG (gE (t:=⟨[(0,.ptr 1000000 0),(2,.p (eI k_2)),(6,.ptr 6 0),(7,.ptr 7 0)],[(6,bg),(7,(mB (.p (eI k_2)) (.p (eS Sc.1)) (.p (eS Sc.2.1)) (.p (eI RV)))),(1000000,(af.cs RQ).map .p)]⟩) Z Z) (mSq ⟨3,[3,5,7],(by4 (.some (cn [] 107000 107000)) (.some λ i=>Nat.beq i 33) .none .none),(λ _=>[(0,.ptr 1000000 0),(2,.p (eI k_2)),(6,.ptr 6 0),(7,.ptr 7 0)]),(by4 ([(6,bg),(7,(mB (.p (eI k_2)) (.p (eS Sc.1)) (.p (eS Sc.2.1)) (.p (eI RV)))),(1000000,((af.cs RQ).map .p))]) ([(1000000,((af.cs Sj.2).map .p)),(6,bg),(7,(mB (.p (eI k_2)) (.p (eS Sc.1)) (.p (eS Sc.2.1)) (.p (eI RV))))]) ([(1000000,((af.cs Sj.2).map .p)),(6,bg),(7,(mB (.p (eI k_2)) (.p (eS Sc.1)) (.p (eS Sc.2.1)) (.p (eI RV))))]) ([(7,(cX (.p (eI k_2)) (.p (eS Sc.1)) (.p (eS Sc.2.1)) (.vec 33 11 0 ([Sj.1].map al)) (.p (eI RV)))),(1000000,((af.cs Sj.2).map .p)),(6,bg),(7,(mB (.p (eI k_2)) (.p (eS Sc.1)) (.p (eS Sc.2.1)) (.p (eI RV))))]))⟩ Z ?_);refine dPc (.ptr 7 9) Z (dPc (.p (.val (.slice none 0 0))) Z ?_);refine dPc (.ptr 1000000 0) Z (dI (λ _=>.p (.agg (aa.cs Sj.1))) [30] Z (λ sl OF K hK=>ak Z (a8 [1000000] [] 107000 107000 (HO.c e24) Z Z Z (av (OF _ _ Z) bm) Z ⟨sr,trivial⟩ Z Z ⟨⟨_,Z,⟨sr,sr,sr,sr,sr,sr,sr,trivial⟩⟩,trivial⟩ Z Z Z Z Z Z Z Z Tryz.call65 Z Z hK)) ?_);refine dO (.p (eL al [Sj.1])) [31] Z (λ _ sl OF K hK=>ak Z (bp al [Sj.1] Z Z Z Z Z Z (fh (OF _ _ Z) Z gH) Z Z Z Z Z Z kB hK)) (dI (λ _=>.vec 33 11 0 ([Sj.1].map al)) [29,32] Z (λ sl OF K hK=>ak Z (Mi al [Sj.1] 0 Z Z Z Z Z Z Z Z (OF _ _ Z) (OF _ _ Z) Z (λ x=>congrArg List.length (aa.It x)) Z Z Z Z Tu hK)) ?_);refine dPc (.ptr 7 9) Z (dS Z ?_);refine fp (nx 4 Z ?_);refine bd h0 λ SL e27 h0=>mO Z (cVq [1000000] [] 108000 108000 (HO.c e27) Tryz.call103 Z ?_);refine nx 2 Z (bd h0 λ Sq e29 h0=>?_);refine cc' h0 λ VL h0=>mG (gE (t:=⟨[(0,.ptr 1000000 0),(2,.p (eI k_2)),(6,.ptr 6 0),(7,.ptr 7 0)],[(6,bg),(7,(cX (.p (eI k_2)) (.p (eS Sc.1)) (.p (eS Sc.2.1)) (.vec 33 11 0 ([Sj.1].map al)) (.p (eI RV)))),(1000000,(af.cs SL).map .p)]⟩) Z Z) (mSq ⟨3,[3,5,7],(by4 (.some (cn [] 109000 109000)) (.some λ i=>Nat.beq i 33||Nat.beq i 42) .none .none),(λ _=>[(0,.ptr 1000000 0),(2,.p (eI k_2)),(6,.ptr 6 0),(7,.ptr 7 0)]),(by4 ([(6,bg),(7,(cX (.p (eI k_2)) (.p (eS Sc.1)) (.p (eS Sc.2.1)) (.vec 33 11 0 ([Sj.1].map al)) (.p (eI RV)))),(1000000,((af.cs SL).map .p))]) ([(1000000,((af.cs Sq.2).map .p)),(6,bg),(7,(cX (.p (eI k_2)) (.p (eS Sc.1)) (.p (eS Sc.2.1)) (.vec 33 11 0 ([Sj.1].map al)) (.p (eI RV))))]) ([(1000000,((af.cs Sq.2).map .p)),(6,bg),(7,(cX (.p (eI k_2)) (.p (eS Sc.1)) (.p (eS Sc.2.1)) (.p (eL al [Sj.1])) (.p (eI RV))))]) ([(7,(cX (.p (eI k_2)) (.p (eS Sc.1)) (.p (eS Sc.2.1)) (.vec 42 11 0 (([Sj.1]++[Sq.1]).map al)) (.p (eI RV)))),(1000000,((af.cs Sq.2).map .p)),(6,bg),(7,(cX (.p (eI k_2)) (.p (eS Sc.1)) (.p (eS Sc.2.1)) (.p (eL al [Sj.1])) (.p (eI RV))))]))⟩ Z ?_);refine dPc (.ptr 7 9) Z (dP (by4 (.vec 33 11 0 ([Sj.1].map al)) (.vec 33 11 0 ([Sj.1].map al)) (.p (eL al [Sj.1])) (.p (eL al [Sj.1]))) Z ?_);refine dPc (.ptr 1000000 0) Z (dI (λ _=>.p (.agg (aa.cs Sq.1))) [39] Z (λ sl OF K hK=>ak Z (a8 [1000000] [] 109000 109000 (HO.c e29) Z Z Z (av (OF _ _ Z) bm) Z ⟨sr,trivial⟩ Z Z ⟨⟨_,Z,⟨sr,sr,sr,sr,sr,sr,sr,trivial⟩⟩,trivial⟩ Z Z Z Z Z Z Z Z Tryz.call65 Z Z hK)) ?_);refine dO (.p (eL al [Sq.1])) [40] Z (λ _ sl OF K hK=>ak Z (bp al [Sq.1] Z Z Z Z Z Z (fh (OF _ _ Z) Z gH) Z Z Z Z Z Z kB hK)) (dI (λ _=>.vec 42 11 0 (([Sj.1]++[Sq.1]).map al)) [38,41] Z (λ sl OF K hK=>ak Z (ii al [Sj.1] [Sq.1] Z Z Z Z Z Z Z Z (OF _ _ Z) Z Z (OF _ _ Z) Z (λ x=>congrArg List.length (aa.It x)) Z Z Z Z VL hK)) ?_);refine dPc (.ptr 7 9) Z (dS Z ?_);refine fp (nx 6 Z ?_);refine bd h0 λ SV h1 h0=>kN SV (λ WY=>⟨[(0,.ptr 1000000 0),(6,.ptr 6 0),(7,.ptr 7 0),(8,.p (eS WY.1))],[(6,bg),(7,(cX (.p (eI k_2)) (.p (eS Sc.1)) (.p (eS Sc.2.1)) (.vec 53 11 0 (WY.2.1.map al)) (.p (eI RV)))),(1000000,(ew WY.2.2))]⟩) ?_ ?_
   ·refine nx 2 Z (bd h0 λ o71 h1 h0=>?_);refine kN o71 (λ Vj=>⟨[(0,.ptr 1000000 0),(6,.ptr 6 0),(7,.ptr 7 0),(8,.p (eS SV.1))],[(6,bg),(7,(cX (.p (eI k_2)) (.p (eS Sc.1)) (.p (eS Sc.2.1)) (.vec 64 11 0 (Vj.1.map al)) (.p (eI RV)))),(1000000,(ew Vj.2))]⟩) ?_ ?_
    ·exact J0
    refine nx 3 Z (K1 λ Vm h1=>?_);refine nx 1 Z (fB [56] h1 Z (λ c48 h1=>?_) λ c48 h1=>?_)
    ·refine nx 4 Z (K1 λ T0 h1=>?_);refine nx 1 Z (bd h1 λ Sv Xy h1=>?_);refine cc' h1 λ U4 h1=>mG (gE (t:=⟨[(0,.ptr 1000000 0),(6,.ptr 6 0),(7,.ptr 7 0),(8,.p (eS SV.1))],[(6,bg),(7,(cX (.p (eI k_2)) (.p (eS Sc.1)) (.p (eS Sc.2.1)) (.vec 53 11 0 (SV.2.1.map al)) (.p (eI RV)))),(1000000,(af.cs T0.2).map .p)]⟩) Z Z) (mSq ⟨3,[3,5,7],(by4 (.some (cn [] 114000 114000)) (.some λ i=>Nat.beq i 53||Nat.beq i 64) .none .none),(λ _=>[(0,.ptr 1000000 0),(6,.ptr 6 0),(7,.ptr 7 0),(8,.p (eS SV.1))]),(by4 ([(6,bg),(7,(cX (.p (eI k_2)) (.p (eS Sc.1)) (.p (eS Sc.2.1)) (.vec 53 11 0 (SV.2.1.map al)) (.p (eI RV)))),(1000000,((af.cs T0.2).map .p))]) ([(1000000,((af.cs Sv.2).map .p)),(6,bg),(7,(cX (.p (eI k_2)) (.p (eS Sc.1)) (.p (eS Sc.2.1)) (.vec 53 11 0 (SV.2.1.map al)) (.p (eI RV))))]) ([(1000000,((af.cs Sv.2).map .p)),(6,bg),(7,(cX (.p (eI k_2)) (.p (eS Sc.1)) (.p (eS Sc.2.1)) (.p (eL al SV.2.1)) (.p (eI RV))))]) ([(7,(cX (.p (eI k_2)) (.p (eS Sc.1)) (.p (eS Sc.2.1)) (.vec 64 11 0 ((SV.2.1++[Sv.1]).map al)) (.p (eI RV)))),(1000000,((af.cs Sv.2).map .p)),(6,bg),(7,(cX (.p (eI k_2)) (.p (eS Sc.1)) (.p (eS Sc.2.1)) (.p (eL al SV.2.1)) (.p (eI RV))))]))⟩ Z ?_);refine dPc (.ptr 7 9) Z (dP (by4 (.vec 53 11 0 (SV.2.1.map al)) (.vec 53 11 0 (SV.2.1.map al)) (.p (eL al SV.2.1)) (.p (eL al SV.2.1))) Z ?_);refine dPc (.ptr 1000000 0) Z (dI (λ _=>.p (.agg (aa.cs Sv.1))) [61] Z (λ sl OF K hK=>ak Z (a8 [1000000] [] 114000 114000 (HO.c Xy) Z Z Z (av (OF _ _ Z) bm) Z ⟨sr,trivial⟩ Z Z ⟨⟨_,Z,⟨sr,sr,sr,sr,sr,sr,sr,trivial⟩⟩,trivial⟩ Z Z Z Z Z Z Z Z Tryz.call65 Z Z hK)) ?_);refine dO (.p (eL al [Sv.1])) [62] Z (λ _ sl OF K hK=>ak Z (bp al [Sv.1] Z Z Z Z Z Z (fh (OF _ _ Z) Z gH) Z Z Z Z Z Z kB hK)) (dI (λ _=>.vec 64 11 0 ((SV.2.1++[Sv.1]).map al)) [60,63] Z (λ sl OF K hK=>ak Z (ii al SV.2.1 [Sv.1] Z Z Z Z Z Z Z Z (OF _ _ Z) Z Z (OF _ _ Z) Z (λ x=>congrArg List.length (aa.It x)) Z Z Z Z U4 hK)) ?_);refine dPc (.ptr 7 9) Z (dS Z ?_);exact aG
    exact nx 2 Z (eX _ (oi h1).symm (bo (ca 53 64 Z Z Z Z Z) (gE Z Z)))
   refine nx 5 Z (fD [45] h1 Z (λ Vg h1=>?_) λ Vg h1=>?_)
   ·refine nx 4 Z (K1 λ Ti h1=>?_);refine nx 2 Z (bd h1 λ RX e35 h1=>?_);refine cc' h1 λ Us h1=>mG (gE (t:=⟨[(0,.ptr 1000000 0),(6,.ptr 6 0),(7,.ptr 7 0)],[(6,bg),(7,(cX (.p (eI k_2)) (.p (eS Sc.1)) (.p (eS Sc.2.1)) (.vec 42 11 0 (([Sj.1]++[Sq.1]).map al)) (.p (eI RV)))),(1000000,(af.cs Ti).map .p)]⟩) Z Z) (mSq ⟨3,[3,5,7],(by4 (.some (cn [] 111000 111000)) (.some λ i=>Nat.beq i 42||Nat.beq i 53) .none .none),(λ _=>[(0,.ptr 1000000 0),(6,.ptr 6 0),(7,.ptr 7 0)]),(by4 ([(6,bg),(7,(cX (.p (eI k_2)) (.p (eS Sc.1)) (.p (eS Sc.2.1)) (.vec 42 11 0 (([Sj.1]++[Sq.1]).map al)) (.p (eI RV)))),(1000000,((af.cs Ti).map .p))]) ([(1000000,((af.cs RX.2).map .p)),(6,bg),(7,(cX (.p (eI k_2)) (.p (eS Sc.1)) (.p (eS Sc.2.1)) (.vec 42 11 0 (([Sj.1]++[Sq.1]).map al)) (.p (eI RV))))]) ([(1000000,((af.cs RX.2).map .p)),(6,bg),(7,(cX (.p (eI k_2)) (.p (eS Sc.1)) (.p (eS Sc.2.1)) (.p (eL al ([Sj.1]++[Sq.1]))) (.p (eI RV))))]) ([(7,(cX (.p (eI k_2)) (.p (eS Sc.1)) (.p (eS Sc.2.1)) (.vec 53 11 0 ((([Sj.1]++[Sq.1])++[RX.1]).map al)) (.p (eI RV)))),(1000000,((af.cs RX.2).map .p)),(6,bg),(7,(cX (.p (eI k_2)) (.p (eS Sc.1)) (.p (eS Sc.2.1)) (.p (eL al ([Sj.1]++[Sq.1]))) (.p (eI RV))))]))⟩ Z ?_);refine dPc (.ptr 7 9) Z (dP (by4 (.vec 42 11 0 (([Sj.1]++[Sq.1]).map al)) (.vec 42 11 0 (([Sj.1]++[Sq.1]).map al)) (.p (eL al ([Sj.1]++[Sq.1]))) (.p (eL al ([Sj.1]++[Sq.1])))) Z ?_);refine dPc (.ptr 1000000 0) Z (dI (λ _=>.p (.agg (aa.cs RX.1))) [50] Z (λ sl OF K hK=>ak Z (a8 [1000000] [] 111000 111000 (HO.c e35) Z Z Z (av (OF _ _ Z) bm) Z ⟨sr,trivial⟩ Z Z ⟨⟨_,Z,⟨sr,sr,sr,sr,sr,sr,sr,trivial⟩⟩,trivial⟩ Z Z Z Z Z Z Z Z Tryz.call65 Z Z hK)) ?_);refine dO (.p (eL al [RX.1])) [51] Z (λ _ sl OF K hK=>ak Z (bp al [RX.1] Z Z Z Z Z Z (fh (OF _ _ Z) Z gH) Z Z Z Z Z Z kB hK)) (dI (λ _=>.vec 53 11 0 ((([Sj.1]++[Sq.1])++[RX.1]).map al)) [49,52] Z (λ sl OF K hK=>ak Z (ii al ([Sj.1]++[Sq.1]) [RX.1] Z Z Z Z Z Z Z Z (OF _ _ Z) Z Z (OF _ _ Z) Z (λ x=>congrArg List.length (aa.It x)) Z Z Z Z Us hK)) ?_);refine dPc (.ptr 7 9) Z (dS Z ?_);exact aG
   exact nx 2 Z (eX _ (oi h1).symm (bo (ca 42 53 Z Z Z Z Z) (gE Z Z)))
  exact aG
 ·refine λ Rx=>hO good [] [1000000] Tryz.func213 Z Z λ r h0 _ w0 F=>?_;rw [et] at h0;refine nx 10 Z (bd h0 λ o89 h1 h0=>?_);refine kE 0 o89 (λ v90=>⟨[(3,.vec 23 11 0 (v90.1.map al))],[(1000000,(ew v90.2))]⟩) ?_ ?_
  ·exact J0
  refine lG (λ (UN:(List aa)×(List ad)×Int×Int×Int×Int×Int×Bytes)=>⟨[(0,.ptr 1000000 0),(3,.vec 23 11 0 (UN.1.map al))],[(1000000,(ew UN.2))]⟩) (λ m (UN:(List aa)×(List ad)×Int×Int×Int×Int×Int×Bytes)=>bQ n (ax n) (cI n) m UN.1 UN.2.1 UN.2.2.1 UN.2.2.2.1 UN.2.2.2.2.1 UN.2.2.2.2.2.1 UN.2.2.2.2.2.2.1 UN.2.2.2.2.2.2.2) Y ([],Rx.fl,Rx.fat,Rx.H',Rx.G',Rx.AT.Ar,Rx.AT.fAt,Rx.AT.A') h1 (fb (nS ⟨er rfl,⟨_,rfl,AV.sub_nilvec _ _ _⟩,trivial⟩ ⟨⟨_,rfl,⟨sr,sr,sr,sr,sr,sr,sr,trivial⟩⟩,trivial⟩)) ?_;rintro m ⟨SN,Su,SY,Ta,Td,Tc,T3,T2⟩ h1;replace h1:bQ n (ax n) (cI n) (m+1) SN Su SY Ta Td Tc T3 T2=some o89:=h1;rw [bQ] at h1;refine nx 2 rfl (bd h1 λ o92 h2 h1=>?_);refine kN o92 (λ v93=>⟨[(0,.ptr 1000000 0),(3,.vec 23 11 0 (SN.map al)),(11,.p (eB v93.1))],[(1000000,(ew v93.2))]⟩) ?_ ?_
  ·refine nx 1 Z (fB [11] h1 Z (λ XJ h1=>?_) λ XJ h1=>?_)
   ·refine nx 7 Z (K1 λ S8 h1=>?_);refine mO Z (bp al [S8.1] Z Z Z Z Z Z Z Z Z Z Z Z Z kB ?_);refine cc' h1 λ U1 h1=>mO Z (ii al SN [S8.1] Z Z Z Z Z Z Z Z Z Z Z Z Z (λ x=>congrArg List.length (aa.It x)) Z Z Z Z U1 ?_);refine nx 5 Z (K1 λ Sw h1=>?_);refine nx 5 Z (K1 λ TE h1=>?_);refine mO Z (bp al [TE.1] Z Z Z Z Z Z Z Z Z Z Z Z Z kB ?_);refine cc' h1 λ U0 h1=>mO Z (ii al (SN++[S8.1]) [TE.1] Z Z Z Z Z Z Z Z Z Z Z Z Z (λ x=>congrArg List.length (aa.It x)) Z Z Z Z U0 ?_);exact aG
   exact aG
  exact gN
 ·refine λ Rx=>hO good [] [1000000] Tryz.func225 Z Z λ r h0 _ w0 F=>?_;rw [cI] at h0;exact J0
instance Ky (n:Nat):tF (gA n) 33:=(pO n).2.1
def ei (n:Nat)(Mr:Bytes):Option (aa×ap) :=
 (gA n Mr 0).bind λ r1 =>
 (gY n r1.1 r1.2).bind λ r3 =>
 some (r3.1,r3.2)
instance Kl (n:Nat) (Mr:Bytes):∀ (r:aa×ap),HP (ei n Mr=some r) Tryz.prog 16 [eS Mr] (.tuple [.p (.agg (aa.cs r.1)),.p (.agg (ap.cs r.2))]):=by
 refine hP good Tryz.func16 Z Z λ r h0 _ w0=>?_;unfold ei at h0;exact J0
def dx (SS:aa->Option Int)(M':aa):Nat->Int->Int->Option Int
 | 0,_,_=>none
 | m+1,n9,Vk =>
 if Vk < (M'.AI.length:Int) then
  ck ((0:Int)<=Vk/\Vk < (M'.AI.length:Int)) <|
  (SS (lat M'.AI Vk)).bind λ S5 =>
  ck (inR (n9+S5)) <|
  ck (inR (Vk+1)) <|
  dx SS M' m (n9+S5) (Vk+1)
 else
  some n9
def fg:Nat->aa->Option Int
 | 0,_=>none
 | n+1,M' =>
 (dx (fg n) M' n 1 0).bind λ n19 =>
 some n19
instance Km (n:Nat):∀ (M':aa) (r:Int),HP (fg n M'=some r) Tryz.prog 14 [.agg (aa.cs M')] (.p (eI r)):=by
 induction n with
 | zero=>exact Zr
 | succ n ih =>
 refine λ M'=>hP good Tryz.func14 Z Z λ r h0 _ w0=>?_;rw [fg] at h0;refine nx 14 Z (oLl (f:=al) Z Z ?_);refine nx 3 Z (bd h0 λ o21 h1 h0=>?_);refine kE 0 o21 (λ v22=>⟨[(3,.p (eI v22))],[]⟩) ?_ ?_
 ·exact J0
 refine lG (λ (WS:Int×Int)=>⟨[(3,.p (eI WS.1)),(7,.p (eL al M'.AI)),(8,.p (eI (M'.AI.length:Int))),(9,.p (eI WS.2))],[]⟩) (λ m (WS:Int×Int)=>dx (fg n) M' m WS.1 WS.2) Y (1,0) h1 (gE rfl rfl) ?_;rintro m ⟨n9,Vk⟩ h1;replace h1:dx (fg n) M' (m+1) n9 Vk=some o21:=h1;rw [dx] at h1;exact aG
end Go.Ab.R06
end
section
namespace Go.Ab.R06
open Go.Proofs Go.Ab Go.Ab.RB
set_option maxRecDepth 4000
attribute [local irreducible] awp gk aX bv bV AV.sub M cC
end Go.Ab.R06
end
section
namespace Go.Ab.R06
open Go.Proofs Go.Ab Go.Ab.RB
section
variable {p:Prop}
theorem uf (h:p:=by
  exact nx 2 Z (mQ (oi h0) Z (sr))):p:=h
theorem xF (h:p:=by
  exact nx 3 Z (eX _ (oi h1).symm (gE Z Z))):p:=h
theorem kG (h:p:=by
  exact nx 6 Z (mQ (oi h0) Z (sr))):p:=h
theorem A7 (h:p:=by
  exact nx 17 Z (eX _ (oi h1).symm (gE Z Z))):p:=h
theorem Bc (h:p:=by
  exact nx 6 Z (eX _ (oi h1).symm (gE Z Z))):p:=h
end
set_option maxRecDepth 4000
attribute [local irreducible] awp gk aX bv bV AV.sub M cC
instance Qc:HE Tryz.prog 16:=⟨Tryz.call16⟩
def gT (n:Nat):Option Bool :=
 (ei n ([49,32,43,32,50,32,42,32,51]:Bytes)).bind λ r1 =>
 (ei n ([34,120,36,123,34,121,34,125,34]:Bytes)).bind λ r3 =>
 (ei n ([97,32,43]:Bytes)).bind λ r5 =>
 (ei n ([91,102,111,114,32,107,44,32,118,32,105,110,32,109,32,58,32,118,32,105,102,32,107,32,33,61,32,34,97,34,93]:Bytes)).bind λ r7 =>
 (
   if r1.2.Ar=0 then
    if r3.2.Ar=0 then
     if r5.2.Ar=2 then
      if r5.2.fAt=3 then
       if r7.2.Ar=0 then
        if (r1.1.AI.length:Int)=2 then
         some (!decide ((r3.1.AI.length:Int)=2))
        else
         some true
       else
        some true
      else
       some true
     else
      some true
    else
     some true
   else
    some true
  ).bind λ t15 =>
 if t15=true then
  some false
 else
  (
    if r1.1.fOp=11 then
     ck ((0:Int)<=1/\1 < (r1.1.AI.length:Int)) <|
     if (lat r1.1.AI 1).fOp=13 then
      if r3.1.Ar=2 then
       if r7.1.Ar=12 then
        if r7.1.B'=([107]:Bytes) then
         if r7.1.A'=([118]:Bytes) then
          if (r7.1.AI.length:Int)=3 then
           (fg n r1.1).bind λ Tn =>
           some (decide (Tn=5))
          else
           some false
         else
          some false
        else
         some false
       else
        some false
      else
       some false
     else
      some false
    else
     some false
   ).bind λ t27 =>
  some t27
instance IZ (n:Nat):∀ (r:Bool),HP (gT n=some r) Tryz.prog 11 [] (.p (eB r)):=by
 refine hP good Tryz.func11 Z Z λ r h0 _ w0=>?_;unfold gT at h0;refine nx 6 Z (K0 λ r1 h0=>nx 10 Z ?_);refine bd h0 λ r3 e4 h0=>oK (HP.c e4) Z ⟨sr,trivial⟩ Tryz.call16 Z (nx 10 Z ?_);refine bd h0 λ r5 e6 h0=>oK (HP.c e6) Z ⟨sr,trivial⟩ Tryz.call16 Z (nx 10 Z ?_);refine bd h0 λ r7 e8 h0=>oK (HP.c e8) Z ⟨sr,trivial⟩ Tryz.call16 Z (nx 10 Z ?_);refine bd h0 λ Xo h1 h0=>kN Xo (λ Vt=>⟨[(1,.ptr 1 0),(3,.ptr 3 0),(7,.ptr 7 0),(59,.p (eB Vt))],[(1,(aa.cs r1.1).map .p),(3,(aa.cs r3.1).map .p),(7,(aa.cs r7.1).map .p)]⟩) ?_ ?_
 ·refine nx 1 Z (fB [59] h0 Z (λ WO h0=>?_) λ WO h0=>?_)
  ·exact kG
  refine nx 3 Z (bd h0 λ T1 h1 h0=>?_);refine kN T1 (λ Vr=>⟨[(0,.p (eB Vr))],[]⟩) ?_ ?_
  ·exact uf
  refine nx 5 Z (fD [62,63] h1 Z (λ R9 h1=>?_) λ R9 h1=>?_)
  ·refine nx 2 Z (oE h1 aa.It Z Z Y λ S9 h1=>?_);refine nx 5 Z (fD [69,70,71] h1 Z (λ WN h1=>?_) λ WN h1=>?_)
   ·refine nx 5 Z (fD [74,75,76] h1 Z (λ c20 h1=>?_) λ c20 h1=>?_)
    ·refine nx 5 Z (fD [79,80,81] h1 Z (λ c21 h1=>?_) λ c21 h1=>?_)
     ·refine nx 2 Z (oS Z Z ?_);refine nx 2 Z (fD [84,85,86] h1 Z (λ c22 h1=>?_) λ c22 h1=>?_)
      ·refine nx 2 Z (oS Z Z ?_);refine nx 2 Z (fD [89,90,91] h1 Z (λ T4 h1=>?_) λ T4 h1=>?_)
       ·refine nx 2 Z (oLl (f:=al) Z Z ?_);refine nx 3 Z (fD [95,96,97] h1 Z (λ WM h1=>?_) λ WM h1=>?_)
        ·refine nx 1 Z (K1 λ Tn h1=>nx 4 Z ?_);exact eX _ (oi h1).symm (gE Z Z)
        exact Bc
       exact nx 12 Z fy
      exact A7
     exact nx 22 Z fy
    exact nx 27 Z fy
   exact nx 32 Z fy
  exact nx 40 Z fy
 refine nx 5 Z (fN [27,28] h1 Z (λ c9 h1=>?_) λ c9 h1=>?_)
 ·refine nx 5 Z (fN [31,32,33] h1 Z (λ VR h1=>?_) λ VR h1=>?_)
  ·refine nx 5 Z (fN [36,37,38] h1 Z (λ Uy h1=>?_) λ Uy h1=>?_)
   ·refine nx 5 Z (fN [41,42,43] h1 Z (λ VQ h1=>?_) λ VQ h1=>?_)
    ·refine nx 5 Z (fN [46,47,48] h1 Z (λ VP h1=>?_) λ VP h1=>?_)
     ·refine nx 2 Z (oLl (f:=al) Z Z ?_);refine nx 3 Z (fN [52,53,54] h1 Z (λ Vh h1=>?_) λ Vh h1=>?_)
      ·refine nx 2 Z (oLl (f:=al) Z Z ?_);exact xF
      exact Bc
     exact nx 12 Z fy
    exact A7
   exact nx 22 Z fy
  exact nx 27 Z fy
 exact nx 32 Z fy
end Go.Ab.R06
end
section
namespace Go.Ab.R06
open Go.Ab
end Go.Ab.R06
end
section
namespace Go.Ab.R06
open Go.Ab Go.Ab.RB Go.Lib
section
variable {p:Prop}
theorem kK (h:p:=by simpa using h):p:=h
theorem oh (h:p:=by simp only [aq]; omega):p:=h
theorem pJ (h:p:=by exact ae G (ab Z)):p:=h
theorem xi (h:p:=by exact aw (qi s (b::r) o d) Z):p:=h
end
def pz (s l:Bytes):Int:=(s.length:Int) - (l.length:Int)
theorem xa {s l:Bytes}(h:l <:+ s):pz s l=((s.length - l.length:Nat):Int):=by
 have:=h.length_le;unfold pz; omega
theorem tg {s l:Bytes}(h:l <:+ s):s.drop (s.length - l.length)=l:=by
 obtain ⟨t,rfl⟩:=h;simp
theorem iZ {s r:Bytes}{b:UInt8}(h:(b::r) <:+ s):r <:+ s:=(List.suffix_cons b r).trans h
theorem Cp {s l:Bytes}(k:Nat)(h:l <:+ s):l.drop k <:+ s:=(List.drop_suffix k l).trans h
theorem oy {s r:Bytes}{b:UInt8}:pz s r=pz s (b::r)+1:=by
 unfold pz; simp only [aq]; omega
theorem sY {s l:Bytes}{k:Nat}(hk:k<=l.length):pz s (l.drop k)=pz s l+(k:Int):=by
 unfold pz; rw [n6]; omega
theorem Cv {s l:Bytes}(h:l <:+ s):0<=pz s l:=by have:=h.length_le; unfold pz; omega
theorem BP {s l:Bytes}:pz s l<=s.length:=by unfold pz; omega
theorem Cs {s r:Bytes}{b:UInt8}:pz s (b::r) < s.length:=by unfold pz; simp only [aq]; omega
theorem Lp (s:Bytes):pz s s=0:=by unfold pz; omega
theorem ni {s r:Bytes}{b:UInt8}(h:(b::r) <:+ s):byt s (pz s (b::r))=(b.toNat:Int):=by
 rw [xa h,eA];have h1:=tg h;have h2:s.length - (b::r).length < s.length:=by have:=h.length_le; simp only [aq] at this ⊢; omega
 rw [List.drop_eq_getElem_cons h2] at h1;rw [List.getD_eq_getElem?_getD,List.getElem?_eq_getElem h2];exact congrArg _ (congrArg _ (sm h1).1)
theorem qj {s l:Bytes}(h:l <:+ s):sub s (pz s l) (s.length:Int)=l:=by
 rw [jh,xa h,Int.toNat_natCast,tg h]
theorem Cj {s l l':Bytes}(h:l <:+ s)(h':l' <:+ l):sub s (pz s l) (pz s l')=l.take (l.length - l'.length):=by
 have h1:=h.length_le;have h2:=h'.length_le;rw [xa h,xa (h'.trans h),CC,List.drop_take,tg h];congr 1; omega
def gW (b:UInt8):Bool:=decide (b.toNat=32)||decide (b.toNat=9)||decide (b.toNat=13)
def ko (b:UInt8):Nat:=if iJ b then 2 else if fe b then 3 else if b.toNat=34 then 5 else if b.toNat=10 then 6 else if b.toNat=35 then 7 else if gW b then 1 else if (lat ik (b.toNat:Int)).toNat=4 then 4 else 0
theorem Qy:(List.range 256).all (λ n=>(lat ik ((UInt8.ofNat n).toNat:Int)).toNat == ko (UInt8.ofNat n))=true:=by decide +kernel
theorem rC (b:UInt8):(lat ik (b.toNat:Int)).toNat=ko b:=by
 have:=th.1 Qy b.toNat (List.mem_range.2 (UInt8.toNat_lt b));rw [UInt8.ofNat_toNat] at this;exact eq_of_beq this
theorem rR {s r:Bytes}{b:UInt8}(h:(b::r) <:+ s):(0:Int)<=byt s (pz s (b::r))/\byt s (pz s (b::r)) < 256:=by
 rw [ni h];have:=UInt8.toNat_lt b;omega
theorem nN {s r:Bytes}{b:UInt8}(h:(b::r) <:+ s):(0:Int)<=pz s (b::r)/\pz s (b::r) < (s.length:Int):=⟨Cv h,Cs⟩
theorem iP (b:UInt8):(ko b=1↔gW b=true)/\(ko b=2↔iJ b=true)/\(ko b=3↔fe b=true)/\(ko b=5↔b.toNat=34)/\(ko b=6↔b.toNat=10)/\(ko b=7↔b.toNat=35):=by
 have h1:=nP b;have h2:=km b;have h3:gW b=true↔b.toNat=32\/b.toNat=9\/b.toNat=13:=by simp [gW,or_assoc]
 unfold ko
 repeat' split
 all_goals (refine ⟨?_,?_,?_,?_,?_,?_⟩ <;> simp_all <;> omega)
def scx (s l:Bytes)(o:Int)(d:ap):ac:=.mk s (pz s l) o d
theorem qi (s l:Bytes)(o:Int)(d:ap):bq (scx s l o d)=some (!l.isEmpty,scx s l o d):=by
 unfold bq scx;simp only [bx,Prod.mk.injEq,and_true]
 cases l with
 | nil=>simp [pz]
 | cons b r=>simp only [List.isEmpty_cons,Bool.not_false,decide_eq_true_eq]; exact Cs
def dz (c:Bool)(l:Bytes):Bytes :=
 match l.dropWhile gW with
 | b::r=>if c&&decide (b.toNat=35) then (b::r).dropWhile (λ x=>!decide (x=10)) else b::r
 | []=>[]
theorem mX {p:UInt8->Bool}(l:Bytes):l.dropWhile p <:+ l:=List.dropWhile_suffix p
theorem jG (c:Bool)(l:Bytes):dz c l <:+ l:=by
 unfold dz;have h:=mX (p:=gW) l;split
 ·rename_i b r hb;rw [hb] at h;split
  ·exact (mX _).trans h
  ·exact h
 ·exact List.nil_suffix
theorem yl:∀ (l:Bytes),(indexByte l 10 < 0->l.dropWhile (λ x=>!decide (x=10))=[])/\(0<=indexByte l 10->l.dropWhile (λ x=>!decide (x=10))=l.drop (indexByte l 10).toNat/\(indexByte l 10).toNat < l.length)
 | []=>by simp [indexByte]
 | b::r=>by
  have ih:=yl r;have hge:=indexByte_ge r 10;unfold indexByte;by_cases h:b=10
  ·subst h; simp
  ·rw [if_neg kK];simp only [List.dropWhile_cons,h,decide_false,Bool.not_false,if_true];by_cases hn:indexByte r 10 < 0
   ·rw [if_pos (by rw [beq_iff_eq]; omega)];exact ⟨λ _=>ih.1 hn,λ h=>by omega⟩
   ·rw [if_neg (by rw [beq_iff_eq]; omega)];have:=ih.2 O;refine ⟨λ h=>by omega,λ _=>⟨?_,?_⟩⟩
    ·rw [this.1,show (indexByte r 10+1).toNat=(indexByte r 10).toNat+1 by omega,List.drop_succ_cons]
    ·simp only [aq]; omega
theorem Rb (l:Bytes):strings_IndexByte l 10=some (indexByte l 10):=rfl
theorem vX {s r:Bytes}{b:UInt8}{o:Int}{d:ap}(h:(b::r) <:+ s)(h1:ko b≠1)(h7:¬ (ko b=7/\o < 0)):Ev2 (λ _ m=>aY m (scx s (b::r) o d)) (·=.inr (scx s (b::r) o d)):=by
 refine aA ?_;simp only [aY];refine ai _ xi (aj G ?_);simp only [scx];refine ah (nN h) (ah (rR h) ?_);simp only [ni h,rC];refine jR _ (ae O ?_) rfl;by_cases h7':ko b=7
 ·exact ai false (aj O (ab (decide_eq_false O))) pJ
 ·exact ai false nD pJ
theorem ya {s:Bytes}{o:Int}{d:ap}:Ev2 (λ _ m=>aY m (scx s [] o d)) (·=.inl (scx s [] o d)):=by
 refine aA ?_;simp only [aY];exact ai _ (aw (qi s [] o d) Z) pJ
def skR (c:Bool)(l:Bytes)(x:ac):ac⊕ac:=if (dz c l).isEmpty then .inl x else .inr x
theorem B5 (s:Bytes)(hs:s.length<=1000000000)(o:Int)(d:ap):∀ (l:Bytes),l <:+ s->Ev2 (λ _ m=>aY m (scx s l o d)) (·=skR (decide (o < 0)) l (scx s (dz (decide (o < 0)) l) o d))
 | [],_=>ya
 | b::r,h=>by
  by_cases h1:ko b=1
  ·have hb:=(iP b).1.1 h1
   have e:dz (decide (o < 0)) (b::r)=dz (decide (o < 0)) r:=by
    unfold dz; rw [List.dropWhile_cons_of_pos hb]
   unfold skR;rw [e];have ih:=B5 s hs o d r (iZ h);unfold skR at ih;refine aA ?_;simp only [aY];refine ai _ xi (aj G ?_);simp only [scx];have:=nN h;refine ah (nN h) (ah (rR h) ?_);simp only [ni h,rC];refine fx (scx s r o d) (aj O (ah aV (ab ?_))) ih;rw [scx,show pz s r=pz s (b::r)+1 from oy]
  ·have hb:¬ gW b=true:=λ q=>h1 ((iP b).1.2 q);have e0:(b::r).dropWhile gW=b::r:=List.dropWhile_cons_of_neg hb;by_cases h7:ko b=7/\o < 0
   ·have h35:=(iP b).2.2.2.2.2.1 h7.1
    have e:dz (decide (o < 0)) (b::r)=(b::r).dropWhile (λ x=>!decide (x=10)):=by
     unfold dz; rw [e0]; simp [h7.2,h35]
    have hsf:(b::r).dropWhile (λ x=>!decide (x=10)) <:+ s:=(mX _).trans h;have hi:=yl (b::r);have Sd:=nN h;have hge:=indexByte_ge (b::r) 10;unfold skR;rw [e];refine aA ?_;simp only [aY];refine ai _ xi (aj G ?_);simp only [scx];refine ah (nN h) (ah (rR h) ?_);simp only [ni h,rC];refine fx (scx s ((b::r).dropWhile (λ x=>!decide (x=10))) o d) (ae O (ai true (aj O (ab (decide_eq_true h7.2))) (aj Z (ah O ?_)))) ?_
    ·rw [qj h];refine ai _ (aw (Rb _) rfl) ?_;by_cases hn:indexByte (b::r) 10 < 0
     ·rw [hi.1 hn];refine ai ((s.length:Int) - pz s (b::r)) (aj hn uC) (ah aV (ab ?_));rw [scx]; congr 2; unfold pz; simp only [dg,aq]; omega
     ·have hh:=hi.2 O;rw [hh.1];refine ai (indexByte (b::r) 10) (ae hn (ab Z)) (ah (cH (by have:=BP (s:=s) (l:=b::r); omega) (by unfold pz at Sd ⊢; omega)) (ab ?_));rw [scx,sY O]; congr 2; omega
    ·generalize hq:(b::r).dropWhile (λ x=>!decide (x=10))=q at hsf
     cases q with
     | nil=>exact ya
     | cons c t =>
      have hc:c=10:=by
       have:=List.head?_dropWhile_not (λ x:UInt8=>!decide (x=10)) (b::r);rw [hq] at this;simpa using this
      subst hc;exact vX hsf (by decide) (λ q=>absurd q.1 (by decide))
   ·have e:dz (decide (o < 0)) (b::r)=b::r:=by
     unfold dz; rw [e0]
     have:(decide (o < 0)&&decide (b.toNat=35))=false:=by
      rw [Bool.and_eq_false_iff,decide_eq_false_iff_not,decide_eq_false_iff_not];by_cases q:o < 0
      ·exact .inr λ w=>h7 ⟨(iP b).2.2.2.2.2.2 w,q⟩
      ·exact .inl q
     simp only [this]
     rfl
    unfold skR;rw [e];exact vX h h1 h7
theorem CQ (s l:Bytes)(hs:s.length<=1000000000)(h:l <:+ s)(o:Int)(d:ap):Ev2 (λ n _=>dW n (scx s l o d)) (·=scx s (dz (decide (o < 0)) l) o d):=by
 simp only [dW];refine d5 (bB (bh (f:=λ _ m=>aY m (scx s l o d)) (B5 s hs o d l h)) λ r hr=>?_);subst hr;unfold skR;split
 ·rename_i hx;split at hx
  ·cases hx; exact ab rfl
  ·cases hx
 ·rename_i hx;split at hx
  ·cases hx
  ·cases hx; rfl
def qL:List Bytes:=[[61,62],[61,61],[33,61],[60,61],[62,61],[38,38],[124,124]]
def vA:Bytes:=[123,125,91,93,40,41,44,61,60,62,43,45,42,47,37,33,63,58,46]
def KE:Bytes->Bytes
 | []=>[]
 | b::_=>if indexByte vA b < 0 then [] else [b]
theorem vP (b:UInt8)(r:Bytes):KE (b::r)=if indexByte vA b < 0 then [] else [b]:=rfl
def fK (l:Bytes):Bytes:=match qL.find? (λ t=>hasPrefix l t) with
 | some t=>t
 | none=>KE l
theorem JF (l:Bytes):∀ (j k:Nat),k+j=7->Ev2 (λ _ m=>cZ l m (k:Int)) (·=match (qL.drop k).find? (λ t=>hasPrefix l t) with | some t=>.inr t | none=>.inl ())
 | 0,k,hk=>by
  have:k=7:=by omega
  subst this;refine aA ?_;simp only [cZ];exact ae O (ab rfl)
 | j+1,k,hk=>by
  have V7:k < qL.length:=by show k < 7; omega
  refine aA ?_;simp only [cZ];refine aj O (ah O ?_);have e:lat ([([61,62]:Bytes),([61,61]:Bytes),([33,61]:Bytes),([60,61]:Bytes),([62,61]:Bytes),([38,38]:Bytes),([124,124]:Bytes)]:List Bytes) (k:Int)=qL[k]:=kT qL k V7;rw [e,List.drop_eq_getElem_cons V7,List.find?_cons];refine ai (hasPrefix l qL[k]) pu ?_
  cases hp:hasPrefix l qL[k]
  ·refine ae G (ah aV ?_);exact JF l j (k+1) O
  ·exact aj Z (ab Z)
theorem wj (l:Bytes)(hl:l.length<=1000000000):Ev2 (λ n _=>ip n l) (·=fK l):=by
 simp only [ip];refine d5 (bB (bh (f:=λ _ m=>cZ l m 0) (JF l 7 0 rfl)) λ r hr=>?_);subst hr;unfold fK;rw [List.drop_zero]
 cases qL.find? (λ t=>hasPrefix l t) with
 | some t=>rfl
 | none =>
  cases l with
  | nil=>exact ai true (aj Z (ab Z)) (aj Z (ab Z))
  | cons b r =>
   have hb:byt (b::r) 0=(b.toNat:Int):=rfl;refine ai (decide (indexByte vA b < 0)) (ae G (ah oh ?_)) ?_
   ·rw [hb];refine ai (indexByte vA b) (aw ?_ rfl) (ab rfl);unfold strings_IndexByte;rw [Int.toNat_natCast];congr 2;exact UInt8.ofNat_toNat
   ·simp only [vP];by_cases h:indexByte vA b < 0
    ·rw [if_pos h];exact aj kK (ab rfl)
    ·rw [if_neg h];exact ae kK (ah oh (ab rfl))
theorem tI {l:Bytes}(hs:fK l≠[]):1<=(fK l).length/\(fK l).length<=l.length:=by
 have h0:1<=(fK l).length:=by cases h:fK l with | nil=>exact absurd h hs | cons _ _=>simp
 refine ⟨h0,?_⟩;unfold fK
 cases h:qL.find? (λ t=>hasPrefix l t) with
 | some t=>exact hasPrefix_le (List.find?_some h)
 | none =>
  cases l with
  | nil=>exact mv _
  | cons b r =>
   show (KE (b::r)).length<=_;rw [vP];split <;> simp
def jx:Bytes->Bool
 | []=>false
 | b::r=>iJ b||fe b||decide (b.toNat=34)||decide (b.toNat=10)||!(fK (b::r)).isEmpty
theorem fF (b:UInt8)(r:Bytes):jx (b::r)=(iJ b||fe b||decide (b.toNat=34)||decide (b.toNat=10)||!(fK (b::r)).isEmpty):=rfl
theorem vF (s:Bytes)(hs:s.length<=1000000000){b:UInt8}{r:Bytes}(h:(b::r) <:+ s)(o:Int)(d:ap):Ev2 (λ n _=>dr n (scx s (b::r) o d)) (·=(jx (b::r),scx s (b::r) o d)):=by
 obtain ⟨f1,f2,f3,f4,f5,f6⟩:=iP b;have Sd:=nN h;simp only [dr,scx];refine ah Sd (ah (rR h) ?_);simp only [ni h,rC];refine ai (iJ b||fe b||decide (b.toNat=34)||decide (b.toNat=10)) (ay (λ q=>ab ?_) (λ q2=>ay (λ q=>ab ?_) (λ q3=>ay (λ q=>ab ?_) (λ q5=>ab ?_)))) ?_
 ·rw [f2.1 O]; rfl
 ·rw [f3.1 O]; simp
 ·rw [decide_eq_true (f4.1 O)]; simp
 ·have e2:iJ b=false:=by rw [Bool.eq_false_iff]; exact λ w=>q2 (by rw [f2.2 w]; rfl)
  have e3:fe b=false:=by rw [Bool.eq_false_iff]; exact λ w=>q3 (by rw [f3.2 w]; rfl)
  have e5:¬ b.toNat=34:=λ w=>q5 (by rw [f4.2 w]; rfl);rw [e2,e3,decide_eq_false e5];refine eqB ?_;simp only [Bool.or_false,Bool.false_or,decide_eq_true_eq];constructor
  ·intro w; exact f5.1 O
  ·intro w; rw [f5.2 w]; rfl
 ·refine ay (λ q=>ab ?_) (λ q=>ah ⟨Sd.1,by omega,by omega⟩ ?_)
  ·rw [fF,q]; rfl
  ·rw [qj h];refine ai _ (wj (b::r) (by have:=h.length_le; omega)) (ab ?_);rw [Bool.not_eq_true] at q;rw [fF,q,Bool.false_or];congr 1
   cases fK (b::r) <;> simp
theorem GJ (s:Bytes)(hs:s.length<=1000000000)(o:Int)(d:ap)(p:UInt8->Bool)(x y:Nat)(hp:∀ c,p c=true↔ko c=x\/ko c=y):∀ (l:Bytes),l <:+ s->Ev2 (λ _ m=>bR (x:Int) (y:Int) m (scx s l o d)) (·=scx s (l.dropWhile p) o d)
 | [],_=>by
  refine aA ?_;simp only [bR];refine ai (false,scx s [] o d) (ai _ (aw (qi s [] o d) Z) pJ) pJ
 | b::r,h=>by
  have Sd:=nN h;refine aA ?_;simp only [bR];refine ai (p b,scx s (b::r) o d) (ai _ xi (aj G ?_)) ?_
  ·simp only [scx];refine ah Sd (ah (rR h) ?_);simp only [ni h,rC];refine ay (λ q=>ab ?_) (λ q=>ah Sd (ah ?_ (ab ?_)))
   ·rw [(hp b).2 (.inl O)]
   ·have:=UInt8.toNat_lt b; omega
   ·congr 1;refine eqB ?_;rw [decide_eq_true_eq,hp b];omega
  ·cases hb:p b
   ·rw [List.dropWhile_cons_of_neg (by simp [hb])];exact ae G (ab rfl)
   ·rw [List.dropWhile_cons_of_pos hb];refine aj rfl ?_;simp only [scx];refine ah aV ?_;rw [<- show pz s r=pz s (b::r)+1 from oy];exact GJ s hs o d p x y hp r (iZ h)
theorem KI (p:UInt8->Bool)(l:Bytes):l.take (l.length - (l.dropWhile p).length)=l.takeWhile p:=by
 have h:=List.takeWhile_append_dropWhile (p:=p) (l:=l);have hl:=congrArg List.length h;rw [bt] at hl
 conv=>lhs; rw [<- h]
 rw [List.take_append_of_le_length (by rw [h]; omega),List.take_of_length_le (by rw [h]; omega)]
theorem A5 (s l:Bytes)(hs:s.length<=1000000000)(h:l <:+ s)(o:Int)(d:ap)(p:UInt8->Bool)(x y:Nat)(hp:∀ c,p c=true↔ko c=x\/ko c=y):Ev2 (λ n _=>eh n (scx s l o d) (x:Int) (y:Int)) (·=(l.takeWhile p,scx s (l.dropWhile p) o d)):=by
 simp only [eh];refine ai _ (bh (f:=λ _ m=>bR (x:Int) (y:Int) m (scx s l o d)) (GJ s hs o d p x y hp l h)) ?_;simp only [scx];have h1:=Cv h;have h2:pz s l<=pz s (l.dropWhile p):=by have:=(mX (p:=p) l).length_le; unfold pz; omega
 refine ah ⟨h1,h2,BP⟩ (ab ?_);rw [Cj h (mX l),KI]
theorem Gy (c:UInt8):idB c=true↔ko c=2\/ko c=3:=by
 obtain ⟨f1,f2,f3,f4,f5,f6⟩:=iP c;rw [f2,f3]; simp [idB]
theorem LK (c:UInt8):fe c=true↔ko c=3\/ko c=3:=by
 obtain ⟨f1,f2,f3,f4,f5,f6⟩:=iP c;rw [f3]; simp
theorem wl (s l:Bytes)(o:Int)(d:ap)(k a:Int):cb (scx s l o d) k a=some (false,scx s l o (ap.mk k a [])):=rfl
theorem L4 (s:Bytes)(hs:s.length<=1000000000){b:UInt8}{r:Bytes}(h:(b::r) <:+ s)(o:Int)(d:ap):Ev2 (λ _ _=>dk (scx s (b::r) o d)) (·=if kH (decodeL (b::r)) then (false,scx s (b::r) o d) else (true,scx s ((b::r).drop (decodeL (b::r)).2) o d)):=by
 have Sd:=nN h;simp only [dk,scx];refine ah ⟨Sd.1,by omega,by omega⟩ ?_;rw [qj h]
 have hd:aZ (b::r)=some (((decodeL (b::r)).1:Int),((decodeL (b::r)).2:Int)):=by
  exact AH
 refine ai _ (aw hd rfl) ?_;have hdf:=gK (b::r) G;have Mp:=h.length_le;generalize decodeL (b::r)=D at hdf ⊢;obtain ⟨c,w⟩:=D;simp only at hdf ⊢
 have hbad:Ev2 (λ _ _=>(if (c:Int)=65533 then if (w:Int)=1 then some true else if (c:Int) < 32 then some true else some (decide ((c:Int)=127)) else if (c:Int) < 32 then some true else some (decide ((c:Int)=127)):Option Bool)) (·=decide (kH (c,w))):=by
  exact IK
 refine ai _ hbad ?_;by_cases hb:kH (c,w)
 ·rw [if_pos hb];exact aj (by simpa using hb) (ab rfl)
 ·rw [if_neg hb];refine ae (by simpa using hb) (ah (cH O (by have:=BP (s:=s) (l:=b::r); omega)) (ab ?_));rw [sY hdf.2.1]
end Go.Ab.R06
end
section
namespace Go.Ab.R06
open Go.Ab Go.Ab.RB Go.Lib
section
variable {p:Prop}
theorem Bv (h:p:=by
 exact aj (by rw [hx.1]; rfl) (ab ⟨Z,hx.2⟩)):p:=h
theorem ww (h:p:=by
 cases h; exact ⟨List.suffix_cons _ _,Nat.lt_succ_self _⟩):p:=h
theorem uY (h:p:=by exact cH (by show _<=pz s (b::r)+1; omega) (by show pz s (b::r)+1<=_; omega)):p:=h
theorem GF (h:p:=by exact ai _ (aw (wl _ _ _ _ _ _) Z) (ab ⟨Z,Z⟩)):p:=h
theorem Hy (h:p:=by exact ⟨Sd.1,by show pz s (b::r)<=(s.length:Int); omega,by show (s.length:Int)<=(s.length:Int); omega⟩):p:=h
theorem zT (h:p:=by exact aw (wl _ _ _ _ _ _) Z):p:=h
end
abbrev SE:=Int×Option Nat
def iE (src:Bytes->SE⊕Bytes):Bytes->SE⊕(Int×Bytes×Bytes)
 | []=>.inl (2,some 0)
 | b::r=>if iJ b=true then (if 64 < ((b::r).takeWhile idB).length then .inl (7,some (b::r).length) else .inr (1,(b::r).takeWhile idB,(b::r).dropWhile idB))
  else if fe b=true then .inr (2,(b::r).takeWhile fe,(b::r).dropWhile fe)
  else if b.toNat=10 then .inr (5,[10],r)
  else if b.toNat=34 then (match src r with | .inl e=>.inl e | .inr r'=>.inr (3,r.take (r.length - r'.length - 1),r'))
  else if fK (b::r)=[] then .inl (2,some (b::r).length) else .inr (4,fK (b::r),(b::r).drop (fK (b::r)).length)
mutual
def eg:Nat->Nat->Bytes->SE⊕Bytes
 | 0,_,_=>.inl (40,none)
 | _+1,_,[]=>.inl (40,none)
 | f+1,k,b::r=>if b.toNat=34 then .inr r
  else if hasPrefix (b::r) [36,36,123]=true then eg f k ((b::r).drop 3)
  else if hasPrefix (b::r) [36,123]=true then (if 32<=k then .inl (4,some (b::r).length) else match iH f (k+1) 1 ((b::r).drop 2) with | .inl e=>.inl e | .inr l=>eg f k l)
  else match (if b.toNat=92 then r else b::r) with
   | []=>.inl (40,none)
   | c::t=>if kH (decodeL (c::t)) then .inl (2,some (c::t).length) else eg f k ((c::t).drop (decodeL (c::t)).2)
def iH:Nat->Nat->Nat->Bytes->SE⊕Bytes
 | 0,_,_,_=>.inl (40,none)
 | f+1,k,n,l=>match dz false l with
  | []=>.inl (40,none)
  | b::r=>match iE (eg f k) (b::r) with
   | .inl e=>.inl e
   | .inr (c,t,l')=>if c=4/\t=[125] then (if n=1 then .inr l' else iH f k (n - 1) l') else if c=4/\t=[123] then iH f k (n+1) l' else iH f k n l'
end
theorem fz (src:Bytes->SE⊕Bytes)(b:UInt8)(r:Bytes):iE src (b::r)=if iJ b=true then (if 64 < ((b::r).takeWhile idB).length then .inl (7,some (b::r).length) else .inr (1,(b::r).takeWhile idB,(b::r).dropWhile idB))
  else if fe b=true then .inr (2,(b::r).takeWhile fe,(b::r).dropWhile fe)
  else if b.toNat=10 then .inr (5,[10],r)
  else if b.toNat=34 then (match src r with | .inl e=>.inl e | .inr r'=>.inr (3,r.take (r.length - r'.length - 1),r'))
  else if fK (b::r)=[] then .inl (2,some (b::r).length) else .inr (4,fK (b::r),(b::r).drop (fK (b::r)).length):=rfl
theorem jH (f k:Nat)(b:UInt8)(r:Bytes):eg (f+1) k (b::r)=if b.toNat=34 then .inr r
  else if hasPrefix (b::r) [36,36,123]=true then eg f k ((b::r).drop 3)
  else if hasPrefix (b::r) [36,123]=true then (if 32<=k then .inl (4,some (b::r).length) else match iH f (k+1) 1 ((b::r).drop 2) with | .inl e=>.inl e | .inr l=>eg f k l)
  else match (if b.toNat=92 then r else b::r) with
   | []=>.inl (40,none)
   | c::t=>if kH (decodeL (c::t)) then .inl (2,some (c::t).length) else eg f k ((c::t).drop (decodeL (c::t)).2):=by rw [eg]; rfl
def I1 (q:Nat->Bytes->SE⊕Bytes)(n:Nat):SE⊕(Int×Bytes×Bytes)->SE⊕Bytes
 | .inl e=>.inl e
 | .inr (c,t,l')=>if c=4/\t=[125] then (if n=1 then .inr l' else q (n - 1) l') else if c=4/\t=[123] then q (n+1) l' else q n l'
def MF (q:Nat->Bytes->SE⊕Bytes)(src:Bytes->SE⊕Bytes)(n:Nat):Bytes->SE⊕Bytes
 | []=>.inl (40,none)
 | b::r=>I1 q n (iE src (b::r))
theorem Jy (q:Nat->Bytes->SE⊕Bytes)(src:Bytes->SE⊕Bytes)(n:Nat):MF q src n []=.inl (40,none):=rfl
theorem iq (q:Nat->Bytes->SE⊕Bytes)(src:Bytes->SE⊕Bytes)(n:Nat)(b:UInt8)(r:Bytes):MF q src n (b::r)=I1 q n (iE src (b::r)):=rfl
theorem uQ (q:Nat->Bytes->SE⊕Bytes)(n:Nat)(e:SE):I1 q n (.inl e)=.inl e:=rfl
theorem jl (q:Nat->Bytes->SE⊕Bytes)(n:Nat)(c:Int)(t l':Bytes):I1 q n (.inr (c,t,l'))=if c=4/\t=[125] then (if n=1 then .inr l' else q (n - 1) l') else if c=4/\t=[123] then q (n+1) l' else q n l':=rfl
theorem jM (f k n:Nat)(l:Bytes):iH (f+1) k n l=MF (iH f k) (eg f k) n (dz false l):=by
 rw [iH]
 cases dz false l with
 | nil=>rfl
 | cons b r =>
  show (match iE (eg f k) (b::r) with
   | .inl e=>.inl e
   | .inr (c,t,l')=>if c=4/\t=[125] then (if n=1 then .inr l' else iH f k (n - 1) l') else if c=4/\t=[123] then iH f k (n+1) l' else iH f k n l')=I1 (iH f k) n (iE (eg f k) (b::r))
  cases iE (eg f k) (b::r) with
  | inl e=>rfl
  | inr z=>rfl
theorem iA {src:Bytes->SE⊕Bytes}{l:Bytes}(hsrc:∀ r r',r.length < l.length->src r=.inr r'->r' <:+ r/\r'.length < r.length){c:Int}{t l':Bytes}(h:iE src l=.inr (c,t,l')):l' <:+ l/\l'.length < l.length:=by
 cases l with
 | nil=>cases h
 | cons b r =>
  rw [fz] at h;split at h
  ·rename_i hb;split at h
   ·cases h
   ·cases h
    refine ⟨mX _,?_⟩;rw [List.dropWhile_cons_of_pos (by simp [idB,hb])];exact Nat.lt_succ_of_le (mX r).length_le
  split at h
  ·rename_i hb
   cases h
   refine ⟨mX _,?_⟩;rw [List.dropWhile_cons_of_pos hb];exact Nat.lt_succ_of_le (mX r).length_le
  split at h
  ·exact ww
  split at h
  ·split at h
   ·cases h
   ·rename_i r' hr
    cases h
    obtain ⟨h1,h2⟩:=hsrc r _ (Nat.lt_succ_self _) hr;exact ⟨h1.trans (List.suffix_cons _ _),Nat.lt_succ_of_lt h2⟩
  split at h
  ·cases h
  ·rename_i hs
   cases h
   have:=tI hs;refine ⟨List.drop_suffix _ _,?_⟩;rw [n6]; simp only [aq] at this ⊢; omega
theorem fO:∀ (f k:Nat),(∀ l l',eg f k l=.inr l'->l' <:+ l/\l'.length < l.length)/\(∀ n l l',iH f k n l=.inr l'->l' <:+ l/\l'.length < l.length)
 | 0,k=>⟨λ l l' h=>(by rw [eg] at h; cases h),λ n l l' h=>(by rw [iH] at h; cases h)⟩
 | f+1,k=>by
  have ih:=fO f;constructor
  ·intro l l' h
   cases l with
   | nil=>rw [eg] at h; cases h
   | cons b r =>
    rw [jH] at h;split at h
    ·exact ww
    split at h
    ·obtain ⟨h1,h2⟩:=(ih k).1 _ _ h;exact ⟨h1.trans (List.drop_suffix _ _),by have:=n6 (i:=3) (l:=b::r); simp only [aq] at this ⊢; omega⟩
    split at h
    ·split at h
     ·cases h
     ·split at h
      ·cases h
      ·rename_i l1 hl1;obtain ⟨h1,h2⟩:=(ih (k+1)).2 _ _ _ hl1;obtain ⟨h3,h4⟩:=(ih k).1 _ _ h;exact ⟨h3.trans (h1.trans (List.drop_suffix _ _)),by have:=n6 (i:=2) (l:=b::r); simp only [aq] at this ⊢; omega⟩
    ·have hs:(if b.toNat=92 then r else b::r) <:+ b::r:=by split; exact List.suffix_cons _ _; exact List.suffix_rfl
     split at h
     ·cases h
     ·rename_i c t hct;rw [hct] at hs;split at h
      ·cases h
      ·obtain ⟨h1,h2⟩:=(ih k).1 _ _ h;exact ⟨h1.trans ((List.drop_suffix _ _).trans hs),by have:=hs.length_le; have:=(List.drop_suffix (decodeL (c::t)).2 (c::t)).length_le; omega⟩
  ·intro n l l' h;rw [jM] at h;have hs:=jG false l;generalize hbr:dz false l=l0 at h hs
   cases l0 with
   | nil=>cases h
   | cons b r =>
    rw [iq] at h
    cases hl1:iE (eg f k) (b::r) with
    | inl e=>rw [hl1] at h; cases h
    | inr z =>
     obtain ⟨c,t,l1⟩:=z;rw [hl1,jl] at h;obtain ⟨h1,h2⟩:=iA (λ r r' _ hr=>(ih k).1 _ _ hr) hl1;have h3:=hs.length_le
     have key:∀ n,iH f k n l1=.inr l'->l' <:+ l/\l'.length < l.length:=λ n hn=>by
      obtain ⟨h4,h5⟩:=(ih k).2 _ _ _ hn;exact ⟨h4.trans (h1.trans hs),by omega⟩
     split at h
     ·split at h
      ·cases h; exact ⟨h1.trans hs,by omega⟩
      ·exact key _ h
     split at h
     ·exact key _ h
     ·exact key _ h
def wL (s:Bytes)(o:Int)(e:SE):ap:=ap.mk e.1 (match e.2 with | some n=>(s.length:Int) - (n:Int) | none=>o) []
def EB (s:Bytes)(o o':Int)(d:ap)(q:SE⊕Bytes)(r:Bool×ac):Prop:=match q with
 | .inl e=>r.1=false/\r.2.AT=wL s o e
 | .inr l=>r=(true,scx s l o' d)
def Pb (s l:Bytes)(o o':Int)(d:ap)(q:SE⊕(Int×Bytes×Bytes))(r:ad×Bool×ac):Prop:=match q with
 | .inl e=>r.2.1=false/\r.2.2.AT=wL s o e
 | .inr (c,t,l')=>r=(ad.mk c t (pz s l),true,scx s l' o' d)
theorem Ia {s:Bytes}(hs:s.length<=1000000000){o o':Int}{d:ap}{k:Nat}{src:Bytes->SE⊕Bytes}{b:UInt8}{r:Bytes}(h:(b::r) <:+ s)(hsuf:∀ l',src r=.inr l'->l' <:+ r/\l'.length < r.length)(ho:¬ b.toNat=34->o'=(scx s (b::r) o d).IS)
  {oE:Int} (hsrc:b.toNat=34->Ev2 (λ n _=>b7 n (scx s (b::r) o d) (k:Int)) (EB s oE o' d (src r))) (hb:jx (b::r)=true) :
  Ev2 (λ n _=>aW n (scx s (b::r) o d) (k:Int)) (Pb s (b::r) oE o' d (iE src (b::r))):=by
 obtain ⟨f1,f2,f3,f4,f5,f6⟩:=iP b;have Sd:=nN h;have hle:=h.length_le;refine aM ?_;simp only [aW];rw [fz];have hat':(0:Int)<=(scx s (b::r) o d).fat/\(scx s (b::r) o d).fat < ((scx s (b::r) o d).fs.length:Int):=Sd;refine ah hat' (ah (rR h) ?_);simp only [show byt (scx s (b::r) o d).fs (scx s (b::r) o d).fat=(b.toNat:Int) from ni h,rC];by_cases h2:iJ b=true
 ·have hn34:¬ b.toNat=34:=λ q=>by have:=(nP b).1 h2; omega
  rw [if_pos h2];have hc:=f2.2 h2;by_cases hl:64 < ((b::r).takeWhile idB).length
  ·rw [if_pos hl];refine d5 (aj O (ai _ (A5 s (b::r) hs h o d idB 2 3 Gy) (aj rD (ai _ zT (ab ?_)))));exact ⟨rfl,rfl⟩
  ·rw [if_neg hl];refine d5 (aj O (ai _ (A5 s (b::r) hs h o d idB 2 3 Gy) (ae rD (ab (ab ?_)))));rw [ho hn34]; rfl
 rw [if_neg h2];have c2:¬ ((ko b:Nat):Int)=2:=λ q=>h2 (f2.1 O);by_cases h3:fe b=true
 ·have hn34:¬ b.toNat=34:=λ q=>by have:=(km b).1 h3; omega
  rw [if_pos h3];have hc:=f3.2 h3;refine d5 (ae c2 (aj O (ai _ (A5 s (b::r) hs h o d fe 3 3 LK) (ab (ab ?_)))));rw [ho hn34]; rfl
 rw [if_neg h3];have c3:¬ ((ko b:Nat):Int)=3:=λ q=>h3 (f3.1 O);by_cases h10:b.toNat=10
 ·rw [if_pos h10];have hc:=f5.2 h10;refine d5 (ae c2 (ae c3 (aj O (ah uY (ab (ab ?_))))));rw [ho O];show (ad.mk 5 [10] (pz s (b::r)),true,ac.mk s (pz s (b::r)+1) o d)=_;rw [<- show pz s r=pz s (b::r)+1 from oy]; rfl
 rw [if_neg h10];have c6:¬ ((ko b:Nat):Int)=6:=λ q=>h10 (f5.1 O);by_cases h34:b.toNat=34
 ·rw [if_pos h34];have hc:=f4.2 h34;refine d5 (ae c2 (ae c3 (ae c6 (aj O (ao _ (hsrc h34) λ x hx=>?_)))))
  cases hq:src r with
  | inl e =>
   rw [hq] at hx;exact Bv
  | inr l' =>
   rw [hq] at hx;obtain ⟨g1,g2⟩:=hsuf l' hq;have hx:x=(true,scx s l' o' d):=hx;subst hx;have e1:(scx s (b::r) o d).fat+1=pz s r:=(oy (b:=b)).symm;have hl':l' <:+ s:=g1.trans (iZ h);have e2:(scx s l' o' d).fat - 1=(s.length:Int) - ((l'.length+1:Nat):Int):=by show pz s l' - 1=_; unfold pz; omega
   have hrl:=(iZ h).length_le;have hd:r.drop (r.length - (l'.length+1)) <:+ r:=List.drop_suffix _ _;have hdl:(r.drop (r.length - (l'.length+1))).length=l'.length+1:=by rw [n6]; omega
   have e3:(scx s l' o' d).fat - 1=pz s (r.drop (r.length - (l'.length+1))):=by rw [e2]; unfold pz; rw [hdl]
   refine ae G (ah uY (ah (cH (by rw [e2]; omega) (by rw [e2]; omega)) (ah ?_ (ab (ab ?_)))))
   ·rw [e1,e3];refine ⟨Cv (iZ h),?_,BP⟩;unfold pz; rw [hdl]; omega
   ·show _=_;rw [e1,e3,show sub (scx s l' o' d).fs (pz s r) (pz s (r.drop (r.length - (l'.length+1))))=_ from Cj (iZ h) hd,hdl,show r.length - (l'.length+1)=r.length - l'.length - 1 by omega]
    rfl
 rw [if_neg h34];have c5:¬ ((ko b:Nat):Int)=5:=λ q=>h34 (f4.1 O)
 have hsn:fK (b::r)≠[]:=by
  rw [fF,Bool.not_eq_true _ |>.mp h2,Bool.not_eq_true _ |>.mp h3,decide_eq_false h34,decide_eq_false h10] at hb;intro q; rw [q] at hb; cases hb
 rw [if_neg hsn];have OF:=tI hsn;refine d5 (ae c2 (ae c3 (ae c6 (ae c5 (ah Hy ?_)))));rw [show sub (scx s (b::r) o d).fs (scx s (b::r) o d).fat ((scx s (b::r) o d).fs.length:Int)=b::r from qj h];refine ai _ (wj (b::r) O) (ah (cH (by show _<=pz s (b::r)+_; omega) (by show pz s (b::r)+_<=_; omega)) (ab (ab ?_)));rw [ho h34];show (ad.mk 4 (fK (b::r)) (pz s (b::r)),true,ac.mk s (pz s (b::r)+((fK (b::r)).length:Int)) o d)=_;rw [<- sY OF.2]; rfl
def A1 (s:Bytes)(o:Int)(d:ap)(q:SE⊕Bytes)(r:ac⊕(Bool×ac)):Prop:=match r with
 | .inl x=>x=scx s [] o d/\q=.inl (40,none)
 | .inr y=>EB s o o d q y
def KS (s:Bytes)(o:Int)(d:ap)(q:SE⊕Bytes)(r:ac⊕(Bool×ac)):Prop:=match r with
 | .inl x=>∃ l,q=.inr l/\x=scx s l o d
 | .inr y=>∃ e,q=.inl e/\y.1=false/\y.2.AT=wL s o e
theorem Fa {src:Bytes->SE⊕Bytes}{b:UInt8}{r:Bytes}(h:jx (b::r)=false):iE src (b::r)=.inl (2,some (b::r).length):=by
 rw [fF] at h;simp only [Bool.or_eq_false_iff,decide_eq_false_iff_not,Bool.not_eq_false',List.isEmpty_iff] at h;obtain ⟨⟨⟨⟨h1,h2⟩,h3⟩,h4⟩,h5⟩:=h;rw [fz,if_neg (by simp [h1]),if_neg (by simp [h2]),if_neg h4,if_neg h3,if_pos h5]
theorem rT {s:Bytes}(hs:s.length<=1000000000){o:Int}{d:ap}{k:Nat}{b:UInt8}{r:Bytes}(h:(b::r) <:+ s){q:SE⊕Bytes}(hl:Ev2 (λ n m=>aJ (aC n) (k:Int) m (scx s r o d)) (A1 s o d q)) :
  Ev2 (λ n _=>cN n (scx s (b::r) o d) (k:Int)) (EB s o o d q):=by
 have Sd:=nN h;have hle:=h.length_le;refine aM ?_;simp only [cN];refine ah uY ?_
 have e:ac.mk (scx s (b::r) o d).fs ((scx s (b::r) o d).fat+1) (scx s (b::r) o d).IS (scx s (b::r) o d).AT=scx s r o d:=by
  show ac.mk s (pz s (b::r)+1) o d=_;rw [<- show pz s r=pz s (b::r)+1 from oy]; rfl
 rw [e];refine d5 (bB (bh (f:=λ n m=>aJ (aC n) (k:Int) m (scx s r o d)) hl) λ x hx=>?_)
 cases x with
 | inl x =>
  obtain ⟨rfl,rfl⟩:=hx;exact ai _ zT (ab ⟨rfl,rfl⟩)
 | inr y=>exact hx
theorem DX {s:Bytes}(hs:s.length<=1000000000){o:Int}(ho:0<=o){d:ap}{k:Nat}{b:UInt8}{r:Bytes}(h:(b::r) <:+ s){q:SE⊕Bytes}(hl:Ev2 (λ n m=>aJ (aC n) (k:Int) m (scx s r o d)) (A1 s o d q)) :
  Ev2 (λ n _=>b7 n (scx s (b::r) o d) (k:Int)) (EB s o o d q):=by
 refine aM ?_;simp only [b7];exact ae (by show ¬ o < 0; omega) (rT hs h hl)
theorem Bt {s:Bytes}(hs:s.length<=1000000000){d:ap}{k:Nat}{b:UInt8}{r:Bytes}(h:(b::r) <:+ s){q:SE⊕Bytes}(hl:Ev2 (λ n m=>aJ (aC n) (k:Int) m (scx s r (pz s (b::r)) d)) (A1 s (pz s (b::r)) d q)) :
  Ev2 (λ n _=>b7 n (scx s (b::r) (-1) d) (k:Int)) (EB s (pz s (b::r)) (-1) d q):=by
 refine aM ?_;simp only [b7];refine aj (by show (-1:Int) < 0; omega) (ao _ (rT hs h hl) λ x hx=>ab ?_)
 cases q with
 | inl e=>exact hx
 | inr l =>
  have hx:x=(true,scx s l (pz s (b::r)) d):=hx;subst hx; rfl
theorem tA (s:Bytes)(b:UInt8)(r:Bytes)(o:Int)(d:ap):bq (scx s (b::r) o d)=some (true,scx s (b::r) o d):=qi _ _ _ _
theorem tD (s:Bytes)(o:Int)(d:ap):bq (scx s [] o d)=some (false,scx s [] o d):=qi _ _ _ _
theorem GK (l p:Bytes):strings_HasPrefix l p=some (hasPrefix l p):=rfl
theorem CX {s l:Bytes}{o:Int}{d:ap}{k:Nat}(hk:k<=l.length):ac.mk s (pz s l+(k:Int)) o d=scx s (l.drop k) o d:=by rw [scx,sY hk]
theorem zq {s r:Bytes}{b:UInt8}{o:Int}{d:ap}:ac.mk s (pz s (b::r)+1) o d=scx s r o d:=by rw [scx,show pz s r=pz s (b::r)+1 from oy]
theorem Jw {s:Bytes}(hs:s.length<=1000000000){o:Int}{d:ap}{f k:Nat}
  (ih1:∀ l,l <:+ s->l.length < f->Ev2 (λ n m=>aJ (aC n) (k:Int) m (scx s l o d)) (A1 s o d (eg f k l)))
  (ih2:∀ l,l <:+ s->l.length < f->k < 32->Ev2 (λ nn m=>aE nn (aW nn) (k:Int) m 1 (scx s l o d)) (KS s o d (iH f (k+1) 1 l))) :
  ∀ l,l <:+ s->l.length < f+1->Ev2 (λ n m=>aJ (aC n) (k:Int) m (scx s l o d)) (A1 s o d (eg (f+1) k l)):=by
 intro l h hf;refine aA ?_;simp only [aJ]
 cases l with
 | nil =>
  refine ai _ (aw (tD s o d) Z) (ae G (ab ⟨Z,?_⟩));rw [eg]
 | cons b r =>
  have Sd:=nN h;have hle:=h.length_le;have hfr:r.length < f:=by simp only [aq] at hf; omega
  refine ai _ (aw (tA s b r o d) Z) (aj Z (ah Hy ?_));rw [jH];simp only [show sub (scx s (b::r) o d).fs (scx s (b::r) o d).fat ((scx s (b::r) o d).fs.length:Int)=b::r from qj h,show byt (b::r) 0=(b.toNat:Int) from rfl];refine d5 (ah oh ?_);by_cases h34:b.toNat=34
  ·rw [if_pos h34];refine aj O (ah uY (ab ?_));show (true,ac.mk s (pz s (b::r)+1) o d)=_;rw [zq]
  rw [if_neg h34];refine ae O (ai _ (aw (GK _ _) rfl) ?_);by_cases h3:hasPrefix (b::r) [36,36,123]=true
  ·rw [if_pos h3];have hp:=hasPrefix_le h3;simp only [aq,dg] at hp;refine aj h3 (ah (cH (by show _<=pz s (b::r)+3; omega) (by show pz s (b::r)+3<=_; omega)) (ab ?_));have:=ih1 ((b::r).drop 3) (Cp 3 h) BE;rw [<- CX (k:=3) oh] at this;exact this
  rw [if_neg h3];refine ae h3 (ai _ (aw (GK _ _) rfl) ?_);by_cases h2:hasPrefix (b::r) [36,123]=true
  ·rw [if_pos h2];have hp:=hasPrefix_le h2;simp only [aq,dg] at hp;refine aj h2 (ao (EB s o o d (if 32<=k then .inl (4,some (b::r).length) else iH f (k+1) 1 ((b::r).drop 2))) ?_ λ x hx=>?_)
   ·refine aM ?_;simp only [aC];by_cases hk:32<=k
    ·rw [if_pos hk];exact aj O GF
    ·rw [if_neg hk];refine ae O (ah (cH (by show _<=pz s (b::r)+2; omega) (by show pz s (b::r)+2<=_; omega)) ?_);have:=ih2 ((b::r).drop 2) (Cp 2 h) BE O;rw [<- CX (k:=2) oh] at this;refine d5 (bB (bh (f:=λ nn m=>aE nn (aW nn) (k:Int) m 1 (ac.mk s (pz s (b::r)+2) o d)) this) λ y hy=>?_)
     cases y with
     | inl y =>
      obtain ⟨l',e1,rfl⟩:=hy;rw [e1];exact ab rfl
     | inr y =>
      obtain ⟨e,e1,e2,e3⟩:=hy;rw [e1];exact ⟨e2,e3⟩
   ·by_cases hk:32<=k
    ·rw [if_pos hk] at hx ⊢;exact Bv
    ·rw [if_neg hk] at hx ⊢
     cases hq:iH f (k+1) 1 ((b::r).drop 2) with
     | inl e =>
      rw [hq] at hx;exact Bv
     | inr l' =>
      rw [hq] at hx;have hx:x=(true,scx s l' o d):=hx;subst hx;obtain ⟨g1,g2⟩:=(fO f (k+1)).2 _ _ _ hq;refine ae G (ab (ih1 l' (g1.trans (Cp 2 h)) ?_));rw [n6] at g2; simp only [aq] at g2; omega
  rw [if_neg h2];refine ae h2 (ai (scx s (if b.toNat=92 then r else b::r) o d) (ah oh ?_) ?_)
  ·by_cases h92:b.toNat=92
   ·rw [if_pos h92];refine aj O (ah uY (ab ?_));show ac.mk s (pz s (b::r)+1) o d=_;rw [zq]
   ·rw [if_neg h92];exact ae O (ab rfl)
  ·have hsf:(if b.toNat=92 then r else b::r) <:+ s:=by split; exact iZ h; exact h
   have hln:(if b.toNat=92 then r else b::r).length<=r.length+1:=by split <;> simp
   generalize (if b.toNat=92 then r else b::r)=l1 at hsf hln ⊢
   cases l1 with
   | nil =>
    refine ai _ (aw (tD s o d) rfl) (aj rfl (ab ?_));have:=ih1 [] List.nil_suffix (by simp only [dg]; omega);obtain ⟨f,rfl⟩:∃ g,f=g+1:=⟨f - 1,by omega⟩
    rw [eg] at this;exact this
   | cons c t =>
    refine ai _ (aw (tA s c t o d) Z) (ae G (ai _ (L4 s hs hsf o d) ?_));have hdf:=gK (c::t) G;by_cases hb:kH (decodeL (c::t))
    ·simp only [if_pos hb];exact aj rfl GF
    ·simp only [if_neg hb];refine ae G (ab (ih1 _ (Cp _ hsf) ?_));rw [n6]; simp only [aq] at hln ⊢; omega
theorem Fg {s:Bytes}(hs:s.length<=1000000000){o:Int}(ho:0<=o){d:ap}{f k:Nat}(hk:k < 32)
  (ih1:∀ l,l <:+ s->l.length < f->Ev2 (λ n m=>aJ (aC n) ((k+1:Nat):Int) m (scx s l o d)) (A1 s o d (eg f (k+1) l)))
  (ih2:∀ l n,1<=n->n+l.length<=s.length+1->l <:+ s->l.length < f->Ev2 (λ nn m=>aE nn (aW nn) (k:Int) m (n:Int) (scx s l o d)) (KS s o d (iH f (k+1) n l))) :
  ∀ l n,1<=n->n+l.length<=s.length+1->l <:+ s->l.length < f+1->Ev2 (λ nn m=>aE nn (aW nn) (k:Int) m (n:Int) (scx s l o d)) (KS s o d (iH (f+1) (k+1) n l)):=by
 intro l n hn hnl h hf;refine aA ?_;simp only [aE];rw [jM];have hsk:=jG false l;have hd:decide (o < 0)=false:=decide_eq_false O;have hskip:=CQ s l hs h o d;rw [hd] at hskip;refine aj O (d5 (ai _ hskip ?_));have OF:=hsk.length_le;have hss:=hsk.trans h;generalize dz false l=l1 at hsk OF hss ⊢
 cases l1 with
 | nil=>exact ai _ (aw (tD s o d) Z) (aj Z (ai _ (aw (wl _ _ _ _ _ _) Z) (ab ⟨_,Z,Z,Z⟩)))
 | cons b r =>
  refine ai _ (aw (tA s b r o d) Z) (ae G (ai _ (vF s hs hss o d) ?_));rw [iq]
  cases hb:jx (b::r)
  ·rw [Fa hb,uQ];exact aj rfl (ai _ zT (ab ⟨_,rfl,rfl,rfl⟩))
  ·have hbl:=hss.length_le;simp only [aq] at OF hbl;have htok:=Ia (k:=k+1) (src:=eg f (k+1)) (o':=o) (oE:=o) hs hss (λ l' hl'=>(fO f (k+1)).1 _ _ hl') Y (λ _=>DX hs ho hss (ih1 r (iZ hss) O)) hb (d:=d);refine ae G (ah aV (ao (Pb s (b::r) o o d (iE (eg f (k+1)) (b::r))) htok λ x hx=>?_))
   cases hq:iE (eg f (k+1)) (b::r) with
   | inl e =>
    rw [hq] at hx;rw [uQ];exact aj (by rw [hx.1]; rfl) (ab ⟨e,rfl,rfl,hx.2⟩)
   | inr z =>
    obtain ⟨c,t,l'⟩:=z;rw [hq] at hx;have hx:x=(ad.mk c t (pz s (b::r)),true,scx s l' o d):=hx;subst hx;obtain ⟨g1,g2⟩:=iA (λ r r' _ hr=>(fO f (k+1)).1 _ _ hr) hq;simp only [aq] at g2;have hl's:=g1.trans hss;rw [jl];refine ae G (ai (if c=4/\t=[123] then (n:Int)+1 else (n:Int)) (ai (decide (c=4/\t=[123])) (ay (λ q=>ab ?_) (λ q=>ab ?_)) (ay (λ q=>ah aV (ab ?_)) (λ q=>ab ?_))) (ai (decide (c=4/\t=[125])) (ay (λ q=>ab ?_) (λ q=>ab ?_)) ?_))
    ·simp only [show c=4 from q,true_and]
    ·symm; rw [decide_eq_false_iff_not]; exact λ w=>q w.1
    ·rw [decide_eq_true_eq] at q; rw [if_pos q]
    ·rw [decide_eq_true_eq] at q; rw [if_neg q]
    ·simp only [show c=4 from q,true_and]
    ·symm; rw [decide_eq_false_iff_not]; exact λ w=>q w.1
    by_cases h125:c=4/\t=[125]
    ·have hn123:¬ (c=4/\t=[123]):=λ w=>by rw [h125.2] at w; exact absurd w.2 (by decide)
     rw [if_neg hn123];simp only [if_pos h125];refine aj (by simpa using h125) (ah aV (ab ?_));by_cases h1:n=1
     ·subst h1;rw [if_pos rfl];refine aA ?_;simp only [aE];exact ae O (ab ⟨l',rfl,rfl⟩)
     ·rw [if_neg h1];have:=ih2 l' (n - 1) O O  hl's O;rw [show ((n - 1:Nat):Int)=(n:Int) - 1 by omega] at this;exact this
    ·simp only [if_neg h125];refine ae (by simpa using h125) (ab ?_);by_cases h123:c=4/\t=[123]
     ·rw [if_pos h123];simp only [if_pos h123];exact ih2 l' (n+1) O O  hl's O
     ·rw [if_neg h123];simp only [if_neg h123];exact ih2 l' n hn O hl's O
theorem Db {s:Bytes}(hs:s.length<=1000000000){o:Int}(ho:0<=o){d:ap}:∀ (f:Nat),
  (∀ (k:Nat) l,l <:+ s->l.length < f->Ev2 (λ n m=>aJ (aC n) (k:Int) m (scx s l o d)) (A1 s o d (eg f k l))) /\
  (∀ (k:Nat) l n,k < 32->1<=n->n+l.length<=s.length+1->l <:+ s->l.length < f->Ev2 (λ nn m=>aE nn (aW nn) (k:Int) m (n:Int) (scx s l o d)) (KS s o d (iH f (k+1) n l)))
 | 0=>⟨λ k l _ h=>absurd h (Nat.not_lt_zero _),λ k l n _ _ _ _ h=>absurd h (Nat.not_lt_zero _)⟩
 | f+1=>by
  obtain ⟨i1,i2⟩:=Db hs ho (d:=d) f;refine ⟨λ k=>Jw hs (i1 k) (λ l h hf hk=>?_),λ k l n hk=>Fg hs ho hk (i1 (k+1)) (λ l n a b c e=>i2 k l n hk a b c e) l n⟩;exact i2 k l 1 hk (mv _) (by have:=h.length_le; omega) h hf
theorem Ls {s:Bytes}(hs:s.length<=1000000000){d:ap}{f:Nat}{b:UInt8}{r:Bytes}(h:(b::r) <:+ s)(hf:r.length < f)(hb:jx (b::r)=true) :
  Ev2 (λ n _=>aW n (scx s (b::r) (-1) d) 0) (Pb s (b::r) (pz s (b::r)) (-1) d (iE (eg f 0) (b::r))) :=
 Ia (k:=0) hs h (λ _l' hl'=>(fO f 0).1 _ _ hl') Y (λ _=>Bt hs h ((Db hs (Cv h) f).1 0 r (iZ h) hf)) hb
def Mw (n:Nat)(e:SE):SE:=(e.1,some (e.2.getD n))
abbrev Tk:=Int×Bytes×Nat
def IQ (q:Bytes->SE⊕List Tk)(n:Nat):SE⊕(Int×Bytes×Bytes)->SE⊕List Tk
 | .inl e=>.inl (Mw n e)
 | .inr (k,t,l')=>(match q l' with
  | .inl e=>.inl e
  | .inr ts=>.inr ((k,t,n)::ts))
def yr (q:Bytes->SE⊕List Tk)(src:Bytes->SE⊕Bytes)(c:Nat):Bytes->SE⊕List Tk
 | []=>if c=16384 then .inl (14,some 0) else .inr [(6,[],0)]
 | b::r=>if jx (b::r)=false then .inl (2,some (b::r).length) else if c=16384 then .inl (14,some (b::r).length)
   else IQ q (b::r).length (iE src (b::r))
def gQ:Nat->Nat->Bytes->SE⊕List Tk
 | 0,_,_=>.inl (40,none)
 | f+1,c,l=>yr (gQ f (c+1)) (eg f 0) c (dz true l)
theorem iL (f c:Nat)(l:Bytes):gQ (f+1) c l=yr (gQ f (c+1)) (eg f 0) c (dz true l):=rfl
theorem mx (q:Bytes->SE⊕List Tk)(src:Bytes->SE⊕Bytes)(c:Nat):yr q src c []=if c=16384 then .inl (14,some 0) else .inr [(6,[],0)]:=rfl
theorem gw (q:Bytes->SE⊕List Tk)(src:Bytes->SE⊕Bytes)(c:Nat)(b:UInt8)(r:Bytes):yr q src c (b::r)=if jx (b::r)=false then .inl (2,some (b::r).length) else if c=16384 then .inl (14,some (b::r).length)
   else IQ q (b::r).length (iE src (b::r)):=rfl
theorem ig (q:Bytes->SE⊕List Tk)(n:Nat)(k:Int)(t l':Bytes):IQ q n (.inr (k,t,l'))=match q l' with
  | .inl e=>.inl e
  | .inr ts=>.inr ((k,t,n)::ts):=rfl
def tkS (s:Bytes)(z:Tk):ad:=ad.mk z.1 z.2.1 ((s.length:Int) - (z.2.2:Int))
def M2 (s:Bytes)(out:List ad)(q:SE⊕List Tk):List ad×ap:=match q with
 | .inl e=>([],wL s 0 e)
 | .inr ts=>(out++ts.map (tkS s),ap.mk 0 0 [])
theorem Gk (s l:Bytes)(o:Int)(e:SE):wL s (pz s l) e=wL s o (Mw l.length e):=by
 obtain ⟨k,n⟩:=e
 cases n <;> rfl
theorem BS {s:Bytes}(hs:s.length<=1000000000){d:ap}:∀ (f:Nat) (l:Bytes) (out:List ad),out.length<=16384->l <:+ s->l.length < f->Ev2 (λ n m=>eH n m out (scx s l (-1) d)) (·=.inr (M2 s out (gQ f out.length l)))
 | 0,l,out,_,_,h=>absurd h (Nat.not_lt_zero _)
 | f+1,l,out,hout,h,hf=>by
  refine aA ?_;simp only [eH];rw [iL];have hsk:=jG true l;have hskip:=CQ s l hs h (-1) d;rw [show decide ((-1:Int) < 0)=true from rfl] at hskip;refine ai _ hskip ?_;have OF:=hsk.length_le;have hss:=hsk.trans h;generalize dz true l=l1 at hsk OF hss ⊢
  cases l1 with
  | nil =>
   refine ai (false,scx s [] (-1) d) (ai _ (aw (tD s (-1) d) Z) pJ) (ae G ?_);rw [mx];by_cases hc:out.length=16384
   ·rw [if_pos hc];refine aj O (ab ?_)
    rfl
   ·rw [if_neg hc];refine ae O (ai _ (aw (tD s (-1) d) rfl) (aj rfl (ah pA (ab ?_))))
    rfl
  | cons b r =>
   refine ai (!jx (b::r),scx s (b::r) (-1) d) (ai _ (aw (tA s b r (-1) d) Z) (aj Z (ai _ (vF s hs hss (-1) d) (ab Z)))) ?_;rw [gw]
   cases hb:jx (b::r)
   ·exact aj Z (ab Z)
   ·refine ae G ?_;rw [if_neg G];by_cases hc:out.length=16384
    ·rw [if_pos hc];exact aj O (ab rfl)
    ·rw [if_neg hc];simp only [aq] at OF;refine ae O (ai _ (aw (tA s b r (-1) d) rfl) (ae G (ao _ (Ls hs hss (f:=f) O hb) λ x hx=>?_)))
     cases hq:iE (eg f 0) (b::r) with
     | inl e =>
      rw [hq] at hx;refine aj (by rw [hx.1]; rfl) (ab ?_);rw [hx.2,Gk s (b::r) 0]
      rfl
     | inr z =>
      obtain ⟨c,t,l'⟩:=z;rw [hq] at hx;have hx:x=(ad.mk c t (pz s (b::r)),true,scx s l' (-1) d):=hx;subst hx;obtain ⟨g1,g2⟩:=iA (λ r r' _ hr=>(fO f 0).1 _ _ hr) hq;simp only [aq] at g2;have ih:=BS hs (d:=d) f l' (out++[ad.mk c t (pz s (b::r))]) bY (g1.trans hss) O;simp only [bt,aq,dg,Nat.zero_add] at ih;rw [ig];refine ae G (ah pA (Q7 ih ?_));congr 1
      cases gQ f (out.length+1) l' with
      | inl e=>rfl
      | inr ts =>
       show (_,_)=(_,_);rw [ph]; rfl
def gu (s:Bytes):List ad×ap:=if 65536 < s.length then ([],ap.mk 3 0 []) else M2 s [] (gQ (s.length+1) 0 s)
theorem LD (s:Bytes):Ev2 (λ n _=>lw n s) (·=gu s):=by
 simp only [lw];unfold gu;by_cases h:65536 < s.length
 ·rw [if_pos h];exact aj O (ab rfl)
 ·rw [if_neg h];refine ae O (ai (scx s s (-1) (ap.mk 0 0 [])) (aw ?_ rfl) ?_)
  ·rw [scx,Lp]; rfl
  ·have:=BS (s:=s) O (d:=ap.mk 0 0 []) (s.length+1) s [] G List.suffix_rfl (Nat.lt_succ_self _);exact jR _ (bh (f:=λ n m=>eH n m [] (scx s s (-1) (ap.mk 0 0 []))) this) Z
end Go.Ab.R06
end
section
namespace Go.Ab.R06
open Go.Ab Go.Ab.RB Go.Lib
section
variable {p:Prop}
theorem Gt (h:p:=by
 simp only [List.any_cons,List.any_nil,Bool.or_false];by_cases h1:s=[110,117,108,108]
 ·simp [h1]
 by_cases h2:s=[116,114,117,101]
 ·simp [h2]
 by_cases h3:s=[102,97,108,115,101]
 ·simp [h3]
 by_cases h4:s=[102,111,114]
 ·simp [h4]
 by_cases h5:s=[105,110]
 ·simp [h5]
 by_cases h6:s=[105,102]
 ·simp [h6]
 simp [h1,h2,h3,h4,h5,h6]):p:=h
theorem um (h:p:=by exact aw (PF _) Z):p:=h
end
def v0:ag:=ag.mk 0 0 [] [] []
def e0:aa:=aa.mk 0 0 [] [] v0 [] 0
def pi (v:ag)(at':Int):aa:=aa.mk 1 0 [] [] v [] at'
def rv (s:Bytes)(at':Int):aa:=pi (ag.mk 3 0 s [] []) at'
def Nr:List Bytes:=[[110,117,108,108],[116,114,117,101],[102,97,108,115,101],[102,111,114],[105,110],[105,102]]
def fT (s:Bytes):Bool:=Nr.any (λ t=>decide (s=t))
theorem PF (s:Bytes):eG s=some (fT s):=by
 unfold eG fT Nr;exact Gt
def qe (v:ag):Int:=if v.Ar=1/\v.F'≠0/\v.F'≠1\/v.Ar≠1/\v.Ar≠2/\v.F'≠0\/v.Ar≠3/\v.If≠[]\/v.Gw≠[]\/v.Df≠[] then 1
 else if v.Ar=2/\¬ (-gO<=v.F'/\v.F'<=gO) then 5
 else if v.Ar=3/\4096 < v.If.length then 3
 else if v.Ar=3/\validD v.If=false then 1 else 0
def qt (e:aa):Bool:=(gq e).getD false
def iR (e:aa):Int:=if qt e=false then 1 else if e.Ar=1 then qe e.By
 else if (e.Ar=3\/e.Ar=4\/e.Ar=9\/e.Ar=12\/e.Ar=13)/\(bG e.A'=false\/e.Ar≠4/\fT e.A'=true) then 7
 else if e.B'≠[]/\(bG e.B'=false\/fT e.B'=true) then 7 else 0
mutual
def j7:Nat->Nat->aa->Int×Nat
 | c,lv,.mk k op nm key v kids at'=>if 32 < lv then (4,c) else if 4096<=c then (14,c)
  else if iR (.mk k op nm key v kids at')=0 then jg (c+1) (lv+1) kids else (iR (.mk k op nm key v kids at'),c+1)
def jg:Nat->Nat->List aa->Int×Nat
 | c,_,[]=>(0,c)
 | c,lv,x::r=>if (j7 c lv x).1=0 then jg (j7 c lv x).2 lv r else j7 c lv x
end
theorem lV (c lv:Nat)(e:aa):j7 c lv e=if 32 < lv then (4,c) else if 4096<=c then (14,c) else if iR e=0 then jg (c+1) (lv+1) e.AI else (iR e,c+1):=by
 cases e; rw [j7]; rfl
theorem kW (c lv:Nat)(x:aa)(r:List aa):jg c lv (x::r)=if (j7 c lv x).1=0 then jg (j7 c lv x).2 lv r else j7 c lv x:=by rw [jg]
def chk (e:aa):Int:=(j7 0 1 e).1
def nlT (t:ad):Bool:=decide (t.Ar=5)
def nf (b:Bool)(l:List ad):List ad:=if b then l.dropWhile nlT else l
def hd (b:Bool)(l:List ad):ad:=(nf b l).headD (ad.mk 6 [] 0)
def tl (b:Bool)(l:List ad):List ad:=(nf b l).tail
def sgB (b:Bool)(l:List ad)(s:Bytes):Bool:=decide ((hd b l).Ar=4)&&decide ((hd b l).C'=s)
def wdB (b:Bool)(l:List ad)(s:Bytes):Bool:=decide ((hd b l).Ar=1)&&decide ((hd b l).C'=s)
abbrev PE:=Int×Int
abbrev PR (α:Type):=Option (PE⊕(α×List ad))
def pb {α β:Type}(x:PR α)(k:α->List ad->PR β):PR β:=match x with
 | none=>none
 | some (.inl e)=>some (.inl e)
 | some (.inr (a,l))=>k a l
def pok {α:Type}(a:α)(l:List ad):PR α:=some (.inr (a,l))
def per {α:Type}(k a:Int):PR α:=some (.inl (k,a))
def d4 (b:Bool)(s:Bytes)(l:List ad):PR Unit:=if sgB b l s then pok () (tl b l) else per 2 (hd b l).fAt
def DK (b:Bool)(s:Bytes)(l:List ad):PR Unit:=if wdB b l s then pok () (tl b l) else per 2 (hd b l).fAt
def BF (b:Bool)(l:List ad):PR Bytes:=if (hd b l).Ar=1/\fT (hd b l).C'=false then pok (hd b l).C' (tl b l) else per 2 (hd b l).fAt
def oQ:Nat->List (Bytes×Int)
 | 0=>[([124,124],3)]
 | 1=>[([38,38],4)]
 | 2=>[([61,61],5),([33,61],6)]
 | 3=>[([60],7),([60,61],8),([62],9),([62,61],10)]
 | 4=>[([43],11),([45],12)]
 | _=>[([42],13),([47],14),([37],15)]
def tT (b:Bool)(l:List ad)(R7:Nat):Option (Bytes×Int):=(oQ R7).find? (λ p=>sgB b l p.1)
def mvT (base:Int)(t:ad):ad:=ad.mk t.Ar t.C' (t.fAt+base)
mutual
def ee:Nat->Nat->Bytes->Option (Option Bytes)
 | 0,_,_=>none
 | _+1,_,[]=>some none
 | f+1,d,b::r=>if b.toNat=123 then ee f (d+1) r
  else if b.toNat=125 then (if d=1 then some (some r) else ee f (d - 1) r)
  else if b.toNat=34 then (match fv f r with | none=>none | some none=>some none | some (some r')=>ee f d r')
  else ee f d r
def fv:Nat->Bytes->Option (Option Bytes)
 | 0,_=>none
 | _+1,[]=>some none
 | f+1,b::r=>if b.toNat=34 then some (some r)
  else if b.toNat=92 then fv f (r.drop 1)
  else if hasPrefix (b::r) [36,36,123]=true then fv f ((b::r).drop 3)
  else if hasPrefix (b::r) [36,123]=true then (match ee f 1 ((b::r).drop 2) with | none=>none | some none=>some none | some (some r')=>fv f r')
  else fv f r
end
def jm:Bytes->Int⊕(Bytes×Nat)
 | []=>.inl 40
 | b::r=>if b.toNat=92 then (if (cO r).2.2=0 then .inr (encodeRune (cO r).1,(cO r).2.1.toNat+1) else .inl (cO r).2.2)
  else if kH (decodeL (b::r))\/b.toNat=34 then .inl 2 else .inr ((b::r).take (decodeL (b::r)).2,(decodeL (b::r)).2)
def flS (frm pos:Int)(text:Bytes)(parts:List aa):List aa:=if frm < pos then parts++[rv text frm] else parts
def ml:PE⊕aa->PE⊕aa
 | .inl e=>.inl e
 | .inr e=>if chk e=0 then .inr e else .inl (chk e,e.fAt)
def wz:PE⊕aa->aa×ap
 | .inl e=>(e0,ap.mk e.1 e.2 [])
 | .inr e=>(e,ap.mk 0 0 [])
def rS (at':Int):Int×Int×Bytes×List aa×Bool->aa
 | (frm,pos,text,parts,R3)=>if R3 then aa.mk 2 0 [] [] v0 (flS frm pos text parts) at' else rv text at'
mutual
def eT:Nat->Bool->List ad->PR aa
 | 0,_,_=>none
 | f+1,b,l=>pb (pw f 0 b l) λ c l=>if sgB b l [63] then pb (eT f b (tl b l)) λ a l=>pb (d4 b [58] l) λ _ l=>pb (eT f b l) λ d l=>pok (aa.mk 8 0 [] [] v0 [c,a,d] c.fAt) l else pok c l
def pw:Nat->Nat->Bool->List ad->PR aa
 | 0,_,_,_=>none
 | f+1,R7,b,l=>if 5 < R7 then unS f b l else pb (pw f (R7+1) b l) λ e l=>qR f R7 b e l
def qR:Nat->Nat->Bool->aa->List ad->PR aa
 | 0,_,_,_,_=>none
 | f+1,R7,b,e,l=>match tT b l R7 with
  | none=>pok e l
  | some p=>pb (pw f (R7+1) b (tl b l)) λ x l=>qR f R7 b (aa.mk 7 p.2 [] [] v0 [e,x] e.fAt) l
def unS:Nat->Bool->List ad->PR aa
 | 0,_,_=>none
 | f+1,b,l=>if sgB b l [33] then pb (unS f b (tl b l)) λ e l'=>pok (aa.mk 6 1 [] [] v0 [e] (hd b l).fAt) l'
  else if sgB b l [45] then pb (unS f b (tl b l)) λ e l'=>pok (aa.mk 6 2 [] [] v0 [e] (hd b l).fAt) l'
  else pb (jC f b l) λ e l=>lH f b e l
def lH:Nat->Bool->aa->List ad->PR aa
 | 0,_,_,_=>none
 | f+1,b,e,l=>if sgB b l [46] then (if (hd b (tl b l)).Ar=1 then lH f b (aa.mk 4 0 (hd b (tl b l)).C' [] v0 [e] e.fAt) (tl b (tl b l)) else per 2 (hd b (tl b l)).fAt)
  else if sgB b l [91] then pb (eT f true (tl b l)) λ x l=>pb (d4 true [93] l) λ _ l=>lH f b (aa.mk 5 0 [] [] v0 [e,x] e.fAt) l
  else pok e l
def jC:Nat->Bool->List ad->PR aa
 | 0,_,_=>none
 | f+1,b,l=>if (hd b l).Ar=2 then (if (sx (hd b l).C').2=0 then pok (pi (ag.mk 2 (sx (hd b l).C').1 [] [] []) (hd b l).fAt) (tl b l) else per (sx (hd b l).C').2 (hd b l).fAt)
  else if (hd b l).Ar=3 then tS f b l
  else if (hd b l).Ar=1 then nQ f b l
  else if sgB b l [40] then pb (eT f true (tl b l)) λ e l=>pb (d4 true [41] l) λ _ l=>pok e l
  else if sgB b l [91] then (if wdB true (tl b l) [102,111,114] then nz f (hd b l).fAt 12 (tl true (tl b l)) else pb (ji f [93] (tl b l)) λ ks l'=>pok (aa.mk 10 0 [] [] v0 ks (hd b l).fAt) l')
  else if sgB b l [123] then (if wdB true (tl b l) [102,111,114] then nz f (hd b l).fAt 13 (tl true (tl b l)) else pb (rJ f (tl b l)) λ ks l'=>pok (aa.mk 11 0 [] [] v0 ks (hd b l).fAt) l')
  else per 2 (hd b l).fAt
def tS:Nat->Bool->List ad->PR aa
 | 0,_,_=>none
 | f+1,b,l=>match mr f (hd b l).C' ((hd b l).fAt+1) with
  | none=>none
  | some (.inl e)=>some (.inl e)
  | some (.inr e)=>pok (aa.mk e.Ar e.fOp e.A' e.B' e.By e.AI (hd b l).fAt) (tl b l)
def nQ:Nat->Bool->List ad->PR aa
 | 0,_,_=>none
 | f+1,b,l=>if (hd b l).C'=[110,117,108,108] then pok (pi v0 (hd b l).fAt) (tl b l)
  else if (hd b l).C'=[116,114,117,101] then pok (pi (ag.mk 1 1 [] [] []) (hd b l).fAt) (tl b l)
  else if (hd b l).C'=[102,97,108,115,101] then pok (pi (ag.mk 1 0 [] [] []) (hd b l).fAt) (tl b l)
  else if fT (hd b l).C'=true then per 2 (hd b l).fAt
  else if sgB b (tl b l) [40] then pb (ji f [41] (tl b (tl b l))) λ ks l'=>pok (aa.mk 9 0 (hd b l).C' [] v0 ks (hd b l).fAt) l'
  else pok (aa.mk 3 0 (hd b l).C' [] v0 [] (hd b l).fAt) (tl b l)
def ji:Nat->Bytes->List ad->PR (List aa)
 | 0,_,_=>none
 | f+1,e,l=>if sgB true l e then pok [] (tl true l)
  else pb (eT f true l) λ x l=>if sgB true l [44] then pb (ji f e (tl true l)) λ r l=>pok (x::r) l else pb (d4 true e l) λ _ l=>pok [x] l
def rJ:Nat->List ad->PR (List aa)
 | 0,_=>none
 | f+1,l=>if sgB true l [125] then pok [] (tl true l)
  else pb (nG f l) λ k l=>pb (d4 true [61] l) λ _ l=>pb (eT f true l) λ x l=>if sgB true l [44] then pb (rJ f (tl true l)) λ r l=>pok (k::x::r) l else pb (d4 true [125] l) λ _ l=>pok [k,x] l
def nG:Nat->List ad->PR aa
 | 0,_=>none
 | f+1,l=>if (hd true l).Ar=1 then pok (rv (hd true l).C' (hd true l).fAt) (tl true l)
  else if (hd true l).Ar=3 then tS f true l
  else if sgB true l [40] then pb (eT f true (tl true l)) λ e l=>pb (d4 true [41] l) λ _ l=>pok e l
  else per 2 (hd true l).fAt
def nz:Nat->Int->Int->List ad->PR aa
 | 0,_,_,_=>none
 | f+1,at',k,l=>pb (BF true l) λ v l =>
  pb (if sgB true l [44] then pb (BF true (tl true l)) λ w l=>pok (w,v) l else pok (v,[]) l) λ nk l =>
  pb (DK true [105,110] l) λ _ l=>pb (eT f true l) λ a l=>pb (d4 true [58] l) λ _ l=>pb (eT f true l) λ c l =>
  pb (if k=13 then pb (d4 true [61,62] l) λ _ l=>pb (eT f true l) λ d l=>pok [a,c,d] l else pok [a,c] l) λ ks l =>
  pb (if wdB true l [105,102] then pb (eT f true (tl true l)) λ e l=>pok (ks++[e]) l else pok ks l) λ ks l =>
  pb (d4 true (if k=13 then [125] else [93]) l) λ _ l=>pok (aa.mk k 0 nk.1 nk.2 v0 ks at') l
def mr:Nat->Bytes->Int->Option (PE⊕aa)
 | 0,_,_=>none
 | f+1,s,at'=>match eZ f at' at' [] [] false s with
  | none=>none
  | some (.inl e)=>some (.inl e)
  | some (.inr z)=>some (ml (.inr (rS at' z)))
def eZ:Nat->Int->Int->Bytes->List aa->Bool->Bytes->Option (PE⊕(Int×Int×Bytes×List aa×Bool))
 | 0,_,_,_,_,_,_=>none
 | f+1,frm,pos,text,parts,R3,l=>match l with
  | []=>some (.inr (frm,pos,text,parts,R3))
  | c::r=>if hasPrefix (c::r) [36,36,123]=true then (if 4096 < text.length+2 then some (.inl (3,frm)) else eZ f frm (pos+3) (text++[36,123]) parts R3 ((c::r).drop 3))
   else if hasPrefix (c::r) [36,123]=true then (match ee f 1 ((c::r).drop 2) with
    | none=>none
    | some none=>some (.inl (40,pos))
    | some (some r')=>match gi f (((c::r).drop 2).take (((c::r).drop 2).length - r'.length - 1)) (pos+2) with
     | none=>none
     | some (.inl e)=>some (.inl e)
     | some (.inr e)=>eZ f (pos+((c::r).length - r'.length:Nat)) (pos+((c::r).length - r'.length:Nat)) [] (flS frm pos text parts++[e]) true r')
   else match jm (c::r) with
    | .inl k=>some (.inl (k,pos))
    | .inr (t,n)=>if 4096 < text.length+t.length then some (.inl (3,frm)) else eZ f frm (pos+(n:Int)) (text++t) parts R3 ((c::r).drop n)
def gi:Nat->Bytes->Int->Option (PE⊕aa)
 | 0,_,_=>none
 | f+1,s,base=>if (gu s).2.Ar≠0 then some (.inl ((gu s).2.Ar,base+(gu s).2.fAt))
  else match eT f true ((gu s).1.map (mvT base)) with
   | none=>none
   | some (.inl e)=>some (.inl e)
   | some (.inr (e,l))=>if (hd true l).Ar=6 then some (.inr e) else some (.inl (2,(hd true l).fAt))
end
theorem d6 {α σ β:Type}{f:Nat->Nat->Option (α×σ)}{g:Nat->Nat->α×σ->Option β}{a:α}{mk:Nat->σ}{P:Nat->Prop}{Q:β->Prop}(h:Ev2 f (λ z=>z.1=a/\∃ j,z.2=mk j/\P j))(k:∀ j,P j->Ev2 (λ n m=>g n m (a,mk j)) Q) :
  Ev2 (λ n m=>(f n m).bind (g n m)) Q:=by
 refine ao _ h ?_;rintro ⟨z1,z2⟩ ⟨h1,j,h2,h3⟩;replace h1:z1=_:=h1; subst h1;replace h2:z2=_:=h2; subst h2;exact k j h3
end Go.Ab.R06
end
section
namespace Go.Ab.R06
open Go.Ab Go.Ab.RB Go.Lib
section
variable {p:Prop}
theorem G4 (h:p:=by
 refine d6 (fH hL Mp h) λ j ⟨h3,h4,h5⟩=>?_;refine ai (false,L,(j:Int),L',base,e.1,e.2,[]) ?_ (ab ⟨j,Z,h3⟩);have:(!(!decide ((eD e).Ar=0)))=false:=by show (!(!decide (e.1=0)))=false; simp [he]
 exact ae (by show ¬ (!(!decide ((eD e).Ar=0)))=true; simp [this]) (ab Z)):p:=h
theorem H9 (h:p:=by
 show af.mk L j (L'+1 - 1) base (eD e)=_
 rw [Int.add_sub_cancel]):p:=h
theorem IR (h:p:=by
 rintro ⟨y1,y2⟩ ⟨g1,k,g2,g3,g4,g5⟩
 cases g2
 exact ab ⟨k,Z,g3,g4⟩):p:=h
theorem E5 (h:p:=by
 rw [<- e] at RP;rcases Nat.lt_or_ge (j+1) L.length with q | q
 ·exact q
 ·rw [List.drop_eq_nil_of_le q] at RP; exact absurd rfl RP):p:=h
theorem JR (h:p:=by
 rintro _ ⟨j,rfl,h3⟩;refine aj rfl (ao _ (fH hL Mp h3) ?_);rintro ⟨y1,y2⟩ ⟨g1,k,g2,g3,g4,g5⟩;replace g1:y1=_:=g1; subst g1; cases g2
 exact ai _ (aw (w7 he _ _ _ _) Z) (ab ⟨k,l,Z,g3⟩)):p:=h
theorem HB (h:p:=by
 rw [if_neg hs] at hq; cases hq;refine aj (by simpa using hs) (ao _ (fH hL Mp h3) ?_);rintro ⟨y1,y2⟩ ⟨g1,k,g2,g3,g4,g5⟩;replace g1:y1=_:=g1; subst g1; cases g2
 refine ai _ (aw (tQ _ _ _ _) Z) (ab ⟨(by decide:(2:Int)≠0),k,l,Z,g3⟩)):p:=h
theorem tv (h:p:=by exact ai _ (aw (tQ _ _ _ _) Z) (ab ⟨(by decide:(2:Int)≠0),j,l,Z,h3⟩)):p:=h
theorem xw (h:p:=by exact aw (tQ _ _ _ _) Z):p:=h
theorem Bs (h:p:=by exact cH (by show _<=L'+1 - 1; omega) (by show L'+1 - 1<=_; omega)):p:=h
theorem rr (h:p:=by exact ab ⟨Z,j,Z,h3⟩):p:=h
end
theorem uO {P:Int->Prop}{i:Nat}(h:P ((i+1:Nat):Int)):P ((i:Int)+1):=by rwa [Int.natCast_add,Int.natCast_one] at h
def TkB (t:ad):Prop:=0<=t.fAt/\t.fAt+(t.C'.length:Int)<=1000000000/\(t.Ar=3->t.fAt+1+(t.C'.length:Int)<=1000000000)/\(t.Ar=2->t.C'.all fe=true)
def Gd:List ad->Prop
 | []=>False
 | t::r=>TkB t/\((t.Ar=6/\r=[])\/(t.Ar≠6/\Gd r))
theorem L1 {t:ad}:nlT t=true↔t.Ar=5:=by simp [nlT]
theorem wM (b:Bool):nf b []=[]:=by cases b <;> rfl
theorem lS (b:Bool)(t:ad)(r:List ad):nf b (t::r)=if b=true/\t.Ar=5 then nf b r else t::r:=by
 cases b with
 | false=>simp [nf]
 | true=>simp only [nf,if_true,true_and]; rw [List.dropWhile_cons]; simp only [L1]
theorem IC (b:Bool):∀ (l:List ad),nf b (nf b l)=nf b l
 | []=>by rw [wM,wM]
 | t::r=>by
  rw [lS];split
  ·exact IC b r
  ·rename_i h; rw [lS,if_neg h]
theorem sf {b:Bool}:∀ {l:List ad},Gd l->Gd (nf b l)
 | [],h=>h.elim
 | t::r,h=>by
  rw [lS];split
  ·rename_i h1;rcases h.2 with h2 | h2
   ·omega
   ·exact sf h2.2
  ·exact h
theorem A9 (b:Bool):∀ (l:List ad),(nf b l).length<=l.length
 | []=>by rw [wM]; exact mv _
 | t::r=>by
  rw [lS];split
  ·exact Nat.le_succ_of_le (A9 b r)
  ·exact mv _
theorem wP (b:Bool)(base:Int):∀ (l:List ad),nf b (l.map (mvT base))=(nf b l).map (mvT base)
 | []=>by rw [List.map_nil,wM,List.map_nil]
 | t::r=>by
  rw [cl,lS,lS,wP b base r];show (if b=true/\t.Ar=5 then _ else _)=_;split <;> rfl
theorem yo {l:List ad}(h:Gd l):l≠[]:=by intro e; subst e; exact h
theorem sw {b:Bool}{l:List ad}(h:Gd (nf b l)):nf b l=hd b l::tl b l:=by
 unfold hd tl
 cases hn:nf b l with
 | nil=>rw [hn] at h; exact h.elim
 | cons t r=>rfl
theorem yQ {b:Bool}{l:List ad}(h:Gd (nf b l)):TkB (hd b l):=by
 have:=h; rw [sw h] at this; exact this.1
theorem B7 {b:Bool}{l:List ad}(h:Gd (nf b l))(h6:(hd b l).Ar≠6):Gd (tl b l):=by
 have:=h; rw [sw h] at this;rcases this.2 with h2 | h2
 ·exact absurd h2.1 h6
 ·exact h2.2
theorem OZ {b:Bool}{l:List ad}(h:Gd (nf b l)):(tl b l).length < l.length:=by
 have h1:=congrArg List.length (sw h);have:=A9 b l;rw [aq] at h1; omega
theorem qg {b:Bool}{l:List ad}{s:Bytes}:sgB b l s=true↔(hd b l).Ar=4/\(hd b l).C'=s:=by simp [sgB]
theorem wZ {b:Bool}{l:List ad}{s:Bytes}:wdB b l s=true↔(hd b l).Ar=1/\(hd b l).C'=s:=by simp [wdB]
theorem xg {base:Int}:∀ {L:List ad} {i:Nat},Gd (L.map (mvT base))->i < L.length->Gd ((L.drop i).map (mvT base))
 | [],_,h,_=>h.elim
 | t::r,0,h,_=>h
 | t::r,i+1,h,hi=>by
  rcases h.2 with h2 | h2
  ·have:r=[]:=List.map_eq_nil_iff.1 h2.2;subst this; simp at hi
  ·exact xg (L:=r) (i:=i) h2.2 (by simpa using hi)
theorem qA {L:List ad}{i:Nat}(h:i < L.length):L.drop i=lat L (i:Int)::L.drop (i+1):=by
 rw [kT L i h]; exact List.drop_eq_getElem_cons h
section
variable {L:List ad} {base:Int}
def Pos (L:List ad)(base:Int)(i:Nat)(L':Int)(b:Bool)(l:List ad):Prop :=
 i < L.length/\0<=L'/\L'+((L.length - i:Nat):Int)<=1000000000/\b=decide (0 < L')/\nf b ((L.drop i).map (mvT base))=nf b l
theorem Pos.gd {i:Nat}{L':Int}{b:Bool}{l:List ad}(hL:Gd (L.map (mvT base)))(h:Pos L base i L' b l):Gd (nf b l):=by
 rw [<- h.2.2.2.2]; exact sf (xg hL h.1)
theorem LI (hL:Gd (L.map (mvT base)))(Mp:L.length<=1000000000){L':Int}{d:ap}{a:Int}:∀ (k i:Nat),i+k=L.length->0 < k ->
  Ev2 (λ _ m=>cw (.mk L a L' base d) m (i:Int)) (λ j=>∃ j':Nat,j=(j':Int)/\i<=j'/\j' < L.length/\L.drop j'=nf (decide (0 < L')) (L.drop i)):=by
 intro k
 induction k with
 | zero=>intro i _ h; omega
 | succ k ih =>
  intro i hi _;have hd':=qA (L:=L) (i:=i) O;refine aA ?_;simp only [cw];refine ai (decide (0 < L'/\(lat L (i:Int)).Ar=5)) ?_ ?_
  ·refine ay (λ h=>ah ⟨by omega,by show (i:Int) < (L.length:Int); omega⟩ (ab ?_)) (λ h=>ab ?_)
   ·have h:0 < L':=h;simp only [h,true_and]
   ·have h:¬ 0 < L':=h;simp [h]
  ·by_cases h:0 < L'/\(lat L (i:Int)).Ar=5
   ·refine aj kK (ah aV ?_)
    have hk:0 < k:=by
     have hg:=xg hL (i:=i) O;rw [hd',cl] at hg;rcases hg.2 with h2 | h2
     ·have h2:(lat L (i:Int)).Ar=6:=h2.1;omega
     ·have:=yo h2.2;rcases Nat.eq_zero_or_pos k with hk | hk
      ·subst hk; rw [List.drop_eq_nil_of_le O] at this; exact absurd rfl this
      ·exact hk
    refine bB (uO (P:=λ j=>Ev2 (λ _ m=>cw (.mk L a L' base d) m j) _) (ih (i+1) O hk)) ?_;rintro r ⟨j',h1,h2,h3,h4⟩;refine ⟨j',h1,by omega,h3,?_⟩;rw [h4,hd',lS,if_pos ⟨by simp [h.1],h.2⟩]
   ·refine ae kK (ab ⟨i,Z,mv _,by omega,?_⟩);rw [hd',lS,if_neg kK]
theorem Pos.ext {i j:Nat}{L':Int}{b:Bool}{l:List ad}(h:Pos L base i L' b l)(h1:i<=j)(h2:j < L.length)(h3:L.drop j=nf b (L.drop i)):Pos L base j L' b l:=by
 obtain ⟨q1,q2,q3,q4,q5⟩:=h;refine ⟨h2,q2,by omega,q4,?_⟩;rw [wP,h3,IC,<- wP,q5]
theorem Pos.any {i:Nat}{L':Int}{b:Bool}{l:List ad}(h:Pos L base i L' b l):Pos L base i L' b ((L.drop i).map (mvT base)):=⟨h.1,h.2.1,h.2.2.1,h.2.2.2.1,Z⟩
theorem fH (hL:Gd (L.map (mvT base)))(Mp:L.length<=1000000000){i:Nat}{L':Int}{b:Bool}{l:List ad}{d:ap}(h:Pos L base i L' b l) :
  Ev2 (λ n _=>a6 n (.mk L (i:Int) L' base d)) (λ z=>z.1=hd b l/\∃ j:Nat,z.2=.mk L (j:Int) L' base d/\Pos L base j L' b l/\(L.drop j).map (mvT base)=nf b l/\i<=j):=by
 simp only [a6];have hi:=h.1;refine ao _ (bh (LI hL Mp (d:=d) (a:=(i:Int)) (L.length - i) i O O)) ?_;rintro x ⟨j,rfl,h1,h2,h3⟩;rw [<- h.2.2.2.1] at h3;have hg:Gd (nf b l):=h.gd hL;have hdr:(L.drop j).map (mvT base)=nf b l:=by rw [h3,<- wP,h.2.2.2.2]
 have hhd:mvT base (lat L (j:Int))=hd b l:=by
  have:=hdr;rw [qA h2,cl,sw hg] at this;exact (sm this).1
 have hb:=yQ hg;rw [<- hhd] at hb;obtain ⟨b1,b2,-,-⟩:=hb;have b1:0<=(lat L (j:Int)).fAt+base:=b1;have b2:(lat L (j:Int)).fAt+base+((lat L (j:Int)).C'.length:Int)<=1000000000:=b2;refine ah ⟨by omega,by show (j:Int) < (L.length:Int); omega⟩ (ah (cH (by show _<=(lat L (j:Int)).fAt+base; omega) (by show (lat L (j:Int)).fAt+base<=_; omega)) (ab ⟨hhd,j,rfl,h.ext h1 h2 h3,hdr,h1⟩))
theorem Pos.next {j:Nat}{L':Int}{b:Bool}{l:List ad}(hL:Gd (L.map (mvT base)))(h:Pos L base j L' b l)(hdr:(L.drop j).map (mvT base)=nf b l)(h6:(hd b l).Ar≠6) :
  Pos L base (j+1) L' b (tl b l)/\(L.drop (j+1)).map (mvT base)=tl b l:=by
 have hg:Gd (nf b l):=h.gd hL
 have e:(L.drop (j+1)).map (mvT base)=tl b l:=by
  have:=hdr;rw [qA h.1,cl,sw hg] at this;exact (sm this).2
 have RP:=yo (B7 hg h6)
 have:j+1 < L.length:=by
  exact E5
 obtain ⟨q1,q2,q3,q4,q5⟩:=h;exact ⟨⟨this,q2,by omega,q4,by rw [e]⟩,e⟩
theorem MP (hL:Gd (L.map (mvT base)))(Mp:L.length<=1000000000){i:Nat}{L':Int}{b:Bool}{l:List ad}{d:ap}(h:Pos L base i L' b l) :
  Ev2 (λ n _=>aD n (.mk L (i:Int) L' base d)) (λ z=>z.1=hd b l/\∃ j:Nat,z.2=.mk L (j:Int) L' base d/\if (hd b l).Ar=6 then Pos L base j L' b l else Pos L base j L' b (tl b l)/\(L.drop j).map (mvT base)=tl b l/\i < j):=by
 simp only [aD];refine d6 (fH hL Mp h) λ j ⟨h3,h4,h5⟩=>?_;have hj:=h3.1;by_cases h6:(hd b l).Ar=6
 ·refine ai (j:Int) (aj h6 (ab Z)) (ab ⟨Z,j,Z,?_⟩);rw [if_pos h6]; exact h3
 ·refine ai ((j:Int)+1) (ae h6 (ah (cH (by show _<=(j:Int)+1; omega) (by show (j:Int)+1<=_; omega)) (ab Z))) (ab ⟨Z,j+1,Z,?_⟩);rw [if_neg h6]; exact ⟨(h3.next hL h4 h6).1,(h3.next hL h4 h6).2,by omega⟩
theorem dN (hL:Gd (L.map (mvT base)))(Mp:L.length<=1000000000){i:Nat}{L':Int}{b:Bool}{l:List ad}{d:ap}(h:Pos L base i L' b l)(h6:(hd b l).Ar≠6) :
  Ev2 (λ n _=>aD n (.mk L (i:Int) L' base d)) (λ z=>z.1=hd b l/\∃ j:Nat,z.2=.mk L (j:Int) L' base d/\Pos L base j L' b (tl b l)/\(L.drop j).map (mvT base)=tl b l/\i < j) :=
 bB (MP hL Mp h) λ z ⟨h1,j,h2,h3⟩=>⟨h1,j,h2,by rw [if_neg h6] at h3; exact h3⟩
theorem KJ (p:af)(k a:Int):bc p k a=some (e0,if p.AT.Ar=0 then .mk p.fl p.fat p.H' p.G' (.mk k a []) else .mk p.fl p.fat p.H' p.G' (.mk p.AT.Ar p.AT.fAt p.AT.A')):=by
 simp only [bc,aK,qr];by_cases h:p.AT.Ar=0
 ·simp only [h]; rfl
 ·simp only [h]; rfl
def dOk:ap:=ap.mk 0 0 []
def eD (e:PE):ap:=ap.mk e.1 e.2 []
def Out {α:Type}(L:List ad)(base:Int)(L':Int)(b:Bool)(q:PE⊕(α×List ad))(z:α×af):Prop:=match q with
 | .inl e=>e.1≠0/\∃ (j:Nat) (l':List ad),z.2=.mk L (j:Int) L' base (eD e)/\Pos L base j L' b l'
 | .inr (x,l)=>z.1=x/\∃ j:Nat,z.2=.mk L (j:Int) L' base dOk/\Pos L base j L' b l
def Gx (L:List ad)(base:Int)(L':Int)(b:Bool)(q:PE⊕(Unit×List ad))(z:af):Prop:=match q with
 | .inl e=>e.1≠0/\∃ (j:Nat) (l':List ad),z=.mk L (j:Int) L' base (eD e)/\Pos L base j L' b l'
 | .inr (_,l)=>∃ j:Nat,z=.mk L (j:Int) L' base dOk/\Pos L base j L' b l/\(L.drop j).map (mvT base)=l
theorem sX (hL:Gd (L.map (mvT base)))(Mp:L.length<=1000000000){i:Nat}{L':Int}{b:Bool}{l:List ad}(s:Bytes)(h:Pos L base i L' b l) :
  Ev2 (λ n _=>aR n (.mk L (i:Int) L' base dOk) s) (λ z=>z.1=sgB b l s/\∃ j:Nat,z.2=.mk L (j:Int) L' base dOk/\Pos L base j L' b l):=by
 simp only [aR,aK,qr];refine d6 (fH hL Mp h) λ j ⟨h3,h4,h5⟩=>?_;refine ai (sgB b l s,L,(j:Int),L',base,0,0,[]) ?_ rr;refine aj rfl (ay (λ h=>ab ?_) (λ h=>ab ?_))
 ·have h:(hd b l).Ar=4:=h;simp only [sgB,h,decide_true,Bool.true_and] <;> rfl
 ·have h:¬ (hd b l).Ar=4:=h;simp only [sgB,h,decide_false,Bool.false_and] <;> rfl
theorem qZ (hL:Gd (L.map (mvT base)))(Mp:L.length<=1000000000){i:Nat}{L':Int}{b:Bool}{l:List ad}{e:PE}(s:Bytes)(he:e.1≠0)(h:Pos L base i L' b l) :
  Ev2 (λ n _=>aR n (.mk L (i:Int) L' base (eD e)) s) (λ z=>∃ j:Nat,z=(false,.mk L (j:Int) L' base (eD e))/\Pos L base j L' b l):=by
 simp only [aR,aK,qr];exact G4
theorem qD (hL:Gd (L.map (mvT base)))(Mp:L.length<=1000000000){i:Nat}{L':Int}{b:Bool}{l:List ad}(s:Bytes)(h:Pos L base i L' b l) :
  Ev2 (λ n _=>cr n (.mk L (i:Int) L' base dOk) s) (λ z=>z.1=wdB b l s/\∃ j:Nat,z.2=.mk L (j:Int) L' base dOk/\Pos L base j L' b l):=by
 simp only [cr,aK,qr];refine d6 (fH hL Mp h) λ j ⟨h3,h4,h5⟩=>?_;refine ai (wdB b l s,L,(j:Int),L',base,0,0,[]) ?_ rr;refine aj rfl (ay (λ h=>ab ?_) (λ h=>ab ?_))
 ·have h:(hd b l).Ar=1:=h;simp only [wdB,h,decide_true,Bool.true_and] <;> rfl
 ·have h:¬ (hd b l).Ar=1:=h;simp only [wdB,h,decide_false,Bool.false_and] <;> rfl
theorem wU (hL:Gd (L.map (mvT base)))(Mp:L.length<=1000000000){i:Nat}{L':Int}{b:Bool}{l:List ad}{e:PE}(s:Bytes)(he:e.1≠0)(h:Pos L base i L' b l) :
  Ev2 (λ n _=>cr n (.mk L (i:Int) L' base (eD e)) s) (λ z=>∃ j:Nat,z=(false,.mk L (j:Int) L' base (eD e))/\Pos L base j L' b l):=by
 simp only [cr,aK,qr];exact G4
theorem tQ (i L':Int)(k a:Int):bc (.mk L i L' base dOk) k a=some (e0,.mk L i L' base (eD (k,a))):=rfl
theorem w7 {e:PE}(he:e.1≠0)(i L':Int)(k a:Int):bc (.mk L i L' base (eD e)) k a=some (e0,.mk L i L' base (eD e)):=by
 rw [KJ,if_neg (show ¬ (eD e).Ar=0 from he)]
theorem nb (hL:Gd (L.map (mvT base)))(Mp:L.length<=1000000000){i:Nat}{L':Int}{b:Bool}{l:List ad}(s:Bytes){q:PE⊕(Unit×List ad)}(h:Pos L base i L' b l)(hq:d4 b s l=some q) :
  Ev2 (λ n _=>bX n (.mk L (i:Int) L' base dOk) s) (Gx L base L' b q):=by
 simp only [bX];refine d6 (sX hL Mp s h) λ j h3=>?_;unfold d4 at hq;by_cases hs:sgB b l s=true
 ·rw [if_pos hs] at hq; cases hq;refine ae (by simp [hs]) (ao _ (dN hL Mp h3 (by have:=(qg.1 hs).1; omega)) ?_);exact IR
 ·exact HB
theorem A4 (hL:Gd (L.map (mvT base)))(Mp:L.length<=1000000000){i:Nat}{L':Int}{b:Bool}{l:List ad}{e:PE}(s:Bytes)(he:e.1≠0)(h:Pos L base i L' b l) :
  Ev2 (λ n _=>bX n (.mk L (i:Int) L' base (eD e)) s) (λ z=>∃ (j:Nat) (l':List ad),z=.mk L (j:Int) L' base (eD e)/\Pos L base j L' b l'):=by
 simp only [bX];refine ao _ (qZ hL Mp s he h) ?_;exact JR
theorem zO (hL:Gd (L.map (mvT base)))(Mp:L.length<=1000000000){i:Nat}{L':Int}{b:Bool}{l:List ad}(s:Bytes){q:PE⊕(Unit×List ad)}(h:Pos L base i L' b l)(hq:DK b s l=some q) :
  Ev2 (λ n _=>cV n (.mk L (i:Int) L' base dOk) s) (Gx L base L' b q):=by
 simp only [cV];refine d6 (qD hL Mp s h) λ j h3=>?_;unfold DK at hq;by_cases hs:wdB b l s=true
 ·rw [if_pos hs] at hq; cases hq;refine ae (by simp [hs]) (ao _ (dN hL Mp h3 (by have:=(wZ.1 hs).1; omega)) ?_);exact IR
 ·exact HB
theorem Dv (hL:Gd (L.map (mvT base)))(Mp:L.length<=1000000000){i:Nat}{L':Int}{b:Bool}{l:List ad}{e:PE}(s:Bytes)(he:e.1≠0)(h:Pos L base i L' b l) :
  Ev2 (λ n _=>cV n (.mk L (i:Int) L' base (eD e)) s) (λ z=>∃ (j:Nat) (l':List ad),z=.mk L (j:Int) L' base (eD e)/\Pos L base j L' b l'):=by
 simp only [cV];refine ao _ (wU hL Mp s he h) ?_;exact JR
theorem Pos.out {j:Nat}{L':Int}{l l':List ad}(h:Pos L base j (L'+1) true l)(h0:0<=L')(he:(L.drop j).map (mvT base)=l'):Pos L base j L' (decide (0 < L')) l':=by
 obtain ⟨q1,q2,q3,q4,q5⟩:=h;exact ⟨q1,h0,by omega,rfl,by rw [he]⟩
theorem JI (hL:Gd (L.map (mvT base)))(Mp:L.length<=1000000000){i:Nat}{L':Int}{l:List ad}(s:Bytes){q:PE⊕(Unit×List ad)}(h0:0<=L')(h:Pos L base i (L'+1) true l)(hq:d4 true s l=some q) :
  Ev2 (λ n _=>bj n (.mk L (i:Int) (L'+1) base dOk) s) (Gx L base L' (decide (0 < L')) q):=by
 simp only [bj];refine ao _ (nb hL Mp s h hq) ?_;intro z hz;have hb:=h.2.2.1;rcases q with e | ⟨u,l'⟩
 ·obtain ⟨he,j,l',rfl,hp⟩:=hz;refine ah Bs (ab ⟨he,j,(L.drop j).map (mvT base),?_,hp.out h0 rfl⟩);exact H9
 ·obtain ⟨j,rfl,hp,hx⟩:=hz;refine ah Bs (ab ⟨j,?_,hp.out h0 hx,hx⟩);show af.mk L j (L'+1 - 1) base dOk=_;rw [Int.add_sub_cancel]
theorem KC (hL:Gd (L.map (mvT base)))(Mp:L.length<=1000000000){i:Nat}{L':Int}{l:List ad}{e:PE}(s:Bytes)(he:e.1≠0)(h0:0<=L')(h:Pos L base i (L'+1) true l) :
  Ev2 (λ n _=>bj n (.mk L (i:Int) (L'+1) base (eD e)) s) (λ z=>∃ (j:Nat) (l':List ad),z=.mk L (j:Int) L' base (eD e)/\Pos L base j L' (decide (0 < L')) l'):=by
 simp only [bj];refine ao _ (A4 hL Mp s he h) ?_;rintro _ ⟨j,l',rfl,hp⟩;have hb:=h.2.2.1;refine ah Bs (ab ⟨j,(L.drop j).map (mvT base),?_,hp.out h0 rfl⟩);exact H9
theorem oJ (hL:Gd (L.map (mvT base)))(Mp:L.length<=1000000000){i:Nat}{L':Int}{b:Bool}{l:List ad}(h:Pos L base i L' b l)(h6:(hd b l).Ar≠6) :
  Ev2 (λ n _=>cq n (.mk L (i:Int) L' base dOk)) (λ z=>∃ j:Nat,z=.mk L (j:Int) (L'+1) base dOk/\Pos L base j (L'+1) true (tl b l)):=by
 simp only [cq];refine ao _ (dN hL Mp h h6) ?_;rintro ⟨z1,z2⟩ ⟨h1,j,h2,h3,h4,h5⟩
 cases h2
 have hb:=h.2.2.1;have hn:=h.2.1;have hj:=h3.1;refine ah (cH (by show _<=L'+1; omega) (by show L'+1<=_; omega)) (ab ⟨j,Z,h3.1,by omega,by omega,?_,by rw [h4]⟩)
 symm; rw [decide_eq_true_eq]; omega
theorem oc (hL:Gd (L.map (mvT base)))(Mp:L.length<=1000000000){i:Nat}{L':Int}{b:Bool}{l:List ad}{q:PE⊕(Bytes×List ad)}(h:Pos L base i L' b l)(hq:BF b l=some q) :
  Ev2 (λ n _=>bZ n (.mk L (i:Int) L' base dOk)) (Out L base L' b q):=by
 simp only [bZ,aK,qr];refine d6 (fH hL Mp h) λ j ⟨h3,h4,h5⟩=>?_;unfold BF at hq;by_cases hs:(hd b l).Ar=1/\fT (hd b l).C'=false
 ·rw [if_pos hs] at hq; cases hq;refine ai (false,L,(j:Int),L',base,0,0,[]) (ae Bool.false_ne_true (aj hs.1 (ai _ um (ab ?_)))) ?_
  ·rw [hs.2]; rfl
  ·refine ae Bool.false_ne_true (ao _ (dN hL Mp h3 O) ?_);rintro ⟨y1,y2⟩ ⟨g1,k,g2,g3,g4,g5⟩
   cases g2
   exact ab ⟨Z,k,Z,g3⟩
 ·rw [if_neg hs] at hq; cases hq;refine ai (true,L,(j:Int),L',base,0,0,[]) (ae Bool.false_ne_true (ay (λ h1=>ai _ um (ab ?_)) (λ h1=>ab rfl))) ?_
  ·have h1:(hd b l).Ar=1:=h1
   have:fT (hd b l).C'=true:=by
    cases hr:fT (hd b l).C' with
    | true=>rfl
    | false=>exact absurd ⟨h1,hr⟩ hs
   rw [this]; rfl
  ·exact aj Z tv
theorem tW (hL:Gd (L.map (mvT base)))(Mp:L.length<=1000000000){i:Nat}{L':Int}{b:Bool}{l:List ad}{e:PE}(he:e.1≠0)(h:Pos L base i L' b l) :
  Ev2 (λ n _=>bZ n (.mk L (i:Int) L' base (eD e))) (λ z=>∃ (j:Nat) (l':List ad),z.2=.mk L (j:Int) L' base (eD e)/\Pos L base j L' b l'):=by
 simp only [bZ,aK,qr];refine d6 (fH hL Mp h) λ j ⟨h3,h4,h5⟩=>?_;have hk:(!decide ((eD e).Ar=0))=true:=by show (!decide (e.1=0))=true; simp [he]
 refine ai (true,L,(j:Int),L',base,e.1,e.2,[]) (aj hk (ab Z)) ?_;exact aj Z (ai _ (aw (w7 he _ _ _ _) Z) (ab ⟨j,l,Z,h3⟩))
end
end Go.Ab.R06
end
section
namespace Go.Ab.R06
open Go.Proofs Go.Ab Go.Ab.RB
set_option maxRecDepth 4000
attribute [local irreducible] awp gk aX bv bV AV.sub M cC
instance Qp:HE Tryz.prog 190:=⟨Tryz.call190⟩
instance Qt:HE Tryz.prog 82:=⟨Tryz.call82⟩
instance P5:HE Tryz.prog 180:=⟨Tryz.call180⟩
instance Qh:HE Tryz.prog 162:=⟨Tryz.call162⟩
instance Qd:HE Tryz.prog 179:=⟨Tryz.call179⟩
instance P7:HE Tryz.prog 161:=⟨Tryz.call161⟩
def lP (Sx:Int):Option Bool :=
 (
   if (-9007199254740992)<=Sx then
    some (decide (Sx<=9007199254740992))
   else
    some false
  ).bind λ t2 =>
 some t2
instance Io (Sx:Int):∀ (r:Bool),HP (lP Sx=some r) Tryz.prog 190 [eI Sx] (.p (eB r)):=by
 refine hP good Tryz.func190 Z Z λ r h0 _ w0=>?_;unfold lP at h0;exact kL
def sH (Mr:Bytes):Nat->Int->Option (Unit⊕Bool)
 | 0,_=>none
 | m+1,i9 =>
 if i9 < (Mr.length:Int) then
  (
    ck ((0:Int)<=i9/\i9 < (Mr.length:Int)) <|
    if byt Mr i9 < 48 then
     some true
    else
     ck ((0:Int)<=i9/\i9 < (Mr.length:Int)) <|
     some (decide (57 < byt Mr i9))
   ).bind λ W8 =>
  if W8=true then
   some (.inr false)
  else
   ck (inR (i9+1)) <|
   sH Mr m (i9+1)
 else
  some (.inl ())
def db:Nat->Int->Option Bytes
 | 0,_=>none
 | n+1,Sx =>
 (
   if 0<=Sx then
    some (decide (Sx<=9))
   else
    some false
  ).bind λ t2 =>
 if t2=true then
  ck (inR (48+Sx)) <|
  ck ((0:Int)<=IntKind.wrap .u8 (48+Sx)/\IntKind.wrap .u8 (48+Sx) < 256) <|
  some [u8 (IntKind.wrap .u8 (48+Sx))]
 else
  (
    if Sx < 0 then
     some (decide ((-10) < Sx))
    else
     some false
   ).bind λ t7 =>
  if t7=true then
   ck (inR (0 - Sx)) <|
   ((db n) (0 - Sx)).bind λ R5 =>
   ck (([45]:Bytes).length+R5.length<=9223372036854775807) <|
   some (([45]:Bytes)++R5)
  else
   if Sx < 0 then
    ck ((10:Int)≠0) <|
    ((db n) (IntKind.wrap .i64 (Sx.tdiv 10))).bind λ RJ =>
    ck ((10:Int)≠0) <|
    ck (inR (0 - (Sx.tmod 10))) <|
    ((db n) (0 - (Sx.tmod 10))).bind λ Uj =>
    ck (RJ.length+Uj.length<=9223372036854775807) <|
    some (RJ++Uj)
   else
    ck ((10:Int)≠0) <|
    ((db n) (IntKind.wrap .i64 (Sx.tdiv 10))).bind λ Sj =>
    ck ((10:Int)≠0) <|
    ((db n) (Sx.tmod 10)).bind λ SL =>
    ck (Sj.length+SL.length<=9223372036854775807) <|
    some (Sj++SL)
instance EQ (n:Nat):∀ (Sx:Int) (r:Bytes),HP (db n Sx=some r) Tryz.prog 82 [eI Sx] (.p (eS r)):=by
 induction n with
 | zero=>exact Zr
 | succ n ih =>
 refine λ Sx=>hP good Tryz.func82 Z Z λ r h0 _ w0=>?_;rw [db] at h0;refine nx 6 Z (bd h0 λ V4 h1 h0=>kN V4 (λ Vs=>⟨[(0,.p (eI Sx)),(8,.p (eB Vs))],[]⟩) ?_ ?_)
 ·refine nx 1 Z (fB [8] h0 Z (λ c3 h0=>?_) λ c3 h0=>?_)
  ·exact nx 4 Z (oA h0 Z Z λ V8 h0=>nx 1 Z (cc' h0 λ Up h0=>mO Z (bp eU [u8 (IntKind.wrap .u8 (48+Sx))] Z Z Z Z Z Z Z Z Z Z Z Z Z (congr (congrArg List.cons (ny Up)) Z) (mO Z (vJ [u8 (IntKind.wrap .u8 (48+Sx))] Z Z Z Z Z Z Z Z Z Z Z J0)))))
  refine nx 4 Z (bd h0 λ Xn h1 h0=>kN Xn (λ W1=>⟨[(0,.p (eI Sx)),(19,.p (eB W1))],[]⟩) ?_ ?_)
  ·refine nx 1 Z (fB [19] h0 Z (λ c8 h0=>?_) λ c8 h0=>?_)
   ·exact nx 4 Z (cc' h0 λ UZ h0=>mO Z (Gu Z Z Z Z UZ J0))
   refine nx 8 Z (fD [25] h0 Z (λ VP h0=>?_) λ VP h0=>?_)
   ·exact nx 4 Z (cc' h0 λ Tw h0=>mO Z (oY Z Z Z Z Z Z Tw (bd h0 λ RJ Uw h0=>oK (HP.c Uw) Z ⟨sr,trivial⟩ Tryz.call82 Z (nx 1 Z (cc' h0 λ VN h0=>mO Z (oY Z Z Z Z Z Z VN (cc' h0 λ S9 h0=>mO Z (Gu Z Z Z Z S9 J0))))))))
   exact nx 5 Z (cc' h0 λ TJ h0=>mO Z (oY Z Z Z Z Z Z TJ (bd h0 λ Sj e24 h0=>oK (HP.c e24) Z ⟨sr,trivial⟩ Tryz.call82 Z (nx 1 Z (cc' h0 λ Tu h0=>mO Z (oY Z Z Z Z Z Z Tu J0))))))
  exact aG
 exact aG
def fG:Nat->Int->Option Bytes
 | 0,_=>none
 | n+1,Sp =>
 ck ((16:Int)≠0) <|
 ck ((16:Int)≠0) <|
 ck (inR ((Sp.tmod 16)+1)) <|
 ck ((0:Int)<=Sp.tmod 16/\Sp.tmod 16<=(Sp.tmod 16)+1/\(Sp.tmod 16)+1<=(([48,49,50,51,52,53,54,55,56,57,97,98,99,100,101,102]:Bytes).length:Int)) <|
 if Sp < 16 then
  some (sub ([48,49,50,51,52,53,54,55,56,57,97,98,99,100,101,102]:Bytes) (Sp.tmod 16) ((Sp.tmod 16)+1))
 else
  ck ((16:Int)≠0) <|
  ((fG n) (IntKind.wrap .i64 (Sp.tdiv 16))).bind λ r7 =>
  ck (r7.length+(sub ([48,49,50,51,52,53,54,55,56,57,97,98,99,100,101,102]:Bytes) (Sp.tmod 16) ((Sp.tmod 16)+1)).length<=9223372036854775807) <|
  some (r7++(sub ([48,49,50,51,52,53,54,55,56,57,97,98,99,100,101,102]:Bytes) (Sp.tmod 16) ((Sp.tmod 16)+1)))
instance EW (n:Nat):∀ (Sp:Int) (r:Bytes),HP (fG n Sp=some r) Tryz.prog 180 [eI Sp] (.p (eS r)):=by
 induction n with
 | zero=>exact Zr
 | succ n ih =>
 refine λ Sp=>hP good Tryz.func180 Z Z λ r h0 _ w0=>?_;rw [fG] at h0;refine nx 7 Z (cc' h0 λ UF h0=>mO Z (oY Z Z Z Z Z Z UF (nx 1 Z (cc' h0 λ To h0=>mO Z (oY Z Z Z Z Z Z To (oA h0 Z Z λ U9 h0=>oP h0 Z Z Z λ V8 h0=>nx 8 Z (fD [11] h0 Z (λ c5 h0=>?_) λ c5 h0=>?_)))))))
 ·exact J0
 exact nx 5 Z (cc' h0 λ WW h0=>mO Z (oY Z Z Z Z Z Z WW J0))
def iw (n:Nat)(b_0:Int):Option Bytes :=
 if b_0=10 then
  some ([92,110]:Bytes)
 else
  if b_0=13 then
   some ([92,114]:Bytes)
  else
   if b_0=9 then
    some ([92,116]:Bytes)
   else
    if b_0=34 then
     some ([92,34]:Bytes)
    else
     if b_0=92 then
      some ([92,92]:Bytes)
     else
      (
        if b_0 < 32 then
         some true
        else
         some (decide (b_0=127))
       ).bind λ t7 =>
      if t7=true then
       ck (inR (b_0)) <|
       (fG n b_0).bind λ R5 =>
       ck (([92,117,123]:Bytes).length+R5.length<=9223372036854775807) <|
       ck ((([92,117,123]:Bytes)++R5).length+([125]:Bytes).length<=9223372036854775807) <|
       some ((([92,117,123]:Bytes)++R5)++([125]:Bytes))
      else
       ck ((0:Int)<=b_0/\b_0 < 256) <|
       some [u8 b_0]
instance Ef (n:Nat) (b_0:Int):∀ (r:Bytes),HP (iw n b_0=some r) Tryz.prog 162 [eK .u8 b_0] (.p (eS r)):=by
 refine hP good Tryz.func162 Z Z λ r h0 _ w0=>?_;unfold iw at h0;refine nx 15 Z (fD [4,5] h0 Z (λ c1 h0=>?_) λ c1 h0=>?_)
 ·exact J0
 refine nx 6 Z (fD [6,7] h0 Z (λ c2 h0=>?_) λ c2 h0=>?_)
 ·exact J0
 refine nx 6 Z (fD [8,9] h0 Z (λ c3 h0=>?_) λ c3 h0=>?_)
 ·exact J0
 refine nx 6 Z (fD [10,11] h0 Z (λ c4 h0=>?_) λ c4 h0=>?_)
 ·exact J0
 refine nx 6 Z (fD [12,13] h0 Z (λ c5 h0=>?_) λ c5 h0=>?_)
 ·exact J0
 refine nx 4 Z (bd h0 λ o16 h1 h0=>kN o16 (λ W4=>⟨[(0,.p (eK .u8 b_0)),(19,.p (eB W4))],[]⟩) ?_ ?_)
 ·refine nx 1 Z (fB [19] h0 Z (λ c8 h0=>?_) λ c8 h0=>?_)
  ·exact nx 4 Z (cc' h0 λ UZ h0=>mO Z (fo Z Z Z Z Z Z Z Z (jj UZ) J0))
  exact nx 5 Z (cc' h0 λ Tw h0=>mO Z (bp eU [u8 b_0] Z Z Z Z Z Z Z Z Z Z Z Z Z (congr (congrArg List.cons (ny Tw)) Z) (mO Z (vJ [u8 b_0] Z Z Z Z Z Z Z Z Z Z Z J0))))
 exact aG
def ec (n:Nat)(Mr:Bytes):Nat->Bytes->Int->Option Bytes
 | 0,_,_=>none
 | m+1,UU,i10 =>
 if i10 < (Mr.length:Int) then
  ck ((0:Int)<=i10/\i10 < (Mr.length:Int)) <|
  (iw n (byt Mr i10)).bind λ S5 =>
  ck (UU.length+S5.length<=9223372036854775807) <|
  ck (inR (i10+1)) <|
  ec n Mr m (UU++S5) (i10+1)
 else
  some UU
def kt (n:Nat)(Mr:Bytes):Option Bytes :=
 (ec n Mr n ([34]:Bytes) 0).bind λ V2 =>
 ck (V2.length+([34]:Bytes).length<=9223372036854775807) <|
 some (V2++([34]:Bytes))
instance HL (n:Nat) (Mr:Bytes):∀ (r:Bytes),HP (kt n Mr=some r) Tryz.prog 129 [eS Mr] (.p (eS r)):=by
 refine hP good Tryz.func129 Z Z λ r h0 _ w0=>?_;unfold kt at h0;refine nx 14 Z (bd h0 λ WU h1 h0=>kE 0 WU (λ W3=>⟨[(3,.p (eS W3))],[]⟩) ?_ ?_)
 ·exact J0
 refine lG (λ (Xh:Bytes×Int)=>⟨[(0,.p (eS Mr)),(3,.p (eS Xh.1)),(4,.p (eI Xh.2))],[]⟩) (λ m (Xh:Bytes×Int)=>ec n Mr m Xh.1 Xh.2) Y (([34]:Bytes),0) h1 (gE rfl rfl) ?_;rintro m ⟨UU,i10⟩ h1;replace h1:ec n Mr (m+1) UU i10=some WU:=h1;rw [ec] at h1;exact aG
def dB (Mr:Bytes)(RG:Int)(lo_2:Int)(hi_3:Int):Option Bool :=
 (
   if RG < (Mr.length:Int) then
    ck ((0:Int)<=RG/\RG < (Mr.length:Int)) <|
    if lo_2<=byt Mr RG then
     ck ((0:Int)<=RG/\RG < (Mr.length:Int)) <|
     some (decide (byt Mr RG<=hi_3))
    else
     some false
   else
    some false
  ).bind λ t5 =>
 some t5
instance Kk (Mr:Bytes) (RG:Int) (lo_2:Int) (hi_3:Int):∀ (r:Bool),HP (dB Mr RG lo_2 hi_3=some r) Tryz.prog 179 [eS Mr,eI RG,eK .u8 lo_2,eK .u8 hi_3] (.p (eB r)):=by
 refine hP good Tryz.func179 Z Z λ r h0 _ w0=>?_;unfold dB at h0;have:=js [100];have:=jS 100 Bool λ v=>[(8,.p (eB v))]
 exact J0
def jc (Mr:Bytes)(RG:Int):Option (Int×Int) :=
 (
   if RG < 0 then
    some true
   else
    some (decide ((Mr.length:Int)<=RG))
  ).bind λ t2 =>
 if t2=true then
  some (0,0)
 else
  ck ((0:Int)<=RG/\RG < (Mr.length:Int)) <|
  if byt Mr RG < 128 then
   ck (inR (byt Mr RG)) <|
   some (byt Mr RG,1)
  else
   (
     if 194<=byt Mr RG then
      if byt Mr RG<=223 then
       ck (inR (RG+1)) <|
       (dB Mr (RG+1) 128 191).bind λ R5 =>
       some R5
      else
       some false
     else
      some false
    ).bind λ t12 =>
   if t12=true then
    ck (inR (cg .u8 (byt Mr RG) 31)) <|
    ck ((0:Int)<=6) <|
    ck (inR (RG+1)) <|
    ck ((0:Int)<=RG+1/\RG+1 < (Mr.length:Int)) <|
    ck (inR (cg .u8 (byt Mr (RG+1)) 63)) <|
    some (iOr .i64 (jW .i64 (cg .u8 (byt Mr RG) 31) 6) (cg .u8 (byt Mr (RG+1)) 63),2)
   else
    (
      if byt Mr RG=224 then
       some 160
      else
       some 128
     ).bind λ lo20 =>
    (
      if byt Mr RG=237 then
       some 159
      else
       some 191
     ).bind λ hi22 =>
    (
      if 224<=byt Mr RG then
       if byt Mr RG<=239 then
        ck (inR (RG+1)) <|
        (dB Mr (RG+1) lo20 hi22).bind λ SL =>
        if SL=true then
         ck (inR (RG+2)) <|
         (dB Mr (RG+2) 128 191).bind λ WQ =>
         some WQ
        else
         some false
       else
        some false
      else
       some false
     ).bind λ t32 =>
    if t32=true then
     ck (inR (cg .u8 (byt Mr RG) 15)) <|
     ck ((0:Int)<=12) <|
     ck (inR (RG+1)) <|
     ck ((0:Int)<=RG+1/\RG+1 < (Mr.length:Int)) <|
     ck (inR (cg .u8 (byt Mr (RG+1)) 63)) <|
     ck ((0:Int)<=6) <|
     ck (inR (RG+2)) <|
     ck ((0:Int)<=RG+2/\RG+2 < (Mr.length:Int)) <|
     ck (inR (cg .u8 (byt Mr (RG+2)) 63)) <|
     some (iOr .i64 (iOr .i64 (jW .i64 (cg .u8 (byt Mr RG) 15) 12) (jW .i64 (cg .u8 (byt Mr (RG+1)) 63) 6)) (cg .u8 (byt Mr (RG+2)) 63),3)
    else
     (
       if byt Mr RG=240 then
        some 144
       else
        some 128
      ).bind λ lo44 =>
     (
       if byt Mr RG=244 then
        some 143
       else
        some 191
      ).bind λ hi46 =>
     (
       if 240<=byt Mr RG then
        if byt Mr RG<=244 then
         ck (inR (RG+1)) <|
         (dB Mr (RG+1) lo44 hi46).bind λ Vw =>
         if Vw=true then
          ck (inR (RG+2)) <|
          (dB Mr (RG+2) 128 191).bind λ T7 =>
          if T7=true then
           ck (inR (RG+3)) <|
           (dB Mr (RG+3) 128 191).bind λ S8 =>
           some S8
          else
           some false
         else
          some false
        else
         some false
       else
        some false
      ).bind λ t60 =>
     if t60=true then
      ck (inR (cg .u8 (byt Mr RG) 7)) <|
      ck ((0:Int)<=18) <|
      ck (inR (RG+1)) <|
      ck ((0:Int)<=RG+1/\RG+1 < (Mr.length:Int)) <|
      ck (inR (cg .u8 (byt Mr (RG+1)) 63)) <|
      ck ((0:Int)<=12) <|
      ck (inR (RG+2)) <|
      ck ((0:Int)<=RG+2/\RG+2 < (Mr.length:Int)) <|
      ck (inR (cg .u8 (byt Mr (RG+2)) 63)) <|
      ck ((0:Int)<=6) <|
      ck (inR (RG+3)) <|
      ck ((0:Int)<=RG+3/\RG+3 < (Mr.length:Int)) <|
      ck (inR (cg .u8 (byt Mr (RG+3)) 63)) <|
      some (iOr .i64 (iOr .i64 (iOr .i64 (jW .i64 (cg .u8 (byt Mr RG) 7) 18) (jW .i64 (cg .u8 (byt Mr (RG+1)) 63) 12)) (jW .i64 (cg .u8 (byt Mr (RG+2)) 63) 6)) (cg .u8 (byt Mr (RG+3)) 63),4)
     else
      some (0,0)
instance EU (Mr:Bytes) (RG:Int):∀ (r:Int×Int),HP (jc Mr RG=some r) Tryz.prog 161 [eS Mr,eI RG] (.tuple [.p (eI r.1),.p (eI r.2)]):=by
 refine hP good Tryz.func161 Z Z λ r h0 _ w0=>?_;unfold jc at h0;refine nx 7 Z (bd h0 λ o83 h1 h0=>kN o83 (λ v84=>⟨[(0,.p (eS Mr)),(1,.p (eI RG)),(16,.p (eB v84))],[]⟩) ?_ ?_)
 ·refine nx 1 Z (fB [16] h0 Z (λ c3 h0=>?_) λ c3 h0=>?_)
  ·exact J0
  refine nx 6 Z (oI h0 Z λ V8 h0=>nx 8 Z (fD [21] h0 Z (λ c5 h0=>?_) λ c5 h0=>?_))
  ·exact nx 4 Z (cc' h0 λ WW h0=>mO Z (fo Z Z Z Z Z Z Z Z (jj WW) J0))
  refine nx 4 Z (bd h0 λ o85 h1 h0=>kN o85 (λ Uz=>⟨[(0,.p (eS Mr)),(1,.p (eI RG)),(6,.p (eK .u8 (byt Mr RG))),(35,.p (eB Uz))],[]⟩) ?_ ?_)
  ·refine nx 1 Z (fB [35] h0 Z (λ VP h0=>?_) λ VP h0=>?_)
   ·exact nx 5 Z (cc' h0 λ Tw h0=>mO Z (fo Z Z Z Z Z Z Z Z (jj Tw) (cc' h0 λ S' h0=>mO Z (nw Z Z Z Z Z Z S' (nx 2 Z (oA h0 Z Z λ TZ h0=>oI h0 Z λ VN h0=>nx 1 Z (cc' h0 λ S9 h0=>mO Z (fo Z Z Z Z Z Z Z Z (jj S9) J0))))))))
   refine nx 8 Z (bd h0 λ o87 h1 h0=>kN o87 (λ v88=>⟨[(0,.p (eS Mr)),(1,.p (eI RG)),(6,.p (eK .u8 (byt Mr RG))),(7,.p (eK .u8 v88)),(8,.p (eK .u8 191))],[]⟩) ?_ ?_)
   ·refine nx 2 Z (bd h0 λ o89 h1 h0=>kN o89 (λ v90=>⟨[(0,.p (eS Mr)),(1,.p (eI RG)),(6,.p (eK .u8 (byt Mr RG))),(7,.p (eK .u8 o87)),(8,.p (eK .u8 v90))],[]⟩) ?_ ?_)
    ·refine nx 3 Z (bd h0 λ o91 h1 h0=>kN o91 (λ v92=>⟨[(0,.p (eS Mr)),(1,.p (eI RG)),(6,.p (eK .u8 (byt Mr RG))),(70,.p (eB v92))],[]⟩) ?_ ?_)
     ·refine nx 1 Z (fB [70] h0 Z (λ c33 h0=>?_) λ c33 h0=>?_)
      ·refine nx 2 Z (cc' h0 λ Wx h0=>cc' h0 λ Ut h0=>cc' h0 λ Us h0=>cc' h0 λ Ur h0=>cc' h0 λ VK h0=>cc' h0 λ VJ h0=>cc' h0 λ VI h0=>cc' h0 λ Tt h0=>cc' h0 λ Uq h0=>mD [(0,.p (eS Mr)),(1,.p (eI RG)),(6,.p (eK .u8 (byt Mr RG)))] Z ⟨Z,Z,Z,trivial⟩ Z (dR 2 Z (dq (.p (eI (cg .u8 (byt Mr RG) 15))) [72] Z (λ _ e _ q=>ak Z (fo Z Z Z Z Z Z Z (e _ _ Z) (jj Wx) q)) Z (dq (.p (eI (jW .i64 (cg .u8 (byt Mr RG) 15) 12))) [73] Z (λ _ e _ q=>ak Z (nw Z Z Z (e _ _ Z) Z Z Ut q)) Z (dR 2 Z (dq (.p (eI (RG+1))) [76] Z (λ _ e _ q=>ak Z (fS Z Z Z (e _ _ Z) Z Z Us q)) Z (dq (.p (eK .u8 (byt Mr (RG+1)))) [75,77] Z (λ _ e _ q=>ak Z (fC Z Z Z Z Z (e _ _ Z) (e _ _ Z) Ur q)) Z (dR 1 Z (dq (.p (eI (cg .u8 (byt Mr (RG+1)) 63))) [79] Z (λ _ e _ q=>ak Z (fo Z Z Z Z Z Z Z (e _ _ Z) (jj VK) q)) Z (dq (.p (eI (jW .i64 (cg .u8 (byt Mr (RG+1)) 63) 6))) [80] Z (λ _ e _ q=>ak Z (nw Z Z Z (e _ _ Z) Z Z VJ q)) Z (dR 3 Z (dq (.p (eI (RG+2))) [84] Z (λ _ e _ q=>ak Z (fS Z Z Z (e _ _ Z) Z Z VI q)) Z ?_))))))))))));exact dq (.p (eK .u8 (byt Mr (RG+2)))) [83,85] Z (λ _ e _ q=>ak Z (fC Z Z Z Z Z (e _ _ Z) (e _ _ Z) Tt q)) Z (dR 1 Z (dq (.p (eI (cg .u8 (byt Mr (RG+2)) 63))) [87] Z (λ _ e _ q=>ak Z (fo Z Z Z Z Z Z Z (e _ _ Z) (jj Uq) q)) Z (dR 3 Z J0)))
      refine nx 8 Z (bd h0 λ o93 h1 h0=>kN o93 (λ v94=>⟨[(0,.p (eS Mr)),(1,.p (eI RG)),(6,.p (eK .u8 (byt Mr RG))),(7,.p (eK .u8 v94)),(8,.p (eK .u8 191))],[]⟩) ?_ ?_)
      ·refine nx 2 Z (bd h0 λ o95 h1 h0=>kN o95 (λ v96=>⟨[(0,.p (eS Mr)),(1,.p (eI RG)),(6,.p (eK .u8 (byt Mr RG))),(7,.p (eK .u8 o93)),(8,.p (eK .u8 v96))],[]⟩) ?_ ?_)
       ·refine nx 3 Z (bd h0 λ o97 h1 h0=>kN o97 (λ v98=>⟨[(0,.p (eS Mr)),(1,.p (eI RG)),(6,.p (eK .u8 (byt Mr RG))),(119,.p (eB v98))],[]⟩) ?_ ?_)
        ·refine nx 1 Z (fB [119] h0 Z (λ c61 h0=>?_) λ c61 h0=>?_)
         ·refine nx 2 Z (cc' h0 λ Xu h0=>cc' h0 λ hk63 h0=>cc' h0 λ Wr h0=>cc' h0 λ U0 h0=>cc' h0 λ Wq h0=>cc' h0 λ Wp h0=>cc' h0 λ Wo h0=>cc' h0 λ hk69 h0=>cc' h0 λ hk70 h0=>cc' h0 λ Wn h0=>cc' h0 λ hk72 h0=>cc' h0 λ Wm h0=>cc' h0 λ hk74 h0=>mD [(0,.p (eS Mr)),(1,.p (eI RG)),(6,.p (eK .u8 (byt Mr RG)))] Z ⟨Z,Z,Z,trivial⟩ Z (dR 2 Z (dq (.p (eI (cg .u8 (byt Mr RG) 7))) [121] Z (λ _ e _ q=>ak Z (fo Z Z Z Z Z Z Z (e _ _ Z) (jj Xu) q)) Z (dq (.p (eI (jW .i64 (cg .u8 (byt Mr RG) 7) 18))) [122] Z (λ _ e _ q=>ak Z (nw Z Z Z (e _ _ Z) Z Z hk63 q)) Z (dR 2 Z (dq (.p (eI (RG+1))) [125] Z (λ _ e _ q=>ak Z (fS Z Z Z (e _ _ Z) Z Z Wr q)) Z (dq (.p (eK .u8 (byt Mr (RG+1)))) [124,126] Z (λ _ e _ q=>ak Z (fC Z Z Z Z Z (e _ _ Z) (e _ _ Z) U0 q)) Z (dR 1 Z (dq (.p (eI (cg .u8 (byt Mr (RG+1)) 63))) [128] Z (λ _ e _ q=>ak Z (fo Z Z Z Z Z Z Z (e _ _ Z) (jj Wq) q)) Z (dq (.p (eI (jW .i64 (cg .u8 (byt Mr (RG+1)) 63) 12))) [129] Z (λ _ e _ q=>ak Z (nw Z Z Z (e _ _ Z) Z Z Wp q)) Z ?_))))))))));exact dR 3 Z (dq (.p (eI (RG+2))) [133] Z (λ _ e _ q=>ak Z (fS Z Z Z (e _ _ Z) Z Z Wo q)) Z (dq (.p (eK .u8 (byt Mr (RG+2)))) [132,134] Z (λ _ e _ q=>ak Z (fC Z Z Z Z Z (e _ _ Z) (e _ _ Z) hk69 q)) Z (dR 1 Z (dq (.p (eI (cg .u8 (byt Mr (RG+2)) 63))) [136] Z (λ _ e _ q=>ak Z (fo Z Z Z Z Z Z Z (e _ _ Z) (jj hk70) q)) Z (dq (.p (eI (jW .i64 (cg .u8 (byt Mr (RG+2)) 63) 6))) [137] Z (λ _ e _ q=>ak Z (nw Z Z Z (e _ _ Z) Z Z Wn q)) Z (dR 3 Z (dq (.p (eI (RG+3))) [141] Z (λ _ e _ q=>ak Z (fS Z Z Z (e _ _ Z) Z Z hk72 q)) Z (dq (.p (eK .u8 (byt Mr (RG+3)))) [140,142] Z (λ _ e _ q=>ak Z (fC Z Z Z Z Z (e _ _ Z) (e _ _ Z) Wm q)) Z (dR 1 Z (dq (.p (eI (cg .u8 (byt Mr (RG+3)) 63))) [144] Z (λ _ e _ q=>ak Z (fo Z Z Z Z Z Z Z (e _ _ Z) (jj hk74) q)) Z (dR 3 Z J0)))))))))))
         exact J0
        exact aG
       exact aG
      exact aG
     exact aG
    exact aG
   exact aG
  exact aG
 exact aG
def fk (Mr:Bytes):Nat->Int->Option (Unit⊕Bool)
 | 0,_=>none
 | m+1,i8 =>
 if i8 < (Mr.length:Int) then
  (jc Mr i8).bind λ R5 =>
  if R5.2=0 then
   some (.inr false)
  else
   ck (inR (i8+R5.2)) <|
   fk Mr m (i8+R5.2)
 else
  some (.inl ())
def kc (n:Nat)(Mr:Bytes):Option Bool :=
 if 4096 < (Mr.length:Int) then
  some false
 else
  jn (fk Mr n 0) λ _TT =>
  some true
instance Kh (n:Nat) (Mr:Bytes):∀ (r:Bool),HP (kc n Mr=some r) Tryz.prog 205 [eS Mr] (.p (eB r)):=by
 refine hP good Tryz.func205 Z Z λ r h0 _ w0=>?_;unfold kc at h0;refine nx 8 Z (oLs Z (nx 2 Z (fD [8] h0 Z (λ c1 h0=>?_) λ c1 h0=>?_)))
 ·exact J0
 refine nx 8 rfl ?_;obtain ⟨o16,h1,Sl,hR0⟩:=cm h0;refine kEx 0 (λ W4:Unit=>o16=.inl W4) (λ W4=>⟨[],[]⟩) (λ W4 hv=>?_) ?_
 ·exact jQ
 refine lG (λ (q18:Int)=>⟨[(0,.p (eS Mr)),(3,.p (eI q18))],[]⟩) (λ m (q18:Int)=>fk Mr m q18) Y 0 h1 (gE rfl rfl) ?_;rintro m i8 h1;replace h1:fk Mr (m+1) i8=some o16:=h1;rw [fk] at h1;exact aG
def cJ (Mr:Bytes):Nat->Bytes->Int->Option Bytes
 | 0,_,_=>none
 | m+1,TB,i19 =>
 if i19 < (Mr.length:Int) then
  (
    (
      ck ((0:Int)<=i19/\i19 < (Mr.length:Int)) <|
      if byt Mr i19=36 then
       ck (inR (i19+1)) <|
       if i19+1 < (Mr.length:Int) then
        ck (inR (i19+1)) <|
        ck ((0:Int)<=i19+1/\i19+1 < (Mr.length:Int)) <|
        some (decide (byt Mr (i19+1)=123))
       else
        some false
      else
       some false
     ).bind λ t27 =>
    if t27=true then
     ck (TB.length+([36]:Bytes).length<=9223372036854775807) <|
     some (TB++([36]:Bytes))
    else
     some TB
   ).bind λ TX =>
  ck (inR (i19+1)) <|
  ck ((0:Int)<=i19/\i19<=i19+1/\i19+1<=(Mr.length:Int)) <|
  ck (TX.length+(sub Mr i19 (i19+1)).length<=9223372036854775807) <|
  ck (inR (i19+1)) <|
  cJ Mr m (TX++(sub Mr i19 (i19+1))) (i19+1)
 else
  some TB
def jt (n:Nat)(Mr:Bytes):Option Bytes :=
 (cJ Mr n ([]:Bytes) 0).bind λ Xi =>
 some Xi
instance E1 (n:Nat) (Mr:Bytes):∀ (r:Bytes),HP (jt n Mr=some r) Tryz.prog 130 [eS Mr] (.p (eS r)):=by
 refine hP good Tryz.func130 Z Z λ r h0 _ w0=>?_;unfold jt at h0;refine nx 14 Z (bd h0 λ o41 h1 h0=>kE 0 o41 (λ v42=>⟨[(3,.p (eS v42))],[]⟩) ?_ ?_)
 ·exact J0
 refine lG (λ (Xd:Bytes×Int)=>⟨[(0,.p (eS Mr)),(3,.p (eS Xd.1)),(4,.p (eI Xd.2))],[]⟩) (λ m (Xd:Bytes×Int)=>cJ Mr m Xd.1 Xd.2) Y (([]:Bytes),0) h1 (gE rfl rfl) ?_;rintro m ⟨TB,i19⟩ h1;replace h1:cJ Mr (m+1) TB i19=some o41:=h1;rw [cJ] at h1;have:=js [501,500];have:=jS 501 Bytes λ v=>[(3,.p (eS v))]
 have:=jS 500 Bool λ v=>[(28,.p (eB v))]
 exact aG
end Go.Ab.R06
end
section
namespace Go.Ab.R06
open Go.Proofs Go.Ab Go.Ab.RB
attribute [local irreducible] awp gk aX bv bV AV.sub M cC
instance Qm:HE Tryz.prog 205:=⟨Tryz.call205⟩
instance P9:HE Tryz.prog 189:=⟨Tryz.call189⟩
instance Qs:HE Tryz.prog 191:=⟨Tryz.call191⟩
instance Qe:HE Tryz.prog 173:=⟨Tryz.call173⟩
instance Qn:HE Tryz.prog 154:=⟨Tryz.call154⟩
instance Qa:HE Tryz.prog 50:=⟨Tryz.call50⟩
def i7 (Rz:ag):Option Bool :=
 (
   if Rz.Ar=2 then
    some true
   else
    if Rz.Ar=1 then
     if Rz.F'=0 then
      some true
     else
      if Rz.F'=1 then
       some true
      else
       some (decide (Rz.F'=0))
    else
     some (decide (Rz.F'=0))
  ).bind λ num5 =>
 (
   if Rz.Ar=3 then
    some true
   else
    some (decide (Rz.If=([]:Bytes)))
  ).bind λ str7 =>
 (
   if Rz.Ar=4 then
    some true
   else
    if Rz.Ar=5 then
     some true
    else
     some (decide ((Rz.Gw.length:Int)=0))
  ).bind λ items10 =>
 (
   if Rz.Ar=5 then
    if (Rz.Df.length:Int)=(Rz.Gw.length:Int) then
     some true
    else
     some false
   else
    some (decide ((Rz.Df.length:Int)=0))
  ).bind λ keys13 =>
 (
   if 0<=Rz.Ar then
    if Rz.Ar<=6 then
     if num5=true then
      if str7=true then
       if items10=true then
        some keys13
       else
        some false
      else
       some false
     else
      some false
    else
     some false
   else
    some false
  ).bind λ SO =>
 some SO
instance ER (Rz:ag):∀ (r:Bool),HP (i7 Rz=some r) Tryz.prog 189 [.agg (ag.cs Rz)] (.p (eB r)):=by
 refine hP good Tryz.func189 Z Z λ r h0 _ w0=>?_;unfold i7 at h0;refine nx 6 Z (bd h0 λ VC h1 h0=>kN VC (λ Vu=>⟨[(1,.ptr 1 0),(3,.p (eB Vu))],[(1,(ag.cs Rz).map .p)]⟩) ?_ ?_)
 ·refine nx 2 Z (bd h0 λ Wj h1 h0=>kN Wj (λ W2=>⟨[(1,.ptr 1 0),(3,.p (eB VC)),(4,.p (eB W2))],[(1,(ag.cs Rz).map .p)]⟩) ?_ ?_)
  ·refine nx 2 Z (bd h0 λ TH h1 h0=>kN TH (λ SP=>⟨[(1,.ptr 1 0),(3,.p (eB VC)),(4,.p (eB Wj)),(5,.p (eB SP))],[(1,(ag.cs Rz).map .p)]⟩) ?_ ?_)
   ·refine nx 2 Z (bd h0 λ V4 h1 h0=>kN V4 (λ Vs=>⟨[(1,.ptr 1 0),(3,.p (eB VC)),(4,.p (eB Wj)),(5,.p (eB TH)),(6,.p (eB Vs))],[(1,(ag.cs Rz).map .p)]⟩) ?_ ?_)
    ·refine nx 2 Z (bd h0 λ Xn h1 h0=>kN Xn (λ W1=>⟨[(2,.p (eB W1))],[]⟩) ?_ ?_)
     ·exact J0
     exact aG
    refine nx 5 Z (fD [54,55] h1 Z (λ Uy h1=>?_) λ Uy h1=>?_)
    ·refine nx 2 Z (oLl (f:=eS) Z Z (nx 2 Z (oLl (f:=dQ) Z Z (nx 3 Z (fD [62,63,64] h1 Z (λ VQ h1=>?_) λ VQ h1=>?_)))))
     ·exact aG
     exact nx 4 Z (lT [68] (GZ Uy) Z (nx 8 Z fy))
    exact nx 13 Z (lT [68] (MH Uy) Z (nx 2 Z (oLl (f:=eS) Z Z (nx 5 Z fy))))
   exact aG
  exact aG
 exact aG
def iK (n:Nat)(Mr:Bytes):Option Int :=
 if 4096 < (Mr.length:Int) then
  some 3
 else
  (kc n Mr).bind λ r2 =>
  if (!r2)=true then
   some 1
  else
   some 0
instance Ko (n:Nat) (Mr:Bytes):∀ (r:Int),HP (iK n Mr=some r) Tryz.prog 191 [eS Mr] (.p (eI r)):=by
 refine hP good Tryz.func191 Z Z λ r h0 _ w0=>?_;unfold iK at h0;exact J0
def eM (n:Nat)(Rz:ag):Nat->Int->Option (Unit⊕Int)
 | 0,_=>none
 | m+1,i25 =>
 if i25 < (Rz.Df.length:Int) then
  ck ((0:Int)<=i25/\i25 < (Rz.Df.length:Int)) <|
  (iK n (lat Rz.Df i25)).bind λ Sq =>
  if Sq=0 then
   (
     if 0 < i25 then
      ck (inR (i25 - 1)) <|
      ck ((0:Int)<=i25 - 1/\i25 - 1 < (Rz.Df.length:Int)) <|
      ck ((0:Int)<=i25/\i25 < (Rz.Df.length:Int)) <|
      some (!Op.bytesLess (lat Rz.Df (i25 - 1)) (lat Rz.Df i25))
     else
      some false
    ).bind λ t35 =>
   if t35=true then
    some (.inr 1)
   else
    ck (inR (i25+1)) <|
    eM n Rz m (i25+1)
  else
   some (.inr Sq)
 else
  some (.inl ())
def lK (n:Nat)(Rz:ag):Option Int :=
 (i7 Rz).bind λ r1 =>
 if (!r1)=true then
  some 1
 else
  (
    if Rz.Ar=2 then
     (lP Rz.F').bind λ r5 =>
     some (!r5)
    else
     some false
   ).bind λ t7 =>
  if t7=true then
   some 5
  else
   (iK n Rz.If).bind λ r9 =>
   if r9=0 then
    jn (eM n Rz n 0) λ _Vz =>
    some 0
   else
    some r9
instance Kv (n:Nat) (Rz:ag):∀ (r:Int),HP (lK n Rz=some r) Tryz.prog 173 [.agg (ag.cs Rz)] (.p (eI r)):=by
 refine hP good Tryz.func173 Z Z λ r h0 _ w0=>?_;unfold lK at h0;refine nx 9 Z (K0 λ r1 h0=>nx 2 Z (fB [8] h0 Z (λ c3 h0=>?_) λ c3 h0=>?_))
 ·exact J0
 refine nx 4 Z (bd h0 λ UE h1 h0=>kN UE (λ TO=>⟨[(1,.ptr 1 0),(17,.p (eB TO))],[(1,(ag.cs Rz).map .p)]⟩) ?_ ?_)
 ·refine nx 1 Z (fB [17] h0 Z (λ c8 h0=>?_) λ c8 h0=>?_)
  ·exact J0
  refine nx 7 Z (K0 λ r9 h0=>nx 7 Z (fN [22] h0 Z (λ Uy h0=>?_) λ Uy h0=>?_))
  ·refine nx 8 rfl ?_;obtain ⟨Xm,h1,Sl,hR0⟩:=cm h0;refine kEx 0 (λ V':Unit=>Xm=.inl V') (λ V'=>⟨[],[]⟩) (λ V' hv=>?_) ?_
   ·exact jQ
   refine lG (λ (Uh:Int)=>⟨[(1,.ptr 1 0),(4,.p (eI Uh))],[(1,(ag.cs Rz).map .p)]⟩) (λ m (Uh:Int)=>eM n Rz m Uh) Y 0 h1 (gE rfl rfl) ?_;rintro m i25 h1;replace h1:eM n Rz (m+1) i25=some Xm:=h1;rw [eM] at h1;refine nx 6 rfl (oLl (f:=eS) rfl rfl (nx 2 rfl (fD [28] h1 rfl (λ XM h1=>?_) λ XM h1=>?_)))
   ·refine nx 10 Z (oE h1 Y Z Z Y λ U' h1=>nx 1 Z (K1 λ Sq h1=>nx 7 Z (fN [38] h1 Z (λ WL h1=>?_) λ WL h1=>?_)))
    ·refine nx 3 Z (bd h1 λ o47 h2 h1=>kN o47 (λ v48=>⟨[(1,.ptr 1 0),(4,.p (eI i25)),(55,.p (eB v48))],[(1,(ag.cs Rz).map .p)]⟩) ?_ ?_)
     ·exact aG
     refine fD (p:=0 < i25) [] h2 Z (λ Vg h2=>?_) λ Vg h2=>?_
     ·refine cc' h2 λ U7 h2=>cc' h2 λ hk33 h2=>cc' h2 λ Wx h2=>mD [(1,.ptr 1 0),(4,.p (eI i25))] Z ⟨Z,Z,trivial⟩ Z (dR 1 Z (dL (dt Vg) Z (dR 4 Z (dq (.p (eI (i25 - 1))) [42,45] Z (λ _ e _ q=>fu (fS Z Z Z (e _ _ Z) Z Z U7 q) Z Z (e _ _ Z) (rfl)) Z (dq (.rptr [eS (lat Rz.Df (i25 - 1))]) [42,44,46] Z (λ _ e _ q=>fu (gm (f:=eS) (l:=Rz.Df) (λ x=>[eS x]) Z Z Z Z Z Z (e _ _ Z) Z (e _ _ Z) hk33 Y Y q) Z Z (e _ _ Z) (rfl)) Z (dR 4 Z (dq (.rptr [eS (lat Rz.Df i25)]) [42,50,51] Z (λ _ e _ q=>fu (gm (f:=eS) (l:=Rz.Df) (λ x=>[eS x]) Z Z Z Z Z Z (e _ _ Z) Z (e _ _ Z) Wx Y Y q) Z Z (e _ _ Z) (rfl)) Z (dR 1 Z (dq (.p (eB (!Op.bytesLess (lat Rz.Df (i25 - 1)) (lat Rz.Df i25)))) [42,48,53] Z (λ _ e _ q=>fu (qy Z Z Z (e _ _ Z) (e _ _ Z) Z q) Z Z (e _ _ Z) (rfl)) Z ?_)))))))));exact gN
     exact mD [(1,.ptr 1 0),(4,.p (eI i25))] Z ⟨Z,Z,trivial⟩ Z (dR 1 Z (dL (df Vg) Z (dR 14 Z (dE Z NY))))
    exact aG
   exact aG
  exact J0
 exact aG
def eW (SH:ag->Int->Int->Option (Int×Int))(Rz:ag)(O':Int):Nat->Int->Int->Option (Int⊕(Int×Int))
 | 0,_,_=>none
 | m+1,n16,i17 =>
 if i17 < (Rz.Gw.length:Int) then
  ck ((0:Int)<=i17/\i17 < (Rz.Gw.length:Int)) <|
  ck (inR (O'+1)) <|
  (SH (lat Rz.Gw i17) (O'+1) n16).bind λ RQ =>
  if RQ.1=0 then
   ck (inR (i17+1)) <|
   eW SH Rz O' m RQ.2 (i17+1)
  else
   some (.inr (RQ.1,RQ.2))
 else
  some (.inl n16)
def gp:Nat->ag->Int->Int->Option (Int×Int)
 | 0,_,_,_=>none
 | n+1,Rz,O',RH =>
 if 32 < O' then
  some (4,RH)
 else
  if 4096<=RH then
   some (14,RH)
  else
   (lK n Rz).bind λ r3 =>
   if r3=0 then
    ck (inR (RH+1)) <|
    jn (eW (gp n) Rz O' n (RH+1) 0) λ n27 =>
    some (0,n27)
   else
    some (r3,RH)
instance Jj (n:Nat):∀ (Rz:ag) (O':Int) (RH:Int) (r:Int×Int),HP (gp n Rz O' RH=some r) Tryz.prog 154 [.agg (ag.cs Rz),eI O',eI RH] (.tuple [.p (eI r.1),.p (eI r.2)]):=by
 induction n with
 | zero=>exact Zr
 | succ n ih =>
 refine λ Rz O' RH=>hP good Tryz.func154 Z Z λ r h0 _ w0=>?_;rw [gp] at h0;refine nx 12 Z (fD [14] h0 Z (λ c1 h0=>?_) λ c1 h0=>?_)
 ·exact J0
 refine nx 8 Z (fD [17] h0 Z (λ c2 h0=>?_) λ c2 h0=>?_)
 ·exact J0
 refine nx 6 Z (K0 λ r3 h0=>nx 7 Z (fN [22] h0 Z (λ c5 h0=>?_) λ c5 h0=>?_))
 ·refine nx 5 rfl (oA h0 Z Z λ WW h0=>nx 8 rfl ?_);obtain ⟨TH,h1,Sl,hR0⟩:=cm h0;refine kEx 0 (λ SP:Int=>TH=.inl SP) (λ SP=>⟨[(9,.p (eI SP))],[]⟩) (λ SP hv=>?_) ?_
  ·exact jQ
  refine lG (λ (S4:Int×Int)=>⟨[(1,.p (eI O')),(3,.ptr 3 0),(9,.p (eI S4.1)),(10,.p (eI S4.2))],[(3,(ag.cs Rz).map .p)]⟩) (λ m (S4:Int×Int)=>eW (gp n) Rz O' m S4.1 S4.2) Y (RH+1,0) h1 (gE rfl rfl) ?_;rintro m ⟨n16,i17⟩ h1;replace h1:eW (gp n) Rz O' (m+1) n16 i17=some TH:=h1;rw [eW] at h1;exact aG
 exact J0
def kj (n:Nat)(Rz:ag):Option Int :=
 (gp n Rz 1 0).bind λ r1 =>
 some r1.1
instance I6 (n:Nat) (Rz:ag):∀ (r:Int),HP (kj n Rz=some r) Tryz.prog 116 [.agg (ag.cs Rz)] (.p (eI r)):=by
 refine hP good Tryz.func116 Z Z λ r h0 _ w0=>?_;unfold kj at h0;exact J0
def dJ (a_0:ag)(Sk:ag):Nat->Int->Option (Unit⊕Bool)
 | 0,_=>none
 | m+1,i13 =>
 if i13 < (a_0.Df.length:Int) then
  ck ((0:Int)<=i13/\i13 < (a_0.Df.length:Int)) <|
  ck ((0:Int)<=i13/\i13 < (Sk.Df.length:Int)) <|
  if lat a_0.Df i13=lat Sk.Df i13 then
   ck (inR (i13+1)) <|
   dJ a_0 Sk m (i13+1)
  else
   some (.inr false)
 else
  some (.inl ())
def dH (SI:ag->ag->Option Bool)(a_0:ag)(Sk:ag):Nat->Int->Option (Unit⊕Bool)
 | 0,_=>none
 | m+1,i28 =>
 if i28 < (a_0.Gw.length:Int) then
  ck ((0:Int)<=i28/\i28 < (a_0.Gw.length:Int)) <|
  ck ((0:Int)<=i28/\i28 < (Sk.Gw.length:Int)) <|
  (SI (lat a_0.Gw i28) (lat Sk.Gw i28)).bind λ Ti =>
  if (!Ti)=true then
   some (.inr false)
  else
   ck (inR (i28+1)) <|
   dH SI a_0 Sk m (i28+1)
 else
  some (.inl ())
def eN:Nat->ag->ag->Option Bool
 | 0,_,_=>none
 | n+1,a_0,Sk =>
 (
   if a_0.Ar=Sk.Ar then
    if a_0.F'=Sk.F' then
     if a_0.If=Sk.If then
      if (a_0.Gw.length:Int)=(Sk.Gw.length:Int) then
       some (!decide ((a_0.Df.length:Int)=(Sk.Df.length:Int)))
      else
       some true
     else
      some true
    else
     some true
   else
    some true
  ).bind λ t5 =>
 if t5=true then
  some false
 else
  jn (dJ a_0 Sk n 0) λ _Xf =>
  jn (dH (eN n) a_0 Sk n 0) λ _UC =>
  some true
instance Iy (n:Nat):∀ (a_0:ag) (Sk:ag) (r:Bool),HP (eN n a_0 Sk=some r) Tryz.prog 50 [.agg (ag.cs a_0),.agg (ag.cs Sk)] (.p (eB r)):=by
 induction n with
 | zero=>exact Zr
 | succ n ih =>
 refine λ a_0 Sk=>hP good Tryz.func50 Z Z λ r h0 _ w0=>?_;rw [eN] at h0;refine nx 8 Z (bd h0 λ o40 h1 h0=>kN o40 (λ WZ=>⟨[(2,.ptr 2 0),(3,.ptr 3 0),(43,.p (eB WZ))],[(2,(ag.cs a_0).map .p),(3,(ag.cs Sk).map .p)]⟩) ?_ ?_)
 ·refine nx 1 Z (fB [43] h0 Z (λ c6 h0=>?_) λ c6 h0=>?_)
  ·exact J0
  refine nx 8 rfl ?_;obtain ⟨UE,h1,Sl,hR0⟩:=cm h0;refine kEx 0 (λ TO:Unit=>UE=.inl TO) (λ TO=>⟨[(2,.ptr 2 0),(3,.ptr 3 0)],[(2,(ag.cs a_0).map .p),(3,(ag.cs Sk).map .p)]⟩) (λ TO hv=>?_) ?_
  ·have h0:=Sl _ hv;refine nx 7 rfl ?_;obtain ⟨Xm,h1,Sl,hR0⟩:=cm h0;refine kEx 2 (λ V':Unit=>Xm=.inl V') (λ V'=>⟨[],[]⟩) (λ V' hv=>?_) ?_
   ·exact jQ
   refine lG (λ (Uh:Int)=>⟨[(2,.ptr 2 0),(3,.ptr 3 0),(6,.p (eI Uh))],[(2,(ag.cs a_0).map .p),(3,(ag.cs Sk).map .p)]⟩) (λ m (Uh:Int)=>dH (eN n) a_0 Sk m Uh) Y 0 h1 (gE rfl rfl) ?_;rintro m i28 h1;replace h1:dH (eN n) a_0 Sk (m+1) i28=some Xm:=h1;rw [dH] at h1;refine nx 6 rfl (oLl (f:=dQ) rfl rfl (nx 2 rfl (fD [66] h1 rfl (λ c29 h1=>?_) λ c29 h1=>?_)))
   ·refine nx 5 Z (cc' h1 λ VL h1=>cc' h1 λ U8 h1=>bd h1 λ Ti XF h1=>mD [(2,.ptr 2 0),(3,.ptr 3 0),(6,.p (eI i28))] Z ⟨Z,Z,Z,trivial⟩ Z (dR 3 Z (dq (.rptr (ag.cs (lat a_0.Gw i28))) [70,71] Z (λ _ e _ q=>ak Z (gm (f:=dQ) (l:=a_0.Gw) ag.cs Z Z Z Z Z Z (e _ _ Z) Z (e _ _ Z) VL ag.It Y q)) Z (dR 4 Z (dq (.rptr (ag.cs (lat Sk.Gw i28))) [75,76] Z (λ _ e _ q=>ak Z (gm (f:=dQ) (l:=Sk.Gw) ag.cs Z Z Z Z Z Z (e _ _ Z) Z (e _ _ Z) U8 ag.It Y q)) Z (dR 1 Z (dq (.p (eB Ti)) [73,78] Z (λ _ e _ q=>ak Z (bS (HP.c XF) Z Z Z (av (e _ _ Z) (av (e _ _ Z) bm)) ⟨sr,sr,trivial⟩ Tryz.call50 Z q)) Z (dR 1 Z ?_))))))));exact aG
   exact aG
  refine lG (λ (Tj:Int)=>⟨[(2,.ptr 2 0),(3,.ptr 3 0),(5,.p (eI Tj))],[(2,(ag.cs a_0).map .p),(3,(ag.cs Sk).map .p)]⟩) (λ m (Tj:Int)=>dJ a_0 Sk m Tj) Y 0 h1 (gE rfl rfl) ?_;rintro m i13 h1;replace h1:dJ a_0 Sk (m+1) i13=some UE:=h1;rw [dJ] at h1;refine nx 6 rfl (oLl (f:=eS) rfl rfl (nx 2 rfl (fD [48] h1 rfl (λ Vh h1=>?_) λ Vh h1=>?_)))
  ·refine nx 5 Z (cc' h1 λ S' h1=>cc' h1 λ TZ h1=>mD [(2,.ptr 2 0),(3,.ptr 3 0),(5,.p (eI i13))] Z ⟨Z,Z,Z,trivial⟩ Z (dR 3 Z (dq (.rptr [eS (lat a_0.Df i13)]) [52,53] Z (λ _ e _ q=>ak Z (gm (f:=eS) (l:=a_0.Df) (λ x=>[eS x]) Z Z Z Z Z Z (e _ _ Z) Z (e _ _ Z) S' Y Y q)) Z (dR 4 Z (dq (.rptr [eS (lat Sk.Df i13)]) [57,58] Z (λ _ e _ q=>ak Z (gm (f:=eS) (l:=Sk.Df) (λ x=>[eS x]) Z Z Z Z Z Z (e _ _ Z) Z (e _ _ Z) TZ Y Y q)) Z (dR 1 Z (dq (.p (eB (!decide (lat a_0.Df i13=lat Sk.Df i13)))) [55,60] Z (λ _ e _ q=>ak Z (qy Z Z Z (e _ _ Z) (e _ _ Z) Z q)) Z (dE Z ?_))))))));exact aG
  exact aG
 exact aG
end Go.Ab.R06
end
