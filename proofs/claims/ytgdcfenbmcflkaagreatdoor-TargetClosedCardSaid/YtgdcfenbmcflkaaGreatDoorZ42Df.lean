/- Texts of the proof, one behind the other. No statement is proved here. -/
import Derived.Lib.IndexLaws
import Derived.Test.YtgdcfenbmcflkaaGreatDoorZ42Da
import Derived.Test.YtgdcfenbmcflkaaGreatDoorZ42Db
import Derived.Test.YtgdcfenbmcflkaaGreatDoorZ42Dc
import Derived.Test.YtgdcfenbmcflkaaGreatDoorZ42Dd
import Derived.Test.YtgdcfenbmcflkaaGreatDoorZ42De
set_option maxHeartbeats 4000000
section
namespace Go.Ab.R06
open Go.Proofs Go.Ab Go.Ab.RB
attribute [local irreducible] awp ei aS aC bC AV.sub M dN
def jv (n:Nat)(k_0:bS):Option Bool :=
 if k_0.fKind=1 then
  (
    if 0≤k_0.fNum then
     if k_0.fNum≤9007199254740992 then
      some (decide (k_0.fStr=([]:Bytes)))
     else
      some false
    else
     some false
   : Option Bool).bind λ t4 =>
  some t4
 else
  if k_0.fKind=2 then
   (
     if k_0.fNum=0 then
      (kR n k_0.fStr).bind λ r7 =>
      some r7
     else
      some false
    : Option Bool).bind λ t9 =>
   some t9
  else
   some (decide (k_0.fKind=0∧k_0.fNum=0∧k_0.fStr=([]:Bytes)))
theorem lh (n:Nat)(k_0:bS)(r:Bool)(h0:jv n k_0=some r):aC Tryz.prog 108 [.agg (bS.cs k_0)] (·=.p (eB r)):=by
 unfold jv at h0
 refine bc good Tryz.func108 Z Z Z λ w0=>mP (λ v:Bool=>.p (eB v)) ?_
 refine nx 12 Z (fD [5] h0 Z (λ c1 h0=>?_) λ c1 h0=>?_)
 ·refine nx 2 Z (bd h0 λ o12 h1 h0=>?_)
  refine kN o12 (λ v13=>⟨[(2,.p (eB v13))],[]⟩) ?_ ?_
  ·exact nx 2 Z (mQ (oi h0) Z (sr))
  refine nx 5 Z (fD [8,9] h1 Z (λ c2 h1=>?_) λ c2 h1=>?_)
  ·refine nx 5 Z (fD [12,13,14] h1 Z (λ c3 h1=>?_) λ c3 h1=>?_)
   ·exact nx 2 Z (oS Z Z (nx 3 Z (eX _ (oi h1).symm (gE Z Z))))
   exact nx 6 Z (eX _ (oi h1).symm (gE Z Z))
  exact nx 11 Z (eX _ (oi h1).symm (gE Z Z))
 refine nx 9 Z (fD [21] h0 Z (λ c5 h0=>?_) λ c5 h0=>?_)
 ·refine nx 2 Z (bd h0 λ o14 h1 h0=>?_)
  refine kN o14 (λ v15=>⟨[(2,.p (eB v15))],[]⟩) ?_ ?_
  ·exact nx 2 Z (mQ (oi h0) Z (sr))
  refine nx 5 Z (fD [24,25] h1 Z (λ c6 h1=>?_) λ c6 h1=>?_)
  ·exact nx 2 Z (bd h1 λ r7 e8 h1=>oK (uc _ k_0.fStr _ e8) Z ⟨sr,trivial⟩ Tryz.call132 Z (nx 3 Z (eX _ (oi h1).symm (gE Z Z))))
  exact nx 6 Z (eX _ (oi h1).symm (gE Z Z))
 exact nx 6 Z (mO Z (Cy (k_0.fKind=0∧k_0.fNum=0∧k_0.fStr=([]:Bytes)) Z Z Z Z Z Z Z (by kernel_rfl) Z Z (.inl ⟨Z,Z⟩) (nx 3 Z (mQ (oi h0) Z (sr)))))
def fV (n:Nat)(k_0:bS):Option Bytes :=
 (
   (jv n k_0).bind λ r1 =>
   if (!r1)=true then
    some true
   else
    some (decide (k_0.fKind=0))
  : Option Bool).bind λ t4 =>
 if t4=true then
  some ([]:Bytes)
 else
  if k_0.fKind=1 then
   (d4 n k_0.fNum).bind λ r7 =>
   ck (([91]:Bytes).length+r7.length≤9223372036854775807) <|
   ck ((([91]:Bytes)++r7).length+([93]:Bytes).length≤9223372036854775807) <|
   some ((([91]:Bytes)++r7)++([93]:Bytes))
  else
   (jA n k_0.fStr).bind λ r11 =>
   ck (([91]:Bytes).length+r11.length≤9223372036854775807) <|
   ck ((([91]:Bytes)++r11).length+([93]:Bytes).length≤9223372036854775807) <|
   some ((([91]:Bytes)++r11)++([93]:Bytes))
theorem lE (n:Nat)(k_0:bS)(r:Bytes)(h0:fV n k_0=some r):aC Tryz.prog 85 [.agg (bS.cs k_0)] (·=.p (eS r)):=by
 unfold fV at h0
 refine bc good Tryz.func85 Z Z Z λ w0=>mP (λ v:Bytes=>.p (eS v)) ?_
 refine nx 7 Z (bd h0 λ o16 h1 h0=>?_)
 refine kN o16 (λ v17=>⟨[(1,.ptr 1 0),(10,.p (eB v17))],[(1,(bS.cs k_0).map .p)]⟩) ?_ ?_
 ·refine nx 1 Z (fB [10] h0 Z (λ c5 h0=>?_) λ c5 h0=>?_)
  ·exact nx 6 Z (mQ (oi h0) Z (sr))
  refine nx 9 Z (fD [13] h0 Z (λ c6 h0=>?_) λ c6 h0=>?_)
  ·exact nx 5 Z (bd h0 λ r7 e8 h0=>oK (sO _ k_0.fNum _ e8) Z ⟨sr,trivial⟩ Tryz.call109 Z (oC h0 Z λ hk9 h0=>oC h0 Z λ hk10 h0=>nx 3 Z (mQ (oi h0) Z (sr))))
  exact nx 6 Z (bd h0 λ r11 e12 h0=>oK (lP _ k_0.fStr _ e12) Z ⟨sr,trivial⟩ Tryz.call110 Z (oC h0 Z λ hk13 h0=>oC h0 Z λ hk14 h0=>nx 3 Z (mQ (oi h0) Z (sr))))
 refine nx 2 Z (bd h1 λ r1 e2 h1=>oK (lh _ k_0 _ e2) Z ⟨sr,trivial⟩ Tryz.call108 Z (nx 2 Z ?_))
 refine fB [5,6] h1 Z (λ c3 h1=>?_) λ c3 h1=>?_
 ·exact nx 5 Z (eX _ (oi h1).symm (gE Z Z))
 exact nx 5 Z (eX _ (oi h1).symm (gE Z Z))
def gU (c_0:Int):Option Bool :=
 (
   if 97≤c_0 then
    if c_0≤122 then
     some true
    else
     if 65≤c_0 then
      if c_0≤90 then
       some true
      else
       some (decide (c_0=95))
     else
      some (decide (c_0=95))
   else
    if 65≤c_0 then
     if c_0≤90 then
      some true
     else
      some (decide (c_0=95))
    else
     some (decide (c_0=95))
  : Option Bool).bind λ t7 =>
 some t7
theorem kZ (c_0:Int)(r:Bool)(h0:gU c_0=some r):aC Tryz.prog 129 [eK .u8 c_0] (·=.p (eB r)):=by
 unfold gU at h0
 refine bc good Tryz.func129 Z Z Z λ w0=>mP (λ v:Bool=>.p (eB v)) ?_
 refine nx 5 Z (bd h0 λ o9 h1 h0=>?_)
 refine kN o9 (λ v10=>⟨[(2,.p (eB v10))],[]⟩) ?_ ?_
 ·exact nx 2 Z (mQ (oi h0) Z (sr))
 refine nx 4 Z (fD [4,5] h1 Z (λ c1 h1=>?_) λ c1 h1=>?_)
 ·refine nx 4 Z (fD [7,8,9] h1 Z (λ c2 h1=>?_) λ c2 h1=>?_)
  ·exact nx 13 Z (eX _ (oi h1).symm (gE Z Z))
  refine nx 3 Z (fD [11,12] h1 Z (λ c3 h1=>?_) λ c3 h1=>?_)
  ·refine nx 5 Z (fD [14,15,16,17] h1 Z (λ c4 h1=>?_) λ c4 h1=>?_)
   ·exact nx 5 Z (eX _ (oi h1).symm (gE Z Z))
   exact nx 5 Z (eX _ (oi h1).symm (gE Z Z))
  exact nx 10 Z (eX _ (oi h1).symm (gE Z Z))
 refine nx 7 Z (fD [11,12] h1 Z (λ c5 h1=>?_) λ c5 h1=>?_)
 ·refine nx 5 Z (fD [14,15,16,17] h1 Z (λ c6 h1=>?_) λ c6 h1=>?_)
  ·exact nx 5 Z (eX _ (oi h1).symm (gE Z Z))
  exact nx 5 Z (eX _ (oi h1).symm (gE Z Z))
 exact nx 10 Z (eX _ (oi h1).symm (gE Z Z))
def dd (s_0:Bytes):Nat→Int→Option (Unit⊕Bool)
 | 0,_=>none
 | m+1,i20 =>
 if i20 < (s_0.length:Int) then
  (
    ck ((0:Int)≤i20∧i20 < (s_0.length:Int)) <|
    (gU (byt s_0 i20)).bind λ r23 =>
    if (!r23)=true then
     ck ((0:Int)≤i20∧i20 < (s_0.length:Int)) <|
     if byt s_0 i20 < 48 then
      some true
     else
      ck ((0:Int)≤i20∧i20 < (s_0.length:Int)) <|
      some (decide (57 < byt s_0 i20))
    else
     some false
   : Option Bool).bind λ t29 =>
  if t29=true then
   some (.inr false)
  else
   ck (inR (i20+1)) <|
   dd s_0 m (i20+1)
 else
  some (.inl ())
def cX (n:Nat)(s_0:Bytes):Option Bool :=
 (
   if s_0=([]:Bytes) then
    some true
   else
    if 64 < (s_0.length:Int) then
     some true
    else
     ck ((0:Int)≤0∧0 < (s_0.length:Int)) <|
     (gU (byt s_0 0)).bind λ r4 =>
     some (!r4)
  : Option Bool).bind λ t6 =>
 if t6=true then
  some false
 else
  jn (dd s_0 n 0) λ q34 =>
  some true
theorem em (n:Nat)(s_0:Bytes)(r:Bool)(h0:cX n s_0=some r):aC Tryz.prog 105 [eS s_0] (·=.p (eB r)):=by
 unfold cX at h0
 refine bc good Tryz.func105 Z Z Z λ w0=>mP (λ v:Bool=>.p (eB v)) ?_
 refine nx 6 Z (bd h0 λ o36 h1 h0=>?_)
 refine kN o36 (λ v37=>⟨[(0,.p (eS s_0)),(16,.p (eB v37))],[]⟩) ?_ ?_
 ·refine nx 1 Z (fB [16] h0 Z (λ c7 h0=>?_) λ c7 h0=>?_)
  ·exact nx 6 Z (mQ (oi h0) Z (sr))
  refine nx 8 Z ?_
  obtain ⟨o38,h1,hL0,hR0⟩:=fc h0
  refine kEx 0 (λ v39:Unit=>o38=.inl v39) (λ v39=>⟨[],[]⟩) (λ v39 hv=>?_) ?_
  ·have h0:=hL0 _ hv
   exact nx 6 Z (mQ (oi h0) Z (sr))
  refine lG (λ (q40:Int)=>⟨[(0,.p (eS s_0)),(3,.p (eI q40))],[]⟩) (λ m (q40:Int)=>dd s_0 m q40) Y 0 h1 (gE Z Z) ?_
  rintro m i20 h1
  replace h1:dd s_0 (m+1) i20=some o38:=h1
  rw [dd] at h1
  refine nx 5 Z (oLs Z (nx 2 Z (fD [20] h1 Z (λ c21 h1=>?_) λ c21 h1=>?_)))
  ·refine nx 5 Z (bd h1 λ o41 h2 h1=>?_)
   refine kN o41 (λ v42=>⟨[(0,.p (eS s_0)),(3,.p (eI i20)),(39,.p (eB v42))],[]⟩) ?_ ?_
   ·refine nx 1 Z (fB [39] h1 Z (λ c30 h1=>?_) λ c30 h1=>?_)
    ·exact nx 6 Z (mQ (hR0 _ (oi h1).symm) Z (sr))
    exact nx 4 Z (oA h1 Z Z λ hk31 h1=>nx 2 Z (eX (i20+1) h1 (gE Z Z)))
   refine nx 3 Z (oI h2 Z λ hk22 h2=>bd h2 λ r23 e24 h2=>oK (kZ (byt s_0 i20) _ e24) Z ⟨sr,trivial⟩ Tryz.call129 Z (nx 2 Z ?_))
   refine fB [27,28] h2 Z (λ c25 h2=>?_) λ c25 h2=>?_
   ·refine nx 2 Z (oI h2 Z λ hk26 h2=>nx 2 Z (fD [32,33] h2 Z (λ c27 h2=>?_) λ c27 h2=>?_))
    ·exact nx 7 Z (eX _ (oi h2).symm (gE Z Z))
    exact nx 2 Z (oI h2 Z λ hk28 h2=>nx 4 Z (eX _ (oi h2).symm (gE Z Z)))
   exact nx 12 Z (eX _ (oi h2).symm (gE Z Z))
  exact nx 2 Z (eXi _ (oi h1).symm (gE Z Z))
 refine nx 2 Z (oS Z Z (nx 1 Z (fD [5,6] h1 Z (λ c1 h1=>?_) λ c1 h1=>?_)))
 ·exact nx 11 Z (eX _ (oi h1).symm (gE Z Z))
 refine nx 1 Z (oLs Z (nx 3 Z (fD [9,10,11] h1 Z (λ c2 h1=>?_) λ c2 h1=>?_)))
 ·exact nx 6 Z (eX _ (oi h1).symm (gE Z Z))
 exact nx 1 Z (oI h1 Z λ hk3 h1=>bd h1 λ r4 e5 h1=>oK (kZ (byt s_0 0) _ e5) Z ⟨sr,trivial⟩ Tryz.call129 Z (nx 3 Z (eX _ (oi h1).symm (gE Z Z))))
def dh (s_0:Bytes):Nat→Int→Option (Unit⊕Bool)
 | 0,_=>none
 | m+1,i6 =>
 if i6 < (([([109,111,100,117,108,101]:Bytes),([100,97,116,97]:Bytes),([118,97,114]:Bytes),([108,111,99,97,108]:Bytes),([111,117,116,112,117,116]:Bytes),([101,97,99,104]:Bytes),([99,111,117,110,116]:Bytes),([114,101,109,111,116,101]:Bytes),([112,97,116,104]:Bytes),([115,101,108,102]:Bytes),([99,104,97,110,103,101]:Bytes)]).length:Int) then
  ck ((0:Int)≤i6∧i6 < (([([109,111,100,117,108,101]:Bytes),([100,97,116,97]:Bytes),([118,97,114]:Bytes),([108,111,99,97,108]:Bytes),([111,117,116,112,117,116]:Bytes),([101,97,99,104]:Bytes),([99,111,117,110,116]:Bytes),([114,101,109,111,116,101]:Bytes),([112,97,116,104]:Bytes),([115,101,108,102]:Bytes),([99,104,97,110,103,101]:Bytes)]).length:Int)) <|
  if lat ([([109,111,100,117,108,101]:Bytes),([100,97,116,97]:Bytes),([118,97,114]:Bytes),([108,111,99,97,108]:Bytes),([111,117,116,112,117,116]:Bytes),([101,97,99,104]:Bytes),([99,111,117,110,116]:Bytes),([114,101,109,111,116,101]:Bytes),([112,97,116,104]:Bytes),([115,101,108,102]:Bytes),([99,104,97,110,103,101]:Bytes)]) i6=s_0 then
   some (.inr true)
  else
   ck (inR (i6+1)) <|
   dh s_0 m (i6+1)
 else
  some (.inl ())
def gD (n:Nat)(s_0:Bytes):Option Bool :=
 jn (dh s_0 n 0) λ q12 =>
 some false
theorem md (n:Nat)(s_0:Bytes)(r:Bool)(h0:gD n s_0=some r):aC Tryz.prog 106 [eS s_0] (·=.p (eB r)):=by
 unfold gD at h0
 refine bc good Tryz.func106 Z Z Z λ w0=>mP (λ v:Bool=>.p (eB v)) ?_
 refine nx 6 Z (mO Z (bw eS [([109,111,100,117,108,101]:Bytes),([100,97,116,97]:Bytes),([118,97,114]:Bytes),([108,111,99,97,108]:Bytes),([111,117,116,112,117,116]:Bytes),([101,97,99,104]:Bytes),([99,111,117,110,116]:Bytes),([114,101,109,111,116,101]:Bytes),([112,97,116,104]:Bytes),([115,101,108,102]:Bytes),([99,104,97,110,103,101]:Bytes)] Z Z Z Z Z Z Z Z Z Z Z Z Z Z (nx 8 Z ?_)))
 obtain ⟨o13,h1,hL0,hR0⟩:=fc h0
 refine kEx 0 (λ v14:Unit=>o13=.inl v14) (λ v14=>⟨[],[]⟩) (λ v14 hv=>?_) ?_
 ·have h0:=hL0 _ hv
  exact nx 6 Z (mQ (oi h0) Z (sr))
 refine lG (λ (q15:Int)=>⟨[(0,.p (eS s_0)),(3,.p (eL eS ([([109,111,100,117,108,101]:Bytes),([100,97,116,97]:Bytes),([118,97,114]:Bytes),([108,111,99,97,108]:Bytes),([111,117,116,112,117,116]:Bytes),([101,97,99,104]:Bytes),([99,111,117,110,116]:Bytes),([114,101,109,111,116,101]:Bytes),([112,97,116,104]:Bytes),([115,101,108,102]:Bytes),([99,104,97,110,103,101]:Bytes)]))),(4,.p (eI q15))],[]⟩) (λ m (q15:Int)=>dh s_0 m q15) Y 0 h1 (gE Z Z) ?_
 rintro m i6 h1
 replace h1:dh s_0 (m+1) i6=some o13:=h1
 rw [dh] at h1
 refine nx 5 Z (oLl (f:=eS) Z Z (nx 2 Z (fD [9] h1 Z (λ c7 h1=>?_) λ c7 h1=>?_)))
 ·refine nx 8 Z (oE h1 Y Z Z Y λ hk8 h1=>nx 2 Z (oS Z Z (nx 1 Z (fD [17] h1 Z (λ c9 h1=>?_) λ c9 h1=>?_))))
  ·exact nx 6 Z (mQ (hR0 _ (oi h1).symm) Z (sr))
  exact nx 4 Z (oA h1 Z Z λ hk10 h1=>nx 2 Z (eX (i6+1) h1 (gE Z Z)))
 exact nx 2 Z (eXi _ (oi h1).symm (gE Z Z))
def eM (n:Nat)(a_0:ah):Nat→Int→Option (Unit⊕Int)
 | 0,_=>none
 | m+1,i13 =>
 if i13 < (a_0.fModule.length:Int) then
  ck ((0:Int)≤i13∧i13 < (a_0.fModule.length:Int)) <|
  (cX n ((lat a_0.fModule i13).fName)).bind λ r16 =>
  if (!r16)=true then
   some (.inr 7)
  else
   ck ((0:Int)≤i13∧i13 < (a_0.fModule.length:Int)) <|
   (jv n ((lat a_0.fModule i13).fKey)).bind λ r20 =>
   if (!r20)=true then
    some (.inr 1)
   else
    ck (inR (i13+1)) <|
    eM n a_0 m (i13+1)
 else
  some (.inl ())
def kz (n:Nat)(a_0:ah):Option Int :=
 if 16 < (a_0.fModule.length:Int) then
  some 4
 else
  jn (eM n a_0 n 0) λ q38 =>
  (
    (cX n a_0.fType).bind λ r25 =>
    if (!r25)=true then
     some true
    else
     (gD n a_0.fType).bind λ r28 =>
     if r28=true then
      some true
     else
      (cX n a_0.fName).bind λ r31 =>
      some (!r31)
   : Option Bool).bind λ t33 =>
  if t33=true then
   some 7
  else
   (jv n a_0.fKey).bind λ r35 =>
   if (!r35)=true then
    some 1
   else
    some 0
theorem tl (n:Nat)(a_0:ah)(r:Int)(h0:kz n a_0=some r):aC Tryz.prog 83 [.agg (ah.cs a_0)] (·=.p (eI r)):=by
 unfold kz at h0
 refine bc good Tryz.func83 Z Z Z λ w0=>mP (λ v:Int=>.p (eI v)) ?_
 refine nx 10 Z (oLl (f:=ag) Z Z (nx 2 Z (fD [7] h0 Z (λ c1 h0=>?_) λ c1 h0=>?_)))
 ·exact nx 6 Z (mQ (oi h0) Z (sr))
 refine nx 8 Z ?_
 obtain ⟨o40,h1,hL0,hR0⟩:=fc h0
 refine kEx 0 (λ v41:Unit=>o40=.inl v41) (λ v41=>⟨[(1,.ptr 1 0)],[(1,(ah.cs a_0).map .p)]⟩) (λ v41 hv=>?_) ?_
 ·have h0:=hL0 _ hv
  refine nx 3 Z (bd h0 λ o42 h1 h0=>?_)
  refine kN o42 (λ v43=>⟨[(1,.ptr 1 0),(45,.p (eB v43))],[(1,(ah.cs a_0).map .p)]⟩) ?_ ?_
  ·refine nx 1 Z (fB [45] h0 Z (λ c34 h0=>?_) λ c34 h0=>?_)
   ·exact nx 6 Z (mQ (oi h0) Z (sr))
   refine nx 7 Z (bd h0 λ r35 e36 h0=>oK (lh _ a_0.fKey _ e36) Z ⟨sr,trivial⟩ Tryz.call108 Z (nx 2 Z ?_))
   refine fB [49] h0 Z (λ c37 h0=>?_) λ c37 h0=>?_
   ·exact nx 6 Z (mQ (oi h0) Z (sr))
   exact nx 7 Z (mQ (oi h0) Z (sr))
  refine nx 3 Z (bd h1 λ r25 e26 h1=>oK (em _ a_0.fType _ e26) Z ⟨sr,trivial⟩ Tryz.call105 Z (nx 2 Z ?_))
  refine fB [34,35] h1 Z (λ c27 h1=>?_) λ c27 h1=>?_
  ·exact nx 11 Z (eX _ (oi h1).symm (gE Z Z))
  refine nx 2 Z (bd h1 λ r28 e29 h1=>oK (md _ a_0.fType _ e29) Z ⟨sr,trivial⟩ Tryz.call106 Z (nx 2 Z ?_))
  refine fB [38,39,40] h1 Z (λ c30 h1=>?_) λ c30 h1=>?_
  ·exact nx 6 Z (eX _ (oi h1).symm (gE Z Z))
  exact nx 2 Z (bd h1 λ r31 e32 h1=>oK (em _ a_0.fName _ e32) Z ⟨sr,trivial⟩ Tryz.call105 Z (nx 3 Z (eX _ (oi h1).symm (gE Z Z))))
 refine lG (λ (q44:Int)=>⟨[(1,.ptr 1 0),(3,.p (eI q44))],[(1,(ah.cs a_0).map .p)]⟩) (λ m (q44:Int)=>eM n a_0 m q44) Y 0 h1 (gE Z Z) ?_
 rintro m i13 h1
 replace h1:eM n a_0 (m+1) i13=some o40:=h1
 rw [eM] at h1
 refine nx 6 Z (oLl (f:=ag) Z Z (nx 2 Z (fD [12] h1 Z (λ c14 h1=>?_) λ c14 h1=>?_)))
 ·refine nx 10 Z (oE h1 ac.cells_eq Z Z Y λ hk15 h1=>nx 2 Z (bd h1 λ r16 e17 h1=>oK (em _ ((lat a_0.fModule i13).fName) _ e17) Z ⟨sr,trivial⟩ Tryz.call105 Z (nx 2 Z ?_)))
  refine fB [22] h1 Z (λ c18 h1=>?_) λ c18 h1=>?_
  ·exact nx 6 Z (mQ (hR0 _ (oi h1).symm) Z (sr))
  refine nx 7 Z (oE h1 ac.cells_eq Z Z Y λ hk19 h1=>nx 2 Z (bd h1 λ r20 e21 h1=>oK (lh _ ((lat a_0.fModule i13).fKey) _ e21) Z ⟨sr,trivial⟩ Tryz.call108 Z (nx 2 Z ?_)))
  refine fB [30] h1 Z (λ c22 h1=>?_) λ c22 h1=>?_
  ·exact nx 6 Z (mQ (hR0 _ (oi h1).symm) Z (sr))
  exact nx 4 Z (oA h1 Z Z λ hk23 h1=>nx 2 Z (eX (i13+1) h1 (gE Z Z)))
 exact nx 2 Z (eXi _ (oi h1).symm (gE Z Z))
def fe (n:Nat)(l_0:List ac):Nat→Bytes→Int→Option Bytes
 | 0,_,_=>none
 | m+1,s13,i14 =>
 if i14 < (l_0.length:Int) then
  ck (s13.length+([109,111,100,117,108,101,46]:Bytes).length≤9223372036854775807) <|
  ck ((0:Int)≤i14∧i14 < (l_0.length:Int)) <|
  ck ((s13++([109,111,100,117,108,101,46]:Bytes)).length+((lat l_0 i14).fName).length≤9223372036854775807) <|
  ck ((0:Int)≤i14∧i14 < (l_0.length:Int)) <|
  (fV n ((lat l_0 i14).fKey)).bind λ r20 =>
  ck (((s13++([109,111,100,117,108,101,46]:Bytes))++((lat l_0 i14).fName)).length+r20.length≤9223372036854775807) <|
  ck ((((s13++([109,111,100,117,108,101,46]:Bytes))++((lat l_0 i14).fName))++r20).length+([46]:Bytes).length≤9223372036854775807) <|
  ck (inR (i14+1)) <|
  fe n l_0 m ((((s13++([109,111,100,117,108,101,46]:Bytes))++((lat l_0 i14).fName))++r20)++([46]:Bytes)) (i14+1)
 else
  some s13
def mc (n:Nat)(l_0:List ac):Option Bytes :=
 (fe n l_0 n ([]:Bytes) 0).bind λ s27 =>
 some s27
theorem ux (n:Nat)(l_0:List ac)(r:Bytes)(h0:mc n l_0=some r):aC Tryz.prog 84 [eL ag l_0] (·=.p (eS r)):=by
 unfold mc at h0
 refine bc good Tryz.func84 Z Z Z λ w0=>mP (λ v:Bytes=>.p (eS v)) ?_
 refine nx 14 Z (bd h0 λ o29 h1 h0=>?_)
 refine kE 0 o29 (λ v30=>⟨[(3,.p (eS v30))],[]⟩) ?_ ?_
 ·exact nx 7 Z (mQ (oi h0) Z (sr))
 refine lG (λ (q31:Bytes×Int)=>⟨[(0,.p (eL ag l_0)),(3,.p (eS q31.1)),(4,.p (eI q31.2))],[]⟩) (λ m (q31:Bytes×Int)=>fe n l_0 m q31.1 q31.2) Y (([]:Bytes),0) h1 (gE Z Z) ?_
 rintro m ⟨s13,i14⟩ h1
 replace h1:fe n l_0 (m+1) s13 i14=some o29:=h1
 rw [fe] at h1
 refine nx 5 Z (oLl (f:=ag) Z Z (nx 2 Z (fD [8] h1 Z (λ c15 h1=>?_) λ c15 h1=>?_)))
 ·refine nx 4 Z (cc' h1 λ hk16 h1=>cc' h1 λ hk17 h1=>cc' h1 λ hk18 h1=>cc' h1 λ hk19 h1=>bd h1 λ r20 e21 h1=>cc' h1 λ hk22 h1=>cc' h1 λ hk23 h1=>mG (gE (t:=⟨[(0,.p (eL ag l_0)),(3,.p (eS s13)),(4,.p (eI i14))],[]⟩) Z Z) (mSq ⟨1,[16],(λ _=>.none),(by2 [(0,.p (eL ag l_0)),(3,.p (eS s13)),(4,.p (eI i14))] [(0,.p (eL ag l_0)),(4,.p (eI i14))]),(λ _=>[])⟩ Z (dPc (.p (eS s13)) Z (bD (λ _=>.p (eS (s13++([109,111,100,117,108,101,46]:Bytes)))) Z Z Z (hQ Z Y) (lt1 Z) (bs Z (a6 [(11,_)] ⟨.inr ⟨0,_,Z,Z,Z⟩,trivial⟩ (λ sl hsl K hK=>aj Z (br Z Z Z (hsl _ _ Z) Z hk16 hK)) bA)) (dPc (.p (eL ag l_0)) Z (dPc (.p (eI i14)) Z ?_))))))
  refine bD (λ _=>.rptr (ac.cs (lat l_0 i14))) Z Z Z (hQ Z Y) (lt1 Z) (bs Z (a6 [(13,_),(14,_)] ⟨.inr ⟨2,_,Z,Z,Z⟩,.inr ⟨3,_,Z,Z,Z⟩,trivial⟩ (λ sl hsl K hK=>aj Z (dl (f:=ag) (l:=l_0) ac.cs Z Z Z Z Z Z (hsl _ _ Z) Z (hsl _ _ Z) hk17 ac.cells_eq Y hK)) bA)) (dPc (.rptr (List.drop 0 (ac.cs (lat l_0 i14)))) Z ?_)
  refine dPc (.p (eS ((lat l_0 i14).fName))) Z (bD (λ _=>.p (eS ((s13++([109,111,100,117,108,101,46]:Bytes))++((lat l_0 i14).fName)))) Z Z Z (hQ Z Y) (lt1 Z) (bs Z (a6 [(12,_),(17,_)] ⟨.inr ⟨1,_,Z,Z,Z⟩,.inr ⟨6,_,Z,Z,Z⟩,trivial⟩ (λ sl hsl K hK=>aj Z (br Z Z Z (hsl _ _ Z) (hsl _ _ Z) hk18 hK)) bA)) (dPc (.p (eL ag l_0)) Z (dPc (.p (eI i14)) Z ?_)))
  refine bD (λ _=>.rptr (ac.cs (lat l_0 i14))) Z Z Z (hQ Z Y) (lt1 Z) (bs Z (a6 [(19,_),(20,_)] ⟨.inr ⟨8,_,Z,Z,Z⟩,.inr ⟨9,_,Z,Z,Z⟩,trivial⟩ (λ sl hsl K hK=>aj Z (dl (f:=ag) (l:=l_0) ac.cs Z Z Z Z Z Z (hsl _ _ Z) Z (hsl _ _ Z) hk19 ac.cells_eq Y hK)) bA)) (dPc (.rptr (List.drop 1 (ac.cs (lat l_0 i14)))) Z ?_)
  refine dPc (.p (.agg (bS.cs ((lat l_0 i14).fKey)))) Z (bD (λ _=>.p (eS r20)) Z Z Z (hQ Z Y) (lt1 Z) (bs Z (a6 [(23,_)] ⟨.inr ⟨12,_,Z,Z,Z⟩,trivial⟩ (λ sl hsl K hK=>aj Z (bj (lE _ ((lat l_0 i14).fKey) _ e21) Z Z Z (aI (hsl _ _ Z) bh) ⟨sr,trivial⟩ Tryz.call85 Z hK)) bA)) ?_)
  refine bD (λ _=>.p (eS (((s13++([109,111,100,117,108,101,46]:Bytes))++((lat l_0 i14).fName))++r20))) Z Z Z (hQ Z Y) (lt1 Z) (bs Z (a6 [(18,_),(24,_)] ⟨.inr ⟨7,_,Z,Z,Z⟩,.inr ⟨13,_,Z,Z,Z⟩,trivial⟩ (λ sl hsl K hK=>aj Z (br Z Z Z (hsl _ _ Z) (hsl _ _ Z) hk22 hK)) bA)) (bD (λ _=>.p (eS ((((s13++([109,111,100,117,108,101,46]:Bytes))++((lat l_0 i14).fName))++r20)++([46]:Bytes)))) Z Z Z (hQ Z Y) (lt1 Z) (bs Z (a6 [(25,_)] ⟨.inr ⟨14,_,Z,Z,Z⟩,trivial⟩ (λ sl hsl K hK=>aj Z (br Z Z Z (hsl _ _ Z) Z hk23 hK)) bA)) ?_)
  refine gS (λ _=>.p (eS ((((s13++([109,111,100,117,108,101,46]:Bytes))++((lat l_0 i14).fName))++r20)++([46]:Bytes)))) [(26,_)] Z ⟨.inr ⟨15,_,Z,Z,Z⟩,trivial⟩ Z Z Y (lt1 (λ h=>absurd h (by decide))) (λ sl hsl K hK=>aj Z (bp Z Z Z (hsl _ _ Z) hK)) (iL ?_)
  exact nx 3 Z (oA h1 Z Z λ hk24 h1=>nx 2 Z (eX ((((s13++([109,111,100,117,108,101,46]:Bytes))++((lat l_0 i14).fName))++r20)++([46]:Bytes),i14+1) h1 (gE Z Z)))
 exact nx 2 Z (eXi _ (oi h1).symm (gE Z Z))
def jL (n:Nat)(a_0:ah):Option Bytes :=
 (kz n a_0).bind λ r1 =>
 if r1=0 then
  (mc n a_0.fModule).bind λ r4 =>
  (
    if a_0.fData=true then
     ck (r4.length+([100,97,116,97,46]:Bytes).length≤9223372036854775807) <|
     some (r4++([100,97,116,97,46]:Bytes))
    else
     some r4
   : Option Bytes).bind λ s8 =>
  ck (s8.length+a_0.fType.length≤9223372036854775807) <|
  ck ((s8++a_0.fType).length+([46]:Bytes).length≤9223372036854775807) <|
  ck (((s8++a_0.fType)++([46]:Bytes)).length+a_0.fName.length≤9223372036854775807) <|
  (fV n a_0.fKey).bind λ r12 =>
  ck ((((s8++a_0.fType)++([46]:Bytes))++a_0.fName).length+r12.length≤9223372036854775807) <|
  some ((((s8++a_0.fType)++([46]:Bytes))++a_0.fName)++r12)
 else
  some ([]:Bytes)
theorem sF (n:Nat)(a_0:ah)(r:Bytes)(h0:jL n a_0=some r):aC Tryz.prog 54 [.agg (ah.cs a_0)] (·=.p (eS r)):=by
 unfold jL at h0
 refine bc good Tryz.func54 Z Z Z λ w0=>mP (λ v:Bytes=>.p (eS v)) ?_
 refine nx 9 Z (bd h0 λ r1 e2 h0=>oK (tl _ a_0 _ e2) Z ⟨sr,trivial⟩ Tryz.call83 Z (nx 2 Z ?_))
 refine fN [6] h0 Z (λ c3 h0=>?_) λ c3 h0=>?_
 ·refine nx 6 Z (bd h0 λ r4 e5 h0=>oK (ux _ a_0.fModule _ e5) Z ⟨sr,trivial⟩ Tryz.call84 Z (nx 3 Z (bd h0 λ o16 h1 h0=>kN o16 (λ v17=>⟨[(1,.ptr 1 0),(3,.p (eS v17))],[(1,(ah.cs a_0).map .p)]⟩) ?_ ?_)))
  ·refine nx 2 Z (cc' h0 λ hk9 h0=>cc' h0 λ hk10 h0=>cc' h0 λ hk11 h0=>bd h0 λ r12 e13 h0=>cc' h0 λ hk14 h0=>mD [(1,.ptr 1 0),(3,.p (eS o16))] Z ⟨Z,Z,trivial⟩ Z (dR 3 Z (dq (.p (eS (o16++a_0.fType))) [14,16] Z (λ _ e _ q=>aj Z (br Z Z Z (e _ _ Z) (e _ _ Z) hk9 q)) Z (dq (.p (eS ((o16++a_0.fType)++([46]:Bytes)))) [17] Z (λ _ e _ q=>aj Z (br Z Z Z (e _ _ Z) Z hk10 q)) Z (dR 2 Z (dq (.p (eS (((o16++a_0.fType)++([46]:Bytes))++a_0.fName))) [18,20] Z (λ _ e _ q=>aj Z (br Z Z Z (e _ _ Z) (e _ _ Z) hk11 q)) Z (dR 2 Z (dq (.p (eS r12)) [23] Z (λ _ e _ q=>aj Z (bj (lE _ a_0.fKey _ e13) Z Z Z (aI (e _ _ Z) bh) ⟨sr,trivial⟩ Tryz.call85 Z q)) Z (dq (.p (eS ((((o16++a_0.fType)++([46]:Bytes))++a_0.fName)++r12))) [21,24] Z (λ _ e _ q=>aj Z (br Z Z Z (e _ _ Z) (e _ _ Z) hk14 q)) Z (dR 1 Z ?_))))))))))
   refine dE Z (nx 2 Z ?_)
   exact mQ (oi h0) Z (sr)
  refine nx 5 Z (fB [11] h1 Z (λ c6 h1=>?_) λ c6 h1=>?_)
  ·exact nx 3 Z (oC h1 Z λ hk7 h1=>nx 2 Z (eX _ (oi h1).symm (gE Z Z)))
  exact nx 2 Z (eX _ (oi h1).symm (gE Z Z))
 exact nx 6 Z (mQ (oi h0) Z (sr))
end Go.Ab.R06
end
section
namespace Go.Ab.R06
open Go.Ab Go.Ab.RB
theorem Cv (s:Bytes)(hs:s.length≤1000000000):∀ (k i:Nat),i+k=s.length→Ev2 (λ _ m=>bP s m (i:Int)) (·=if mw (xo s) i k then .inl () else .inr false):=by
 intro k
 induction k with
 | zero =>
  intro i hi
  refine aJ ?_
  simp only [bP]
  refine ar O (aa Z)
 | succ k ih =>
  intro i hi
  refine aJ ?_
  simp only [bP]
  refine av O (af O ?_)
  have hb:byt s i=((s.getD i 0).toNat:Int):=d5 s i
  rw [hb]
  have hor:=EY (s.getD i 0)
  have hok:=lA s i
  rw [qF,iW] at hok
  refine ap (!xo s i) ?_ ?_
  ·generalize s.getD i 0=b at hor hok ⊢
   generalize xo s i=o at hok ⊢
   generalize iOr .u8 ((b.toNat:Nat):Int) 32=v at hor ⊢
   have hT:(pB b=true)→o=true:=λ h=>hok.2 (.inl ((qF b).1 h))
   have mk:∀ x:Bool,(x=true↔¬ (((97≤b.toNat∧b.toNat≤122)∨(65≤b.toNat∧b.toNat≤90)∨b.toNat=95)∨(i≠0∧48≤b.toNat∧b.toNat≤57)))→x=!o:=λ x hx=>eqB (by rw [hx,← hok]; simp)
   refine af O (aB (λ h=>aa (mk _ ?_)) (λ h=>aB (λ h1=>?_) (λ h1=>aB (λ h2=>?_) (λ h2=>aa (mk _ ?_)))))
   ·simp; omega
   ·refine aB (λ h3=>aa (mk _ ?_)) (λ h3=>af O (aB (λ h4=>aa (mk _ ?_)) (λ h4=>af O (aa (mk _ ?_)))))
    ·simp; omega
    ·simp; omega
    ·rw [decide_eq_true_eq]; omega
   ·refine aB (λ h3=>aa (mk _ ?_)) (λ h3=>af O (aB (λ h4=>aa (mk _ ?_)) (λ h4=>af O (aa (mk _ ?_)))))
    ·simp; omega
    ·simp; omega
    ·rw [decide_eq_true_eq]; omega
   ·simp; omega
  ·cases hk:xo s i with
   | false=>exact av G (aa (by simp [mw,hk]))
   | true =>
    refine ar G (af (aU O O) ?_)
    have:=ih (i+1) O
    rw [Int.natCast_add,Int.natCast_one] at this
    simpa [mw,hk] using this
theorem qK (s:Bytes)(hs:s.length≤1000000000):Ev2 (λ n _=>cj n s) (·=bX s):=by
 simp only [cj]
 have h:=Cv s hs s.length 0 O
 have hi:=pR s
 cases ha:mw (xo s) 0 s.length with
 | false =>
  rw [ha] at h hi
  refine gA false (a8 h) (eqB ?_)
  rw [hi]; simp
 | true =>
  rw [ha] at h hi
  refine fE () (a8 h) ?_
  refine jU (·=bX s) (aB (λ h=>aa (eqB ?_)) (λ h=>aa (eqB ?_))) (λ t ht=>aa ht)
  ·rw [hi]; simp [h]
  ·rw [hi,decide_eq_true_eq]; simp [h]; omega
theorem wo (b:UInt8):gU (b.toNat:Int)=some (pB b):=by
 simp only [gU]
 have h:=qF b
 generalize pB b=o at h ⊢
 have mk:∀ x:Bool,(x=true↔(97≤b.toNat∧b.toNat≤122)∨(65≤b.toNat∧b.toNat≤90)∨b.toNat=95)→some x=some o:=λ x hx=>congrArg some (eqB (by rw [hx,h]))
 repeat' split
 all_goals (simp only [Option.bind_some]; apply mk; first | (rw [decide_eq_true_eq]; omega) | (simp; omega))
theorem zW (s:Bytes)(hs:s.length≤1000000000):∀ (k i:Nat),i+k=s.length→Ev2 (λ _ m=>dd s m (i:Int)) (·=if mw (λ j=>idB (s.getD j 0)) i k then .inl () else .inr false):=by
 intro k
 induction k with
 | zero =>
  intro i hi
  refine aJ ?_
  simp only [dd]
  refine ar O (aa Z)
 | succ k ih =>
  intro i hi
  refine aJ ?_
  simp only [dd]
  refine av O ?_
  have hb:byt s i=((s.getD i 0).toNat:Int):=d5 s i
  rw [hb]
  refine ap (!idB (s.getD i 0)) ?_ ?_
  ·refine af O (ap _ (aR (wo _) Z) ?_)
   have h:=iW (s.getD i 0)
   simp only [idB]
   generalize s.getD i 0=b at h ⊢
   cases hl:pB b with
   | true=>exact ar G (aa G)
   | false =>
    refine av G (af O (aB (λ h1=>aa ?_) (λ h1=>af O (aa ?_))))
    ·have:dI b=false:=by rw [← Bool.not_eq_true,h]; omega
     simp [this]
    ·refine eqB ?_
     rw [decide_eq_true_eq,Bool.false_or,Bool.not_eq_true',← Bool.not_eq_true,h]
     omega
  ·cases hk:idB (s.getD i 0) with
   | false=>exact av Z (aa (by simp only [mw,hk,Bool.false_and]; rfl))
   | true =>
    refine ar G (af (aU O O) ?_)
    have:=ih (i+1) O
    rw [Int.natCast_add,Int.natCast_one] at this
    simp only [mw,hk,Bool.true_and]
    exact this
theorem ls (s:Bytes)(hs:s.length≤1000000000):Ev2 (λ n _=>cX n s) (·=bX s):=by
 simp only [cX]
 have hi:=sf s
 refine ap (decide (s=[])||decide (64 < (s.length:Int))||!pB (s.getD 0 0)) ?_ ?_
 ·refine aB (λ h=>aa (by simp [h])) (λ h=>aB (λ h1=>aa (by simp [h1])) (λ h1=>af ?_ ?_))
  ·have:=List.length_pos_iff.2 h; omega
  ·refine ap (pB (s.getD 0 0)) (aR (wo _) Z) (aa ?_)
   have:decide (64 < (s.length:Int))=false:=decide_eq_false h1
   simp [h,this]
 ·refine aB (λ h=>aa (eqB ?_)) (λ h=>?_)
  ·rw [hi]; simp at h ⊢; intro q1 q2 q3
   rcases h with (h | h) | h
   ·exact absurd h q1
   ·omega
   ·rw [h] at q3; cases q3
  ·have l:=zW s hs s.length 0 O
   simp only [Bool.or_eq_true,decide_eq_true_eq,not_or] at h
   obtain ⟨⟨h1,h2⟩,h3⟩:=h
   have h3:pB (s.getD 0 0)=true:=by simpa using h3
   cases ha:mw (λ j=>idB (s.getD j 0)) 0 s.length with
   | false =>
    rw [ha] at l hi
    refine gA false (a8 l) (eqB ?_)
    rw [hi]; simp
   | true =>
    rw [ha] at l hi
    refine fE () (a8 l) (aa (eqB ?_))
    rw [hi]; simp only [true_iff]
    exact ⟨h1,by omega,h3,trivial⟩
end Go.Ab.R06
end
section
namespace Go.Ab.R06
open Go.Ab Go.Ab.RB Go.Lib
theorem dK (s p:Bytes):hasPrefix s p=true↔∃ t,s=p++t:=by
 unfold hasPrefix
 rw [List.isPrefixOf_iff_prefix]
 exact ⟨λ ⟨t,h⟩=>⟨t,h.symm⟩,λ ⟨t,h⟩=>⟨t,h.symm⟩⟩
theorem jd (p t:Bytes):hasPrefix (p++t) p=true:=(dK _ _).2 ⟨t,Z⟩
theorem iR (p t:Bytes):trimPrefix (p++t) p=t:=by
 unfold trimPrefix
 rw [jd,if_pos rfl]; simp
theorem mf {s p:Bytes}(h:hasPrefix s p=false):trimPrefix s p=s:=by
 unfold trimPrefix; rw [h]; simp
def ij (r:ai)(p:Bytes):Bool×ai:=(hasPrefix r.frest p,ai.mk (trimPrefix r.frest p) r.fbad)
def gH (r:ai)(p:Bytes):ai:=ai.mk (trimPrefix r.frest p) (r.fbad||!hasPrefix r.frest p)
theorem has_eq (r:ai)(p:Bytes):ez r p=some (ij r p):=rfl
theorem sQ (r:ai)(p:Bytes):dH r p=some (gH r p):=by
 unfold dH strings_CutPrefix gH
 simp only [Option.bind_some]
 cases r.fbad <;> simp
def j4 (b:UInt8):Bool:=decide (b.toNat=46)||decide (b.toNat=91)
def j1:Bytes→Nat
 | []=>0
 | b::r=>if j4 b=true then 0 else j1 r+1
theorem wZ:∀ l:Bytes,j1 l≤l.length
 | []=>Nat.le_refl _
 | b::r=>by
  unfold j1
  have:=wZ r
  split
  ·omega
  ·simp only [List.length_cons]; omega
theorem Bn (b:UInt8):([46,91]:Bytes).contains b=j4 b:=by
 refine eqB ?_
 have h1:b.toNat=46↔b=46:=lJ (by decide)
 have h2:b.toNat=91↔b=91:=lJ (by decide)
 unfold j4
 rw [Bool.or_eq_true,decide_eq_true_eq,decide_eq_true_eq,h1,h2]
 simp
theorem tT:∀ l:Bytes,(if indexAny l [46,91] < 0 then (l.length:Int) else indexAny l [46,91])=(j1 l:Int)
 | []=>rfl
 | b::r=>by
  have ih:=tT r
  have hge:=indexAny_ge [46,91] r
  unfold indexAny j1
  rw [Bn]
  cases hs:j4 b with
  | true=>simp
  | false =>
   simp only [Bool.false_eq_true,if_false,List.length_cons]
   by_cases h:indexAny r [46,91]=-1
   ·rw [h] at ih
    simp only [h,beq_self_eq_true,if_true]
    rw [if_pos (by decide)] at ih ⊢
    omega
   ·have hb:(indexAny r [46,91] == -1)=false:=by simp [h]
    rw [hb]
    rw [if_neg O] at ih
    simp only [Bool.false_eq_true,if_false]
    rw [if_neg O]
    omega
def dp (r:ai):Bytes×ai:=(r.frest.take (j1 r.frest),ai.mk (r.frest.drop (j1 r.frest)) (r.fbad||!bX (r.frest.take (j1 r.frest))))
theorem wb (r:ai)(hs:r.frest.length≤1000000000):Ev2 (λ n _=>co n r) (·=dp r):=by
 simp only [co]
 have hx:strings_IndexAny r.frest [46,91]=some (indexAny r.frest [46,91]):=by
  unfold strings_IndexAny; exact bT ⟨Z,by omega⟩
 have hw:=tT r.frest
 have hle:=wZ r.frest
 refine ap _ (aR hx Z) (ap (j1 r.frest:Int) ?_ ?_)
 ·rw [← hw]
  refine aB (λ h=>aa (by rw [if_pos h])) (λ h=>aa (by rw [if_neg h]))
 ·refine af O (af O ?_)
  have e1:sub r.frest 0 (j1 r.frest:Int)=r.frest.take (j1 r.frest):=by
   show (r.frest.take (j1 r.frest:Int).toNat).drop (0:Int).toNat=_
   simp
  rw [e1,fF,Int.toNat_natCast]
  refine ap (r.fbad||!bX (r.frest.take (j1 r.frest))) ?_ (aa Z)
  cases r.fbad with
  | true=>exact av Z (aa Z)
  | false=>exact ar G (ap _ (qK _ (by rw [List.length_take]; omega)) (aa G))
def cA (k:bS):Bool :=
 if k.fKind=0 then decide (k.fNum=0∧k.fStr=([]:Bytes))
 else if k.fKind=1 then decide (0≤k.fNum∧k.fNum≤iQ∧k.fStr=([]:Bytes))
 else if k.fKind=2 then decide (k.fNum=0)&&(decide (k.fStr.length≤4096)&&validD k.fStr)
 else false
theorem valid_eq (k:bS):gn k=some (cA k):=by
 unfold gn cA
 by_cases h0:k.fKind=0
 ·rw [if_pos h0,if_pos h0]; simp [h0]
 rw [if_neg h0,if_neg h0]
 by_cases h1:k.fKind=1
 ·rw [if_pos h1,if_pos h1]
  by_cases h2:0≤k.fNum
  ·rw [if_pos h2]
   by_cases h3:k.fNum≤9007199254740992
   ·rw [if_pos h3]; simp [h2,iQ,h3]
   ·rw [if_neg h3]; simp [iQ,h3]
  ·rw [if_neg h2]; simp [h2]
 rw [if_neg h1,if_neg h1]
 by_cases h2:k.fKind=2
 ·rw [if_pos h2,if_pos h2]
  by_cases h3:k.fNum=0
  ·rw [if_pos h3,Es]; simp [h3]
  ·rw [if_neg h3]; simp [h3]
 ·rw [if_neg h2,if_neg h2]
def jY:bS:=bS.mk 0 0 []
def idx (l:Bytes)(c:UInt8):Nat:=(indexByte l c).toNat
def kc (r:ai):bS×ai :=
 if r.fbad=true then (jY,r) else if hasPrefix r.frest [91]=false then (jY,r)
 else if hasPrefix (r.frest.drop 1) [34]=true then
  (if (kj (r.frest.drop 1)).2.2=0∧dZ (kj (r.frest.drop 1)).1=(r.frest.drop 1).take (kj (r.frest.drop 1)).2.1.toNat then
   (bS.mk 2 0 (kj (r.frest.drop 1)).1,gH (ai.mk ((r.frest.drop 1).drop (kj (r.frest.drop 1)).2.1.toNat) false) [93])
   else (jY,ai.mk (r.frest.drop 1) true))
 else (bS.mk 1 (rl ((r.frest.drop 1).take (idx (r.frest.drop 1) 93))).1 [],
   gH (ai.mk ((r.frest.drop 1).drop (idx (r.frest.drop 1) 93)) (!(decide ((rl ((r.frest.drop 1).take (idx (r.frest.drop 1) 93))).2=0)&&!decide ((rl ((r.frest.drop 1).take (idx (r.frest.drop 1) 93))).1 < 0)))) [93])
theorem oz (l:Bytes)(n:Int):sub l 0 n=l.take n.toNat:=by
 show (l.take n.toNat).drop (0:Int).toNat=_
 simp
theorem index_le:∀ (l:Bytes) (c:UInt8),indexByte l c≤l.length
 | [],_=>by simp [indexByte]
 | b::r,c=>by
  have:=index_le r c
  unfold indexByte
  simp only [List.length_cons]
  split
  ·omega
  ·split <;> omega
theorem Cc (r:ai)(hs:r.frest.length≤900000000):Ev2 (λ n _=>cO n r) (·=kc r):=by
 simp only [cO]
 cases hb:r.fbad with
 | true =>
  refine ap (true,r.frest,r.fbad) (av Z (aa (by rw [hb]))) (av Z (aa ?_))
  unfold kc
  rw [if_pos hb]; rfl
 | false =>
  cases hp:hasPrefix r.frest [91] with
  | false =>
   refine ap (true,r.frest,r.fbad) (ar G (ap _ (aR (has_eq _ _) Z) (aa ?_))) (av Z (aa ?_))
   ·unfold ij; simp only [hp,mf hp,Bool.not_false]
   ·unfold kc
    rw [if_neg (by simp [hb]),if_pos hp]; rfl
  | true =>
   obtain ⟨t,ht⟩:=(dK _ _).1 hp
   have hd:r.frest.drop 1=t:=by rw [ht]; rfl
   have htl:t.length≤900000000:=by rw [ht] at hs; simp at hs; omega
   refine ap (false,t,false) (ar G (ap _ (aR (has_eq _ _) Z) (aa ?_))) (ar G ?_)
   ·unfold ij; simp only [hp,Bool.not_true,hb]; rw [ht,iR]
   unfold kc
   rw [if_neg (by simp [hb]),if_neg (by simp [hp]),hd]
   have hx:strings_HasPrefix t [34]=some (hasPrefix t [34]):=rfl
   cases hq:hasPrefix t [34] with
   | true =>
    rw [hq] at hx
    have hle:=zm t
    have hu:=Fa t O
    rw [if_pos rfl]
    generalize kj t=U at hle hu ⊢
    obtain ⟨x,n,e⟩:=U
    simp only at hle ⊢
    by_cases he:e=0∧dZ x=t.take n.toNat
    ·rw [if_pos he]
     refine nY (ap _ (aR hx Z) (av Z (ap _ hu (ap false ?_ (ar G (af (by dsimp only; omega) (aa ?_)))))))
     ·refine av he.1 (ap _ (tB x O) (af (by dsimp only; omega) (aa ?_)))
      rw [oz,decide_eq_true he.2]; rfl
     ·refine ap _ (aR (sQ _ _) Z) (aa ?_)
      rw [fF]
    ·rw [if_neg he]
     refine nY (ap _ (aR hx Z) (av Z (ap _ hu (ap true ?_ (av Z (aa ?_))))))
     ·by_cases h0:e=0
      ·refine av h0 (ap _ (tB x O) (af (by dsimp only; omega) (aa ?_)))
       rw [oz,decide_eq_false (λ q=>he ⟨h0,q⟩)]; rfl
      ·exact ar h0 (aa Z)
     ·rfl
   | false =>
    rw [hq] at hx
    rw [if_neg G]
    have hi:strings_IndexByte t 93=some (indexByte t 93):=rfl
    have hge:=indexByte_ge t 93
    have hle:=index_le t 93
    have hm:(if indexByte t 93 < 0 then (0:Int) else indexByte t 93)=(idx t 93:Int):=by
     unfold idx
     split <;> omega
    have hil:(idx t 93:Int)≤t.length:=by rw [← hm]; split <;> omega
    refine nY (ap _ (aR hx Z) (ar G (ap _ (aR hi Z) ?_)))
    rw [hm]
    refine af (by dsimp only; omega) ?_
    rw [oz,Int.toNat_natCast]
    refine ap _ (wR _ (by rw [List.length_take]; omega)) ?_
    generalize rl (t.take (idx t 93))=N
    obtain ⟨v,e⟩:=N
    simp only
    refine ap (!(decide (e=0)&&!decide (v < 0))) ?_ (af O (aa ?_))
    ·refine aB (λ h=>aa (by simp [h])) (λ h=>aa (by simp [h]))
    ·refine ap _ (aR (sQ _ _) Z) (aa ?_)
     rw [fF,Int.toNat_natCast]
def stepT (r:ai):ac×ai:=(ac.mk (dp r).1 (kc (dp r).2).1,(kc (dp r).2).2)
theorem C4 (r:ai)(hs:r.frest.length≤900000000):Ev2 (λ n _=>db n r) (·=stepT r):=by
 simp only [db]
 refine ap _ (wb r O) (ap _ (Cc (dp r).2 ?_) (aa Z))
 show (r.frest.drop _).length≤_
 rw [List.length_drop]; omega
def iS:Bytes:=[109,111,100,117,108,101,46]
def gB:Nat→List ac→ai→List ac×ai
 | 0,ms,r=>(ms,r)
 | n+1,ms,r=>if r.fbad=false∧hasPrefix r.frest iS=true then
   gB n (ms++[(stepT (ai.mk (r.frest.drop 7) false)).1]) (gH (stepT (ai.mk (r.frest.drop 7) false)).2 [46])
  else (ms,r)
theorem mE (s p:Bytes):(trimPrefix s p).length≤s.length:=trimPrefix_le s p
theorem A9 (r:ai):(kc r).2.frest.length≤r.frest.length:=by
 unfold kc
 split
 ·exact Nat.le_refl _
 split
 ·exact Nat.le_refl _
 split
 ·split
  ·unfold gH
   have:=mE ((r.frest.drop 1).drop (kj (r.frest.drop 1)).2.1.toNat) [93]
   simp only [List.length_drop] at this ⊢; omega
  ·simp
 ·unfold gH
  have:=mE ((r.frest.drop 1).drop (idx (r.frest.drop 1) 93)) [93]
  simp only [List.length_drop] at this ⊢; omega
theorem u9 (r:ai):(stepT r).2.frest.length≤r.frest.length:=by
 unfold stepT
 have:=A9 (dp r).2
 have h2:(dp r).2.frest.length≤r.frest.length:=by
  show (r.frest.drop _).length≤_
  rw [List.length_drop]; omega
 simp only; omega
theorem uW (r:ai)(p:Bytes):(gH r p).frest.length≤r.frest.length:=mE _ _
theorem qH {s p:Bytes}(h:hasPrefix s p=true):p.length≤s.length:=by
 obtain ⟨t,rfl⟩:=(dK _ _).1 h; simp
theorem Cs:∀ (k:Nat) (ms:List ac) (r:ai),r.frest.length < k→r.frest.length+ms.length≤900000000→Ev2 (λ n m=>cZ n m ms r.frest r.fbad) (·=((gB k ms r).1,(gB k ms r).2.frest,(gB k ms r).2.fbad)):=by
 intro k
 induction k with
 | zero=>intro ms r h; omega
 | succ k ih =>
  intro ms r hk hl
  refine aJ ?_
  simp only [cZ]
  unfold gB
  by_cases hc:r.fbad=false∧hasPrefix r.frest iS=true
  ·rw [if_pos hc]
   have hpl:=qH hc.2
   obtain ⟨t,ht⟩:=(dK _ _).1 hc.2
   have hd:r.frest.drop 7=t:=by rw [ht]; rfl
   have htl:t.length+7=r.frest.length:=by rw [ht]; simp [iS] <;> omega
   rw [hd]
   refine ap (true,t,false) (av (by simp [hc.1]) (ap _ (aR (has_eq _ _) Z) (aa ?_))) (av Z ?_)
   ·unfold ij
    show (hasPrefix r.frest iS,trimPrefix r.frest iS,r.fbad)=_
    rw [hc.2,hc.1,ht,iR]
   refine ap _ (C4 (ai.mk t false) (by simp only; omega)) (af (by simp; omega) (ap _ (aR (sQ _ _) Z) ?_))
   have h1:=u9 (ai.mk t false)
   have h2:=uW (stepT (ai.mk t false)).2 [46]
   simp only at h1
   exact ih _ _ O (by simp; omega)
  ·rw [if_neg hc]
   refine ap (false,r.frest,r.fbad) ?_ (ar G (aa Z))
   cases hb:r.fbad with
   | true=>exact ar G (aa Z)
   | false =>
    have hp:hasPrefix r.frest iS=false:=by
     cases h:hasPrefix r.frest iS with
     | false=>rfl
     | true=>exact absurd ⟨hb,h⟩ hc
    refine av Z (ap _ (aR (has_eq _ _) Z) (aa ?_))
    unfold ij
    show (hasPrefix r.frest iS,trimPrefix r.frest iS,_)=_
    rw [hp,mf hp]
def fg (s:Bytes):Bool:=([[109,111,100,117,108,101],[100,97,116,97],[118,97,114],[108,111,99,97,108],[101,97,99,104],[99,111,117,110,116],[114,101,109,111,116,101],[111,117,116,112,117,116],[112,97,116,104],[115,101,108,102],[99,104,97,110,103,101]]:List Bytes).contains s
def ig (s:Bytes):Bool:=!fg s&&bX s
theorem za (s:Bytes)(hs:s.length≤1000000000):Ev2 (λ n _=>eh n s) (·=ig s):=by
 simp only [eh]
 refine ap (fg s) ?_ ?_
 ·unfold fg
  simp only [List.contains_cons,List.contains_nil,Bool.or_false]
  repeat' refine aB (λ h=>aa (by simp [h])) (λ h=>?_)
  refine aa (eqB ?_)
  simp [*]
 ·unfold ig
  cases fg s with
  | true=>exact av Z (aa Z)
  | false=>exact ar G (ap _ (qK s hs) (aa G))
def bE:Bytes:=[100,97,116,97,46]
def my:ah:=ah.mk [] false [] [] jY
def ge (r:ai):Bool×Bytes×Bytes×bS×ai :=
 let h:=ij r bE
 let t:=dp h.2
 let n:=dp (gH t.2 [46])
 let k:=kc n.2
 (h.1,t.1,n.1,k.1,k.2)
def js (s:Bytes):ah×Int :=
 let p:=gB (s.length+1) [] (ai.mk s false)
 let t:=ge p.2
 if t.2.2.2.2.fbad=true∨t.2.2.2.2.frest≠[]∨ig t.2.1=false then (my,2)
 else if 16 < p.1.length then (my,4)
 else (ah.mk p.1 t.1 t.2.1 t.2.2.1 t.2.2.2.1,0)
theorem tN:∀ (k:Nat) (ms:List ac) (r:ai),(gB k ms r).2.frest.length≤r.frest.length
 | 0,_,_=>Nat.le_refl _
 | k+1,ms,r=>by
  unfold gB
  split
  ·have h1:=u9 (ai.mk (r.frest.drop 7) false)
   have h2:=uW (stepT (ai.mk (r.frest.drop 7) false)).2 [46]
   have h3:=tN k (ms++[(stepT (ai.mk (r.frest.drop 7) false)).1]) (gH (stepT (ai.mk (r.frest.drop 7) false)).2 [46])
   simp only [List.length_drop] at h1
   omega
  ·exact Nat.le_refl _
theorem Bz (s:Bytes)(hs:s.length≤800000000):Ev2 (λ n _=>fp n s) (·=js s):=by
 simp only [fp]
 have l:=Cs (s.length+1) [] (ai.mk s false) G (by simp; omega)
 have hl:=tN (s.length+1) [] (ai.mk s false)
 refine ap _ (a8 l) ?_
 unfold js
 generalize gB (s.length+1) [] (ai.mk s false)=p at hl ⊢
 obtain ⟨ms,r⟩:=p
 simp only at hl ⊢
 have e:ai.mk r.frest r.fbad=r:=rfl
 rw [e]
 have l1:(ij r bE).2.frest.length≤s.length:=Nat.le_trans (mE _ _) hl
 refine ap _ (aR (has_eq r _) Z) (ap _ (wb _ (Nat.le_trans l1 O)) (ap _ (aR (sQ _ _) Z) ?_))
 have l2:(gH (dp (ij r bE).2).2 [46]).frest.length≤s.length:=by
  refine Nat.le_trans (mE _ _) ?_
  show ((ij r bE).2.frest.drop _).length≤_
  rw [List.length_drop]; omega
 refine ap _ (wb _ (Nat.le_trans l2 O)) ?_
 have l3:(dp (gH (dp (ij r bE).2).2 [46])).2.frest.length≤s.length:=by
  show (List.drop _ _).length≤_
  rw [List.length_drop]; omega
 refine ap _ (Cc _ (Nat.le_trans l3 O)) ?_
 show Ev2 _ (·=(if (ge r).2.2.2.2.fbad=true∨(ge r).2.2.2.2.frest≠[]∨ig (ge r).2.1=false then (my,2) else if 16 < ms.length then (my,4) else (ah.mk ms (ge r).1 (ge r).2.1 (ge r).2.2.1 (ge r).2.2.2.1,0)))
 have l4:(dp (ij r bE).2).1.length≤1000000000:=by
  show (List.take _ _).length≤_
  rw [List.length_take]; omega
 have hk:=za _ l4
 show Ev2 (λ n m=>((if (ge r).2.2.2.2.fbad=true then some true else if (ge r).2.2.2.2.frest=([]:Bytes) then (eh n (ge r).2.1).bind λ r49=>some (!r49) else some true:Option Bool)).bind λ t51=>_) _
 have hk:Ev2 (λ n _=>eh n (ge r).2.1) (·=ig (ge r).2.1):=hk
 refine ap (decide ((ge r).2.2.2.2.fbad=true∨(ge r).2.2.2.2.frest≠[]∨ig (ge r).2.1=false)) ?_ ?_
 ·refine aB (λ h=>aa (by simp [h])) (λ h=>aB (λ h1=>ap _ hk (aa ?_)) (λ h1=>aa (by simp [h1])))
  cases ig (ge r).2.1 <;> simp [h,h1]
 ·refine aB (λ h=>aa ?_) (λ h=>?_)
  ·rw [if_pos (of_decide_eq_true h)]; rfl
  ·rw [if_neg (λ q=>h (decide_eq_true q))]
   refine aB (λ h=>aa ?_) (λ h=>aa ?_)
   ·rw [if_pos O]; rfl
   ·rw [if_neg O]; rfl
end Go.Ab.R06
namespace Go.Ab.R06
open Go.Ab Go.Ab.RB Go.Lib
def jk:List ac→Int
 | []=>0
 | x::r=>if bX x.fName=false then 7 else if cA x.fKey=false then 1 else jk r
def nr (a:ah):Int :=
 if 16 < a.fModule.length then 4 else if jk a.fModule≠0 then jk a.fModule
 else if ig a.fType=false∨bX a.fName=false then 7 else if cA a.fKey=false then 1 else 0
def Sm (a:ah):Prop:=a.fModule.length≤100000∧a.fType.length≤100000∧a.fName.length≤100000∧∀ x∈a.fModule,x.fName.length≤100000
theorem AY (a:ah)(ha:Sm a):∀ (k i:Nat),i+k=a.fModule.length→Ev2 (λ n m=>cG n a m (i:Int)) (·=if jk (a.fModule.drop i)=0 then .inl () else .inr (jk (a.fModule.drop i))):=by
 intro k
 induction k with
 | zero =>
  intro i hi
  refine aJ ?_
  simp only [cG]
  refine ar O (aa ?_)
  rw [List.drop_of_length_le O]; rfl
 | succ k ih =>
  intro i hi
  refine aJ ?_
  simp only [cG]
  have hil:i < a.fModule.length:=by omega
  refine av O (af O ?_)
  rw [cI _ _ hil,List.drop_eq_getElem_cons hil]
  have hx:=ha.2.2.2 _ (List.getElem_mem hil)
  have:=ih (i+1) O
  have hlen:=ha.1
  generalize a.fModule[i]=x at hx ⊢
  unfold jk
  refine ap _ (qK x.fName O) ?_
  cases h1:bX x.fName with
  | false=>exact av Z (aa G)
  | true =>
   refine ar G (ap _ (aR (valid_eq _) Z) ?_)
   cases h2:cA x.fKey with
   | false=>exact av Z (aa G)
   | true =>
    refine ar G (af (aU O O) ?_)
    rw [Int.natCast_add,Int.natCast_one] at this
    simpa using this
theorem Cn (a:ah)(ha:Sm a):Ev2 (λ n _=>fv n a) (·=nr a):=by
 simp only [fv]
 unfold nr
 refine aB (λ h=>aa (by rw [if_pos O])) (λ h=>?_)
 rw [if_neg (show ¬ 16 < a.fModule.length by omega)]
 have l:=AY a ha a.fModule.length 0 O
 rw [List.drop_zero] at l
 by_cases he:jk a.fModule=0
 ·rw [if_pos he] at l
  rw [if_neg (by simp [he])]
  refine fE () (a8 l) ?_
  refine ap (decide (ig a.fType=false∨bX a.fName=false)) ?_ ?_
  ·refine ap _ (za _ (by have:=ha.2.1; omega)) ?_
   cases ig a.fType with
   | false=>exact av Z (aa G)
   | true =>
    refine ar G (ap _ (qK _ (by have:=ha.2.2.1; omega)) (aa ?_))
    cases bX a.fName <;> simp
  ·refine aB (λ h=>aa (by rw [if_pos (of_decide_eq_true h)])) (λ h=>?_)
   rw [if_neg (λ q=>h (decide_eq_true q))]
   refine ap _ (aR (valid_eq _) Z) ?_
   cases cA a.fKey with
   | false=>exact av Z (aa G)
   | true=>exact ar G (aa G)
 ·rw [if_neg he] at l
  rw [if_pos he]
  exact gA _ (a8 l) Z
theorem rY:∀ ms:List ac,jk ms=0↔∀ x∈ms,bX x.fName=true∧cA x.fKey=true
 | []=>by simp [jk]
 | x::r=>by
  have ih:=rY r
  unfold jk
  cases h1:bX x.fName with
  | false=>simp [h1]
  | true =>
   cases h2:cA x.fKey with
   | false=>simp [h1,h2]
   | true=>simp [h1,h2,ih]
theorem l7 (a:ah):nr a=0↔a.fModule.length≤16∧(∀ x∈a.fModule,bX x.fName=true∧cA x.fKey=true)∧ig a.fType=true∧bX a.fName=true∧cA a.fKey=true:=by
 rw [← rY]
 unfold nr
 by_cases h:16 < a.fModule.length
 ·rw [if_pos h]; simp; omega
 rw [if_neg h]
 by_cases h2:jk a.fModule=0
 ·rw [if_neg (by simp [h2])]
  cases ig a.fType <;> cases bX a.fName <;> cases cA a.fKey <;> simp [h2] <;> omega
 ·rw [if_pos h2]
  constructor
  ·intro q; exact absurd q h2
  ·intro q; exact q.2.1
theorem eA {s:Bytes}(h:bX s=true):s.length≤64:=((pR s).1 h).2.1
def aO (k:bS):Bytes:=if cA k=false∨k.fKind=0 then [] else if k.fKind=1 then [91]++itoa k.fNum++[93] else [91]++dZ k.fStr++[93]
def bK (x:ac):Bytes:=iS++x.fName++aO x.fKey++[46]
def gG (a:ah):Bytes:=a.fModule.flatMap bK++((if a.fData=true then bE else [])++(a.fType++[46]++a.fName++aO a.fKey))
def nw (a:ah):Bytes:=if nr a=0 then gG a else []
theorem nc {k:bS}(h:cA k=true)(h1:k.fKind=1):0≤k.fNum∧k.fNum≤iQ∧k.fStr=[]:=by
 unfold cA at h
 rw [if_neg O,if_pos h1] at h
 exact of_decide_eq_true h
theorem ks {k:bS}(h:cA k=true):k.fKind=0∨k.fKind=1∨k.fKind=2:=by
 unfold cA at h
 split at h
 ·left; assumption
 split at h
 ·right; left; assumption
 split at h
 ·right; right; assumption
 ·cases h
theorem na {k:bS}(h:cA k=true)(h1:k.fKind=2):k.fNum=0∧k.fStr.length≤4096∧validD k.fStr=true:=by
 unfold cA at h
 rw [if_neg O,if_neg O,if_pos h1] at h
 simpa using h
theorem uF {k:bS}(h:cA k=true)(h1:k.fKind=0):k=jY:=by
 unfold cA at h
 rw [if_pos h1] at h
 have:=of_decide_eq_true h
 cases k
 simp only at *
 rw [h1,this.1,this.2]; rfl
theorem re (s:Bytes):(dZ s).length≤6*s.length+2:=by
 have:=(tR s).2
 unfold dZ
 simp only [List.length_cons,List.length_append,List.length_nil]; omega
theorem kU (k:bS):(aO k).length≤24600:=by
 unfold aO
 split
 ·simp
 ·rename_i h
  have hk:cA k=true:=by
   cases hh:cA k with
   | true=>rfl
   | false=>exact absurd (.inl hh) h
  split
  ·rename_i h1
   have hn:=nc hk h1
   have:=qm hn.1 hn.2.1
   simp only [List.length_append,List.length_cons,List.length_nil]; omega
  ·rename_i h1
   have h2:k.fKind=2:=by
    rcases ks hk with q | q | q
    ·exact absurd (.inr q) h
    ·exact absurd q h1
    ·exact q
   have hs:=na hk h2
   have:=re k.fStr
   simp only [List.length_append,List.length_cons,List.length_nil]; omega
theorem zh (k:bS):Ev2 (λ n _=>dk n k) (·=aO k):=by
 simp only [dk]
 unfold aO
 refine ap (decide (cA k=false∨k.fKind=0)) ?_ ?_
 ·refine ap _ (aR (valid_eq _) Z) ?_
  cases cA k with
  | false=>exact av Z (aa G)
  | true=>exact ar G (aa G)
 ·refine aB (λ h=>aa (by rw [if_pos (of_decide_eq_true h)])) (λ h=>?_)
  have h:=λ q=>h (decide_eq_true q)
  rw [if_neg h]
  have hk:cA k=true:=by
   cases hh:cA k with
   | true=>rfl
   | false=>exact absurd (.inl hh) h
  refine aB (λ h1=>?_) (λ h1=>?_)
  ·rw [if_pos h1]
   have hn:=nc hk h1
   have hl:=qm hn.1 hn.2.1
   have hf:iT k.fNum=some (itoa k.fNum):=by
    unfold iT strconv_Itoa
    rw [bT (aU O (by have:=hn.2.1; unfold iQ at this; omega))]; rfl
   refine ap _ (aR hf Z) (af (by simp only [List.length_cons,List.length_nil]; omega) (af (by simp only [List.length_append,List.length_cons,List.length_nil]; omega) (aa Z)))
  ·rw [if_neg h1]
   have h2:k.fKind=2:=by
    rcases ks hk with q | q | q
    ·exact absurd (.inr q) h
    ·exact absurd q h1
    ·exact q
   have hs:=na hk h2
   have hl:=re k.fStr
   refine ap _ (tB _ O) (af (by simp only [List.length_cons,List.length_nil]; omega) (af (by simp only [List.length_append,List.length_cons,List.length_nil]; omega) (aa Z)))
theorem nh {x:ac}(h:bX x.fName=true):(bK x).length≤25000:=by
 have h1:=eA h
 have h2:=kU x.fKey
 unfold bK iS
 simp only [List.length_append,List.length_cons,List.length_nil]; omega
theorem rJ:∀ (ms:List ac),(∀ x∈ms,bX x.fName=true)→(ms.flatMap bK).length≤25000*ms.length
 | [],_=>by simp
 | x::r,h=>by
  have:=rJ r λ y hy=>h y (List.mem_cons_of_mem _ hy)
  have h1:=nh (h x List.mem_cons_self)
  simp only [List.flatMap_cons,List.length_append,List.length_cons]; omega
theorem Al (a:ah)(hm:a.fModule.length≤16)(ha:∀ x∈a.fModule,bX x.fName=true):∀ (k i:Nat) (f:Bytes),i+k=a.fModule.length→f.length≤25000*i→Ev2 (λ n m=>cu n a m (i:Int) f) (·=f++(a.fModule.drop i).flatMap bK):=by
 intro k
 induction k with
 | zero =>
  intro i f hi hf
  refine aJ ?_
  simp only [cu]
  refine ar O (aa ?_)
  rw [List.drop_of_length_le O]; simp
 | succ k ih =>
  intro i f hi hf
  refine aJ ?_
  simp only [cu]
  have hil:i < a.fModule.length:=by omega
  refine av O (af O ?_)
  rw [cI _ _ hil,List.drop_eq_getElem_cons hil]
  have hx:=ha _ (List.getElem_mem hil)
  generalize a.fModule[i]=x at hx ⊢
  have h1:=eA hx
  have h2:=kU x.fKey
  have h3:=nh hx
  refine af (by simp only [List.length_cons,List.length_nil]; omega) (ap _ (zh x.fKey) ?_)
  refine af (by simp only [List.length_append,List.length_cons,List.length_nil]; omega) (af (by simp only [List.length_append,List.length_cons,List.length_nil]; omega) ?_)
  have e:((([109,111,100,117,108,101,46]:Bytes)++x.fName)++aO x.fKey)++([46]:Bytes)=bK x:=rfl
  rw [e]
  refine ap _ (aR (xS f (bK x) O) Z) (af (aU O O) ?_)
  have:=ih (i+1) (f++bK x) O (by rw [List.length_append]; omega)
  rw [Int.natCast_add,Int.natCast_one] at this
  simpa using this
theorem Ax (a:ah)(ha:Sm a):Ev2 (λ n _=>eH n a) (·=nw a):=by
 simp only [eH]
 unfold nw
 refine ap _ (Cn a ha) (aB (λ h=>?_) (λ h=>aa (by rw [if_neg h])))
 rw [if_pos h]
 obtain ⟨c1,c2,c3,c4,c5⟩:=(l7 a).1 h
 have l:=Al a c1 (λ x hx=>(c2 x hx).1) a.fModule.length 0 [] O G
 have hl:=rJ a.fModule (λ x hx=>(c2 x hx).1)
 rw [List.drop_zero] at l
 refine ap _ (a8 l) ?_
 unfold gG
 generalize a.fModule.flatMap bK=st at hl ⊢
 have h1:a.fType.length≤64:=by
  unfold ig at c3
  rw [Bool.and_eq_true] at c3
  exact eA c3.2
 have h2:=eA c4
 have h3:=kU a.fKey
 refine ap (st++(if a.fData=true then bE else [])) ?_ ?_
 ·refine aB (λ h=>?_) (λ h=>aa (by rw [if_neg h]; simp))
  rw [if_pos h]
  exact ap _ (aR (xS _ [100,97,116,97,46] (by simp only [List.nil_append,List.length_cons,List.length_nil]; omega)) Z) (aa (by simp [bE]))
 ·have hd:(if a.fData=true then bE else ([]:Bytes)).length≤5:=by split <;> simp [bE]
  refine af (by simp only [List.length_cons,List.length_nil]; omega) (af (by simp only [List.length_append,List.length_cons,List.length_nil]; omega) (ap _ (zh a.fKey) (af (by simp only [List.length_append,List.length_cons,List.length_nil]; omega) ?_)))
  refine ap _ (aR (xS _ _ (by simp only [List.length_append,List.length_cons,List.length_nil]; omega)) Z) (ap _ (aR (E8 _ (by simp only [List.length_append,List.length_cons,List.length_nil]; omega)) Z) (aa ?_))
  simp
theorem lM {r:ai}(h:(dp r).2.fbad=false):r.fbad=false∧bX (dp r).1=true∧r.frest=(dp r).1++(dp r).2.frest:=by
 unfold dp at *
 simp only [Bool.or_eq_false_iff,Bool.not_eq_false'] at h
 exact ⟨h.1,h.2,(List.take_append_drop _ _).symm⟩
theorem lN {r:ai}{p:Bytes}(h:(gH r p).fbad=false):r.fbad=false∧r.frest=p++(gH r p).frest:=by
 unfold gH at *
 simp only [Bool.or_eq_false_iff,Bool.not_eq_false'] at h
 obtain ⟨t,ht⟩:=(dK _ _).1 h.2
 refine ⟨h.1,?_⟩
 simp only
 rw [ht,iR]
theorem rm {r:ai}(h:(kc r).2.fbad=false):r.fbad=false∧cA (kc r).1=true∧r.frest=aO (kc r).1++(kc r).2.frest:=by
 have hno:cA jY=true∧aO jY=[]:=⟨Z,Z⟩
 unfold kc at *
 by_cases hb:r.fbad=true
 ·rw [if_pos hb] at h; rw [hb] at h; cases h
 rw [if_neg hb] at h ⊢
 have hb:r.fbad=false:=by simpa using hb
 by_cases hp:hasPrefix r.frest [91]=false
 ·rw [if_pos hp] at h ⊢
  exact ⟨hb,hno.1,by rw [hno.2]; rfl⟩
 rw [if_neg hp] at h ⊢
 obtain ⟨l,hl⟩:=(dK _ _).1 (by simpa using hp)
 have hd:r.frest.drop 1=l:=by rw [hl]; rfl
 rw [hd] at h ⊢
 by_cases hq:hasPrefix l [34]=true
 ·rw [if_pos hq] at h ⊢
  have hok:=@ww l
  generalize kj l=U at h hok ⊢
  obtain ⟨x,n,e⟩:=U
  simp only at h ⊢
  by_cases he:e=0∧dZ x=l.take n.toNat
  ·rw [if_pos he] at h ⊢
   obtain ⟨rfl,he⟩:=he
   have hx:=hok Z
   have hs:=lN h
   have hko:cA (bS.mk 2 0 x)=true:=by
    unfold cA
    simp [hx.1,hx.2.1]
   refine ⟨hb,hko,?_⟩
   have ht:aO (bS.mk 2 0 x)=[91]++dZ x++[93]:=by
    unfold aO
    rw [if_neg (by rw [hko]; simp),if_neg G]
   rw [ht,hl,he]
   have h2:=hs.2
   simp only at h2
   rw [List.append_assoc,List.append_assoc,← h2,List.take_append_drop]
  ·rw [if_neg he] at h; cases h
 ·rw [if_neg hq] at h ⊢
  have hs:=lN h
  simp only at hs
  generalize hN:rl (l.take (idx l 93))=N at h hs ⊢
  obtain ⟨v,e⟩:=N
  simp only at hs h ⊢
  have h1:=hs.1
  have he:e=0∧¬ v < 0:=by simpa using h1
  obtain ⟨rfl,hv⟩:=he
  have hi:=zZ _ _ hN O
  have hko:cA (bS.mk 1 v [])=true:=by
   unfold cA
   simp; exact ⟨by omega,hi.2⟩
  refine ⟨hb,hko,?_⟩
  have ht:aO (bS.mk 1 v [])=[91]++itoa v++[93]:=by
   unfold aO
   rw [if_neg (by rw [hko]; simp),if_pos rfl]
  rw [ht,hl,hi.1,List.append_assoc,List.append_assoc,← hs.2,List.take_append_drop]
theorem nj:∀ (k:Nat) (ms:List ac) (r:ai),(gB k ms r).2.fbad=false→r.fbad=false∧∃ new,(gB k ms r).1=ms++new∧r.frest=new.flatMap bK++(gB k ms r).2.frest∧∀ x∈new,bX x.fName=true∧cA x.fKey=true
 | 0,ms,r,h=>⟨h,[],by simp [gB],by simp [gB],by simp⟩
 | k+1,ms,r,h=>by
  unfold gB at h ⊢
  by_cases hc:r.fbad=false∧hasPrefix r.frest iS=true
  ·rw [if_pos hc] at h ⊢
   obtain ⟨t,ht⟩:=(dK _ _).1 hc.2
   have hd:r.frest.drop 7=t:=by rw [ht]; rfl
   rw [hd] at h ⊢
   obtain ⟨b1,new,e1,e2,e3⟩:=nj k _ _ h
   have s1:=lN b1
   have s2:(kc (dp (ai.mk t false)).2).2.fbad=false:=s1.1
   have s3:=rm s2
   have s4:=lM s3.1
   have hs1:(kc (dp (ai.mk t false)).2).2.frest=[46]++(gH (stepT (ai.mk t false)).2 [46]).frest:=s1.2
   refine ⟨hc.1,(stepT (ai.mk t false)).1::new,by rw [e1]; simp,?_,?_⟩
   ·rw [ht,List.flatMap_cons]
    have h4:=s4.2.2
    simp only at h4
    show iS++t=(iS++(dp (ai.mk t false)).1++aO (kc (dp (ai.mk t false)).2).1++[46]++new.flatMap bK)++_
    simp only [List.append_assoc]
    rw [← e2,← hs1,← s3.2.2,← h4]
   ·intro x hx
    rcases List.mem_cons.1 hx with rfl | hx
    ·exact ⟨s4.2.1,s3.2.1⟩
    ·exact e3 x hx
  ·rw [if_neg hc] at h ⊢
   exact ⟨h,[],by simp,by simp,by simp⟩
theorem sv {s:Bytes}{a:ah}(h:js s=(a,0)):nr a=0∧gG a=s∧Sm a:=by
 unfold js at h
 simp only at h
 have hL:=nj (s.length+1) [] (ai.mk s false)
 generalize gB (s.length+1) [] (ai.mk s false)=p at h hL
 obtain ⟨ms,r⟩:=p
 simp only at h hL
 split at h
 ·cases h
 ·rename_i h0
  split at h
  ·cases h
  ·rename_i h1
   cases h
   simp only [not_or] at h0
   obtain ⟨hb,hr,hk⟩:=h0
   have hb:(ge r).2.2.2.2.fbad=false:=by simpa using hb
   have hr:(ge r).2.2.2.2.frest=[]:=by simpa using hr
   have hk:ig (ge r).2.1=true:=by simpa using hk
   have hb:(kc (dp (gH (dp (ij r bE).2).2 [46])).2).2.fbad=false:=hb
   have hr:(kc (dp (gH (dp (ij r bE).2).2 [46])).2).2.frest=[]:=hr
   have hk:ig (dp (ij r bE).2).1=true:=hk
   have s1:=rm hb
   have s2:=lM s1.1
   have s3:=lN s2.1
   have s4:=lM s3.1
   have hrb:r.fbad=false:=s4.1
   obtain ⟨_,new,e1,e2,e3⟩:=hL hrb
   simp only [List.nil_append] at e1
   subst e1
   have hdat:r.frest=(if (ij r bE).1=true then bE else [])++(ij r bE).2.frest:=by
    unfold ij
    simp only
    cases hp:hasPrefix r.frest bE with
    | true =>
     obtain ⟨t,ht⟩:=(dK _ _).1 hp
     rw [ht,iR]; rfl
    | false=>rw [mf hp]; rfl
   have hlen:∀ x∈ms,x.fName.length≤100000:=λ x hx=>by have:=eA (e3 x hx).1; omega
   have hty:(dp (ij r bE).2).1.length≤64:=eA s4.2.1
   have hnm:=eA s2.2.1
   refine ⟨(l7 _).2 ⟨by show ms.length≤16; omega,e3,hk,s2.2.1,s1.2.1⟩,?_,⟨by show ms.length≤_; omega,?_,?_,hlen⟩⟩
   ·show ms.flatMap bK++((if (ij r bE).1=true then bE else [])++((dp (ij r bE).2).1++[46]++(dp (gH (dp (ij r bE).2).2 [46])).1++aO (kc (dp (gH (dp (ij r bE).2).2 [46])).2).1))=s
    have x1:=s1.2.2
    rw [hr,List.append_nil] at x1
    rw [← x1,List.append_assoc,← s2.2.2,List.append_assoc,← s3.2,← s4.2.2,← hdat,← e2]
   ·show (dp (ij r bE).2).1.length≤100000
    omega
   ·show (dp (gH (dp (ij r bE).2).2 [46])).1.length≤100000
    omega
end Go.Ab.R06
namespace Go.Ab.R06
open Go.Ab Go.Ab.RB Go.Lib
theorem nn {b:UInt8}(h:idB b=true):j4 b=false:=by
 simp only [idB,Bool.or_eq_true,qF,iW] at h
 unfold j4
 rw [Bool.or_eq_false_iff,decide_eq_false_iff_not,decide_eq_false_iff_not]
 omega
theorem lm {s:Bytes}(h:bX s=true){b:UInt8}(hb:b∈s):idB b=true:=by
 have:=(sf s).1 h
 rw [uA] at this
 exact List.all_eq_true.1 this.2.2.2 b hb
theorem vE:∀ (w t:Bytes),(∀ b∈w,j4 b=false)→(t=[]∨∃ b r,t=b::r∧j4 b=true)→j1 (w++t)=w.length
 | [],t,_,h=>by
  rcases h with rfl | ⟨b,r,rfl,hb⟩
  ·rfl
  ·show j1 (b::r)=0
   unfold j1; rw [if_pos hb]
 | b::w,t,hw,h=>by
  show j1 (b::(w++t))=_
  unfold j1
  rw [if_neg (by simp [hw b List.mem_cons_self]),vE w t (λ y hy=>hw y (List.mem_cons_of_mem _ hy)) h]
  simp
theorem ra {w t:Bytes}(hw:bX w=true)(h:t=[]∨∃ b r,t=b::r∧j4 b=true):dp (ai.mk (w++t) false)=(w,ai.mk t false):=by
 unfold dp
 simp only
 rw [vE w t (λ b hb=>nn (lm hw hb)) h,List.take_left,List.drop_left,hw]
 rfl
theorem pc (p t:Bytes):gH (ai.mk (p++t) false) p=ai.mk t false:=by
 unfold gH
 simp only
 rw [iR,jd]; rfl
theorem w4:∀ (l:Bytes) (c:UInt8) (t:Bytes),(∀ b∈l,b≠c)→indexByte (l++c::t) c=l.length
 | [],c,t,_=>by simp [indexByte]
 | b::r,c,t,h=>by
  have ih:=w4 r c t (λ y hy=>h y (List.mem_cons_of_mem _ hy))
  have hb:(b == c)=false:=by simpa using h b List.mem_cons_self
  show indexByte (b::(r++c::t)) c=_
  unfold indexByte
  rw [hb,ih]
  have:((r.length:Int) == -1)=false:=by simp <;> omega
  simp only [Bool.false_eq_true,if_false,this,List.length_cons]
  omega
theorem rN {v:Int}(h0:0≤v):(itoa v).all dI=true∧itoa v≠[]:=by
 obtain ⟨u,rfl⟩:∃ u:Nat,v=u:=⟨v.toNat,by omega⟩
 have e:itoa (u:Int)=decDigits u:=by unfold itoa; rw [if_neg O]; simp
 rw [e]
 have:=wu (u+1) u O
 exact ⟨this.2.1,this.2.2.1⟩
theorem wI {k:bS}{t:Bytes}(hk:cA k=true)(h:hasPrefix t [91]=false):kc (ai.mk (aO k++t) false)=(k,ai.mk t false):=by
 rcases ks hk with h0 | h0 | h0
 ·have e:=uF hk h0
  subst e
  have et:aO jY=[]:=rfl
  rw [et,List.nil_append]
  unfold kc
  rw [if_neg G,if_pos h]
 ·have hn:=nc hk h0
  have et:aO k=[91]++itoa k.fNum++[93]:=by
   unfold aO
   rw [if_neg (by rw [hk]; simp [h0]),if_pos h0]
  obtain ⟨hd,hne⟩:=rN hn.1
  have e1:aO k++t=[91]++(itoa k.fNum++93::t):=by rw [et]; simp
  have hix:idx (itoa k.fNum++93::t) 93=(itoa k.fNum).length:=by
   unfold idx
   rw [w4]
   ·simp
   ·intro b hb q
    have:=ko hd hb
    rw [q] at this
    have h93:(93:UInt8).toNat=93:=rfl
    omega
  have hnp:hasPrefix (itoa k.fNum++93::t) [34]=false:=by
   rw [← Bool.not_eq_true,dK]
   rintro ⟨u,hu⟩
   cases hx:itoa k.fNum with
   | nil=>exact hne hx
   | cons c r =>
    rw [hx] at hu hd
    have hc:c=34:=(List.cons.inj hu).1
    have:=ko hd (b:=c) List.mem_cons_self
    rw [hc] at this
    have h34:(34:UInt8).toNat=34:=rfl
    omega
  unfold kc
  rw [e1,if_neg G,if_neg (by rw [jd]; simp)]
  have hd1:([91]++(itoa k.fNum++93::t)).drop 1=itoa k.fNum++93::t:=rfl
  rw [hd1,if_neg (by rw [hnp]; simp),hix,List.take_left,List.drop_left,zx _ hn.1 hn.2.1]
  simp only
  have hv0:¬ k.fNum < 0:=by have:=hn.1; omega
  simp only [hv0,decide_true,decide_false,Bool.not_false,Bool.and_self,Bool.not_true]
  have hs:=pc [93] t
  rw [show (93::t:Bytes)=[93]++t from rfl,hs]
  refine Prod.ext ?_ Z
  cases k
  simp only at *
  rw [h0,hn.2.2]
 ·have hs:=na hk h0
  have et:aO k=[91]++dZ k.fStr++[93]:=by
   unfold aO
   rw [if_neg (by rw [hk]; simp [h0]),if_neg O]
  have e1:aO k++t=[91]++(dZ k.fStr++([93]++t)):=by rw [et]; simp
  have hu:=ui k.fStr ([93]++t) hs.2.2 hs.2.1
  unfold kc
  rw [e1,if_neg G,if_neg (by rw [jd]; simp)]
  have hd1:([91]++(dZ k.fStr++([93]++t))).drop 1=dZ k.fStr++([93]++t):=rfl
  have hq:hasPrefix (dZ k.fStr++([93]++t)) [34]=true:=by
   rw [dK]; exact ⟨k.fStr.flatMap f0++[34]++([93]++t),by simp [dZ]⟩
  rw [hd1,if_pos hq,hu]
  simp only [Int.toNat_natCast]
  rw [List.take_left,List.drop_left,if_pos ⟨trivial,rfl⟩,pc]
  refine Prod.ext ?_ Z
  cases k
  simp only at *
  rw [h0,hs.1]
theorem qd (k:bS)(t:Bytes)(ht:∃ b r,t=b::r∧j4 b=true):∃ b r,aO k++t=b::r∧j4 b=true:=by
 unfold aO
 split
 ·exact ht
 ·split
  ·exact ⟨91,_,Z,by decide⟩
  ·exact ⟨91,_,Z,by decide⟩
theorem rT (k:bS):aO k=[]∨∃ b r,aO k=b::r∧j4 b=true:=by
 unfold aO
 split
 ·exact .inl Z
 ·split
  ·exact .inr ⟨91,_,Z,by decide⟩
  ·exact .inr ⟨91,_,Z,by decide⟩
theorem sb {b c:UInt8}{t:Bytes}(h:b≠c):hasPrefix (b::t) [c]=false:=by
 rw [← Bool.not_eq_true,dK]
 rintro ⟨u,hu⟩
 exact h (List.cons.inj hu).1
theorem rU:∀ (new:List ac) (k:Nat) (ms:List ac) (t:Bytes),new.length < k→(∀ x∈new,bX x.fName=true∧cA x.fKey=true)→hasPrefix t iS=false →
  gB k ms (ai.mk (new.flatMap bK++t) false)=(ms++new,ai.mk t false)
 | [],k,ms,t,hk,_,ht=>by
  obtain ⟨k,rfl⟩:∃ k',k=k'+1:=⟨k - 1,by omega⟩
  unfold gB
  rw [if_neg]
  ·simp
  ·rintro ⟨_,q⟩
   simp only [List.flatMap_nil,List.nil_append] at q
   rw [ht] at q; cases q
 | x::r,k,ms,t,hk,hx,ht=>by
  obtain ⟨k,rfl⟩:∃ k',k=k'+1:=⟨k - 1,by omega⟩
  have h1:=hx x List.mem_cons_self
  have ih:=rU r k (ms++[x]) t (by simp only [List.length_cons] at hk; omega) (λ y hy=>hx y (List.mem_cons_of_mem _ hy)) ht
  generalize hT:r.flatMap bK++t=T at ih
  have e:(x::r).flatMap bK++t=iS++(x.fName++(aO x.fKey++([46]++T))):=by
   rw [List.flatMap_cons,List.append_assoc,hT]; simp [bK]
  unfold gB
  rw [e]
  simp only
  rw [if_pos ⟨trivial,jd _ _⟩]
  have hd:(iS++(x.fName++(aO x.fKey++([46]++T)))).drop 7=x.fName++(aO x.fKey++([46]++T)):=rfl
  have hst:stepT (ai.mk (x.fName++(aO x.fKey++([46]++T))) false)=(x,ai.mk ([46]++T) false):=by
   unfold stepT
   rw [ra (t:=aO x.fKey++([46]++T)) h1.1 (.inr (qd _ _ ⟨46,T,rfl,by decide⟩))]
   simp only
   rw [wI (t:=[46]++T) h1.2 (sb (b:=46) (c:=91) (t:=T) (by decide))]
  rw [hd,hst]
  simp only
  rw [pc,ih]
  simp
theorem uJ:∀ (p w t u:Bytes),(∀ b∈p,j4 b=false)→(∀ b∈w,j4 b=false)→w++46::t=p++46::u→w=p
 | [],[],_,_,_,_,_=>rfl
 | [],c::w,t,u,_,hw,h=>by
  have:=(List.cons.inj h).1
  have h2:=hw c List.mem_cons_self
  rw [this] at h2
  exact absurd h2 (by decide)
 | c::p,[],t,u,hp,_,h=>by
  have:=(List.cons.inj h).1
  have h2:=hp c List.mem_cons_self
  rw [← this] at h2
  exact absurd h2 (by decide)
 | c::p,d::w,t,u,hp,hw,h=>by
  obtain ⟨h1,h2⟩:=List.cons.inj h
  rw [h1,uJ p w t u (λ b hb=>hp b (List.mem_cons_of_mem _ hb)) (λ b hb=>hw b (List.mem_cons_of_mem _ hb)) h2]
theorem ki (s:Bytes):ig s=true↔fg s=false∧bX s=true:=by
 unfold ig; simp
def kQ (x:ac):ac:=ac.mk x.fName jY
def nQ (a:ah):ah:=ah.mk (a.fModule.map kQ) a.fData a.fType a.fName jY
theorem Sm.bare {a:ah}(h:Sm a):Sm (nQ a):=by
 refine ⟨by show (a.fModule.map kQ).length≤_; rw [List.length_map]; exact h.1,h.2.1,h.2.2.1,λ x hx=>?_⟩
 obtain ⟨y,hy,rfl⟩:=List.mem_map.1 hx
 exact h.2.2.2 y hy
theorem set_mid {α:Type}(p:List α)(x y:α)(q:List α):(p++x::q).set p.length y=p++y::q:=by
 induction p with
 | nil=>rfl
 | cons c r ih=>simp [ih]
theorem CV {α:Type} [Inhabited α] (p:List α)(x:α)(q:List α):lat (p++x::q) (p.length:Int)=x:=by
 rw [yG,List.getD_eq_getElem?_getD]; simp
theorem zF (a:ah)(hb:a.fModule.length≤1000000000):∀ (k i:Nat),i+k=a.fModule.length→Ev2 (λ _ m=>cr a m (i:Int) ((a.fModule.take i).map kQ++a.fModule.drop i)) (·=a.fModule.map kQ):=by
 intro k
 induction k with
 | zero =>
  intro i hi
  refine aJ ?_
  simp only [cr]
  refine ar O (aa ?_)
  rw [List.drop_of_length_le O,List.take_of_length_le O]; simp
 | succ k ih =>
  intro i hi
  refine aJ ?_
  simp only [cr]
  have h1:i < a.fModule.length:=by omega
  have hl:((a.fModule.take i).map kQ++a.fModule.drop i).length=a.fModule.length:=by
   rw [List.length_append,List.length_map,List.length_take,List.length_drop]; omega
  refine av O (af O (af (aU O O) ?_))
  have hd:(a.fModule.take i).map kQ++a.fModule.drop i=(a.fModule.take i).map kQ++a.fModule[i]::a.fModule.drop (i+1):=by rw [List.drop_eq_getElem_cons h1]
  have hpl:((a.fModule.take i).map kQ).length=i:=by rw [List.length_map,List.length_take]; omega
  have hg:lat ((a.fModule.take i).map kQ++a.fModule.drop i) (i:Int)=a.fModule[i]:=by
   rw [hd]
   have:=CV ((a.fModule.take i).map kQ) a.fModule[i] (a.fModule.drop (i+1))
   rw [hpl] at this
   exact this
  rw [hg,Int.toNat_natCast]
  have hs:((a.fModule.take i).map kQ++a.fModule.drop i).set i (ac.mk a.fModule[i].fName (bS.mk 0 0 ([]:Bytes)))=(a.fModule.take (i+1)).map kQ++a.fModule.drop (i+1):=by
   rw [hd]
   have:=set_mid ((a.fModule.take i).map kQ) a.fModule[i] (ac.mk a.fModule[i].fName (bS.mk 0 0 ([]:Bytes))) (a.fModule.drop (i+1))
   rw [hpl] at this
   rw [this,show a.fModule.take (i+1)=a.fModule.take i++[a.fModule[i]] by rw [List.take_add_one,List.getElem?_eq_getElem h1]; rfl,List.map_append,List.append_assoc]
   rfl
  rw [hs]
  have:=ih (i+1) O
  rw [Int.natCast_add,Int.natCast_one] at this
  exact this
theorem Ap (a:ah)(ha:Sm a):Ev2 (λ n _=>eN n a) (·=nQ a):=by
 simp only [eN]
 have hl:=ha.1
 refine aB (λ h=>?_) (λ h=>af O ?_)
 ·have:a.fModule=[]:=by simpa using h
  refine ap () ?_ (aa (by unfold nQ; rw [this]; rfl))
  refine po ?_
  simp only [dO]
  exact ar G (aa (by trivial))
 ·have l:=zF a O a.fModule.length 0 O
  rw [List.take_zero,List.drop_zero] at l
  exact ap _ (a8 l) (aa Z)
def jf (s:Bytes):Bytes×Int:=if (js s).2=0 then (nw (nQ (js s).1),0) else ([],(js s).2)
theorem vm (s:Bytes)(hs:s.length≤800000000):Ev2 (λ n _=>ef n s) (·=jf s):=by
 simp only [ef]
 unfold jf
 refine ap _ (Bz s hs) ?_
 have hp:=@sv s
 generalize js s=p at hp ⊢
 obtain ⟨a,e⟩:=p
 simp only
 refine aB (λ h=>?_) (λ h=>aa (by rw [if_neg h]))
 subst h
 rw [if_pos rfl]
 have ha:=(hp Z).2.2
 exact ap _ (Ap a ha) (ap _ (Ax _ ha.bare) (aa Z))
theorem Be:fo≤140737488355328:=by decide
theorem Dq {v y:ay}(h:y∈v.fItems):SizeOf.sizeOf y < SizeOf.sizeOf v:=by
 cases v
 simp only [ay.fItems] at h
 have:=List.sizeOf_lt_of_mem h
 simp only [ay.mk.sizeOf_spec]
 omega
theorem B6 {α:Type} [Inhabited α] (l:List α)(i:Nat)(h:i < l.length):l.set i l[i]=l:=by
 apply List.ext_getElem G
 intro j h1 h2
 rw [List.getElem_set]
 split
 ·rename_i e; subst e; rfl
 ·rfl
theorem vg:∀ (N:Nat) (v:ay),SizeOf.sizeOf v < N→ay.Bd v→Ev2 (λ n _=>bM n v) (·=v):=by
 have hW:=Be
 intro N
 induction N with
 | zero=>intro v h; omega
 | succ N ih =>
  intro v hv hb
  have h1:=hb.bKeys; have h2:=hb.bItems
  refine po ?_
  simp only [bM]
  refine af O (aB (λ h=>?_) (λ h=>af O ?_))
  ·have he:v.fItems=[]:=by simpa using h
   refine ap () ?_ (aa (by cases v; simp only [ay.fItems] at he; subst he; rfl))
   refine a8 (f:=λ n m=>dA (bM n) m) (aJ ?_)
   simp only [dA]
   exact ar G (aa (by trivial))
  ·have loop:∀ (k i:Nat),i+k=v.fItems.length→Ev2 (λ n m=>cq (bM n) v m (i:Int) v.fItems) (·=v.fItems):=by
    intro k
    induction k with
    | zero =>
     intro i hi
     refine aJ ?_
     simp only [cq]
     exact ar O (aa Z)
    | succ k ihk =>
     intro i hi
     have hil:i < v.fItems.length:=by omega
     refine aJ ?_
     simp only [cq]
     refine av O (af O ?_)
     rw [cI _ _ hil]
     have hmem:=List.getElem_mem hil
     refine dc _ (ih _ (by have:=Dq hmem; omega) (hb.eItems _ hmem)) (af O (af (aU O O) ?_))
     rw [Int.toNat_natCast,B6 _ _ hil]
     have:=ihk (i+1) O
     rw [Int.natCast_add,Int.natCast_one] at this
     exact this
   exact dc _ (a8 (f:=λ n m=>cq (bM n) v m 0 v.fItems) (loop _ 0 (Nat.zero_add _))) (aa (ay.eta v))
theorem Ai (c:ab)(hb:ab.Bd c):Ev2 (λ n _=>fy n c) (·=c):=by
 have hW:=Be
 simp only [fy]
 have h1:=hb.bReplace; have h2:=hb.bDeps; have h3:=hb.bOldDeps
 exact dc _ (vg _ _ (Nat.lt_succ_self _) hb.bBefore) (dc _ (vg _ _ (Nat.lt_succ_self _) hb.bAfter) (af O (af O (af O (aa Z)))))
theorem tG:aO jY=[]:=by unfold aO; rw [if_pos (.inr Z)]
theorem y5:∀ (ms:List ac),(∀ x∈ms,(bK x).length≤80)→(ms.flatMap bK).length≤80*ms.length
 | [],_=>by simp
 | x::ms,h=>by
  have h1:=h x (List.mem_cons_self ..)
  have h2:=y5 ms λ y hy=>h y (List.mem_cons_of_mem _ hy)
  rw [List.flatMap_cons,List.length_append,List.length_cons]; omega
theorem AJ {a:ah}(h:nr (nQ a)=0):(gG (nQ a)).length≤2000:=by
 obtain ⟨c1,c2,c3,c4,_⟩:=(l7 _).1 h
 have hl:=y5 (nQ a).fModule λ x hx=>by
  have hi:=eA (c2 x hx).1
  obtain ⟨y,_,rfl⟩:=List.mem_map.1 hx
  have e:aO (kQ y).fKey=[]:=tG
  unfold bK
  rw [e]
  simp only [List.length_append,List.length_cons,List.length_nil,show iS.length=7 from rfl]
  omega
 have h1:=eA ((ki _).1 c3).2
 have h2:=eA c4
 have hd:(if (nQ a).fData=true then bE else ([]:Bytes)).length≤5:=by split <;> simp [bE]
 have e:aO (nQ a).fKey=[]:=tG
 unfold gG
 rw [e]
 simp only [List.length_append,List.length_cons,List.length_nil]; omega
theorem xm (s:Bytes):(jf s).1.length≤2000:=by
 unfold jf
 split
 ·show (nw _).length≤_
  unfold nw
  split
  ·rename_i h; exact AJ h
  ·simp
 ·simp
theorem EZ (l:List Bytes)(s:Bytes)(hb:l.length≤fo):∀ (k i:Nat),i+k=l.length→Ev2 (λ _ m=>aW l s m (i:Int)) (λ r=>(s∈l.drop i∧∃ j:Nat,r=.inr (j:Int))∨(s ∉ l.drop i∧r=.inl ())):=by
 have hW:=qq
 intro k
 induction k with
 | zero =>
  intro i hi
  refine aJ ?_
  simp only [aW]
  exact ar O (aa (.inr ⟨by rw [List.drop_of_length_le O]; simp,Z⟩))
 | succ k ih =>
  intro i hi
  have h1:i < l.length:=by omega
  refine aJ ?_
  simp only [aW]
  refine av O (af O ?_)
  rw [cI _ _ h1,List.drop_eq_getElem_cons h1]
  refine aB (λ h=>aa (.inl ⟨by rw [h]; exact List.mem_cons_self ..,i,Z⟩)) (λ h=>af (aU O O) ?_)
  have:=ih (i+1) O
  rw [Int.natCast_add,Int.natCast_one] at this
  have hm:s∈l[i]::l.drop (i+1)↔s∈l.drop (i+1):=by
   rw [List.mem_cons]; exact ⟨λ q=>q.resolve_left h,.inr⟩
  refine fP this λ r hr=>?_
  rw [hm]; exact hr
theorem zg (l:List Bytes)(s:Bytes)(hb:l.length≤fo):Ev2 (λ n _=>aX n l s) (·=decide (s∈l)):=by
 simp only [aX]
 refine jU (λ r=>(0≤r)↔s∈l) ?_ (λ r hr=>aa (by simp only [hr]))
 simp only [cm]
 have l1:=EZ l s hb l.length 0 O
 rw [List.drop_zero] at l1
 refine nY (fP (a8 l1) λ r hr=>?_)
 rcases hr with ⟨h1,j,rfl⟩ | ⟨h1,rfl⟩
 ·exact ⟨λ _=>h1,λ _=>by omega⟩
 ·exact aa ⟨λ h=>by omega,λ h=>absurd h h1⟩
theorem Ef (l:List Bytes)(s:Bytes)(hb:l.length≤65536)(hl:∀ p∈l,p.length≤65536)(hs:s.length≤32768):∀ (k i:Nat),i+k=l.length→Ev2 (λ _ m=>eQ l s m (i:Int)) (·=if Glob.anyL (l.drop i) s=true then .inr true else .inl ()):=by
 intro k
 induction k with
 | zero =>
  intro i hi
  refine aJ ?_
  simp only [eQ]
  exact ar O (aa (by rw [List.drop_of_length_le O]; rfl))
 | succ k ih =>
  intro i hi
  have h1:i < l.length:=by omega
  refine aJ ?_
  simp only [eQ]
  refine av O (af O ?_)
  rw [cI _ _ h1,List.drop_eq_getElem_cons h1]
  refine af ⟨hl _ (List.getElem_mem h1),hs⟩ ?_
  have e:Glob.anyL (l[i]::l.drop (i+1)) s=(Glob.matchL l[i] s||Glob.anyL (l.drop (i+1)) s):=rfl
  rw [e]
  cases hq:Glob.matchL l[i] s
  ·refine ar G (af (aU O O) ?_)
   have:=ih (i+1) O
   rw [Int.natCast_add,Int.natCast_one] at this
   rw [Bool.false_or]; exact this
  ·exact av Z (aa (by rw [Bool.true_or,if_pos Z]))
theorem BV (l:List Bytes)(s:Bytes)(hb:l.length≤65536)(hl:∀ p∈l,p.length≤65536)(hs:s.length≤32768):Ev2 (λ n _=>jM n l s) (·=Glob.anyL l s):=by
 simp only [jM]
 have l1:=Ef l s hb hl hs l.length 0 O
 rw [List.drop_zero] at l1
 cases hq:Glob.anyL l s
 ·rw [if_neg (by simp [hq])] at l1
  exact fE () (a8 l1) (aa Z)
 ·rw [if_pos hq] at l1
  exact gA true (a8 l1) Z
def ku (t:List Bytes)(addr:Bytes):Bool:=decide (t=[])||Glob.anyL t addr||(decide ((jf addr).2=0)&&Glob.anyL t (jf addr).1)
theorem rP (t:List Bytes)(addr:Bytes)(hb:t.length≤65536)(hl:∀ p∈t,p.length≤65536)(ha:addr.length≤300):Ev2 (λ n _=>cS n t addr) (·=ku t addr):=by
 have hs:=xm addr
 simp only [cS]
 unfold ku
 refine dc (decide (t=[])||Glob.anyL t addr) ?_ ?_
 ·refine aB (λ h=>aa ?_) (λ h=>dc _ (BV t addr hb hl O) (aa ?_))
  ·rw [decide_eq_true (List.length_eq_zero_iff.1 O)]; rfl
  ·rw [decide_eq_false (λ e=>h (by rw [e]; rfl))]; rfl
 ·cases (decide (t=[])||Glob.anyL t addr)
  ·refine ar (by decide) (dc _ (vm addr O) (dc (decide ((jf addr).2=0)&&Glob.anyL t (jf addr).1) ?_ (aa Z)))
   refine aB (λ h=>?_) (λ h=>aa (by rw [decide_eq_false h]; rfl))
   rw [decide_eq_true h]
   exact dc _ (BV t _ hb hl O) (aa Z)
  ·exact av Z (aa Z)
def kW (c:ab):Bytes:=(jf c.fAddr).1
def wV (x:ab):Bool:=decide (x.fAction=4)||decide (x.fAction=3)
theorem Ea (x:ab):gI x=some (wV x):=by
 unfold gI wV
 by_cases h:x.fAction=4 <;> simp [h]
def ndP (x y:ab):Bool:=decide (kW y∈x.fDeps)||(wV x&&!decide (y.fAction=0)&&decide (kW x∈y.fOldDeps))
def cat (l:List ab)(k:Nat):ab:=l.getD k default
theorem fY (l:List ab)(k:Nat)(h:k < l.length):l[k]=cat l k:=by
 unfold cat; rw [List.getD_eq_getElem?_getD,List.getElem?_eq_getElem h]; rfl
def on (ch:List Bool)(k:Nat):Bool:=ch.getD k false
theorem Cp (ch:List Bool)(k:Nat)(h:k < ch.length):ch[k]=on ch k:=by
 unfold on; rw [List.getD_eq_getElem?_getD,List.getElem?_eq_getElem h]; rfl
theorem Bp (ch:List Bool)(k q:Nat)(h:k < ch.length):on (ch.set k true) q=(decide (k=q)||on ch q):=by
 unfold on
 rw [List.getD_eq_getElem?_getD,List.getD_eq_getElem?_getD,List.getElem?_set]
 by_cases e:k=q
 ·subst e; simp [h]
 ·simp [e]
def ff (st:List Bool×List Int)(k:Nat):List Bool×List Int:=if on st.1 k=true then st else (st.1.set k true,st.2++[(k:Int)])
theorem uB {ch:List Bool}{t:List Int}{x:Nat}(h:on ch x=false):ff (ch,t) x=(ch.set x true,t++[(x:Int)]):=by unfold ff; rw [if_neg (by simp [h])]
theorem rC {ch:List Bool}{t:List Int}{x:Nat}(h:on ch x=true):ff (ch,t) x=(ch,t):=by unfold ff; rw [if_pos h]
theorem u6 (ch:List Bool)(t:List Int)(x:Nat):(ff (ch,t) x).1.length=ch.length∧(ff (ch,t) x).2.length≤t.length+1:=by
 cases h:on ch x
 ·rw [uB h]; simp
 ·rw [rC h]; simp
theorem vM (l:List ab)(rs:List Bytes)(ch:List Bool)(td:List Int)(i:Nat)(hi:i < ch.length)(ht:td.length≤1000000):dT (cM.mk l rs ch td) (i:Int)=some (cM.mk l rs (ff (ch,td) i).1 (ff (ch,td) i).2):=by
 have hc:(0:Int)≤(i:Int)∧(i:Int) < (ch.length:Int):=by omega
 unfold dT
 simp only [ck,if_pos hc,cI _ _ hi,Cp _ _ hi]
 cases h:on ch i
 ·rw [uB h,if_pos (show (!false)=true from rfl),if_pos (by simp only [List.length_cons,List.length_nil]; omega)]; rfl
 ·rw [rC h,if_neg (by decide)]
theorem Fq (l:List ab)(rs:List Bytes)(hrs:rs=l.map kW)(hB:∀ c∈l,ab.Bd c)(i t:Nat)(hi:i < l.length)(ht:t < l.length) :
  Ev2 (λ n _=>ck ((0:Int)≤(t:Int)∧(t:Int) < (rs.length:Int)) <| (aX n ((lat l (i:Int)).fDeps) (lat rs (t:Int))).bind λ r37=>if r37=true then some true else (gI (lat l (i:Int))).bind λ r40=>if r40=true then if (lat l (t:Int)).fAction=0 then some false else ck ((0:Int)≤(i:Int)∧(i:Int) < (rs.length:Int)) <| (aX n ((lat l (t:Int)).fOldDeps) (lat rs (i:Int))).bind λ r45=>some r45 else some false) (·=ndP (cat l i) (cat l t)):=by
 have hl:rs.length=l.length:=by rw [hrs,List.length_map]
 have e1:∀ k:Nat,k < l.length→lat rs (k:Int)=kW (cat l k):=by
  intro k hk
  rw [cI _ _ O,← fY l k hk]; subst hrs; rw [List.getElem_map]
 rw [cI l i hi,cI l t ht,fY l i hi,fY l t ht,e1 i hi,e1 t ht]
 have bi:=hB _ (fY l i hi ▸ List.getElem_mem hi)
 have bt:=hB _ (fY l t ht ▸ List.getElem_mem ht)
 have d1:=bi.bDeps
 have d2:=bt.bOldDeps
 unfold ndP
 refine af O (dc _ (zg _ _ O) ?_)
 refine aB (λ h=>aa (by rw [h]; rfl)) (λ h=>?_)
 rw [Bool.eq_false_iff.2 h,Bool.false_or]
 refine dc _ (aR (Ea _) Z) ?_
 cases wV (cat l i)
 ·exact ar (by decide) (aa Z)
 ·refine av Z (aB (λ h=>aa (by rw [decide_eq_true h]; rfl)) (λ h=>af O (dc _ (zg _ _ O) (aa ?_))))
  rw [decide_eq_false h]; rfl
theorem Eb (l:List ab)(rs:List Bytes)(hrs:rs=l.map kW)(hB:∀ c∈l,ab.Bd c)(hn:l.length≤1000)(i:Nat)(hi:i < l.length)(ch0:List Bool)(td0:List Int):∀ (k t:Nat) (ch:List Bool) (td:List Int),t+k=l.length→ch.length=l.length→td.length≤100000+t →
  Ev2 (λ n m=>bq n (cM.mk l rs ch0 td0) (i:Int) m (t:Int) l td rs ch) (·=(l,(((List.range' t k).filter λ q=>ndP (cat l i) (cat l q)).foldl ff (ch,td)).2,rs,(((List.range' t k).filter λ q=>ndP (cat l i) (cat l q)).foldl ff (ch,td)).1)):=by
 intro k
 induction k with
 | zero =>
  intro t ch td ht hc hd
  refine aJ ?_
  simp only [bq]
  exact ar O (aa Z)
 | succ k ih =>
  intro t ch td ht hc hd
  have h1:t < l.length:=by omega
  refine aJ ?_
  simp only [bq]
  refine av O ?_
  rw [List.range'_succ,List.filter_cons]
  refine dc (l,(if ndP (cat l i) (cat l t)=true then ff (ch,td) t else (ch,td)).2,rs,(if ndP (cat l i) (cat l t)=true then ff (ch,td) t else (ch,td)).1) ?_ ?_
  ·refine af O (dc _ (Fq l rs hrs hB i t hi h1) ?_)
   cases ndP (cat l i) (cat l t)
   ·exact ar (by decide) (aa Z)
   ·refine av Z (dc _ (aR (vM l rs ch td t O O) Z) (aa Z))
  ·refine af (aU O O) ?_
   have hp:=u6 ch td t
   cases ndP (cat l i) (cat l t)
   ·have:=ih (t+1) ch td O hc O
    rw [Int.natCast_add,Int.natCast_one] at this
    exact this
   ·have:=ih (t+1) (ff (ch,td) t).1 (ff (ch,td) t).2 O O O
    rw [Int.natCast_add,Int.natCast_one] at this
    exact this
theorem Ff (l:List ab)(rs:List Bytes)(hrs:rs=l.map kW)(hB:∀ c∈l,ab.Bd c)(hn:l.length≤1000)(i:Nat)(hi:i < l.length)(ch:List Bool)(td:List Int)(hc:ch.length=l.length)(hd:td.length≤100000) :
  Ev2 (λ n _=>cz n (cM.mk l rs ch td) (i:Int)) (·=cM.mk l rs (((List.range' 0 l.length).filter λ q=>ndP (cat l i) (cat l q)).foldl ff (ch,td)).1 (((List.range' 0 l.length).filter λ q=>ndP (cat l i) (cat l q)).foldl ff (ch,td)).2):=by
 simp only [cz]
 exact af O (dc _ (a8 (Eb l rs hrs hB hn i hi ch td l.length 0 ch td O hc O)) (aa Z))
theorem zd:∀ (S:List Bool) (k:Nat),k < S.length→on S k=false→(S.set k true).count false+1=S.count false
 | [],k,h,_=>by simp at h
 | b::S,0,_,h=>by
  have h:b=false:=h
  subst h; simp
 | b::S,k+1,h,h2=>by
  have:=zd S k (by simpa using h) h2
  simp only [List.set_cons_succ,List.count_cons]
  omega
theorem nz:∀ (L:List Nat) (ch:List Bool) (t:List Int),(∀ q∈L,q < ch.length) →
  (L.foldl ff (ch,t)).1.length=ch.length∧(∀ q,on (L.foldl ff (ch,t)).1 q=true↔on ch q=true∨q∈L)∧(∀ y∈t,y∈(L.foldl ff (ch,t)).2) ∧
  (∀ y∈(L.foldl ff (ch,t)).2,y∈t∨∃ q∈L,y=(q:Int))∧(∀ q,on (L.foldl ff (ch,t)).1 q=true→on ch q=true∨(q:Int)∈(L.foldl ff (ch,t)).2) ∧
  (L.foldl ff (ch,t)).2.length+(L.foldl ff (ch,t)).1.count false≤t.length+ch.count false
 | [],ch,t,_=>⟨Z,λ q=>by simp,λ y h=>h,λ y h=>.inl h,λ y h=>.inl h,Nat.le_refl _⟩
 | x::L,ch,t,hU=>by
  rw [List.foldl_cons]
  have hx:=hU x (List.mem_cons_self ..)
  cases hc:on ch x
  ·rw [uB hc]
   obtain ⟨a0,a1,a2,a3,a4,a5⟩:=nz L (ch.set x true) (t++[(x:Int)]) (λ q h=>by rw [List.length_set]; exact hU q (List.mem_cons_of_mem _ h))
   refine ⟨by rw [a0,List.length_set],λ q=>?_,λ y h=>a2 y (List.mem_append_left _ h),λ y h=>?_,λ q h=>?_,?_⟩
   ·rw [a1 q,Bp _ _ _ hx,List.mem_cons,Bool.or_eq_true,decide_eq_true_eq]
    constructor
    ·rintro ((h | h) | h)
     ·exact .inr (.inl h.symm)
     ·exact .inl h
     ·exact .inr (.inr h)
    ·rintro (h | h | h)
     ·exact .inl (.inr h)
     ·exact .inl (.inl h.symm)
     ·exact .inr h
   ·rcases a3 y h with h | ⟨q,h,e⟩
    ·rcases List.mem_append.1 h with h | h
     ·exact .inl h
     ·exact .inr ⟨x,List.mem_cons_self ..,List.mem_singleton.1 h⟩
    ·exact .inr ⟨q,List.mem_cons_of_mem _ h,e⟩
   ·rcases a4 q h with h | h
    ·rw [Bp _ _ _ hx,Bool.or_eq_true,decide_eq_true_eq] at h
     rcases h with h | h
     ·subst h; exact .inr (a2 _ (List.mem_append_right _ (List.mem_singleton.2 rfl)))
     ·exact .inl h
    ·exact .inr h
   ·have:=zd ch x hx hc
    rw [List.length_append,List.length_singleton] at a5
    omega
  ·rw [rC hc]
   obtain ⟨a0,a1,a2,a3,a4,a5⟩:=nz L ch t (λ q h=>hU q (List.mem_cons_of_mem _ h))
   refine ⟨a0,λ q=>?_,a2,λ y h=>?_,a4,a5⟩
   ·rw [a1 q,List.mem_cons]
    constructor
    ·rintro (h | h)
     ·exact .inl h
     ·exact .inr (.inr h)
    ·rintro (h | h | h)
     ·exact .inl h
     ·subst h; exact .inl hc
     ·exact .inr h
   ·rcases a3 y h with h | ⟨q,h,e⟩
    ·exact .inl h
    ·exact .inr ⟨q,List.mem_cons_of_mem _ h,e⟩
inductive Rj (N:Nat)(S:Nat→Prop)(nd:Nat→Nat→Prop):Nat→Prop where
 | base {k:Nat} (hk:k < N) (h:S k):Rj N S nd k
 | step {i k:Nat} (h:Rj N S nd i) (hk:k < N) (hn:nd i k):Rj N S nd k
theorem Rj.lt {N:Nat}{S:Nat→Prop}{nd:Nat→Nat→Prop}{k:Nat}(h:Rj N S nd k):k < N:=by cases h <;> assumption
structure DfJ (N:Nat)(S:Nat→Prop)(nd:Nat→Nat→Prop)(ch:List Bool)(td:List Int):Prop where
 a:∀ k,on ch k=true→Rj N S nd k
 b:∀ k,k < N→S k→on ch k=true
 c:∀ x∈td,∃ q:Nat,x=(q:Int)∧q < N∧on ch q=true
 d:∀ k,on ch k=true→(k:Int)∈td∨∀ q,q < N→nd k q→on ch q=true
theorem DfJ.fin {N:Nat}{S:Nat→Prop}{nd:Nat→Nat→Prop}{ch:List Bool}(h:DfJ N S nd ch [])(k:Nat):on ch k=true↔Rj N S nd k:=by
 refine ⟨h.a k,λ hr=>?_⟩
 induction hr with
 | base hk h0=>exact h.b _ hk h0
 | step _ hk hn ih =>
  rcases h.d _ ih with h1 | h1
  ·cases h1
  ·exact h1 _ hk hn
def lS (l:List ab)(sel:Bytes→Bool)(k:Nat):Prop:=Rj l.length (λ k=>sel (cat l k).fAddr=true) (λ i k=>ndP (cat l i) (cat l k)=true) k
theorem C5 (l:List ab)(rs:List Bytes)(hrs:rs=l.map kW)(hB:∀ c∈l,ab.Bd c)(hn:l.length≤1000)(sel:Bytes→Bool):∀ (k:Nat) (ch:List Bool) (td:List Int),ch.length=l.length→td.length+ch.count false≤k→k≤10000→DfJ l.length (λ k=>sel (cat l k).fAddr=true) (λ i k=>ndP (cat l i) (cat l k)=true) ch td →
  Ev2 (λ n m=>cF n m l td rs ch) (λ r=>r.2.2.2.length=l.length∧∀ k,on r.2.2.2 k=true↔lS l sel k):=by
 intro k
 induction k with
 | zero =>
  intro ch td hl hk _ hI
  have ht:td=[]:=List.length_eq_zero_iff.1 O
  subst ht
  refine aJ ?_
  simp only [cF]
  exact ar (by decide) (aa ⟨hl,hI.fin⟩)
 | succ k ih =>
  intro ch td hl hk hK hI
  refine aJ ?_
  simp only [cF]
  refine aB (λ h=>?_) (λ h=>?_)
  ·have hpos:0 < td.length:=by omega
   refine af (aU O O) (af O (af (aU O O) (af O ?_)))
   have hx:lat td ((td.length:Int) - 1)=td[td.length - 1]:=by
    have:=cI td (td.length - 1) O
    rw [← this]; congr 1; omega
   have hmem:td[td.length - 1]∈td:=List.getElem_mem O
   obtain ⟨i,hxi,hiN,hon⟩:=hI.c _ hmem
   rw [hx,hxi]
   have htk:((td.length:Int) - 1).toNat=td.length - 1:=by omega
   rw [htk]
   refine dc _ (Ff l rs hrs hB hn i hiN ch (td.take (td.length - 1)) hl (by rw [List.length_take]; omega)) ?_
   obtain ⟨a0,a1,a2,a3,a4,a5⟩:=nz ((List.range' 0 l.length).filter λ q=>ndP (cat l i) (cat l q)) ch (td.take (td.length - 1)) (λ q hq=>by
    have:=(List.mem_range'_1.1 (List.mem_filter.1 hq).1).2; omega)
   have hsp:∀ y,y∈td↔y∈td.take (td.length - 1)∨y=(i:Int):=by
    intro y
    have e:td.take (td.length - 1)++[td[td.length - 1]]=td:=by
     have:=List.take_append_getElem (l:=td) (i:=td.length - 1) O
     rw [this,List.take_of_length_le O]
    constructor
    ·intro h; rw [← e] at h
     rcases List.mem_append.1 h with h | h
     ·exact .inl h
     ·exact .inr ((List.mem_singleton.1 h).trans hxi)
    ·rintro (h | h)
     ·exact List.mem_of_mem_take h
     ·rw [h,← hxi]; exact hmem
   have hmf:∀ q,q∈((List.range' 0 l.length).filter λ q=>ndP (cat l i) (cat l q))↔q < l.length∧ndP (cat l i) (cat l q)=true:=by
    intro q; rw [List.mem_filter,List.mem_range'_1]; exact ⟨λ h=>⟨by omega,h.2⟩,λ h=>⟨by omega,h.2⟩⟩
   refine ih (((List.range' 0 l.length).filter λ q=>ndP (cat l i) (cat l q)).foldl ff (ch,td.take (td.length - 1))).1 (((List.range' 0 l.length).filter λ q=>ndP (cat l i) (cat l q)).foldl ff (ch,td.take (td.length - 1))).2 (a0.trans hl) ?_ O ⟨λ q hq=>?_,λ q hq h=>(a1 q).2 (.inl (hI.b q hq h)),λ x hx=>?_,λ q hq=>?_⟩
   ·rw [List.length_take] at a5; omega
   ·rcases (a1 q).1 hq with h1 | h1
    ·exact hI.a q h1
    ·exact .step (hI.a _ hon) ((hmf q).1 h1).1 ((hmf q).1 h1).2
   ·rcases a3 x hx with h1 | ⟨q,h1,e⟩
    ·obtain ⟨q,e,h2,h3⟩:=hI.c x ((hsp x).2 (.inl h1))
     exact ⟨q,e,h2,(a1 q).2 (.inl h3)⟩
    ·exact ⟨q,e,((hmf q).1 h1).1,(a1 q).2 (.inr h1)⟩
   ·rcases a4 q hq with h1 | h1
    ·rcases hI.d q h1 with h2 | h2
     ·rcases (hsp _).1 h2 with h3 | h3
      ·exact .inl (a2 _ h3)
      ·obtain rfl:q=i:=by omega
       exact .inr λ z hz hn=>(a1 z).2 (.inr ((hmf z).2 ⟨hz,hn⟩))
     ·exact .inr λ z hz hn=>(a1 z).2 (.inl (h2 z hz hn))
    ·exact .inl h1
  ·have ht:td=[]:=List.length_eq_zero_iff.1 O
   subst ht
   exact aa ⟨hl,hI.fin⟩
theorem CU (l:List ab)(hn:l.length≤1000)(hA:∀ c∈l,c.fAddr.length≤300):∀ (k i:Nat) (p q:List Bytes),i+k=l.length→p.length=i→q.length=k→Ev2 (λ n m=>cC n l m (i:Int) (p++q)) (·=p++(l.drop i).map kW):=by
 intro k
 induction k with
 | zero =>
  intro i p q hi hp hq
  refine aJ ?_
  simp only [cC]
  exact ar O (aa (by rw [List.drop_of_length_le O,List.length_eq_zero_iff.1 hq]; rfl))
 | succ k ih =>
  intro i p q hi hp hq
  have h1:i < l.length:=by omega
  refine aJ ?_
  simp only [cC]
  refine av O (af O ?_)
  rw [cI _ _ h1,List.drop_eq_getElem_cons h1]
  have ha:=hA _ (List.getElem_mem h1)
  refine dc _ (vm _ O) (af (by rw [List.length_append]; omega) (af (aU O O) ?_))
  cases q with
  | nil=>simp at hq
  | cons x q =>
   have e:∀ y:Bytes,(p++x::q).set ((i:Int).toNat) y=(p++[y])++q:=by
    intro y
    rw [Int.toNat_natCast,← hp,List.set_append_right _ _ (Nat.le_refl _),Nat.sub_self]; simp
   rw [e]
   have:=ih (i+1) (p++[(jf l[i].fAddr).1]) q O (by simp [hp]) (by simpa using hq)
   rw [Int.natCast_add,Int.natCast_one] at this
   refine fP this λ r hr=>?_
   rw [hr]; simp only [List.map_cons,List.append_assoc,List.singleton_append]; rfl
theorem E3 (t:List Bytes)(l:List ab)(rs:List Bytes)(ht:t.length≤65536)(hts:∀ p∈t,p.length≤65536)(hn:l.length≤1000)(hA:∀ c∈l,c.fAddr.length≤300):∀ (k i:Nat) (ch:List Bool) (td:List Int),i+k=l.length→ch.length=l.length→td.length≤i →
  Ev2 (λ n m=>cE n t l m (i:Int) l td rs ch) (·=(l,(((List.range' i k).filter λ q=>ku t (cat l q).fAddr).foldl ff (ch,td)).2,rs,(((List.range' i k).filter λ q=>ku t (cat l q).fAddr).foldl ff (ch,td)).1)):=by
 intro k
 induction k with
 | zero =>
  intro i ch td hi hc hd
  refine aJ ?_
  simp only [cE]
  exact ar O (aa Z)
 | succ k ih =>
  intro i ch td hi hc hd
  have h1:i < l.length:=by omega
  have ha:=hA _ (List.getElem_mem h1)
  refine aJ ?_
  simp only [cE]
  refine av O ?_
  rw [cI _ _ h1,List.range'_succ,List.filter_cons]
  refine dc (l,(if ku t (cat l i).fAddr=true then ff (ch,td) i else (ch,td)).2,rs,(if ku t (cat l i).fAddr=true then ff (ch,td) i else (ch,td)).1) ?_ ?_
  ·refine af O (dc _ (rP t _ ht hts ha) ?_)
   rw [fY l i h1]
   cases ku t (cat l i).fAddr
   ·exact ar (by decide) (aa Z)
   ·exact av Z (dc _ (aR (vM l rs ch td i O O) Z) (aa Z))
  ·refine af (aU O O) ?_
   have hp:=u6 ch td i
   cases ku t (cat l i).fAddr
   ·have:=ih (i+1) ch td O hc O
    rw [Int.natCast_add,Int.natCast_one] at this
    exact this
   ·have:=ih (i+1) (ff (ch,td) i).1 (ff (ch,td) i).2 O O O
    rw [Int.natCast_add,Int.natCast_one] at this
    exact this
def eT (l:List ab)(ch:List Bool):List ab:=((List.range' 0 l.length).filter λ k=>on ch k).map (cat l)
theorem E7 (l:List ab)(ch:List Bool)(hn:l.length≤1000)(hB:∀ c∈l,ab.Bd c)(hc:ch.length=l.length):∀ (k i:Nat) (out:List ab),i+k=l.length→out.length≤i→Ev2 (λ n m=>cD n l ch m out (i:Int)) (·=out++((List.range' i k).filter λ k=>on ch k).map (cat l)):=by
 intro k
 induction k with
 | zero =>
  intro i out hi ho
  refine aJ ?_
  simp only [cD]
  exact ar O (aa G)
 | succ k ih =>
  intro i out hi ho
  have h1:i < l.length:=by omega
  refine aJ ?_
  simp only [cD]
  refine av O ?_
  rw [cI _ _ h1,cI ch i O,Cp,List.range'_succ,List.filter_cons]
  refine dc (out++if on ch i=true then [cat l i] else []) ?_ ?_
  ·refine af O (af O ?_)
   cases on ch i
   ·exact ar (by decide) (aa G)
   ·refine av Z (dc _ (Ai _ (hB _ (List.getElem_mem h1))) (af (by simp only [List.length_cons,List.length_nil]; omega) (aa ?_)))
    rw [fY l i h1]; rfl
  ·refine af (aU O O) ?_
   have:=ih (i+1) (out++if on ch i=true then [cat l i] else []) O (by
    rw [List.length_append]
    split <;> simp <;> omega)
   rw [Int.natCast_add,Int.natCast_one] at this
   refine fP this λ r hr=>?_
   rw [hr]
   cases on ch i <;> simp
theorem vK (t:List Bytes)(l:List ab)(ht:t.length≤65536)(hts:∀ p∈t,p.length≤65536)(hn:l.length≤1000)(hB:∀ c∈l,ab.Bd c)(hA:∀ c∈l,c.fAddr.length≤300) :
  Ev2 (λ n _=>cY n t l) (λ r=>∃ ch:List Bool,ch.length=l.length∧(∀ k,on ch k=true↔lS l (ku t) k)∧r=eT l ch):=by
 simp only [cY]
 refine af O (af O ?_)
 refine dc (l.map kW) ?_ ?_
 ·have:=CU l hn hA l.length 0 [] (List.replicate (l.length:Int).toNat []) O rfl G
  simpa using a8 this
 ·have hlr:(List.replicate (l.length:Int).toNat false).length=l.length:=by simp
  refine dc _ (a8 (E3 t l (l.map kW) ht hts hn hA l.length 0 (List.replicate (l.length:Int).toNat false) [] O hlr (Nat.le_refl _))) ?_
  obtain ⟨a0,a1,a2,a3,a4,a5⟩:=nz ((List.range' 0 l.length).filter λ q=>ku t (cat l q).fAddr) (List.replicate (l.length:Int).toNat false) [] (λ q hq=>by
   have:=(List.mem_range'_1.1 (List.mem_filter.1 hq).1).2; omega)
  have hmf:∀ q,q∈((List.range' 0 l.length).filter λ q=>ku t (cat l q).fAddr)↔q < l.length∧ku t (cat l q).fAddr=true:=by
   intro q; rw [List.mem_filter,List.mem_range'_1]; exact ⟨λ h=>⟨by omega,h.2⟩,λ h=>⟨by omega,h.2⟩⟩
  have hoff:∀ q,¬ on (List.replicate (l.length:Int).toNat false) q=true:=by
   intro q h
   unfold on at h
   rw [List.getD_eq_getElem?_getD,List.getElem?_replicate] at h
   split at h <;> simp at h
  have hcnt:(List.replicate (l.length:Int).toNat false).count false≤l.length:=by
   have:=List.count_le_length (a:=false) (l:=List.replicate (l.length:Int).toNat false); omega
  refine jU _ (a8 (C5 l (l.map kW) Z hB hn (ku t) 2000 (((List.range' 0 l.length).filter λ q=>ku t (cat l q).fAddr).foldl ff (List.replicate (l.length:Int).toNat false,[])).1 (((List.range' 0 l.length).filter λ q=>ku t (cat l q).fAddr).foldl ff (List.replicate (l.length:Int).toNat false,[])).2 (a0.trans hlr) (by simp only [List.length_nil] at a5; omega) O ⟨λ q hq=>?_,λ q hq h=>(a1 q).2 (.inr ((hmf q).2 ⟨hq,h⟩)),λ x hx=>?_,λ q hq=>?_⟩)) (λ r hr=>?_)
  ·rcases (a1 q).1 hq with h | h
   ·exact absurd h (hoff q)
   ·exact .base ((hmf q).1 h).1 ((hmf q).1 h).2
  ·rcases a3 x hx with h | ⟨q,h,e⟩
   ·cases h
   ·exact ⟨q,e,((hmf q).1 h).1,(a1 q).2 (.inr h)⟩
  ·rcases a4 q hq with h | h
   ·exact absurd h (hoff q)
   ·exact .inl h
  ·refine dc _ (a8 (E7 l r.2.2.2 hn hB hr.1 l.length 0 [] O (Nat.le_refl _))) (aa ⟨r.2.2.2,hr.1,hr.2,Z⟩)
theorem Bi (l:List ab)(ch:List Bool)(h:∀ k,k < l.length→on ch k=true):eT l ch=l:=by
 unfold eT
 rw [List.filter_eq_self.2 λ k hk=>h k (by have:=(List.mem_range'_1.1 hk).2; omega)]
 refine List.ext_getElem G λ i h1 h2=>?_
 rw [List.getElem_map,List.getElem_range',show 0+1*i=i by omega]
 exact (fY l i h2).symm
theorem oe {l:List ab}{c:List Bool}{x:ab}(h:x∈eT l c):x∈l:=by
 unfold eT at h
 obtain ⟨k,hk,rfl⟩:=List.mem_map.1 h
 have:=(List.mem_range'_1.1 (List.mem_filter.1 hk).1).2
 rw [← fY l k O]; exact List.getElem_mem _
theorem wD (l:List ab)(c:List Bool):(eT l c).length≤l.length:=by
 unfold eT
 rw [List.length_map]
 exact Nat.le_trans (List.length_filter_le ..) G
end Go.Ab.R06
end
section
namespace Go.Ab.R06
open Go.Proofs Go.Ab Go.Ab.RB
attribute [local irreducible] awp ei aS aC bC AV.sub M dN
end Go.Ab.R06
end
section
namespace Go.Ab.Glob
end Go.Ab.Glob
namespace Go.Ab.Glob
open Go.Ab Go.Ab.R06
end Go.Ab.Glob
end
section
namespace Go.Ab.R06
open Go.Ab Go.Ab.RB Go.Lib
theorem t31:(List.range 256).all (λ n=>bG .u8 (n:Int) 31 == ((n % 32:Nat):Int))=true:=by kernel_rfl
theorem t15:(List.range 256).all (λ n=>bG .u8 (n:Int) 15 == ((n % 16:Nat):Int))=true:=by kernel_rfl
theorem t7:(List.range 256).all (λ n=>bG .u8 (n:Int) 7 == ((n % 8:Nat):Int))=true:=by kernel_rfl
theorem or64 (a b:Nat)(ha:a < 4611686018427387904)(hb:b < 4611686018427387904):iOr .i64 (a:Int) (b:Int)=((a ||| b:Nat):Int):=by
 have hlt:a ||| b < 4611686018427387904:=Nat.or_lt_two_pow (n:=62) ha hb
 have e1:(BitVec.ofInt 64 (a:Int)).toNat=a:=by
  rw [BitVec.toNat_ofInt]; omega
 have e2:(BitVec.ofInt 64 (b:Int)).toNat=b:=by
  rw [BitVec.toNat_ofInt]; omega
 show IntKind.wrap .i64 (((BitVec.ofInt 64 (a:Int)) ||| (BitVec.ofInt 64 (b:Int))).toNat:Nat)=_
 rw [BitVec.toNat_or,e1,e2]
 simp [IntKind.wrap,IntKind.bits,IntKind.signed]
 omega
theorem u7 (a b k:Nat)(ha:a*2 ^ k < 4611686018427387904)(hb:b < 2 ^ k)(hk:k≤20):iOr .i64 ((a*2 ^ k:Nat):Int) (b:Int)=((a*2 ^ k+b:Nat):Int):=by
 have hp:2 ^ k≤2 ^ 20:=Nat.pow_le_pow_right (by decide) hk
 have h20:(2:Nat) ^ 20=1048576:=rfl
 rw [or64 _ _ ha O]
 have:=Nat.shiftLeft_add_eq_or_of_lt hb a
 rw [Nat.shiftLeft_eq] at this
 rw [← this]
theorem vA (a k:Nat)(hk:k≤20)(ha:a*2 ^ k < 4611686018427387904):jC .i64 (a:Int) (k:Int)=((a*2 ^ k:Nat):Int):=by
 have:min (k:Int).toNat IntKind.i64.bits=k:=by
  have:IntKind.i64.bits=64:=rfl
  rw [this]; omega
 unfold jC
 rw [this]
 have e:(a:Int)*2 ^ k=((a*2 ^ k:Nat):Int):=by push_cast; rfl
 rw [e]
 generalize a*2 ^ k=v at ha
 simp [IntKind.wrap,IntKind.bits,IntKind.signed]
 omega
def Dh (l:Bytes):Int×Int:=if (decodeL l).1=65533∧(decodeL l).2=1 then (0,0) else (((decodeL l).1:Int),((decodeL l).2:Int))
theorem C3 (s:Bytes)(j:Nat)(lo hi:Int):eg s (j:Int) lo hi=some (decide (j < s.length∧lo≤((s.getD j 0).toNat:Int)∧((s.getD j 0).toNat:Int)≤hi)):=by
 unfold eg
 have hb:byt s (j:Int)=((s.getD j 0).toNat:Int):=d5 s j
 rw [hb]
 by_cases h:j < s.length
 ·rw [if_pos O,bT O]
  by_cases h2:lo≤((s.getD j 0).toNat:Int)
  ·rw [if_pos h2,bT O]
   refine congrArg some (eqB ?_)
   rw [decide_eq_true_eq,decide_eq_true_eq]
   exact ⟨λ q=>⟨h,h2,q⟩,λ q=>q.2.2⟩
  ·rw [if_neg h2,Option.bind_some]
   symm; rw [Option.some.injEq,decide_eq_false_iff_not]
   exact λ q=>h2 q.2.1
 ·rw [if_neg O]; simp [h]
set_option maxHeartbeats 8000000 in
theorem tX (s:Bytes)(i:Nat)(hi:i < s.length)(hs:s.length≤1000000000):iE s (i:Int)=some (Dh (s.drop i)):=by
 have hg:∀ k,(s.drop i).getD k 0=s.getD (i+k) 0:=λ k=>by
  rw [List.getD_eq_getElem?_getD,List.getElem?_drop,List.getD_eq_getElem?_getD]
 unfold iE Dh
 rw [decodeL_N,hg,hg,hg,hg,Nat.add_zero,List.length_drop]
 have b:∀ k:Nat,byt s ((i:Int)+k)=((s.getD (i+k) 0).toNat:Int):=λ k=>by
  rw [show (i:Int)+(k:Int)=((i+k:Nat):Int) by omega]; exact d5 s (i+k)
 have c:∀ (k:Nat) lo hi,eg s ((i:Int)+k) lo hi=some (decide (k < s.length - i∧lo≤((s.getD (i+k) 0).toNat:Int)∧((s.getD (i+k) 0).toNat:Int)≤hi)):=λ k lo hi=>by
  rw [show (i:Int)+(k:Int)=((i+k:Nat):Int) by omega,C3]
  refine congrArg some (eqB ?_)
  rw [decide_eq_true_eq,decide_eq_true_eq]
  constructor
  ·rintro ⟨h1,h2⟩; exact ⟨by omega,h2⟩
  ·rintro ⟨h1,h2⟩; exact ⟨by omega,h2⟩
 have b0:byt s (i:Int)=((s.getD i 0).toNat:Int):=d5 s i
 have b1:byt s ((i:Int)+1)=((s.getD (i+1) 0).toNat:Int):=b 1
 have b2:byt s ((i:Int)+2)=((s.getD (i+2) 0).toNat:Int):=b 2
 have b3:byt s ((i:Int)+3)=((s.getD (i+3) 0).toNat:Int):=b 3
 have c1:∀ lo hi,eg s ((i:Int)+1) lo hi=_:=c 1
 have c2:∀ lo hi,eg s ((i:Int)+2) lo hi=_:=c 2
 have c3:∀ lo hi,eg s ((i:Int)+3) lo hi=_:=c 3
 simp only [b0,b1,b2,b3,c1,c2,c3]
 obtain ⟨n,hn⟩:∃ n,s.length=i+n:=⟨s.length - i,by omega⟩
 have hn1:s.length - i=n:=by omega
 have hlen:(s.length:Int)=(i:Int)+n:=by omega
 rw [hn1,hlen]
 have l0:=(s.getD i 0).toNat_lt
 have l1:=(s.getD (i+1) 0).toNat_lt
 have l2:=(s.getD (i+2) 0).toNat_lt
 have l3:=(s.getD (i+3) 0).toNat_lt
 generalize (s.getD i 0).toNat=B0 at l0 ⊢
 generalize (s.getD (i+1) 0).toNat=B1 at l1 ⊢
 generalize (s.getD (i+2) 0).toNat=B2 at l2 ⊢
 generalize (s.getD (i+3) 0).toNat=B3 at l3 ⊢
 have hnp:0 < n:=by omega
 have hnb:n≤1000000000:=by omega
 have hib:i≤1000000000:=by omega
 clear hg b c b0 b1 b2 b3 c1 c2 c3 hn1 hlen hn hi hs
 have a31:bG .u8 (B0:Int) 31=((B0 % 32:Nat):Int):=tab t31 B0 O
 have a15:bG .u8 (B0:Int) 15=((B0 % 16:Nat):Int):=tab t15 B0 O
 have a7:bG .u8 (B0:Int) 7=((B0 % 8:Nat):Int):=tab t7 B0 O
 have a1:bG .u8 (B1:Int) 63=((B1 % 64:Nat):Int):=tab t63 B1 O
 have a2:bG .u8 (B2:Int) 63=((B2 % 64:Nat):Int):=tab t63 B2 O
 have a3:bG .u8 (B3:Int) 63=((B3 % 64:Nat):Int):=tab t63 B3 O
 have two:iOr .i64 (jC .i64 ((B0 % 32:Nat):Int) 6) ((B1 % 64:Nat):Int)=((B0 % 32*64+B1 % 64:Nat):Int):=by
  have h1:jC .i64 ((B0 % 32:Nat):Int) 6=((B0 % 32*2 ^ 6:Nat):Int):=vA _ 6 (by decide) O
  rw [h1]
  exact u7 _ _ 6 O O  (by decide)
 have three:iOr .i64 (iOr .i64 (jC .i64 ((B0 % 16:Nat):Int) 12) (jC .i64 ((B1 % 64:Nat):Int) 6)) ((B2 % 64:Nat):Int)=((B0 % 16*4096+B1 % 64*64+B2 % 64:Nat):Int):=by
  have h1:jC .i64 ((B0 % 16:Nat):Int) 12=((B0 % 16*2 ^ 12:Nat):Int):=vA _ 12 (by decide) O
  have h2:jC .i64 ((B1 % 64:Nat):Int) 6=((B1 % 64*2 ^ 6:Nat):Int):=vA _ 6 (by decide) O
  have h3:=u7 (B0 % 16) (B1 % 64*2 ^ 6) 12 O O  (by decide)
  have h4:=u7 (B0 % 16*64+B1 % 64) (B2 % 64) 6 O O  (by decide)
  rw [h1,h2,h3,show B0 % 16*2 ^ 12+B1 % 64*2 ^ 6=(B0 % 16*64+B1 % 64)*2 ^ 6 by omega,h4]
 have four:iOr .i64 (iOr .i64 (iOr .i64 (jC .i64 ((B0 % 8:Nat):Int) 18) (jC .i64 ((B1 % 64:Nat):Int) 12)) (jC .i64 ((B2 % 64:Nat):Int) 6)) ((B3 % 64:Nat):Int)=((B0 % 8*262144+B1 % 64*4096+B2 % 64*64+B3 % 64:Nat):Int):=by
  have h1:jC .i64 ((B0 % 8:Nat):Int) 18=((B0 % 8*2 ^ 18:Nat):Int):=vA _ 18 (by decide) O
  have h2:jC .i64 ((B1 % 64:Nat):Int) 12=((B1 % 64*2 ^ 12:Nat):Int):=vA _ 12 (by decide) O
  have h2':jC .i64 ((B2 % 64:Nat):Int) 6=((B2 % 64*2 ^ 6:Nat):Int):=vA _ 6 (by decide) O
  have h3:=u7 (B0 % 8) (B1 % 64*2 ^ 12) 18 O O  (by decide)
  have h4:=u7 (B0 % 8*64+B1 % 64) (B2 % 64*2 ^ 6) 12 O O  (by decide)
  have h5:=u7 (B0 % 8*4096+B1 % 64*64+B2 % 64) (B3 % 64) 6 O O  (by decide)
  rw [h1,h2,h2',h3,show B0 % 8*2 ^ 18+B1 % 64*2 ^ 12=(B0 % 8*64+B1 % 64)*2 ^ 12 by omega,h4,show (B0 % 8*64+B1 % 64)*2 ^ 12+B2 % 64*2 ^ 6=(B0 % 8*4096+B1 % 64*64+B2 % 64)*2 ^ 6 by omega,h5]
 rw [a31,a15,a7,a1,a2,a3,two,three,four]
 have i1:inR ((i:Int)+1):=aU O O
 have i2:inR ((i:Int)+2):=aU O O
 have i3:inR ((i:Int)+3):=aU O O
 have e0:((if (i:Int) < 0 then some true else some (decide ((i:Int)+n≤i))):Option Bool)=some false:=by
  rw [if_neg O]; simp; omega
 rw [e0,Option.bind_some,if_neg G,bT O]
 unfold decodeN
 by_cases h0:B0 < 128
 ·rw [if_pos (show (B0:Int) < 128 by omega),bT (aU O O),if_pos h0]
  simp only
  rw [if_neg O]; rfl
 rw [if_neg (show ¬ (B0:Int) < 128 by omega),if_neg h0]
 have e12:((if 194≤(B0:Int) then if (B0:Int)≤223 then ck (inR ((i:Int)+1)) <| (some (decide (1 < n∧(128:Int)≤(B1:Int)∧(B1:Int)≤191))).bind λ r10=>some r10 else some false else some false):Option Bool)=some (decide (194≤B0∧B0≤223∧1 < n∧128≤B1∧B1≤191)):=by
  by_cases q1:194≤B0
  ·rw [if_pos O]
   by_cases q2:B0≤223
   ·rw [if_pos O,bT i1,Option.bind_some]
    refine congrArg some (eqB ?_)
    rw [decide_eq_true_eq,decide_eq_true_eq]; omega
   ·rw [if_neg O]; simp; omega
  ·rw [if_neg O]; simp; omega
 rw [e12,Option.bind_some]
 by_cases h12:194≤B0∧B0≤223∧1 < n∧128≤B1∧B1≤191
 ·rw [if_pos (by simp only [decide_eq_true_eq]; exact h12),bT (aU O O),bT O,bT i1,bT O,bT (aU O O)]
  rw [if_pos (show B0 / 32=6∧1 < n∧B1 / 64=2 by omega),if_pos (show B0 % 32*64+B1 % 64 ≥ 128 by omega)]
  show some _=some (if B0 % 32*64+B1 % 64=65533∧_ then _ else _)
  rw [if_neg O]; rfl
 rw [if_neg (by simp only [decide_eq_true_eq]; exact h12)]
 have hlo:((if (B0:Int)=224 then some 160 else some 128):Option Int)=some (if B0=224 then 160 else 128):=by
  by_cases q:B0=224
  ·rw [if_pos O,if_pos q]
  ·rw [if_neg O,if_neg q]
 have hhi:((if (B0:Int)=237 then some 159 else some 191):Option Int)=some (if B0=237 then 159 else 191):=by
  by_cases q:B0=237
  ·rw [if_pos O,if_pos q]
  ·rw [if_neg O,if_neg q]
 have hlo4:((if (B0:Int)=240 then some 144 else some 128):Option Int)=some (if B0=240 then 144 else 128):=by
  by_cases q:B0=240
  ·rw [if_pos O,if_pos q]
  ·rw [if_neg O,if_neg q]
 have hhi4:((if (B0:Int)=244 then some 143 else some 191):Option Int)=some (if B0=244 then 143 else 191):=by
  by_cases q:B0=244
  ·rw [if_pos O,if_pos q]
  ·rw [if_neg O,if_neg q]
 rw [hlo,Option.bind_some,hhi,Option.bind_some]
 have e32:∀ lo hi:Int,((if 224≤(B0:Int) then if (B0:Int)≤239 then ck (inR ((i:Int)+1)) <| (some (decide (1 < n∧lo≤(B1:Int)∧(B1:Int)≤hi))).bind λ r26=>if r26=true then ck (inR ((i:Int)+2)) <| (some (decide (2 < n∧(128:Int)≤(B2:Int)∧(B2:Int)≤191))).bind λ r30=>some r30 else some false else some false else some false):Option Bool)
   = some (decide (224≤B0∧B0≤239∧(1 < n∧lo≤(B1:Int)∧(B1:Int)≤hi)∧2 < n∧128≤B2∧B2≤191)):=by
  intro lo hi
  by_cases q1:224≤B0
  ·rw [if_pos O]
   by_cases q2:B0≤239
   ·rw [if_pos O,bT i1,Option.bind_some]
    by_cases q3:1 < n∧lo≤(B1:Int)∧(B1:Int)≤hi
    ·rw [if_pos (by simp only [decide_eq_true_eq]; exact q3),bT i2,Option.bind_some]
     refine congrArg some (eqB ?_)
     rw [decide_eq_true_eq,decide_eq_true_eq]
     constructor
     ·intro q; exact ⟨q1,q2,q3,by omega⟩
     ·intro q; have:=q.2.2.2; omega
    ·rw [if_neg (by simp only [decide_eq_true_eq]; exact q3)]
     symm; rw [Option.some.injEq,decide_eq_false_iff_not]
     intro q; exact q3 q.2.2.1
   ·rw [if_neg O]
    symm; rw [Option.some.injEq,decide_eq_false_iff_not]
    intro q; exact q2 q.2.1
  ·rw [if_neg O]
   symm; rw [Option.some.injEq,decide_eq_false_iff_not]
   intro q; exact q1 q.1
 rw [e32,Option.bind_some]
 by_cases h32:224≤B0∧B0≤239∧(1 < n∧(if B0=224 then 160 else 128)≤(B1:Int)∧(B1:Int)≤(if B0=237 then 159 else 191))∧2 < n∧128≤B2∧B2≤191
 ·rw [if_pos (by simp only [decide_eq_true_eq]; exact h32)]
  obtain ⟨k1,k2,⟨k3,k4,k5⟩,k6,k7,k8⟩:=h32
  have k4':128≤B1∧(B0=224→160≤B1):=by split at k4 <;> omega
  have k5':B1≤191∧(B0=237→B1≤159):=by split at k5 <;> omega
  clear k4 k5
  repeat rw [bT (by first | exact i1 | exact i2 | omega | exact aU O O)]
  rw [if_neg (show ¬ (B0 / 32=6∧1 < n∧B1 / 64=2) by omega),if_pos (show B0 / 16=14∧(1 < n∧B1 / 64=2)∧2 < n∧B2 / 64=2 by omega),if_pos (show B0 % 16*4096+B1 % 64*64+B2 % 64 ≥ 2048∧(B0 % 16*4096+B1 % 64*64+B2 % 64 < 55296∨57344≤B0 % 16*4096+B1 % 64*64+B2 % 64∧B0 % 16*4096+B1 % 64*64+B2 % 64≤1114111) by omega)]
  show some _=some (if B0 % 16*4096+B1 % 64*64+B2 % 64=65533∧(3:Nat)=1 then _ else _)
  rw [if_neg O]; rfl
 rw [if_neg (by simp only [decide_eq_true_eq]; exact h32)]
 rw [hlo4,Option.bind_some,hhi4,Option.bind_some]
 have h32':¬ (224≤B0∧B0≤239∧1 < n∧(B0=224→160≤B1)∧128≤B1∧B1≤191∧(B0=237→B1≤159)∧2 < n∧128≤B2∧B2≤191):=by
  rintro ⟨k1,k2,k3,k4,k5,k6,k7,k8⟩
  exact h32 ⟨k1,k2,⟨k3,by split <;> omega,by split <;> omega⟩,k8⟩
 clear h32 e32
 have e60:∀ lo hi:Int,((if 240≤(B0:Int) then if (B0:Int)≤244 then ck (inR ((i:Int)+1)) <| (some (decide (1 < n∧lo≤(B1:Int)∧(B1:Int)≤hi))).bind λ r50=>if r50=true then ck (inR ((i:Int)+2)) <| (some (decide (2 < n∧(128:Int)≤(B2:Int)∧(B2:Int)≤191))).bind λ r54=>if r54=true then ck (inR ((i:Int)+3)) <| (some (decide (3 < n∧(128:Int)≤(B3:Int)∧(B3:Int)≤191))).bind λ r58=>some r58 else some false else some false else some false else some false):Option Bool)
   = some (decide (240≤B0∧B0≤244∧(1 < n∧lo≤(B1:Int)∧(B1:Int)≤hi)∧(2 < n∧128≤B2∧B2≤191)∧3 < n∧128≤B3∧B3≤191)):=by
  intro lo hi
  by_cases q1:240≤B0
  ·rw [if_pos O]
   by_cases q2:B0≤244
   ·rw [if_pos O,bT i1,Option.bind_some]
    by_cases q3:1 < n∧lo≤(B1:Int)∧(B1:Int)≤hi
    ·rw [if_pos (by simp only [decide_eq_true_eq]; exact q3),bT i2,Option.bind_some]
     by_cases q4:2 < n∧128≤B2∧B2≤191
     ·rw [if_pos (by simp only [decide_eq_true_eq]; omega),bT i3,Option.bind_some]
      refine congrArg some (eqB ?_)
      rw [decide_eq_true_eq,decide_eq_true_eq]
      constructor
      ·intro q; exact ⟨q1,q2,q3,q4,by omega⟩
      ·intro q; have:=q.2.2.2.2; omega
     ·rw [if_neg (by simp only [decide_eq_true_eq]; omega)]
      symm; rw [Option.some.injEq,decide_eq_false_iff_not]
      intro q; exact q4 q.2.2.2.1
    ·rw [if_neg (by simp only [decide_eq_true_eq]; exact q3)]
     symm; rw [Option.some.injEq,decide_eq_false_iff_not]
     intro q; exact q3 q.2.2.1
   ·rw [if_neg O]
    symm; rw [Option.some.injEq,decide_eq_false_iff_not]
    intro q; exact q2 q.2.1
  ·rw [if_neg O]
   symm; rw [Option.some.injEq,decide_eq_false_iff_not]
   intro q; exact q1 q.1
 rw [e60,Option.bind_some]
 by_cases h60:240≤B0∧B0≤244∧(1 < n∧(if B0=240 then 144 else 128)≤(B1:Int)∧(B1:Int)≤(if B0=244 then 143 else 191))∧(2 < n∧128≤B2∧B2≤191)∧3 < n∧128≤B3∧B3≤191
 ·rw [if_pos (by simp only [decide_eq_true_eq]; exact h60)]
  obtain ⟨k1,k2,⟨k3,k4,k5⟩,⟨k6,k7,k8⟩,k9,k10,k11⟩:=h60
  have k4':128≤B1∧(B0=240→144≤B1):=by split at k4 <;> omega
  have k5':B1≤191∧(B0=244→B1≤143):=by split at k5 <;> omega
  clear k4 k5
  repeat rw [bT (by first | exact i1 | exact i2 | exact i3 | omega | exact aU O O)]
  rw [if_neg (show ¬ (B0 / 32=6∧1 < n∧B1 / 64=2) by omega),if_neg (show ¬ (B0 / 16=14∧(1 < n∧B1 / 64=2)∧2 < n∧B2 / 64=2) by omega),if_pos (show B0 / 8=30∧(1 < n∧B1 / 64=2)∧(2 < n∧B2 / 64=2)∧3 < n∧B3 / 64=2 by omega)]
  generalize hv:B0 % 8*262144+B1 % 64*4096+B2 % 64*64+B3 % 64=v
  rw [if_pos (show v ≥ 65536∧(v < 55296∨57344≤v∧v≤1114111) by omega)]
  show some _=some (if v=65533∧(4:Nat)=1 then _ else _)
  rw [if_neg O]; rfl
 rw [if_neg (by simp only [decide_eq_true_eq]; exact h60)]
 have h60':¬ (240≤B0∧B0≤244∧1 < n∧(B0=240→144≤B1)∧128≤B1∧B1≤191∧(B0=244→B1≤143)∧2 < n∧128≤B2∧B2≤191∧3 < n∧128≤B3∧B3≤191):=by
  rintro ⟨k1,k2,k3,k4,k5,k6,k7,k8,k9,k10,k11⟩
  exact h60 ⟨k1,k2,⟨k3,by split <;> omega,by split <;> omega⟩,⟨k8,k9,k10⟩,k11⟩
 clear h60 e60
 symm
 refine congrArg some (if_pos ?_)
 repeat' split
 all_goals first | exact ⟨Z,Z⟩ | (exfalso; omega)
theorem z6 (s:Bytes)(hs:s.length≤1000000000):∀ (k i:Nat),s.length - i < k→i≤s.length→Ev2 (λ _ m=>fI s m (i:Int)) (·=if validD (s.drop i)=true then .inl () else .inr false):=by
 intro k
 induction k with
 | zero=>intro i h; omega
 | succ k ih =>
  intro i hk hi
  refine aJ ?_
  simp only [fI]
  by_cases h:i < s.length
  ·have hne:s.drop i≠[]:=by intro q; have:=congrArg List.length q; rw [List.length_drop] at this; simp at this; omega
   refine av O (ap _ (aR (tX s i h hs) Z) ?_)
   have hv:=uk _ hne
   have hdf:=lv _ hne
   rw [List.length_drop] at hdf
   unfold Dh
   by_cases q:(decodeL (s.drop i)).1=65533∧(decodeL (s.drop i)).2=1
   ·rw [if_pos q]
    refine av Z (aa ?_)
    rw [if_neg (λ z=>((hv.1 z).1 q))]
   ·rw [if_neg q]
    refine ar (by simp only; omega) (af (aU (by simp only; omega) (by simp only; omega)) ?_)
    have:=ih (i+(decodeL (s.drop i)).2) O O
    rw [Int.natCast_add] at this
    refine fP this λ r hr=>?_
    rw [hr,← List.drop_drop]
    by_cases z:validD ((s.drop i).drop (decodeL (s.drop i)).2)=true
    ·rw [if_pos z,if_pos (hv.2 ⟨q,z⟩)]
    ·rw [if_neg z,if_neg (λ y=>z (hv.1 y).2)]
  ·refine ar O (aa ?_)
   rw [List.drop_of_length_le O,if_pos validD_nil]
theorem Ah (s:Bytes)(hs:s.length≤1000000000):Ev2 (λ n _=>kR n s) (·=(decide (s.length≤4096)&&validD s)):=by
 simp only [kR]
 refine aB (λ h=>aa ?_) (λ h=>?_)
 ·have:¬ s.length≤4096:=by omega
  simp [this]
 ·have h':s.length≤4096:=by omega
  have l:=z6 s hs (s.length+1) 0 O O
  rw [List.drop_zero] at l
  cases hv:validD s with
  | true=>rw [hv] at l; exact fE () (a8 l) (aa (by simp [h']))
  | false=>rw [hv] at l; exact gA false (a8 l) G
theorem x6:∀ (k u:Nat),u < 10 ^ (k+1)→u≤9007199254740992→Ev2 (λ n _=>d4 n (u:Int)) (·=decDigits u):=by
 intro k
 induction k with
 | zero =>
  intro u h _
  have h:u < 10:=by simpa using h
  refine po ?_
  simp only [d4]
  have hw:IntKind.wrap .u8 (48+(u:Int))=((48+u:Nat):Int):=by rw [qE]; omega
  rw [hw]
  refine ap true (av O (aa (by simp; omega))) (av Z (af (aU O O) (af O (aa ?_))))
  rw [decDigits,dif_pos h]
  rfl
 | succ k ih =>
  intro u h hm
  refine po ?_
  simp only [d4]
  have hw:u < 10→IntKind.wrap .u8 (48+(u:Int))=((48+u:Nat):Int):=λ _=>by rw [qE]; omega
  by_cases h10:u < 10
  ·rw [hw h10]
   refine ap true (av O (aa (by simp; omega))) (av Z (af (aU O O) (af O (aa ?_))))
   rw [decDigits,dif_pos h10]
   rfl
  ·have hd:IntKind.wrap .i64 ((u:Int).tdiv 10)=((u / 10:Nat):Int):=by
    have:(u:Int).tdiv 10=((u / 10:Nat):Int):=by
     rw [Int.tdiv_eq_ediv_of_nonneg O]; omega
    rw [this]
    simp [IntKind.wrap,IntKind.bits,IntKind.signed]
    omega
   have hmod:(u:Int).tmod 10=((u % 10:Nat):Int):=by
    rw [Int.tmod_eq_emod_of_nonneg O]; omega
   refine ap false (av O (aa (by simp; omega))) (ar G ?_)
   refine ap false (ar O (aa Z)) (ar G (ar O (af (by decide) ?_)))
   rw [hd,hmod]
   have i1:=ih (u / 10) (by rw [Nat.pow_succ] at h; omega) O
   have i2:=ih (u % 10) (by have:10 ^ 1≤10 ^ (k+1):=Nat.pow_le_pow_right (by decide) O; omega) O
   have e2:decDigits (u % 10)=[UInt8.ofNat (48+u % 10)]:=by rw [decDigits,dif_pos O]
   have hl:(decDigits (u / 10)).length≤u / 10+1:=by
    have:∀ n v:Nat,v < n→(decDigits v).length≤v+1:=by
     intro n
     induction n with
     | zero=>intro v h; omega
     | succ n ihn =>
      intro v hv
      rw [decDigits]
      split
      ·simp
      ·have:=ihn (v / 10) O
       rw [List.length_append]; simp; omega
    exact this (u / 10+1) _ O
   refine ap _ i1 (af (by decide) (ap _ i2 (af ?_ (aa ?_))))
   ·rw [e2]; simp only [List.length_cons,List.length_nil]; omega
   ·conv=>rhs; rw [decDigits,dif_neg h10]
    rw [e2]
theorem BH {v:Int}(h0:0≤v)(h1:v≤iQ):Ev2 (λ n _=>d4 n v) (·=itoa v):=by
 obtain ⟨u,rfl⟩:∃ u:Nat,v=u:=⟨v.toNat,by omega⟩
 have e:itoa (u:Int)=decDigits u:=by unfold itoa; rw [if_neg O]; simp
 rw [e]
 have:u≤9007199254740992:=by unfold iQ at h1; omega
 exact x6 15 u O this
theorem zp:∀ n:Fin 16,sub C1 ((n.1:Nat):Int) (((n.1:Nat):Int)+1)=[hexDigit n.1]:=by decide
theorem yo (u:Nat)(h:u < 256):Ev2 (λ n _=>gf n (u:Int)) (·=dM u):=by
 have one:∀ v:Nat,v < 16→Ev2 (λ n _=>gf n (v:Int)) (·=[hexDigit v]):=by
  intro v hv
  refine po ?_
  simp only [gf]
  have hm:(v:Int).tmod 16=(v:Int):=by rw [Int.tmod_eq_emod_of_nonneg O]; omega
  rw [hm]
  refine af (by decide) (af (by decide) (af (aU O O) (af (by simp; omega) (av O (aa ?_)))))
  exact zp ⟨v,hv⟩
 by_cases h1:u < 16
 ·have e:dM u=[hexDigit u]:=if_pos h1
  rw [e]; exact one u h1
 ·have e:dM u=[hexDigit (u / 16),hexDigit (u % 16)]:=if_neg h1
  rw [e]
  refine po ?_
  simp only [gf]
  have hm:(u:Int).tmod 16=((u % 16:Nat):Int):=by rw [Int.tmod_eq_emod_of_nonneg O]; omega
  have hd:IntKind.wrap .i64 ((u:Int).tdiv 16)=((u / 16:Nat):Int):=by
   have:(u:Int).tdiv 16=((u / 16:Nat):Int):=by rw [Int.tdiv_eq_ediv_of_nonneg O]; omega
   rw [this]
   simp [IntKind.wrap,IntKind.bits,IntKind.signed]
   omega
  rw [hm,hd]
  have es:sub ([48,49,50,51,52,53,54,55,56,57,97,98,99,100,101,102]:Bytes) ((u % 16:Nat):Int) (((u % 16:Nat):Int)+1)=[hexDigit (u % 16)]:=zp ⟨u % 16,by omega⟩
  rw [es]
  refine af (by decide) (af (by decide) (af (aU O O) (af (by simp; omega) (ar O (af (by decide) (ap _ (one _ O) (af G (aa Z))))))))
theorem Dn (b:UInt8):Ev2 (λ n _=>iU n (b.toNat:Int)) (·=f0 b):=by
 have hb:=b.toNat_lt
 simp only [iU]
 refine aB (λ h=>aa (zf O).symm) (λ h1=>aB (λ h=>aa (yE O).symm) (λ h2=>aB (λ h=>aa (zk O).symm) (λ h3=>aB (λ h=>aa ?_) (λ h4=>aB (λ h=>aa ?_) (λ h5=>?_)))))
 ·have e:b=34:=(lJ (n:=34) (by decide)).1 O
  rw [e]; rfl
 ·have e:b=92:=(lJ (n:=92) (by decide)).1 O
  rw [e]; rfl
 ·refine ap (decide (b.toNat < 32∨b.toNat=127)) ?_ ?_
  ·by_cases h:b.toNat < 32
   ·exact av O (aa (by simp [h]))
   ·exact ar O (aa (eqB (by rw [decide_eq_true_eq,decide_eq_true_eq]; omega)))
  ·by_cases h6:b.toNat < 32∨b.toNat=127
   ·rw [yW O O O h6]
    have hl:=oO b.toNat
    exact av (by simp [h6]) (af (aU O O) (ap _ (yo b.toNat O) (af (by simp only [List.length_cons,List.length_nil]; omega) (af (by simp only [List.length_append,List.length_cons,List.length_nil]; omega) (aa Z)))))
   ·rw [xj O O  h6]
    refine ar (by simp only [decide_eq_true_eq]; exact h6) (af O (aa ?_))
    rw [Cu]
theorem AB (s:Bytes)(hs:s.length≤1000000000):∀ (k i:Nat) (f:Bytes),i+k=s.length→f.length≤6*i+1→Ev2 (λ n m=>eY n s m f (i:Int)) (·=f++(s.drop i).flatMap f0):=by
 intro k
 induction k with
 | zero =>
  intro i f hi hf
  refine aJ ?_
  simp only [eY]
  refine ar O (aa ?_)
  rw [List.drop_of_length_le O]; simp
 | succ k ih =>
  intro i f hi hf
  refine aJ ?_
  simp only [eY]
  refine av O (af O ?_)
  have hb:byt s i=((s.getD i 0).toNat:Int):=d5 s i
  rw [hb]
  have hd:s.drop i=s.getD i 0::s.drop (i+1):=by
   rw [List.getD_eq_getElem?_getD,List.getElem?_eq_getElem O,Option.getD_some]
   exact List.drop_eq_getElem_cons O
  rw [hd,List.flatMap_cons]
  have he:=qb (s.getD i 0)
  generalize s.getD i 0=b at he ⊢
  refine ap _ (Dn b) (af O (af (aU O O) ?_))
  have:=ih (i+1) (f++f0 b) O (by rw [List.length_append]; omega)
  rw [Int.natCast_add,Int.natCast_one] at this
  simpa using this
theorem vo (s:Bytes)(hs:s.length≤1000000000):Ev2 (λ n _=>jA n s) (·=dZ s):=by
 simp only [jA]
 have hf:=tR s
 have l:=AB s hs s.length 0 [34] O G
 rw [List.drop_zero] at l
 refine ap _ (a8 l) (af (by simp only [List.length_append,List.length_cons,List.length_nil]; omega) (aa ?_))
 simp [dZ]
theorem Fx:(List.range 256).all (λ n=>lw (n:Int) == some (match rM (UInt8.ofNat n) with | some d=>(d:Int) | none=>-1))=true:=by kernel_rfl
theorem Ek (b:UInt8):lw (b.toNat:Int)=some (match rM b with | some d=>(d:Int) | none=>-1):=by
 have:=eq_of_beq (List.all_eq_true.1 Fx b.toNat (List.mem_range.2 b.toNat_lt))
 simpa using this
theorem getD_drop (s:Bytes)(j i:Nat):(s.drop j).getD i 0=s.getD (j+i) 0:=by
 rw [List.getD_eq_getElem?_getD,List.getElem?_drop,List.getD_eq_getElem?_getD]
theorem uI (s:Bytes)(j i:Nat):byt s ((j:Int)+(i:Int))=((s.getD (j+i) 0).toNat:Int):=by
 rw [show (j:Int)+(i:Int)=((j+i:Nat):Int) by omega]; exact d5 s (j+i)
theorem drop_at (s:Bytes){i:Nat}(h:i < s.length):s.drop i=s.getD i 0::s.drop (i+1):=by
 rw [List.getD_eq_getElem?_getD,List.getElem?_eq_getElem h,Option.getD_some]
 exact List.drop_eq_getElem_cons h
theorem Ak (s:Bytes)(hs:s.length≤1000000000)(j:Nat)(hj:j≤s.length):∀ (k i a:Nat),i+k=6→j+i≤s.length→a < 16 ^ i→Ev2 (λ _ m=>eP s (j:Int) m (a:Int) (i:Int))
  (·=(((dx k (s.drop (j+i)) a).1:Int),((i+(dx k (s.drop (j+i)) a).2:Nat):Int))):=by
 intro k
 induction k with
 | zero =>
  intro i a hi hl ha
  refine aJ ?_
  simp only [eP]
  refine ap false ?_ (ar G (aa (by simp [dx])))
  exact af (aU O O) (aB (λ h=>ar O (aa Z)) (λ h=>aa Z))
 | succ k ih =>
  intro i a hi hl ha
  refine aJ ?_
  simp only [eP]
  rw [uI]
  have hin:inR ((j:Int)+(i:Int)):=aU O O
  by_cases h:j+i < s.length
  ·rw [drop_at s h]
   generalize s.getD (j+i) 0=b
   unfold dx
   cases hh:rM b with
   | none =>
    refine ap false (af hin (av O (av O (af hin (af O (ap _ (aR (Ek b) Z) (aa ?_))))))) (ar G (aa G))
    rw [hh]; rfl
   | some d =>
    have hlt:=y9 hh
    have hp:16 ^ i≤16 ^ 5:=Nat.pow_le_pow_right (by decide) O
    have hp5:(16:Nat) ^ 5=1048576:=rfl
    refine ap true (af hin (av O (av O (af hin (af O (ap _ (aR (Ek b) Z) (aa ?_))))))) ?_
    ·rw [hh]; simp
    refine av Z (af (aU O O) (af hin (af O (ap _ (aR (Ek b) Z) ?_))))
    rw [hh]
    simp only
    refine af (aU O O) (af (aU O O) ?_)
    have:=ih (i+1) (16*a+d) O O  (by rw [Nat.pow_succ]; omega)
    rw [show (((i+1:Nat)):Int)=(i:Int)+1 by omega,show ((16*a+d:Nat):Int)=16*(a:Int)+(d:Int) by omega,← Nat.add_assoc] at this
    refine fP this λ r hr=>?_
    rw [hr]
    refine Prod.ext Z ?_
    show ((i+1+_:Nat):Int)=((i+(_+1):Nat):Int)
    omega
  ·refine ap false (af hin (ar O (aa Z))) (ar G (aa ?_))
   rw [List.drop_of_length_le O]
   simp [dx]
def shP (j:Int)(p:Int×Int×Int):Int×Int×Int:=if p.2.2=0 then (p.1,j+p.2.1,0) else (0,0,p.2.2)
theorem zJ (s:Bytes)(hs:s.length≤1000000000)(j:Nat)(hj:j≤s.length):Ev2 (λ n _=>kA n s (j:Int)) (·=shP (j:Int) (jB (s.drop j))):=by
 simp only [kA]
 have l:=Ak s hs j hj 6 0 0 Z O (by decide)
 rw [Nat.add_zero,Nat.zero_add] at l
 have hle:=o0 6 (s.drop j) 0
 refine ap _ (a8 l) ?_
 obtain ⟨v,c,hh⟩:∃ v c,dx 6 (s.drop j) 0=(v,c):=⟨_,_,rfl⟩
 have hP:=s5 hh
 rw [hh] at hle ⊢
 rw [List.length_drop] at hle hP
 simp only at hle ⊢
 have hin:inR ((j:Int)+(c:Int)):=aU O O
 refine af hin ?_
 refine aB (λ h=>aa ?_) (λ h=>?_)
 ·rw [hP,if_pos O]; rfl
 rw [if_neg (show ¬ c=s.length - j by omega),getD_drop,getD_drop,Nat.add_zero] at hP
 have hb0:byt s (j:Int)=((s.getD j 0).toNat:Int):=d5 s j
 have h125:(s.getD (j+c) 0).toNat=125↔s.getD (j+c) 0=125:=lJ (by decide)
 have h48:(s.getD j 0).toNat=48↔s.getD j 0=48:=lJ (by decide)
 rw [uI,hb0]
 have hvr:validRune (v:Int)=false↔1114111 < (v:Int)∨(55296≤(v:Int)∧(v:Int)≤57343):=by
  simp only [validRune,decide_eq_false_iff_not]; omega
 have tail:Ev2 (λ _ _=>(if 1114111 < (v:Int) then some true else if 55296≤(v:Int) then some (decide ((v:Int)≤57343)) else some false:Option Bool)) (·=decide (validRune (v:Int)=false)):=by
  refine aB (λ h1=>aa ?_) (λ h1=>aB (λ h2=>aa (eqB ?_)) (λ h2=>aa ?_))
  ·symm; rw [decide_eq_true_eq,hvr]; exact .inl h1
  ·rw [decide_eq_true_eq,decide_eq_true_eq,hvr]; omega
  ·symm; rw [decide_eq_false_iff_not,hvr]; omega
 refine ap (decide (s.getD (j+c) 0≠125∨c=0∨(1 < c∧s.getD j 0=48)∨validRune (v:Int)=false)) ?_ ?_
 ·refine aB (λ h1=>aa ?_) (λ h1=>af hin (af O ?_))
  ·symm; rw [decide_eq_true_eq]; right; left; omega
  refine aB (λ h2=>?_) (λ h2=>aa ?_)
  ·have q1:¬ s.getD (j+c) 0≠125:=λ q=>q (h125.1 O)
   have q0:¬ c=0:=by omega
   refine aB (λ h3=>af O (aB (λ h4=>aa ?_) (λ h4=>?_))) (λ h3=>?_)
   ·symm; rw [decide_eq_true_eq]; right; right; left; exact ⟨by omega,h48.1 O⟩
   ·have q2:¬ (1 < c∧s.getD j 0=48):=λ q=>h4 (by have:=h48.2 q.2; omega)
    refine fP tail λ r hr=>?_
    rw [hr]; simp only [q1,q0,q2,false_or]
   ·have q2:¬ (1 < c∧s.getD j 0=48):=λ q=>h3 O
    refine fP tail λ r hr=>?_
    rw [hr]; simp only [q1,q0,q2,false_or]
  ·symm; rw [decide_eq_true_eq]; left; intro q; exact h2 (by have:=h125.2 q; omega)
 ·refine aB (λ h1=>aa ?_) (λ h1=>af hin (af (aU O O) (aa ?_)))
  ·rw [hP,if_pos (of_decide_eq_true h1)]; rfl
  ·rw [hP,if_neg (λ q=>h1 (decide_eq_true q))]
   unfold shP
   rw [if_pos rfl]
   refine Prod.ext Z (Prod.ext ?_ Z)
   show (j:Int)+(c:Int)+1=(j:Int)+((c+1:Nat):Int)
   omega
theorem u192:(List.range 32).all (λ n=>iOr .i64 192 (n:Int) == ((192+n:Nat):Int))=true:=by kernel_rfl
theorem Eu:(List.range 64).all (λ n=>iOr .i64 128 (n:Int) == ((128+n:Nat):Int))=true:=by kernel_rfl
theorem u224:(List.range 16).all (λ n=>iOr .i64 224 (n:Int) == ((224+n:Nat):Int))=true:=by kernel_rfl
theorem u240:(List.range 8).all (λ n=>iOr .i64 240 (n:Int) == ((240+n:Nat):Int))=true:=by kernel_rfl
theorem yv (u:Nat)(h:u < 4611686018427387904):bG .i64 (u:Int) 63=((u % 64:Nat):Int):=by
 have e1:(BitVec.ofInt 64 (u:Int)).toNat=u:=by rw [BitVec.toNat_ofInt]; omega
 have e2:(BitVec.ofInt 64 (63:Int)).toNat=63:=by rw [BitVec.toNat_ofInt]; omega
 show IntKind.wrap .i64 (((BitVec.ofInt 64 (u:Int)) &&& (BitVec.ofInt 64 (63:Int))).toNat:Nat)=_
 rw [BitVec.toNat_and,e1,e2]
 have:=Nat.and_two_pow_sub_one_eq_mod u 6
 rw [show (2:Nat) ^ 6 - 1=63 from rfl,show (2:Nat) ^ 6=64 from rfl] at this
 rw [this]
 simp [IntKind.wrap,IntKind.bits,IntKind.signed]
 omega
theorem shw (u k:Nat)(hk:k < 64):cR .i64 (u:Int) (k:Int)=((u / 2 ^ k:Nat):Int):=by
 show (u:Int).fdiv (2 ^ (min (k:Int).toNat IntKind.i64.bits))=_
 have:min (k:Int).toNat IntKind.i64.bits=k:=by
  have:IntKind.i64.bits=64:=rfl
  rw [this]; omega
 rw [this,Int.fdiv_eq_ediv_of_nonneg _ (by exact Int.le_of_lt (Int.pow_pos (by decide)))]
 push_cast; rfl
theorem DY (u:Nat)(h:fU (u:Int)):jP (u:Int)=some (encodeRune (u:Int)):=by
 have h0:(u:Int)≤1114111:=by unfold fU at h; omega
 unfold jP
 have s6:cR .i64 (u:Int) 6=((u / 64:Nat):Int):=shw u 6 (by decide)
 have s12:cR .i64 (u:Int) 12=((u / 4096:Nat):Int):=shw u 12 (by decide)
 have s18:cR .i64 (u:Int) 18=((u / 262144:Nat):Int):=shw u 18 (by decide)
 rw [s6,s12,s18,yv u O,yv (u / 64) O,yv (u / 4096) O]
 have o1:iOr .i64 128 ((u % 64:Nat):Int)=((128+u % 64:Nat):Int):=tab Eu _ O
 have o2:iOr .i64 128 ((u / 64 % 64:Nat):Int)=((128+u / 64 % 64:Nat):Int):=tab Eu _ O
 have o3:iOr .i64 128 ((u / 4096 % 64:Nat):Int)=((128+u / 4096 % 64:Nat):Int):=tab Eu _ O
 rw [o1,o2,o3]
 have w8:∀ v:Nat,v < 256→IntKind.wrap .u8 (v:Int)=(v:Int):=λ v hv=>by rw [qE]; omega
 have eu:∀ (v:Nat) (w:Int),(v:Int)=w→u8 (v:Int)=w.toNat.toUInt8:=λ v w q=>by rw [← q]; rfl
 by_cases h1:u < 128
 ·rw [if_pos O,w8 u O,bT O]
  simp only [encodeRune,encodeRuneZ,if_pos (show 0≤(u:Int)∧(u:Int)≤127 by omega),List.map_cons,List.map_nil,u8]
 rw [if_neg O]
 have n1:¬ (0≤(u:Int)∧(u:Int)≤127):=by omega
 by_cases h2:u < 2048
 ·have p1:iOr .i64 192 ((u / 64:Nat):Int)=((192+u / 64:Nat):Int):=tab u192 _ O
  rw [if_pos O,p1,w8 _ O,w8 _ O,bT O,bT O,bT O]
  simp only [encodeRune,encodeRuneZ,if_neg n1,if_pos (show 128≤(u:Int)∧(u:Int)≤2047 by omega),List.map_cons,List.map_nil]
  rw [eu _ (192+(u:Int) / 64) O,eu _ (128+(u:Int) % 64) O]
 rw [if_neg O]
 have n2:¬ (128≤(u:Int)∧(u:Int)≤2047):=by omega
 by_cases h3:u < 65536
 ·have p1:iOr .i64 224 ((u / 4096:Nat):Int)=((224+u / 4096:Nat):Int):=tab u224 _ O
  rw [if_pos O,p1,w8 _ O,w8 _ O,w8 _ O]
  repeat rw [bT O]
  simp only [encodeRune,encodeRuneZ,if_neg n1,if_neg n2,if_pos (show (2048≤(u:Int)∧(u:Int) < 55296)∨(57343 < (u:Int)∧(u:Int)≤65535) by unfold fU at h; omega),List.map_cons,List.map_nil]
  rw [eu _ (224+(u:Int) / 4096) O,eu _ (128+(u:Int) / 64 % 64) O,eu _ (128+(u:Int) % 64) O]
 ·have p1:iOr .i64 240 ((u / 262144:Nat):Int)=((240+u / 262144:Nat):Int):=tab u240 _ O
  rw [if_neg O,p1,w8 _ O,w8 _ O,w8 _ O,w8 _ O]
  repeat rw [bT O]
  simp only [encodeRune,encodeRuneZ,if_neg n1,if_neg n2,if_neg (show ¬ ((2048≤(u:Int)∧(u:Int) < 55296)∨(57343 < (u:Int)∧(u:Int)≤65535)) by omega),if_pos (show 65536≤(u:Int)∧(u:Int)≤1114111 by omega),List.map_cons,List.map_nil]
  rw [eu _ (240+(u:Int) / 262144) O,eu _ (128+(u:Int) / 4096 % 64) O,eu _ (128+(u:Int) / 64 % 64) O,eu _ (128+(u:Int) % 64) O]
theorem oX (s:Bytes)(a w:Nat):sub s (a:Int) ((a:Int)+(w:Int))=(s.drop a).take w:=by
 show (s.take ((a:Int)+(w:Int)).toNat).drop (a:Int).toNat=_
 rw [show ((a:Int)+(w:Int)).toNat=a+w by omega,Int.toNat_natCast,List.drop_take,Nat.add_sub_cancel_left]
def shE (j:Int)(p:Int×Int×Int):Bytes×Int×Int:=if p.2.2=0 then (encodeRune p.1,j+p.2.1,0) else ([],0,p.2.2)
theorem m8 (j v c:Int):shE j (v,c,0)=(encodeRune v,j+c,0):=if_pos Z
theorem yF (j v c e:Int)(h:e≠0):shE j (v,c,e)=([],0,e):=if_neg h
theorem xy (s:Bytes)(hs:s.length≤1000000000)(i:Nat)(hi:i < s.length):Ev2 (λ n _=>jb n s (i:Int)) (·=shE ((i:Int)+1) (j9 (s.drop (i+1)))):=by
 simp only [jb]
 have i1:inR ((i:Int)+1):=aU O O
 have i2:inR ((i:Int)+2):=aU O O
 have i3:inR ((i:Int)+3):=aU O O
 refine af i1 ?_
 by_cases h1:i+1 < s.length
 ·have hb:byt s ((i:Int)+1)=((s.getD (i+1) 0).toNat:Int):=uI s i 1
  have hb2:byt s ((i:Int)+2)=((s.getD (i+2) 0).toNat:Int):=uI s i 2
  have hsub:sub s ((i:Int)+1) ((i:Int)+2)=[s.getD (i+1) 0]:=by
   have:=oX s (i+1) 1
   rw [show ((i+1:Nat):Int)=(i:Int)+1 by omega,show (i:Int)+1+((1:Nat):Int)=(i:Int)+2 by omega] at this
   rw [this,drop_at s h1]; rfl
  have hd2:s.drop (i+1+1)=s.drop (i+2):=rfl
  rw [hb,hb2,hsub,drop_at s h1,hd2]
  generalize s.getD (i+1) 0=b
  have hbl:=b.toNat_lt
  have hP:=pm b (s.drop (i+2))
  refine ar O (af i1 (af O ?_))
  have two:(i:Int)+2=(i:Int)+1+1:=by omega
  refine aB (λ h=>af i2 (aa ?_)) (λ h1=>?_)
  ·rw [hP,if_pos O,m8,two]; rfl
  rw [if_neg (show ¬ b.toNat=110 by omega)] at hP
  refine aB (λ h=>af i2 (aa ?_)) (λ h2=>?_)
  ·rw [hP,if_pos O,m8,two]; rfl
  rw [if_neg (show ¬ b.toNat=114 by omega)] at hP
  refine aB (λ h=>af i2 (aa ?_)) (λ h3=>?_)
  ·rw [hP,if_pos O,m8,two]; rfl
  rw [if_neg (show ¬ b.toNat=116 by omega)] at hP
  refine ap (decide (b.toNat=34∨b.toNat=92)) ?_ ?_
  ·by_cases h:b.toNat=34
   ·exact av O (aa (by simp [h]))
   ·exact ar O (aa (eqB (by rw [decide_eq_true_eq,decide_eq_true_eq]; omega)))
  by_cases h4:b.toNat=34∨b.toNat=92
  ·rw [if_pos h4] at hP
   rw [hP,m8,qR b O]
   exact av (by simp [h4]) (af i1 (af i2 (af O (af i2 (aa (by rw [two]))))))
  rw [if_neg h4] at hP
  refine ar (by simp only [decide_eq_true_eq]; exact h4) ?_
  refine aB (λ h5=>?_) (λ h5=>aa (by rw [hP,if_neg O]; rfl))
  rw [if_pos (show b.toNat=117 by omega)] at hP
  rw [hP]
  refine af i2 ?_
  by_cases h6:i+2 < s.length
  ·rw [drop_at s h6]
   have hd3:s.drop (i+2+1)=s.drop (i+3):=rfl
   rw [hd3]
   refine ar O (af i2 (af O ?_))
   generalize s.getD (i+2) 0=c
   show Ev2 _ (·=shE ((i:Int)+1) (if c.toNat=123 then ((jB (s.drop (i+3))).1,(jB (s.drop (i+3))).2.1+2,(jB (s.drop (i+3))).2.2) else ((0,0,2):Int×Int×Int)))
   refine aB (λ h7=>af i3 ?_) (λ h7=>aa (by rw [if_neg O]; rfl))
   rw [if_pos (show c.toNat=123 by omega)]
   have hpt:=zJ s hs (i+3) O
   rw [show ((i+3:Nat):Int)=(i:Int)+3 by omega] at hpt
   have hle:=wj (s.drop (i+3))
   generalize jB (s.drop (i+3))=p at hpt hle ⊢
   obtain ⟨v,w,e⟩:=p
   simp only at hle ⊢
   refine ap _ hpt ?_
   by_cases he:e=0
   ·subst he
    have hr:=hle.2.2.1 Z
    obtain ⟨u,rfl⟩:∃ u:Nat,v=u:=⟨v.toNat,by unfold fU at hr; omega⟩
    rw [show shP ((i:Int)+3) ((u:Int),w,0)=((u:Int),(i:Int)+3+w,0) from if_pos rfl,m8]
    refine av Z (ap _ (aR (DY u hr) Z) (aa ?_))
    refine Prod.ext Z (Prod.ext ?_ Z)
    show (i:Int)+3+w=(i:Int)+1+(w+2)
    omega
   ·rw [show shP ((i:Int)+3) (v,w,e)=(0,0,e) from if_neg he,yF _ _ _ _ he]
    exact ar he (aa Z)
  ·rw [List.drop_of_length_le (show s.length≤i+2 by omega)]
   exact av O (aa Z)
 ·rw [List.drop_of_length_le O]
  exact av O (aa Z)
theorem Er (b:UInt8)(r:Bytes)(h:128≤b.toNat):128≤(decodeL (b::r)).1:=by
 have hN:=DD (b::r).length ((b::r).getD 0 0).toNat ((b::r).getD 1 0).toNat ((b::r).getD 2 0).toNat ((b::r).getD 3 0).toNat G (UInt8.toNat_lt _)
 rw [← decodeL_N] at hN
 rcases Nat.lt_or_ge (decodeL (b::r)).1 128 with q | q
 ·have:=(hN.2.2.2.1 q).2
  have hb0:((b::r).getD 0 0).toNat=b.toNat:=rfl
  omega
 ·exact q
def EP (i:Int)(b:UInt8)(r:Bytes):Bytes×Int×Int :=
 if (decodeL (b::r)).1=92 then shE (i+1) (j9 r)
 else if pY (decodeL (b::r)) then ([],0,2)
 else (encodeRune ((decodeL (b::r)).1:Int),i+((decodeL (b::r)).2:Int),0)
theorem Dk (s:Bytes)(hs:s.length≤1000000000)(i:Nat)(b:UInt8)(r:Bytes)(hl:s.drop i=b::r)(hi:i+r.length+1=s.length):Ev2 (λ n _=>mZ n s (i:Int)) (·=EP (i:Int) b r):=by
 simp only [mZ]
 have hil:i < s.length:=by omega
 have hd:=drop_at s hil
 rw [hl] at hd
 have hb:byt s i=(b.toNat:Int):=by rw [d5,← (List.cons.inj hd).1]
 have hr:s.drop (i+1)=r:=(List.cons.inj hd).2.symm
 rw [hb]
 have hbl:=b.toNat_lt
 unfold EP
 refine af O ?_
 by_cases h92:b.toNat=92
 ·have e:decodeL (b::r)=(b.toNat,1):=decodeL_ascii b r O
  rw [e,if_pos h92]
  have:=xy s hs i hil
  rw [hr] at this
  exact av O (ap _ this (aa Z))
 ·have hdec:=tX s i hil hs
  rw [hl] at hdec
  have hdf:=lv (b::r) G
  have hc:((decodeL (b::r)).1=b.toNat∧(decodeL (b::r)).2=1∧b.toNat < 128)∨(128≤(decodeL (b::r)).1∧128≤b.toNat):=by
   rcases Nat.lt_or_ge b.toNat 128 with q | q
   ·left; rw [decodeL_ascii b r q]; exact ⟨Z,Z,q⟩
   ·right; exact ⟨Er b r q,q⟩
  refine ar O (ap _ (aR hdec Z) ?_)
  unfold Dh
  generalize hD:decodeL (b::r)=D at hdf hc ⊢
  obtain ⟨c,w⟩:=D
  simp only at hdf hc ⊢
  rw [if_neg (show ¬ c=92 by omega)]
  simp only [List.length_cons] at hdf
  by_cases hbad:c=65533∧w=1
  ·rw [if_pos hbad,if_pos (show pY (c,w) from .inl hbad)]
   exact ap true (av Z (aa Z)) (av Z (aa Z))
  ·rw [if_neg hbad]
   have hgood:=hdf.2.2 hbad
   refine ap (decide (pY (c,w))) ?_ ?_
   ·refine ar (by simp only; omega) (af O (aB (λ h=>aa ?_) (λ h=>af O (aa (eqB ?_)))))
    ·symm; rw [decide_eq_true_eq]; unfold pY; simp only; omega
    ·rw [decide_eq_true_eq,decide_eq_true_eq]; unfold pY; simp only; omega
   ·refine aB (λ h=>aa (by rw [if_pos (of_decide_eq_true h)])) (λ h=>?_)
    rw [if_neg (λ q=>h (decide_eq_true q))]
    have hin:inR ((i:Int)+(w:Int)):=aU O O
    refine af hin (af (by simp only; omega) (af hin (aa ?_)))
    simp only
    rw [oX,hl,hgood.2]
def Da (s:Bytes):(Int×Bytes)⊕(Bytes×Int×Int)→Unit⊕(Bytes×Int×Int)
 | .inl q=>if q.1=(s.length:Int) then .inl () else .inr (if 4096 < q.2.length then ([],0,3) else (q.2,q.1+1,0))
 | .inr e=>.inr e
theorem Di (s:Bytes)(hs:s.length≤1000000000):∀ (k:Nat) (l:Bytes) (i:Nat) (f:Bytes),l.length < k→s.drop i=l→i+l.length=s.length→f.length≤4*i→Ev2 (λ n m=>eC n s m f (i:Int)) (·=Da s (lk k l i f)):=by
 intro k
 induction k with
 | zero=>intro l i f h; omega
 | succ k ih =>
  intro l i f hk hl hi hf
  refine aJ ?_
  simp only [eC]
  cases l with
  | nil =>
   simp only [List.length_nil] at hi
   refine ar O (aa ?_)
   rw [lk]
   show _=(if (i:Int)=(s.length:Int) then _ else _)
   rw [if_pos O]
  | cons b r =>
   have hil:i < s.length:=by simp only [List.length_cons] at hi; omega
   have hd:=drop_at s hil
   rw [hl] at hd
   have hb:byt s i=(b.toNat:Int):=by rw [d5,← (List.cons.inj hd).1]
   have hr:s.drop (i+1)=r:=(List.cons.inj hd).2.symm
   have hlr:r.length+i+1=s.length:=by simp only [List.length_cons] at hi; omega
   have hU:=ju k b r i f
   have h1:=Dk s hs i b r hl O
   rw [hb]
   refine av O (af O ?_)
   by_cases h34:b.toNat=34
   ·rw [if_pos h34] at hU
    have hO:Da s (.inl ((i:Int),f))=.inr (if 4096 < f.length then ([],0,3) else (f,(i:Int)+1,0)):=if_neg (by simp only; omega)
    rw [hU,hO]
    refine av O (aB (λ h=>aa (by rw [if_pos O])) (λ h=>af (aU O O) (aa (by rw [if_neg O]))))
   rw [if_neg h34] at hU
   refine ar O (ap _ h1 ?_)
   unfold EP
   have hdf:=lv (b::r) G
   generalize hD:decodeL (b::r)=D at hU hdf ⊢
   obtain ⟨c,w⟩:=D
   simp only at hU hdf ⊢
   by_cases h92:c=92
   ·rw [if_pos h92] at hU ⊢
    have hes:=vV r
    generalize j9 r=E at hU hes ⊢
    obtain ⟨x,y,z⟩:=E
    simp only at hU hes
    by_cases hz:z=0
    ·subst hz
     rw [if_pos rfl] at hU
     rw [m8]
     obtain ⟨e1,e2⟩:=hes.2.2.1 rfl
     obtain ⟨y',rfl⟩:∃ y':Nat,y=y':=⟨y.toNat,by omega⟩
     rw [Int.toNat_natCast] at hU
     have hle:=l8 x e1
     refine av Z (af (by dsimp only; omega) ?_)
     have:=ih (r.drop y') (i+(y'+1)) (f++encodeRune x) (by rw [List.length_drop]; simp only [List.length_cons] at hk; omega) (by rw [← hr,List.drop_drop]; congr 1; omega) (by rw [List.length_drop]; omega) (by rw [List.length_append]; omega)
     rw [← hU] at this
     rw [show ((i+(y'+1):Nat):Int)=(i:Int)+1+(y':Int) by omega] at this
     exact this
    ·rw [if_neg hz] at hU
     rw [yF _ _ _ _ hz]
     exact ar hz (aa (by rw [hU]; rfl))
   ·rw [if_neg h92] at hU ⊢
    by_cases hbd:pY (c,w)
    ·rw [if_pos hbd] at hU ⊢
     exact ar G (aa (by rw [hU]; rfl))
    ·rw [if_neg hbd] at hU ⊢
     have hgood:=hdf.2.2 (λ q=>hbd (.inl q))
     have hle:=l8 c hgood.1
     have hw:w≤r.length+1:=by simpa using hdf.2.1
     have hw1:=hdf.1
     refine av Z (af (by dsimp only; omega) ?_)
     have:=ih ((b::r).drop w) (i+w) (f++encodeRune (c:Int)) (by rw [List.length_drop]; simp only [List.length_cons] at hk ⊢; omega) (by rw [← hl,List.drop_drop]) (by rw [List.length_drop]; simp only [List.length_cons]; omega) (by rw [List.length_append]; omega)
     rw [← hU] at this
     rw [show ((i+w:Nat):Int)=(i:Int)+(w:Int) by omega] at this
     exact this
theorem Ds (s:Bytes)(hs:s.length≤1000000000):Ev2 (λ n _=>iZ n s) (·=kj s):=by
 simp only [iZ]
 cases s with
 | nil=>exact av Z (aa Z)
 | cons b r =>
  have hl:((b::r).length:Int)=(r.length:Int)+1:=by simp
  have hln:(b::r).length=r.length+1:=by simp
  refine ar O (af O ?_)
  have hb:byt (b::r) 0=(b.toNat:Int):=rfl
  rw [hb,m9]
  refine aB (λ h=>?_) (λ h=>aa (by rw [if_neg (show ¬ b.toNat=34 by omega)]))
  have l:=Di (b::r) hs (r.length+1) r 1 [] O rfl O G
  rw [if_pos (show b.toNat=34 by omega)]
  generalize lk (r.length+1) r 1 []=U at l ⊢
  cases U with
  | inr e=>exact gA e (a8 l) Z
  | inl q =>
   obtain ⟨a,g⟩:=q
   by_cases ha:a=((r.length+1:Nat):Int)
   ·have e:Da (b::r) (.inl (a,g))=.inl ():=if_pos (by simp only; omega)
    rw [e] at l
    refine fE () (a8 l) (aa ?_)
    show _=(if a=((r.length+1:Nat):Int) then _ else _)
    rw [if_pos ha]
   ·have e:Da (b::r) (.inl (a,g))=.inr (if 4096 < g.length then ([],0,3) else (g,a+1,0)):=if_neg (by simp only; omega)
    rw [e] at l
    refine gA _ (a8 l) ?_
    show _=(if a=((r.length+1:Nat):Int) then _ else if 4096 < g.length then _ else (g,a+1,0))
    rw [if_neg ha]
theorem DO (s:Bytes)(hs:s.length≤1000000000):∀ (k i:Nat),i+k=s.length→Ev2 (λ _ m=>ep s m (i:Int)) (·=if mw (λ j=>dI (s.getD j 0)) i k then .inl () else .inr false):=by
 intro k
 induction k with
 | zero =>
  intro i hi
  refine aJ ?_
  simp only [ep]
  exact ar O (aa Z)
 | succ k ih =>
  intro i hi
  refine aJ ?_
  simp only [ep]
  have hb:byt s i=((s.getD i 0).toNat:Int):=d5 s i
  rw [hb]
  refine av O (ap (!dI (s.getD i 0)) ?_ ?_)
  ·have h:=iW (s.getD i 0)
   generalize s.getD i 0=b at h ⊢
   refine af O (aB (λ h1=>aa ?_) (λ h1=>af O (aa ?_)))
   ·have:dI b=false:=by rw [← Bool.not_eq_true,h]; omega
    simp [this]
   ·refine eqB ?_
    rw [decide_eq_true_eq,Bool.not_eq_true',← Bool.not_eq_true,h]
    omega
  ·cases hk:dI (s.getD i 0) with
   | false=>exact av Z (aa (by simp only [mw,hk,Bool.false_and]; rfl))
   | true =>
    refine ar G (af (aU O O) ?_)
    have:=ih (i+1) O
    rw [Int.natCast_add,Int.natCast_one] at this
    simp only [mw,hk,Bool.true_and]
    exact this
theorem C6 (s:Bytes)(hs:s.length≤1000000000):Ev2 (λ n _=>jG n s) (·=p7 s):=by
 simp only [jG]
 have l:=DO s hs s.length 0 O
 rw [uA] at l
 have hc:=jV s
 have hb:byt s 0=((s.getD 0 0).toNat:Int):=d5 s 0
 have h48:(s.getD 0 0).toNat=48↔s.getD 0 0=48:=lJ (by decide)
 cases ha:s.all dI with
 | false =>
  rw [ha] at l hc
  refine gA false (a8 l) (eqB ?_)
  rw [hc]; simp
 | true =>
  rw [ha] at l hc
  refine fE () (a8 l) (jU (·=p7 s) ?_ (λ x hx=>aa hx))
  refine aB (λ h=>aa (eqB ?_)) (λ h0=>aB (λ h=>aa (eqB ?_)) (λ h=>af ?_ (aa (eqB ?_))))
  ·rw [hc,h]; simp
  ·rw [hc]; simp [h]
  ·have:=List.length_pos_iff.2 h; omega
  ·rw [hb,hc,Bool.not_eq_true',decide_eq_false_iff_not]
   constructor
   ·intro q; exact ⟨h,rfl,.inl λ z=>q (by have:=h48.2 z; omega)⟩
   ·rintro ⟨_,_,q | q⟩
    ·intro z; exact q (h48.1 O)
    ·intro z
     obtain ⟨b,hb1⟩:=List.length_eq_one_iff.1 q
     have h3:=h48.1 O
     rw [hb1] at h3
     exact h0 (by rw [hb1]; exact congrArg (λ x=>[x]) h3)
def uK (l:Bytes):Int×Int:=if p7 l=true then (if l.length≤16∧fS 0 l≤9007199254740992 then ((fS 0 l:Int),0) else (0,5)) else (0,2)
theorem vO:∀ (l:Bytes) (a:Nat),l.all dI=true→fS a l < (a+1)*10 ^ l.length
 | [],a,_=>by simp [mJ]
 | b::r,a,h=>by
  have hb:=ko h (b:=b) List.mem_cons_self
  have hr:r.all dI=true:=by
   rw [List.all_eq_true] at h ⊢
   exact λ x hx=>h x (List.mem_cons_of_mem _ hx)
  have:=vO r (a*10+(b.toNat - 48)) hr
  rw [pj,List.length_cons,Nat.pow_succ]
  have h2:a*10+(b.toNat - 48)+1≤(a+1)*10:=by omega
  have h3:=Nat.mul_le_mul_right (10 ^ r.length) h2
  have h4:(a+1)*10*10 ^ r.length=(a+1)*(10 ^ r.length*10):=by rw [Nat.mul_assoc,Nat.mul_comm 10]
  omega
theorem CZ (s:Bytes)(hs:s.length≤16)(hd:s.all dI=true):∀ (k i:Nat),i+k=s.length→Ev2 (λ _ m=>eO s m (fS 0 (s.take i):Int) (i:Int)) (·=(fS 0 s:Int)):=by
 intro k
 induction k with
 | zero =>
  intro i hi
  refine aJ ?_
  simp only [eO]
  refine ar O (aa ?_)
  rw [List.take_of_length_le O]
 | succ k ih =>
  intro i hi
  refine aJ ?_
  simp only [eO]
  have hil:i < s.length:=by omega
  have hb:byt s i=((s.getD i 0).toNat:Int):=d5 s i
  have hm:s.getD i 0∈s:=by
   rw [List.getD_eq_getElem?_getD,List.getElem?_eq_getElem hil,Option.getD_some]; exact List.getElem_mem hil
  have hdig:=ko hd hm
  have ht:s.take (i+1)=s.take i++[s.getD i 0]:=by
   rw [List.take_add_one,List.getElem?_eq_getElem hil,List.getD_eq_getElem?_getD,List.getElem?_eq_getElem hil]; rfl
  have hall:(s.take i).all dI=true:=by
   rw [List.all_eq_true] at hd ⊢
   exact λ x hx=>hd x (List.mem_of_mem_take hx)
  have hlt:=vO (s.take i) 0 hall
  rw [List.length_take] at hlt
  have hp:10 ^ min i s.length≤10 ^ 15:=Nat.pow_le_pow_right (by decide) O
  have hp15:(10:Nat) ^ 15=1000000000000000:=rfl
  have:=ih (i+1) O
  rw [ht,qT] at this
  rw [hb]
  generalize s.getD i 0=b at hdig this
  generalize fS 0 (s.take i)=v at hlt this
  have hw:IntKind.wrap .u8 ((b.toNat:Int) - 48)=((b.toNat - 48:Nat):Int):=by rw [qE]; omega
  rw [hw]
  refine av O (af (aU O O) (af O (af (aU O O) (af (aU O O) (af (aU O O) ?_)))))
  rw [show ((v*10+(b.toNat - 48):Nat):Int)=10*(v:Int)+((b.toNat - 48:Nat):Int) by omega,show ((i+1:Nat):Int)=(i:Int)+1 by omega] at this
  exact this
theorem C2 (s:Bytes)(hs:s.length≤1000000000)(hd:s.all dI=true):Ev2 (λ n _=>kr n s) (·=uK s):=by
 simp only [kr]
 have hneg:¬ (0 < s.length∧byt s 0=45):=by
  rintro ⟨h1,h2⟩
  have hb:byt s 0=((s.getD 0 0).toNat:Int):=d5 s 0
  have hm:s.getD 0 0∈s:=by
   rw [List.getD_eq_getElem?_getD,List.getElem?_eq_getElem h1,Option.getD_some]; exact List.getElem_mem h1
  have:=ko hd hm
  omega
 refine ap false ?_ ?_
 ·refine aB (λ h=>af O (aa ?_)) (λ h=>aa Z)
  rw [decide_eq_false_iff_not]; intro q; exact hneg ⟨by omega,q⟩
 refine ap s (ar G (aa Z)) ?_
 unfold uK
 refine ap (!p7 s) ?_ ?_
 ·refine ap _ (C6 s hs) ?_
  cases p7 s with
  | false=>exact av Z (aa Z)
  | true=>exact ar G (ar G (aa Z))
 cases hc:p7 s with
 | false=>exact av Z (aa G)
 | true =>
  refine ar G ?_
  rw [if_pos rfl]
  refine aB (λ h=>aa (by rw [if_neg O])) (λ h=>?_)
  have l:=CZ s O hd s.length 0 O
  rw [List.take_zero,mJ] at l
  have hlt:=vO s 0 hd
  have hp:10 ^ s.length≤10 ^ 16:=Nat.pow_le_pow_right (by decide) O
  have hp16:(10:Nat) ^ 16=10000000000000000:=rfl
  refine ap _ (a8 l) (ap _ (ar G (aa Z)) (ap (decide (fS 0 s≤9007199254740992)) ?_ ?_))
  ·simp only [l6]
   refine jU (·=decide (fS 0 s≤9007199254740992)) (av O (aa (eqB ?_))) (λ t ht=>aa ht)
   rw [decide_eq_true_eq,decide_eq_true_eq]; omega
  ·by_cases hv:fS 0 s≤9007199254740992
   ·exact ar (by simp [hv]) (aa (by rw [if_pos ⟨by omega,hv⟩]))
   ·exact av (by simp [hv]) (aa (by rw [if_neg (λ q=>hv q.2)]))
theorem AA {v:Int}(h0:0≤v)(h1:v≤iQ):uK (itoa v)=(v,0):=by
 have hl:=qm h0 h1
 obtain ⟨u,rfl⟩:∃ u:Nat,v=u:=⟨v.toNat,by omega⟩
 have e:itoa (u:Int)=decDigits u:=by unfold itoa; rw [if_neg O]; simp
 rw [e] at hl ⊢
 have hd:=wu (u+1) u O
 unfold uK
 rw [if_pos ((jV _).2 ⟨hd.2.2.1,hd.2.1,hd.2.2.2.1⟩),hd.1,if_pos ⟨hl,by unfold iQ at h1; omega⟩]
theorem zT {l:Bytes}{v:Int}(h:uK l=(v,0)):itoa v=l∧0≤v∧v≤iQ:=by
 unfold uK at h
 split at h
 ·rename_i hc
  split at h
  ·rename_i hv
   cases h
   have hb:=(si l.length l (Nat.le_refl _) hc).1
   refine ⟨?_,by omega,by unfold iQ; omega⟩
   have e:itoa ((fS 0 l:Nat):Int)=decDigits (fS 0 l):=by unfold itoa; rw [if_neg O]; simp
   rw [e,hb]
  ·cases h
 ·cases h
theorem sX (k:bS)(hk:k.fStr.length≤1000000000):Ev2 (λ n _=>jv n k) (·=cA k):=by
 simp only [jv]
 unfold cA
 by_cases h1:k.fKind=1
 ·refine av h1 ?_
  rw [if_neg (show ¬ k.fKind=0 by omega),if_pos h1]
  refine jU (·=decide (0≤k.fNum∧k.fNum≤iQ∧k.fStr=[])) ?_ (λ t ht=>aa ht)
  refine aB (λ h2=>aB (λ h3=>aa ?_) (λ h3=>aa ?_)) (λ h2=>aa ?_)
  ·simp [h2,iQ,h3]
  ·symm; rw [decide_eq_false_iff_not]; intro q; exact h3 q.2.1
  ·symm; rw [decide_eq_false_iff_not]; intro q; exact h2 q.1
 ·refine ar h1 ?_
  by_cases h2:k.fKind=2
  ·refine av h2 ?_
   rw [if_neg (show ¬ k.fKind=0 by omega),if_neg h1,if_pos h2]
   refine jU (·=(decide (k.fNum=0)&&(decide (k.fStr.length≤4096)&&validD k.fStr))) ?_ (λ t ht=>aa ht)
   refine aB (λ h3=>ap _ (Ah _ hk) (aa (by simp [h3]))) (λ h3=>aa (by simp [h3]))
  ·refine ar h2 (aa ?_)
   by_cases h0:k.fKind=0
   ·rw [if_pos h0]; simp [h0]
   ·rw [if_neg h0,if_neg h1,if_neg h2]; simp [h0]
def vR:List Bytes:=[[109,111,100,117,108,101],[100,97,116,97],[118,97,114],[108,111,99,97,108],[111,117,116,112,117,116],[101,97,99,104],[99,111,117,110,116],[114,101,109,111,116,101],[112,97,116,104],[115,101,108,102],[99,104,97,110,103,101]]
theorem EG (s:Bytes):vR.contains s=fg s:=by
 unfold vR fg
 simp only [List.contains_cons,List.contains_nil,Bool.or_false]
 ac_rfl
theorem Fh (s:Bytes):∀ (k i:Nat),i+k=11→Ev2 (λ _ m=>dh s m (i:Int)) (·=if (vR.drop i).contains s=true then .inr true else .inl ()):=by
 intro k
 induction k with
 | zero =>
  intro i hi
  refine aJ ?_
  simp only [dh]
  obtain rfl:i=11:=by omega
  exact ar G (aa Z)
 | succ k ih =>
  intro i hi
  refine aJ ?_
  simp only [dh]
  have hlen:vR.length=11:=rfl
  have hil:i < vR.length:=by omega
  have:=ih (i+1) O
  rw [Int.natCast_add,Int.natCast_one] at this
  show Ev2 (λ _ m=>if (i:Int) < (vR.length:Int) then ck ((0:Int)≤i∧(i:Int) < (vR.length:Int)) <| if lat vR (i:Int)=s then some (Sum.inr true) else ck (inR ((i:Int)+1)) <| dh s m ((i:Int)+1) else some (Sum.inl ())) _
  refine av O (af O ?_)
  rw [cI _ _ hil,List.drop_eq_getElem_cons hil,List.contains_cons]
  refine aB (λ h=>aa ?_) (λ h=>af (aU O O) ?_)
  ·rw [h]; simp
  ·have hb:(s == vR[i])=false:=by simp; exact λ q=>h q.symm
   rw [hb,Bool.false_or]; exact this
theorem AZ (s:Bytes):Ev2 (λ n _=>gD n s) (·=fg s):=by
 simp only [gD]
 have l:=Fh s 11 0 Z
 rw [List.drop_zero,EG] at l
 cases h:fg s with
 | true=>rw [h] at l; exact gA true (a8 l) rfl
 | false=>rw [h] at l; exact fE () (a8 l) (aa rfl)
def Sk (a:ah):Prop:=a.fKey.fStr.length≤100000∧∀ x∈a.fModule,x.fKey.fStr.length≤100000
theorem Aa (a:ah)(ha:Sm a)(hk:Sk a):∀ (k i:Nat),i+k=a.fModule.length→Ev2 (λ n m=>eM n a m (i:Int)) (·=if jk (a.fModule.drop i)=0 then .inl () else .inr (jk (a.fModule.drop i))):=by
 intro k
 induction k with
 | zero =>
  intro i hi
  refine aJ ?_
  simp only [eM]
  refine ar O (aa ?_)
  rw [List.drop_of_length_le O]; rfl
 | succ k ih =>
  intro i hi
  refine aJ ?_
  simp only [eM]
  have hil:i < a.fModule.length:=by omega
  refine av O (af O ?_)
  rw [cI _ _ hil,List.drop_eq_getElem_cons hil]
  have hx:=ha.2.2.2 _ (List.getElem_mem hil)
  have hx2:=hk.2 _ (List.getElem_mem hil)
  have:=ih (i+1) O
  have hlen:=ha.1
  generalize a.fModule[i]=x at hx hx2 ⊢
  unfold jk
  refine ap _ (ls x.fName O) ?_
  cases h1:bX x.fName with
  | false=>exact av Z (aa G)
  | true =>
   refine ar G (af O (ap _ (sX _ O) ?_))
   cases h2:cA x.fKey with
   | false=>exact av Z (aa G)
   | true =>
    refine ar G (af (aU O O) ?_)
    rw [Int.natCast_add,Int.natCast_one] at this
    simpa using this
theorem zI (a:ah)(ha:Sm a)(hk:Sk a):Ev2 (λ n _=>kz n a) (·=nr a):=by
 simp only [kz]
 unfold nr
 refine aB (λ h=>aa (by rw [if_pos O])) (λ h=>?_)
 rw [if_neg (show ¬ 16 < a.fModule.length by omega)]
 have l:=Aa a ha hk a.fModule.length 0 O
 rw [List.drop_zero] at l
 by_cases he:jk a.fModule=0
 ·rw [if_pos he] at l
  rw [if_neg (by simp [he])]
  refine fE () (a8 l) ?_
  refine ap (decide (ig a.fType=false∨bX a.fName=false)) ?_ ?_
  ·refine ap _ (ls _ (by have:=ha.2.1; omega)) ?_
   unfold ig
   cases bX a.fType with
   | false=>exact av Z (aa G)
   | true =>
    refine ar G (ap _ (AZ _) ?_)
    cases fg a.fType with
    | true=>exact av Z (aa G)
    | false =>
     refine ar G (ap _ (ls _ (by have:=ha.2.2.1; omega)) (aa ?_))
     cases bX a.fName <;> simp
  ·refine aB (λ h=>aa (by rw [if_pos (of_decide_eq_true h)])) (λ h=>?_)
   rw [if_neg (λ q=>h (decide_eq_true q))]
   refine ap _ (sX _ (by have:=hk.1; omega)) ?_
   cases cA a.fKey with
   | false=>exact av Z (aa G)
   | true=>exact ar G (aa G)
 ·rw [if_neg he] at l
  rw [if_pos he]
  exact gA _ (a8 l) Z
theorem wB (k:bS)(hk:k.fStr.length≤1000000000):Ev2 (λ n _=>fV n k) (·=aO k):=by
 simp only [fV]
 unfold aO
 refine ap (decide (cA k=false∨k.fKind=0)) ?_ ?_
 ·refine ap _ (sX _ hk) ?_
  cases cA k with
  | false=>exact av Z (aa G)
  | true=>exact ar G (aa G)
 ·refine aB (λ h=>aa (by rw [if_pos (of_decide_eq_true h)])) (λ h=>?_)
  have h:=λ q=>h (decide_eq_true q)
  rw [if_neg h]
  have hko:cA k=true:=by
   cases hh:cA k with
   | true=>rfl
   | false=>exact absurd (.inl hh) h
  refine aB (λ h1=>?_) (λ h1=>?_)
  ·rw [if_pos h1]
   have hn:=nc hko h1
   have hl:=qm hn.1 hn.2.1
   refine ap _ (BH hn.1 hn.2.1) (af (by simp only [List.length_cons,List.length_nil]; omega) (af (by simp only [List.length_append,List.length_cons,List.length_nil]; omega) (aa Z)))
  ·rw [if_neg h1]
   have h2:k.fKind=2:=by
    rcases ks hko with q | q | q
    ·exact absurd (.inr q) h
    ·exact absurd q h1
    ·exact q
   have hs:=na hko h2
   have hl:=re k.fStr
   refine ap _ (vo _ O) (af (by simp only [List.length_cons,List.length_nil]; omega) (af (by simp only [List.length_append,List.length_cons,List.length_nil]; omega) (aa Z)))
theorem Ae (l:List ac)(hm:l.length≤16)(ha:∀ x∈l,bX x.fName=true)(hk:∀ x∈l,x.fKey.fStr.length≤100000):∀ (k i:Nat) (f:Bytes),i+k=l.length→f.length≤25000*i→Ev2 (λ n m=>fe n l m f (i:Int)) (·=f++(l.drop i).flatMap bK):=by
 intro k
 induction k with
 | zero =>
  intro i f hi hf
  refine aJ ?_
  simp only [fe]
  refine ar O (aa ?_)
  rw [List.drop_of_length_le O]; simp
 | succ k ih =>
  intro i f hi hf
  refine aJ ?_
  simp only [fe]
  have hil:i < l.length:=by omega
  refine av O (af (by simp only [List.length_cons,List.length_nil]; omega) (af O ?_))
  rw [cI _ _ hil,List.drop_eq_getElem_cons hil]
  have hx:=ha _ (List.getElem_mem hil)
  have hx2:=hk _ (List.getElem_mem hil)
  generalize l[i]=x at hx hx2 ⊢
  have h1:=eA hx
  have h2:=kU x.fKey
  have h3:=nh hx
  refine af (by simp only [List.length_append,List.length_cons,List.length_nil]; omega) (af O (ap _ (wB x.fKey O) ?_))
  refine af (by simp only [List.length_append,List.length_cons,List.length_nil]; omega) (af (by simp only [List.length_append,List.length_cons,List.length_nil]; omega) (af (aU O O) ?_))
  have e:(((f++([109,111,100,117,108,101,46]:Bytes))++x.fName)++aO x.fKey)++([46]:Bytes)=f++bK x:=by simp [bK,iS]
  rw [e]
  have:=ih (i+1) (f++bK x) O (by rw [List.length_append]; omega)
  rw [Int.natCast_add,Int.natCast_one] at this
  simpa using this
theorem wC (a:ah)(ha:Sm a)(hk:Sk a):Ev2 (λ n _=>jL n a) (·=nw a):=by
 simp only [jL,mc]
 unfold nw
 refine ap _ (zI a ha hk) (aB (λ h=>?_) (λ h=>aa (by rw [if_neg h])))
 rw [if_pos h]
 obtain ⟨c1,c2,c3,c4,c5⟩:=(l7 a).1 h
 have l:=Ae a.fModule c1 (λ x hx=>(c2 x hx).1) hk.2 a.fModule.length 0 [] O G
 have hl:=rJ a.fModule (λ x hx=>(c2 x hx).1)
 rw [List.drop_zero,List.nil_append] at l
 refine ap _ (ap _ (a8 l) (aa Z)) ?_
 unfold gG
 generalize a.fModule.flatMap bK=st at hl ⊢
 have h1:=eA ((ki _).1 c3).2
 have h2:=eA c4
 have h3:=kU a.fKey
 have hd:(if a.fData=true then bE else ([]:Bytes)).length≤5:=by split <;> simp [bE]
 refine ap (st++(if a.fData=true then bE else [])) ?_ ?_
 ·refine aB (λ h=>?_) (λ h=>aa (by rw [if_neg h]; simp))
  rw [if_pos h]
  exact af (by simp only [List.length_cons,List.length_nil]; omega) (aa (by simp [bE]))
 ·refine af (by simp only [List.length_append]; omega) (af (by simp only [List.length_append,List.length_cons,List.length_nil]; omega) (af (by simp only [List.length_append,List.length_cons,List.length_nil]; omega) (ap _ (wB a.fKey (by have:=hk.1; omega)) (af (by simp only [List.length_append,List.length_cons,List.length_nil]; omega) (aa ?_)))))
  simp
end Go.Ab.R06
end
section
namespace Go.Ab.R06
open Go.Proofs Go.Ab Go.Ab.RB
attribute [local irreducible] awp ei aS aC bC AV.sub M dN
abbrev mR:List AV:=[.p (.val (.slice none 0 0)),.p (eB false),.p (eS ([]:Bytes)),.p (eS ([]:Bytes)),.p (eI 0),.p (eI 0),.p (eS ([]:Bytes)),.p (eB false)]
abbrev lW:List AV:=[.p (.val (.slice none 0 0)),.p (eB false),.p (eS ([]:Bytes)),.p (eS ([]:Bytes)),.p (eI 0),.p (eI 0),.p (eS ([]:Bytes))]
abbrev qn:List AV:=[.p (eS ([]:Bytes)),.p (eI 0),.p (eI 0),.p (eS ([]:Bytes))]
abbrev im:List AV:=[.p (eI 0),.p (eI 0),.p (eS ([]:Bytes))]
def iH (s_0:Bytes)(p_1:Bytes):Option Bool :=
 (
   if (p_1.length:Int)≤(s_0.length:Int) then
    ck ((0:Int)≤0∧0≤(p_1.length:Int)∧(p_1.length:Int)≤(s_0.length:Int)) <|
    some (decide (sub s_0 0 (p_1.length:Int)=p_1))
   else
    some false
  : Option Bool).bind λ t3 =>
 some t3
theorem nP (s_0:Bytes)(p_1:Bytes)(r:Bool)(h0:iH s_0 p_1=some r):aC Tryz.prog 102 [eS s_0,eS p_1] (·=.p (eB r)):=by
 unfold iH at h0
 refine bc good Tryz.func102 Z Z Z λ w0=>mP (λ v:Bool=>.p (eB v)) ?_
 refine nx 5 Z (bd h0 λ o5 h1 h0=>?_)
 refine kN o5 (λ v6=>⟨[(4,.p (eB v6))],[]⟩) ?_ ?_
 ·exact nx 2 Z (mQ (oi h0) Z (sr))
 refine nx 2 Z (oLs Z (nx 1 Z (oLs Z (nx 2 Z (fD [9,10] h1 Z (λ c1 h1=>?_) λ c1 h1=>?_)))))
 ·exact nx 2 Z (oLs Z (oP h1 Z Z Z λ hk2 h1=>nx 1 Z (oS Z Z (nx 3 Z (eX _ (oi h1).symm (gE Z Z))))))
 exact nx 9 Z (eX _ (oi h1).symm (gE Z Z))
def fA (s_0:Bytes):Nat→Int→Option Int
 | 0,_=>none
 | m+1,n13 =>
 (
   if n13 < (s_0.length:Int) then
    ck ((0:Int)≤n13∧n13 < (s_0.length:Int)) <|
    (gU (byt s_0 n13)).bind λ r16 =>
    if r16=true then
     some true
    else
     ck ((0:Int)≤n13∧n13 < (s_0.length:Int)) <|
     if 48≤byt s_0 n13 then
      ck ((0:Int)≤n13∧n13 < (s_0.length:Int)) <|
      some (decide (byt s_0 n13≤57))
     else
      some false
   else
    some false
  : Option Bool).bind λ t22 =>
 if t22=true then
  ck (inR (n13+1)) <|
  fA s_0 m (n13+1)
 else
  some n13
def ji (n:Nat)(s_0:Bytes):Option (Bytes×Bytes) :=
 (fA s_0 n 0).bind λ n26 =>
 ck ((0:Int)≤0∧0≤n26∧n26≤(s_0.length:Int)) <|
 ck ((0:Int)≤n26∧n26≤(s_0.length:Int)∧(s_0.length:Int)≤(s_0.length:Int)) <|
 some (sub s_0 0 n26,sub s_0 n26 (s_0.length:Int))
theorem mA (n:Nat)(s_0:Bytes)(r:Bytes×Bytes)(h0:ji n s_0=some r):aC Tryz.prog 104 [eS s_0] (·=.tuple [.p (eS r.1),.p (eS r.2)]):=by
 unfold ji at h0
 refine bc good Tryz.func104 Z Z Z λ w0=>mP (λ v:Bytes×Bytes=>.tuple [.p (eS v.1),.p (eS v.2)]) ?_
 refine nx 11 Z (bd h0 λ o31 h1 h0=>?_)
 refine kE 0 o31 (λ v32=>⟨[(0,.p (eS s_0)),(4,.p (eI v32))],[]⟩) ?_ ?_
 ·refine nx 2 Z (cc' h0 λ hk27 h0=>cc' h0 λ hk28 h0=>mD [(0,.p (eS s_0)),(4,.p (eI o31))] Z ⟨Z,Z,trivial⟩ Z (dR 2 Z (dq (.p (eS (sub s_0 0 o31))) [29,30] Z (λ _ e _ q=>aj Z (g0 (a:=s_0) (l:=0) (h:=o31) Z Z Z Z Z (e _ _ Z) Z (nH (e _ _ Z)) hk27 q)) Z (dR 2 Z (dq (.p (eS (sub s_0 o31 (s_0.length:Int)))) [32,33] Z (λ _ e _ q=>aj Z (g0 (a:=s_0) (l:=o31) (h:=(s_0.length:Int)) Z Z Z Z Z (e _ _ Z) (nE (e _ _ Z)) Z hk28 q)) Z (dR 2 Z ?_))))))
  refine dE Z (nx 2 Z ?_)
  exact mQ (oi h0) Z (aA ⟨sr,sr,trivial⟩)
 refine lG (λ (q33:Int)=>⟨[(0,.p (eS s_0)),(4,.p (eI q33))],[]⟩) (λ m (q33:Int)=>fA s_0 m q33) Y 0 h1 (gE Z Z) ?_
 rintro m n13 h1
 replace h1:fA s_0 (m+1) n13=some o31:=h1
 rw [fA] at h1
 refine nx 2 Z (bd h1 λ o34 h2 h1=>?_)
 refine kN o34 (λ v35=>⟨[(0,.p (eS s_0)),(4,.p (eI n13)),(26,.p (eB v35))],[]⟩) ?_ ?_
 ·refine nx 1 Z (fB [26] h1 Z (λ c23 h1=>?_) λ c23 h1=>?_)
  ·exact nx 5 Z (oA h1 Z Z λ hk24 h1=>nx 2 Z (eX (n13+1) h1 (gE Z Z)))
  exact nx 2 Z (eXi _ (oi h1).symm (gE Z Z))
 refine nx 3 Z (oLs Z (nx 2 Z (fD [8,9] h2 Z (λ c14 h2=>?_) λ c14 h2=>?_)))
 ·refine nx 2 Z (oI h2 Z λ hk15 h2=>bd h2 λ r16 e17 h2=>oK (kZ (byt s_0 n13) _ e17) Z ⟨sr,trivial⟩ Tryz.call129 Z (nx 1 Z ?_))
  refine fB [13,14] h2 Z (λ c18 h2=>?_) λ c18 h2=>?_
  ·exact nx 13 Z (eX _ (oi h2).symm (gE Z Z))
  refine nx 2 Z (oI h2 Z λ hk19 h2=>nx 2 Z (fD [18,19] h2 Z (λ c20 h2=>?_) λ c20 h2=>?_))
  ·exact nx 2 Z (oI h2 Z λ hk21 h2=>nx 5 Z (eX _ (oi h2).symm (gE Z Z)))
  exact nx 8 Z (eX _ (oi h2).symm (gE Z Z))
 exact nx 18 Z (eX _ (oi h2).symm (gE Z Z))
def fX (s_0:Bytes):Nat→Int→Option Int
 | 0,_=>none
 | m+1,n37 =>
 (
   if n37 < (s_0.length:Int) then
    ck ((0:Int)≤n37∧n37 < (s_0.length:Int)) <|
    if 48≤byt s_0 n37 then
     ck ((0:Int)≤n37∧n37 < (s_0.length:Int)) <|
     some (decide (byt s_0 n37≤57))
    else
     some false
   else
    some false
  : Option Bool).bind λ t42 =>
 if t42=true then
  ck (inR (n37+1)) <|
  fX s_0 m (n37+1)
 else
  some n37
def ly (n:Nat)(s_0:Bytes):Option (bS×Bytes×Bool) :=
 (
   if s_0=([]:Bytes) then
    some true
   else
    ck ((0:Int)≤0∧0 < (s_0.length:Int)) <|
    some (!decide (byt s_0 0=91))
  : Option Bool).bind λ t3 =>
 if t3=true then
  some ((bS.mk 0 0 ([]:Bytes)),s_0,true)
 else
  (
    if 1 < (s_0.length:Int) then
     ck ((0:Int)≤1∧1 < (s_0.length:Int)) <|
     some (decide (byt s_0 1=34))
    else
     some false
   : Option Bool).bind λ t7 =>
  if t7=true then
   ck ((0:Int)≤1∧1≤(s_0.length:Int)∧(s_0.length:Int)≤(s_0.length:Int)) <|
   (iZ n (sub s_0 1 (s_0.length:Int))).bind λ r10 =>
   (
     if r10.2.2=0 then
      ck (inR (r10.2.1+1)) <|
      if (s_0.length:Int)≤r10.2.1+1 then
       some true
      else
       ck (inR (r10.2.1+1)) <|
       ck ((0:Int)≤r10.2.1+1∧r10.2.1+1 < (s_0.length:Int)) <|
       if byt s_0 (r10.2.1+1)=93 then
        ck (inR (r10.2.1+1)) <|
        ck ((0:Int)≤1∧1≤r10.2.1+1∧r10.2.1+1≤(s_0.length:Int)) <|
        (jA n r10.1).bind λ r20 =>
        if sub s_0 1 (r10.2.1+1)=r20 then
         (jv n (bS.mk 2 0 r10.1)).bind λ r23 =>
         some (!r23)
        else
         some true
       else
        some true
     else
      some true
    : Option Bool).bind λ t25 =>
   if t25=true then
    some ((bS.mk 0 0 ([]:Bytes)),([]:Bytes),false)
   else
    ck (inR (r10.2.1+2)) <|
    ck ((0:Int)≤r10.2.1+2∧r10.2.1+2≤(s_0.length:Int)∧(s_0.length:Int)≤(s_0.length:Int)) <|
    some ((bS.mk 2 0 r10.1),sub s_0 (r10.2.1+2) (s_0.length:Int),true)
  else
   (fX s_0 n 1).bind λ n46 =>
   ck ((0:Int)≤1∧1≤n46∧n46≤(s_0.length:Int)) <|
   (kr n (sub s_0 1 n46)).bind λ r48 =>
   (
     if r48.2=0 then
      if (s_0.length:Int)≤n46 then
       some true
      else
       ck ((0:Int)≤n46∧n46 < (s_0.length:Int)) <|
       some (!decide (byt s_0 n46=93))
     else
      some true
    : Option Bool).bind λ t53 =>
   if t53=true then
    some ((bS.mk 0 0 ([]:Bytes)),([]:Bytes),false)
   else
    ck (inR (n46+1)) <|
    ck ((0:Int)≤n46+1∧n46+1≤(s_0.length:Int)∧(s_0.length:Int)≤(s_0.length:Int)) <|
    some ((bS.mk 1 r48.1 ([]:Bytes)),sub s_0 (n46+1) (s_0.length:Int),true)
theorem qx (n:Nat)(s_0:Bytes)(r:bS×Bytes×Bool)(h0:ly n s_0=some r):aC Tryz.prog 107 [eS s_0] (·=.tuple [.p (.agg (bS.cs r.1)),.p (eS r.2.1),.p (eB r.2.2)]):=by
 unfold ly at h0
 refine bc good Tryz.func107 Z Z Z λ w0=>mP (λ v:bS×Bytes×Bool=>.tuple [.p (.agg (bS.cs v.1)),.p (eS v.2.1),.p (eB v.2.2)]) ?_
 refine nx 8 Z (bd h0 λ o63 h1 h0=>?_)
 refine kN o63 (λ v64=>⟨[(0,.p (eS s_0)),(2,.ptr 2 0),(18,.p (eB v64))],[(2,im)]⟩) ?_ ?_
 ·refine nx 1 Z (fB [18] h0 Z (λ c4 h0=>?_) λ c4 h0=>?_)
  ·exact nx 10 Z (mQ (oi h0) Z (aA ⟨sr,sr,sr,trivial⟩))
  refine nx 4 Z (bd h0 λ o65 h1 h0=>?_)
  refine kN o65 (λ v66=>⟨[(0,.p (eS s_0)),(2,.ptr 2 0),(28,.p (eB v66))],[(2,im)]⟩) ?_ ?_
  ·refine nx 1 Z (fB [28] h0 Z (λ c8 h0=>?_) λ c8 h0=>?_)
   ·refine nx 4 Z (oP h0 Z Z Z λ hk9 h0=>bd h0 λ r10 e11 h0=>oK (qX _ (sub s_0 1 (s_0.length:Int)) _ e11) Z ⟨sr,trivial⟩ Tryz.call130 Z (nx 17 Z (bd h0 λ o67 h1 h0=>kN o67 (λ v68=>⟨[(0,.p (eS s_0)),(2,.ptr 2 0),(6,.p (eI r10.2.1)),(8,.ptr 8 0),(67,.p (eB v68))],[(2,im),(8,[.p (eI 2),.p (eI 0),.p (eS r10.1)])]⟩) ?_ ?_)))
    ·refine nx 1 Z (fB [67] h0 Z (λ c26 h0=>?_) λ c26 h0=>?_)
     ·exact nx 9 Z (mQ (oi h0) Z (aA ⟨sr,sr,sr,trivial⟩))
     refine nx 3 Z (cc' h0 λ hk27 h0=>cc' h0 λ hk28 h0=>mG (gE (t:=⟨[(0,.p (eS s_0)),(2,.ptr 2 0),(6,.p (eI r10.2.1)),(8,.ptr 8 0)],[(2,im),(8,[.p (eI 2),.p (eI 0),.p (eS r10.1)])]⟩) Z Z) (mSq ⟨1,[5],(λ _=>.none),(λ _=>[(0,.p (eS s_0)),(2,.ptr 2 0),(6,.p (eI r10.2.1)),(8,.ptr 8 0)]),(ob2 ([(2,im),(8,[.p (eI 2),.p (eI 0),.p (eS r10.1)])]) (2,[.p (eI 2),.p (eI 0),.p (eS r10.1)]))⟩ Z (dPc (.p (.agg [eI 2,eI 0,eS r10.1])) Z (dPc (.p (eS s_0)) Z (dPc (.p (eI r10.2.1)) Z (bD (λ _=>.p (eI (r10.2.1+2))) Z Z Z (hQ Z Y) (lt1 Z) (a6 [(71,_)] ⟨.inr ⟨2,_,Z,Z,Z⟩,trivial⟩ (λ sl hsl K hK=>aj Z (ee Z Z Z (hsl _ _ Z) Z Z hk27 hK)) (a6 [(71,_)] ⟨.inr ⟨2,_,Z,Z,Z⟩,trivial⟩ (λ sl hsl K hK=>aj Z (ee Z Z Z (hsl _ _ Z) Z Z hk27 hK)) bA)) ?_))))))
     refine bD (λ _=>.p (eS (sub s_0 (r10.2.1+2) (s_0.length:Int)))) Z Z Z (hQ Z Y) (lt1 Z) (a6 [(70,_),(72,_)] ⟨.inr ⟨1,_,Z,Z,Z⟩,.inr ⟨3,_,Z,Z,Z⟩,trivial⟩ (λ sl hsl K hK=>aj Z (g0 (a:=s_0) (l:=r10.2.1+2) (h:=(s_0.length:Int)) Z Z Z Z Z (hsl _ _ Z) (nE (hsl _ _ Z)) Z hk28 hK)) (a6 [(70,_),(72,_)] ⟨.inr ⟨1,_,Z,Z,Z⟩,.inr ⟨3,_,Z,Z,Z⟩,trivial⟩ (λ sl hsl K hK=>aj Z (g0 (a:=s_0) (l:=r10.2.1+2) (h:=(s_0.length:Int)) Z Z Z Z Z (hsl _ _ Z) (nE (hsl _ _ Z)) Z hk28 hK)) bA)) (dS Z ?_)
     refine dPc (.p (eS (sub s_0 (r10.2.1+2) (s_0.length:Int)))) Z (dPc (.p (eB true)) Z ?_)
     refine iL (nx 2 Z ?_)
     exact mQ (oi h0) Z (aA ⟨sr,sr,sr,trivial⟩)
    refine fN (p:=r10.2.2=0) [] h1 Z (λ c12 h1=>?_) λ c12 h1=>?_
    ·refine cc' h1 λ hk13 h1=>fD (p:=(s_0.length:Int)≤r10.2.1+1) [] h1 Z (λ c14 h1=>?_) λ c14 h1=>?_
     ·exact mD [(0,.p (eS s_0)),(2,.ptr 2 0),(5,.p (eS r10.1)),(6,.p (eI r10.2.1)),(7,.p (eI r10.2.2)),(8,.ptr 8 0)] Z ⟨Z,Z,Z,Z,Z,Z,trivial⟩ Z (dR 1 Z (dL (aE c12) Z (dR 2 Z (dq (.p (eI (r10.2.1+1))) [40,41] Z (λ _ e _ q=>aQ (ee Z Z Z (e _ _ Z) Z Z hk13 q) Z Z (e _ _ Z) (rfl)) Z (dR 1 Z (dq (.p (eI (s_0.length:Int))) [40,43] Z (λ _ e _ q=>aQ (eq Z Z Z Z Z (e _ _ Z) q) Z Z (e _ _ Z) (rfl)) Z (dL (dt c14) Z (dR 22 Z (dE Z (nx 1 Z (eX _ (oi h1).symm (gE Z Z))))))))))))
     refine cc' h1 λ hk15 h1=>cc' h1 λ hk16 h1=>fN (p:=byt s_0 (r10.2.1+1)=93) [] h1 Z (λ c17 h1=>?_) λ c17 h1=>?_
     ·refine cc' h1 λ hk18 h1=>cc' h1 λ hk19 h1=>bd h1 λ r20 e21 h1=>fN (p:=sub s_0 1 (r10.2.1+1)=r20) [] h1 Z (λ c22 h1=>?_) λ c22 h1=>?_
      ·refine bd h1 λ r23 e24 h1=>mD [(0,.p (eS s_0)),(2,.ptr 2 0),(5,.p (eS r10.1)),(6,.p (eI r10.2.1)),(7,.p (eI r10.2.2)),(8,.ptr 8 0)] Z ⟨Z,Z,Z,Z,Z,Z,trivial⟩ Z (dR 1 Z (dL (aE c12) Z (dR 2 Z (dq (.p (eI (r10.2.1+1))) [40,41] Z (λ _ e _ q=>aQ (ee Z Z Z (e _ _ Z) Z Z hk13 q) Z Z (e _ _ Z) (rfl)) Z (dR 1 Z (dq (.p (eI (s_0.length:Int))) [40,43] Z (λ _ e _ q=>aQ (eq Z Z Z Z Z (e _ _ Z) q) Z Z (e _ _ Z) (rfl)) Z (dL (df c14) Z (dR 4 Z (dq (.p (eI (r10.2.1+1))) [47,49] Z (λ _ e _ q=>aQ (ee Z Z Z (e _ _ Z) Z Z hk15 q) Z Z (e _ _ Z) (rfl)) Z (dq (.p (eK .u8 (byt s_0 (r10.2.1+1)))) [47,48,50] Z (λ _ e _ q=>aQ (iC Z Z Z Z Z (e _ _ Z) (e _ _ Z) hk16 q) Z Z (e _ _ Z) (rfl)) Z (dL (aE c17) Z (dR 4 Z (dq (.p (eI (r10.2.1+1))) [54,56] Z (λ _ e _ q=>aQ (ee Z Z Z (e _ _ Z) Z Z hk18 q) Z Z (e _ _ Z) (rfl)) Z ?_)))))))))))))
       refine dq (.p (eS (sub s_0 1 (r10.2.1+1)))) [54,55,57] Z (λ _ e _ q=>aQ (g0 (a:=s_0) (l:=1) (h:=r10.2.1+1) Z Z Z Z Z (e _ _ Z) Z (nH (e _ _ Z)) hk19 q) Z Z (e _ _ Z) (rfl)) Z (dR 1 Z (dq (.p (eS r20)) [54,59] Z (λ _ e _ q=>aQ (bj (lP _ r10.1 _ e21) Z Z Z (aI (e _ _ Z) bh) ⟨sr,trivial⟩ Tryz.call110 Z q) Z Z (e _ _ Z) (rfl)) Z (dq (.p (eB (!decide (sub s_0 1 (r10.2.1+1)=r20)))) [54,58,60] Z (λ _ e _ q=>aQ (cQ Z Z Z (e _ _ Z) (e _ _ Z) Z q) Z Z (e _ _ Z) (rfl)) Z (dL (aE c22) Z (dR 2 Z (dq (.p (eB r23)) [63,64] Z (λ _ e _ q=>aQ (bj (lh _ (bS.mk 2 0 r10.1) _ e24) Z Z Z (aI (e _ _ Z) bh) ⟨sr,trivial⟩ Tryz.call108 Z q) Z Z (e _ _ Z) (rfl)) Z (dR 2 Z ?_)))))))
       refine dE Z (nx 1 Z ?_)
       exact eX _ (oi h1).symm (gE Z Z)
      refine mD [(0,.p (eS s_0)),(2,.ptr 2 0),(5,.p (eS r10.1)),(6,.p (eI r10.2.1)),(7,.p (eI r10.2.2)),(8,.ptr 8 0)] Z ⟨Z,Z,Z,Z,Z,Z,trivial⟩ Z (dR 1 Z (dL (aE c12) Z (dR 2 Z (dq (.p (eI (r10.2.1+1))) [40,41] Z (λ _ e _ q=>aQ (ee Z Z Z (e _ _ Z) Z Z hk13 q) Z Z (e _ _ Z) (rfl)) Z (dR 1 Z (dq (.p (eI (s_0.length:Int))) [40,43] Z (λ _ e _ q=>aQ (eq Z Z Z Z Z (e _ _ Z) q) Z Z (e _ _ Z) (rfl)) Z (dL (df c14) Z (dR 4 Z (dq (.p (eI (r10.2.1+1))) [47,49] Z (λ _ e _ q=>aQ (ee Z Z Z (e _ _ Z) Z Z hk15 q) Z Z (e _ _ Z) (rfl)) Z (dq (.p (eK .u8 (byt s_0 (r10.2.1+1)))) [47,48,50] Z (λ _ e _ q=>aQ (iC Z Z Z Z Z (e _ _ Z) (e _ _ Z) hk16 q) Z Z (e _ _ Z) (rfl)) Z (dL (aE c17) Z (dR 4 Z (dq (.p (eI (r10.2.1+1))) [54,56] Z (λ _ e _ q=>aQ (ee Z Z Z (e _ _ Z) Z Z hk18 q) Z Z (e _ _ Z) (rfl)) Z ?_)))))))))))))
      refine dq (.p (eS (sub s_0 1 (r10.2.1+1)))) [54,55,57] Z (λ _ e _ q=>aQ (g0 (a:=s_0) (l:=1) (h:=r10.2.1+1) Z Z Z Z Z (e _ _ Z) Z (nH (e _ _ Z)) hk19 q) Z Z (e _ _ Z) (rfl)) Z (dR 1 Z (dq (.p (eS r20)) [54,59] Z (λ _ e _ q=>aQ (bj (lP _ r10.1 _ e21) Z Z Z (aI (e _ _ Z) bh) ⟨sr,trivial⟩ Tryz.call110 Z q) Z Z (e _ _ Z) (rfl)) Z (dq (.p (eB (!decide (sub s_0 1 (r10.2.1+1)=r20)))) [54,58,60] Z (λ _ e _ q=>aQ (cQ Z Z Z (e _ _ Z) (e _ _ Z) Z q) Z Z (e _ _ Z) (rfl)) Z (dL (aP c22) Z (dR 5 Z ?_)))))
      refine dE Z (nx 1 Z ?_)
      exact eX _ (oi h1).symm (gE Z Z)
     refine mD [(0,.p (eS s_0)),(2,.ptr 2 0),(5,.p (eS r10.1)),(6,.p (eI r10.2.1)),(7,.p (eI r10.2.2)),(8,.ptr 8 0)] Z ⟨Z,Z,Z,Z,Z,Z,trivial⟩ Z (dR 1 Z (dL (aE c12) Z (dR 2 Z (dq (.p (eI (r10.2.1+1))) [40,41] Z (λ _ e _ q=>aQ (ee Z Z Z (e _ _ Z) Z Z hk13 q) Z Z (e _ _ Z) (rfl)) Z (dR 1 Z (dq (.p (eI (s_0.length:Int))) [40,43] Z (λ _ e _ q=>aQ (eq Z Z Z Z Z (e _ _ Z) q) Z Z (e _ _ Z) (rfl)) Z (dL (df c14) Z (dR 4 Z (dq (.p (eI (r10.2.1+1))) [47,49] Z (λ _ e _ q=>aQ (ee Z Z Z (e _ _ Z) Z Z hk15 q) Z Z (e _ _ Z) (rfl)) Z (dq (.p (eK .u8 (byt s_0 (r10.2.1+1)))) [47,48,50] Z (λ _ e _ q=>aQ (iC Z Z Z Z Z (e _ _ Z) (e _ _ Z) hk16 q) Z Z (e _ _ Z) (rfl)) Z (dL (aP c17) Z (dR 15 Z (dE Z ?_)))))))))))))
     exact nx 1 Z (eX _ (oi h1).symm (gE Z Z))
    refine mD [(0,.p (eS s_0)),(2,.ptr 2 0),(5,.p (eS r10.1)),(6,.p (eI r10.2.1)),(7,.p (eI r10.2.2)),(8,.ptr 8 0)] Z ⟨Z,Z,Z,Z,Z,Z,trivial⟩ Z (dR 1 Z (dL (aP c12) Z (dR 28 Z ?_)))
    refine dE Z (nx 1 Z ?_)
    exact eX _ (oi h1).symm (gE Z Z)
   refine nx 8 Z (bd h0 λ o69 h1 h0=>?_)
   refine kE 0 o69 (λ v70=>⟨[(0,.p (eS s_0)),(2,.ptr 2 0),(9,.p (eI v70))],[(2,im)]⟩) ?_ ?_
   ·refine nx 5 Z (oP h0 Z Z Z λ hk47 h0=>bd h0 λ r48 e49 h0=>oK (tK _ (sub s_0 1 o69) _ e49) Z ⟨sr,trivial⟩ Tryz.call131 Z (nx 8 Z (bd h0 λ o71 h1 h0=>kN o71 (λ v72=>⟨[(0,.p (eS s_0)),(2,.ptr 2 0),(9,.p (eI o69)),(10,.p (eI r48.1)),(112,.p (eB v72))],[(2,im)]⟩) ?_ ?_)))
    ·refine nx 1 Z (fB [112] h0 Z (λ c54 h0=>?_) λ c54 h0=>?_)
     ·exact nx 9 Z (mQ (oi h0) Z (aA ⟨sr,sr,sr,trivial⟩))
     refine nx 3 Z (cc' h0 λ hk55 h0=>cc' h0 λ hk56 h0=>mG (gE (t:=⟨[(0,.p (eS s_0)),(2,.ptr 2 0),(9,.p (eI o69)),(10,.p (eI r48.1))],[(2,im)]⟩) Z Z) (mSq ⟨1,[6],(λ _=>.none),(λ _=>[(0,.p (eS s_0)),(2,.ptr 2 0),(9,.p (eI o69)),(10,.p (eI r48.1))]),(ob2 ([(2,im)]) (2,[.p (eI 1),.p (eI r48.1),.p (eS ([]:Bytes))]))⟩ Z (dPc (.p (eI r48.1)) Z (dPc (.p (.agg [eI 1,eI r48.1,eS ([]:Bytes)])) Z (dPc (.p (eS s_0)) Z (dPc (.p (eI o69)) Z ?_))))))
     refine bD (λ _=>.p (eI (o69+1))) Z Z Z (hQ Z Y) (lt1 Z) (a6 [(117,_)] ⟨.inr ⟨3,_,Z,Z,Z⟩,trivial⟩ (λ sl hsl K hK=>aj Z (ee Z Z Z (hsl _ _ Z) Z Z hk55 hK)) (a6 [(117,_)] ⟨.inr ⟨3,_,Z,Z,Z⟩,trivial⟩ (λ sl hsl K hK=>aj Z (ee Z Z Z (hsl _ _ Z) Z Z hk55 hK)) bA)) (bD (λ _=>.p (eS (sub s_0 (o69+1) (s_0.length:Int)))) Z Z Z (hQ Z Y) (lt1 Z) (a6 [(116,_),(118,_)] ⟨.inr ⟨2,_,Z,Z,Z⟩,.inr ⟨4,_,Z,Z,Z⟩,trivial⟩ (λ sl hsl K hK=>aj Z (g0 (a:=s_0) (l:=o69+1) (h:=(s_0.length:Int)) Z Z Z Z Z (hsl _ _ Z) (nE (hsl _ _ Z)) Z hk56 hK)) (a6 [(116,_),(118,_)] ⟨.inr ⟨2,_,Z,Z,Z⟩,.inr ⟨4,_,Z,Z,Z⟩,trivial⟩ (λ sl hsl K hK=>aj Z (g0 (a:=s_0) (l:=o69+1) (h:=(s_0.length:Int)) Z Z Z Z Z (hsl _ _ Z) (nE (hsl _ _ Z)) Z hk56 hK)) bA)) ?_)
     exact dS Z (dPc (.p (eS (sub s_0 (o69+1) (s_0.length:Int)))) Z (dPc (.p (eB true)) Z (iL (nx 2 Z (mQ (oi h0) Z (aA ⟨sr,sr,sr,trivial⟩))))))
    refine nx 4 Z (fN [100,101] h1 Z (λ c50 h1=>?_) λ c50 h1=>?_)
    ·refine nx 2 Z (oLs Z (nx 3 Z (fD [105,106,107] h1 Z (λ c51 h1=>?_) λ c51 h1=>?_)))
     ·exact nx 6 Z (eX _ (oi h1).symm (gE Z Z))
     exact nx 2 Z (oI h1 Z λ hk52 h1=>nx 3 Z (eX _ (oi h1).symm (gE Z Z)))
    exact nx 12 Z (eX _ (oi h1).symm (gE Z Z))
   refine lG (λ (q73:Int)=>⟨[(0,.p (eS s_0)),(2,.ptr 2 0),(9,.p (eI q73))],[(2,im)]⟩) (λ m (q73:Int)=>fX s_0 m q73) Y 1 h1 (gE Z Z) ?_
   rintro m n37 h1
   replace h1:fX s_0 (m+1) n37=some o69:=h1
   rw [fX] at h1
   refine nx 2 Z (bd h1 λ o74 h2 h1=>?_)
   refine kN o74 (λ v75=>⟨[(0,.p (eS s_0)),(2,.ptr 2 0),(9,.p (eI n37)),(89,.p (eB v75))],[(2,im)]⟩) ?_ ?_
   ·refine nx 1 Z (fB [89] h1 Z (λ c43 h1=>?_) λ c43 h1=>?_)
    ·exact nx 5 Z (oA h1 Z Z λ hk44 h1=>nx 2 Z (eX (n37+1) h1 (gE Z Z)))
    exact nx 2 Z (eXi _ (oi h1).symm (gE Z Z))
   refine nx 3 Z (oLs Z (nx 2 Z (fD [77,78] h2 Z (λ c38 h2=>?_) λ c38 h2=>?_)))
   ·refine nx 2 Z (oI h2 Z λ hk39 h2=>nx 3 Z (fD [82,83,84] h2 Z (λ c40 h2=>?_) λ c40 h2=>?_))
    ·exact nx 2 Z (oI h2 Z λ hk41 h2=>nx 3 Z (eX _ (oi h2).symm (gE Z Z)))
    exact nx 6 Z (eX _ (oi h2).symm (gE Z Z))
   exact nx 12 Z (eX _ (oi h2).symm (gE Z Z))
  refine nx 2 Z (oLs Z (nx 2 Z (fD [23,24] h1 Z (λ c5 h1=>?_) λ c5 h1=>?_)))
  ·exact nx 1 Z (oI h1 Z λ hk6 h1=>nx 3 Z (eX _ (oi h1).symm (gE Z Z)))
  exact nx 5 Z (eX _ (oi h1).symm (gE Z Z))
 refine nx 2 Z (oS Z Z (nx 1 Z (fD [13,14] h1 Z (λ c1 h1=>?_) λ c1 h1=>?_)))
 ·exact nx 5 Z (eX _ (oi h1).symm (gE Z Z))
 exact nx 1 Z (oI h1 Z λ hk2 h1=>nx 3 Z (eX _ (oi h1).symm (gE Z Z)))
def lX (n:Nat)(s_0:Bytes):Option (ac×Bytes×Bool) :=
 ck ((0:Int)≤7∧7≤(s_0.length:Int)∧(s_0.length:Int)≤(s_0.length:Int)) <|
 (ji n (sub s_0 7 (s_0.length:Int))).bind λ r2 =>
 (ly n r2.2).bind λ r4 =>
 (
   if r4.2.2=true then
    (cX n r2.1).bind λ r7 =>
    some r7
   else
    some false
  : Option Bool).bind λ t9 =>
 some ((ac.mk r2.1 r4.1),r4.2.1,t9)
theorem uQ (n:Nat)(s_0:Bytes)(r:ac×Bytes×Bool)(h0:lX n s_0=some r):aC Tryz.prog 103 [eS s_0] (·=.tuple [.p (.agg (ac.cs r.1)),.p (eS r.2.1),.p (eB r.2.2)]):=by
 unfold lX at h0
 refine bc good Tryz.func103 Z Z Z λ w0=>mP (λ v:ac×Bytes×Bool=>.tuple [.p (.agg (ac.cs v.1)),.p (eS v.2.1),.p (eB v.2.2)]) ?_
 refine nx 9 Z (oP h0 Z Z Z λ hk1 h0=>bd h0 λ r2 e3 h0=>oK (mA _ (sub s_0 7 (s_0.length:Int)) _ e3) Z ⟨sr,trivial⟩ Tryz.call104 Z (nx 9 Z (bd h0 λ r4 e5 h0=>oK (qx _ r2.2 _ e5) Z ⟨sr,trivial⟩ Tryz.call107 Z (nx 10 Z (bd h0 λ o11 h1 h0=>kN o11 (λ v12=>⟨[(2,.ptr 2 0),(3,.p (eS r4.2.1)),(4,.p (eB v12))],[(2,[.p (eS r2.1),.p (eI r4.1.fKind),.p (eI r4.1.fNum),.p (eS r4.1.fStr)])]⟩) ?_ ?_)))))
 ·exact nx 2 Z (mQ (oi h0) Z (aA ⟨sr,sr,sr,trivial⟩))
 refine fB [8,20] h1 Z (λ c6 h1=>?_) λ c6 h1=>?_
 ·refine bd h1 λ r7 e8 h1=>mG (gE (t:=⟨[(2,.ptr 2 0),(5,.p (eS r2.1)),(6,.p (eS r4.2.1)),(7,.ptr 7 0),(8,.p (eB true))],[(2,qn),(7,(bS.cs r4.1).map .p)]⟩) Z Z) (mSq ⟨1,[9],(λ _=>.none),(λ _=>[(2,.ptr 2 0),(5,.p (eS r2.1)),(6,.p (eS r4.2.1)),(7,.ptr 7 0),(8,.p (eB true))]),(ob2 ([(2,qn),(7,((bS.cs r4.1).map .p))]) (2,[.p (eS r2.1),.p (eI r4.1.fKind),.p (eI r4.1.fNum),.p (eS r4.1.fStr)]))⟩ Z (dPc (.p (eS r2.1)) Z (dPc (.p (.agg (bS.cs r4.1))) Z (dPc (.p (.agg [eS r2.1,eI r4.1.fKind,eI r4.1.fNum,eS r4.1.fStr])) Z (dPc (.p (eS r4.2.1)) Z (dPc (.p (eB true)) Z (dPc (.p (eB true)) Z (dPy (λ _=>.p (eS r2.1)) (rfl) Z (bD (λ _=>.p (eB r7)) Z Z Z (hQ Z Y) (lt1 Z) (bs Z (a6 [(26,_),(27,_)] ⟨.inr ⟨5,_,Z,Z,Z⟩,.inr ⟨6,_,Z,Z,Z⟩,trivial⟩ (λ sl hsl K hK=>aQ (bj (em _ r2.1 _ e8) Z Z Z (aI (hsl _ _ Z) bh) ⟨sr,trivial⟩ Tryz.call105 Z hK) Z Z (hsl _ _ Z) (rfl)) bA)) ?_)))))))))
  refine bD (λ _=>.p (eB r7)) Z Z Z (hQ Z Y) (lt1 Z) (a6 [(26,_),(28,_)] ⟨.inr ⟨5,_,Z,Z,Z⟩,.inr ⟨7,_,Z,Z,Z⟩,trivial⟩ (λ sl hsl K hK=>aj Z (b4 Z Z Z (hsl _ _ Z) (rfl) (hsl _ _ Z) hK)) (a6 [(26,_),(28,_)] ⟨.inr ⟨5,_,Z,Z,Z⟩,.inr ⟨7,_,Z,Z,Z⟩,trivial⟩ (λ sl hsl K hK=>aj Z (b4 Z Z Z (hsl _ _ Z) (rfl) (hsl _ _ Z) hK)) bA)) (dS Z ?_)
  refine dPc (.p (eS r4.2.1)) Z (dPc (.p (eB r7)) Z ?_)
  refine iL (nx 1 Z ?_)
  exact eX _ (oi h1).symm (gE Z Z)
 refine mG (gE (t:=⟨[(2,.ptr 2 0),(5,.p (eS r2.1)),(6,.p (eS r4.2.1)),(7,.ptr 7 0),(8,.p (eB false))],[(2,qn),(7,(bS.cs r4.1).map .p)]⟩) Z Z) (mSq ⟨1,[9],(λ _=>.none),(λ _=>[(2,.ptr 2 0),(5,.p (eS r2.1)),(6,.p (eS r4.2.1)),(7,.ptr 7 0),(8,.p (eB false))]),(ob2 ([(2,qn),(7,((bS.cs r4.1).map .p))]) (2,[.p (eS r2.1),.p (eI r4.1.fKind),.p (eI r4.1.fNum),.p (eS r4.1.fStr)]))⟩ Z (dPc (.p (eS r2.1)) Z (dPc (.p (.agg (bS.cs r4.1))) Z (dPc (.p (.agg [eS r2.1,eI r4.1.fKind,eI r4.1.fNum,eS r4.1.fStr])) Z (dPc (.p (eS r4.2.1)) Z (dPc (.p (eB false)) Z (dPc (.p (eB false)) Z (dPn (rfl) Z (dPn (rfl) Z ?_)))))))))
 refine bD (λ _=>.p (eB false)) Z Z Z (hQ Z Y) (lt1 Z) (a6 [(26,_),(28,_)] ⟨.inr ⟨5,_,Z,Z,Z⟩,.inr ⟨7,_,Z,Z,Z⟩,trivial⟩ (λ sl hsl K hK=>aj Z (bN Z Z Z (hsl _ _ Z) (rfl) Z hK)) (a6 [(26,_),(28,_)] ⟨.inr ⟨5,_,Z,Z,Z⟩,.inr ⟨7,_,Z,Z,Z⟩,trivial⟩ (λ sl hsl K hK=>aj Z (bN Z Z Z (hsl _ _ Z) (rfl) Z hK)) bA)) (dS Z ?_)
 refine dPc (.p (eS r4.2.1)) Z (dPc (.p (eB false)) Z ?_)
 refine iL (nx 1 Z ?_)
 exact eX _ (oi h1).symm (gE Z Z)
def fH (n:Nat):Nat→Bytes→(List ac)→Option ((Bytes×(List ac))⊕(eV×Bool))
 | 0,_,_=>none
 | m+1,s14,f15 =>
 (iH s14 ([109,111,100,117,108,101,46]:Bytes)).bind λ r16 =>
 if r16=true then
  (lX n s14).bind λ r19 =>
  if (!r19.2.2)=true then
   some (.inr ((eV.mk (ah.mk [] false ([]:Bytes) ([]:Bytes) (bS.mk 0 0 ([]:Bytes))) false),false))
  else
   ck ((f15.length+[r19.1].length)*48≤140737488355328) <|
   if r19.2.1=([]:Bytes) then
    some (.inr ((eV.mk (ah.mk (f15++[r19.1]) false ([]:Bytes) ([]:Bytes) (bS.mk 0 0 ([]:Bytes))) false),true))
   else
    ck ((0:Int)≤0∧0 < (r19.2.1.length:Int)) <|
    if byt r19.2.1 0=46 then
     ck ((0:Int)≤1∧1≤(r19.2.1.length:Int)∧(r19.2.1.length:Int)≤(r19.2.1.length:Int)) <|
     fH n m (sub r19.2.1 1 (r19.2.1.length:Int)) (f15++[r19.1])
    else
     some (.inr ((eV.mk (ah.mk [] false ([]:Bytes) ([]:Bytes) (bS.mk 0 0 ([]:Bytes))) false),false))
 else
  some (.inl (s14,f15))
def kw (n:Nat)(s_0:Bytes):Option (eV×Bool) :=
 jn (fH n n s_0 []) λ q60 =>
 (
   (iH q60.1 ([100,97,116,97,46]:Bytes)).bind λ r31 =>
   if r31=true then
    ck ((0:Int)≤5∧5≤(q60.1.length:Int)∧(q60.1.length:Int)≤(q60.1.length:Int)) <|
    some (sub q60.1 5 (q60.1.length:Int),true)
   else
    some (q60.1,false)
  : Option (Bytes×Bool)).bind λ q61 =>
 (ji n q61.1).bind λ r37 =>
 (
   (cX n r37.1).bind λ r39 =>
   if (!r39)=true then
    some true
   else
    (gD n r37.1).bind λ r42 =>
    if r42=true then
     some true
    else
     if r37.2=([]:Bytes) then
      some true
     else
      ck ((0:Int)≤0∧0 < (r37.2.length:Int)) <|
      some (!decide (byt r37.2 0=46))
  : Option Bool).bind λ t47 =>
 if t47=true then
  some ((eV.mk (ah.mk [] false ([]:Bytes) ([]:Bytes) (bS.mk 0 0 ([]:Bytes))) false),false)
 else
  ck ((0:Int)≤1∧1≤(r37.2.length:Int)∧(r37.2.length:Int)≤(r37.2.length:Int)) <|
  (ji n (sub r37.2 1 (r37.2.length:Int))).bind λ r50 =>
  (ly n r50.2).bind λ r52 =>
  (
    (cX n r50.1).bind λ r54 =>
    if (!r54)=true then
     some true
    else
     if (!r52.2.2)=true then
      some true
     else
      some (!decide (r52.2.1=([]:Bytes)))
   : Option Bool).bind λ t58 =>
  if t58=true then
   some ((eV.mk (ah.mk [] false ([]:Bytes) ([]:Bytes) (bS.mk 0 0 ([]:Bytes))) false),false)
  else
   some ((eV.mk (ah.mk q60.2 q61.2 r37.1 r50.1 r52.1) true),true)
theorem tS (n:Nat)(s_0:Bytes)(r:eV×Bool)(h0:kw n s_0=some r):aC Tryz.prog 82 [eS s_0] (·=.tuple [.p (.agg (eV.cs r.1)),.p (eB r.2)]):=by
 unfold kw at h0
 refine bc good Tryz.func82 Z Z Z λ w0=>mP (λ v:eV×Bool=>.tuple [.p (.agg (eV.cs v.1)),.p (eB v.2)]) ?_
 refine nx 13 Z ?_
 obtain ⟨o64,h1,hL0,hR0⟩:=fc h0
 refine kEx 0 (λ v65:Bytes×(List ac)=>o64=.inl v65) (λ v65=>⟨[(0,.p (eS v65.1)),(2,.ptr 2 0),(4,.ptr 4 0)],[(2,mR),(4,[.vec 30 4 0 (v65.2.map ag),.p (eB false),.p (eS ([]:Bytes)),.p (eS ([]:Bytes)),.p (eI 0),.p (eI 0),.p (eS ([]:Bytes)),.p (eB false)])]⟩) (λ v65 hv=>?_) ?_
 ·have h0:=hL0 _ hv
  refine nx 2 Z (bd h0 λ o66 h1 h0=>?_)
  refine kN o66 (λ v67=>⟨[(0,.p (eS v67.1)),(2,.ptr 2 0),(4,.ptr 4 0)],[(2,mR),(4,[.vec 30 4 0 (v65.2.map ag),.p (eB v67.2),.p (eS ([]:Bytes)),.p (eS ([]:Bytes)),.p (eI 0),.p (eI 0),.p (eS ([]:Bytes)),.p (eB false)])]⟩) ?_ ?_
  ·refine nx 4 Z (bd h0 λ r37 e38 h0=>oK (mA _ o66.1 _ e38) Z ⟨sr,trivial⟩ Tryz.call104 Z (nx 8 Z (bd h0 λ o68 h1 h0=>kN o68 (λ v69=>⟨[(2,.ptr 2 0),(4,.ptr 4 0),(8,.p (eS r37.1)),(9,.p (eS r37.2)),(68,.p (eB v69))],[(2,mR),(4,[.vec 30 4 0 (v65.2.map ag),.p (eB o66.2),.p (eS ([]:Bytes)),.p (eS ([]:Bytes)),.p (eI 0),.p (eI 0),.p (eS ([]:Bytes)),.p (eB false)])]⟩) ?_ ?_)))
   ·refine nx 1 Z (fB [68] h0 Z (λ c48 h0=>?_) λ c48 h0=>?_)
    ·exact nx 8 Z (mQ (oi h0) Z (aA ⟨iG ⟨.inr ⟨Z,Z⟩,.inl Z,.inl Z,.inl Z,.inl Z,.inl Z,.inl Z,.inl Z,trivial⟩,sr,trivial⟩))
    refine nx 5 Z (oP h0 Z Z Z λ hk49 h0=>bd h0 λ r50 e51 h0=>oK (mA _ (sub r37.2 1 (r37.2.length:Int)) _ e51) Z ⟨sr,trivial⟩ Tryz.call104 Z (nx 9 Z (bd h0 λ r52 e53 h0=>oK (qx _ r50.2 _ e53) Z ⟨sr,trivial⟩ Tryz.call107 Z (nx 11 Z (bd h0 λ o70 h1 h0=>kN o70 (λ v71=>⟨[(2,.ptr 2 0),(4,.ptr 4 0),(8,.p (eS r37.1)),(10,.p (eS r50.1)),(11,.ptr 11 0),(92,.p (eB v71))],[(2,mR),(4,[.vec 30 4 0 (v65.2.map ag),.p (eB o66.2),.p (eS ([]:Bytes)),.p (eS ([]:Bytes)),.p (eI 0),.p (eI 0),.p (eS ([]:Bytes)),.p (eB false)]),(11,(bS.cs r52.1).map .p)]⟩) ?_ ?_)))))
    ·refine nx 1 Z (fB [92] h0 Z (λ c59 h0=>?_) λ c59 h0=>?_)
     ·exact nx 8 Z (mQ (oi h0) Z (aA ⟨iG ⟨.inr ⟨Z,Z⟩,.inl Z,.inl Z,.inl Z,.inl Z,.inl Z,.inl Z,.inl Z,trivial⟩,sr,trivial⟩))
     exact nx 35 Z (mQ (oi h0) Z (aA ⟨ql ⟨AV.sub_vec _ _ _ _,sr,sr,sr,sr,sr,sr,sr,trivial⟩,sr,trivial⟩))
    refine nx 2 Z (bd h1 λ r54 e55 h1=>oK (em _ r50.1 _ e55) Z ⟨sr,trivial⟩ Tryz.call105 Z (nx 2 Z ?_))
    refine fB [84,85] h1 Z (λ c56 h1=>?_) λ c56 h1=>?_
    ·exact nx 8 Z (eX _ (oi h1).symm (gE Z Z))
    refine nx 4 Z (fB [87,88,89] h1 Z (λ c57 h1=>?_) λ c57 h1=>?_)
    ·exact nx 4 Z (eX _ (oi h1).symm (gE Z Z))
    exact nx 1 Z (oS Z Z (nx 2 Z (eX _ (oi h1).symm (gE Z Z))))
   refine nx 2 Z (bd h1 λ r39 e40 h1=>oK (em _ r37.1 _ e40) Z ⟨sr,trivial⟩ Tryz.call105 Z (nx 2 Z ?_))
   refine fB [55,56] h1 Z (λ c41 h1=>?_) λ c41 h1=>?_
   ·exact nx 13 Z (eX _ (oi h1).symm (gE Z Z))
   refine nx 1 Z (bd h1 λ r42 e43 h1=>oK (md _ r37.1 _ e43) Z ⟨sr,trivial⟩ Tryz.call106 Z (nx 2 Z ?_))
   refine fB [58,59,60] h1 Z (λ c44 h1=>?_) λ c44 h1=>?_
   ·exact nx 9 Z (eX _ (oi h1).symm (gE Z Z))
   refine nx 1 Z (oS Z Z (nx 2 Z (fD [62,63,64] h1 Z (λ c45 h1=>?_) λ c45 h1=>?_)))
   ·exact nx 5 Z (eX _ (oi h1).symm (gE Z Z))
   exact nx 1 Z (oI h1 Z λ hk46 h1=>nx 3 Z (eX _ (oi h1).symm (gE Z Z)))
  refine nx 3 Z (bd h1 λ r31 e32 h1=>oK (nP v65.1 ([100,97,116,97,46]:Bytes) _ e32) Z ⟨sr,sr,trivial⟩ Tryz.call102 Z (nx 1 Z ?_))
  refine fB [43] h1 Z (λ c33 h1=>?_) λ c33 h1=>?_
  ·exact nx 9 Z (oP h1 Z Z Z λ hk34 h1=>nx 2 Z (eX _ (oi h1).symm (gE Z Z)))
  exact nx 2 Z (eX _ (oi h1).symm (gE Z Z))
 refine lG (λ (q72:Bytes×(List ac))=>⟨[(0,.p (eS q72.1)),(2,.ptr 2 0),(4,.ptr 4 0)],[(2,mR),(4,[.vec 30 4 0 (q72.2.map ag),.p (eB false),.p (eS ([]:Bytes)),.p (eS ([]:Bytes)),.p (eI 0),.p (eI 0),.p (eS ([]:Bytes)),.p (eB false)])]⟩) (λ m (q72:Bytes×(List ac))=>fH n m q72.1 q72.2) Y (s_0,[]) h1 (bR (ci ⟨er Z,er Z,er Z,trivial⟩ ⟨⟨_,Z,⟨sr,sr,sr,sr,sr,sr,sr,sr,trivial⟩⟩,⟨_,Z,⟨AV.sub_nilvec _ _ _,sr,sr,sr,sr,sr,sr,sr,trivial⟩⟩,trivial⟩)) ?_
 rintro m ⟨s14,f15⟩ h1
 replace h1:fH n (m+1) s14 f15=some o64:=h1
 rw [fH] at h1
 refine nx 4 Z (bd h1 λ r16 e17 h1=>oK (nP s14 ([109,111,100,117,108,101,46]:Bytes) _ e17) Z ⟨sr,sr,trivial⟩ Tryz.call102 Z (nx 1 Z ?_))
 refine fB [15] h1 Z (λ c18 h1=>?_) λ c18 h1=>?_
 ·refine nx 6 Z (bd h1 λ r19 e20 h1=>oK (uQ _ s14 _ e20) Z ⟨sr,trivial⟩ Tryz.call103 Z (nx 15 Z ?_))
  refine fB [23] h1 Z (λ c21 h1=>?_) λ c21 h1=>?_
  ·exact nx 8 Z (mQ (hR0 _ (oi h1).symm) Z (aA ⟨iG ⟨.inr ⟨Z,Z⟩,.inl Z,.inl Z,.inl Z,.inl Z,.inl Z,.inl Z,.inl Z,trivial⟩,sr,trivial⟩))
  refine nx 8 Z (mO Z (bw ag [r19.1] Z Z Z Z Z Z Z Z Z Z Z Z Z (by first | rfl | (simp only [List.map_cons,List.map_nil,ac.agg_eq]; done) | (simp only [List.map_cons,List.map_nil,ac.agg_eq]; rfl)) (cc' h1 λ hk22 h1=>mO Z (gP ag f15 [r19.1] Z Z Z Z Z Z Z Z Z Z Z Z Z (λ x=>congrArg List.length (ac.cells_eq x)) Z Z Z Z hk22 (nx 8 Z (oS Z Z (nx 1 Z (fD [34] h1 Z (λ c23 h1=>?_) λ c23 h1=>?_))))))))
  ·exact nx 7 Z (mG (gE (t:=⟨[(2,.ptr 2 0),(3,.p (eB true))],[(2,[.vec 30 4 0 ((f15++[r19.1]).map ag),.p (eB false),.p (eS ([]:Bytes)),.p (eS ([]:Bytes)),.p (eI 0),.p (eI 0),.p (eS ([]:Bytes)),.p (eB false)])]⟩) Z Z) (nx 1 Z (mQ (hR0 _ (oi h1).symm) Z (aA ⟨ql ⟨AV.sub_vec _ _ _ _,sr,sr,sr,sr,sr,sr,sr,trivial⟩,sr,trivial⟩))))
  refine nx 6 Z (oI h1 Z λ hk24 h1=>nx 2 Z (mG (gE (t:=⟨[(2,.ptr 2 0),(4,.ptr 4 0),(6,.p (eS r19.2.1)),(38,.p (eB (!decide (byt r19.2.1 0=46))))],[(2,mR),(4,[.vec 30 4 0 ((f15++[r19.1]).map ag),.p (eB false),.p (eS ([]:Bytes)),.p (eS ([]:Bytes)),.p (eI 0),.p (eI 0),.p (eS ([]:Bytes)),.p (eB false)])]⟩) Z Z) ?_))
  refine fN [38] h1 Z (λ c25 h1=>?_) λ c25 h1=>?_
  ·exact nx 4 Z (oP h1 Z Z Z λ hk26 h1=>nx 2 Z (eX (sub r19.2.1 1 (r19.2.1.length:Int),f15++[r19.1]) h1 (gE Z Z)))
  exact nx 8 Z (mQ (hR0 _ (oi h1).symm) Z (aA ⟨iG ⟨.inr ⟨Z,Z⟩,.inl Z,.inl Z,.inl Z,.inl Z,.inl Z,.inl Z,.inl Z,trivial⟩,sr,trivial⟩))
 exact nx 2 Z (eXi _ (oi h1).symm (gE Z Z))
def kD (n:Nat)(s_0:Bytes):Option (ah×Int) :=
 (kw n s_0).bind λ r1 =>
 (
   if (!r1.2)=true then
    some true
   else
    some (!r1.1.fWhole)
  : Option Bool).bind λ t4 =>
 if t4=true then
  some ((ah.mk [] false ([]:Bytes) ([]:Bytes) (bS.mk 0 0 ([]:Bytes))),2)
 else
  if 16 < (r1.1.fAddr.fModule.length:Int) then
   some ((ah.mk [] false ([]:Bytes) ([]:Bytes) (bS.mk 0 0 ([]:Bytes))),4)
  else
   some (r1.1.fAddr,0)
theorem tC (n:Nat)(s_0:Bytes)(r:ah×Int)(h0:kD n s_0=some r):aC Tryz.prog 53 [eS s_0] (·=.tuple [.p (.agg (ah.cs r.1)),.p (eI r.2)]):=by
 unfold kD at h0
 refine bc good Tryz.func53 Z Z Z λ w0=>mP (λ v:ah×Int=>.tuple [.p (.agg (ah.cs v.1)),.p (eI v.2)]) ?_
 refine nx 8 Z (bd h0 λ r1 e2 h0=>oK (tS _ s_0 _ e2) Z ⟨sr,trivial⟩ Tryz.call82 Z (nx 9 Z (bd h0 λ o8 h1 h0=>kN o8 (λ v9=>⟨[(2,.ptr 2 0),(4,.ptr 4 0),(17,.p (eB v9))],[(2,lW),(4,(eV.cs r1.1).map .p)]⟩) ?_ ?_)))
 ·refine nx 1 Z (fB [17] h0 Z (λ c5 h0=>?_) λ c5 h0=>?_)
  ·exact nx 8 Z (mQ (oi h0) Z (aA ⟨iG ⟨.inr ⟨Z,Z⟩,.inl Z,.inl Z,.inl Z,.inl Z,.inl Z,.inl Z,trivial⟩,sr,trivial⟩))
  refine nx 8 Z (oLl (f:=ag) Z Z (nx 2 Z (fD [23] h0 Z (λ c6 h0=>?_) λ c6 h0=>?_)))
  ·exact nx 8 Z (mQ (oi h0) Z (aA ⟨iG ⟨.inr ⟨Z,Z⟩,.inl Z,.inl Z,.inl Z,.inl Z,.inl Z,.inl Z,trivial⟩,sr,trivial⟩))
  exact nx 10 Z (mQ (oi h0) Z (aA ⟨sr,sr,trivial⟩))
 refine nx 4 Z (fB [12,13] h1 Z (λ c3 h1=>?_) λ c3 h1=>?_)
 ·exact nx 5 Z (eX _ (oi h1).symm (gE Z Z))
 exact nx 5 Z (eX _ (oi h1).symm (gE Z Z))
def fq (a_0:ah):Nat→Int→(List ac)→Option (List ac)
 | 0,_,_=>none
 | m+1,i7,f8 =>
 if i7 < (a_0.fModule.length:Int) then
  ck ((0:Int)≤i7∧i7 < (a_0.fModule.length:Int)) <|
  ck ((f8.length+([(ac.mk ((lat a_0.fModule i7).fName) (bS.mk 0 0 ([]:Bytes)))]).length)*48≤140737488355328) <|
  ck (inR (i7+1)) <|
  fq a_0 m (i7+1) (f8++([(ac.mk ((lat a_0.fModule i7).fName) (bS.mk 0 0 ([]:Bytes)))]))
 else
  some f8
def lB (n:Nat)(a_0:ah):Option ah :=
 (fq a_0 n 0 []).bind λ f15 =>
 some (ah.mk f15 a_0.fData a_0.fType a_0.fName (bS.mk 0 0 ([]:Bytes)))
theorem uV (n:Nat)(a_0:ah)(r:ah)(h0:lB n a_0=some r):aC Tryz.prog 55 [.agg (ah.cs a_0)] (·=.p (.agg (ah.cs r))):=by
 unfold lB at h0
 refine bc good Tryz.func55 Z Z Z λ w0=>mP (λ v:ah=>.p (.agg (ah.cs v))) ?_
 refine nx 23 Z (bd h0 λ o17 h1 h0=>?_)
 refine kE 0 o17 (λ v18=>⟨[(2,.ptr 2 0),(3,.ptr 3 0)],[(2,lW),(3,[.vec 29 4 0 (v18.map ag),.p (eB a_0.fData),.p (eS a_0.fType),.p (eS a_0.fName),.p (eI 0),.p (eI 0),.p (eS ([]:Bytes))])]⟩) ?_ ?_
 ·exact nx 7 Z (mQ (oi h0) Z (ql ⟨AV.sub_vec _ _ _ _,sr,sr,sr,sr,sr,sr,trivial⟩))
 refine lG (λ (q19:Int×(List ac))=>⟨[(1,.ptr 1 0),(2,.ptr 2 0),(3,.ptr 3 0),(4,.p (eI q19.1))],[(1,(ah.cs a_0).map .p),(2,lW),(3,[.vec 29 4 0 (q19.2.map ag),.p (eB a_0.fData),.p (eS a_0.fType),.p (eS a_0.fName),.p (eI 0),.p (eI 0),.p (eS ([]:Bytes))])]⟩) (λ m (q19:Int×(List ac))=>fq a_0 m q19.1 q19.2) Y (0,[]) h1 (bR (ci ⟨er Z,er Z,er Z,er Z,trivial⟩ ⟨⟨_,Z,⟨sr,sr,sr,sr,sr,sr,sr,trivial⟩⟩,⟨_,Z,⟨sr,sr,sr,sr,sr,sr,sr,trivial⟩⟩,⟨_,Z,⟨AV.sub_nilvec _ _ _,sr,sr,sr,sr,sr,sr,trivial⟩⟩,trivial⟩)) ?_
 rintro m ⟨i7,f8⟩ h1
 replace h1:fq a_0 (m+1) i7 f8=some o17:=h1
 rw [fq] at h1
 refine nx 6 Z (oLl (f:=ag) Z Z (nx 2 Z (fD [16] h1 Z (λ c9 h1=>?_) λ c9 h1=>?_)))
 ·refine nx 4 Z (cc' h1 λ hk10 h1=>cc' h1 λ hk11 h1=>mG (gE (t:=⟨[(1,.ptr 1 0),(2,.ptr 2 0),(3,.ptr 3 0),(4,.p (eI i7))],[(1,(ah.cs a_0).map .p),(2,lW),(3,[.vec 29 4 0 (f8.map ag),.p (eB a_0.fData),.p (eS a_0.fType),.p (eS a_0.fName),.p (eI 0),.p (eI 0),.p (eS ([]:Bytes))])]⟩) Z Z) (mSq ⟨2,[10,12],(by3 (.some λ i=>Nat.beq i 29||Nat.beq i 29) .none .none),(λ _=>[(1,.ptr 1 0),(2,.ptr 2 0),(3,.ptr 3 0),(4,.p (eI i7))]),(by3 ([(1,((ah.cs a_0).map .p)),(2,lW),(3,[.vec 29 4 0 (f8.map ag),.p (eB a_0.fData),.p (eS a_0.fType),.p (eS a_0.fName),.p (eI 0),.p (eI 0),.p (eS ([]:Bytes))])]) ([(1,((ah.cs a_0).map .p)),(2,lW),(3,[.p (eL ag f8),.p (eB a_0.fData),.p (eS a_0.fType),.p (eS a_0.fName),.p (eI 0),.p (eI 0),.p (eS ([]:Bytes))])]) ([(3,[.vec 29 4 0 ((f8++([(ac.mk ((lat a_0.fModule i7).fName) (bS.mk 0 0 ([]:Bytes)))])).map ag),.p (eB a_0.fData),.p (eS a_0.fType),.p (eS a_0.fName),.p (eI 0),.p (eI 0),.p (eS ([]:Bytes))]),(1,((ah.cs a_0).map .p)),(2,lW),(3,[.p (eL ag f8),.p (eB a_0.fData),.p (eS a_0.fType),.p (eS a_0.fName),.p (eI 0),.p (eI 0),.p (eS ([]:Bytes))])]))⟩ Z (dPc (.ptr 3 0) Z (dP (by3 (.vec 29 4 0 (f8.map ag)) (.p (eL ag f8)) (.p (eL ag f8))) Z (dPc (.ptr 1 0) Z (dPc (.p (eL ag a_0.fModule)) Z (dPc (.p (eI i7)) Z (bD (λ _=>.rptr (ac.cs (lat a_0.fModule i7))) Z Z Z (wh Z Z Y) (lt2 Z Z) (bs Z (a6 [(22,_),(23,_)] ⟨.inr ⟨3,_,Z,Z,Z⟩,.inr ⟨4,_,Z,Z,Z⟩,trivial⟩ (λ sl hsl K hK=>aj Z (dl (f:=ag) (l:=a_0.fModule) ac.cs Z Z Z Z Z Z (hsl _ _ Z) Z (hsl _ _ Z) hk10 ac.cells_eq Y hK)) (a6 [(22,_),(23,_)] ⟨.inr ⟨3,_,Z,Z,Z⟩,.inr ⟨4,_,Z,Z,Z⟩,trivial⟩ (λ sl hsl K hK=>aj Z (dl (f:=ag) (l:=a_0.fModule) ac.cs Z Z Z Z Z Z (hsl _ _ Z) Z (hsl _ _ Z) hk10 ac.cells_eq Y hK)) bA))) (dPc (.rptr (List.drop 0 (ac.cs (lat a_0.fModule i7)))) Z (dPc (.p (eS ((lat a_0.fModule i7).fName))) Z (dPc (.p (.agg [eS ((lat a_0.fModule i7).fName),eI 0,eI 0,eS ([]:Bytes)])) Z (bD (λ _=>.p (eL ag ([(ac.mk ((lat a_0.fModule i7).fName) (bS.mk 0 0 ([]:Bytes)))]))) Z Z Z (wh Z Z Y) (lt2 Z Z) (bs Z (bs Z (a6 [(27,_)] ⟨.inr ⟨8,_,Z,Z,Z⟩,trivial⟩ (λ sl hsl K hK=>aj Z (bw ag [(ac.mk ((lat a_0.fModule i7).fName) (bS.mk 0 0 ([]:Bytes)))] Z Z Z Z Z Z (nA (hsl _ _ Z) Z pb) Z Z Z Z Z Z (by first | rfl | (simp only [List.map_cons,List.map_nil,ac.agg_eq]; done) | (simp only [List.map_cons,List.map_nil,ac.agg_eq]; rfl)) hK)) bA))) ?_))))))))))))
  refine gS (λ _=>.vec 29 4 0 ((f8++([(ac.mk ((lat a_0.fModule i7).fName) (bS.mk 0 0 ([]:Bytes)))])).map ag)) [(20,_),(28,_)] Z ⟨.inr ⟨1,_,Z,Z,Z⟩,.inr ⟨9,_,Z,Z,Z⟩,trivial⟩ Z Z (hQ Z Y) (lt2 (λ h=>absurd h (by decide)) Y) (λ sl hsl K hK=>aj Z (gP ag f8 ([(ac.mk ((lat a_0.fModule i7).fName) (bS.mk 0 0 ([]:Bytes)))]) Z Z Z Z Z Z Z Z (hsl _ _ Z) Z Z (hsl _ _ Z) Z (λ x=>congrArg List.length (ac.cells_eq x)) Z Z Z Z hk11 hK)) (dPc (.ptr 3 0) Z ?_)
  exact dS Z (iL (nx 3 Z (oA h1 Z Z λ hk12 h1=>nx 2 Z (eX (i7+1,f8++([(ac.mk ((lat a_0.fModule i7).fName) (bS.mk 0 0 ([]:Bytes)))])) h1 (gE Z Z)))))
 exact nx 2 Z (eXi _ (oi h1).symm (gE Z Z))
def jD (n:Nat)(s_0:Bytes):Option (Bytes×Int) :=
 (kD n s_0).bind λ r1 =>
 if r1.2=0 then
  (lB n r1.1).bind λ r4 =>
  (jL n r4).bind λ r6 =>
  some (r6,0)
 else
  some (([]:Bytes),r1.2)
theorem sA (n:Nat)(s_0:Bytes)(r:Bytes×Int)(h0:jD n s_0=some r):aC Tryz.prog 33 [eS s_0] (·=.tuple [.p (eS r.1),.p (eI r.2)]):=by
 unfold jD at h0
 refine bc good Tryz.func33 Z Z Z λ w0=>mP (λ v:Bytes×Int=>.tuple [.p (eS v.1),.p (eI v.2)]) ?_
 refine nx 8 Z (bd h0 λ r1 e2 h0=>oK (tC _ s_0 _ e2) Z ⟨sr,trivial⟩ Tryz.call53 Z (nx 13 Z ?_))
 refine fN [12] h0 Z (λ c3 h0=>?_) λ c3 h0=>?_
 ·exact nx 5 Z (bd h0 λ r4 e5 h0=>oK (uV _ r1.1 _ e5) Z ⟨sr,trivial⟩ Tryz.call55 Z (bd h0 λ r6 e7 h0=>oK (sF _ r4 _ e7) Z ⟨sr,trivial⟩ Tryz.call54 Z (nx 4 Z (mQ (oi h0) Z (aA ⟨sr,sr,trivial⟩)))))
 exact nx 8 Z (mQ (oi h0) Z (aA ⟨sr,sr,trivial⟩))
end Go.Ab.R06
end
section
namespace Go.Ab.R06
open Go.Ab Go.Ab.RB Go.Lib
theorem vG (s p:Bytes):iH s p=some (hasPrefix s p):=by
 unfold iH
 by_cases h:p.length≤s.length
 ·rw [if_pos O,bT O,Option.bind_some]
  refine congrArg some (eqB ?_)
  rw [decide_eq_true_eq,dK,oz,Int.toNat_natCast]
  constructor
  ·intro q; exact ⟨s.drop p.length,by conv=>lhs; rw [← List.take_append_drop p.length s,q]⟩
  ·rintro ⟨t,rfl⟩; rw [List.take_left]
 ·rw [if_neg O,Option.bind_some]
  refine congrArg some (Eq.symm ?_)
  rw [← Bool.not_eq_true]
  intro q; exact h (qH q)
theorem lr {b c:UInt8}{t:Bytes}:hasPrefix (b::t) [c]=decide (b=c):=by
 refine eqB ?_
 rw [dK,decide_eq_true_eq]
 exact ⟨λ ⟨u,hu⟩=>(List.cons.inj hu).1,λ h=>⟨t,by rw [h]; rfl⟩⟩
theorem pre_nil {c:UInt8}:hasPrefix [] [c]=false:=by
 rw [← Bool.not_eq_true,dK]; rintro ⟨u,hu⟩; cases hu
def cW (s:Bytes):Bytes×Bytes:=(s.takeWhile idB,s.dropWhile idB)
theorem uf (p:UInt8→Bool)(s:Bytes):s.take (s.takeWhile p).length=s.takeWhile p∧s.drop (s.takeWhile p).length=s.dropWhile p:=by
 have h:=List.takeWhile_append_dropWhile (p:=p) (l:=s)
 constructor
 ·have:s.take (s.takeWhile p).length=(s.takeWhile p++s.dropWhile p).take (s.takeWhile p).length:=by rw [h]
  rw [this,List.take_left]
 ·have:s.drop (s.takeWhile p).length=(s.takeWhile p++s.dropWhile p).drop (s.takeWhile p).length:=by rw [h]
  rw [this,List.drop_left]
theorem A8 (p:UInt8→Bool)(s:Bytes):(s.takeWhile p).length≤s.length:=by
 have h:=congrArg List.length (List.takeWhile_append_dropWhile (p:=p) (l:=s))
 rw [List.length_append] at h; omega
theorem AW (s:Bytes)(hs:s.length≤1000000000):∀ (k i:Nat),i+k=s.length→Ev2 (λ _ m=>fA s m (i:Int)) (·=((i+((s.drop i).takeWhile idB).length:Nat):Int)):=by
 intro k
 induction k with
 | zero =>
  intro i hi
  refine aJ ?_
  simp only [fA]
  refine ap false (ar O (aa Z)) (ar G (aa ?_))
  rw [List.drop_of_length_le O]; simp
 | succ k ih =>
  intro i hi
  refine aJ ?_
  simp only [fA]
  have hil:i < s.length:=by omega
  have hb:byt s i=((s.getD i 0).toNat:Int):=d5 s i
  have:=ih (i+1) O
  rw [hb,drop_at s hil]
  have hid:idB (s.getD i 0)=(pB (s.getD i 0)||dI (s.getD i 0)):=rfl
  have hdg:=iW (s.getD i 0)
  have hlt:=wo (s.getD i 0)
  generalize s.getD i 0=b at hid hdg hlt ⊢
  refine ap (idB b) ?_ ?_
  ·refine av O (af O (ap _ (aR hlt Z) ?_))
   rw [hid]
   cases pB b with
   | true=>exact av Z (aa Z)
   | false =>
    refine ar G (af O (aB (λ h=>af O (aa (eqB ?_))) (λ h=>aa (eqB ?_))))
    ·rw [decide_eq_true_eq,Bool.false_or,hdg]; omega
    ·rw [Bool.false_or,hdg]
     constructor
     ·intro q; cases q
     ·intro q; omega
  ·cases hi:idB b with
   | true =>
    refine av Z (af (aU O O) ?_)
    rw [show ((i+1:Nat):Int)=(i:Int)+1 by omega] at this
    refine fP this λ r hr=>?_
    rw [hr,List.takeWhile_cons,if_pos hi,List.length_cons]; omega
   | false =>
    refine ar G (aa ?_)
    rw [List.takeWhile_cons,if_neg (by simp [hi])]; simp
theorem tb (s:Bytes)(hs:s.length≤1000000000):Ev2 (λ n _=>ji n s) (·=cW s):=by
 simp only [ji]
 have l:=AW s hs s.length 0 O
 rw [List.drop_zero,Nat.zero_add] at l
 have hle:=A8 idB s
 have hw:=uf idB s
 refine ap _ (a8 l) (af O (af O (aa ?_)))
 rw [oz,fF,Int.toNat_natCast,hw.1,hw.2]; rfl
theorem xT (p:UInt8→Bool):∀ (w t:Bytes),(∀ b∈w,p b=true)→(t=[]∨∃ b r,t=b::r∧p b=false)→(w++t).takeWhile p=w∧(w++t).dropWhile p=t
 | [],t,_,h=>by
  rcases h with rfl | ⟨b,r,rfl,hb⟩
  ·exact ⟨Z,Z⟩
  ·simp [List.takeWhile_cons,List.dropWhile_cons,hb]
 | b::w,t,hw,h=>by
  have ih:=xT p w t (λ y hy=>hw y (List.mem_cons_of_mem _ hy)) h
  have hb:=hw b List.mem_cons_self
  simp only [List.cons_append,List.takeWhile_cons,List.dropWhile_cons,hb,if_true]
  exact ⟨by rw [ih.1],ih.2⟩
theorem Ao {b:UInt8}(h:j4 b=true):idB b=false:=by
 cases hi:idB b with
 | false=>rfl
 | true=>rw [nn hi] at h; cases h
theorem pZ {w t:Bytes}(hw:bX w=true)(h:t=[]∨∃ b r,t=b::r∧j4 b=true):cW (w++t)=(w,t):=by
 have:=xT idB w t (λ b hb=>lm hw hb) (h.imp id λ ⟨b,r,e,q⟩=>⟨b,r,e,Ao q⟩)
 unfold cW; rw [this.1,this.2]
theorem mi (s:Bytes):s=(cW s).1++(cW s).2:=(List.takeWhile_append_dropWhile).symm
theorem oW (s:Bytes):(cW s).1.length≤s.length∧(cW s).2.length≤s.length:=by
 have:=congrArg List.length (mi s)
 rw [List.length_append] at this; omega
def BQ (r:Bytes):bS×Bytes×Bool:=if (uK (r.takeWhile dI)).2=0∧hasPrefix (r.dropWhile dI) [93]=true then (bS.mk 1 (uK (r.takeWhile dI)).1 [],(r.dropWhile dI).drop 1,true) else (jY,[],false)
def CI (r:Bytes):bS×Bytes×Bool:=if (kj r).2.2=0∧r.take (kj r).2.1.toNat=dZ (kj r).1∧hasPrefix (r.drop (kj r).2.1.toNat) [93]=true then (bS.mk 2 0 (kj r).1,r.drop ((kj r).2.1.toNat+1),true) else (jY,[],false)
def iK (s:Bytes):bS×Bytes×Bool:=if hasPrefix s [91]=true then (if hasPrefix (s.drop 1) [34]=true then CI (s.drop 1) else BQ (s.drop 1)) else (jY,s,true)
theorem AX (s:Bytes)(hs:s.length≤1000000000):∀ (k i:Nat),i+k=s.length→Ev2 (λ _ m=>fX s m (i:Int)) (·=((i+((s.drop i).takeWhile dI).length:Nat):Int)):=by
 intro k
 induction k with
 | zero =>
  intro i hi
  refine aJ ?_
  simp only [fX]
  refine ap false (ar O (aa Z)) (ar G (aa ?_))
  rw [List.drop_of_length_le O]; simp
 | succ k ih =>
  intro i hi
  refine aJ ?_
  simp only [fX]
  have hil:i < s.length:=by omega
  have hb:byt s i=((s.getD i 0).toNat:Int):=d5 s i
  have:=ih (i+1) O
  rw [hb,drop_at s hil]
  have hdg:=iW (s.getD i 0)
  generalize s.getD i 0=b at hdg ⊢
  refine ap (dI b) ?_ ?_
  ·refine av O (af O (aB (λ h=>af O (aa (eqB ?_))) (λ h=>aa (eqB ?_))))
   ·rw [decide_eq_true_eq,hdg]; omega
   ·rw [hdg]
    constructor
    ·intro q; cases q
    ·intro q; omega
  ·cases hi:dI b with
   | true =>
    refine av Z (af (aU O O) ?_)
    rw [show ((i+1:Nat):Int)=(i:Int)+1 by omega] at this
    refine fP this λ r hr=>?_
    rw [hr,List.takeWhile_cons,if_pos hi,List.length_cons]; omega
   | false =>
    refine ar G (aa ?_)
    rw [List.takeWhile_cons,if_neg (by simp [hi])]; simp
theorem w7 (s:Bytes)(hs:s.length≤900000000):Ev2 (λ n _=>ly n s) (·=iK s):=by
 simp only [ly]
 unfold iK
 cases s with
 | nil=>exact ap true (av Z (aa Z)) (av Z (aa Z))
 | cons b r =>
  have hln:(b::r).length=r.length+1:=by simp
  have hb:byt (b::r) 0=(b.toNat:Int):=rfl
  have h91:b.toNat=91↔b=91:=lJ (by decide)
  rw [lr]
  refine ap (!decide (b=91)) ?_ ?_
  ·refine ar G (af O (aa ?_))
   rw [hb]
   refine congrArg not (eqB ?_)
   rw [decide_eq_true_eq,decide_eq_true_eq,← h91]; omega
  by_cases hbr:b=91
  ·subst hbr
   rw [if_pos (show decide ((91:UInt8)=91)=true by simp)]
   refine ar G ?_
   have hd1:(91::r:Bytes).drop 1=r:=rfl
   rw [hd1]
   refine ap (hasPrefix r [34]) ?_ ?_
   ·refine aB (λ h=>af O (aa ?_)) (λ h=>aa ?_)
    ·cases r with
     | nil=>simp at h
     | cons c q =>
      have hc:byt (91::c::q) 1=(c.toNat:Int):=rfl
      have h34:c.toNat=34↔c=34:=lJ (by decide)
      rw [hc,lr]
      refine eqB ?_
      rw [decide_eq_true_eq,decide_eq_true_eq,← h34]; omega
    ·cases r with
     | nil=>exact pre_nil.symm
     | cons c q=>simp only [List.length_cons] at h; omega
   cases hq:hasPrefix r [34] with
   | true =>
    refine av Z (af O ?_)
    rw [if_pos rfl]
    have s1:sub (91::r) 1 ((91::r:Bytes).length:Int)=r:=by rw [fF]; rfl
    rw [s1]
    unfold CI
    have hu:=Ds r O
    have hok:=@ww r
    have hle:=zm r
    generalize kj r=U at hu hok hle ⊢
    obtain ⟨x,m,e⟩:=U
    simp only at hok hle ⊢
    obtain ⟨m,rfl⟩:∃ m':Nat,m=m':=⟨m.toNat,by omega⟩
    rw [Int.toNat_natCast]
    have hin1:inR ((m:Int)+1):=aU O O
    have hin2:inR ((m:Int)+2):=aU O O
    refine ap _ hu ?_
    dsimp only
    refine (ap (!decide (e=0∧r.take m=dZ x∧hasPrefix (r.drop m) [93]=true)) ?_ ?_)
    ·refine aB (λ h=>af hin1 ?_) (λ h=>aa (by simp [h]))
     subst h
     refine aB (λ h=>aa ?_) (λ h=>af hin1 (af O ?_))
     ·rw [List.drop_of_length_le O,pre_nil]; simp
     have hml:m < r.length:=by omega
     have hb1:byt (91::r) ((m:Int)+1)=((r.getD m 0).toNat:Int):=by
      have:=uI (91::r) m 1
      rw [show ((1:Nat):Int)=1 from rfl] at this
      rw [this]; rfl
     rw [hb1,drop_at r hml,lr]
     have h93:(r.getD m 0).toNat=93↔r.getD m 0=93:=lJ (by decide)
     refine aB (λ h2=>af hin1 (af O ?_)) (λ h2=>aa ?_)
     ·have h3:r.getD m 0=93:=h93.1 O
      have hsub:sub (91::r) 1 ((m:Int)+1)=r.take m:=by
       have:=oX (91::r) 1 m
       rw [show ((1:Nat):Int)=1 from rfl,show (1:Int)+(m:Int)=(m:Int)+1 by omega] at this
       exact this
      rw [hsub,h3]
      refine ap _ (vo x O) (aB (λ h4=>?_) (λ h4=>aa (by simp [h4])))
      have hx:=hok Z
      have hko:cA (bS.mk 2 0 x)=true:=by unfold cA; simp [hx.1,hx.2.1]
      have hk:=sX (bS.mk 2 0 x) (by show x.length≤_; omega)
      rw [hko] at hk
      exact ap _ hk (aa (by simp [h4]))
     ·have h3:¬ r.getD m 0=93:=λ q=>h2 (by have:=h93.2 q; omega)
      symm; rw [Bool.not_eq_true',decide_eq_false_iff_not]; intro q; exact h3 (of_decide_eq_true q.2.2)
    ·by_cases h:e=0∧r.take m=dZ x∧hasPrefix (r.drop m) [93]=true
     ·rw [if_pos h]
      have hx:=hok (by rw [h.1])
      have hml:m < r.length:=by
       rcases Nat.lt_or_ge m r.length with q | q
       ·exact q
       ·have:=h.2.2
        rw [List.drop_of_length_le q,pre_nil] at this; cases this
      refine ar (by simp [h]) (af hin2 (af O (aa ?_)))
      rw [fF,show ((m:Int)+2).toNat=m+1+1 by omega]; rfl
     ·rw [if_neg h]
      exact av (by simp only [h,decide_false,Bool.not_false]) (aa Z)
   | false =>
    refine ar G ?_
    rw [if_neg G]
    unfold BQ
    have l:=AX (91::r) O r.length 1 O
    rw [hd1] at l
    have hle:=A8 dI r
    have hw:=uf dI r
    have hall:(r.takeWhile dI).all dI=true:=by simp
    have hn:=C2 (r.takeWhile dI) O hall
    generalize uK (r.takeWhile dI)=N at hn ⊢
    obtain ⟨v,e⟩:=N
    have hsub:sub (91::r) 1 ((1+(r.takeWhile dI).length:Nat):Int)=r.takeWhile dI:=by
     have:=oX (91::r) 1 (r.takeWhile dI).length
     rw [show ((1:Nat):Int)+((r.takeWhile dI).length:Int)=((1+(r.takeWhile dI).length:Nat):Int) by omega] at this
     rw [hd1,hw.1] at this
     exact this
    refine ap _ (a8 l) (af O ?_)
    rw [hsub]
    refine ap _ hn ?_
    dsimp only
    refine (ap (!decide (e=0∧hasPrefix (r.dropWhile dI) [93]=true)) ?_ ?_)
    ·refine aB (λ h=>?_) (λ h=>aa (by simp [h]))
     subst h
     rw [← hw.2]
     refine aB (λ h=>aa ?_) (λ h=>af O (aa ?_))
     ·rw [List.drop_of_length_le O,pre_nil]; simp
     ·have hml:(r.takeWhile dI).length < r.length:=by omega
      have hb1:byt (91::r) ((1+(r.takeWhile dI).length:Nat):Int)=((r.getD (r.takeWhile dI).length 0).toNat:Int):=by
       rw [d5,Nat.add_comm]; rfl
      rw [hb1,drop_at r hml,lr]
      have h93:(r.getD (r.takeWhile dI).length 0).toNat=93↔r.getD (r.takeWhile dI).length 0=93:=lJ (by decide)
      refine congrArg not (eqB ?_)
      rw [decide_eq_true_eq,decide_eq_true_eq]
      exact ⟨λ q=>⟨Z,decide_eq_true (h93.1 O)⟩,λ q=>by have:=h93.2 (of_decide_eq_true q.2); omega⟩
    ·by_cases h:e=0∧hasPrefix (r.dropWhile dI) [93]=true
     ·rw [if_pos h]
      have hml:(r.takeWhile dI).length < r.length:=by
       rcases Nat.lt_or_ge (r.takeWhile dI).length r.length with q | q
       ·exact q
       ·have:=h.2
        rw [← hw.2,List.drop_of_length_le q,pre_nil] at this; cases this
      refine ar (by simp [h]) (af (aU O O) (af O (aa ?_)))
      rw [fF,show (((1+(r.takeWhile dI).length:Nat):Int)+1).toNat=(r.takeWhile dI).length+1+1 by omega]
      refine Prod.ext Z (Prod.ext ?_ Z)
      show r.drop ((r.takeWhile dI).length+1)=(r.dropWhile dI).drop 1
      rw [← hw.2,List.drop_drop]
     ·rw [if_neg h]
      exact av (by simp only [h,decide_false,Bool.not_false]) (aa Z)
  ·rw [if_neg (show ¬ decide (b=91)=true by simp [hbr])]
   exact av (by simp [hbr]) (aa Z)
theorem tD {s:Bytes}{k:bS}{t:Bytes}(h:iK s=(k,t,true)):cA k=true∧s=aO k++t:=by
 unfold iK at h
 by_cases hp:hasPrefix s [91]=true
 ·rw [if_pos hp] at h
  obtain ⟨l,rfl⟩:=(dK _ _).1 hp
  have hd:([91]++l).drop 1=l:=rfl
  rw [hd] at h
  by_cases hq:hasPrefix l [34]=true
  ·rw [if_pos hq] at h
   unfold CI at h
   have hok:=@ww l
   generalize kj l=U at h hok
   obtain ⟨x,n,e⟩:=U
   simp only at h hok
   split at h
   ·rename_i hc
    obtain ⟨rfl,he,hp2⟩:=hc
    cases h
    have hx:=hok Z
    have hko:cA (bS.mk 2 0 x)=true:=by unfold cA; simp [hx.1,hx.2.1]
    refine ⟨hko,?_⟩
    have ht:aO (bS.mk 2 0 x)=[91]++dZ x++[93]:=by
     unfold aO
     rw [if_neg (by rw [hko]; simp),if_neg G]
    obtain ⟨u,hu⟩:=(dK _ _).1 hp2
    have hu2:l.drop (n.toNat+1)=u:=by rw [← List.drop_drop,hu]; rfl
    rw [ht,hu2,← he,List.append_assoc,List.append_assoc,← hu,List.take_append_drop]
   ·cases h
  ·rw [if_neg hq] at h
   unfold BQ at h
   have hin:=@zT (l.takeWhile dI)
   have hsp:=List.takeWhile_append_dropWhile (p:=dI) (l:=l)
   generalize uK (l.takeWhile dI)=N at h hin
   obtain ⟨v,e⟩:=N
   simp only at h hin
   split at h
   ·rename_i hc
    obtain ⟨rfl,hp2⟩:=hc
    cases h
    have hi:=hin Z
    have hko:cA (bS.mk 1 v [])=true:=by unfold cA; simp; exact ⟨hi.2.1,hi.2.2⟩
    refine ⟨hko,?_⟩
    have ht:aO (bS.mk 1 v [])=[91]++itoa v++[93]:=by
     unfold aO
     rw [if_neg (by rw [hko]; simp),if_pos rfl]
    obtain ⟨u,hu⟩:=(dK _ _).1 hp2
    rw [ht,hi.1,hu]
    conv=>lhs; rw [← hsp,hu]
    simp
   ·cases h
 ·rw [if_neg hp] at h
  cases h
  exact ⟨Z,Z⟩
theorem vu {k:bS}{t:Bytes}(hk:cA k=true)(h:hasPrefix t [91]=false):iK (aO k++t)=(k,t,true):=by
 rcases ks hk with h0 | h0 | h0
 ·have e:=uF hk h0
  subst e
  have et:aO jY=[]:=rfl
  rw [et,List.nil_append]
  unfold iK
  rw [if_neg (by rw [h]; simp)]
 ·have hn:=nc hk h0
  have et:aO k=[91]++itoa k.fNum++[93]:=by
   unfold aO
   rw [if_neg (by rw [hk]; simp [h0]),if_pos h0]
  obtain ⟨hd,hne⟩:=rN hn.1
  have e1:aO k++t=[91]++(itoa k.fNum++93::t):=by rw [et]; simp
  have hnp:hasPrefix (itoa k.fNum++93::t) [34]=false:=by
   cases hx:itoa k.fNum with
   | nil=>exact absurd hx hne
   | cons c r =>
    rw [hx] at hd
    have:=ko hd (b:=c) List.mem_cons_self
    rw [List.cons_append,lr,decide_eq_false_iff_not]
    intro q
    rw [q] at this
    have h34:(34:UInt8).toNat=34:=rfl
    omega
  have htw:=xT dI (itoa k.fNum) (93::t) (λ b hb=>List.all_eq_true.1 hd b hb) (.inr ⟨93,t,Z,by decide⟩)
  unfold iK
  rw [e1,if_pos (jd _ _)]
  have hd1:([91]++(itoa k.fNum++93::t)).drop 1=itoa k.fNum++93::t:=rfl
  rw [hd1,if_neg (by rw [hnp]; simp)]
  unfold BQ
  rw [htw.1,htw.2,AA hn.1 hn.2.1,if_pos ⟨rfl,by rw [lr]; simp⟩]
  refine Prod.ext ?_ Z
  cases k
  simp only at *
  rw [h0,hn.2.2]
 ·have hs:=na hk h0
  have et:aO k=[91]++dZ k.fStr++[93]:=by
   unfold aO
   rw [if_neg (by rw [hk]; simp [h0]),if_neg O]
  have e1:aO k++t=[91]++(dZ k.fStr++(93::t)):=by rw [et]; simp
  have hu:=ui k.fStr (93::t) hs.2.2 hs.2.1
  unfold iK
  rw [e1,if_pos (jd _ _)]
  have hd1:([91]++(dZ k.fStr++(93::t))).drop 1=dZ k.fStr++(93::t):=rfl
  have hq:hasPrefix (dZ k.fStr++(93::t)) [34]=true:=by
   rw [dK]; exact ⟨k.fStr.flatMap f0++[34]++(93::t),by simp [dZ]⟩
  rw [hd1,if_pos hq]
  unfold CI
  rw [hu]
  simp only [Int.toNat_natCast]
  rw [← List.drop_drop,List.take_left,List.drop_left,if_pos ⟨trivial,rfl,by rw [lr]; simp⟩]
  refine Prod.ext ?_ Z
  cases k
  simp only at *
  rw [h0,hs.1]
theorem Bw (s:Bytes):(iK s).2.1.length≤s.length:=by
 unfold iK
 split
 ·split
  ·unfold CI
   split
   ·simp only [List.length_drop]; omega
   ·simp
  ·unfold BQ
   split
   ·have:=congrArg List.length (List.takeWhile_append_dropWhile (p:=dI) (l:=s.drop 1))
    simp only [List.length_append,List.length_drop] at this ⊢
    omega
   ·simp
 ·exact Nat.le_refl _
def mN (s:Bytes):ac×Bytes×Bool:=(ac.mk (cW (s.drop 7)).1 (iK (cW (s.drop 7)).2).1,(iK (cW (s.drop 7)).2).2.1,(iK (cW (s.drop 7)).2).2.2&&bX (cW (s.drop 7)).1)
theorem vr (s:Bytes)(h:7≤s.length):(mN s).2.1.length+7≤s.length:=by
 have h1:=Bw (cW (s.drop 7)).2
 have h2:=(oW (s.drop 7)).2
 rw [List.length_drop] at h2
 show (iK (cW (s.drop 7)).2).2.1.length+7≤_
 omega
theorem CH (s:Bytes)(hs:s.length≤900000000)(h7:7≤s.length):Ev2 (λ n _=>lX n s) (·=mN s):=by
 simp only [lX]
 have e:sub s 7 (s.length:Int)=s.drop 7:=by rw [fF]; rfl
 rw [e]
 have h2:=oW (s.drop 7)
 rw [List.length_drop] at h2
 refine af O (ap _ (tb _ (by rw [List.length_drop]; omega)) (ap _ (w7 _ O) (ap ((iK (cW (s.drop 7)).2).2.2&&bX (cW (s.drop 7)).1) ?_ (aa Z))))
 cases (iK (cW (s.drop 7)).2).2.2 with
 | false=>exact ar G (aa Z)
 | true=>exact av Z (ap _ (ls _ O) (aa G))
def s9:eV:=eV.mk my false
def iN:Nat→Bytes→List ac→(Bytes×List ac)⊕(eV×Bool)
 | 0,s,f=>.inl (s,f)
 | n+1,s,f=>if hasPrefix s iS=true then
   (if (mN s).2.2=true then
    (if (mN s).2.1=[] then .inr (eV.mk (ah.mk (f++[(mN s).1]) false [] [] jY) false,true)
     else if hasPrefix (mN s).2.1 [46]=true then iN n ((mN s).2.1.drop 1) (f++[(mN s).1]) else .inr (s9,false))
    else .inr (s9,false))
  else .inl (s,f)
theorem zO:∀ (k:Nat) (s:Bytes) (f:List ac),s.length < k→s.length+f.length≤900000000→Ev2 (λ n m=>fH n m s f) (·=iN k s f):=by
 intro k
 induction k with
 | zero=>intro s f h; omega
 | succ k ih =>
  intro s f hk hs
  refine aJ ?_
  simp only [fH]
  unfold iN
  refine ap (hasPrefix s iS) (aR (vG s iS) Z) (aB (λ h=>?_) (λ h=>aa (by rw [if_neg h])))
  rw [if_pos h]
  have h7:7≤s.length:=qH h
  refine ap _ (CH s O h7) ?_
  have hl:=vr s h7
  generalize mN s=st at hl ⊢
  obtain ⟨x,t,b⟩:=st
  dsimp only at hl ⊢
  cases b with
  | false=>exact av Z (aa (by rw [if_neg G]; rfl))
  | true =>
   rw [if_pos (show true=true from rfl)]
   refine ar G (af (by simp only [List.length_cons,List.length_nil]; omega) ?_)
   cases t with
   | nil=>exact av Z (aa (by rw [if_pos Z]; rfl))
   | cons c q =>
    rw [if_neg (show ¬ (c::q:Bytes)=[] by simp),lr]
    have hb:byt (c::q) 0=(c.toNat:Int):=rfl
    have h46:c.toNat=46↔c=46:=lJ (by decide)
    simp only [List.length_cons] at hl
    refine ar G (af (by simp only [List.length_cons]; omega) ?_)
    rw [hb]
    refine aB (λ h1=>af (by simp only [List.length_cons]; omega) ?_) (λ h1=>aa ?_)
    ·rw [if_pos (decide_eq_true (h46.1 O)),fF]
     exact ih q (f++[x]) O (by rw [List.length_append]; simp only [List.length_cons,List.length_nil]; omega)
    ·rw [if_neg (λ z=>h1 (by have:=h46.2 (of_decide_eq_true z); omega))]; rfl
def rZ (s:Bytes)(f:List ac):eV×Bool :=
 let w:=cW (trimPrefix s bE)
 let v:=cW (w.2.drop 1)
 let k:=iK v.2
 if bX w.1=false∨fg w.1=true∨hasPrefix w.2 [46]=false then (s9,false)
 else if bX v.1=false∨k.2.2=false∨k.2.1≠[] then (s9,false)
 else (eV.mk (ah.mk f (hasPrefix s bE) w.1 v.1 k.1) true,true)
def EX (o:(Bytes×List ac)⊕(eV×Bool)):eV×Bool:=match o with
 | .inl q=>rZ q.1 q.2
 | .inr p=>p
def jp (s:Bytes):eV×Bool:=EX (iN (s.length+1) s [])
theorem uG:∀ (k:Nat) (s:Bytes) (f:List ac) (q:Bytes×List ac),iN k s f=.inl q→q.1.length≤s.length
 | 0,s,f,q,h=>by cases h; exact Nat.le_refl _
 | k+1,s,f,q,h=>by
  unfold iN at h
  split at h
  ·rename_i hp
   have hl:=vr s (qH hp)
   split at h
   ·split at h
    ·cases h
    ·split at h
     ·have:=uG k _ _ q h
      rw [List.length_drop] at this; omega
     ·cases h
   ·cases h
  ·cases h; exact Nat.le_refl _
theorem Au (s:Bytes)(hs:s.length≤900000000):Ev2 (λ n _=>kw n s) (·=jp s):=by
 simp only [kw]
 have l:=zO (s.length+1) s [] O (by simp; omega)
 have hlen:=uG (s.length+1) s []
 unfold jp
 generalize iN (s.length+1) s []=o at l hlen ⊢
 cases o with
 | inr p=>exact gA p (a8 l) Z
 | inl q =>
  obtain ⟨t,f⟩:=q
  have ht:=hlen (t,f) Z
  simp only at ht
  refine fE (t,f) (a8 l) ?_
  dsimp only
  show Ev2 _ (·=rZ t f)
  unfold rZ
  have htl:=mE t bE
  refine ap (trimPrefix t bE,hasPrefix t bE) ?_ ?_
  ·refine ap (hasPrefix t bE) (aR (vG t bE) Z) ?_
   cases hp:hasPrefix t bE with
   | true =>
    obtain ⟨u,rfl⟩:=(dK _ _).1 hp
    have h5:(bE++u).length=5+u.length:=by rw [List.length_append]; rfl
    refine av Z (af O (aa ?_))
    rw [fF,iR]; rfl
   | false=>exact ar G (aa (by rw [mf hp]))
  dsimp only
  have hw:=oW (trimPrefix t bE)
  refine ap _ (tb _ O) ?_
  generalize cW (trimPrefix t bE)=W at hw ⊢
  obtain ⟨w,r⟩:=W
  dsimp only at hw ⊢
  refine ap (decide (bX w=false∨fg w=true∨hasPrefix r [46]=false)) ?_ ?_
  ·refine ap _ (ls w O) ?_
   cases bX w with
   | false=>exact av Z (aa G)
   | true =>
    refine ar G (ap _ (AZ w) ?_)
    cases fg w with
    | true=>exact av Z (aa G)
    | false =>
     refine ar G ?_
     cases r with
     | nil=>exact av Z (aa (by rw [pre_nil]; simp))
     | cons c q =>
      have hb:byt (c::q) 0=(c.toNat:Int):=rfl
      have h46:c.toNat=46↔c=46:=lJ (by decide)
      refine ar G (af (by simp only [List.length_cons]; omega) (aa (eqB ?_)))
      rw [hb,lr,Bool.not_eq_true',decide_eq_false_iff_not,decide_eq_true_eq,decide_eq_false_iff_not,← h46]
      constructor
      ·intro z; right; right; omega
      ·rintro (z | z | z)
       ·cases z
       ·cases z
       ·omega
  refine aB (λ h=>aa (by rw [if_pos (of_decide_eq_true h)]; rfl)) (λ h=>?_)
  have h:=λ z=>h (decide_eq_true z)
  rw [if_neg h]
  have hp:hasPrefix r [46]=true:=by
   cases hh:hasPrefix r [46] with
   | true=>rfl
   | false=>exact absurd (.inr (.inr hh)) h
  have h1:1≤r.length:=qH hp
  have e:sub r 1 (r.length:Int)=r.drop 1:=by rw [fF]; rfl
  rw [e]
  refine af O ?_
  have hv:=oW (r.drop 1)
  rw [List.length_drop] at hv
  refine ap _ (tb _ (by rw [List.length_drop]; omega)) ?_
  generalize cW (r.drop 1)=V0z at hv ⊢
  obtain ⟨v,z⟩:=V0z
  dsimp only at hv ⊢
  refine ap _ (w7 _ O) ?_
  generalize iK z=K
  obtain ⟨k,y,b⟩:=K
  dsimp only
  refine ap (decide (bX v=false∨b=false∨y≠[])) ?_ ?_
  ·refine ap _ (ls v O) ?_
   cases bX v with
   | false=>exact av Z (aa G)
   | true =>
    refine ar G ?_
    cases b with
    | false=>exact av Z (aa G)
    | true=>exact ar G (aa G)
  ·exact aB (λ h=>aa (by rw [if_pos (of_decide_eq_true h)]; rfl)) (λ h=>aa (by rw [if_neg (λ q=>h (decide_eq_true q))]))
def vP (s:Bytes):ah×Int:=if (jp s).2=false∨(jp s).1.fWhole=false then (my,2) else if 16 < (jp s).1.fAddr.fModule.length then (my,4) else ((jp s).1.fAddr,0)
theorem Ac (s:Bytes)(hs:s.length≤900000000):Ev2 (λ n _=>kD n s) (·=vP s):=by
 simp only [kD]
 refine ap _ (Au s hs) ?_
 unfold vP
 generalize jp s=p
 obtain ⟨p,b⟩:=p
 dsimp only
 refine ap (decide (b=false∨p.fWhole=false)) ?_ ?_
 ·cases b with
  | false=>exact av Z (aa G)
  | true=>exact ar G (aa (by cases p.fWhole <;> simp))
 ·refine aB (λ h=>aa (by rw [if_pos (of_decide_eq_true h)]; rfl)) (λ h=>?_)
  rw [if_neg (λ q=>h (decide_eq_true q))]
  exact aB (λ h=>aa (by rw [if_pos O]; rfl)) (λ h=>aa (by rw [if_neg O]))
end Go.Ab.R06
end
section
namespace Go.Ab.R06
open Go.Proofs Go.Ab Go.Ab.RB Go.Lib
def Grm (s:Bytes)(a:ah):Prop:=(∀ x∈a.fModule,bX x.fName=true∧cA x.fKey=true)∧ig a.fType=true∧bX a.fName=true∧cA a.fKey=true∧gG a=s
theorem zr (s:Bytes):js s=(my,2)∨∃ a,Grm s a∧js s=if 16 < a.fModule.length then (my,4) else (a,0):=by
 unfold js
 simp only
 have hL:=nj (s.length+1) [] (ai.mk s false)
 generalize gB (s.length+1) [] (ai.mk s false)=p at hL ⊢
 obtain ⟨ms,r⟩:=p
 simp only at hL ⊢
 split
 ·exact .inl Z
 ·rename_i h0
  right
  simp only [not_or] at h0
  obtain ⟨hb,hr,hk⟩:=h0
  have hb:(kc (dp (gH (dp (ij r bE).2).2 [46])).2).2.fbad=false:=by
   have:(ge r).2.2.2.2.fbad=false:=by simpa using hb
   exact this
  have hr:(kc (dp (gH (dp (ij r bE).2).2 [46])).2).2.frest=[]:=by
   have:(ge r).2.2.2.2.frest=[]:=by simpa using hr
   exact this
  have hk:ig (dp (ij r bE).2).1=true:=by
   have:ig (ge r).2.1=true:=by simpa using hk
   exact this
  have s1:=rm hb
  have s2:=lM s1.1
  have s3:=lN s2.1
  have s4:=lM s3.1
  have hrb:r.fbad=false:=s4.1
  obtain ⟨_,new,e1,e2,e3⟩:=hL hrb
  simp only [List.nil_append] at e1
  subst e1
  have hdat:r.frest=(if (ij r bE).1=true then bE else [])++(ij r bE).2.frest:=by
   unfold ij
   simp only
   cases hp:hasPrefix r.frest bE with
   | true =>
    obtain ⟨t,ht⟩:=(dK _ _).1 hp
    rw [ht,iR]; rfl
   | false=>rw [mf hp]; rfl
  refine ⟨ah.mk ms (ge r).1 (ge r).2.1 (ge r).2.2.1 (ge r).2.2.2.1,⟨e3,hk,s2.2.1,s1.2.1,?_⟩,Z⟩
  show ms.flatMap bK++((if (ij r bE).1=true then bE else [])++((dp (ij r bE).2).1++[46]++(dp (gH (dp (ij r bE).2).2 [46])).1++aO (kc (dp (gH (dp (ij r bE).2).2 [46])).2).1))=s
  have x1:=s1.2.2
  rw [hr,List.append_nil] at x1
  rw [← x1,List.append_assoc,← s2.2.2,List.append_assoc,← s3.2,← s4.2.2,← hdat,← e2]
theorem zl {a:ah}(h:ig a.fType=true):hasPrefix (a.fType++[46]++a.fName++aO a.fKey) bE=false:=by
 obtain ⟨hres,hid⟩:=(ki _).1 h
 have hns:∀ b∈a.fType,j4 b=false:=λ b hb=>nn (lm hid hb)
 rw [← Bool.not_eq_true,dK]
 rintro ⟨u,hu⟩
 have:a.fType=[100,97,116,97]:=uJ _ _ (a.fName++aO a.fKey) u (by decide) hns (by simpa [bE] using hu)
 rw [this] at hres
 exact absurd hres (by decide)
theorem BZ {a:ah}(h:ig a.fType=true):hasPrefix ((if a.fData=true then bE else [])++(a.fType++[46]++a.fName++aO a.fKey)) iS=false:=by
 obtain ⟨hres,hid⟩:=(ki _).1 h
 have hns:∀ b∈a.fType,j4 b=false:=λ b hb=>nn (lm hid hb)
 rw [← Bool.not_eq_true,dK]
 rintro ⟨u,hu⟩
 cases hd:a.fData with
 | true =>
  rw [hd] at hu
  have:=(List.cons.inj hu).1
  exact absurd this (by decide)
 | false =>
  rw [hd] at hu
  have:a.fType=[109,111,100,117,108,101]:=uJ _ _ (a.fName++aO a.fKey) u (by decide) hns (by simpa [iS] using hu)
  rw [this] at hres
  exact absurd hres (by decide)
theorem vk (ms:List ac):ms.length≤(ms.flatMap bK).length:=by
 induction ms with
 | nil=>simp
 | cons x r ih =>
  have:1≤(bK x).length:=by simp only [bK,List.length_append,List.length_cons,List.length_nil]; omega
  simp only [List.flatMap_cons,List.length_append,List.length_cons]; omega
theorem qi:∀ (k:Nat) (s:Bytes) (f:List ac) (q:Bytes×List ac),iN k s f=.inl q→∃ new,q.2=f++new∧s=new.flatMap bK++q.1∧∀ x∈new,bX x.fName=true∧cA x.fKey=true
 | 0,s,f,q,h=>by cases h; exact ⟨[],by simp,by simp,by simp⟩
 | k+1,s,f,q,h=>by
  unfold iN at h
  split at h
  ·rename_i hp
   obtain ⟨t,rfl⟩:=(dK _ _).1 hp
   split at h
   ·rename_i hb
    split at h
    ·cases h
    ·split at h
     ·rename_i hd
      obtain ⟨u,hu⟩:=(dK _ _).1 hd
      rw [hu] at h
      obtain ⟨new,e1,e2,e3⟩:=qi k _ _ q h
      have hd7:(iS++t).drop 7=t:=rfl
      have hb:((iK (cW t).2).2.2&&bX (cW t).1)=true:=by
       have:=hb
       unfold mN at this
       rw [hd7] at this; exact this
      have hb1:(iK (cW t).2).2.2=true∧bX (cW t).1=true:=by simpa using hb
      have hst:mN (iS++t)=(ac.mk (cW t).1 (iK (cW t).2).1,(iK (cW t).2).2.1,(iK (cW t).2).2.2&&bX (cW t).1):=rfl
      rw [hst] at hu e1
      have hks:=tD (s:=(cW t).2) (k:=(iK (cW t).2).1) (t:=(iK (cW t).2).2.1) (by rw [← hb1.1])
      refine ⟨ac.mk (cW t).1 (iK (cW t).2).1::new,by rw [e1]; simp,?_,?_⟩
      ·rw [List.flatMap_cons]
       show iS++t=(iS++(cW t).1++aO (iK (cW t).2).1++[46]++new.flatMap bK)++q.1
       have e2:u=new.flatMap bK++q.1:=e2
       have hu:(iK (cW t).2).2.1=[46]++u:=hu
       conv=>lhs; rw [mi t,hks.2,hu,e2]
       simp
      ·intro x hx
       rcases List.mem_cons.1 hx with rfl | hx
       ·exact ⟨hb1.2,hks.1⟩
       ·exact e3 x hx
     ·cases h
   ·cases h
  ·cases h; exact ⟨[],by simp,by simp,by simp⟩
theorem yD {x:ac}(h:bX x.fName=true∧cA x.fKey=true)(T:Bytes):mN (iS++(x.fName++(aO x.fKey++([46]++T))))=(x,[46]++T,true):=by
 have hd:(iS++(x.fName++(aO x.fKey++([46]++T)))).drop 7=x.fName++(aO x.fKey++([46]++T)):=rfl
 unfold mN
 rw [hd,pZ (t:=aO x.fKey++([46]++T)) h.1 (.inr (qd _ _ ⟨46,T,rfl,by decide⟩))]
 simp only
 rw [vu (t:=[46]++T) h.2 (sb (b:=46) (c:=91) (t:=T) (by decide)),h.1]
 rfl
theorem rR:∀ (new:List ac) (k:Nat) (f:List ac) (t:Bytes),new.length < k→(∀ x∈new,bX x.fName=true∧cA x.fKey=true)→hasPrefix t iS=false →
  iN k (new.flatMap bK++t) f=.inl (t,f++new)
 | [],k,f,t,hk,_,ht=>by
  obtain ⟨k,rfl⟩:∃ k',k=k'+1:=⟨k - 1,by omega⟩
  unfold iN
  rw [if_neg (by simp [ht])]; simp
 | x::r,k,f,t,hk,hx,ht=>by
  obtain ⟨k,rfl⟩:∃ k',k=k'+1:=⟨k - 1,by omega⟩
  have h1:=hx x List.mem_cons_self
  have ih:=rR r k (f++[x]) t (by simp only [List.length_cons] at hk; omega) (λ y hy=>hx y (List.mem_cons_of_mem _ hy)) ht
  generalize hT:r.flatMap bK++t=T at ih
  have e:(x::r).flatMap bK++t=iS++(x.fName++(aO x.fKey++([46]++T))):=by
   rw [List.flatMap_cons,List.append_assoc,hT]; simp [bK]
  unfold iN
  rw [e,if_pos (jd _ _),yD h1]
  simp only [if_true]
  have hd:([46]++T).drop 1=T:=rfl
  rw [if_neg G,if_pos (jd [46] T),hd,ih]
  simp
theorem ws {s:Bytes}(h2:(jp s).2=true)(hw:(jp s).1.fWhole=true):Grm s (jp s).1.fAddr:=by
 unfold jp at h2 hw ⊢
 have hL:=qi (s.length+1) s []
 have hN:∀ p,iN (s.length+1) s []=.inr p→p.1.fWhole=false:=by
  have:∀ (k:Nat) (s:Bytes) (f:List ac) (p:eV×Bool),iN k s f=.inr p→p.1.fWhole=false:=by
   intro k
   induction k with
   | zero=>intro s f p h; cases h
   | succ k ih =>
    intro s f p h
    unfold iN at h
    split at h
    ·split at h
     ·split at h
      ·cases h; rfl
      ·split at h
       ·exact ih _ _ _ h
       ·cases h; rfl
     ·cases h; rfl
    ·cases h
  exact this _ _ _
 generalize iN (s.length+1) s []=o at h2 hw hL hN ⊢
 cases o with
 | inr p =>
  have:=hN p Z
  have hw:p.1.fWhole=true:=hw
  rw [this] at hw; cases hw
 | inl q =>
  obtain ⟨t,f⟩:=q
  obtain ⟨new,e1,e2,e3⟩:=hL _ rfl
  simp only [List.nil_append] at e1 e2
  subst e1
  have h2:(rZ t f).2=true:=h2
  show Grm s (rZ t f).1.fAddr
  unfold rZ at h2 ⊢
  simp only at h2 ⊢
  split at h2
  ·cases h2
  ·rename_i c1
   rw [if_neg c1]
   split at h2
   ·cases h2
   ·rename_i c2
    rw [if_neg c2]
    simp only [not_or] at c1 c2
    obtain ⟨a1,a2,a3⟩:=c1
    obtain ⟨b1,b2,b3⟩:=c2
    have a1:bX (cW (trimPrefix t bE)).1=true:=by simpa using a1
    have a2:fg (cW (trimPrefix t bE)).1=false:=by simpa using a2
    have a3:hasPrefix (cW (trimPrefix t bE)).2 [46]=true:=by simpa using a3
    obtain ⟨u,hu⟩:=(dK _ _).1 a3
    have hd:(cW (trimPrefix t bE)).2.drop 1=u:=by rw [hu]; rfl
    rw [hd] at b1 b2 b3 ⊢
    have b1:bX (cW u).1=true:=by simpa using b1
    have b2:(iK (cW u).2).2.2=true:=by simpa using b2
    have b3:(iK (cW u).2).2.1=[]:=by simpa using b3
    have hks:=tD (s:=(cW u).2) (k:=(iK (cW u).2).1) (t:=(iK (cW u).2).2.1) (by rw [← b2])
    rw [b3,List.append_nil] at hks
    refine ⟨e3,(ki _).2 ⟨a2,a1⟩,b1,hks.1,?_⟩
    show f.flatMap bK++((if hasPrefix t bE=true then bE else [])++((cW (trimPrefix t bE)).1++[46]++(cW u).1++aO (iK (cW u).2).1))=s
    have hdat:t=(if hasPrefix t bE=true then bE else [])++trimPrefix t bE:=by
     cases hp:hasPrefix t bE with
     | true =>
      obtain ⟨t',ht⟩:=(dK _ _).1 hp
      rw [ht,iR]; rfl
     | false=>rw [mf hp]; rfl
    rw [← hks.2,List.append_assoc,← mi u,List.append_assoc,← hu,← mi,← hdat,← e2]
theorem xn {s:Bytes}{a:ah}(h:Grm s a):jp s=(eV.mk a true,true):=by
 obtain ⟨c2,c3,c4,c5,rfl⟩:=h
 obtain ⟨hres,hid⟩:=(ki _).1 c3
 have hnd:=zl c3
 have hL:=rR a.fModule ((gG a).length+1) [] _ (by
  have:=vk a.fModule
  unfold gG
  rw [List.length_append]; omega) c2 (BZ c3)
 have e:gG a=a.fModule.flatMap bK++((if a.fData=true then bE else [])++(a.fType++[46]++a.fName++aO a.fKey)):=rfl
 rw [← e] at hL
 unfold jp
 rw [hL]
 show rZ _ _=_
 simp only [List.nil_append]
 have hp:hasPrefix ((if a.fData=true then bE else [])++(a.fType++[46]++a.fName++aO a.fKey)) bE=a.fData∧trimPrefix ((if a.fData=true then bE else [])++(a.fType++[46]++a.fName++aO a.fKey)) bE=a.fType++([46]++(a.fName++aO a.fKey)):=by
  cases a.fData with
  | true=>rw [if_pos rfl,jd,iR]; simp
  | false=>rw [if_neg G,List.nil_append,hnd,mf hnd]; simp
 have hk:=vu (t:=[]) c5 (by decide)
 rw [List.append_nil] at hk
 unfold rZ
 rw [hp.1,hp.2,pZ (t:=[46]++(a.fName++aO a.fKey)) hid (.inr ⟨46,a.fName++aO a.fKey,rfl,by decide⟩)]
 simp only
 have hd:([46]++(a.fName++aO a.fKey)).drop 1=a.fName++aO a.fKey:=rfl
 rw [hd,pZ c4 (rT _)]
 simp only
 rw [hk,hid,hres,jd,c4]
 simp
theorem BF {s:Bytes}{a:ah}(h:Grm s a):js s=if 16 < a.fModule.length then (my,4) else (a,0):=by
 obtain ⟨c2,c3,c4,c5,rfl⟩:=h
 obtain ⟨hres,hid⟩:=(ki _).1 c3
 have hnd:=zl c3
 have hL:=rU a.fModule ((gG a).length+1) [] _ (by
  have:=vk a.fModule
  unfold gG
  rw [List.length_append]; omega) c2 (BZ c3)
 unfold js
 have e:gG a=a.fModule.flatMap bK++((if a.fData=true then bE else [])++(a.fType++[46]++a.fName++aO a.fKey)):=rfl
 rw [← e] at hL
 rw [hL]
 simp only [List.nil_append]
 have hT:ge (ai.mk ((if a.fData=true then bE else [])++(a.fType++[46]++a.fName++aO a.fKey)) false)=(a.fData,a.fType,a.fName,a.fKey,ai.mk [] false):=by
  have hh:ij (ai.mk ((if a.fData=true then bE else [])++(a.fType++[46]++a.fName++aO a.fKey)) false) bE=(a.fData,ai.mk (a.fType++([46]++(a.fName++aO a.fKey))) false):=by
   unfold ij
   simp only
   cases a.fData with
   | true=>rw [if_pos rfl,jd,iR]; simp
   | false=>rw [if_neg G,List.nil_append,hnd,mf hnd]; simp
  have hk:=wI (t:=[]) c5 (by decide)
  rw [List.append_nil] at hk
  unfold ge
  simp only
  rw [hh]
  simp only
  rw [ra (t:=[46]++(a.fName++aO a.fKey)) hid (.inr ⟨46,a.fName++aO a.fKey,rfl,by decide⟩)]
  simp only
  rw [pc,ra c4 (rT _)]
  simp only
  rw [hk]
 rw [hT]
 simp only [c3]
 rw [if_neg G]
theorem zV (s:Bytes):vP s=js s:=by
 unfold vP
 by_cases hc:(jp s).2=false∨(jp s).1.fWhole=false
 ·rw [if_pos hc]
  rcases zr s with h | ⟨a,ha,_⟩
  ·exact h.symm
  ·rw [xn ha] at hc
   rcases hc with q | q <;> cases q
 ·rw [if_neg hc]
  simp only [not_or,Bool.not_eq_false] at hc
  exact (BF (ws hc.1 hc.2)).symm
theorem AR (a:ah)(ha:a.fModule.length≤100000):∀ (k i:Nat) (f:List ac),i+k=a.fModule.length→f.length=i→Ev2 (λ _ m=>fq a m (i:Int) f) (·=f++(a.fModule.drop i).map kQ):=by
 intro k
 induction k with
 | zero =>
  intro i f hi hf
  refine aJ ?_
  simp only [fq]
  refine ar O (aa ?_)
  rw [List.drop_of_length_le O]; simp
 | succ k ih =>
  intro i f hi hf
  refine aJ ?_
  simp only [fq]
  have h1:i < a.fModule.length:=by omega
  refine av O (af O ?_)
  rw [cI _ _ h1]
  refine af (by simp only [List.length_cons,List.length_nil]; omega) (af (aU O O) ?_)
  have:=ih (i+1) (f++[kQ a.fModule[i]]) O (by simp; omega)
  rw [Int.natCast_add,Int.natCast_one] at this
  refine fP this λ r hr=>?_
  rw [hr,List.drop_eq_getElem_cons h1,List.append_assoc]; rfl
theorem Bb (a:ah)(ha:Sm a):Ev2 (λ n _=>lB n a) (·=nQ a):=by
 simp only [lB]
 have l:=AR a ha.1 a.fModule.length 0 [] O rfl
 rw [List.drop_zero,List.nil_append] at l
 exact ap _ (a8 l) (aa Z)
theorem Dt (a:ah):Sk (nQ a):=by
 refine ⟨by simp [nQ,jY],λ x hx=>?_⟩
 obtain ⟨y,hy,rfl⟩:=List.mem_map.1 hx
 simp [kQ,jY]
theorem x7 (s:Bytes)(hs:s.length≤800000000):Ev2 (λ n _=>jD n s) (·=jf s):=by
 simp only [jD]
 unfold jf
 refine ap _ (Ac s O) ?_
 rw [zV]
 have hp:=@sv s
 generalize js s=p at hp ⊢
 obtain ⟨a,e⟩:=p
 simp only
 refine aB (λ h=>?_) (λ h=>aa (by rw [if_neg h]))
 subst h
 rw [if_pos rfl]
 have ha:=(hp Z).2.2
 exact ap _ (Bb a ha) (ap _ (wC _ ha.bare (Dt a)) (aa Z))
end Go.Ab.R06
end
section
namespace Go.Ab.R06
open Go.Proofs Go.Ab Go.Ab.RB
attribute [local irreducible] awp ei aS aC bC AV.sub M dN
end Go.Ab.R06
end
section
namespace Go.Ab.R06
open Go.Ab Go.Ab.RB Go.Lib
theorem Ex (l:List Bytes)(s:Bytes)(hb:l.length≤fo):∀ (k i:Nat),i+k=l.length→Ev2 (λ _ m=>gi l s m (i:Int)) (·=if s∈l.drop i then .inr true else .inl ()):=by
 have hW:=qq
 intro k
 induction k with
 | zero =>
  intro i hi
  refine aJ ?_
  simp only [gi]
  exact ar O (aa (by rw [List.drop_of_length_le O]; simp))
 | succ k ih =>
  intro i hi
  have h1:i < l.length:=by omega
  refine aJ ?_
  simp only [gi]
  refine av O (af O ?_)
  rw [cI _ _ h1,List.drop_eq_getElem_cons h1]
  refine aB (λ h=>aa (by rw [if_pos (by simp [h])])) (λ h=>af (aU O O) ?_)
  have:=ih (i+1) O
  rw [Int.natCast_add,Int.natCast_one] at this
  refine fP this λ r hr=>?_
  rw [hr]
  have hm:s∈l[i]::l.drop (i+1)↔s∈l.drop (i+1):=by
   rw [List.mem_cons]; exact ⟨λ q=>q.resolve_left λ e=>h e.symm,.inr⟩
  simp only [hm]
theorem A0 (l:List Bytes)(s:Bytes)(hb:l.length≤fo):Ev2 (λ n _=>lx n l s) (·=decide (s∈l)):=by
 simp only [lx]
 have l1:=Ex l s hb l.length 0 O
 rw [List.drop_zero] at l1
 by_cases h:s∈l
 ·rw [if_pos h] at l1
  exact gA true (a8 l1) (by simp [h])
 ·rw [if_neg h] at l1
  exact fE () (a8 l1) (aa (by simp [h]))
theorem Dx (a b:List Bytes)(hl:a.length=b.length)(hb:a.length≤fo):∀ (k i:Nat),i+k=a.length→Ev2 (λ _ m=>ea a b m (i:Int)) (·=if a.drop i=b.drop i then .inl () else .inr false):=by
 have hW:=qq
 intro k
 induction k with
 | zero =>
  intro i hi
  refine aJ ?_
  simp only [ea]
  exact ar O (aa (by rw [List.drop_of_length_le O,List.drop_of_length_le O]; simp))
 | succ k ih =>
  intro i hi
  have h1:i < a.length:=by omega
  have h2:i < b.length:=by omega
  refine aJ ?_
  simp only [ea]
  refine av O (af O (af O ?_))
  rw [cI _ _ h1,cI _ _ h2,List.drop_eq_getElem_cons h1,List.drop_eq_getElem_cons h2]
  refine aB (λ h=>af (aU O O) ?_) (λ h=>aa (by rw [if_neg (λ e=>h (List.cons.inj e).1)]))
  have:=ih (i+1) O
  rw [Int.natCast_add,Int.natCast_one] at this
  refine fP this λ r hr=>?_
  rw [hr,h]
  simp only [List.cons.injEq,true_and]
theorem yQ (a b:List Bytes)(hb:a.length≤fo):Ev2 (λ n _=>g5 n a b) (·=decide (a=b)):=by
 simp only [g5]
 refine aB (λ h=>?_) (λ h=>aa (by rw [decide_eq_false (λ e=>h (by rw [e]))]))
 have l1:=Dx a b O hb a.length 0 O
 rw [List.drop_zero,List.drop_zero] at l1
 by_cases h:a=b
 ·rw [if_pos h] at l1
  exact fE () (a8 l1) (aa (by rw [decide_eq_true h]))
 ·rw [if_neg h] at l1
  exact gA false (a8 l1) (by rw [decide_eq_false h])
def eqv (x y:ab):Bool:=decide (x.fAddr=y.fAddr)&&decide (x.fDeposed=y.fDeposed)&&decide (x.fAction=y.fAction)&&decide (x.fDeps=y.fDeps)&&decide (x.fOldDeps=y.fOldDeps)
theorem Ck (x:ab):eqv x x=true:=by simp [eqv]
def p6:List ab→List ab→Bool
 | [],[]=>true
 | x::a,y::b=>eqv x y&&p6 a b
 | _,_=>false
theorem rp:∀ a:List ab,p6 a a=true
 | []=>rfl
 | x::a=>by simp only [p6,Ck,rp a,Bool.and_self]
theorem wW:∀ {a b:List ab},p6 a b=true→a.length=b.length
 | [],[],_=>rfl
 | [],_::_,h=>by simp [p6] at h
 | _::_,[],h=>by simp [p6] at h
 | x::a,y::b,h=>by
  simp only [p6,Bool.and_eq_true] at h
  simp only [List.length_cons,wW h.2]
theorem Fu (a b:List ab)(hl:a.length=b.length)(hn:a.length≤1000)(ha:∀ c∈a,ab.Bd c):∀ (k i:Nat),i+k=a.length→Ev2 (λ n m=>eW n a b m (i:Int)) (·=if p6 (a.drop i) (b.drop i)=true then .inl () else .inr false):=by
 intro k
 induction k with
 | zero =>
  intro i hi
  refine aJ ?_
  simp only [eW]
  exact ar O (aa (by rw [List.drop_of_length_le O,List.drop_of_length_le O]; rfl))
 | succ k ih =>
  intro i hi
  have h1:i < a.length:=by omega
  have h2:i < b.length:=by omega
  have hb:=ha _ (List.getElem_mem h1)
  have d1:=hb.bDeps
  have d2:=hb.bOldDeps
  refine aJ ?_
  simp only [eW]
  refine av O ?_
  rw [cI _ _ h1,cI _ _ h2,List.drop_eq_getElem_cons h1,List.drop_eq_getElem_cons h2]
  refine dc (!eqv a[i] b[i]) ?_ ?_
  ·unfold eqv
   refine af O (af O (aB (λ e1=>?_) (λ e1=>aa (by rw [decide_eq_false e1]; rfl))))
   refine af O (af O (aB (λ e2=>?_) (λ e2=>aa (by rw [decide_eq_false e2]; simp))))
   refine af O (af O (aB (λ e3=>?_) (λ e3=>aa (by rw [decide_eq_false e3]; simp))))
   rw [decide_eq_true e1,decide_eq_true e2,decide_eq_true e3,Bool.true_and,Bool.true_and,Bool.true_and]
   refine af O (af O (dc _ (yQ _ _ O) ?_))
   cases decide (a[i].fDeps=b[i].fDeps)
   ·exact av Z (aa G)
   ·exact ar (by decide) (af O (af O (dc _ (yQ _ _ O) (aa G))))
  ·have e:p6 (a[i]::a.drop (i+1)) (b[i]::b.drop (i+1))=(eqv a[i] b[i]&&p6 (a.drop (i+1)) (b.drop (i+1))):=rfl
   simp only [e]
   by_cases hq:eqv a[i] b[i]=true
   ·simp only [hq,Bool.true_and]
    refine ar (by decide) (af (aU O O) ?_)
    have:=ih (i+1) O
    rw [Int.natCast_add,Int.natCast_one] at this
    exact this
   ·have hq:=Bool.eq_false_iff.2 hq
    simp only [hq,Bool.false_and]
    exact av Z (aa Z)
theorem yk (a b:List ab)(hn:a.length≤1000)(ha:∀ c∈a,ab.Bd c):Ev2 (λ n _=>jz n a b) (·=p6 a b):=by
 simp only [jz]
 refine aB (λ h=>?_) (λ h=>aa ?_)
 ·have l1:=Fu a b O hn ha a.length 0 O
  rw [List.drop_zero,List.drop_zero] at l1
  cases hq:p6 a b
  ·rw [if_neg (by simp [hq])] at l1
   exact gA false (a8 l1) Z
  ·rw [if_pos hq] at l1
   exact fE () (a8 l1) (aa Z)
 ·cases hq:p6 a b
  ·rfl
  ·exact absurd (congrArg (λ n:Nat=>(n:Int)) (wW hq)) h
theorem sW {α:Type}(l:List α)(i:Nat)(h:i < l.length):sub l (i:Int) ((i:Int)+1)=[l[i]]:=by
 have e:((i:Int)+1)=((i+1:Nat):Int):=by omega
 rw [e,Db,List.drop_take,Nat.add_sub_cancel_left,List.drop_eq_getElem_cons h]; rfl
theorem z1 {t:List Bytes}{l:List ab}(h:Bc t l=true):t.length≤16∧(∀ p∈t,p.length≤300)∧l.length≤20∧∀ c∈l,c.fAddr.length≤300:=by
 unfold Bc at h
 rw [Bool.and_eq_true,Bool.and_eq_true,Bool.and_eq_true,List.all_eq_true,decide_eq_true_eq,decide_eq_true_eq] at h
 obtain ⟨⟨⟨h1,h2⟩,h3⟩,h4⟩:=h
 have h5:=ti h1
 refine ⟨by omega,h5.2,h3,λ c hc=>?_⟩
 have:=h4 c hc
 unfold uj at this
 rw [Bool.and_eq_true,Bool.and_eq_true,decide_eq_true_eq] at this
 exact this.1.1
end Go.Ab.R06
end
section
namespace Go.Ab.R06
open Go.Proofs Go.Ab Go.Ab.RB
attribute [local irreducible] awp ei aS aC bC AV.sub M dN
end Go.Ab.R06
end
section
namespace Go.Ab.R06
open Go.Ab Go.Ab.RB Go.Lib
end Go.Ab.R06
end
section
namespace Go.Ab.R06
open Go.Proofs Go.Ab Go.Ab.RB
attribute [local irreducible] awp ei aS aC bC AV.sub M dN
end Go.Ab.R06
end
section
namespace Go.Ab.R06
open Go.Ab Go.Ab.RB Go.Lib
end Go.Ab.R06
end
section
namespace Go.Ab.R06
open Go.Proofs Go.Ab Go.Ab.RB
attribute [local irreducible] awp ei aS aC bC AV.sub M dN
def iF (n:Nat)(addr_0:Bytes):Option Bytes :=
 (jD n addr_0).bind λ r1 =>
 some r1.1
theorem gY (n:Nat)(addr_0:Bytes)(r:Bytes)(h0:iF n addr_0=some r):aC Tryz.prog 25 [eS addr_0] (·=.p (eS r)):=by
 unfold iF at h0
 refine bc good Tryz.func25 Z Z Z λ w0=>mP (λ v:Bytes=>.p (eS v)) ?_
 exact nx 7 Z (bd h0 λ r1 e2 h0=>oK (sA _ addr_0 _ e2) Z ⟨sr,trivial⟩ Tryz.call33 Z (nx 12 Z (mQ (oi h0) Z (sr))))
def cB (n:Nat)(l_1:List ab)(r6:(List ab))(i84:Int):Nat→Int→Option (Unit⊕(Int⊕(Int⊕Bool)))
 | 0,_=>none
 | m+1,j125 =>
 if j125 < (r6.length:Int) then
  (
    ck ((0:Int)≤j125∧j125 < (r6.length:Int)) <|
    if (lat r6 j125).fAction=4 then
     some true
    else
     ck ((0:Int)≤j125∧j125 < (r6.length:Int)) <|
     some (decide ((lat r6 j125).fAction=3))
   : Option Bool).bind λ gone130 =>
  (
    ck ((0:Int)≤j125∧j125 < (r6.length:Int)) <|
    ck ((0:Int)≤i84∧i84 < (l_1.length:Int)) <|
    (iF n ((lat l_1 i84).fAddr)).bind λ r133 =>
    (lx n ((lat r6 j125).fDeps) r133).bind λ r135 =>
    if r135=true then
     some true
    else
     if gone130=true then
      ck ((0:Int)≤i84∧i84 < (l_1.length:Int)) <|
      if (lat l_1 i84).fAction=0 then
       some false
      else
       ck ((0:Int)≤i84∧i84 < (l_1.length:Int)) <|
       ck ((0:Int)≤j125∧j125 < (r6.length:Int)) <|
       (iF n ((lat r6 j125).fAddr)).bind λ r143 =>
       (lx n ((lat l_1 i84).fOldDeps) r143).bind λ r145 =>
       some r145
     else
      some false
   : Option Bool).bind λ t147 =>
  if t147=true then
   some (.inr (.inr (.inr false)))
  else
   ck (inR (j125+1)) <|
   cB n l_1 r6 i84 m (j125+1)
 else
  some (.inl ())
def cy (n:Nat)(targets_0:List Bytes)(l_1:List ab)(r6:(List ab)):Nat→Int→Int→Option (Int⊕Bool)
 | 0,_,_=>none
 | m+1,k83,i84 =>
 if i84 < (l_1.length:Int) then
  jn (
    (
      if k83 < (r6.length:Int) then
       ck (inR (i84+1)) <|
       ck ((0:Int)≤i84∧i84≤i84+1∧i84+1≤(l_1.length:Int)) <|
       ck (inR (k83+1)) <|
       ck ((0:Int)≤k83∧k83≤k83+1∧k83+1≤(r6.length:Int)) <|
       (jz n (sub l_1 i84 (i84+1)) (sub r6 k83 (k83+1))).bind λ r91 =>
       some r91
      else
       some false
     : Option Bool).bind λ kept93 =>
    if kept93=true then
     ck (inR (k83+1)) <|
     some (.inl (k83+1))
    else
     ck ((0:Int)≤i84∧i84 < (l_1.length:Int)) <|
     (cS n targets_0 ((lat l_1 i84).fAddr)).bind λ r97 =>
     if r97=true then
      some (.inr (.inr false))
     else
      jn (cB n l_1 r6 i84 n 0) λ q163 =>
      some (.inl k83)
   : Option (Int⊕(Int⊕Bool))) λ k151 =>
  ck (inR (i84+1)) <|
  cy n targets_0 l_1 r6 m k151 (i84+1)
 else
  some (.inl k83)
def gO (n:Nat)(targets_0:List Bytes)(l_1:List ab):Option Bool :=
 (mK n targets_0 l_1).bind λ r1 =>
 if (!r1)=true then
  (gb n).bind λ r4 =>
  some r4
 else
  (cY n targets_0 l_1).bind λ r6 =>
  (cY n targets_0 r6).bind λ r8 =>
  (jz n r8 r6).bind λ r10 =>
  if (!r10)=true then
   some false
  else
   jn (cy n targets_0 l_1 r6 n 0 0) λ k155 =>
   (
     if k155=(r6.length:Int) then
      (gb n).bind λ r157 =>
      some r157
     else
      some false
    : Option Bool).bind λ t159 =>
   some t159
theorem nU (n:Nat)(targets_0:List Bytes)(l_1:List ab)(r:Bool)(h0:gO n targets_0 l_1=some r):aC Tryz.prog 7 [eL eS targets_0,eL ae l_1] (·=.p (eB r)):=by
 unfold gO at h0
 refine bc good Tryz.func7 Z Z Z λ w0=>mP (λ v:Bool=>.p (eB v)) ?_
 refine nx 9 Z (bd h0 λ r1 e2 h0=>oK (wg _ targets_0 l_1 _ e2) Z ⟨sr,sr,trivial⟩ Tryz.call14 Z (nx 2 Z ?_))
 refine fB [14] h0 Z (λ c3 h0=>?_) λ c3 h0=>?_
 ·exact nx 3 Z (bd h0 λ r4 e5 h0=>oK (oy _  _ e5) Z trivial Tryz.call13 Z (nx 3 Z (mQ (oi h0) Z (sr))))
 refine nx 6 Z (bd h0 λ r6 e7 h0=>oK (fC _ targets_0 l_1 _ e7) Z ⟨sr,sr,trivial⟩ Tryz.call23 Z (nx 7 Z (bd h0 λ r8 e9 h0=>oK (fC _ targets_0 r6 _ e9) Z ⟨sr,sr,trivial⟩ Tryz.call23 Z (nx 1 Z (bd h0 λ r10 e11 h0=>oK (ol _ r8 r6 _ e11) Z ⟨sr,sr,trivial⟩ Tryz.call22 Z (nx 2 Z ?_))))))
 refine fB [24] h0 Z (λ c12 h0=>?_) λ c12 h0=>?_
 ·exact nx 6 Z (mQ (oi h0) Z (sr))
 refine nx 12 Z ?_
 obtain ⟨o167,h1,hL0,hR0⟩:=fc h0
 refine kEx 0 (λ v168:Int=>o167=.inl v168) (λ v168=>⟨[(5,.p (eL ae r6)),(6,.p (eI v168))],[]⟩) (λ v168 hv=>?_) ?_
 ·have h0:=hL0 _ hv
  refine nx 2 Z (bd h0 λ o169 h1 h0=>?_)
  refine kN o169 (λ v170=>⟨[(4,.p (eB v170))],[]⟩) ?_ ?_
  ·exact nx 2 Z (mQ (oi h0) Z (sr))
  refine nx 3 Z (oLl (f:=ae) Z Z (nx 2 Z (fD [118,119] h1 Z (λ c156 h1=>?_) λ c156 h1=>?_)))
  ·exact bd h1 λ r157 e158 h1=>oK (oy _  _ e158) Z trivial Tryz.call13 Z (nx 3 Z (eX _ (oi h1).symm (gE Z Z)))
  exact nx 4 Z (eX _ (oi h1).symm (gE Z Z))
 refine lG (λ (q171:Int×Int)=>⟨[(0,.p (eL eS targets_0)),(1,.p (eL ae l_1)),(5,.p (eL ae r6)),(6,.p (eI q171.1)),(7,.p (eI q171.2))],[]⟩) (λ m (q171:Int×Int)=>cy n targets_0 l_1 r6 m q171.1 q171.2) Y (0,0) h1 (gE Z Z) ?_
 rintro m ⟨k83,i84⟩ h1
 replace h1:cy n targets_0 l_1 r6 (m+1) k83 i84=some o167:=h1
 rw [cy] at h1
 refine nx 5 Z (oLl (f:=ae) Z Z (nx 2 Z (fD [28] h1 Z (λ c85 h1=>?_) λ c85 h1=>?_)))
 ·refine nx 3 Z ?_
  obtain ⟨o172,h2,hL1,hR1⟩:=fc h1
  refine kX (λ v173:Int=>o172=.inl v173) (λ v173=>⟨[(0,.p (eL eS targets_0)),(1,.p (eL ae l_1)),(5,.p (eL ae r6)),(6,.p (eI v173)),(7,.p (eI i84))],[]⟩) (λ v173 hv=>?_) ?_
  ·have h1:=hL1 _ hv
   exact nx 3 Z (oA h1 Z Z λ hk152 h1=>nx 2 Z (eX (v173,i84+1) h1 (gE Z Z)))
  refine nx 2 Z (bd h2 λ o174 h3 h2=>?_)
  refine kN o174 (λ v175=>⟨[(0,.p (eL eS targets_0)),(1,.p (eL ae l_1)),(5,.p (eL ae r6)),(6,.p (eI k83)),(7,.p (eI i84)),(8,.p (eB v175))],[]⟩) ?_ ?_
  ·refine nx 6 Z (fB [8,48] h2 Z (λ c94 h2=>?_) λ c94 h2=>?_)
   ·exact nx 4 Z (oA h2 Z Z λ hk95 h2=>nx 3 Z (eX _ (oi h2).symm (gE Z Z)))
   refine nx 8 Z (oE h2 ab.cells_eq Z Z Y λ hk96 h2=>nx 2 Z (bd h2 λ r97 e98 h2=>oK (gT _ targets_0 ((lat l_1 i84).fAddr) _ e98) Z ⟨sr,sr,trivial⟩ Tryz.call15 Z (nx 1 Z ?_)))
   refine fB [57] h2 Z (λ c99 h2=>?_) λ c99 h2=>?_
   ·exact nx 6 Z (mQ (hR0 _ (hR1 _ (oi h2).symm).symm) Z (sr))
   refine nx 7 Z ?_
   obtain ⟨o176,h3,hL2,hR2⟩:=fc h2
   refine kEx 2 (λ v177:Unit=>o176=.inl v177) (λ v177=>⟨[(0,.p (eL eS targets_0)),(1,.p (eL ae l_1)),(5,.p (eL ae r6)),(6,.p (eI k83)),(7,.p (eI i84))],[]⟩) (λ v177 hv=>?_) ?_
   ·have h2:=hL2 _ hv
    exact nx 1 Z (eX _ (oi h2).symm (gE Z Z))
   refine lG (λ (q178:Int)=>⟨[(0,.p (eL eS targets_0)),(1,.p (eL ae l_1)),(5,.p (eL ae r6)),(6,.p (eI k83)),(7,.p (eI i84)),(9,.p (eI q178))],[]⟩) (λ m (q178:Int)=>cB n l_1 r6 i84 m q178) Y 0 h3 (gE Z Z) ?_
   rintro m j125 h3
   replace h3:cB n l_1 r6 i84 (m+1) j125=some o176:=h3
   rw [cB] at h3
   refine nx 5 Z (oLl (f:=ae) Z Z (nx 2 Z (fD [61] h3 Z (λ c126 h3=>?_) λ c126 h3=>?_)))
   ·refine nx 5 Z (bd h3 λ o179 h4 h3=>?_)
    refine kN o179 (λ v180=>⟨[(0,.p (eL eS targets_0)),(1,.p (eL ae l_1)),(5,.p (eL ae r6)),(6,.p (eI k83)),(7,.p (eI i84)),(9,.p (eI j125)),(10,.p (eB v180))],[]⟩) ?_ ?_
    ·refine nx 2 Z (bd h3 λ o181 h4 h3=>?_)
     refine kN o181 (λ v182=>⟨[(0,.p (eL eS targets_0)),(1,.p (eL ae l_1)),(5,.p (eL ae r6)),(6,.p (eI k83)),(7,.p (eI i84)),(9,.p (eI j125)),(114,.p (eB v182))],[]⟩) ?_ ?_
     ·refine nx 1 Z (fB [114] h3 Z (λ c148 h3=>?_) λ c148 h3=>?_)
      ·exact nx 6 Z (mQ (hR0 _ (hR1 _ (hR2 _ (oi h3).symm).symm).symm) Z (sr))
      exact nx 4 Z (oA h3 Z Z λ hk149 h3=>nx 2 Z (eX (j125+1) h3 (gE Z Z)))
     refine cc' h4 λ hk131 h4=>cc' h4 λ hk132 h4=>bd h4 λ r133 e134 h4=>bd h4 λ r135 e136 h4=>fB (p:=r135) [] h4 Z (λ c137 h4=>?_) λ c137 h4=>?_
     ·refine mD [(0,.p (eL eS targets_0)),(1,.p (eL ae l_1)),(5,.p (eL ae r6)),(6,.p (eI k83)),(7,.p (eI i84)),(9,.p (eI j125)),(10,.p (eB o179))] Z ⟨Z,Z,Z,Z,Z,Z,Z,trivial⟩ Z (dR 2 Z (dq (.rptr (ab.cs (lat r6 j125))) [78,79] Z (λ _ e _ q=>aj Z (dl (f:=ae) (l:=r6) ab.cs Z Z Z Z Z Z (e _ _ Z) Z (e _ _ Z) hk131 ab.cells_eq Y q)) Z (dR 4 Z (dq (.rptr (ab.cs (lat l_1 i84))) [83,84] Z (λ _ e _ q=>aj Z (dl (f:=ae) (l:=l_1) ab.cs Z Z Z Z Z Z (e _ _ Z) Z (e _ _ Z) hk132 ab.cells_eq Y q)) Z (dR 2 Z (dq (.p (eS r133)) [87] Z (λ _ e _ q=>aj Z (bj (gY _ ((lat l_1 i84).fAddr) _ e134) Z Z Z (aI (e _ _ Z) bh) ⟨sr,trivial⟩ Tryz.call25 Z q)) Z (dq (.p (eB r135)) [82,88] Z (λ _ e _ q=>aj Z (bj (jQ _ ((lat r6 j125).fDeps) r133 _ e136) Z Z Z (aI (e _ _ Z) (aI (e _ _ Z) bh)) ⟨sr,sr,trivial⟩ Tryz.call19 Z q)) Z (dL (c137) Z (dR 24 Z ?_)))))))))
      refine dE Z (nx 1 Z ?_)
      exact eX _ (oi h4).symm (gE Z Z)
     refine fB [10] h4 Z (λ c138 h4=>?_) λ c138 h4=>?_
     ·refine cc' h4 λ hk139 h4=>fN (p:=(lat l_1 i84).fAction=0) [] h4 Z (λ c140 h4=>?_) λ c140 h4=>?_
      ·refine mD [(0,.p (eL eS targets_0)),(1,.p (eL ae l_1)),(5,.p (eL ae r6)),(6,.p (eI k83)),(7,.p (eI i84)),(9,.p (eI j125)),(10,.p (eB true))] Z ⟨Z,Z,Z,Z,Z,Z,Z,trivial⟩ Z (dR 2 Z (dq (.rptr (ab.cs (lat r6 j125))) [78,79] Z (λ _ e _ q=>aj Z (dl (f:=ae) (l:=r6) ab.cs Z Z Z Z Z Z (e _ _ Z) Z (e _ _ Z) hk131 ab.cells_eq Y q)) Z (dR 4 Z (dq (.rptr (ab.cs (lat l_1 i84))) [83,84] Z (λ _ e _ q=>aj Z (dl (f:=ae) (l:=l_1) ab.cs Z Z Z Z Z Z (e _ _ Z) Z (e _ _ Z) hk132 ab.cells_eq Y q)) Z (dR 2 Z (dq (.p (eS r133)) [87] Z (λ _ e _ q=>aj Z (bj (gY _ ((lat l_1 i84).fAddr) _ e134) Z Z Z (aI (e _ _ Z) bh) ⟨sr,trivial⟩ Tryz.call25 Z q)) Z (dq (.p (eB r135)) [82,88] Z (λ _ e _ q=>aj Z (bj (jQ _ ((lat r6 j125).fDeps) r133 _ e136) Z Z Z (aI (e _ _ Z) (aI (e _ _ Z) bh)) ⟨sr,sr,trivial⟩ Tryz.call19 Z q)) Z (dL (c137) Z (dR 4 Z (dq (.rptr (ab.cs (lat l_1 i84))) [92,93,94] Z (λ _ e _ q=>aQ (dl (f:=ae) (l:=l_1) ab.cs Z Z Z Z Z Z (e _ _ Z) Z (e _ _ Z) hk139 ab.cells_eq Y q) Z Z (e _ _ Z) (rfl)) Z (dR 2 Z (dL (aE c140) Z (dR 16 Z ?_)))))))))))))
       refine dE Z (nx 1 Z ?_)
       exact eX _ (oi h4).symm (gE Z Z)
      refine cc' h4 λ hk141 h4=>cc' h4 λ hk142 h4=>bd h4 λ r143 e144 h4=>bd h4 λ r145 e146 h4=>mD [(0,.p (eL eS targets_0)),(1,.p (eL ae l_1)),(5,.p (eL ae r6)),(6,.p (eI k83)),(7,.p (eI i84)),(9,.p (eI j125)),(10,.p (eB true))] Z ⟨Z,Z,Z,Z,Z,Z,Z,trivial⟩ Z (dR 2 Z (dq (.rptr (ab.cs (lat r6 j125))) [78,79] Z (λ _ e _ q=>aj Z (dl (f:=ae) (l:=r6) ab.cs Z Z Z Z Z Z (e _ _ Z) Z (e _ _ Z) hk131 ab.cells_eq Y q)) Z (dR 4 Z (dq (.rptr (ab.cs (lat l_1 i84))) [83,84] Z (λ _ e _ q=>aj Z (dl (f:=ae) (l:=l_1) ab.cs Z Z Z Z Z Z (e _ _ Z) Z (e _ _ Z) hk132 ab.cells_eq Y q)) Z (dR 2 Z (dq (.p (eS r133)) [87] Z (λ _ e _ q=>aj Z (bj (gY _ ((lat l_1 i84).fAddr) _ e134) Z Z Z (aI (e _ _ Z) bh) ⟨sr,trivial⟩ Tryz.call25 Z q)) Z (dq (.p (eB r135)) [82,88] Z (λ _ e _ q=>aj Z (bj (jQ _ ((lat r6 j125).fDeps) r133 _ e136) Z Z Z (aI (e _ _ Z) (aI (e _ _ Z) bh)) ⟨sr,sr,trivial⟩ Tryz.call19 Z q)) Z (dL (c137) Z (dR 4 Z (dq (.rptr (ab.cs (lat l_1 i84))) [92,93,94] Z (λ _ e _ q=>aQ (dl (f:=ae) (l:=l_1) ab.cs Z Z Z Z Z Z (e _ _ Z) Z (e _ _ Z) hk139 ab.cells_eq Y q) Z Z (e _ _ Z) (rfl)) Z (dR 2 Z (dL (aP c140) Z (dR 4 Z ?_)))))))))))))
      exact dq (.rptr (ab.cs (lat l_1 i84))) [100,101,102] Z (λ _ e _ q=>aQ (dl (f:=ae) (l:=l_1) ab.cs Z Z Z Z Z Z (e _ _ Z) Z (e _ _ Z) hk141 ab.cells_eq Y q) Z Z (e _ _ Z) (rfl)) Z (dR 4 Z (dq (.rptr (ab.cs (lat r6 j125))) [100,106,107] Z (λ _ e _ q=>aQ (dl (f:=ae) (l:=r6) ab.cs Z Z Z Z Z Z (e _ _ Z) Z (e _ _ Z) hk142 ab.cells_eq Y q) Z Z (e _ _ Z) (rfl)) Z (dR 2 Z (dq (.p (eS r143)) [100,110] Z (λ _ e _ q=>aQ (bj (gY _ ((lat r6 j125).fAddr) _ e144) Z Z Z (aI (e _ _ Z) bh) ⟨sr,trivial⟩ Tryz.call25 Z q) Z Z (e _ _ Z) (rfl)) Z (dq (.p (eB r145)) [100,105,111] Z (λ _ e _ q=>aQ (bj (jQ _ ((lat l_1 i84).fOldDeps) r143 _ e146) Z Z Z (aI (e _ _ Z) (aI (e _ _ Z) bh)) ⟨sr,sr,trivial⟩ Tryz.call19 Z q) Z Z (e _ _ Z) (rfl)) Z (dR 2 Z (dE Z (nx 1 Z (eX _ (oi h4).symm (gE Z Z))))))))))
     refine mD [(0,.p (eL eS targets_0)),(1,.p (eL ae l_1)),(5,.p (eL ae r6)),(6,.p (eI k83)),(7,.p (eI i84)),(9,.p (eI j125)),(10,.p (eB false))] Z ⟨Z,Z,Z,Z,Z,Z,Z,trivial⟩ Z (dR 2 Z (dq (.rptr (ab.cs (lat r6 j125))) [78,79] Z (λ _ e _ q=>aj Z (dl (f:=ae) (l:=r6) ab.cs Z Z Z Z Z Z (e _ _ Z) Z (e _ _ Z) hk131 ab.cells_eq Y q)) Z (dR 4 Z (dq (.rptr (ab.cs (lat l_1 i84))) [83,84] Z (λ _ e _ q=>aj Z (dl (f:=ae) (l:=l_1) ab.cs Z Z Z Z Z Z (e _ _ Z) Z (e _ _ Z) hk132 ab.cells_eq Y q)) Z (dR 2 Z (dq (.p (eS r133)) [87] Z (λ _ e _ q=>aj Z (bj (gY _ ((lat l_1 i84).fAddr) _ e134) Z Z Z (aI (e _ _ Z) bh) ⟨sr,trivial⟩ Tryz.call25 Z q)) Z (dq (.p (eB r135)) [82,88] Z (λ _ e _ q=>aj Z (bj (jQ _ ((lat r6 j125).fDeps) r133 _ e136) Z Z Z (aI (e _ _ Z) (aI (e _ _ Z) bh)) ⟨sr,sr,trivial⟩ Tryz.call19 Z q)) Z (dL (c137) Z (dR 24 Z ?_)))))))))
     refine dE Z (nx 1 Z ?_)
     exact eX _ (oi h4).symm (gE Z Z)
    refine nx 3 Z (oE h4 ab.cells_eq Z Z Y λ hk127 h4=>nx 4 Z (fD [69,70] h4 Z (λ c128 h4=>?_) λ c128 h4=>?_))
    ·exact nx 9 Z (eX _ (oi h4).symm (gE Z Z))
    exact nx 2 Z (oE h4 ab.cells_eq Z Z Y λ hk129 h4=>nx 6 Z (eX _ (oi h4).symm (gE Z Z)))
   exact nx 2 Z (eXi _ (oi h3).symm (gE Z Z))
  refine fD (p:=k83 < (r6.length:Int)) [] h3 Z (λ c86 h3=>?_) λ c86 h3=>?_
  ·refine cc' h3 λ hk87 h3=>cc' h3 λ hk88 h3=>cc' h3 λ hk89 h3=>cc' h3 λ hk90 h3=>bd h3 λ r91 e92 h3=>mD [(0,.p (eL eS targets_0)),(1,.p (eL ae l_1)),(5,.p (eL ae r6)),(6,.p (eI k83)),(7,.p (eI i84))] Z ⟨Z,Z,Z,Z,Z,trivial⟩ Z (dR 2 Z (dq (.p (eI (r6.length:Int))) [32] Z (λ _ e _ q=>aj Z (ll (f:=ae) (l:=r6) Z Z Z Z Z (e _ _ Z) Z q)) Z (dL (dt c86) Z (dR 4 Z (dq (.p (eI (i84+1))) [35,38] Z (λ _ e _ q=>aQ (ee Z Z Z (e _ _ Z) Z Z hk87 q) Z Z (e _ _ Z) (rfl)) Z (dq (.p (eL ae (sub l_1 i84 (i84+1)))) [35,36,37,39] Z (λ _ e _ q=>aQ (vb (f:=ae) (l:=l_1) Z Z Z Z Z Z (e _ _ Z) Z (nE (e _ _ Z)) (nH (e _ _ Z)) hk88 (λ x=>congrArg List.length (ab.cells_eq x)) q) Z Z (e _ _ Z) (rfl)) Z (dR 3 Z (dq (.p (eI (k83+1))) [35,43] Z (λ _ e _ q=>aQ (ee Z Z Z (e _ _ Z) Z Z hk89 q) Z Z (e _ _ Z) (rfl)) Z (dq (.p (eL ae (sub r6 k83 (k83+1)))) [35,41,42,44] Z (λ _ e _ q=>aQ (vb (f:=ae) (l:=r6) Z Z Z Z Z Z (e _ _ Z) Z (nE (e _ _ Z)) (nH (e _ _ Z)) hk90 (λ x=>congrArg List.length (ab.cells_eq x)) q) Z Z (e _ _ Z) (rfl)) Z (dq (.p (eB r91)) [35,40,45] Z (λ _ e _ q=>aQ (bj (ol _ (sub l_1 i84 (i84+1)) (sub r6 k83 (k83+1)) _ e92) Z Z Z (aI (e _ _ Z) (aI (e _ _ Z) bh)) ⟨sr,sr,trivial⟩ Tryz.call22 Z q) Z Z (e _ _ Z) (rfl)) Z (dR 2 Z ?_)))))))))))
   refine dE Z (nx 1 Z ?_)
   exact eX _ (oi h3).symm (gE Z Z)
  exact mD [(0,.p (eL eS targets_0)),(1,.p (eL ae l_1)),(5,.p (eL ae r6)),(6,.p (eI k83)),(7,.p (eI i84))] Z ⟨Z,Z,Z,Z,Z,trivial⟩ Z (dR 2 Z (dq (.p (eI (r6.length:Int))) [32] Z (λ _ e _ q=>aj Z (ll (f:=ae) (l:=r6) Z Z Z Z Z (e _ _ Z) Z q)) Z (dL (df c86) Z (dR 14 Z (dE Z (nx 1 Z (eX _ (oi h3).symm (gE Z Z))))))))
 exact nx 2 Z (eXi _ (oi h1).symm (gE Z Z))
end Go.Ab.R06
end
