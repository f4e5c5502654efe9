/- Texts of the proof, one behind the other. No statement is proved here. -/
import Derived.Lib.IndexLaws
import Derived.Test.YtgdcfenbmcflkaaGreatDoorZ42Fa
import Derived.Test.YtgdcfenbmcflkaaGreatDoorZ42Fb
import Derived.Test.YtgdcfenbmcflkaaGreatDoorZ42Fc
import Derived.Test.YtgdcfenbmcflkaaGreatDoorZ42Fd
import Derived.Test.YtgdcfenbmcflkaaGreatDoorZ42Fe
set_option maxHeartbeats 4000000
section
namespace Go.Ab.R06
open Go.Proofs Go.Ab Go.Ab.RB
attribute [local irreducible] awp eC aW aA bN AV.sub M dY
def jH (n:Nat)(k_0:bT):Option Bool :=
 if k_0.fKind=1 then
  (
    if 0≤k_0.fNum then
     if k_0.fNum≤9007199254740992 then
      some (decide (k_0.fStr=([]:Bytes)))
     else
      some false
    else
     some false
   : Option Bool).bind λ t4 =>
  some t4
 else
  if k_0.fKind=2 then
   (
     if k_0.fNum=0 then
      (kM n k_0.fStr).bind λ r7 =>
      some r7
     else
      some false
    : Option Bool).bind λ t9 =>
   some t9
  else
   some (decide (k_0.fKind=0∧k_0.fNum=0∧k_0.fStr=([]:Bytes)))
theorem lw (n:Nat)(k_0:bT)(r:Bool)(h0:jH n k_0=some r):aA Tryz.prog 108 [.agg (bT.cs k_0)] (·=.p (eB r)):=by
 unfold jH at h0
 refine ba good Tryz.func108 Z Z Z λ w0=>mP (λ v:Bool=>.p (eB v)) ?_
 refine nx 12 Z (fD [5] h0 Z (λ c1 h0=>?_) λ c1 h0=>?_)
 ·refine nx 2 Z (bd h0 λ o12 h1 h0=>?_)
  refine kN o12 (λ v13=>⟨[(2,.p (eB v13))],[]⟩) ?_ ?_
  ·exact nx 2 Z (mQ (oi h0) Z (sr))
  refine nx 5 Z (fD [8,9] h1 Z (λ c2 h1=>?_) λ c2 h1=>?_)
  ·refine nx 5 Z (fD [12,13,14] h1 Z (λ c3 h1=>?_) λ c3 h1=>?_)
   ·exact nx 2 Z (oS Z Z (nx 3 Z (eX _ (oi h1).symm (gE Z Z))))
   exact nx 6 Z (eX _ (oi h1).symm (gE Z Z))
  exact nx 11 Z (eX _ (oi h1).symm (gE Z Z))
 refine nx 9 Z (fD [21] h0 Z (λ c5 h0=>?_) λ c5 h0=>?_)
 ·refine nx 2 Z (bd h0 λ o14 h1 h0=>?_)
  refine kN o14 (λ v15=>⟨[(2,.p (eB v15))],[]⟩) ?_ ?_
  ·exact nx 2 Z (mQ (oi h0) Z (sr))
  refine nx 5 Z (fD [24,25] h1 Z (λ c6 h1=>?_) λ c6 h1=>?_)
  ·exact nx 2 Z (bd h1 λ r7 e8 h1=>oK (tK _ k_0.fStr _ e8) Z ⟨sr,trivial⟩ Tryz.call132 Z (nx 3 Z (eX _ (oi h1).symm (gE Z Z))))
  exact nx 6 Z (eX _ (oi h1).symm (gE Z Z))
 exact nx 6 Z (mO Z (BF (k_0.fKind=0∧k_0.fNum=0∧k_0.fStr=([]:Bytes)) Z Z Z Z Z Z Z (by kernel_rfl) Z Z (.inl ⟨Z,Z⟩) (nx 3 Z (mQ (oi h0) Z (sr)))))
def fZ (n:Nat)(k_0:bT):Option Bytes :=
 (
   (jH n k_0).bind λ r1 =>
   if (!r1)=true then
    some true
   else
    some (decide (k_0.fKind=0))
  : Option Bool).bind λ t4 =>
 if t4=true then
  some ([]:Bytes)
 else
  if k_0.fKind=1 then
   (d4 n k_0.fNum).bind λ r7 =>
   ck (([91]:Bytes).length+r7.length≤9223372036854775807) <|
   ck ((([91]:Bytes)++r7).length+([93]:Bytes).length≤9223372036854775807) <|
   some ((([91]:Bytes)++r7)++([93]:Bytes))
  else
   (jI n k_0.fStr).bind λ r11 =>
   ck (([91]:Bytes).length+r11.length≤9223372036854775807) <|
   ck ((([91]:Bytes)++r11).length+([93]:Bytes).length≤9223372036854775807) <|
   some ((([91]:Bytes)++r11)++([93]:Bytes))
theorem l8 (n:Nat)(k_0:bT)(r:Bytes)(h0:fZ n k_0=some r):aA Tryz.prog 85 [.agg (bT.cs k_0)] (·=.p (eS r)):=by
 unfold fZ at h0
 refine ba good Tryz.func85 Z Z Z λ w0=>mP (λ v:Bytes=>.p (eS v)) ?_
 refine nx 7 Z (bd h0 λ o16 h1 h0=>?_)
 refine kN o16 (λ v17=>⟨[(1,.ptr 1 0),(10,.p (eB v17))],[(1,(bT.cs k_0).map .p)]⟩) ?_ ?_
 ·refine nx 1 Z (fB [10] h0 Z (λ c5 h0=>?_) λ c5 h0=>?_)
  ·exact nx 6 Z (mQ (oi h0) Z (sr))
  refine nx 9 Z (fD [13] h0 Z (λ c6 h0=>?_) λ c6 h0=>?_)
  ·exact nx 5 Z (bd h0 λ r7 e8 h0=>oK (tc _ k_0.fNum _ e8) Z ⟨sr,trivial⟩ Tryz.call109 Z (oC h0 Z λ hk9 h0=>oC h0 Z λ hk10 h0=>nx 3 Z (mQ (oi h0) Z (sr))))
  exact nx 6 Z (bd h0 λ r11 e12 h0=>oK (l5 _ k_0.fStr _ e12) Z ⟨sr,trivial⟩ Tryz.call110 Z (oC h0 Z λ hk13 h0=>oC h0 Z λ hk14 h0=>nx 3 Z (mQ (oi h0) Z (sr))))
 refine nx 2 Z (bd h1 λ r1 e2 h1=>oK (lw _ k_0 _ e2) Z ⟨sr,trivial⟩ Tryz.call108 Z (nx 2 Z ?_))
 refine fB [5,6] h1 Z (λ c3 h1=>?_) λ c3 h1=>?_
 ·exact nx 5 Z (eX _ (oi h1).symm (gE Z Z))
 exact nx 5 Z (eX _ (oi h1).symm (gE Z Z))
def gX (c_0:Int):Option Bool :=
 (
   if 97≤c_0 then
    if c_0≤122 then
     some true
    else
     if 65≤c_0 then
      if c_0≤90 then
       some true
      else
       some (decide (c_0=95))
     else
      some (decide (c_0=95))
   else
    if 65≤c_0 then
     if c_0≤90 then
      some true
     else
      some (decide (c_0=95))
    else
     some (decide (c_0=95))
  : Option Bool).bind λ t7 =>
 some t7
theorem li (c_0:Int)(r:Bool)(h0:gX c_0=some r):aA Tryz.prog 129 [eK .u8 c_0] (·=.p (eB r)):=by
 unfold gX at h0
 refine ba good Tryz.func129 Z Z Z λ w0=>mP (λ v:Bool=>.p (eB v)) ?_
 refine nx 5 Z (bd h0 λ o9 h1 h0=>?_)
 refine kN o9 (λ v10=>⟨[(2,.p (eB v10))],[]⟩) ?_ ?_
 ·exact nx 2 Z (mQ (oi h0) Z (sr))
 refine nx 4 Z (fD [4,5] h1 Z (λ c1 h1=>?_) λ c1 h1=>?_)
 ·refine nx 4 Z (fD [7,8,9] h1 Z (λ c2 h1=>?_) λ c2 h1=>?_)
  ·exact nx 13 Z (eX _ (oi h1).symm (gE Z Z))
  refine nx 3 Z (fD [11,12] h1 Z (λ c3 h1=>?_) λ c3 h1=>?_)
  ·refine nx 5 Z (fD [14,15,16,17] h1 Z (λ c4 h1=>?_) λ c4 h1=>?_)
   ·exact nx 5 Z (eX _ (oi h1).symm (gE Z Z))
   exact nx 5 Z (eX _ (oi h1).symm (gE Z Z))
  exact nx 10 Z (eX _ (oi h1).symm (gE Z Z))
 refine nx 7 Z (fD [11,12] h1 Z (λ c5 h1=>?_) λ c5 h1=>?_)
 ·refine nx 5 Z (fD [14,15,16,17] h1 Z (λ c6 h1=>?_) λ c6 h1=>?_)
  ·exact nx 5 Z (eX _ (oi h1).symm (gE Z Z))
  exact nx 5 Z (eX _ (oi h1).symm (gE Z Z))
 exact nx 10 Z (eX _ (oi h1).symm (gE Z Z))
def cZ (s_0:Bytes):Nat→Int→Option (Unit⊕Bool)
 | 0,_=>none
 | m+1,i20 =>
 if i20 < (s_0.length:Int) then
  (
    ck ((0:Int)≤i20∧i20 < (s_0.length:Int)) <|
    (gX (byt s_0 i20)).bind λ r23 =>
    if (!r23)=true then
     ck ((0:Int)≤i20∧i20 < (s_0.length:Int)) <|
     if byt s_0 i20 < 48 then
      some true
     else
      ck ((0:Int)≤i20∧i20 < (s_0.length:Int)) <|
      some (decide (57 < byt s_0 i20))
    else
     some false
   : Option Bool).bind λ t29 =>
  if t29=true then
   some (.inr false)
  else
   ck (inR (i20+1)) <|
   cZ s_0 m (i20+1)
 else
  some (.inl ())
def cY (n:Nat)(s_0:Bytes):Option Bool :=
 (
   if s_0=([]:Bytes) then
    some true
   else
    if 64 < (s_0.length:Int) then
     some true
    else
     ck ((0:Int)≤0∧0 < (s_0.length:Int)) <|
     (gX (byt s_0 0)).bind λ r4 =>
     some (!r4)
  : Option Bool).bind λ t6 =>
 if t6=true then
  some false
 else
  jn (cZ s_0 n 0) λ q34 =>
  some true
theorem em (n:Nat)(s_0:Bytes)(r:Bool)(h0:cY n s_0=some r):aA Tryz.prog 105 [eS s_0] (·=.p (eB r)):=by
 unfold cY at h0
 refine ba good Tryz.func105 Z Z Z λ w0=>mP (λ v:Bool=>.p (eB v)) ?_
 refine nx 6 Z (bd h0 λ o36 h1 h0=>?_)
 refine kN o36 (λ v37=>⟨[(0,.p (eS s_0)),(16,.p (eB v37))],[]⟩) ?_ ?_
 ·refine nx 1 Z (fB [16] h0 Z (λ c7 h0=>?_) λ c7 h0=>?_)
  ·exact nx 6 Z (mQ (oi h0) Z (sr))
  refine nx 8 Z ?_
  obtain ⟨o38,h1,hL0,hR0⟩:=fx h0
  refine kEx 0 (λ v39:Unit=>o38=.inl v39) (λ v39=>⟨[],[]⟩) (λ v39 hv=>?_) ?_
  ·have h0:=hL0 _ hv
   exact nx 6 Z (mQ (oi h0) Z (sr))
  refine lG (λ (q40:Int)=>⟨[(0,.p (eS s_0)),(3,.p (eI q40))],[]⟩) (λ m (q40:Int)=>cZ s_0 m q40) Y 0 h1 (gE Z Z) ?_
  rintro m i20 h1
  replace h1:cZ s_0 (m+1) i20=some o38:=h1
  rw [cZ] at h1
  refine nx 5 Z (oLs Z (nx 2 Z (fD [20] h1 Z (λ c21 h1=>?_) λ c21 h1=>?_)))
  ·refine nx 5 Z (bd h1 λ o41 h2 h1=>?_)
   refine kN o41 (λ v42=>⟨[(0,.p (eS s_0)),(3,.p (eI i20)),(39,.p (eB v42))],[]⟩) ?_ ?_
   ·refine nx 1 Z (fB [39] h1 Z (λ c30 h1=>?_) λ c30 h1=>?_)
    ·exact nx 6 Z (mQ (hR0 _ (oi h1).symm) Z (sr))
    exact nx 4 Z (oA h1 Z Z λ hk31 h1=>nx 2 Z (eX (i20+1) h1 (gE Z Z)))
   refine nx 3 Z (oI h2 Z λ hk22 h2=>bd h2 λ r23 e24 h2=>oK (li (byt s_0 i20) _ e24) Z ⟨sr,trivial⟩ Tryz.call129 Z (nx 2 Z ?_))
   refine fB [27,28] h2 Z (λ c25 h2=>?_) λ c25 h2=>?_
   ·refine nx 2 Z (oI h2 Z λ hk26 h2=>nx 2 Z (fD [32,33] h2 Z (λ c27 h2=>?_) λ c27 h2=>?_))
    ·exact nx 7 Z (eX _ (oi h2).symm (gE Z Z))
    exact nx 2 Z (oI h2 Z λ hk28 h2=>nx 4 Z (eX _ (oi h2).symm (gE Z Z)))
   exact nx 12 Z (eX _ (oi h2).symm (gE Z Z))
  exact nx 2 Z (eXi _ (oi h1).symm (gE Z Z))
 refine nx 2 Z (oS Z Z (nx 1 Z (fD [5,6] h1 Z (λ c1 h1=>?_) λ c1 h1=>?_)))
 ·exact nx 11 Z (eX _ (oi h1).symm (gE Z Z))
 refine nx 1 Z (oLs Z (nx 3 Z (fD [9,10,11] h1 Z (λ c2 h1=>?_) λ c2 h1=>?_)))
 ·exact nx 6 Z (eX _ (oi h1).symm (gE Z Z))
 exact nx 1 Z (oI h1 Z λ hk3 h1=>bd h1 λ r4 e5 h1=>oK (li (byt s_0 0) _ e5) Z ⟨sr,trivial⟩ Tryz.call129 Z (nx 3 Z (eX _ (oi h1).symm (gE Z Z))))
def dk (s_0:Bytes):Nat→Int→Option (Unit⊕Bool)
 | 0,_=>none
 | m+1,i6 =>
 if i6 < (([([109,111,100,117,108,101]:Bytes),([100,97,116,97]:Bytes),([118,97,114]:Bytes),([108,111,99,97,108]:Bytes),([111,117,116,112,117,116]:Bytes),([101,97,99,104]:Bytes),([99,111,117,110,116]:Bytes),([114,101,109,111,116,101]:Bytes),([112,97,116,104]:Bytes),([115,101,108,102]:Bytes),([99,104,97,110,103,101]:Bytes)]).length:Int) then
  ck ((0:Int)≤i6∧i6 < (([([109,111,100,117,108,101]:Bytes),([100,97,116,97]:Bytes),([118,97,114]:Bytes),([108,111,99,97,108]:Bytes),([111,117,116,112,117,116]:Bytes),([101,97,99,104]:Bytes),([99,111,117,110,116]:Bytes),([114,101,109,111,116,101]:Bytes),([112,97,116,104]:Bytes),([115,101,108,102]:Bytes),([99,104,97,110,103,101]:Bytes)]).length:Int)) <|
  if lat ([([109,111,100,117,108,101]:Bytes),([100,97,116,97]:Bytes),([118,97,114]:Bytes),([108,111,99,97,108]:Bytes),([111,117,116,112,117,116]:Bytes),([101,97,99,104]:Bytes),([99,111,117,110,116]:Bytes),([114,101,109,111,116,101]:Bytes),([112,97,116,104]:Bytes),([115,101,108,102]:Bytes),([99,104,97,110,103,101]:Bytes)]) i6=s_0 then
   some (.inr true)
  else
   ck (inR (i6+1)) <|
   dk s_0 m (i6+1)
 else
  some (.inl ())
def gO (n:Nat)(s_0:Bytes):Option Bool :=
 jn (dk s_0 n 0) λ q12 =>
 some false
theorem mt (n:Nat)(s_0:Bytes)(r:Bool)(h0:gO n s_0=some r):aA Tryz.prog 106 [eS s_0] (·=.p (eB r)):=by
 unfold gO at h0
 refine ba good Tryz.func106 Z Z Z λ w0=>mP (λ v:Bool=>.p (eB v)) ?_
 refine nx 6 Z (mO Z (bs eS [([109,111,100,117,108,101]:Bytes),([100,97,116,97]:Bytes),([118,97,114]:Bytes),([108,111,99,97,108]:Bytes),([111,117,116,112,117,116]:Bytes),([101,97,99,104]:Bytes),([99,111,117,110,116]:Bytes),([114,101,109,111,116,101]:Bytes),([112,97,116,104]:Bytes),([115,101,108,102]:Bytes),([99,104,97,110,103,101]:Bytes)] Z Z Z Z Z Z Z Z Z Z Z Z Z Z (nx 8 Z ?_)))
 obtain ⟨o13,h1,hL0,hR0⟩:=fx h0
 refine kEx 0 (λ v14:Unit=>o13=.inl v14) (λ v14=>⟨[],[]⟩) (λ v14 hv=>?_) ?_
 ·have h0:=hL0 _ hv
  exact nx 6 Z (mQ (oi h0) Z (sr))
 refine lG (λ (q15:Int)=>⟨[(0,.p (eS s_0)),(3,.p (eL eS ([([109,111,100,117,108,101]:Bytes),([100,97,116,97]:Bytes),([118,97,114]:Bytes),([108,111,99,97,108]:Bytes),([111,117,116,112,117,116]:Bytes),([101,97,99,104]:Bytes),([99,111,117,110,116]:Bytes),([114,101,109,111,116,101]:Bytes),([112,97,116,104]:Bytes),([115,101,108,102]:Bytes),([99,104,97,110,103,101]:Bytes)]))),(4,.p (eI q15))],[]⟩) (λ m (q15:Int)=>dk s_0 m q15) Y 0 h1 (gE Z Z) ?_
 rintro m i6 h1
 replace h1:dk s_0 (m+1) i6=some o13:=h1
 rw [dk] at h1
 refine nx 5 Z (oLl (f:=eS) Z Z (nx 2 Z (fD [9] h1 Z (λ c7 h1=>?_) λ c7 h1=>?_)))
 ·refine nx 8 Z (oE h1 Y Z Z Y λ hk8 h1=>nx 2 Z (oS Z Z (nx 1 Z (fD [17] h1 Z (λ c9 h1=>?_) λ c9 h1=>?_))))
  ·exact nx 6 Z (mQ (hR0 _ (oi h1).symm) Z (sr))
  exact nx 4 Z (oA h1 Z Z λ hk10 h1=>nx 2 Z (eX (i6+1) h1 (gE Z Z)))
 exact nx 2 Z (eXi _ (oi h1).symm (gE Z Z))
def eV (n:Nat)(a_0:al):Nat→Int→Option (Unit⊕Int)
 | 0,_=>none
 | m+1,i13 =>
 if i13 < (a_0.fModule.length:Int) then
  ck ((0:Int)≤i13∧i13 < (a_0.fModule.length:Int)) <|
  (cY n ((lat a_0.fModule i13).fName)).bind λ r16 =>
  if (!r16)=true then
   some (.inr 7)
  else
   ck ((0:Int)≤i13∧i13 < (a_0.fModule.length:Int)) <|
   (jH n ((lat a_0.fModule i13).fKey)).bind λ r20 =>
   if (!r20)=true then
    some (.inr 1)
   else
    ck (inR (i13+1)) <|
    eV n a_0 m (i13+1)
 else
  some (.inl ())
def kP (n:Nat)(a_0:al):Option Int :=
 if 16 < (a_0.fModule.length:Int) then
  some 4
 else
  jn (eV n a_0 n 0) λ q38 =>
  (
    (cY n a_0.fType).bind λ r25 =>
    if (!r25)=true then
     some true
    else
     (gO n a_0.fType).bind λ r28 =>
     if r28=true then
      some true
     else
      (cY n a_0.fName).bind λ r31 =>
      some (!r31)
   : Option Bool).bind λ t33 =>
  if t33=true then
   some 7
  else
   (jH n a_0.fKey).bind λ r35 =>
   if (!r35)=true then
    some 1
   else
    some 0
theorem uS (n:Nat)(a_0:al)(r:Int)(h0:kP n a_0=some r):aA Tryz.prog 83 [.agg (al.cs a_0)] (·=.p (eI r)):=by
 unfold kP at h0
 refine ba good Tryz.func83 Z Z Z λ w0=>mP (λ v:Int=>.p (eI v)) ?_
 refine nx 10 Z (oLl (f:=ag) Z Z (nx 2 Z (fD [7] h0 Z (λ c1 h0=>?_) λ c1 h0=>?_)))
 ·exact nx 6 Z (mQ (oi h0) Z (sr))
 refine nx 8 Z ?_
 obtain ⟨o40,h1,hL0,hR0⟩:=fx h0
 refine kEx 0 (λ v41:Unit=>o40=.inl v41) (λ v41=>⟨[(1,.ptr 1 0)],[(1,(al.cs a_0).map .p)]⟩) (λ v41 hv=>?_) ?_
 ·have h0:=hL0 _ hv
  refine nx 3 Z (bd h0 λ o42 h1 h0=>?_)
  refine kN o42 (λ v43=>⟨[(1,.ptr 1 0),(45,.p (eB v43))],[(1,(al.cs a_0).map .p)]⟩) ?_ ?_
  ·refine nx 1 Z (fB [45] h0 Z (λ c34 h0=>?_) λ c34 h0=>?_)
   ·exact nx 6 Z (mQ (oi h0) Z (sr))
   refine nx 7 Z (bd h0 λ r35 e36 h0=>oK (lw _ a_0.fKey _ e36) Z ⟨sr,trivial⟩ Tryz.call108 Z (nx 2 Z ?_))
   refine fB [49] h0 Z (λ c37 h0=>?_) λ c37 h0=>?_
   ·exact nx 6 Z (mQ (oi h0) Z (sr))
   exact nx 7 Z (mQ (oi h0) Z (sr))
  refine nx 3 Z (bd h1 λ r25 e26 h1=>oK (em _ a_0.fType _ e26) Z ⟨sr,trivial⟩ Tryz.call105 Z (nx 2 Z ?_))
  refine fB [34,35] h1 Z (λ c27 h1=>?_) λ c27 h1=>?_
  ·exact nx 11 Z (eX _ (oi h1).symm (gE Z Z))
  refine nx 2 Z (bd h1 λ r28 e29 h1=>oK (mt _ a_0.fType _ e29) Z ⟨sr,trivial⟩ Tryz.call106 Z (nx 2 Z ?_))
  refine fB [38,39,40] h1 Z (λ c30 h1=>?_) λ c30 h1=>?_
  ·exact nx 6 Z (eX _ (oi h1).symm (gE Z Z))
  exact nx 2 Z (bd h1 λ r31 e32 h1=>oK (em _ a_0.fName _ e32) Z ⟨sr,trivial⟩ Tryz.call105 Z (nx 3 Z (eX _ (oi h1).symm (gE Z Z))))
 refine lG (λ (q44:Int)=>⟨[(1,.ptr 1 0),(3,.p (eI q44))],[(1,(al.cs a_0).map .p)]⟩) (λ m (q44:Int)=>eV n a_0 m q44) Y 0 h1 (gE Z Z) ?_
 rintro m i13 h1
 replace h1:eV n a_0 (m+1) i13=some o40:=h1
 rw [eV] at h1
 refine nx 6 Z (oLl (f:=ag) Z Z (nx 2 Z (fD [12] h1 Z (λ c14 h1=>?_) λ c14 h1=>?_)))
 ·refine nx 10 Z (oE h1 ac.cells_eq Z Z Y λ hk15 h1=>nx 2 Z (bd h1 λ r16 e17 h1=>oK (em _ ((lat a_0.fModule i13).fName) _ e17) Z ⟨sr,trivial⟩ Tryz.call105 Z (nx 2 Z ?_)))
  refine fB [22] h1 Z (λ c18 h1=>?_) λ c18 h1=>?_
  ·exact nx 6 Z (mQ (hR0 _ (oi h1).symm) Z (sr))
  refine nx 7 Z (oE h1 ac.cells_eq Z Z Y λ hk19 h1=>nx 2 Z (bd h1 λ r20 e21 h1=>oK (lw _ ((lat a_0.fModule i13).fKey) _ e21) Z ⟨sr,trivial⟩ Tryz.call108 Z (nx 2 Z ?_)))
  refine fB [30] h1 Z (λ c22 h1=>?_) λ c22 h1=>?_
  ·exact nx 6 Z (mQ (hR0 _ (oi h1).symm) Z (sr))
  exact nx 4 Z (oA h1 Z Z λ hk23 h1=>nx 2 Z (eX (i13+1) h1 (gE Z Z)))
 exact nx 2 Z (eXi _ (oi h1).symm (gE Z Z))
def fh (n:Nat)(l_0:List ac):Nat→Bytes→Int→Option Bytes
 | 0,_,_=>none
 | m+1,s13,i14 =>
 if i14 < (l_0.length:Int) then
  ck (s13.length+([109,111,100,117,108,101,46]:Bytes).length≤9223372036854775807) <|
  ck ((0:Int)≤i14∧i14 < (l_0.length:Int)) <|
  ck ((s13++([109,111,100,117,108,101,46]:Bytes)).length+((lat l_0 i14).fName).length≤9223372036854775807) <|
  ck ((0:Int)≤i14∧i14 < (l_0.length:Int)) <|
  (fZ n ((lat l_0 i14).fKey)).bind λ r20 =>
  ck (((s13++([109,111,100,117,108,101,46]:Bytes))++((lat l_0 i14).fName)).length+r20.length≤9223372036854775807) <|
  ck ((((s13++([109,111,100,117,108,101,46]:Bytes))++((lat l_0 i14).fName))++r20).length+([46]:Bytes).length≤9223372036854775807) <|
  ck (inR (i14+1)) <|
  fh n l_0 m ((((s13++([109,111,100,117,108,101,46]:Bytes))++((lat l_0 i14).fName))++r20)++([46]:Bytes)) (i14+1)
 else
  some s13
def mh (n:Nat)(l_0:List ac):Option Bytes :=
 (fh n l_0 n ([]:Bytes) 0).bind λ s27 =>
 some s27
theorem tM (n:Nat)(l_0:List ac)(r:Bytes)(h0:mh n l_0=some r):aA Tryz.prog 84 [eL ag l_0] (·=.p (eS r)):=by
 unfold mh at h0
 refine ba good Tryz.func84 Z Z Z λ w0=>mP (λ v:Bytes=>.p (eS v)) ?_
 refine nx 14 Z (bd h0 λ o29 h1 h0=>?_)
 refine kE 0 o29 (λ v30=>⟨[(3,.p (eS v30))],[]⟩) ?_ ?_
 ·exact nx 7 Z (mQ (oi h0) Z (sr))
 refine lG (λ (q31:Bytes×Int)=>⟨[(0,.p (eL ag l_0)),(3,.p (eS q31.1)),(4,.p (eI q31.2))],[]⟩) (λ m (q31:Bytes×Int)=>fh n l_0 m q31.1 q31.2) Y (([]:Bytes),0) h1 (gE Z Z) ?_
 rintro m ⟨s13,i14⟩ h1
 replace h1:fh n l_0 (m+1) s13 i14=some o29:=h1
 rw [fh] at h1
 refine nx 5 Z (oLl (f:=ag) Z Z (nx 2 Z (fD [8] h1 Z (λ c15 h1=>?_) λ c15 h1=>?_)))
 ·refine nx 4 Z (cc' h1 λ hk16 h1=>cc' h1 λ hk17 h1=>cc' h1 λ hk18 h1=>cc' h1 λ hk19 h1=>bd h1 λ r20 e21 h1=>cc' h1 λ hk22 h1=>cc' h1 λ hk23 h1=>mG (gE (t:=⟨[(0,.p (eL ag l_0)),(3,.p (eS s13)),(4,.p (eI i14))],[]⟩) Z Z) (mSq ⟨1,[16],(λ _=>.none),(by2 [(0,.p (eL ag l_0)),(3,.p (eS s13)),(4,.p (eI i14))] [(0,.p (eL ag l_0)),(4,.p (eI i14))]),(λ _=>[])⟩ Z (dPc (.p (eS s13)) Z (bE (λ _=>.p (eS (s13++([109,111,100,117,108,101,46]:Bytes)))) Z Z Z (ic Z Y) (lt1 Z) (bv Z (bb [(11,_)] ⟨.inr ⟨0,_,Z,Z,Z⟩,trivial⟩ (λ sl hsl K hK=>av Z (bu Z Z Z (hsl _ _ Z) Z hk16 hK)) bC)) (dPc (.p (eL ag l_0)) Z (dPc (.p (eI i14)) Z ?_))))))
  refine bE (λ _=>.rptr (ac.cs (lat l_0 i14))) Z Z Z (ic Z Y) (lt1 Z) (bv Z (bb [(13,_),(14,_)] ⟨.inr ⟨2,_,Z,Z,Z⟩,.inr ⟨3,_,Z,Z,Z⟩,trivial⟩ (λ sl hsl K hK=>av Z (ek (f:=ag) (l:=l_0) ac.cs Z Z Z Z Z Z (hsl _ _ Z) Z (hsl _ _ Z) hk17 ac.cells_eq Y hK)) bC)) (dPc (.rptr (List.drop 0 (ac.cs (lat l_0 i14)))) Z ?_)
  refine dPc (.p (eS ((lat l_0 i14).fName))) Z (bE (λ _=>.p (eS ((s13++([109,111,100,117,108,101,46]:Bytes))++((lat l_0 i14).fName)))) Z Z Z (ic Z Y) (lt1 Z) (bv Z (bb [(12,_),(17,_)] ⟨.inr ⟨1,_,Z,Z,Z⟩,.inr ⟨6,_,Z,Z,Z⟩,trivial⟩ (λ sl hsl K hK=>av Z (bu Z Z Z (hsl _ _ Z) (hsl _ _ Z) hk18 hK)) bC)) (dPc (.p (eL ag l_0)) Z (dPc (.p (eI i14)) Z ?_)))
  refine bE (λ _=>.rptr (ac.cs (lat l_0 i14))) Z Z Z (ic Z Y) (lt1 Z) (bv Z (bb [(19,_),(20,_)] ⟨.inr ⟨8,_,Z,Z,Z⟩,.inr ⟨9,_,Z,Z,Z⟩,trivial⟩ (λ sl hsl K hK=>av Z (ek (f:=ag) (l:=l_0) ac.cs Z Z Z Z Z Z (hsl _ _ Z) Z (hsl _ _ Z) hk19 ac.cells_eq Y hK)) bC)) (dPc (.rptr (List.drop 1 (ac.cs (lat l_0 i14)))) Z ?_)
  refine dPc (.p (.agg (bT.cs ((lat l_0 i14).fKey)))) Z (bE (λ _=>.p (eS r20)) Z Z Z (ic Z Y) (lt1 Z) (bv Z (bb [(23,_)] ⟨.inr ⟨12,_,Z,Z,Z⟩,trivial⟩ (λ sl hsl K hK=>av Z (bw (l8 _ ((lat l_0 i14).fKey) _ e21) Z Z Z (aO (hsl _ _ Z) bA) ⟨sr,trivial⟩ Tryz.call85 Z hK)) bC)) ?_)
  refine bE (λ _=>.p (eS (((s13++([109,111,100,117,108,101,46]:Bytes))++((lat l_0 i14).fName))++r20))) Z Z Z (ic Z Y) (lt1 Z) (bv Z (bb [(18,_),(24,_)] ⟨.inr ⟨7,_,Z,Z,Z⟩,.inr ⟨13,_,Z,Z,Z⟩,trivial⟩ (λ sl hsl K hK=>av Z (bu Z Z Z (hsl _ _ Z) (hsl _ _ Z) hk22 hK)) bC)) (bE (λ _=>.p (eS ((((s13++([109,111,100,117,108,101,46]:Bytes))++((lat l_0 i14).fName))++r20)++([46]:Bytes)))) Z Z Z (ic Z Y) (lt1 Z) (bv Z (bb [(25,_)] ⟨.inr ⟨14,_,Z,Z,Z⟩,trivial⟩ (λ sl hsl K hK=>av Z (bu Z Z Z (hsl _ _ Z) Z hk23 hK)) bC)) ?_)
  refine g5 (λ _=>.p (eS ((((s13++([109,111,100,117,108,101,46]:Bytes))++((lat l_0 i14).fName))++r20)++([46]:Bytes)))) [(26,_)] Z ⟨.inr ⟨15,_,Z,Z,Z⟩,trivial⟩ Z Z Y (lt1 (λ h=>absurd h (by decide))) (λ sl hsl K hK=>av Z (bp Z Z Z (hsl _ _ Z) hK)) (iS ?_)
  exact nx 3 Z (oA h1 Z Z λ hk24 h1=>nx 2 Z (eX ((((s13++([109,111,100,117,108,101,46]:Bytes))++((lat l_0 i14).fName))++r20)++([46]:Bytes),i14+1) h1 (gE Z Z)))
 exact nx 2 Z (eXi _ (oi h1).symm (gE Z Z))
def jX (n:Nat)(a_0:al):Option Bytes :=
 (kP n a_0).bind λ r1 =>
 if r1=0 then
  (mh n a_0.fModule).bind λ r4 =>
  (
    if a_0.fData=true then
     ck (r4.length+([100,97,116,97,46]:Bytes).length≤9223372036854775807) <|
     some (r4++([100,97,116,97,46]:Bytes))
    else
     some r4
   : Option Bytes).bind λ s8 =>
  ck (s8.length+a_0.fType.length≤9223372036854775807) <|
  ck ((s8++a_0.fType).length+([46]:Bytes).length≤9223372036854775807) <|
  ck (((s8++a_0.fType)++([46]:Bytes)).length+a_0.fName.length≤9223372036854775807) <|
  (fZ n a_0.fKey).bind λ r12 =>
  ck ((((s8++a_0.fType)++([46]:Bytes))++a_0.fName).length+r12.length≤9223372036854775807) <|
  some ((((s8++a_0.fType)++([46]:Bytes))++a_0.fName)++r12)
 else
  some ([]:Bytes)
theorem sX (n:Nat)(a_0:al)(r:Bytes)(h0:jX n a_0=some r):aA Tryz.prog 54 [.agg (al.cs a_0)] (·=.p (eS r)):=by
 unfold jX at h0
 refine ba good Tryz.func54 Z Z Z λ w0=>mP (λ v:Bytes=>.p (eS v)) ?_
 refine nx 9 Z (bd h0 λ r1 e2 h0=>oK (uS _ a_0 _ e2) Z ⟨sr,trivial⟩ Tryz.call83 Z (nx 2 Z ?_))
 refine fN [6] h0 Z (λ c3 h0=>?_) λ c3 h0=>?_
 ·refine nx 6 Z (bd h0 λ r4 e5 h0=>oK (tM _ a_0.fModule _ e5) Z ⟨sr,trivial⟩ Tryz.call84 Z (nx 3 Z (bd h0 λ o16 h1 h0=>kN o16 (λ v17=>⟨[(1,.ptr 1 0),(3,.p (eS v17))],[(1,(al.cs a_0).map .p)]⟩) ?_ ?_)))
  ·refine nx 2 Z (cc' h0 λ hk9 h0=>cc' h0 λ hk10 h0=>cc' h0 λ hk11 h0=>bd h0 λ r12 e13 h0=>cc' h0 λ hk14 h0=>mD [(1,.ptr 1 0),(3,.p (eS o16))] Z ⟨Z,Z,trivial⟩ Z (dR 3 Z (dq (.p (eS (o16++a_0.fType))) [14,16] Z (λ _ e _ q=>av Z (bu Z Z Z (e _ _ Z) (e _ _ Z) hk9 q)) Z (dq (.p (eS ((o16++a_0.fType)++([46]:Bytes)))) [17] Z (λ _ e _ q=>av Z (bu Z Z Z (e _ _ Z) Z hk10 q)) Z (dR 2 Z (dq (.p (eS (((o16++a_0.fType)++([46]:Bytes))++a_0.fName))) [18,20] Z (λ _ e _ q=>av Z (bu Z Z Z (e _ _ Z) (e _ _ Z) hk11 q)) Z (dR 2 Z (dq (.p (eS r12)) [23] Z (λ _ e _ q=>av Z (bw (l8 _ a_0.fKey _ e13) Z Z Z (aO (e _ _ Z) bA) ⟨sr,trivial⟩ Tryz.call85 Z q)) Z (dq (.p (eS ((((o16++a_0.fType)++([46]:Bytes))++a_0.fName)++r12))) [21,24] Z (λ _ e _ q=>av Z (bu Z Z Z (e _ _ Z) (e _ _ Z) hk14 q)) Z (dR 1 Z ?_))))))))))
   refine dE Z (nx 2 Z ?_)
   exact mQ (oi h0) Z (sr)
  refine nx 5 Z (fB [11] h1 Z (λ c6 h1=>?_) λ c6 h1=>?_)
  ·exact nx 3 Z (oC h1 Z λ hk7 h1=>nx 2 Z (eX _ (oi h1).symm (gE Z Z)))
  exact nx 2 Z (eX _ (oi h1).symm (gE Z Z))
 exact nx 6 Z (mQ (oi h0) Z (sr))
end Go.Ab.R06
end
section
namespace Go.Ab.R06
open Go.Ab Go.Ab.RB
theorem Cn (s:Bytes)(hs:s.length≤1000000000):∀ (k i:Nat),i+k=s.length→Ev2 (λ _ m=>bR s m (i:Int)) (·=if mA (xE s) i k then .inl () else .inr false):=by
 intro k
 induction k with
 | zero =>
  intro i hi
  refine aF ?_
  simp only [bR]
  refine ap O (aa Z)
 | succ k ih =>
  intro i hi
  refine aF ?_
  simp only [bR]
  refine ao O (af O ?_)
  have hb:byt s i=((s.getD i 0).toNat:Int):=dh s i
  rw [hb]
  have hor:=Fe (s.getD i 0)
  have hok:=lZ s i
  rw [qu,jc] at hok
  refine au (!xE s i) ?_ ?_
  ·generalize s.getD i 0=b at hor hok ⊢
   generalize xE s i=o at hok ⊢
   generalize iOr .u8 ((b.toNat:Nat):Int) 32=v at hor ⊢
   have hT:(pQ b=true)→o=true:=λ h=>hok.2 (.inl ((qu b).1 h))
   have mk:∀ x:Bool,(x=true↔¬ (((97≤b.toNat∧b.toNat≤122)∨(65≤b.toNat∧b.toNat≤90)∨b.toNat=95)∨(i≠0∧48≤b.toNat∧b.toNat≤57)))→x=!o:=λ x hx=>eqB (by rw [hx,← hok]; simp)
   refine af O (aB (λ h=>aa (mk _ ?_)) (λ h=>aB (λ h1=>?_) (λ h1=>aB (λ h2=>?_) (λ h2=>aa (mk _ ?_)))))
   ·simp; omega
   ·refine aB (λ h3=>aa (mk _ ?_)) (λ h3=>af O (aB (λ h4=>aa (mk _ ?_)) (λ h4=>af O (aa (mk _ ?_)))))
    ·simp; omega
    ·simp; omega
    ·rw [decide_eq_true_eq]; omega
   ·refine aB (λ h3=>aa (mk _ ?_)) (λ h3=>af O (aB (λ h4=>aa (mk _ ?_)) (λ h4=>af O (aa (mk _ ?_)))))
    ·simp; omega
    ·simp; omega
    ·rw [decide_eq_true_eq]; omega
   ·simp; omega
  ·cases hk:xE s i with
   | false=>exact ao G (aa (by simp [mA,hk]))
   | true =>
    refine ap G (af (aS O O) ?_)
    have:=ih (i+1) O
    rw [Int.natCast_add,Int.natCast_one] at this
    simpa [mA,hk] using this
theorem qD (s:Bytes)(hs:s.length≤1000000000):Ev2 (λ n _=>cm n s) (·=bZ s):=by
 simp only [cm]
 have h:=Cn s hs s.length 0 O
 have hi:=p7 s
 cases ha:mA (xE s) 0 s.length with
 | false =>
  rw [ha] at h hi
  refine gw false (aY h) (eqB ?_)
  rw [hi]; simp
 | true =>
  rw [ha] at h hi
  refine gH () (aY h) ?_
  refine gZ (·=bZ s) (aB (λ h=>aa (eqB ?_)) (λ h=>aa (eqB ?_))) (λ t ht=>aa ht)
  ·rw [hi]; simp [h]
  ·rw [hi,decide_eq_true_eq]; simp [h]; omega
theorem wV (b:UInt8):gX (b.toNat:Int)=some (pQ b):=by
 simp only [gX]
 have h:=qu b
 generalize pQ b=o at h ⊢
 have mk:∀ x:Bool,(x=true↔(97≤b.toNat∧b.toNat≤122)∨(65≤b.toNat∧b.toNat≤90)∨b.toNat=95)→some x=some o:=λ x hx=>congrArg some (eqB (by rw [hx,h]))
 repeat' split
 all_goals (simp only [Option.bind_some]; apply mk; first | (rw [decide_eq_true_eq]; omega) | (simp; omega))
theorem Ai (s:Bytes)(hs:s.length≤1000000000):∀ (k i:Nat),i+k=s.length→Ev2 (λ _ m=>cZ s m (i:Int)) (·=if mA (λ j=>idB (s.getD j 0)) i k then .inl () else .inr false):=by
 intro k
 induction k with
 | zero =>
  intro i hi
  refine aF ?_
  simp only [cZ]
  refine ap O (aa Z)
 | succ k ih =>
  intro i hi
  refine aF ?_
  simp only [cZ]
  refine ao O ?_
  have hb:byt s i=((s.getD i 0).toNat:Int):=dh s i
  rw [hb]
  refine au (!idB (s.getD i 0)) ?_ ?_
  ·refine af O (au _ (aU (wV _) Z) ?_)
   have h:=jc (s.getD i 0)
   simp only [idB]
   generalize s.getD i 0=b at h ⊢
   cases hl:pQ b with
   | true=>exact ap G (aa G)
   | false =>
    refine ao G (af O (aB (λ h1=>aa ?_) (λ h1=>af O (aa ?_))))
    ·have:dI b=false:=by rw [← Bool.not_eq_true,h]; omega
     simp [this]
    ·refine eqB ?_
     rw [decide_eq_true_eq,Bool.false_or,Bool.not_eq_true',← Bool.not_eq_true,h]
     omega
  ·cases hk:idB (s.getD i 0) with
   | false=>exact ao Z (aa (by simp only [mA,hk,Bool.false_and]; rfl))
   | true =>
    refine ap G (af (aS O O) ?_)
    have:=ih (i+1) O
    rw [Int.natCast_add,Int.natCast_one] at this
    simp only [mA,hk,Bool.true_and]
    exact this
theorem lC (s:Bytes)(hs:s.length≤1000000000):Ev2 (λ n _=>cY n s) (·=bZ s):=by
 simp only [cY]
 have hi:=sD s
 refine au (decide (s=[])||decide (64 < (s.length:Int))||!pQ (s.getD 0 0)) ?_ ?_
 ·refine aB (λ h=>aa (by simp [h])) (λ h=>aB (λ h1=>aa (by simp [h1])) (λ h1=>af ?_ ?_))
  ·have:=List.length_pos_iff.2 h; omega
  ·refine au (pQ (s.getD 0 0)) (aU (wV _) Z) (aa ?_)
   have:decide (64 < (s.length:Int))=false:=decide_eq_false h1
   simp [h,this]
 ·refine aB (λ h=>aa (eqB ?_)) (λ h=>?_)
  ·rw [hi]; simp at h ⊢; intro q1 q2 q3
   rcases h with (h | h) | h
   ·exact absurd h q1
   ·omega
   ·rw [h] at q3; cases q3
  ·have l:=Ai s hs s.length 0 O
   simp only [Bool.or_eq_true,decide_eq_true_eq,not_or] at h
   obtain ⟨⟨h1,h2⟩,h3⟩:=h
   have h3:pQ (s.getD 0 0)=true:=by simpa using h3
   cases ha:mA (λ j=>idB (s.getD j 0)) 0 s.length with
   | false =>
    rw [ha] at l hi
    refine gw false (aY l) (eqB ?_)
    rw [hi]; simp
   | true =>
    rw [ha] at l hi
    refine gH () (aY l) (aa (eqB ?_))
    rw [hi]; simp only [true_iff]
    exact ⟨h1,by omega,h3,trivial⟩
end Go.Ab.R06
end
section
namespace Go.Ab.R06
open Go.Ab Go.Ab.RB Go.Lib
theorem dM (s p:Bytes):hasPrefix s p=true↔∃ t,s=p++t:=by
 unfold hasPrefix
 rw [List.isPrefixOf_iff_prefix]
 exact ⟨λ ⟨t,h⟩=>⟨t,h.symm⟩,λ ⟨t,h⟩=>⟨t,h.symm⟩⟩
theorem jq (p t:Bytes):hasPrefix (p++t) p=true:=(dM _ _).2 ⟨t,Z⟩
theorem jd (p t:Bytes):trimPrefix (p++t) p=t:=by
 unfold trimPrefix
 rw [jq,if_pos rfl]; simp
theorem mf {s p:Bytes}(h:hasPrefix s p=false):trimPrefix s p=s:=by
 unfold trimPrefix; rw [h]; simp
def ir (r:am)(p:Bytes):Bool×am:=(hasPrefix r.frest p,am.mk (trimPrefix r.frest p) r.fbad)
def gP (r:am)(p:Bytes):am:=am.mk (trimPrefix r.frest p) (r.fbad||!hasPrefix r.frest p)
theorem has_eq (r:am)(p:Bytes):eJ r p=some (ir r p):=rfl
theorem ti (r:am)(p:Bytes):dH r p=some (gP r p):=by
 unfold dH strings_CutPrefix gP
 simp only [Option.bind_some]
 cases r.fbad <;> simp
def j6 (b:UInt8):Bool:=decide (b.toNat=46)||decide (b.toNat=91)
def j8:Bytes→Nat
 | []=>0
 | b::r=>if j6 b=true then 0 else j8 r+1
theorem xT:∀ l:Bytes,j8 l≤l.length
 | []=>Nat.le_refl _
 | b::r=>by
  unfold j8
  have:=xT r
  split
  ·omega
  ·simp only [List.length_cons]; omega
theorem Cw (b:UInt8):([46,91]:Bytes).contains b=j6 b:=by
 refine eqB ?_
 have h1:b.toNat=46↔b=46:=lS (by decide)
 have h2:b.toNat=91↔b=91:=lS (by decide)
 unfold j6
 rw [Bool.or_eq_true,decide_eq_true_eq,decide_eq_true_eq,h1,h2]
 simp
theorem tB:∀ l:Bytes,(if indexAny l [46,91] < 0 then (l.length:Int) else indexAny l [46,91])=(j8 l:Int)
 | []=>rfl
 | b::r=>by
  have ih:=tB r
  have hge:=indexAny_ge [46,91] r
  unfold indexAny j8
  rw [Cw]
  cases hs:j6 b with
  | true=>simp
  | false =>
   simp only [Bool.false_eq_true,if_false,List.length_cons]
   by_cases h:indexAny r [46,91]=-1
   ·rw [h] at ih
    simp only [h,beq_self_eq_true,if_true]
    rw [if_pos (by decide)] at ih ⊢
    omega
   ·have hb:(indexAny r [46,91] == -1)=false:=by simp [h]
    rw [hb]
    rw [if_neg O] at ih
    simp only [Bool.false_eq_true,if_false]
    rw [if_neg O]
    omega
def dl (r:am):Bytes×am:=(r.frest.take (j8 r.frest),am.mk (r.frest.drop (j8 r.frest)) (r.fbad||!bZ (r.frest.take (j8 r.frest))))
theorem wK (r:am)(hs:r.frest.length≤1000000000):Ev2 (λ n _=>cq n r) (·=dl r):=by
 simp only [cq]
 have hx:strings_IndexAny r.frest [46,91]=some (indexAny r.frest [46,91]):=by
  unfold strings_IndexAny; exact aT ⟨Z,by omega⟩
 have hw:=tB r.frest
 have hle:=xT r.frest
 refine au _ (aU hx Z) (au (j8 r.frest:Int) ?_ ?_)
 ·rw [← hw]
  refine aB (λ h=>aa (by rw [if_pos h])) (λ h=>aa (by rw [if_neg h]))
 ·refine af O (af O ?_)
  have e1:sub r.frest 0 (j8 r.frest:Int)=r.frest.take (j8 r.frest):=by
   show (r.frest.take (j8 r.frest:Int).toNat).drop (0:Int).toNat=_
   simp
  rw [e1,fK,Int.toNat_natCast]
  refine au (r.fbad||!bZ (r.frest.take (j8 r.frest))) ?_ (aa Z)
  cases r.fbad with
  | true=>exact ao Z (aa Z)
  | false=>exact ap G (au _ (qD _ (by rw [List.length_take]; omega)) (aa G))
def cB (k:bT):Bool :=
 if k.fKind=0 then decide (k.fNum=0∧k.fStr=([]:Bytes))
 else if k.fKind=1 then decide (0≤k.fNum∧k.fNum≤jh∧k.fStr=([]:Bytes))
 else if k.fKind=2 then decide (k.fNum=0)&&(decide (k.fStr.length≤4096)&&validD k.fStr)
 else false
theorem valid_eq (k:bT):gv k=some (cB k):=by
 unfold gv cB
 by_cases h0:k.fKind=0
 ·rw [if_pos h0,if_pos h0]; simp [h0]
 rw [if_neg h0,if_neg h0]
 by_cases h1:k.fKind=1
 ·rw [if_pos h1,if_pos h1]
  by_cases h2:0≤k.fNum
  ·rw [if_pos h2]
   by_cases h3:k.fNum≤9007199254740992
   ·rw [if_pos h3]; simp [h2,jh,h3]
   ·rw [if_neg h3]; simp [jh,h3]
  ·rw [if_neg h2]; simp [h2]
 rw [if_neg h1,if_neg h1]
 by_cases h2:k.fKind=2
 ·rw [if_pos h2,if_pos h2]
  by_cases h3:k.fNum=0
  ·rw [if_pos h3,Fy]; simp [h3]
  ·rw [if_neg h3]; simp [h3]
 ·rw [if_neg h2,if_neg h2]
def ka:bT:=bT.mk 0 0 []
def idx (l:Bytes)(c:UInt8):Nat:=(indexByte l c).toNat
def kq (r:am):bT×am :=
 if r.fbad=true then (ka,r) else if hasPrefix r.frest [91]=false then (ka,r)
 else if hasPrefix (r.frest.drop 1) [34]=true then
  (if (kp (r.frest.drop 1)).2.2=0∧dZ (kp (r.frest.drop 1)).1=(r.frest.drop 1).take (kp (r.frest.drop 1)).2.1.toNat then
   (bT.mk 2 0 (kp (r.frest.drop 1)).1,gP (am.mk ((r.frest.drop 1).drop (kp (r.frest.drop 1)).2.1.toNat) false) [93])
   else (ka,am.mk (r.frest.drop 1) true))
 else (bT.mk 1 (rD ((r.frest.drop 1).take (idx (r.frest.drop 1) 93))).1 [],
   gP (am.mk ((r.frest.drop 1).drop (idx (r.frest.drop 1) 93)) (!(decide ((rD ((r.frest.drop 1).take (idx (r.frest.drop 1) 93))).2=0)&&!decide ((rD ((r.frest.drop 1).take (idx (r.frest.drop 1) 93))).1 < 0)))) [93])
theorem oM (l:Bytes)(n:Int):sub l 0 n=l.take n.toNat:=by
 show (l.take n.toNat).drop (0:Int).toNat=_
 simp
theorem index_le:∀ (l:Bytes) (c:UInt8),indexByte l c≤l.length
 | [],_=>by simp [indexByte]
 | b::r,c=>by
  have:=index_le r c
  unfold indexByte
  simp only [List.length_cons]
  split
  ·omega
  ·split <;> omega
theorem Ck (r:am)(hs:r.frest.length≤900000000):Ev2 (λ n _=>cP n r) (·=kq r):=by
 simp only [cP]
 cases hb:r.fbad with
 | true =>
  refine au (true,r.frest,r.fbad) (ao Z (aa (by rw [hb]))) (ao Z (aa ?_))
  unfold kq
  rw [if_pos hb]; rfl
 | false =>
  cases hp:hasPrefix r.frest [91] with
  | false =>
   refine au (true,r.frest,r.fbad) (ap G (au _ (aU (has_eq _ _) Z) (aa ?_))) (ao Z (aa ?_))
   ·unfold ir; simp only [hp,mf hp,Bool.not_false]
   ·unfold kq
    rw [if_neg (by simp [hb]),if_pos hp]; rfl
  | true =>
   obtain ⟨t,ht⟩:=(dM _ _).1 hp
   have hd:r.frest.drop 1=t:=by rw [ht]; rfl
   have htl:t.length≤900000000:=by rw [ht] at hs; simp at hs; omega
   refine au (false,t,false) (ap G (au _ (aU (has_eq _ _) Z) (aa ?_))) (ap G ?_)
   ·unfold ir; simp only [hp,Bool.not_true,hb]; rw [ht,jd]
   unfold kq
   rw [if_neg (by simp [hb]),if_neg (by simp [hp]),hd]
   have hx:strings_HasPrefix t [34]=some (hasPrefix t [34]):=rfl
   cases hq:hasPrefix t [34] with
   | true =>
    rw [hq] at hx
    have hle:=zq t
    have hu:=EC t O
    rw [if_pos rfl]
    generalize kp t=U at hle hu ⊢
    obtain ⟨x,n,e⟩:=U
    simp only at hle ⊢
    by_cases he:e=0∧dZ x=t.take n.toNat
    ·rw [if_pos he]
     refine oD (au _ (aU hx Z) (ao Z (au _ hu (au false ?_ (ap G (af (by dsimp only; omega) (aa ?_)))))))
     ·refine ao he.1 (au _ (uf x O) (af (by dsimp only; omega) (aa ?_)))
      rw [oM,decide_eq_true he.2]; rfl
     ·refine au _ (aU (ti _ _) Z) (aa ?_)
      rw [fK]
    ·rw [if_neg he]
     refine oD (au _ (aU hx Z) (ao Z (au _ hu (au true ?_ (ao Z (aa ?_))))))
     ·by_cases h0:e=0
      ·refine ao h0 (au _ (uf x O) (af (by dsimp only; omega) (aa ?_)))
       rw [oM,decide_eq_false (λ q=>he ⟨h0,q⟩)]; rfl
      ·exact ap h0 (aa Z)
     ·rfl
   | false =>
    rw [hq] at hx
    rw [if_neg G]
    have hi:strings_IndexByte t 93=some (indexByte t 93):=rfl
    have hge:=indexByte_ge t 93
    have hle:=index_le t 93
    have hm:(if indexByte t 93 < 0 then (0:Int) else indexByte t 93)=(idx t 93:Int):=by
     unfold idx
     split <;> omega
    have hil:(idx t 93:Int)≤t.length:=by rw [← hm]; split <;> omega
    refine oD (au _ (aU hx Z) (ap G (au _ (aU hi Z) ?_)))
    rw [hm]
    refine af (by dsimp only; omega) ?_
    rw [oM,Int.toNat_natCast]
    refine au _ (xX _ (by rw [List.length_take]; omega)) ?_
    generalize rD (t.take (idx t 93))=N
    obtain ⟨v,e⟩:=N
    simp only
    refine au (!(decide (e=0)&&!decide (v < 0))) ?_ (af O (aa ?_))
    ·refine aB (λ h=>aa (by simp [h])) (λ h=>aa (by simp [h]))
    ·refine au _ (aU (ti _ _) Z) (aa ?_)
     rw [fK,Int.toNat_natCast]
def stepT (r:am):ac×am:=(ac.mk (dl r).1 (kq (dl r).2).1,(kq (dl r).2).2)
theorem D5 (r:am)(hs:r.frest.length≤900000000):Ev2 (λ n _=>da n r) (·=stepT r):=by
 simp only [da]
 refine au _ (wK r O) (au _ (Ck (dl r).2 ?_) (aa Z))
 show (r.frest.drop _).length≤_
 rw [List.length_drop]; omega
def jg:Bytes:=[109,111,100,117,108,101,46]
def gN:Nat→List ac→am→List ac×am
 | 0,ms,r=>(ms,r)
 | n+1,ms,r=>if r.fbad=false∧hasPrefix r.frest jg=true then
   gN n (ms++[(stepT (am.mk (r.frest.drop 7) false)).1]) (gP (stepT (am.mk (r.frest.drop 7) false)).2 [46])
  else (ms,r)
theorem ns (s p:Bytes):(trimPrefix s p).length≤s.length:=trimPrefix_le s p
theorem CF (r:am):(kq r).2.frest.length≤r.frest.length:=by
 unfold kq
 split
 ·exact Nat.le_refl _
 split
 ·exact Nat.le_refl _
 split
 ·split
  ·unfold gP
   have:=ns ((r.frest.drop 1).drop (kp (r.frest.drop 1)).2.1.toNat) [93]
   simp only [List.length_drop] at this ⊢; omega
  ·simp
 ·unfold gP
  have:=ns ((r.frest.drop 1).drop (idx (r.frest.drop 1) 93)) [93]
  simp only [List.length_drop] at this ⊢; omega
theorem wa (r:am):(stepT r).2.frest.length≤r.frest.length:=by
 unfold stepT
 have:=CF (dl r).2
 have h2:(dl r).2.frest.length≤r.frest.length:=by
  show (r.frest.drop _).length≤_
  rw [List.length_drop]; omega
 simp only; omega
theorem vQ (r:am)(p:Bytes):(gP r p).frest.length≤r.frest.length:=ns _ _
theorem qC {s p:Bytes}(h:hasPrefix s p=true):p.length≤s.length:=by
 obtain ⟨t,rfl⟩:=(dM _ _).1 h; simp
theorem C8:∀ (k:Nat) (ms:List ac) (r:am),r.frest.length < k→r.frest.length+ms.length≤900000000→Ev2 (λ n m=>cX n m ms r.frest r.fbad) (·=((gN k ms r).1,(gN k ms r).2.frest,(gN k ms r).2.fbad)):=by
 intro k
 induction k with
 | zero=>intro ms r h; omega
 | succ k ih =>
  intro ms r hk hl
  refine aF ?_
  simp only [cX]
  unfold gN
  by_cases hc:r.fbad=false∧hasPrefix r.frest jg=true
  ·rw [if_pos hc]
   have hpl:=qC hc.2
   obtain ⟨t,ht⟩:=(dM _ _).1 hc.2
   have hd:r.frest.drop 7=t:=by rw [ht]; rfl
   have htl:t.length+7=r.frest.length:=by rw [ht]; simp [jg] <;> omega
   rw [hd]
   refine au (true,t,false) (ao (by simp [hc.1]) (au _ (aU (has_eq _ _) Z) (aa ?_))) (ao Z ?_)
   ·unfold ir
    show (hasPrefix r.frest jg,trimPrefix r.frest jg,r.fbad)=_
    rw [hc.2,hc.1,ht,jd]
   refine au _ (D5 (am.mk t false) (by simp only; omega)) (af (by simp; omega) (au _ (aU (ti _ _) Z) ?_))
   have h1:=wa (am.mk t false)
   have h2:=vQ (stepT (am.mk t false)).2 [46]
   simp only at h1
   exact ih _ _ O (by simp; omega)
  ·rw [if_neg hc]
   refine au (false,r.frest,r.fbad) ?_ (ap G (aa Z))
   cases hb:r.fbad with
   | true=>exact ap G (aa Z)
   | false =>
    have hp:hasPrefix r.frest jg=false:=by
     cases h:hasPrefix r.frest jg with
     | false=>rfl
     | true=>exact absurd ⟨hb,h⟩ hc
    refine ao Z (au _ (aU (has_eq _ _) Z) (aa ?_))
    unfold ir
    show (hasPrefix r.frest jg,trimPrefix r.frest jg,_)=_
    rw [hp,mf hp]
def fo (s:Bytes):Bool:=([[109,111,100,117,108,101],[100,97,116,97],[118,97,114],[108,111,99,97,108],[101,97,99,104],[99,111,117,110,116],[114,101,109,111,116,101],[111,117,116,112,117,116],[112,97,116,104],[115,101,108,102],[99,104,97,110,103,101]]:List Bytes).contains s
def il (s:Bytes):Bool:=!fo s&&bZ s
theorem zG (s:Bytes)(hs:s.length≤1000000000):Ev2 (λ n _=>ef n s) (·=il s):=by
 simp only [ef]
 refine au (fo s) ?_ ?_
 ·unfold fo
  simp only [List.contains_cons,List.contains_nil,Bool.or_false]
  repeat' refine aB (λ h=>aa (by simp [h])) (λ h=>?_)
  refine aa (eqB ?_)
  simp [*]
 ·unfold il
  cases fo s with
  | true=>exact ao Z (aa Z)
  | false=>exact ap G (au _ (qD s hs) (aa G))
def bF:Bytes:=[100,97,116,97,46]
def mL:al:=al.mk [] false [] [] ka
def gb (r:am):Bool×Bytes×Bytes×bT×am :=
 let h:=ir r bF
 let t:=dl h.2
 let n:=dl (gP t.2 [46])
 let k:=kq n.2
 (h.1,t.1,n.1,k.1,k.2)
def jA (s:Bytes):al×Int :=
 let p:=gN (s.length+1) [] (am.mk s false)
 let t:=gb p.2
 if t.2.2.2.2.fbad=true∨t.2.2.2.2.frest≠[]∨il t.2.1=false then (mL,2)
 else if 16 < p.1.length then (mL,4)
 else (al.mk p.1 t.1 t.2.1 t.2.2.1 t.2.2.2.1,0)
theorem uC:∀ (k:Nat) (ms:List ac) (r:am),(gN k ms r).2.frest.length≤r.frest.length
 | 0,_,_=>Nat.le_refl _
 | k+1,ms,r=>by
  unfold gN
  split
  ·have h1:=wa (am.mk (r.frest.drop 7) false)
   have h2:=vQ (stepT (am.mk (r.frest.drop 7) false)).2 [46]
   have h3:=uC k (ms++[(stepT (am.mk (r.frest.drop 7) false)).1]) (gP (stepT (am.mk (r.frest.drop 7) false)).2 [46])
   simp only [List.length_drop] at h1
   omega
  ·exact Nat.le_refl _
theorem B8 (s:Bytes)(hs:s.length≤800000000):Ev2 (λ n _=>fF n s) (·=jA s):=by
 simp only [fF]
 have l:=C8 (s.length+1) [] (am.mk s false) G (by simp; omega)
 have hl:=uC (s.length+1) [] (am.mk s false)
 refine au _ (aY l) ?_
 unfold jA
 generalize gN (s.length+1) [] (am.mk s false)=p at hl ⊢
 obtain ⟨ms,r⟩:=p
 simp only at hl ⊢
 have e:am.mk r.frest r.fbad=r:=rfl
 rw [e]
 have l1:(ir r bF).2.frest.length≤s.length:=Nat.le_trans (ns _ _) hl
 refine au _ (aU (has_eq r _) Z) (au _ (wK _ (Nat.le_trans l1 O)) (au _ (aU (ti _ _) Z) ?_))
 have l2:(gP (dl (ir r bF).2).2 [46]).frest.length≤s.length:=by
  refine Nat.le_trans (ns _ _) ?_
  show ((ir r bF).2.frest.drop _).length≤_
  rw [List.length_drop]; omega
 refine au _ (wK _ (Nat.le_trans l2 O)) ?_
 have l3:(dl (gP (dl (ir r bF).2).2 [46])).2.frest.length≤s.length:=by
  show (List.drop _ _).length≤_
  rw [List.length_drop]; omega
 refine au _ (Ck _ (Nat.le_trans l3 O)) ?_
 show Ev2 _ (·=(if (gb r).2.2.2.2.fbad=true∨(gb r).2.2.2.2.frest≠[]∨il (gb r).2.1=false then (mL,2) else if 16 < ms.length then (mL,4) else (al.mk ms (gb r).1 (gb r).2.1 (gb r).2.2.1 (gb r).2.2.2.1,0)))
 have l4:(dl (ir r bF).2).1.length≤1000000000:=by
  show (List.take _ _).length≤_
  rw [List.length_take]; omega
 have hk:=zG _ l4
 show Ev2 (λ n m=>((if (gb r).2.2.2.2.fbad=true then some true else if (gb r).2.2.2.2.frest=([]:Bytes) then (ef n (gb r).2.1).bind λ r49=>some (!r49) else some true:Option Bool)).bind λ t51=>_) _
 have hk:Ev2 (λ n _=>ef n (gb r).2.1) (·=il (gb r).2.1):=hk
 refine au (decide ((gb r).2.2.2.2.fbad=true∨(gb r).2.2.2.2.frest≠[]∨il (gb r).2.1=false)) ?_ ?_
 ·refine aB (λ h=>aa (by simp [h])) (λ h=>aB (λ h1=>au _ hk (aa ?_)) (λ h1=>aa (by simp [h1])))
  cases il (gb r).2.1 <;> simp [h,h1]
 ·refine aB (λ h=>aa ?_) (λ h=>?_)
  ·rw [if_pos (of_decide_eq_true h)]; rfl
  ·rw [if_neg (λ q=>h (decide_eq_true q))]
   refine aB (λ h=>aa ?_) (λ h=>aa ?_)
   ·rw [if_pos O]; rfl
   ·rw [if_neg O]; rfl
end Go.Ab.R06
namespace Go.Ab.R06
open Go.Ab Go.Ab.RB Go.Lib
def jy:List ac→Int
 | []=>0
 | x::r=>if bZ x.fName=false then 7 else if cB x.fKey=false then 1 else jy r
def nC (a:al):Int :=
 if 16 < a.fModule.length then 4 else if jy a.fModule≠0 then jy a.fModule
 else if il a.fType=false∨bZ a.fName=false then 7 else if cB a.fKey=false then 1 else 0
def Sm (a:al):Prop:=a.fModule.length≤100000∧a.fType.length≤100000∧a.fName.length≤100000∧∀ x∈a.fModule,x.fName.length≤100000
theorem C7 (a:al)(ha:Sm a):∀ (k i:Nat),i+k=a.fModule.length→Ev2 (λ n m=>cG n a m (i:Int)) (·=if jy (a.fModule.drop i)=0 then .inl () else .inr (jy (a.fModule.drop i))):=by
 intro k
 induction k with
 | zero =>
  intro i hi
  refine aF ?_
  simp only [cG]
  refine ap O (aa ?_)
  rw [List.drop_of_length_le O]; rfl
 | succ k ih =>
  intro i hi
  refine aF ?_
  simp only [cG]
  have hil:i < a.fModule.length:=by omega
  refine ao O (af O ?_)
  rw [co _ _ hil,List.drop_eq_getElem_cons hil]
  have hx:=ha.2.2.2 _ (List.getElem_mem hil)
  have:=ih (i+1) O
  have hlen:=ha.1
  generalize a.fModule[i]=x at hx ⊢
  unfold jy
  refine au _ (qD x.fName O) ?_
  cases h1:bZ x.fName with
  | false=>exact ao Z (aa G)
  | true =>
   refine ap G (au _ (aU (valid_eq _) Z) ?_)
   cases h2:cB x.fKey with
   | false=>exact ao Z (aa G)
   | true =>
    refine ap G (af (aS O O) ?_)
    rw [Int.natCast_add,Int.natCast_one] at this
    simpa using this
theorem BV (a:al)(ha:Sm a):Ev2 (λ n _=>fH n a) (·=nC a):=by
 simp only [fH]
 unfold nC
 refine aB (λ h=>aa (by rw [if_pos O])) (λ h=>?_)
 rw [if_neg (show ¬ 16 < a.fModule.length by omega)]
 have l:=C7 a ha a.fModule.length 0 O
 rw [List.drop_zero] at l
 by_cases he:jy a.fModule=0
 ·rw [if_pos he] at l
  rw [if_neg (by simp [he])]
  refine gH () (aY l) ?_
  refine au (decide (il a.fType=false∨bZ a.fName=false)) ?_ ?_
  ·refine au _ (zG _ (by have:=ha.2.1; omega)) ?_
   cases il a.fType with
   | false=>exact ao Z (aa G)
   | true =>
    refine ap G (au _ (qD _ (by have:=ha.2.2.1; omega)) (aa ?_))
    cases bZ a.fName <;> simp
  ·refine aB (λ h=>aa (by rw [if_pos (of_decide_eq_true h)])) (λ h=>?_)
   rw [if_neg (λ q=>h (decide_eq_true q))]
   refine au _ (aU (valid_eq _) Z) ?_
   cases cB a.fKey with
   | false=>exact ao Z (aa G)
   | true=>exact ap G (aa G)
 ·rw [if_neg he] at l
  rw [if_pos he]
  exact gw _ (aY l) Z
theorem sE:∀ ms:List ac,jy ms=0↔∀ x∈ms,bZ x.fName=true∧cB x.fKey=true
 | []=>by simp [jy]
 | x::r=>by
  have ih:=sE r
  unfold jy
  cases h1:bZ x.fName with
  | false=>simp [h1]
  | true =>
   cases h2:cB x.fKey with
   | false=>simp [h1,h2]
   | true=>simp [h1,h2,ih]
theorem mq (a:al):nC a=0↔a.fModule.length≤16∧(∀ x∈a.fModule,bZ x.fName=true∧cB x.fKey=true)∧il a.fType=true∧bZ a.fName=true∧cB a.fKey=true:=by
 rw [← sE]
 unfold nC
 by_cases h:16 < a.fModule.length
 ·rw [if_pos h]; simp; omega
 rw [if_neg h]
 by_cases h2:jy a.fModule=0
 ·rw [if_neg (by simp [h2])]
  cases il a.fType <;> cases bZ a.fName <;> cases cB a.fKey <;> simp [h2] <;> omega
 ·rw [if_pos h2]
  constructor
  ·intro q; exact absurd q h2
  ·intro q; exact q.2.1
theorem eH {s:Bytes}(h:bZ s=true):s.length≤64:=((p7 s).1 h).2.1
def aQ (k:bT):Bytes:=if cB k=false∨k.fKind=0 then [] else if k.fKind=1 then [91]++itoa k.fNum++[93] else [91]++dZ k.fStr++[93]
def bM (x:ac):Bytes:=jg++x.fName++aQ x.fKey++[46]
def gG (a:al):Bytes:=a.fModule.flatMap bM++((if a.fData=true then bF else [])++(a.fType++[46]++a.fName++aQ a.fKey))
def nz (a:al):Bytes:=if nC a=0 then gG a else []
theorem m6 {k:bT}(h:cB k=true)(h1:k.fKind=1):0≤k.fNum∧k.fNum≤jh∧k.fStr=[]:=by
 unfold cB at h
 rw [if_neg O,if_pos h1] at h
 exact of_decide_eq_true h
theorem kT {k:bT}(h:cB k=true):k.fKind=0∨k.fKind=1∨k.fKind=2:=by
 unfold cB at h
 split at h
 ·left; assumption
 split at h
 ·right; left; assumption
 split at h
 ·right; right; assumption
 ·cases h
theorem m8 {k:bT}(h:cB k=true)(h1:k.fKind=2):k.fNum=0∧k.fStr.length≤4096∧validD k.fStr=true:=by
 unfold cB at h
 rw [if_neg O,if_neg O,if_pos h1] at h
 simpa using h
theorem ue {k:bT}(h:cB k=true)(h1:k.fKind=0):k=ka:=by
 unfold cB at h
 rw [if_pos h1] at h
 have:=of_decide_eq_true h
 cases k
 simp only at *
 rw [h1,this.1,this.2]; rfl
theorem rv (s:Bytes):(dZ s).length≤6*s.length+2:=by
 have:=(uz s).2
 unfold dZ
 simp only [List.length_cons,List.length_append,List.length_nil]; omega
theorem kH (k:bT):(aQ k).length≤24600:=by
 unfold aQ
 split
 ·simp
 ·rename_i h
  have hk:cB k=true:=by
   cases hh:cB k with
   | true=>rfl
   | false=>exact absurd (.inl hh) h
  split
  ·rename_i h1
   have hn:=m6 hk h1
   have:=qx hn.1 hn.2.1
   simp only [List.length_append,List.length_cons,List.length_nil]; omega
  ·rename_i h1
   have h2:k.fKind=2:=by
    rcases kT hk with q | q | q
    ·exact absurd (.inr q) h
    ·exact absurd q h1
    ·exact q
   have hs:=m8 hk h2
   have:=rv k.fStr
   simp only [List.length_append,List.length_cons,List.length_nil]; omega
theorem zO (k:bT):Ev2 (λ n _=>dj n k) (·=aQ k):=by
 simp only [dj]
 unfold aQ
 refine au (decide (cB k=false∨k.fKind=0)) ?_ ?_
 ·refine au _ (aU (valid_eq _) Z) ?_
  cases cB k with
  | false=>exact ao Z (aa G)
  | true=>exact ap G (aa G)
 ·refine aB (λ h=>aa (by rw [if_pos (of_decide_eq_true h)])) (λ h=>?_)
  have h:=λ q=>h (decide_eq_true q)
  rw [if_neg h]
  have hk:cB k=true:=by
   cases hh:cB k with
   | true=>rfl
   | false=>exact absurd (.inl hh) h
  refine aB (λ h1=>?_) (λ h1=>?_)
  ·rw [if_pos h1]
   have hn:=m6 hk h1
   have hl:=qx hn.1 hn.2.1
   have hf:jk k.fNum=some (itoa k.fNum):=by
    unfold jk strconv_Itoa
    rw [aT (aS O (by have:=hn.2.1; unfold jh at this; omega))]; rfl
   refine au _ (aU hf Z) (af (by simp only [List.length_cons,List.length_nil]; omega) (af (by simp only [List.length_append,List.length_cons,List.length_nil]; omega) (aa Z)))
  ·rw [if_neg h1]
   have h2:k.fKind=2:=by
    rcases kT hk with q | q | q
    ·exact absurd (.inr q) h
    ·exact absurd q h1
    ·exact q
   have hs:=m8 hk h2
   have hl:=rv k.fStr
   refine au _ (uf _ O) (af (by simp only [List.length_cons,List.length_nil]; omega) (af (by simp only [List.length_append,List.length_cons,List.length_nil]; omega) (aa Z)))
theorem nD {x:ac}(h:bZ x.fName=true):(bM x).length≤25000:=by
 have h1:=eH h
 have h2:=kH x.fKey
 unfold bM jg
 simp only [List.length_append,List.length_cons,List.length_nil]; omega
theorem rI:∀ (ms:List ac),(∀ x∈ms,bZ x.fName=true)→(ms.flatMap bM).length≤25000*ms.length
 | [],_=>by simp
 | x::r,h=>by
  have:=rI r λ y hy=>h y (List.mem_cons_of_mem _ hy)
  have h1:=nD (h x List.mem_cons_self)
  simp only [List.flatMap_cons,List.length_append,List.length_cons]; omega
theorem Az (a:al)(hm:a.fModule.length≤16)(ha:∀ x∈a.fModule,bZ x.fName=true):∀ (k i:Nat) (f:Bytes),i+k=a.fModule.length→f.length≤25000*i→Ev2 (λ n m=>cv n a m (i:Int) f) (·=f++(a.fModule.drop i).flatMap bM):=by
 intro k
 induction k with
 | zero =>
  intro i f hi hf
  refine aF ?_
  simp only [cv]
  refine ap O (aa ?_)
  rw [List.drop_of_length_le O]; simp
 | succ k ih =>
  intro i f hi hf
  refine aF ?_
  simp only [cv]
  have hil:i < a.fModule.length:=by omega
  refine ao O (af O ?_)
  rw [co _ _ hil,List.drop_eq_getElem_cons hil]
  have hx:=ha _ (List.getElem_mem hil)
  generalize a.fModule[i]=x at hx ⊢
  have h1:=eH hx
  have h2:=kH x.fKey
  have h3:=nD hx
  refine af (by simp only [List.length_cons,List.length_nil]; omega) (au _ (zO x.fKey) ?_)
  refine af (by simp only [List.length_append,List.length_cons,List.length_nil]; omega) (af (by simp only [List.length_append,List.length_cons,List.length_nil]; omega) ?_)
  have e:((([109,111,100,117,108,101,46]:Bytes)++x.fName)++aQ x.fKey)++([46]:Bytes)=bM x:=rfl
  rw [e]
  refine au _ (aU (yS f (bM x) O) Z) (af (aS O O) ?_)
  have:=ih (i+1) (f++bM x) O (by rw [List.length_append]; omega)
  rw [Int.natCast_add,Int.natCast_one] at this
  simpa using this
theorem Aw (a:al)(ha:Sm a):Ev2 (λ n _=>ff n a) (·=nz a):=by
 simp only [ff]
 unfold nz
 refine au _ (BV a ha) (aB (λ h=>?_) (λ h=>aa (by rw [if_neg h])))
 rw [if_pos h]
 obtain ⟨c1,c2,c3,c4,c5⟩:=(mq a).1 h
 have l:=Az a c1 (λ x hx=>(c2 x hx).1) a.fModule.length 0 [] O G
 have hl:=rI a.fModule (λ x hx=>(c2 x hx).1)
 rw [List.drop_zero] at l
 refine au _ (aY l) ?_
 unfold gG
 generalize a.fModule.flatMap bM=st at hl ⊢
 have h1:a.fType.length≤64:=by
  unfold il at c3
  rw [Bool.and_eq_true] at c3
  exact eH c3.2
 have h2:=eH c4
 have h3:=kH a.fKey
 refine au (st++(if a.fData=true then bF else [])) ?_ ?_
 ·refine aB (λ h=>?_) (λ h=>aa (by rw [if_neg h]; simp))
  rw [if_pos h]
  exact au _ (aU (yS _ [100,97,116,97,46] (by simp only [List.nil_append,List.length_cons,List.length_nil]; omega)) Z) (aa (by simp [bF]))
 ·have hd:(if a.fData=true then bF else ([]:Bytes)).length≤5:=by split <;> simp [bF]
  refine af (by simp only [List.length_cons,List.length_nil]; omega) (af (by simp only [List.length_append,List.length_cons,List.length_nil]; omega) (au _ (zO a.fKey) (af (by simp only [List.length_append,List.length_cons,List.length_nil]; omega) ?_)))
  refine au _ (aU (yS _ _ (by simp only [List.length_append,List.length_cons,List.length_nil]; omega)) Z) (au _ (aU (EI _ (by simp only [List.length_append,List.length_cons,List.length_nil]; omega)) Z) (aa ?_))
  simp
theorem lO {r:am}(h:(dl r).2.fbad=false):r.fbad=false∧bZ (dl r).1=true∧r.frest=(dl r).1++(dl r).2.frest:=by
 unfold dl at *
 simp only [Bool.or_eq_false_iff,Bool.not_eq_false'] at h
 exact ⟨h.1,h.2,(List.take_append_drop _ _).symm⟩
theorem mb {r:am}{p:Bytes}(h:(gP r p).fbad=false):r.fbad=false∧r.frest=p++(gP r p).frest:=by
 unfold gP at *
 simp only [Bool.or_eq_false_iff,Bool.not_eq_false'] at h
 obtain ⟨t,ht⟩:=(dM _ _).1 h.2
 refine ⟨h.1,?_⟩
 simp only
 rw [ht,jd]
theorem rj {r:am}(h:(kq r).2.fbad=false):r.fbad=false∧cB (kq r).1=true∧r.frest=aQ (kq r).1++(kq r).2.frest:=by
 have hno:cB ka=true∧aQ ka=[]:=⟨Z,Z⟩
 unfold kq at *
 by_cases hb:r.fbad=true
 ·rw [if_pos hb] at h; rw [hb] at h; cases h
 rw [if_neg hb] at h ⊢
 have hb:r.fbad=false:=by simpa using hb
 by_cases hp:hasPrefix r.frest [91]=false
 ·rw [if_pos hp] at h ⊢
  exact ⟨hb,hno.1,by rw [hno.2]; rfl⟩
 rw [if_neg hp] at h ⊢
 obtain ⟨l,hl⟩:=(dM _ _).1 (by simpa using hp)
 have hd:r.frest.drop 1=l:=by rw [hl]; rfl
 rw [hd] at h ⊢
 by_cases hq:hasPrefix l [34]=true
 ·rw [if_pos hq] at h ⊢
  have hok:=@wo l
  generalize kp l=U at h hok ⊢
  obtain ⟨x,n,e⟩:=U
  simp only at h ⊢
  by_cases he:e=0∧dZ x=l.take n.toNat
  ·rw [if_pos he] at h ⊢
   obtain ⟨rfl,he⟩:=he
   have hx:=hok Z
   have hs:=mb h
   have hko:cB (bT.mk 2 0 x)=true:=by
    unfold cB
    simp [hx.1,hx.2.1]
   refine ⟨hb,hko,?_⟩
   have ht:aQ (bT.mk 2 0 x)=[91]++dZ x++[93]:=by
    unfold aQ
    rw [if_neg (by rw [hko]; simp),if_neg G]
   rw [ht,hl,he]
   have h2:=hs.2
   simp only at h2
   rw [List.append_assoc,List.append_assoc,← h2,List.take_append_drop]
  ·rw [if_neg he] at h; cases h
 ·rw [if_neg hq] at h ⊢
  have hs:=mb h
  simp only at hs
  generalize hN:rD (l.take (idx l 93))=N at h hs ⊢
  obtain ⟨v,e⟩:=N
  simp only at hs h ⊢
  have h1:=hs.1
  have he:e=0∧¬ v < 0:=by simpa using h1
  obtain ⟨rfl,hv⟩:=he
  have hi:=AR _ _ hN O
  have hko:cB (bT.mk 1 v [])=true:=by
   unfold cB
   simp; exact ⟨by omega,hi.2⟩
  refine ⟨hb,hko,?_⟩
  have ht:aQ (bT.mk 1 v [])=[91]++itoa v++[93]:=by
   unfold aQ
   rw [if_neg (by rw [hko]; simp),if_pos rfl]
  rw [ht,hl,hi.1,List.append_assoc,List.append_assoc,← hs.2,List.take_append_drop]
theorem nG:∀ (k:Nat) (ms:List ac) (r:am),(gN k ms r).2.fbad=false→r.fbad=false∧∃ new,(gN k ms r).1=ms++new∧r.frest=new.flatMap bM++(gN k ms r).2.frest∧∀ x∈new,bZ x.fName=true∧cB x.fKey=true
 | 0,ms,r,h=>⟨h,[],by simp [gN],by simp [gN],by simp⟩
 | k+1,ms,r,h=>by
  unfold gN at h ⊢
  by_cases hc:r.fbad=false∧hasPrefix r.frest jg=true
  ·rw [if_pos hc] at h ⊢
   obtain ⟨t,ht⟩:=(dM _ _).1 hc.2
   have hd:r.frest.drop 7=t:=by rw [ht]; rfl
   rw [hd] at h ⊢
   obtain ⟨b1,new,e1,e2,e3⟩:=nG k _ _ h
   have s1:=mb b1
   have s2:(kq (dl (am.mk t false)).2).2.fbad=false:=s1.1
   have s3:=rj s2
   have s4:=lO s3.1
   have hs1:(kq (dl (am.mk t false)).2).2.frest=[46]++(gP (stepT (am.mk t false)).2 [46]).frest:=s1.2
   refine ⟨hc.1,(stepT (am.mk t false)).1::new,by rw [e1]; simp,?_,?_⟩
   ·rw [ht,List.flatMap_cons]
    have h4:=s4.2.2
    simp only at h4
    show jg++t=(jg++(dl (am.mk t false)).1++aQ (kq (dl (am.mk t false)).2).1++[46]++new.flatMap bM)++_
    simp only [List.append_assoc]
    rw [← e2,← hs1,← s3.2.2,← h4]
   ·intro x hx
    rcases List.mem_cons.1 hx with rfl | hx
    ·exact ⟨s4.2.1,s3.2.1⟩
    ·exact e3 x hx
  ·rw [if_neg hc] at h ⊢
   exact ⟨h,[],by simp,by simp,by simp⟩
theorem sH {s:Bytes}{a:al}(h:jA s=(a,0)):nC a=0∧gG a=s∧Sm a:=by
 unfold jA at h
 simp only at h
 have hL:=nG (s.length+1) [] (am.mk s false)
 generalize gN (s.length+1) [] (am.mk s false)=p at h hL
 obtain ⟨ms,r⟩:=p
 simp only at h hL
 split at h
 ·cases h
 ·rename_i h0
  split at h
  ·cases h
  ·rename_i h1
   cases h
   simp only [not_or] at h0
   obtain ⟨hb,hr,hk⟩:=h0
   have hb:(gb r).2.2.2.2.fbad=false:=by simpa using hb
   have hr:(gb r).2.2.2.2.frest=[]:=by simpa using hr
   have hk:il (gb r).2.1=true:=by simpa using hk
   have hb:(kq (dl (gP (dl (ir r bF).2).2 [46])).2).2.fbad=false:=hb
   have hr:(kq (dl (gP (dl (ir r bF).2).2 [46])).2).2.frest=[]:=hr
   have hk:il (dl (ir r bF).2).1=true:=hk
   have s1:=rj hb
   have s2:=lO s1.1
   have s3:=mb s2.1
   have s4:=lO s3.1
   have hrb:r.fbad=false:=s4.1
   obtain ⟨_,new,e1,e2,e3⟩:=hL hrb
   simp only [List.nil_append] at e1
   subst e1
   have hdat:r.frest=(if (ir r bF).1=true then bF else [])++(ir r bF).2.frest:=by
    unfold ir
    simp only
    cases hp:hasPrefix r.frest bF with
    | true =>
     obtain ⟨t,ht⟩:=(dM _ _).1 hp
     rw [ht,jd]; rfl
    | false=>rw [mf hp]; rfl
   have hlen:∀ x∈ms,x.fName.length≤100000:=λ x hx=>by have:=eH (e3 x hx).1; omega
   have hty:(dl (ir r bF).2).1.length≤64:=eH s4.2.1
   have hnm:=eH s2.2.1
   refine ⟨(mq _).2 ⟨by show ms.length≤16; omega,e3,hk,s2.2.1,s1.2.1⟩,?_,⟨by show ms.length≤_; omega,?_,?_,hlen⟩⟩
   ·show ms.flatMap bM++((if (ir r bF).1=true then bF else [])++((dl (ir r bF).2).1++[46]++(dl (gP (dl (ir r bF).2).2 [46])).1++aQ (kq (dl (gP (dl (ir r bF).2).2 [46])).2).1))=s
    have x1:=s1.2.2
    rw [hr,List.append_nil] at x1
    rw [← x1,List.append_assoc,← s2.2.2,List.append_assoc,← s3.2,← s4.2.2,← hdat,← e2]
   ·show (dl (ir r bF).2).1.length≤100000
    omega
   ·show (dl (gP (dl (ir r bF).2).2 [46])).1.length≤100000
    omega
end Go.Ab.R06
namespace Go.Ab.R06
open Go.Ab Go.Ab.RB Go.Lib
theorem nI {b:UInt8}(h:idB b=true):j6 b=false:=by
 simp only [idB,Bool.or_eq_true,qu,jc] at h
 unfold j6
 rw [Bool.or_eq_false_iff,decide_eq_false_iff_not,decide_eq_false_iff_not]
 omega
theorem lv {s:Bytes}(h:bZ s=true){b:UInt8}(hb:b∈s):idB b=true:=by
 have:=(sD s).1 h
 rw [ug] at this
 exact List.all_eq_true.1 this.2.2.2 b hb
theorem vO:∀ (w t:Bytes),(∀ b∈w,j6 b=false)→(t=[]∨∃ b r,t=b::r∧j6 b=true)→j8 (w++t)=w.length
 | [],t,_,h=>by
  rcases h with rfl | ⟨b,r,rfl,hb⟩
  ·rfl
  ·show j8 (b::r)=0
   unfold j8; rw [if_pos hb]
 | b::w,t,hw,h=>by
  show j8 (b::(w++t))=_
  unfold j8
  rw [if_neg (by simp [hw b List.mem_cons_self]),vO w t (λ y hy=>hw y (List.mem_cons_of_mem _ hy)) h]
  simp
theorem rx {w t:Bytes}(hw:bZ w=true)(h:t=[]∨∃ b r,t=b::r∧j6 b=true):dl (am.mk (w++t) false)=(w,am.mk t false):=by
 unfold dl
 simp only
 rw [vO w t (λ b hb=>nI (lv hw hb)) h,List.take_left,List.drop_left,hw]
 rfl
theorem pj (p t:Bytes):gP (am.mk (p++t) false) p=am.mk t false:=by
 unfold gP
 simp only
 rw [jd,jq]; rfl
theorem w6:∀ (l:Bytes) (c:UInt8) (t:Bytes),(∀ b∈l,b≠c)→indexByte (l++c::t) c=l.length
 | [],c,t,_=>by simp [indexByte]
 | b::r,c,t,h=>by
  have ih:=w6 r c t (λ y hy=>h y (List.mem_cons_of_mem _ hy))
  have hb:(b == c)=false:=by simpa using h b List.mem_cons_self
  show indexByte (b::(r++c::t)) c=_
  unfold indexByte
  rw [hb,ih]
  have:((r.length:Int) == -1)=false:=by simp <;> omega
  simp only [Bool.false_eq_true,if_false,this,List.length_cons]
  omega
theorem sG {v:Int}(h0:0≤v):(itoa v).all dI=true∧itoa v≠[]:=by
 obtain ⟨u,rfl⟩:∃ u:Nat,v=u:=⟨v.toNat,by omega⟩
 have e:itoa (u:Int)=decDigits u:=by unfold itoa; rw [if_neg O]; simp
 rw [e]
 have:=wz (u+1) u O
 exact ⟨this.2.1,this.2.2.1⟩
theorem xH {k:bT}{t:Bytes}(hk:cB k=true)(h:hasPrefix t [91]=false):kq (am.mk (aQ k++t) false)=(k,am.mk t false):=by
 rcases kT hk with h0 | h0 | h0
 ·have e:=ue hk h0
  subst e
  have et:aQ ka=[]:=rfl
  rw [et,List.nil_append]
  unfold kq
  rw [if_neg G,if_pos h]
 ·have hn:=m6 hk h0
  have et:aQ k=[91]++itoa k.fNum++[93]:=by
   unfold aQ
   rw [if_neg (by rw [hk]; simp [h0]),if_pos h0]
  obtain ⟨hd,hne⟩:=sG hn.1
  have e1:aQ k++t=[91]++(itoa k.fNum++93::t):=by rw [et]; simp
  have hix:idx (itoa k.fNum++93::t) 93=(itoa k.fNum).length:=by
   unfold idx
   rw [w6]
   ·simp
   ·intro b hb q
    have:=ky hd hb
    rw [q] at this
    have h93:(93:UInt8).toNat=93:=rfl
    omega
  have hnp:hasPrefix (itoa k.fNum++93::t) [34]=false:=by
   rw [← Bool.not_eq_true,dM]
   rintro ⟨u,hu⟩
   cases hx:itoa k.fNum with
   | nil=>exact hne hx
   | cons c r =>
    rw [hx] at hu hd
    have hc:c=34:=(List.cons.inj hu).1
    have:=ky hd (b:=c) List.mem_cons_self
    rw [hc] at this
    have h34:(34:UInt8).toNat=34:=rfl
    omega
  unfold kq
  rw [e1,if_neg G,if_neg (by rw [jq]; simp)]
  have hd1:([91]++(itoa k.fNum++93::t)).drop 1=itoa k.fNum++93::t:=rfl
  rw [hd1,if_neg (by rw [hnp]; simp),hix,List.take_left,List.drop_left,Aj _ hn.1 hn.2.1]
  simp only
  have hv0:¬ k.fNum < 0:=by have:=hn.1; omega
  simp only [hv0,decide_true,decide_false,Bool.not_false,Bool.and_self,Bool.not_true]
  have hs:=pj [93] t
  rw [show (93::t:Bytes)=[93]++t from rfl,hs]
  refine Prod.ext ?_ Z
  cases k
  simp only at *
  rw [h0,hn.2.2]
 ·have hs:=m8 hk h0
  have et:aQ k=[91]++dZ k.fStr++[93]:=by
   unfold aQ
   rw [if_neg (by rw [hk]; simp [h0]),if_neg O]
  have e1:aQ k++t=[91]++(dZ k.fStr++([93]++t)):=by rw [et]; simp
  have hu:=uL k.fStr ([93]++t) hs.2.2 hs.2.1
  unfold kq
  rw [e1,if_neg G,if_neg (by rw [jq]; simp)]
  have hd1:([91]++(dZ k.fStr++([93]++t))).drop 1=dZ k.fStr++([93]++t):=rfl
  have hq:hasPrefix (dZ k.fStr++([93]++t)) [34]=true:=by
   rw [dM]; exact ⟨k.fStr.flatMap gj++[34]++([93]++t),by simp [dZ]⟩
  rw [hd1,if_pos hq,hu]
  simp only [Int.toNat_natCast]
  rw [List.take_left,List.drop_left,if_pos ⟨trivial,rfl⟩,pj]
  refine Prod.ext ?_ Z
  cases k
  simp only at *
  rw [h0,hs.1]
theorem qB (k:bT)(t:Bytes)(ht:∃ b r,t=b::r∧j6 b=true):∃ b r,aQ k++t=b::r∧j6 b=true:=by
 unfold aQ
 split
 ·exact ht
 ·split
  ·exact ⟨91,_,Z,by decide⟩
  ·exact ⟨91,_,Z,by decide⟩
theorem sf (k:bT):aQ k=[]∨∃ b r,aQ k=b::r∧j6 b=true:=by
 unfold aQ
 split
 ·exact .inl Z
 ·split
  ·exact .inr ⟨91,_,Z,by decide⟩
  ·exact .inr ⟨91,_,Z,by decide⟩
theorem sc {b c:UInt8}{t:Bytes}(h:b≠c):hasPrefix (b::t) [c]=false:=by
 rw [← Bool.not_eq_true,dM]
 rintro ⟨u,hu⟩
 exact h (List.cons.inj hu).1
theorem sj:∀ (new:List ac) (k:Nat) (ms:List ac) (t:Bytes),new.length < k→(∀ x∈new,bZ x.fName=true∧cB x.fKey=true)→hasPrefix t jg=false →
  gN k ms (am.mk (new.flatMap bM++t) false)=(ms++new,am.mk t false)
 | [],k,ms,t,hk,_,ht=>by
  obtain ⟨k,rfl⟩:∃ k',k=k'+1:=⟨k - 1,by omega⟩
  unfold gN
  rw [if_neg]
  ·simp
  ·rintro ⟨_,q⟩
   simp only [List.flatMap_nil,List.nil_append] at q
   rw [ht] at q; cases q
 | x::r,k,ms,t,hk,hx,ht=>by
  obtain ⟨k,rfl⟩:∃ k',k=k'+1:=⟨k - 1,by omega⟩
  have h1:=hx x List.mem_cons_self
  have ih:=sj r k (ms++[x]) t (by simp only [List.length_cons] at hk; omega) (λ y hy=>hx y (List.mem_cons_of_mem _ hy)) ht
  generalize hT:r.flatMap bM++t=T at ih
  have e:(x::r).flatMap bM++t=jg++(x.fName++(aQ x.fKey++([46]++T))):=by
   rw [List.flatMap_cons,List.append_assoc,hT]; simp [bM]
  unfold gN
  rw [e]
  simp only
  rw [if_pos ⟨trivial,jq _ _⟩]
  have hd:(jg++(x.fName++(aQ x.fKey++([46]++T)))).drop 7=x.fName++(aQ x.fKey++([46]++T)):=rfl
  have hst:stepT (am.mk (x.fName++(aQ x.fKey++([46]++T))) false)=(x,am.mk ([46]++T) false):=by
   unfold stepT
   rw [rx (t:=aQ x.fKey++([46]++T)) h1.1 (.inr (qB _ _ ⟨46,T,rfl,by decide⟩))]
   simp only
   rw [xH (t:=[46]++T) h1.2 (sc (b:=46) (c:=91) (t:=T) (by decide))]
  rw [hd,hst]
  simp only
  rw [pj,ih]
  simp
theorem ul:∀ (p w t u:Bytes),(∀ b∈p,j6 b=false)→(∀ b∈w,j6 b=false)→w++46::t=p++46::u→w=p
 | [],[],_,_,_,_,_=>rfl
 | [],c::w,t,u,_,hw,h=>by
  have:=(List.cons.inj h).1
  have h2:=hw c List.mem_cons_self
  rw [this] at h2
  exact absurd h2 (by decide)
 | c::p,[],t,u,hp,_,h=>by
  have:=(List.cons.inj h).1
  have h2:=hp c List.mem_cons_self
  rw [← this] at h2
  exact absurd h2 (by decide)
 | c::p,d::w,t,u,hp,hw,h=>by
  obtain ⟨h1,h2⟩:=List.cons.inj h
  rw [h1,ul p w t u (λ b hb=>hp b (List.mem_cons_of_mem _ hb)) (λ b hb=>hw b (List.mem_cons_of_mem _ hb)) h2]
theorem kf (s:Bytes):il s=true↔fo s=false∧bZ s=true:=by
 unfold il; simp
def kS (x:ac):ac:=ac.mk x.fName ka
def nZ (a:al):al:=al.mk (a.fModule.map kS) a.fData a.fType a.fName ka
theorem Sm.bare {a:al}(h:Sm a):Sm (nZ a):=by
 refine ⟨by show (a.fModule.map kS).length≤_; rw [List.length_map]; exact h.1,h.2.1,h.2.2.1,λ x hx=>?_⟩
 obtain ⟨y,hy,rfl⟩:=List.mem_map.1 hx
 exact h.2.2.2 y hy
theorem set_mid {α:Type}(p:List α)(x y:α)(q:List α):(p++x::q).set p.length y=p++y::q:=by
 induction p with
 | nil=>rfl
 | cons c r ih=>simp [ih]
theorem Ef {α:Type} [Inhabited α] (p:List α)(x:α)(q:List α):lat (p++x::q) (p.length:Int)=x:=by
 rw [zE,List.getD_eq_getElem?_getD]; simp
theorem z8 (a:al)(hb:a.fModule.length≤1000000000):∀ (k i:Nat),i+k=a.fModule.length→Ev2 (λ _ m=>cw a m (i:Int) ((a.fModule.take i).map kS++a.fModule.drop i)) (·=a.fModule.map kS):=by
 intro k
 induction k with
 | zero =>
  intro i hi
  refine aF ?_
  simp only [cw]
  refine ap O (aa ?_)
  rw [List.drop_of_length_le O,List.take_of_length_le O]; simp
 | succ k ih =>
  intro i hi
  refine aF ?_
  simp only [cw]
  have h1:i < a.fModule.length:=by omega
  have hl:((a.fModule.take i).map kS++a.fModule.drop i).length=a.fModule.length:=by
   rw [List.length_append,List.length_map,List.length_take,List.length_drop]; omega
  refine ao O (af O (af (aS O O) ?_))
  have hd:(a.fModule.take i).map kS++a.fModule.drop i=(a.fModule.take i).map kS++a.fModule[i]::a.fModule.drop (i+1):=by rw [List.drop_eq_getElem_cons h1]
  have hpl:((a.fModule.take i).map kS).length=i:=by rw [List.length_map,List.length_take]; omega
  have hg:lat ((a.fModule.take i).map kS++a.fModule.drop i) (i:Int)=a.fModule[i]:=by
   rw [hd]
   have:=Ef ((a.fModule.take i).map kS) a.fModule[i] (a.fModule.drop (i+1))
   rw [hpl] at this
   exact this
  rw [hg,Int.toNat_natCast]
  have hs:((a.fModule.take i).map kS++a.fModule.drop i).set i (ac.mk a.fModule[i].fName (bT.mk 0 0 ([]:Bytes)))=(a.fModule.take (i+1)).map kS++a.fModule.drop (i+1):=by
   rw [hd]
   have:=set_mid ((a.fModule.take i).map kS) a.fModule[i] (ac.mk a.fModule[i].fName (bT.mk 0 0 ([]:Bytes))) (a.fModule.drop (i+1))
   rw [hpl] at this
   rw [this,show a.fModule.take (i+1)=a.fModule.take i++[a.fModule[i]] by rw [List.take_add_one,List.getElem?_eq_getElem h1]; rfl,List.map_append,List.append_assoc]
   rfl
  rw [hs]
  have:=ih (i+1) O
  rw [Int.natCast_add,Int.natCast_one] at this
  exact this
theorem Ad (a:al)(ha:Sm a):Ev2 (λ n _=>fj n a) (·=nZ a):=by
 simp only [fj]
 have hl:=ha.1
 refine aB (λ h=>?_) (λ h=>af O ?_)
 ·have:a.fModule=[]:=by simpa using h
  refine au () ?_ (aa (by unfold nZ; rw [this]; rfl))
  refine px ?_
  simp only [dJ]
  exact ap G (aa (by trivial))
 ·have l:=z8 a O a.fModule.length 0 O
  rw [List.take_zero,List.drop_zero] at l
  exact au _ (aY l) (aa Z)
def ip (s:Bytes):Bytes×Int:=if (jA s).2=0 then (nz (nZ (jA s).1),0) else ([],(jA s).2)
theorem vR (s:Bytes)(hs:s.length≤800000000):Ev2 (λ n _=>eh n s) (·=ip s):=by
 simp only [eh]
 unfold ip
 refine au _ (B8 s hs) ?_
 have hp:=@sH s
 generalize jA s=p at hp ⊢
 obtain ⟨a,e⟩:=p
 simp only
 refine aB (λ h=>?_) (λ h=>aa (by rw [if_neg h]))
 subst h
 rw [if_pos rfl]
 have ha:=(hp Z).2.2
 exact au _ (Ad a ha) (au _ (Aw _ ha.bare) (aa Z))
theorem Cp:fv≤140737488355328:=by decide
theorem Dp {v y:ay}(h:y∈v.fItems):SizeOf.sizeOf y < SizeOf.sizeOf v:=by
 cases v
 simp only [ay.fItems] at h
 have:=List.sizeOf_lt_of_mem h
 simp only [ay.mk.sizeOf_spec]
 omega
theorem BR {α:Type} [Inhabited α] (l:List α)(i:Nat)(h:i < l.length):l.set i l[i]=l:=by
 apply List.ext_getElem G
 intro j h1 h2
 rw [List.getElem_set]
 split
 ·rename_i e; subst e; rfl
 ·rfl
theorem vr:∀ (N:Nat) (v:ay),SizeOf.sizeOf v < N→ay.Bd v→Ev2 (λ n _=>bO n v) (·=v):=by
 have hW:=Cp
 intro N
 induction N with
 | zero=>intro v h; omega
 | succ N ih =>
  intro v hv hb
  have h1:=hb.bKeys; have h2:=hb.bItems
  refine px ?_
  simp only [bO]
  refine af O (aB (λ h=>?_) (λ h=>af O ?_))
  ·have he:v.fItems=[]:=by simpa using h
   refine au () ?_ (aa (by cases v; simp only [ay.fItems] at he; subst he; rfl))
   refine aY (f:=λ n m=>dB (bO n) m) (aF ?_)
   simp only [dB]
   exact ap G (aa (by trivial))
  ·have loop:∀ (k i:Nat),i+k=v.fItems.length→Ev2 (λ n m=>cu (bO n) v m (i:Int) v.fItems) (·=v.fItems):=by
    intro k
    induction k with
    | zero =>
     intro i hi
     refine aF ?_
     simp only [cu]
     exact ap O (aa Z)
    | succ k ihk =>
     intro i hi
     have hil:i < v.fItems.length:=by omega
     refine aF ?_
     simp only [cu]
     refine ao O (af O ?_)
     rw [co _ _ hil]
     have hmem:=List.getElem_mem hil
     refine cy _ (ih _ (by have:=Dp hmem; omega) (hb.eItems _ hmem)) (af O (af (aS O O) ?_))
     rw [Int.toNat_natCast,BR _ _ hil]
     have:=ihk (i+1) O
     rw [Int.natCast_add,Int.natCast_one] at this
     exact this
   exact cy _ (aY (f:=λ n m=>cu (bO n) v m 0 v.fItems) (loop _ 0 (Nat.zero_add _))) (aa (ay.eta v))
theorem Aq (c:ab)(hb:ab.Bd c):Ev2 (λ n _=>fE n c) (·=c):=by
 have hW:=Cp
 simp only [fE]
 have h1:=hb.bReplace; have h2:=hb.bDeps; have h3:=hb.bOldDeps
 exact cy _ (vr _ _ (Nat.lt_succ_self _) hb.bBefore) (cy _ (vr _ _ (Nat.lt_succ_self _) hb.bAfter) (af O (af O (af O (aa Z)))))
theorem uJ:aQ ka=[]:=by unfold aQ; rw [if_pos (.inr Z)]
theorem zw:∀ (ms:List ac),(∀ x∈ms,(bM x).length≤80)→(ms.flatMap bM).length≤80*ms.length
 | [],_=>by simp
 | x::ms,h=>by
  have h1:=h x (List.mem_cons_self ..)
  have h2:=zw ms λ y hy=>h y (List.mem_cons_of_mem _ hy)
  rw [List.flatMap_cons,List.length_append,List.length_cons]; omega
theorem C9 {a:al}(h:nC (nZ a)=0):(gG (nZ a)).length≤2000:=by
 obtain ⟨c1,c2,c3,c4,_⟩:=(mq _).1 h
 have hl:=zw (nZ a).fModule λ x hx=>by
  have hi:=eH (c2 x hx).1
  obtain ⟨y,_,rfl⟩:=List.mem_map.1 hx
  have e:aQ (kS y).fKey=[]:=uJ
  unfold bM
  rw [e]
  simp only [List.length_append,List.length_cons,List.length_nil,show jg.length=7 from rfl]
  omega
 have h1:=eH ((kf _).1 c3).2
 have h2:=eH c4
 have hd:(if (nZ a).fData=true then bF else ([]:Bytes)).length≤5:=by split <;> simp [bF]
 have e:aQ (nZ a).fKey=[]:=uJ
 unfold gG
 rw [e]
 simp only [List.length_append,List.length_cons,List.length_nil]; omega
theorem sg (s:Bytes):(ip s).1.length≤2000:=by
 unfold ip
 split
 ·show (nz _).length≤_
  unfold nz
  split
  ·rename_i h; exact C9 h
  ·simp
 ·simp
theorem Ff (l:List Bytes)(s:Bytes)(hb:l.length≤fv):∀ (k i:Nat),i+k=l.length→Ev2 (λ _ m=>a6 l s m (i:Int)) (λ r=>(s∈l.drop i∧∃ j:Nat,r=.inr (j:Int))∨(s ∉ l.drop i∧r=.inl ())):=by
 have hW:=qP
 intro k
 induction k with
 | zero =>
  intro i hi
  refine aF ?_
  simp only [a6]
  exact ap O (aa (.inr ⟨by rw [List.drop_of_length_le O]; simp,Z⟩))
 | succ k ih =>
  intro i hi
  have h1:i < l.length:=by omega
  refine aF ?_
  simp only [a6]
  refine ao O (af O ?_)
  rw [co _ _ h1,List.drop_eq_getElem_cons h1]
  refine aB (λ h=>aa (.inl ⟨by rw [h]; exact List.mem_cons_self ..,i,Z⟩)) (λ h=>af (aS O O) ?_)
  have:=ih (i+1) O
  rw [Int.natCast_add,Int.natCast_one] at this
  have hm:s∈l[i]::l.drop (i+1)↔s∈l.drop (i+1):=by
   rw [List.mem_cons]; exact ⟨λ q=>q.resolve_left h,.inr⟩
  refine ed this λ r hr=>?_
  rw [hm]; exact hr
theorem zn (l:List Bytes)(s:Bytes)(hb:l.length≤fv):Ev2 (λ n _=>a8 n l s) (·=decide (s∈l)):=by
 simp only [a8]
 refine gZ (λ r=>(0≤r)↔s∈l) ?_ (λ r hr=>aa (by simp only [hr]))
 simp only [cn]
 have l1:=Ff l s hb l.length 0 O
 rw [List.drop_zero] at l1
 refine oD (ed (aY l1) λ r hr=>?_)
 rcases hr with ⟨h1,j,rfl⟩ | ⟨h1,rfl⟩
 ·exact ⟨λ _=>h1,λ _=>by omega⟩
 ·exact aa ⟨λ h=>by omega,λ h=>absurd h h1⟩
theorem EP (l:List Bytes)(s:Bytes)(hb:l.length≤65536)(hl:∀ p∈l,p.length≤65536)(hs:s.length≤32768):∀ (k i:Nat),i+k=l.length→Ev2 (λ _ m=>eP l s m (i:Int)) (·=if Glob.anyL (l.drop i) s=true then .inr true else .inl ()):=by
 intro k
 induction k with
 | zero =>
  intro i hi
  refine aF ?_
  simp only [eP]
  exact ap O (aa (by rw [List.drop_of_length_le O]; rfl))
 | succ k ih =>
  intro i hi
  have h1:i < l.length:=by omega
  refine aF ?_
  simp only [eP]
  refine ao O (af O ?_)
  rw [co _ _ h1,List.drop_eq_getElem_cons h1]
  refine af ⟨hl _ (List.getElem_mem h1),hs⟩ ?_
  have e:Glob.anyL (l[i]::l.drop (i+1)) s=(Glob.matchL l[i] s||Glob.anyL (l.drop (i+1)) s):=rfl
  rw [e]
  cases hq:Glob.matchL l[i] s
  ·refine ap G (af (aS O O) ?_)
   have:=ih (i+1) O
   rw [Int.natCast_add,Int.natCast_one] at this
   rw [Bool.false_or]; exact this
  ·exact ao Z (aa (by rw [Bool.true_or,if_pos Z]))
theorem Bc (l:List Bytes)(s:Bytes)(hb:l.length≤65536)(hl:∀ p∈l,p.length≤65536)(hs:s.length≤32768):Ev2 (λ n _=>jL n l s) (·=Glob.anyL l s):=by
 simp only [jL]
 have l1:=EP l s hb hl hs l.length 0 O
 rw [List.drop_zero] at l1
 cases hq:Glob.anyL l s
 ·rw [if_neg (by simp [hq])] at l1
  exact gH () (aY l1) (aa Z)
 ·rw [if_pos hq] at l1
  exact gw true (aY l1) Z
def lW (t:List Bytes)(addr:Bytes):Bool:=decide (t=[])||Glob.anyL t addr||(decide ((ip addr).2=0)&&Glob.anyL t (ip addr).1)
theorem xy (t:List Bytes)(addr:Bytes)(hb:t.length≤65536)(hl:∀ p∈t,p.length≤65536)(ha:addr.length≤300):Ev2 (λ n _=>dy n t addr) (·=lW t addr):=by
 have hs:=sg addr
 simp only [dy]
 unfold lW
 refine cy (decide (t=[])||Glob.anyL t addr) ?_ ?_
 ·refine aB (λ h=>aa ?_) (λ h=>cy _ (Bc t addr hb hl O) (aa ?_))
  ·rw [decide_eq_true (List.length_eq_zero_iff.1 O)]; rfl
  ·rw [decide_eq_false (λ e=>h (by rw [e]; rfl))]; rfl
 ·cases (decide (t=[])||Glob.anyL t addr)
  ·refine ap (by decide) (cy _ (vR addr O) (cy (decide ((ip addr).2=0)&&Glob.anyL t (ip addr).1) ?_ (aa Z)))
   refine aB (λ h=>?_) (λ h=>aa (by rw [decide_eq_false h]; rfl))
   rw [decide_eq_true h]
   exact cy _ (Bc t _ hb hl O) (aa Z)
  ·exact ao Z (aa Z)
def lh (c:ab):Bytes:=(ip c.fAddr).1
def wR (x:ab):Bool:=decide (x.fAction=4)||decide (x.fAction=3)
theorem FK (x:ab):gJ x=some (wR x):=by
 unfold gJ wR
 by_cases h:x.fAction=4 <;> simp [h]
def ndP (x y:ab):Bool:=decide (lh y∈x.fDeps)||(wR x&&!decide (y.fAction=0)&&decide (lh x∈y.fOldDeps))
def cat (l:List ab)(k:Nat):ab:=l.getD k default
theorem gC (l:List ab)(k:Nat)(h:k < l.length):l[k]=cat l k:=by
 unfold cat; rw [List.getD_eq_getElem?_getD,List.getElem?_eq_getElem h]; rfl
def on (ch:List Bool)(k:Nat):Bool:=ch.getD k false
theorem uh (ch:List Bool)(k:Nat)(h:k < ch.length):ch[k]=on ch k:=by
 unfold on; rw [List.getD_eq_getElem?_getD,List.getElem?_eq_getElem h]; rfl
theorem wm (ch:List Bool)(k q:Nat)(h:k < ch.length):on (ch.set k true) q=(decide (k=q)||on ch q):=by
 unfold on
 rw [List.getD_eq_getElem?_getD,List.getD_eq_getElem?_getD,List.getElem?_set]
 by_cases e:k=q
 ·subst e; simp [h]
 ·simp [e]
def fm (st:List Bool×List Int)(k:Nat):List Bool×List Int:=if on st.1 k=true then st else (st.1.set k true,st.2++[(k:Int)])
theorem uI {ch:List Bool}{t:List Int}{x:Nat}(h:on ch x=false):fm (ch,t) x=(ch.set x true,t++[(x:Int)]):=by unfold fm; rw [if_neg (by simp [h])]
theorem sb {ch:List Bool}{t:List Int}{x:Nat}(h:on ch x=true):fm (ch,t) x=(ch,t):=by unfold fm; rw [if_pos h]
theorem vE (ch:List Bool)(t:List Int)(x:Nat):(fm (ch,t) x).1.length=ch.length∧(fm (ch,t) x).2.length≤t.length+1:=by
 cases h:on ch x
 ·rw [uI h]; simp
 ·rw [sb h]; simp
theorem vM (l:List ab)(rs:List Bytes)(ch:List Bool)(td:List Int)(i:Nat)(hi:i < ch.length)(ht:td.length≤1000000):dO (cN.mk l rs ch td) (i:Int)=some (cN.mk l rs (fm (ch,td) i).1 (fm (ch,td) i).2):=by
 have hc:(0:Int)≤(i:Int)∧(i:Int) < (ch.length:Int):=by omega
 unfold dO
 simp only [ck,if_pos hc,co _ _ hi,uh _ _ hi]
 cases h:on ch i
 ·rw [uI h,if_pos (show (!false)=true from rfl),if_pos (by simp only [List.length_cons,List.length_nil]; omega)]; rfl
 ·rw [sb h,if_neg (by decide)]
theorem FX (l:List ab)(rs:List Bytes)(hrs:rs=l.map lh)(hB:∀ c∈l,ab.Bd c)(i t:Nat)(hi:i < l.length)(ht:t < l.length) :
  Ev2 (λ n _=>ck ((0:Int)≤(t:Int)∧(t:Int) < (rs.length:Int)) <| (a8 n ((lat l (i:Int)).fDeps) (lat rs (t:Int))).bind λ r37=>if r37=true then some true else (gJ (lat l (i:Int))).bind λ r40=>if r40=true then if (lat l (t:Int)).fAction=0 then some false else ck ((0:Int)≤(i:Int)∧(i:Int) < (rs.length:Int)) <| (a8 n ((lat l (t:Int)).fOldDeps) (lat rs (i:Int))).bind λ r45=>some r45 else some false) (·=ndP (cat l i) (cat l t)):=by
 have hl:rs.length=l.length:=by rw [hrs,List.length_map]
 have e1:∀ k:Nat,k < l.length→lat rs (k:Int)=lh (cat l k):=by
  intro k hk
  rw [co _ _ O,← gC l k hk]; subst hrs; rw [List.getElem_map]
 rw [co l i hi,co l t ht,gC l i hi,gC l t ht,e1 i hi,e1 t ht]
 have bi:=hB _ (gC l i hi ▸ List.getElem_mem hi)
 have bt:=hB _ (gC l t ht ▸ List.getElem_mem ht)
 have d1:=bi.bDeps
 have d2:=bt.bOldDeps
 unfold ndP
 refine af O (cy _ (zn _ _ O) ?_)
 refine aB (λ h=>aa (by rw [h]; rfl)) (λ h=>?_)
 rw [Bool.eq_false_iff.2 h,Bool.false_or]
 refine cy _ (aU (FK _) Z) ?_
 cases wR (cat l i)
 ·exact ap (by decide) (aa Z)
 ·refine ao Z (aB (λ h=>aa (by rw [decide_eq_true h]; rfl)) (λ h=>af O (cy _ (zn _ _ O) (aa ?_))))
  rw [decide_eq_false h]; rfl
theorem E3 (l:List ab)(rs:List Bytes)(hrs:rs=l.map lh)(hB:∀ c∈l,ab.Bd c)(hn:l.length≤1000)(i:Nat)(hi:i < l.length)(ch0:List Bool)(td0:List Int):∀ (k t:Nat) (ch:List Bool) (td:List Int),t+k=l.length→ch.length=l.length→td.length≤100000+t →
  Ev2 (λ n m=>br n (cN.mk l rs ch0 td0) (i:Int) m (t:Int) l td rs ch) (·=(l,(((List.range' t k).filter λ q=>ndP (cat l i) (cat l q)).foldl fm (ch,td)).2,rs,(((List.range' t k).filter λ q=>ndP (cat l i) (cat l q)).foldl fm (ch,td)).1)):=by
 intro k
 induction k with
 | zero =>
  intro t ch td ht hc hd
  refine aF ?_
  simp only [br]
  exact ap O (aa Z)
 | succ k ih =>
  intro t ch td ht hc hd
  have h1:t < l.length:=by omega
  refine aF ?_
  simp only [br]
  refine ao O ?_
  rw [List.range'_succ,List.filter_cons]
  refine cy (l,(if ndP (cat l i) (cat l t)=true then fm (ch,td) t else (ch,td)).2,rs,(if ndP (cat l i) (cat l t)=true then fm (ch,td) t else (ch,td)).1) ?_ ?_
  ·refine af O (cy _ (FX l rs hrs hB i t hi h1) ?_)
   cases ndP (cat l i) (cat l t)
   ·exact ap (by decide) (aa Z)
   ·refine ao Z (cy _ (aU (vM l rs ch td t O O) Z) (aa Z))
  ·refine af (aS O O) ?_
   have hp:=vE ch td t
   cases ndP (cat l i) (cat l t)
   ·have:=ih (t+1) ch td O hc O
    rw [Int.natCast_add,Int.natCast_one] at this
    exact this
   ·have:=ih (t+1) (fm (ch,td) t).1 (fm (ch,td) t).2 O O O
    rw [Int.natCast_add,Int.natCast_one] at this
    exact this
theorem E5 (l:List ab)(rs:List Bytes)(hrs:rs=l.map lh)(hB:∀ c∈l,ab.Bd c)(hn:l.length≤1000)(i:Nat)(hi:i < l.length)(ch:List Bool)(td:List Int)(hc:ch.length=l.length)(hd:td.length≤100000) :
  Ev2 (λ n _=>cC n (cN.mk l rs ch td) (i:Int)) (·=cN.mk l rs (((List.range' 0 l.length).filter λ q=>ndP (cat l i) (cat l q)).foldl fm (ch,td)).1 (((List.range' 0 l.length).filter λ q=>ndP (cat l i) (cat l q)).foldl fm (ch,td)).2):=by
 simp only [cC]
 exact af O (cy _ (aY (E3 l rs hrs hB hn i hi ch td l.length 0 ch td O hc O)) (aa Z))
theorem wU:∀ (S:List Bool) (k:Nat),k < S.length→on S k=false→(S.set k true).count false+1=S.count false
 | [],k,h,_=>by simp at h
 | b::S,0,_,h=>by
  have h:b=false:=h
  subst h; simp
 | b::S,k+1,h,h2=>by
  have:=wU S k (by simpa using h) h2
  simp only [List.set_cons_succ,List.count_cons]
  omega
theorem nB:∀ (L:List Nat) (ch:List Bool) (t:List Int),(∀ q∈L,q < ch.length) →
  (L.foldl fm (ch,t)).1.length=ch.length∧(∀ q,on (L.foldl fm (ch,t)).1 q=true↔on ch q=true∨q∈L)∧(∀ y∈t,y∈(L.foldl fm (ch,t)).2) ∧
  (∀ y∈(L.foldl fm (ch,t)).2,y∈t∨∃ q∈L,y=(q:Int))∧(∀ q,on (L.foldl fm (ch,t)).1 q=true→on ch q=true∨(q:Int)∈(L.foldl fm (ch,t)).2) ∧
  (L.foldl fm (ch,t)).2.length+(L.foldl fm (ch,t)).1.count false≤t.length+ch.count false
 | [],ch,t,_=>⟨Z,λ q=>by simp,λ y h=>h,λ y h=>.inl h,λ y h=>.inl h,Nat.le_refl _⟩
 | x::L,ch,t,hU=>by
  rw [List.foldl_cons]
  have hx:=hU x (List.mem_cons_self ..)
  cases hc:on ch x
  ·rw [uI hc]
   obtain ⟨a0,a1,a2,a3,a4,a5⟩:=nB L (ch.set x true) (t++[(x:Int)]) (λ q h=>by rw [List.length_set]; exact hU q (List.mem_cons_of_mem _ h))
   refine ⟨by rw [a0,List.length_set],λ q=>?_,λ y h=>a2 y (List.mem_append_left _ h),λ y h=>?_,λ q h=>?_,?_⟩
   ·rw [a1 q,wm _ _ _ hx,List.mem_cons,Bool.or_eq_true,decide_eq_true_eq]
    constructor
    ·rintro ((h | h) | h)
     ·exact .inr (.inl h.symm)
     ·exact .inl h
     ·exact .inr (.inr h)
    ·rintro (h | h | h)
     ·exact .inl (.inr h)
     ·exact .inl (.inl h.symm)
     ·exact .inr h
   ·rcases a3 y h with h | ⟨q,h,e⟩
    ·rcases List.mem_append.1 h with h | h
     ·exact .inl h
     ·exact .inr ⟨x,List.mem_cons_self ..,List.mem_singleton.1 h⟩
    ·exact .inr ⟨q,List.mem_cons_of_mem _ h,e⟩
   ·rcases a4 q h with h | h
    ·rw [wm _ _ _ hx,Bool.or_eq_true,decide_eq_true_eq] at h
     rcases h with h | h
     ·subst h; exact .inr (a2 _ (List.mem_append_right _ (List.mem_singleton.2 rfl)))
     ·exact .inl h
    ·exact .inr h
   ·have:=wU ch x hx hc
    rw [List.length_append,List.length_singleton] at a5
    omega
  ·rw [sb hc]
   obtain ⟨a0,a1,a2,a3,a4,a5⟩:=nB L ch t (λ q h=>hU q (List.mem_cons_of_mem _ h))
   refine ⟨a0,λ q=>?_,a2,λ y h=>?_,a4,a5⟩
   ·rw [a1 q,List.mem_cons]
    constructor
    ·rintro (h | h)
     ·exact .inl h
     ·exact .inr (.inr h)
    ·rintro (h | h | h)
     ·exact .inl h
     ·subst h; exact .inl hc
     ·exact .inr h
   ·rcases a3 y h with h | ⟨q,h,e⟩
    ·exact .inl h
    ·exact .inr ⟨q,List.mem_cons_of_mem _ h,e⟩
inductive Rj (N:Nat)(S:Nat→Prop)(nd:Nat→Nat→Prop):Nat→Prop where
 | base {k:Nat} (hk:k < N) (h:S k):Rj N S nd k
 | step {i k:Nat} (h:Rj N S nd i) (hk:k < N) (hn:nd i k):Rj N S nd k
theorem Rj.lt {N:Nat}{S:Nat→Prop}{nd:Nat→Nat→Prop}{k:Nat}(h:Rj N S nd k):k < N:=by cases h <;> assumption
structure DfJ (N:Nat)(S:Nat→Prop)(nd:Nat→Nat→Prop)(ch:List Bool)(td:List Int):Prop where
 a:∀ k,on ch k=true→Rj N S nd k
 b:∀ k,k < N→S k→on ch k=true
 c:∀ x∈td,∃ q:Nat,x=(q:Int)∧q < N∧on ch q=true
 d:∀ k,on ch k=true→(k:Int)∈td∨∀ q,q < N→nd k q→on ch q=true
theorem DfJ.fin {N:Nat}{S:Nat→Prop}{nd:Nat→Nat→Prop}{ch:List Bool}(h:DfJ N S nd ch [])(k:Nat):on ch k=true↔Rj N S nd k:=by
 refine ⟨h.a k,λ hr=>?_⟩
 induction hr with
 | base hk h0=>exact h.b _ hk h0
 | step _ hk hn ih =>
  rcases h.d _ ih with h1 | h1
  ·cases h1
  ·exact h1 _ hk hn
def mC (l:List ab)(sel:Bytes→Bool)(k:Nat):Prop:=Rj l.length (λ k=>sel (cat l k).fAddr=true) (λ i k=>ndP (cat l i) (cat l k)=true) k
theorem Dy (l:List ab)(rs:List Bytes)(hrs:rs=l.map lh)(hB:∀ c∈l,ab.Bd c)(hn:l.length≤1000)(sel:Bytes→Bool):∀ (k:Nat) (ch:List Bool) (td:List Int),ch.length=l.length→td.length+ch.count false≤k→k≤10000→DfJ l.length (λ k=>sel (cat l k).fAddr=true) (λ i k=>ndP (cat l i) (cat l k)=true) ch td →
  Ev2 (λ n m=>cF n m l td rs ch) (λ r=>r.2.2.2.length=l.length∧∀ k,on r.2.2.2 k=true↔mC l sel k):=by
 intro k
 induction k with
 | zero =>
  intro ch td hl hk _ hI
  have ht:td=[]:=List.length_eq_zero_iff.1 O
  subst ht
  refine aF ?_
  simp only [cF]
  exact ap (by decide) (aa ⟨hl,hI.fin⟩)
 | succ k ih =>
  intro ch td hl hk hK hI
  refine aF ?_
  simp only [cF]
  refine aB (λ h=>?_) (λ h=>?_)
  ·have hpos:0 < td.length:=by omega
   refine af (aS O O) (af O (af (aS O O) (af O ?_)))
   have hx:lat td ((td.length:Int) - 1)=td[td.length - 1]:=by
    have:=co td (td.length - 1) O
    rw [← this]; congr 1; omega
   have hmem:td[td.length - 1]∈td:=List.getElem_mem O
   obtain ⟨i,hxi,hiN,hon⟩:=hI.c _ hmem
   rw [hx,hxi]
   have htk:((td.length:Int) - 1).toNat=td.length - 1:=by omega
   rw [htk]
   refine cy _ (E5 l rs hrs hB hn i hiN ch (td.take (td.length - 1)) hl (by rw [List.length_take]; omega)) ?_
   obtain ⟨a0,a1,a2,a3,a4,a5⟩:=nB ((List.range' 0 l.length).filter λ q=>ndP (cat l i) (cat l q)) ch (td.take (td.length - 1)) (λ q hq=>by
    have:=(List.mem_range'_1.1 (List.mem_filter.1 hq).1).2; omega)
   have hsp:∀ y,y∈td↔y∈td.take (td.length - 1)∨y=(i:Int):=by
    intro y
    have e:td.take (td.length - 1)++[td[td.length - 1]]=td:=by
     have:=List.take_append_getElem (l:=td) (i:=td.length - 1) O
     rw [this,List.take_of_length_le O]
    constructor
    ·intro h; rw [← e] at h
     rcases List.mem_append.1 h with h | h
     ·exact .inl h
     ·exact .inr ((List.mem_singleton.1 h).trans hxi)
    ·rintro (h | h)
     ·exact List.mem_of_mem_take h
     ·rw [h,← hxi]; exact hmem
   have hmf:∀ q,q∈((List.range' 0 l.length).filter λ q=>ndP (cat l i) (cat l q))↔q < l.length∧ndP (cat l i) (cat l q)=true:=by
    intro q; rw [List.mem_filter,List.mem_range'_1]; exact ⟨λ h=>⟨by omega,h.2⟩,λ h=>⟨by omega,h.2⟩⟩
   refine ih (((List.range' 0 l.length).filter λ q=>ndP (cat l i) (cat l q)).foldl fm (ch,td.take (td.length - 1))).1 (((List.range' 0 l.length).filter λ q=>ndP (cat l i) (cat l q)).foldl fm (ch,td.take (td.length - 1))).2 (a0.trans hl) ?_ O ⟨λ q hq=>?_,λ q hq h=>(a1 q).2 (.inl (hI.b q hq h)),λ x hx=>?_,λ q hq=>?_⟩
   ·rw [List.length_take] at a5; omega
   ·rcases (a1 q).1 hq with h1 | h1
    ·exact hI.a q h1
    ·exact .step (hI.a _ hon) ((hmf q).1 h1).1 ((hmf q).1 h1).2
   ·rcases a3 x hx with h1 | ⟨q,h1,e⟩
    ·obtain ⟨q,e,h2,h3⟩:=hI.c x ((hsp x).2 (.inl h1))
     exact ⟨q,e,h2,(a1 q).2 (.inl h3)⟩
    ·exact ⟨q,e,((hmf q).1 h1).1,(a1 q).2 (.inr h1)⟩
   ·rcases a4 q hq with h1 | h1
    ·rcases hI.d q h1 with h2 | h2
     ·rcases (hsp _).1 h2 with h3 | h3
      ·exact .inl (a2 _ h3)
      ·obtain rfl:q=i:=by omega
       exact .inr λ z hz hn=>(a1 z).2 (.inr ((hmf z).2 ⟨hz,hn⟩))
     ·exact .inr λ z hz hn=>(a1 z).2 (.inl (h2 z hz hn))
    ·exact .inl h1
  ·have ht:td=[]:=List.length_eq_zero_iff.1 O
   subst ht
   exact aa ⟨hl,hI.fin⟩
theorem DI (l:List ab)(hn:l.length≤1000)(hA:∀ c∈l,c.fAddr.length≤300):∀ (k i:Nat) (p q:List Bytes),i+k=l.length→p.length=i→q.length=k→Ev2 (λ n m=>cI n l m (i:Int) (p++q)) (·=p++(l.drop i).map lh):=by
 intro k
 induction k with
 | zero =>
  intro i p q hi hp hq
  refine aF ?_
  simp only [cI]
  exact ap O (aa (by rw [List.drop_of_length_le O,List.length_eq_zero_iff.1 hq]; rfl))
 | succ k ih =>
  intro i p q hi hp hq
  have h1:i < l.length:=by omega
  refine aF ?_
  simp only [cI]
  refine ao O (af O ?_)
  rw [co _ _ h1,List.drop_eq_getElem_cons h1]
  have ha:=hA _ (List.getElem_mem h1)
  refine cy _ (vR _ O) (af (by rw [List.length_append]; omega) (af (aS O O) ?_))
  cases q with
  | nil=>simp at hq
  | cons x q =>
   have e:∀ y:Bytes,(p++x::q).set ((i:Int).toNat) y=(p++[y])++q:=by
    intro y
    rw [Int.toNat_natCast,← hp,List.set_append_right _ _ (Nat.le_refl _),Nat.sub_self]; simp
   rw [e]
   have:=ih (i+1) (p++[(ip l[i].fAddr).1]) q O (by simp [hp]) (by simpa using hq)
   rw [Int.natCast_add,Int.natCast_one] at this
   refine ed this λ r hr=>?_
   rw [hr]; simp only [List.map_cons,List.append_assoc,List.singleton_append]; rfl
theorem EO (t:List Bytes)(l:List ab)(rs:List Bytes)(ht:t.length≤65536)(hts:∀ p∈t,p.length≤65536)(hn:l.length≤1000)(hA:∀ c∈l,c.fAddr.length≤300):∀ (k i:Nat) (ch:List Bool) (td:List Int),i+k=l.length→ch.length=l.length→td.length≤i →
  Ev2 (λ n m=>cE n t l m (i:Int) l td rs ch) (·=(l,(((List.range' i k).filter λ q=>lW t (cat l q).fAddr).foldl fm (ch,td)).2,rs,(((List.range' i k).filter λ q=>lW t (cat l q).fAddr).foldl fm (ch,td)).1)):=by
 intro k
 induction k with
 | zero =>
  intro i ch td hi hc hd
  refine aF ?_
  simp only [cE]
  exact ap O (aa Z)
 | succ k ih =>
  intro i ch td hi hc hd
  have h1:i < l.length:=by omega
  have ha:=hA _ (List.getElem_mem h1)
  refine aF ?_
  simp only [cE]
  refine ao O ?_
  rw [co _ _ h1,List.range'_succ,List.filter_cons]
  refine cy (l,(if lW t (cat l i).fAddr=true then fm (ch,td) i else (ch,td)).2,rs,(if lW t (cat l i).fAddr=true then fm (ch,td) i else (ch,td)).1) ?_ ?_
  ·refine af O (cy _ (xy t _ ht hts ha) ?_)
   rw [gC l i h1]
   cases lW t (cat l i).fAddr
   ·exact ap (by decide) (aa Z)
   ·exact ao Z (cy _ (aU (vM l rs ch td i O O) Z) (aa Z))
  ·refine af (aS O O) ?_
   have hp:=vE ch td i
   cases lW t (cat l i).fAddr
   ·have:=ih (i+1) ch td O hc O
    rw [Int.natCast_add,Int.natCast_one] at this
    exact this
   ·have:=ih (i+1) (fm (ch,td) i).1 (fm (ch,td) i).2 O O O
    rw [Int.natCast_add,Int.natCast_one] at this
    exact this
def oY (l:List ab)(ch:List Bool):List ab:=((List.range' 0 l.length).filter λ k=>on ch k).map (cat l)
theorem E4 (l:List ab)(ch:List Bool)(hn:l.length≤1000)(hB:∀ c∈l,ab.Bd c)(hc:ch.length=l.length):∀ (k i:Nat) (out:List ab),i+k=l.length→out.length≤i→Ev2 (λ n m=>cH n l ch m out (i:Int)) (·=out++((List.range' i k).filter λ k=>on ch k).map (cat l)):=by
 intro k
 induction k with
 | zero =>
  intro i out hi ho
  refine aF ?_
  simp only [cH]
  exact ap O (aa G)
 | succ k ih =>
  intro i out hi ho
  have h1:i < l.length:=by omega
  refine aF ?_
  simp only [cH]
  refine ao O ?_
  rw [co _ _ h1,co ch i O,uh,List.range'_succ,List.filter_cons]
  refine cy (out++if on ch i=true then [cat l i] else []) ?_ ?_
  ·refine af O (af O ?_)
   cases on ch i
   ·exact ap (by decide) (aa G)
   ·refine ao Z (cy _ (Aq _ (hB _ (List.getElem_mem h1))) (af (by simp only [List.length_cons,List.length_nil]; omega) (aa ?_)))
    rw [gC l i h1]; rfl
  ·refine af (aS O O) ?_
   have:=ih (i+1) (out++if on ch i=true then [cat l i] else []) O (by
    rw [List.length_append]
    split <;> simp <;> omega)
   rw [Int.natCast_add,Int.natCast_one] at this
   refine ed this λ r hr=>?_
   rw [hr]
   cases on ch i <;> simp
theorem z1 (t:List Bytes)(l:List ab)(ht:t.length≤65536)(hts:∀ p∈t,p.length≤65536)(hn:l.length≤1000)(hB:∀ c∈l,ab.Bd c)(hA:∀ c∈l,c.fAddr.length≤300) :
  Ev2 (λ n _=>dx n t l) (λ r=>∃ ch:List Bool,ch.length=l.length∧(∀ k,on ch k=true↔mC l (lW t) k)∧r=oY l ch):=by
 simp only [dx]
 refine af O (af O ?_)
 refine cy (l.map lh) ?_ ?_
 ·have:=DI l hn hA l.length 0 [] (List.replicate (l.length:Int).toNat []) O rfl G
  simpa using aY this
 ·have hlr:(List.replicate (l.length:Int).toNat false).length=l.length:=by simp
  refine cy _ (aY (EO t l (l.map lh) ht hts hn hA l.length 0 (List.replicate (l.length:Int).toNat false) [] O hlr (Nat.le_refl _))) ?_
  obtain ⟨a0,a1,a2,a3,a4,a5⟩:=nB ((List.range' 0 l.length).filter λ q=>lW t (cat l q).fAddr) (List.replicate (l.length:Int).toNat false) [] (λ q hq=>by
   have:=(List.mem_range'_1.1 (List.mem_filter.1 hq).1).2; omega)
  have hmf:∀ q,q∈((List.range' 0 l.length).filter λ q=>lW t (cat l q).fAddr)↔q < l.length∧lW t (cat l q).fAddr=true:=by
   intro q; rw [List.mem_filter,List.mem_range'_1]; exact ⟨λ h=>⟨by omega,h.2⟩,λ h=>⟨by omega,h.2⟩⟩
  have hoff:∀ q,¬ on (List.replicate (l.length:Int).toNat false) q=true:=by
   intro q h
   unfold on at h
   rw [List.getD_eq_getElem?_getD,List.getElem?_replicate] at h
   split at h <;> simp at h
  have hcnt:(List.replicate (l.length:Int).toNat false).count false≤l.length:=by
   have:=List.count_le_length (a:=false) (l:=List.replicate (l.length:Int).toNat false); omega
  refine gZ _ (aY (Dy l (l.map lh) Z hB hn (lW t) 2000 (((List.range' 0 l.length).filter λ q=>lW t (cat l q).fAddr).foldl fm (List.replicate (l.length:Int).toNat false,[])).1 (((List.range' 0 l.length).filter λ q=>lW t (cat l q).fAddr).foldl fm (List.replicate (l.length:Int).toNat false,[])).2 (a0.trans hlr) (by simp only [List.length_nil] at a5; omega) O ⟨λ q hq=>?_,λ q hq h=>(a1 q).2 (.inr ((hmf q).2 ⟨hq,h⟩)),λ x hx=>?_,λ q hq=>?_⟩)) (λ r hr=>?_)
  ·rcases (a1 q).1 hq with h | h
   ·exact absurd h (hoff q)
   ·exact .base ((hmf q).1 h).1 ((hmf q).1 h).2
  ·rcases a3 x hx with h | ⟨q,h,e⟩
   ·cases h
   ·exact ⟨q,e,((hmf q).1 h).1,(a1 q).2 (.inr h)⟩
  ·rcases a4 q hq with h | h
   ·exact absurd h (hoff q)
   ·exact .inl h
  ·refine cy _ (aY (E4 l r.2.2.2 hn hB hr.1 l.length 0 [] O (Nat.le_refl _))) (aa ⟨r.2.2.2,hr.1,hr.2,Z⟩)
theorem Bw {l:List ab}{c:List Bool}{x:ab}(h:x∈oY l c):x∈l:=by
 unfold oY at h
 obtain ⟨k,hk,rfl⟩:=List.mem_map.1 h
 have:=(List.mem_range'_1.1 (List.mem_filter.1 hk).1).2
 rw [← gC l k O]; exact List.getElem_mem _
theorem Bt (l:List ab)(c:List Bool):(oY l c).length≤l.length:=by
 unfold oY
 rw [List.length_map]
 exact Nat.le_trans (List.length_filter_le ..) G
end Go.Ab.R06
end
section
namespace Go.Ab.R06
open Go.Proofs Go.Ab Go.Ab.RB
attribute [local irreducible] awp eC aW aA bN AV.sub M dY
def eN (l_0:List Bool)(s_1:Bytes)(b_2:Int)(any_3:Bool)(all_4:Bool):Nat→Int→(List Bool)→Option (List Bool)
 | 0,_,_=>none
 | m+1,i31,l32 =>
 if i31 < (l_0.length:Int) then
  (
    if any_3=true then
     ck ((0:Int)≤i31∧i31 < (l_0.length:Int)) <|
     if (lat l_0 i31)=true then
      ck ((0:Int)≤i31∧i31 < (l32.length:Int)) <|
      some (l32.set i31.toNat true)
     else
      if 0 < i31 then
       ck (inR (i31 - 1)) <|
       ck ((0:Int)≤i31 - 1∧i31 - 1 < (l32.length:Int)) <|
       if (lat l32 (i31 - 1))=true then
        if all_4=true then
         ck ((0:Int)≤i31∧i31 < (l32.length:Int)) <|
         some (l32.set i31.toNat true)
        else
         ck (inR (i31 - 1)) <|
         ck ((0:Int)≤i31 - 1∧i31 - 1 < (s_1.length:Int)) <|
         ck ((0:Int)≤i31∧i31 < (l32.length:Int)) <|
         some (l32.set i31.toNat (!decide (byt s_1 (i31 - 1)=46)))
       else
        ck ((0:Int)≤i31∧i31 < (l32.length:Int)) <|
        some (l32.set i31.toNat false)
      else
       ck ((0:Int)≤i31∧i31 < (l32.length:Int)) <|
       some (l32.set i31.toNat false)
    else
     if 0 < i31 then
      ck (inR (i31 - 1)) <|
      ck ((0:Int)≤i31 - 1∧i31 - 1 < (l_0.length:Int)) <|
      if (lat l_0 (i31 - 1))=true then
       ck (inR (i31 - 1)) <|
       ck ((0:Int)≤i31 - 1∧i31 - 1 < (s_1.length:Int)) <|
       ck ((0:Int)≤i31∧i31 < (l32.length:Int)) <|
       some (l32.set i31.toNat (decide (byt s_1 (i31 - 1)=b_2)))
      else
       ck ((0:Int)≤i31∧i31 < (l32.length:Int)) <|
       some (l32.set i31.toNat false)
     else
      ck ((0:Int)≤i31∧i31 < (l32.length:Int)) <|
      some (l32.set i31.toNat false)
   : Option (List Bool)).bind λ l58 =>
  ck (inR (i31+1)) <|
  eN l_0 s_1 b_2 any_3 all_4 m (i31+1) l58
 else
  some l32
def ku (n:Nat)(l_0:List Bool)(s_1:Bytes)(b_2:Int)(any_3:Bool)(all_4:Bool):Option (List Bool) :=
 ck ((0:Int)≤(l_0.length:Int)∧(l_0.length:Int)≤9223372036854775807∧(1:Int)*(l_0.length:Int)≤281474976710656) <|
 (eN l_0 s_1 b_2 any_3 all_4 n 0 (List.replicate (l_0.length:Int).toNat (false:Bool))).bind λ l62 =>
 some l62
theorem vc (n:Nat)(l_0:List Bool)(s_1:Bytes)(b_2:Int)(any_3:Bool)(all_4:Bool)(r:(List Bool))(h0:ku n l_0 s_1 b_2 any_3 all_4=some r):aA Tryz.prog 86 [eL eB l_0,eS s_1,eK .u8 b_2,eB any_3,eB all_4] (·=.p (eL eB r)):=by
 unfold ku at h0
 refine ba good Tryz.func86 Z Z Z λ w0=>mP (λ v:(List Bool)=>.p (eL eB v)) ?_
 refine nx 7 Z (oLl (f:=eB) Z Z (cc' h0 λ hk1 h0=>mO Z (wO eB (false:Bool) Z Z Z Z Z Z Z Z Z Z Z hk1 (nx 8 Z (bd h0 λ o65 h1 h0=>?_)))))
 refine kE 0 o65 (λ v66=>⟨[(11,.arr 15 1 0 v66.length)],[(15,(v66.map eB).map .p)]⟩) ?_ ?_
 ·exact nx 6 Z (mG (pY [10,11,71] (f:=eB) (l:=o65) Z Z Z ⟨⟨_,Z,Z⟩,⟨_,Z,Z⟩,⟨_,Z,Z⟩,trivial⟩ (λ _=>⟨Z,Z⟩)) (nx 1 Z (mQ (oi h0) Z (sr))))
 refine lG (λ (q67:Int×(List Bool))=>⟨[(0,.p (eL eB l_0)),(1,.p (eS s_1)),(2,.p (eK .u8 b_2)),(3,.p (eB any_3)),(4,.p (eB all_4)),(11,.arr 15 1 0 q67.2.length),(12,.p (eI q67.1))],[(15,(q67.2.map eB).map .p)]⟩) (λ m (q67:Int×(List Bool))=>eN l_0 s_1 b_2 any_3 all_4 m q67.1 q67.2) Y (0,List.replicate (l_0.length:Int).toNat (false:Bool)) h1 (aP (bm ⟨er Z,er Z,er Z,er Z,er Z,⟨_,Z,AV.sub_of_eq (by first | rfl | (simp; done) | (simp [AV.dem]; rfl))⟩,er Z,trivial⟩ ⟨⟨_,Z,ah _⟩,trivial⟩)) ?_
 rintro m ⟨i31,l32⟩ h1
 replace h1:eN l_0 s_1 b_2 any_3 all_4 (m+1) i31 l32=some o65:=h1
 rw [eN] at h1
 refine nx 5 Z (oLl (f:=eB) Z Z (nx 2 Z (fD [19] h1 Z (λ c33 h1=>?_) λ c33 h1=>?_)))
 ·refine nx 3 Z (bd h1 λ o68 h2 h1=>?_)
  refine kN o68 (λ v69=>⟨[(0,.p (eL eB l_0)),(1,.p (eS s_1)),(2,.p (eK .u8 b_2)),(3,.p (eB any_3)),(4,.p (eB all_4)),(11,.arr 15 1 0 v69.length),(12,.p (eI i31))],[(15,(v69.map eB).map .p)]⟩) ?_ ?_
  ·exact nx 3 Z (oA h1 Z Z λ hk59 h1=>nx 2 Z (eX (i31+1,o68) h1 (aP (bm ⟨er Z,er Z,er Z,er Z,er Z,⟨_,Z,AV.sub_of_eq (by first | rfl | (simp; done) | (simp [AV.dem]; rfl))⟩,er Z,trivial⟩ ⟨⟨_,Z,ah _⟩,trivial⟩))))
  refine nx 5 Z (fB [3,22] h2 Z (λ c34 h2=>?_) λ c34 h2=>?_)
  ·refine nx 6 Z (oE h2 Y Z Z Y λ hk35 h2=>nx 2 Z (fB [28,29] h2 Z (λ c36 h2=>?_) λ c36 h2=>?_))
   ·exact nx 20 Z (cc' h2 λ hk37 h2=>mO Z (aG Z Z Z Z Z Z Z Z Z hk37 (mO Z (bV (f:=eB) (l:=l32) (b:=true) Z Z Z Z Z Z Z Z (by have:=hk37; omega) (nx 1 Z (eX _ (oi h2).symm (aP (bm ⟨er Z,er Z,er Z,⟨_,Z,cD c34.symm⟩,er Z,⟨_,Z,AV.sub_of_eq (by first | rfl | (simp; done) | (simp [AV.dem]; rfl))⟩,er Z,trivial⟩ ⟨⟨_,Z,ah _⟩,trivial⟩))))))))
   refine nx 3 Z (fD [31,32] h2 Z (λ c38 h2=>?_) λ c38 h2=>?_)
   ·refine nx 2 Z (oA h2 Z Z λ hk39 h2=>cc' h2 λ hk40 h2=>mO Z (aG Z Z Z Z Z Z Z Z Z hk40 (mO Z (bo (default:Bool) (f:=eB) (l:=l32) Z Z Z Z Z Z Z (by have:=hk40; omega) (nx 2 Z (fB [37,38,39] h2 Z (λ c41 h2=>?_) λ c41 h2=>?_))))))
    ·refine nx 2 Z (fB [4,40,41] h2 Z (λ c42 h2=>?_) λ c42 h2=>?_)
     ·exact nx 8 Z (cc' h2 λ hk43 h2=>mO Z (aG Z Z Z Z Z Z Z Z Z hk43 (mO Z (bV (f:=eB) (l:=l32) (b:=true) Z Z Z Z Z Z Z Z (by have:=hk43; omega) (nx 1 Z (eX _ (oi h2).symm (aP (bm ⟨er Z,er Z,er Z,⟨_,Z,cD c34.symm⟩,⟨_,Z,cD c42.symm⟩,⟨_,Z,AV.sub_of_eq (by first | rfl | (simp; done) | (simp [AV.dem]; rfl))⟩,er Z,trivial⟩ ⟨⟨_,Z,ah _⟩,trivial⟩))))))))
     exact nx 2 Z (oA h2 Z Z λ hk44 h2=>oI h2 Z λ hk45 h2=>nx 4 Z (cc' h2 λ hk46 h2=>mO Z (aG Z Z Z Z Z Z Z Z Z hk46 (mO Z (bV (f:=eB) (l:=l32) (b:=!decide (byt s_1 (i31 - 1)=46)) Z Z Z Z Z Z Z Z (by have:=hk46; omega) (nx 1 Z (eX _ (oi h2).symm (aP (bm ⟨er Z,er Z,er Z,⟨_,Z,cD c34.symm⟩,⟨_,Z,cD c42.symm⟩,⟨_,Z,AV.sub_of_eq (by first | rfl | (simp; done) | (simp [AV.dem]; rfl))⟩,er Z,trivial⟩ ⟨⟨_,Z,ah _⟩,trivial⟩)))))))))
    exact nx 10 Z (cc' h2 λ hk47 h2=>mO Z (aG Z Z Z Z Z Z Z Z Z hk47 (mO Z (bV (f:=eB) (l:=l32) (b:=false) Z Z Z Z Z Z Z Z (by have:=hk47; omega) (nx 1 Z (eX _ (oi h2).symm (aP (bm ⟨er Z,er Z,er Z,⟨_,Z,cD c34.symm⟩,er Z,⟨_,Z,AV.sub_of_eq (by first | rfl | (simp; done) | (simp [AV.dem]; rfl))⟩,er Z,trivial⟩ ⟨⟨_,Z,ah _⟩,trivial⟩))))))))
   exact nx 17 Z (cc' h2 λ hk48 h2=>mO Z (aG Z Z Z Z Z Z Z Z Z hk48 (mO Z (bV (f:=eB) (l:=l32) (b:=false) Z Z Z Z Z Z Z Z (by have:=hk48; omega) (nx 1 Z (eX _ (oi h2).symm (aP (bm ⟨er Z,er Z,er Z,⟨_,Z,cD c34.symm⟩,er Z,⟨_,Z,AV.sub_of_eq (by first | rfl | (simp; done) | (simp [AV.dem]; rfl))⟩,er Z,trivial⟩ ⟨⟨_,Z,ah _⟩,trivial⟩))))))))
  refine nx 7 Z (fD [54,55] h2 Z (λ c49 h2=>?_) λ c49 h2=>?_)
  ·refine nx 2 Z (oA h2 Z Z λ hk50 h2=>oE h2 Y Z Z Y λ hk51 h2=>nx 3 Z (fB [60,61,62] h2 Z (λ c52 h2=>?_) λ c52 h2=>?_))
   ·exact nx 2 Z (oA h2 Z Z λ hk53 h2=>oI h2 Z λ hk54 h2=>nx 3 Z (cc' h2 λ hk55 h2=>mO Z (aG Z Z Z Z Z Z Z Z Z hk55 (mO Z (bV (f:=eB) (l:=l32) (b:=decide (byt s_1 (i31 - 1)=b_2)) Z Z Z Z Z Z Z Z (by have:=hk55; omega) (nx 1 Z (eX _ (oi h2).symm (aP (bm ⟨er Z,er Z,er Z,⟨_,Z,cD c34.symm⟩,er Z,⟨_,Z,AV.sub_of_eq (by first | rfl | (simp; done) | (simp [AV.dem]; rfl))⟩,er Z,trivial⟩ ⟨⟨_,Z,ah _⟩,trivial⟩)))))))))
   exact nx 7 Z (cc' h2 λ hk56 h2=>mO Z (aG Z Z Z Z Z Z Z Z Z hk56 (mO Z (bV (f:=eB) (l:=l32) (b:=false) Z Z Z Z Z Z Z Z (by have:=hk56; omega) (nx 1 Z (eX _ (oi h2).symm (aP (bm ⟨er Z,er Z,er Z,⟨_,Z,cD c34.symm⟩,er Z,⟨_,Z,AV.sub_of_eq (by first | rfl | (simp; done) | (simp [AV.dem]; rfl))⟩,er Z,trivial⟩ ⟨⟨_,Z,ah _⟩,trivial⟩))))))))
  exact nx 14 Z (cc' h2 λ hk57 h2=>mO Z (aG Z Z Z Z Z Z Z Z Z hk57 (mO Z (bV (f:=eB) (l:=l32) (b:=false) Z Z Z Z Z Z Z Z (by have:=hk57; omega) (nx 1 Z (eX _ (oi h2).symm (aP (bm ⟨er Z,er Z,er Z,⟨_,Z,cD c34.symm⟩,er Z,⟨_,Z,AV.sub_of_eq (by first | rfl | (simp; done) | (simp [AV.dem]; rfl))⟩,er Z,trivial⟩ ⟨⟨_,Z,ah _⟩,trivial⟩))))))))
 exact nx 2 Z (eXi _ (oi h1).symm (aP (bm ⟨⟨_,Z,AV.sub_of_eq (by first | rfl | (simp; done) | (simp [AV.dem]; rfl))⟩,trivial⟩ ⟨⟨_,Z,ah _⟩,trivial⟩)))
def ei (n:Nat)(pattern_0:Bytes)(s_1:Bytes):Nat→(List Bool)→Int→Option (List Bool)
 | 0,_,_=>none
 | m+1,l40,i41 =>
 if i41 < (pattern_0.length:Int) then
  (
    ck ((0:Int)≤i41∧i41 < (pattern_0.length:Int)) <|
    (
      if byt pattern_0 i41=42 then
       ck (inR (i41+1)) <|
       if i41+1 < (pattern_0.length:Int) then
        ck (inR (i41+1)) <|
        ck ((0:Int)≤i41+1∧i41+1 < (pattern_0.length:Int)) <|
        some (decide (byt pattern_0 (i41+1)=42))
       else
        some false
      else
       some false
     : Option Bool).bind λ all49 =>
    ck ((0:Int)≤i41∧i41 < (pattern_0.length:Int)) <|
    (ku n l40 s_1 (byt pattern_0 i41) (decide (byt pattern_0 i41=42)) all49).bind λ r51 =>
    if all49=true then
     ck (inR (i41+1)) <|
     some (r51,i41+1)
    else
     some (r51,i41)
   : Option ((List Bool)×Int)).bind λ q63 =>
  ck (inR (q63.2+1)) <|
  ei n pattern_0 s_1 m q63.1 (q63.2+1)
 else
  some l40
def jF (n:Nat)(pattern_0:Bytes)(s_1:Bytes):Option Bool :=
 ck (pattern_0.length≤65536) <|
 if Glob.rcheck pattern_0=0 then
  ck (inR ((s_1.length:Int)+1)) <|
  ck ((0:Int)≤(s_1.length:Int)+1∧(s_1.length:Int)+1≤9223372036854775807∧(1:Int)*((s_1.length:Int)+1)≤281474976710656) <|
  ck ((0:Int)≤0∧0 < ((List.replicate ((s_1.length:Int)+1).toNat (false:Bool)).length:Int)) <|
  (ei n pattern_0 s_1 n ((List.replicate ((s_1.length:Int)+1).toNat (false:Bool)).set ((0:Int).toNat) true) 0).bind λ l60 =>
  ck ((0:Int)≤(s_1.length:Int)∧(s_1.length:Int) < (l60.length:Int)) <|
  some (lat l60 (s_1.length:Int))
 else
  some false
theorem tX (n:Nat)(pattern_0:Bytes)(s_1:Bytes)(r:Bool)(h0:jF n pattern_0 s_1=some r):aA Tryz.prog 56 [eS pattern_0,eS s_1] (·=.p (eB r)):=by
 unfold jF at h0
 refine ba good Tryz.func56 Z Z Z λ w0=>mP (λ v:Bool=>.p (eB v)) ?_
 refine nx 8 Z (cc' h0 λ hk1 h0=>oK (Glob.rcheck_ok pattern_0 hk1) Z ⟨sr,trivial⟩ Tryz.call29 Z (nx 2 Z ?_))
 refine fN [11] h0 Z (λ c2 h0=>?_) λ c2 h0=>?_
 ·refine nx 5 Z (oLs Z (oA h0 Z Z λ hk3 h0=>cc' h0 λ hk4 h0=>mO Z (wO eB (false:Bool) Z Z Z Z Z Z Z Z Z Z Z hk4 (nx 5 Z (cc' h0 λ hk5 h0=>mO Z (aG Z Z Z Z Z Z Z Z Z hk5 (mO Z (bV (f:=eB) (l:=List.replicate ((s_1.length:Int)+1).toNat (false:Bool)) (b:=true) Z Z Z Z Z Z Z Z (by have:=hk5; omega) (nx 7 Z (mG (pY [5,15,16] (f:=eB) (l:=(List.replicate ((s_1.length:Int)+1).toNat (false:Bool)).set ((0:Int).toNat) true) Z Z Z ⟨⟨_,Z,by simp⟩,⟨_,Z,by simp⟩,⟨_,Z,by simp⟩,trivial⟩ (λ _=>⟨Z,Z⟩)) (bd h0 λ o65 h1 h0=>kE 0 o65 (λ v66=>⟨[(1,.p (eS s_1)),(5,.p (eL eB v66))],[]⟩) ?_ ?_)))))))))))
  ·exact nx 5 Z (oLs Z (oE h0 Y Z Z Y λ hk61 h0=>nx 4 Z (mQ (oi h0) Z (sr))))
  refine lG (λ (q67:(List Bool)×Int)=>⟨[(0,.p (eS pattern_0)),(1,.p (eS s_1)),(5,.p (eL eB q67.1)),(6,.p (eI q67.2))],[]⟩) (λ m (q67:(List Bool)×Int)=>ei n pattern_0 s_1 m q67.1 q67.2) Y ((List.replicate ((s_1.length:Int)+1).toNat (false:Bool)).set ((0:Int).toNat) true,0) h1 (gE Z Z) ?_
  rintro m ⟨l40,i41⟩ h1
  replace h1:ei n pattern_0 s_1 (m+1) l40 i41=some o65:=h1
  rw [ei] at h1
  refine nx 5 Z (oLs Z (nx 2 Z (fD [21] h1 Z (λ c42 h1=>?_) λ c42 h1=>?_)))
  ·refine nx 3 Z (bd h1 λ o68 h2 h1=>?_)
   refine kN o68 (λ v69=>⟨[(0,.p (eS pattern_0)),(1,.p (eS s_1)),(5,.p (eL eB v69.1)),(6,.p (eI v69.2))],[]⟩) ?_ ?_
   ·exact nx 3 Z (oA h1 Z Z λ hk57 h1=>nx 2 Z (eX (o68.1,o68.2+1) h1 (gE Z Z)))
   refine nx 5 Z (oI h2 Z λ hk43 h2=>nx 4 Z (bd h2 λ o70 h3 h2=>?_))
   refine kN o70 (λ v71=>⟨[(0,.p (eS pattern_0)),(1,.p (eS s_1)),(5,.p (eL eB l40)),(6,.p (eI i41)),(7,.p (eB (decide (byt pattern_0 i41=42)))),(8,.p (eB v71))],[]⟩) ?_ ?_
   ·refine nx 7 Z (oI h2 Z λ hk50 h2=>nx 2 Z (bd h2 λ r51 e52 h2=>oK (vc _ l40 s_1 (byt pattern_0 i41) (decide (byt pattern_0 i41=42)) o70 _ e52) Z ⟨sr,sr,sr,sr,sr,trivial⟩ Tryz.call86 Z (nx 6 Z ?_)))
    refine fB [8,49,51] h2 Z (λ c53 h2=>?_) λ c53 h2=>?_
    ·exact nx 3 Z (oA h2 Z Z λ hk54 h2=>nx 2 Z (eX _ (oi h2).symm (gE Z Z)))
    exact nx 2 Z (eX _ (oi h2).symm (gE Z Z))
   refine nx 3 Z (fD [7,27,28,29] h3 Z (λ c44 h3=>?_) λ c44 h3=>?_)
   ·refine nx 1 Z (oA h3 Z Z λ hk45 h3=>nx 1 Z (oLs Z (nx 3 Z (fD [34,35,36] h3 Z (λ c46 h3=>?_) λ c46 h3=>?_))))
    ·exact nx 2 Z (oA h3 Z Z λ hk47 h3=>oI h3 Z λ hk48 h3=>nx 4 Z (eX _ (oi h3).symm (aP (bm ⟨er Z,er Z,er Z,er Z,⟨_,Z,cD (dt c44).symm⟩,er Z,trivial⟩ trivial))))
    exact nx 8 Z (eX _ (oi h3).symm (aP (bm ⟨er Z,er Z,er Z,er Z,⟨_,Z,cD (dt c44).symm⟩,er Z,trivial⟩ trivial)))
   exact nx 15 Z (eX _ (oi h3).symm (aP (bm ⟨er Z,er Z,er Z,er Z,⟨_,Z,cD (df c44).symm⟩,er Z,trivial⟩ trivial)))
  exact nx 2 Z (eXi _ (oi h1).symm (gE Z Z))
 exact nx 6 Z (mQ (oi h0) Z (sr))
def gd (n:Nat)(patterns_0:List Bytes)(s_1:Bytes):Nat→Int→Option (Unit⊕Bool)
 | 0,_=>none
 | m+1,i8 =>
 if i8 < (patterns_0.length:Int) then
  ck ((0:Int)≤i8∧i8 < (patterns_0.length:Int)) <|
  (jF n (lat patterns_0 i8) s_1).bind λ r11 =>
  if r11=true then
   some (.inr true)
  else
   ck (inR (i8+1)) <|
   gd n patterns_0 s_1 m (i8+1)
 else
  some (.inl ())
def lA (n:Nat)(patterns_0:List Bytes)(s_1:Bytes):Option Bool :=
 jn (gd n patterns_0 s_1 n 0) λ q16 =>
 some false
theorem qY (n:Nat)(patterns_0:List Bytes)(s_1:Bytes)(r:Bool)(h0:lA n patterns_0 s_1=some r):aA Tryz.prog 34 [eL eS patterns_0,eS s_1] (·=.p (eB r)):=by
 unfold lA at h0
 refine ba good Tryz.func34 Z Z Z λ w0=>mP (λ v:Bool=>.p (eB v)) ?_
 refine nx 10 Z ?_
 obtain ⟨o17,h1,hL0,hR0⟩:=fx h0
 refine kEx 0 (λ v18:Unit=>o17=.inl v18) (λ v18=>⟨[],[]⟩) (λ v18 hv=>?_) ?_
 ·have h0:=hL0 _ hv
  exact nx 6 Z (mQ (oi h0) Z (sr))
 refine lG (λ (q19:Int)=>⟨[(0,.p (eL eS patterns_0)),(1,.p (eS s_1)),(5,.p (eI q19))],[]⟩) (λ m (q19:Int)=>gd n patterns_0 s_1 m q19) Y 0 h1 (gE Z Z) ?_
 rintro m i8 h1
 replace h1:gd n patterns_0 s_1 (m+1) i8=some o17:=h1
 rw [gd] at h1
 refine nx 5 Z (oLl (f:=eS) Z Z (nx 2 Z (fD [9] h1 Z (λ c9 h1=>?_) λ c9 h1=>?_)))
 ·refine nx 8 Z (oE h1 Y Z Z Y λ hk10 h1=>nx 2 Z (bd h1 λ r11 e12 h1=>oK (tX _ (lat patterns_0 i8) s_1 _ e12) Z ⟨sr,sr,trivial⟩ Tryz.call56 Z (nx 1 Z ?_)))
  refine fB [17] h1 Z (λ c13 h1=>?_) λ c13 h1=>?_
  ·exact nx 6 Z (mQ (hR0 _ (oi h1).symm) Z (sr))
  exact nx 4 Z (oA h1 Z Z λ hk14 h1=>nx 2 Z (eX (i8+1) h1 (gE Z Z)))
 exact nx 2 Z (eXi _ (oi h1).symm (gE Z Z))
end Go.Ab.R06
end
section
namespace Go.Ab.Glob
def nd (l:List UInt8):Prop:=∀ x∈l,x≠46
def Spl:List UInt8→List UInt8→Prop
 | [],s=>s=[]
 | [c],s=>if c=42 then nd s else s=[c]
 | c::d::p,s=>if c=42 then (if d=42 then ∃ k,k≤s.length∧Spl p (s.drop k) else ∃ k,k≤s.length∧nd (s.take k)∧Spl (d::p) (s.drop k)) else ∃ s',s=c::s'∧Spl (d::p) s'
theorem spl_nil (s:List UInt8):Spl [] s↔s=[]:=by simp [Spl]
theorem spl_lit {c:UInt8}(hc:c≠42)(p s:List UInt8):Spl (c::p) s↔∃ s',s=c::s'∧Spl p s':=by
 cases p with
 | nil=>simp [Spl,hc]
 | cons d p=>simp [Spl,hc]
theorem spl_two (p s:List UInt8):Spl (42::42::p) s↔∃ k,k≤s.length∧Spl p (s.drop k):=by simp [Spl]
theorem spl_one (p s:List UInt8)(hp:p.head?≠some 42):Spl (42::p) s↔∃ k,k≤s.length∧nd (s.take k)∧Spl p (s.drop k):=by
 cases p with
 | nil =>
  simp only [Spl,if_true]
  constructor
  ·intro h; exact ⟨s.length,Nat.le_refl _,by simpa using h,by simp⟩
  ·rintro ⟨k,hk,h,hd⟩
   have:s.take k=s:=by
    have:=List.take_append_drop k s
    rw [hd,List.append_nil] at this
    exact this
   rwa [this] at h
 | cons d p =>
  have hd:d≠42:=λ e=>hp (by simp [e])
  simp [Spl,hd]
theorem nd_iff (s:List UInt8)(j k:Nat)(hk:k≤s.length):nd ((s.take k).drop j)↔∀ i,j≤i→i < k→s.getD i 0≠46:=by
 constructor
 ·intro h i h1 h2
  refine h _ ?_
  rw [List.mem_iff_getElem?]
  refine ⟨i - j,?_⟩
  rw [List.getElem?_drop,show j+(i - j)=i by omega,List.getElem?_take_of_lt h2,List.getD_eq_getElem?_getD,List.getElem?_eq_getElem O]
  rfl
 ·intro h x hx
  obtain ⟨i,hi⟩:=List.mem_iff_getElem?.1 hx
  rw [List.getElem?_drop] at hi
  have h2:j+i < k:=by
   by_cases e:j+i < k
   ·exact e
   ·rw [List.getElem?_eq_none (by simp; omega)] at hi; cases hi
  rw [List.getElem?_take_of_lt h2] at hi
  have:=h (j+i) O h2
  rw [List.getD_eq_getElem?_getD,hi] at this
  exact this
theorem getD_set (r:List Bool)(n k:Nat)(hn:n < r.length):(r.set n true).getD k false=if k=n then true else r.getD k false:=by
 rw [List.getD_eq_getElem?_getD,List.getD_eq_getElem?_getD,List.getElem?_set]
 by_cases e:n=k
 ·subst e; simp [hn]
 ·rw [if_neg e,if_neg (λ h=>e h.symm)]
theorem byte_eq (a b:UInt8):((a.toNat:Int)=(b.toNat:Int))↔a=b:=by
 rw [← UInt8.toNat_inj]; omega
theorem spr_iff (s:List UInt8)(gu:Bool)(r:List Bool)(hr:r.length=s.length+1):∀ n,n≤s.length→∀ k,
  ((spr s gu r n).getD k false=true↔if k≤n then ∃ j,j≤k∧r.getD j false=true∧(gu=true∨∀ i,j≤i→i < k→s.getD i 0≠46) else r.getD k false=true):=by
 intro n
 induction n with
 | zero =>
  intro _ k
  simp only [spr]
  by_cases hk:k=0
  ·subst hk
   rw [if_pos (Nat.le_refl _)]
   constructor
   ·intro h; exact ⟨0,Nat.le_refl _,h,.inr λ i _ h2=>by omega⟩
   ·rintro ⟨j,hj,h,_⟩
    obtain rfl:j=0:=by omega
    exact h
  ·rw [if_neg O]
 | succ n ih =>
  intro hn k
  have ih:=ih O
  have hl:(spr s gu r n).length=s.length+1:=(spr_len _ _ _ _).trans hr
  have hin:=ih n
  rw [if_pos (Nat.le_refl _)] at hin
  have h46:(((s.getD n 0).toNat:Int)=46)↔s.getD n 0=46:=byte_eq (s.getD n 0) 46
  have key:((spr s gu r n).getD n false=true∧(gu=true∨¬ ((s.getD n 0).toNat:Int)=46))↔∃ j,j≤n∧r.getD j false=true∧(gu=true∨∀ i,j≤i→i < n+1→s.getD i 0≠46):=by
   rw [hin,h46]
   constructor
   ·rintro ⟨⟨j,h1,h2,h3⟩,h4⟩
    refine ⟨j,h1,h2,?_⟩
    rcases h4 with h4 | h4
    ·exact .inl h4
    ·rcases h3 with h3 | h3
     ·exact .inl h3
     ·refine .inr λ i h5 h6=>?_
      by_cases e:i=n
      ·subst e; exact h4
      ·exact h3 i h5 O
   ·rintro ⟨j,h1,h2,h3⟩
    rcases h3 with h3 | h3
    ·exact ⟨⟨j,h1,h2,.inl h3⟩,.inl h3⟩
    ·exact ⟨⟨j,h1,h2,.inr λ i h5 h6=>h3 i h5 O⟩,.inr (h3 n h1 O)⟩
  simp only [spr]
  by_cases hc:(spr s gu r n).getD n false=true∧(gu=true∨¬ ((s.getD n 0).toNat:Int)=46)
  ·rw [if_pos hc,getD_set _ _ _ O]
   obtain ⟨j,h1,h2,h3⟩:=key.1 hc
   by_cases hk:k=n+1
   ·subst hk
    rw [if_pos rfl,if_pos (Nat.le_refl _)]
    exact ⟨λ _=>⟨j,by omega,h2,h3⟩,λ _=>rfl⟩
   ·rw [if_neg hk,ih k]
    by_cases hk2:k≤n
    ·rw [if_pos hk2,if_pos O]
    ·rw [if_neg hk2,if_neg O]
  ·rw [if_neg hc,ih k]
   by_cases hk:k=n+1
   ·subst hk
    rw [if_neg O,if_pos (Nat.le_refl _)]
    constructor
    ·intro h; exact ⟨n+1,Nat.le_refl _,h,.inr λ i h5 h6=>by omega⟩
    ·rintro ⟨j,h1,h2,h3⟩
     by_cases e:j=n+1
     ·subst e; exact h2
     ·exact absurd (key.2 ⟨j,by omega,h2,h3⟩) hc
   ·by_cases hk2:k≤n
    ·rw [if_pos hk2,if_pos O]
    ·rw [if_neg hk2,if_neg O]
theorem nxt_iff (s:List UInt8)(c:UInt8)(r:List Bool)(hr:r.length=s.length+1):∀ n,n≤s.length→∀ k,
  ((nxt s c r n).getD k false=true↔∃ j,j < n∧k=j+1∧r.getD j false=true∧s.getD j 0=c):=by
 intro n
 induction n with
 | zero =>
  intro _ k
  simp only [nxt]
  constructor
  ·intro h
   rw [List.getD_eq_getElem?_getD,List.getElem?_replicate] at h
   split at h <;> simp at h
  ·rintro ⟨j,h,_⟩; omega
 | succ n ih =>
  intro hn k
  have ih:=ih O
  have hl:(nxt s c r n).length=s.length+1:=(nxt_len _ _ _ _).trans hr
  have hb:=byte_eq (s.getD n 0) c
  simp only [nxt]
  by_cases hc:r.getD n false=true∧((s.getD n 0).toNat:Int)=(c.toNat:Int)
  ·rw [if_pos hc,getD_set _ _ _ O]
   by_cases hk:k=n+1
   ·subst hk
    rw [if_pos rfl]
    exact ⟨λ _=>⟨n,by omega,Z,hc.1,hb.1 hc.2⟩,λ _=>rfl⟩
   ·rw [if_neg hk,ih k]
    constructor
    ·rintro ⟨j,h1,h2⟩; exact ⟨j,by omega,h2⟩
    ·rintro ⟨j,h1,h2,h3⟩; exact ⟨j,by omega,h2,h3⟩
  ·rw [if_neg hc,ih k]
   constructor
   ·rintro ⟨j,h1,h2⟩; exact ⟨j,by omega,h2⟩
   ·rintro ⟨j,h1,h2,h3,h4⟩
    by_cases e:j=n
    ·subst e; exact absurd ⟨h3,hb.2 h4⟩ hc
    ·exact ⟨j,by omega,h2,h3,h4⟩
theorem som_iff (s:List UInt8)(c:UInt8)(r:List Bool):∀ n,(som s c r n=true↔∃ j,j < n∧r.getD j false=true∧s.getD j 0=c):=by
 intro n
 induction n with
 | zero=>simp [som]
 | succ n ih =>
  have hb:=byte_eq (s.getD n 0) c
  simp only [som]
  by_cases hc:r.getD n false=true∧((s.getD n 0).toNat:Int)=(c.toNat:Int)
  ·rw [if_pos hc]
   exact ⟨λ _=>⟨n,by omega,hc.1,hb.1 hc.2⟩,λ _=>rfl⟩
  ·rw [if_neg hc,ih]
   constructor
   ·rintro ⟨j,h1,h2⟩; exact ⟨j,by omega,h2⟩
   ·rintro ⟨j,h1,h3,h4⟩
    by_cases e:j=n
    ·subst e; exact absurd ⟨h3,hb.2 h4⟩ hc
    ·exact ⟨j,by omega,h3,h4⟩
def Acc (p s:List UInt8)(r:List Bool):Prop:=∃ k,k≤s.length∧r.getD k false=true∧Spl p (s.drop k)
theorem acc_nil (s:List UInt8)(r:List Bool):Acc [] s r↔r.getD s.length false=true:=by
 constructor
 ·rintro ⟨k,h1,h2,h3⟩
  have:=congrArg List.length ((spl_nil _).1 h3)
  simp only [List.length_drop,List.length_nil] at this
  obtain rfl:k=s.length:=by omega
  exact h2
 ·intro h; exact ⟨s.length,Nat.le_refl _,h,by simp [spl_nil]⟩
theorem drop_cons (s:List UInt8)(k:Nat)(h:k < s.length):s.drop k=s.getD k 0::s.drop (k+1):=by
 rw [List.drop_eq_getElem_cons h,List.getD_eq_getElem?_getD,List.getElem?_eq_getElem h]; rfl
theorem acc_lit {c:UInt8}(hc:c≠42)(p s:List UInt8)(r:List Bool)(hr:r.length=s.length+1):Acc (c::p) s r↔Acc p s (nxt s c r s.length):=by
 constructor
 ·rintro ⟨k,h1,h2,h3⟩
  obtain ⟨s',h4,h5⟩:=(spl_lit hc _ _).1 h3
  have hk:k < s.length:=by
   have:=congrArg List.length h4
   simp only [List.length_drop,List.length_cons] at this
   omega
  rw [drop_cons s k hk] at h4
  injection h4 with e1 e2
  exact ⟨k+1,by omega,(nxt_iff s c r hr _ (Nat.le_refl _) _).2 ⟨k,hk,Z,h2,e1⟩,by rw [e2]; exact h5⟩
 ·rintro ⟨k,h1,h2,h3⟩
  obtain ⟨j,h4,rfl,h5,h6⟩:=(nxt_iff s c r hr _ (Nat.le_refl _) _).1 h2
  exact ⟨j,by omega,h5,(spl_lit hc _ _).2 ⟨s.drop (j+1),by rw [drop_cons s j h4,h6],h3⟩⟩
theorem acc_one (p s:List UInt8)(r:List Bool)(hr:r.length=s.length+1)(hp:p.head?≠some 42):Acc (42::p) s r↔Acc p s (spr s false r s.length):=by
 constructor
 ·rintro ⟨k,h1,h2,h3⟩
  obtain ⟨n,h4,h5,h6⟩:=(spl_one _ _ hp).1 h3
  simp only [List.length_drop] at h4
  refine ⟨k+n,by omega,(spr_iff s false r hr _ (Nat.le_refl _) _).2 ?_,by rwa [List.drop_drop] at h6⟩
  rw [if_pos O]
  refine ⟨k,by omega,h2,.inr ((nd_iff s k (k+n) O).1 ?_)⟩
  rw [List.drop_take]
  rwa [show k+n - k=n by omega]
 ·rintro ⟨k,h1,h2,h3⟩
  have h2:=(spr_iff s false r hr _ (Nat.le_refl _) _).1 h2
  rw [if_pos h1] at h2
  obtain ⟨j,h4,h5,h6⟩:=h2
  have h6:=h6.resolve_left G
  refine ⟨j,by omega,h5,(spl_one _ _ hp).2 ⟨k - j,by simp only [List.length_drop]; omega,?_,?_⟩⟩
  ·rw [← List.drop_take]; exact (nd_iff s j k h1).2 h6
  ·rw [List.drop_drop,show j+(k - j)=k by omega]; exact h3
theorem acc_two (p s:List UInt8)(r:List Bool)(hr:r.length=s.length+1):Acc (42::42::p) s r↔Acc p s (spr s true r s.length):=by
 constructor
 ·rintro ⟨k,h1,h2,h3⟩
  obtain ⟨n,h4,h6⟩:=(spl_two _ _).1 h3
  simp only [List.length_drop] at h4
  refine ⟨k+n,by omega,(spr_iff s true r hr _ (Nat.le_refl _) _).2 ?_,by rwa [List.drop_drop] at h6⟩
  rw [if_pos O]
  exact ⟨k,by omega,h2,.inl Z⟩
 ·rintro ⟨k,h1,h2,h3⟩
  have h2:=(spr_iff s true r hr _ (Nat.le_refl _) _).1 h2
  rw [if_pos h1] at h2
  obtain ⟨j,h4,h5,h6⟩:=h2
  refine ⟨j,by omega,h5,(spl_two _ _).2 ⟨k - j,by simp only [List.length_drop]; omega,?_⟩⟩
  rw [List.drop_drop,show j+(k - j)=k by omega]; exact h3
theorem hasP_two (p:List UInt8):hasP p [42,42]=true↔∃ p',p=42::42::p':=by
 rcases p with _ | ⟨a,_ | ⟨b,p⟩⟩ <;> simp [hasP]
theorem mg_acc (p s:List UInt8):∀ (f i:Nat) (r:List Bool),i≤p.length→p.length≤i+f→r.length=s.length+1 →
  (((mg p s f i r).1=p.length∧(mg p s f i r).2.getD s.length false=true)↔Acc (p.drop i) s r):=by
 intro f
 induction f with
 | zero =>
  intro i r h1 h2 hr
  obtain rfl:i=p.length:=by omega
  rw [List.drop_length,acc_nil]
  simp [mg]
 | succ f ih =>
  intro i r h1 h2 hr
  by_cases hi:i < p.length
  ·have hst:star p i↔p.getD i 0=42:=byte_eq (p.getD i 0) 42
   have hdr:=drop_cons p i hi
   simp only [mg]
   rw [if_pos hi]
   by_cases ht:hasP (p.drop i) [42,42]=true
   ·rw [if_pos ht]
    obtain ⟨p',hp'⟩:=(hasP_two _).1 ht
    have hl:=congrArg List.length hp'
    simp only [List.length_drop,List.length_cons] at hl
    have hd2:p.drop (i+2)=p':=by
     rw [← List.drop_drop,hp']; rfl
    rw [ih (i+2) _ O O  ((spr_len _ _ _ _).trans hr),hd2,hp',acc_two _ _ _ hr]
   ·rw [if_neg ht]
    by_cases hs:star p i
    ·rw [if_pos hs,ih (i+1) _ O O  ((spr_len _ _ _ _).trans hr),hdr,hst.1 hs,acc_one _ _ _ hr]
     intro hh
     refine ht ((hasP_two _).2 ?_)
     rw [hdr,hst.1 hs]
     cases hq:p.drop (i+1) with
     | nil=>rw [hq] at hh; simp at hh
     | cons a q=>rw [hq] at hh; simp at hh; exact ⟨q,by rw [hh]⟩
    ·rw [if_neg hs,hdr,acc_lit (λ e=>hs (hst.2 e)) _ _ _ hr]
     by_cases hm:som s (p.getD i 0) r s.length=true
     ·rw [if_pos hm,ih (i+1) _ O O  ((nxt_len _ _ _ _).trans hr)]
     ·rw [if_neg hm]
      constructor
      ·rintro ⟨h3,_⟩; simp only at h3; omega
      ·rintro ⟨k,h3,h4,_⟩
       obtain ⟨j,h5,_,h6,h7⟩:=(nxt_iff s _ r hr _ (Nat.le_refl _) _).1 h4
       exact absurd ((som_iff s _ r _).2 ⟨j,h5,h6,h7⟩) hm
  ·obtain rfl:i=p.length:=by omega
   simp only [mg]
   rw [if_neg hi,List.drop_length,acc_nil]
   simp
theorem matchL_iff (p s:List UInt8):matchL p s=true↔check p=0∧Spl p s:=by
 unfold matchL
 have hr:(ini s).length=s.length+1:=by simp [ini]
 have h:=mg_acc p s p.length 0 (ini s) (Nat.zero_le _) O hr
 have hacc:Acc (p.drop 0) s (ini s)↔Spl p s:=by
  have hg:∀ k,(ini s).getD k false=true↔k=0:=by
   intro k
   unfold ini
   rw [getD_set _ _ _ G]
   by_cases e:k=0
   ·simp [e]
   ·rw [if_neg e,List.getD_eq_getElem?_getD,List.getElem?_replicate]
    split <;> simp [e]
  constructor
  ·rintro ⟨k,_,h2,h3⟩
   obtain rfl:=(hg k).1 h2
   simpa using h3
  ·intro h; exact ⟨0,Nat.zero_le _,(hg 0).2 rfl,by simpa using h⟩
 rw [hacc] at h
 rw [← h]
 by_cases hc:check p=0
 ·rw [if_pos hc]
  by_cases he:(mg p s p.length 0 (ini s)).1=p.length
  ·simp [hc,he]
  ·simp [he]
 ·rw [if_neg hc]
  simp [hc]
end Go.Ab.Glob
namespace Go.Ab.Glob
open Go.Ab Go.Ab.R06
theorem getD_set_b (r:List Bool)(n k:Nat)(b:Bool)(hn:n < r.length):(r.set n b).getD k false=if k=n then b else r.getD k false:=by
 rw [List.getD_eq_getElem?_getD,List.getD_eq_getElem?_getD,List.getElem?_set]
 by_cases e:n=k
 ·subst e; simp [hn]
 ·rw [if_neg e,if_neg (λ h=>e h.symm)]
def stp (l:List Bool)(s:Bytes)(b:Int)(any all:Bool):Nat→Bool
 | 0=>any&&l.getD 0 false
 | k+1=>if any=true then l.getD (k+1) false||(stp l s b any all k&&(all||!decide (((s.getD k 0).toNat:Int)=46))) else l.getD k false&&decide (((s.getD k 0).toNat:Int)=b)
theorem step_l1_eq (l:List Bool)(s:Bytes)(b:Int)(any all:Bool)(hl:l.length=s.length+1)(hs:s.length≤65536):∀ (m i:Nat) (o:List Bool),o.length=l.length→i≤l.length→l.length - i < m →
  (∀ k,k < i→o.getD k false=stp l s b any all k) →
  ∃ o',eN l s b any all m (i:Int) o=some o'∧o'.length=l.length∧∀ k,k < l.length→o'.getD k false=stp l s b any all k:=by
 intro m
 induction m with
 | zero=>intro i o _ _ h; omega
 | succ m ih =>
  intro i o ho hi hm hk
  rw [eN]
  by_cases hlt:i < l.length
  ·rw [if_pos O]
   have next:∀ v,v=stp l s b any all i→∃ o',(ck (inR ((i:Int)+1)) <| eN l s b any all m ((i:Int)+1) (o.set (i:Int).toNat v))=some o'∧o'.length=l.length∧∀ k,k < l.length→o'.getD k false=stp l s b any all k:=by
    intro v hv
    rw [aT (aS O O),Int.toNat_natCast]
    have:=ih (i+1) (o.set i v) (by simpa using ho) O O  (λ k h=>by
     rw [getD_set_b _ _ _ _ O]
     by_cases e:k=i
     ·rw [if_pos e,hv,e]
     ·rw [if_neg e]; exact hk k O)
    rwa [Int.natCast_add] at this
   have hla:∀ k:Nat,lat l (k:Int)=l.getD k false:=λ k=>rfl
   have hlo:∀ k:Nat,lat o (k:Int)=o.getD k false:=λ k=>rfl
   cases i with
   | zero =>
    have z:((0:Nat):Int)=0:=rfl
    cases any with
    | true =>
     rw [if_pos rfl,aT O,hla]
     cases hb:l.getD 0 false
     ·rw [if_neg G,if_neg O,aT O,fk]
      exact next false (by simp only [stp,hb]; rfl)
     ·rw [if_pos rfl,aT O,fk]
      exact next true (by simp only [stp,hb]; rfl)
    | false =>
     rw [if_neg G,if_neg O,aT O,fk]
     exact next false Z
   | succ j =>
    have e1:((j+1:Nat):Int) - 1=(j:Int):=by omega
    have hoj:=hk j O
    cases any with
    | true =>
     rw [if_pos rfl,aT O,hla]
     cases hb:l.getD (j+1) false
     ·rw [if_neg G,if_pos O,e1,aT (aS O O),aT O,hlo,hoj]
      cases hp:stp l s b true all j
      ·rw [if_neg G,aT O,fk]
       exact next false (by simp only [stp,hb,hp]; rfl)
      ·rw [if_pos rfl]
       cases all with
       | true =>
        rw [if_pos rfl,aT O,fk]
        exact next true (by simp only [stp,hb,hp]; rfl)
       | false =>
        rw [if_neg G,aT (aS O O),aT O,aT O,fk,dh]
        exact next _ (by simp only [stp,hb,hp]; simp)
     ·rw [if_pos rfl,aT O,fk]
      exact next true (by simp only [stp,hb]; rfl)
    | false =>
     rw [if_neg G,if_pos O,e1,aT (aS O O),aT O,hla]
     cases hb:l.getD j false
     ·rw [if_neg G,aT O,fk]
      exact next false (by simp only [stp,hb]; rfl)
     ·rw [if_pos rfl,aT (aS O O),aT O,aT O,fk,dh]
      exact next _ (by simp only [stp,hb]; simp)
  ·rw [if_neg O]
   exact ⟨o,Z,ho,λ k h=>hk k O⟩
theorem step_eq (n:Nat)(l:List Bool)(s:Bytes)(b:Int)(any all:Bool)(hl:l.length=s.length+1)(hs:s.length≤65536)(hn:s.length+2≤n) :
  ∃ o,ku n l s b any all=some o∧o.length=l.length∧∀ k,k < l.length→o.getD k false=stp l s b any all k:=by
 unfold ku
 rw [aT O]
 obtain ⟨o,h1,h2,h3⟩:=step_l1_eq l s b any all hl hs n 0 (List.replicate (l.length:Int).toNat false) G (Nat.zero_le _) O (λ k h=>absurd h (Nat.not_lt_zero k))
 have h1:eN l s b any all n 0 (List.replicate (l.length:Int).toNat false)=some o:=h1
 rw [h1,fk]
 exact ⟨o,Z,h2,h3⟩
theorem stp_spr (l:List Bool)(s:Bytes)(b:Int)(all:Bool)(hl:l.length=s.length+1):∀ k,k≤s.length→(stp l s b true all k=true↔(spr s all l s.length).getD k false=true):=by
 intro k
 induction k with
 | zero =>
  intro _
  rw [spr_iff s all l hl _ (Nat.le_refl _),if_pos (Nat.zero_le _)]
  simp only [stp,Bool.true_and]
  constructor
  ·intro h; exact ⟨0,Nat.le_refl _,h,.inr λ i h1 h2=>by omega⟩
  ·rintro ⟨j,h1,h2,_⟩
   obtain rfl:j=0:=by omega
   exact h2
 | succ k ih =>
  intro hk
  have ih:=ih O
  rw [spr_iff s all l hl _ (Nat.le_refl _),if_pos O] at ih
  rw [spr_iff s all l hl _ (Nat.le_refl _),if_pos hk]
  have h46:(((s.getD k 0).toNat:Int)=46)↔s.getD k 0=46:=byte_eq (s.getD k 0) 46
  simp only [stp,if_true,Bool.or_eq_true,Bool.and_eq_true,Bool.not_eq_true',decide_eq_false_iff_not,h46]
  rw [ih]
  constructor
  ·rintro (h | ⟨⟨j,h1,h2,h3⟩,h4⟩)
   ·exact ⟨k+1,Nat.le_refl _,h,.inr λ i h1 h2=>by omega⟩
   ·refine ⟨j,by omega,h2,?_⟩
    rcases h4 with h4 | h4
    ·exact .inl h4
    ·rcases h3 with h3 | h3
     ·exact .inl h3
     ·refine .inr λ i h5 h6=>?_
      by_cases e:i=k
      ·subst e; exact h4
      ·exact h3 i h5 O
  ·rintro ⟨j,h1,h2,h3⟩
   by_cases e:j=k+1
   ·subst e; exact .inl h2
   ·refine .inr ⟨⟨j,by omega,h2,?_⟩,?_⟩
    ·rcases h3 with h3 | h3
     ·exact .inl h3
     ·exact .inr λ i h5 h6=>h3 i h5 O
    ·rcases h3 with h3 | h3
     ·exact .inl h3
     ·exact .inr (h3 k O O)
theorem acc_congr {p s:Bytes}{r r':List Bool}(h:∀ k,k≤s.length→(r.getD k false=true↔r'.getD k false=true)):Acc p s r↔Acc p s r':=by
 constructor
 ·rintro ⟨k,h1,h2,h3⟩; exact ⟨k,h1,(h k h1).1 h2,h3⟩
 ·rintro ⟨k,h1,h2,h3⟩; exact ⟨k,h1,(h k h1).2 h2,h3⟩
theorem match_l1_eq (n:Nat)(p s:Bytes)(hp:p.length≤65536)(hs:s.length≤65536)(hn:s.length+2≤n):∀ (m i:Nat) (l:List Bool),i≤p.length→p.length - i < m→l.length=s.length+1 →
  ∃ o,ei n p s m l (i:Int)=some o∧o.length=s.length+1∧(o.getD s.length false=true↔Acc (p.drop i) s l):=by
 intro m
 induction m with
 | zero=>intro i l _ h; omega
 | succ m ih =>
  intro i l hi hm hl
  rw [ei]
  by_cases hlt:i < p.length
  ·rw [if_pos O,aT O,dh]
   have hdr:=drop_cons p i hlt
   have hst:(((p.getD i 0).toNat:Int)=42)↔p.getD i 0=42:=byte_eq (p.getD i 0) 42
   by_cases hc:p.getD i 0=42
   ·have hc':=hst.2 hc
    rw [if_pos hc',aT (aS O O)]
    -- one or two
    have one:p.getD (i+1) 0≠42∨p.length≤i+1→(p.drop (i+1)).head?≠some 42:=by
     intro h e
     rw [List.head?_drop] at e
     rcases h with h | h
     ·rw [List.getD_eq_getElem?_getD,e] at h; exact h rfl
     ·rw [List.getElem?_eq_none O] at e; cases e
    have end1:(p.drop (i+1)).head?≠some 42→∃ o,(((ck ((0:Int)≤(i:Int)∧(i:Int) < (p.length:Int)) <|
       (ku n l s ((p.getD i 0).toNat:Int) (decide (((p.getD i 0).toNat:Int)=42)) false).bind λ r51 =>
       if (false:Bool)=true then ck (inR ((i:Int)+1)) <| some (r51,(i:Int)+1) else some (r51,(i:Int)):Option ((List Bool)×Int)).bind λ q63 =>
       ck (inR (q63.2+1)) <| ei n p s m q63.1 (q63.2+1)))=some o∧o.length=s.length+1∧(o.getD s.length false=true↔Acc (p.drop i) s l):=by
     intro hh
     obtain ⟨o,h1,h2,h3⟩:=step_eq n l s ((p.getD i 0).toNat:Int) (decide (((p.getD i 0).toNat:Int)=42)) false hl hs hn
     rw [aT O,h1,fk,if_neg G,fk]
     dsimp only
     rw [aT (aS O O)]
     obtain ⟨o',k1,k2,k3⟩:=ih (i+1) o O O O
     rw [Int.natCast_add] at k1
     refine ⟨o',k1,k2,k3.trans ?_⟩
     rw [hdr,hc,acc_one _ _ _ hl hh]
     refine acc_congr λ k hk=>?_
     rw [h3 k O,decide_eq_true hc']
     exact stp_spr l s _ false hl k hk
    by_cases hlt2:i+1 < p.length
    ·have c1:((i:Int)+1)=((i+1:Nat):Int):=by omega
     rw [if_pos O,aT (aS O O),aT O,fk]
     have hst2:byt p ((i:Int)+1)=42↔p.getD (i+1) 0=42:=by rw [c1,dh]; exact byte_eq (p.getD (i+1) 0) 42
     by_cases hc2:p.getD (i+1) 0=42
     ·rw [decide_eq_true (hst2.2 hc2)]
      obtain ⟨o,h1,h2,h3⟩:=step_eq n l s ((p.getD i 0).toNat:Int) (decide (((p.getD i 0).toNat:Int)=42)) true hl hs hn
      rw [aT O,h1,fk,if_pos rfl,aT (aS O O),fk]
      dsimp only
      rw [aT (aS O O)]
      obtain ⟨o',k1,k2,k3⟩:=ih (i+2) o O O O
      rw [Int.natCast_add] at k1
      refine ⟨o',?_,k2,k3.trans ?_⟩
      ·rw [show (i:Int)+1+1=(i:Int)+((2:Nat):Int) by omega]; exact k1
      ·rw [hdr,hc,drop_cons p (i+1) hlt2,hc2,acc_two _ _ _ hl]
       refine acc_congr λ k hk=>?_
       rw [h3 k O,decide_eq_true hc']
       exact stp_spr l s _ true hl k hk
     ·rw [decide_eq_false (λ h=>hc2 (hst2.1 h))]
      exact end1 (one (.inl hc2))
    ·rw [if_neg O,fk]
     exact end1 (one (.inr O))
   ·have hc':¬ (((p.getD i 0).toNat:Int)=42):=λ h=>hc (hst.1 h)
    rw [if_neg hc',fk]
    obtain ⟨o,h1,h2,h3⟩:=step_eq n l s ((p.getD i 0).toNat:Int) (decide (((p.getD i 0).toNat:Int)=42)) false hl hs hn
    rw [aT O,h1,fk,if_neg G,fk]
    dsimp only
    rw [aT (aS O O)]
    obtain ⟨o',k1,k2,k3⟩:=ih (i+1) o O O O
    rw [Int.natCast_add] at k1
    refine ⟨o',k1,k2,k3.trans ?_⟩
    rw [hdr,acc_lit hc _ _ _ hl]
    refine acc_congr λ k hk=>?_
    rw [h3 k O,decide_eq_false hc',nxt_iff s _ l hl _ (Nat.le_refl _)]
    cases k with
    | zero=>simp [stp]
    | succ k =>
     simp only [stp,Bool.false_eq_true,if_false,Bool.and_eq_true,decide_eq_true_iff,byte_eq]
     constructor
     ·rintro ⟨h4,h5⟩; exact ⟨k,by omega,rfl,h4,h5⟩
     ·rintro ⟨j,h4,h5,h6,h7⟩
      obtain rfl:k=j:=by omega
      exact ⟨h6,h7⟩
  ·rw [if_neg O]
   obtain rfl:i=p.length:=by omega
   refine ⟨l,Z,hl,?_⟩
   rw [List.drop_length,acc_nil]
theorem acc_ini (p s:Bytes):Acc p s (ini s)↔Spl p s:=by
 have hg:∀ k,(ini s).getD k false=true↔k=0:=by
  intro k
  unfold ini
  rw [getD_set _ _ _ G]
  by_cases e:k=0
  ·simp [e]
  ·rw [if_neg e,List.getD_eq_getElem?_getD,List.getElem?_replicate]
   split <;> simp [e]
 constructor
 ·rintro ⟨k,_,h2,h3⟩
  obtain rfl:=(hg k).1 h2
  simpa using h3
 ·intro h; exact ⟨0,Nat.zero_le _,(hg 0).2 rfl,by simpa using h⟩
theorem refmatch_eq (n:Nat)(p s:Bytes)(hp:p.length≤65536)(hs:s.length≤65536)(hn:p.length+s.length+3≤n):jF n p s=some (matchL p s):=by
 unfold jF
 rw [aT hp]
 by_cases hc:rcheck p=0
 ·rw [if_pos hc,aT (aS O O),aT O]
  have ht:((s.length:Int)+1).toNat=s.length+1:=by omega
  rw [ht,aT G]
  obtain ⟨o,h1,h2,h3⟩:=match_l1_eq n p s hp hs O n 0 (ini s) (Nat.zero_le _) O (by simp [ini])
  have h1:ei n p s n ((List.replicate (s.length+1) false).set (0:Int).toNat true) 0=some o:=h1
  rw [h1,fk,aT O]
  congr 1
  have h4:lat o (s.length:Int)=o.getD s.length false:=rfl
  rw [h4,Bool.eq_iff_iff,h3,List.drop_zero,acc_ini,matchL_iff,check_eq]
  simp [hc]
 ·rw [if_neg hc]
  congr 1
  cases hm:matchL p s with
  | false=>rfl
  | true =>
   have:=((matchL_iff p s).1 hm).1
   rw [check_eq] at this
   exact absurd this hc
end Go.Ab.Glob
end
section
namespace Go.Ab.R06
open Go.Ab Go.Ab.RB Go.Lib
theorem t31:(List.range 256).all (λ n=>bG .u8 (n:Int) 31 == ((n % 32:Nat):Int))=true:=by kernel_rfl
theorem t15:(List.range 256).all (λ n=>bG .u8 (n:Int) 15 == ((n % 16:Nat):Int))=true:=by kernel_rfl
theorem t7:(List.range 256).all (λ n=>bG .u8 (n:Int) 7 == ((n % 8:Nat):Int))=true:=by kernel_rfl
theorem or64 (a b:Nat)(ha:a < 4611686018427387904)(hb:b < 4611686018427387904):iOr .i64 (a:Int) (b:Int)=((a ||| b:Nat):Int):=by
 have hlt:a ||| b < 4611686018427387904:=Nat.or_lt_two_pow (n:=62) ha hb
 have e1:(BitVec.ofInt 64 (a:Int)).toNat=a:=by
  rw [BitVec.toNat_ofInt]; omega
 have e2:(BitVec.ofInt 64 (b:Int)).toNat=b:=by
  rw [BitVec.toNat_ofInt]; omega
 show IntKind.wrap .i64 (((BitVec.ofInt 64 (a:Int)) ||| (BitVec.ofInt 64 (b:Int))).toNat:Nat)=_
 rw [BitVec.toNat_or,e1,e2]
 simp [IntKind.wrap,IntKind.bits,IntKind.signed]
 omega
theorem vX (a b k:Nat)(ha:a*2 ^ k < 4611686018427387904)(hb:b < 2 ^ k)(hk:k≤20):iOr .i64 ((a*2 ^ k:Nat):Int) (b:Int)=((a*2 ^ k+b:Nat):Int):=by
 have hp:2 ^ k≤2 ^ 20:=Nat.pow_le_pow_right (by decide) hk
 have h20:(2:Nat) ^ 20=1048576:=rfl
 rw [or64 _ _ ha O]
 have:=Nat.shiftLeft_add_eq_or_of_lt hb a
 rw [Nat.shiftLeft_eq] at this
 rw [← this]
theorem vT (a k:Nat)(hk:k≤20)(ha:a*2 ^ k < 4611686018427387904):jK .i64 (a:Int) (k:Int)=((a*2 ^ k:Nat):Int):=by
 have:min (k:Int).toNat IntKind.i64.bits=k:=by
  have:IntKind.i64.bits=64:=rfl
  rw [this]; omega
 unfold jK
 rw [this]
 have e:(a:Int)*2 ^ k=((a*2 ^ k:Nat):Int):=by push_cast; rfl
 rw [e]
 generalize a*2 ^ k=v at ha
 simp [IntKind.wrap,IntKind.bits,IntKind.signed]
 omega
def DY (l:Bytes):Int×Int:=if (decodeL l).1=65533∧(decodeL l).2=1 then (0,0) else (((decodeL l).1:Int),((decodeL l).2:Int))
theorem Dq (s:Bytes)(j:Nat)(lo hi:Int):eg s (j:Int) lo hi=some (decide (j < s.length∧lo≤((s.getD j 0).toNat:Int)∧((s.getD j 0).toNat:Int)≤hi)):=by
 unfold eg
 have hb:byt s (j:Int)=((s.getD j 0).toNat:Int):=dh s j
 rw [hb]
 by_cases h:j < s.length
 ·rw [if_pos O,aT O]
  by_cases h2:lo≤((s.getD j 0).toNat:Int)
  ·rw [if_pos h2,aT O]
   refine congrArg some (eqB ?_)
   rw [decide_eq_true_eq,decide_eq_true_eq]
   exact ⟨λ q=>⟨h,h2,q⟩,λ q=>q.2.2⟩
  ·rw [if_neg h2,Option.bind_some]
   symm; rw [Option.some.injEq,decide_eq_false_iff_not]
   exact λ q=>h2 q.2.1
 ·rw [if_neg O]; simp [h]
set_option maxHeartbeats 8000000 in
theorem uP (s:Bytes)(i:Nat)(hi:i < s.length)(hs:s.length≤1000000000):iM s (i:Int)=some (DY (s.drop i)):=by
 have hg:∀ k,(s.drop i).getD k 0=s.getD (i+k) 0:=λ k=>by
  rw [List.getD_eq_getElem?_getD,List.getElem?_drop,List.getD_eq_getElem?_getD]
 unfold iM DY
 rw [decodeL_N,hg,hg,hg,hg,Nat.add_zero,List.length_drop]
 have b:∀ k:Nat,byt s ((i:Int)+k)=((s.getD (i+k) 0).toNat:Int):=λ k=>by
  rw [show (i:Int)+(k:Int)=((i+k:Nat):Int) by omega]; exact dh s (i+k)
 have c:∀ (k:Nat) lo hi,eg s ((i:Int)+k) lo hi=some (decide (k < s.length - i∧lo≤((s.getD (i+k) 0).toNat:Int)∧((s.getD (i+k) 0).toNat:Int)≤hi)):=λ k lo hi=>by
  rw [show (i:Int)+(k:Int)=((i+k:Nat):Int) by omega,Dq]
  refine congrArg some (eqB ?_)
  rw [decide_eq_true_eq,decide_eq_true_eq]
  constructor
  ·rintro ⟨h1,h2⟩; exact ⟨by omega,h2⟩
  ·rintro ⟨h1,h2⟩; exact ⟨by omega,h2⟩
 have b0:byt s (i:Int)=((s.getD i 0).toNat:Int):=dh s i
 have b1:byt s ((i:Int)+1)=((s.getD (i+1) 0).toNat:Int):=b 1
 have b2:byt s ((i:Int)+2)=((s.getD (i+2) 0).toNat:Int):=b 2
 have b3:byt s ((i:Int)+3)=((s.getD (i+3) 0).toNat:Int):=b 3
 have c1:∀ lo hi,eg s ((i:Int)+1) lo hi=_:=c 1
 have c2:∀ lo hi,eg s ((i:Int)+2) lo hi=_:=c 2
 have c3:∀ lo hi,eg s ((i:Int)+3) lo hi=_:=c 3
 simp only [b0,b1,b2,b3,c1,c2,c3]
 obtain ⟨n,hn⟩:∃ n,s.length=i+n:=⟨s.length - i,by omega⟩
 have hn1:s.length - i=n:=by omega
 have hlen:(s.length:Int)=(i:Int)+n:=by omega
 rw [hn1,hlen]
 have l0:=(s.getD i 0).toNat_lt
 have l1:=(s.getD (i+1) 0).toNat_lt
 have l2:=(s.getD (i+2) 0).toNat_lt
 have l3:=(s.getD (i+3) 0).toNat_lt
 generalize (s.getD i 0).toNat=B0 at l0 ⊢
 generalize (s.getD (i+1) 0).toNat=B1 at l1 ⊢
 generalize (s.getD (i+2) 0).toNat=B2 at l2 ⊢
 generalize (s.getD (i+3) 0).toNat=B3 at l3 ⊢
 have hnp:0 < n:=by omega
 have hnb:n≤1000000000:=by omega
 have hib:i≤1000000000:=by omega
 clear hg b c b0 b1 b2 b3 c1 c2 c3 hn1 hlen hn hi hs
 have a31:bG .u8 (B0:Int) 31=((B0 % 32:Nat):Int):=tab t31 B0 O
 have a15:bG .u8 (B0:Int) 15=((B0 % 16:Nat):Int):=tab t15 B0 O
 have a7:bG .u8 (B0:Int) 7=((B0 % 8:Nat):Int):=tab t7 B0 O
 have a1:bG .u8 (B1:Int) 63=((B1 % 64:Nat):Int):=tab t63 B1 O
 have a2:bG .u8 (B2:Int) 63=((B2 % 64:Nat):Int):=tab t63 B2 O
 have a3:bG .u8 (B3:Int) 63=((B3 % 64:Nat):Int):=tab t63 B3 O
 have two:iOr .i64 (jK .i64 ((B0 % 32:Nat):Int) 6) ((B1 % 64:Nat):Int)=((B0 % 32*64+B1 % 64:Nat):Int):=by
  have h1:jK .i64 ((B0 % 32:Nat):Int) 6=((B0 % 32*2 ^ 6:Nat):Int):=vT _ 6 (by decide) O
  rw [h1]
  exact vX _ _ 6 O O  (by decide)
 have three:iOr .i64 (iOr .i64 (jK .i64 ((B0 % 16:Nat):Int) 12) (jK .i64 ((B1 % 64:Nat):Int) 6)) ((B2 % 64:Nat):Int)=((B0 % 16*4096+B1 % 64*64+B2 % 64:Nat):Int):=by
  have h1:jK .i64 ((B0 % 16:Nat):Int) 12=((B0 % 16*2 ^ 12:Nat):Int):=vT _ 12 (by decide) O
  have h2:jK .i64 ((B1 % 64:Nat):Int) 6=((B1 % 64*2 ^ 6:Nat):Int):=vT _ 6 (by decide) O
  have h3:=vX (B0 % 16) (B1 % 64*2 ^ 6) 12 O O  (by decide)
  have h4:=vX (B0 % 16*64+B1 % 64) (B2 % 64) 6 O O  (by decide)
  rw [h1,h2,h3,show B0 % 16*2 ^ 12+B1 % 64*2 ^ 6=(B0 % 16*64+B1 % 64)*2 ^ 6 by omega,h4]
 have four:iOr .i64 (iOr .i64 (iOr .i64 (jK .i64 ((B0 % 8:Nat):Int) 18) (jK .i64 ((B1 % 64:Nat):Int) 12)) (jK .i64 ((B2 % 64:Nat):Int) 6)) ((B3 % 64:Nat):Int)=((B0 % 8*262144+B1 % 64*4096+B2 % 64*64+B3 % 64:Nat):Int):=by
  have h1:jK .i64 ((B0 % 8:Nat):Int) 18=((B0 % 8*2 ^ 18:Nat):Int):=vT _ 18 (by decide) O
  have h2:jK .i64 ((B1 % 64:Nat):Int) 12=((B1 % 64*2 ^ 12:Nat):Int):=vT _ 12 (by decide) O
  have h2':jK .i64 ((B2 % 64:Nat):Int) 6=((B2 % 64*2 ^ 6:Nat):Int):=vT _ 6 (by decide) O
  have h3:=vX (B0 % 8) (B1 % 64*2 ^ 12) 18 O O  (by decide)
  have h4:=vX (B0 % 8*64+B1 % 64) (B2 % 64*2 ^ 6) 12 O O  (by decide)
  have h5:=vX (B0 % 8*4096+B1 % 64*64+B2 % 64) (B3 % 64) 6 O O  (by decide)
  rw [h1,h2,h2',h3,show B0 % 8*2 ^ 18+B1 % 64*2 ^ 12=(B0 % 8*64+B1 % 64)*2 ^ 12 by omega,h4,show (B0 % 8*64+B1 % 64)*2 ^ 12+B2 % 64*2 ^ 6=(B0 % 8*4096+B1 % 64*64+B2 % 64)*2 ^ 6 by omega,h5]
 rw [a31,a15,a7,a1,a2,a3,two,three,four]
 have i1:inR ((i:Int)+1):=aS O O
 have i2:inR ((i:Int)+2):=aS O O
 have i3:inR ((i:Int)+3):=aS O O
 have e0:((if (i:Int) < 0 then some true else some (decide ((i:Int)+n≤i))):Option Bool)=some false:=by
  rw [if_neg O]; simp; omega
 rw [e0,Option.bind_some,if_neg G,aT O]
 unfold decodeN
 by_cases h0:B0 < 128
 ·rw [if_pos (show (B0:Int) < 128 by omega),aT (aS O O),if_pos h0]
  simp only
  rw [if_neg O]; rfl
 rw [if_neg (show ¬ (B0:Int) < 128 by omega),if_neg h0]
 have e12:((if 194≤(B0:Int) then if (B0:Int)≤223 then ck (inR ((i:Int)+1)) <| (some (decide (1 < n∧(128:Int)≤(B1:Int)∧(B1:Int)≤191))).bind λ r10=>some r10 else some false else some false):Option Bool)=some (decide (194≤B0∧B0≤223∧1 < n∧128≤B1∧B1≤191)):=by
  by_cases q1:194≤B0
  ·rw [if_pos O]
   by_cases q2:B0≤223
   ·rw [if_pos O,aT i1,Option.bind_some]
    refine congrArg some (eqB ?_)
    rw [decide_eq_true_eq,decide_eq_true_eq]; omega
   ·rw [if_neg O]; simp; omega
  ·rw [if_neg O]; simp; omega
 rw [e12,Option.bind_some]
 by_cases h12:194≤B0∧B0≤223∧1 < n∧128≤B1∧B1≤191
 ·rw [if_pos (by simp only [decide_eq_true_eq]; exact h12),aT (aS O O),aT O,aT i1,aT O,aT (aS O O)]
  rw [if_pos (show B0 / 32=6∧1 < n∧B1 / 64=2 by omega),if_pos (show B0 % 32*64+B1 % 64 ≥ 128 by omega)]
  show some _=some (if B0 % 32*64+B1 % 64=65533∧_ then _ else _)
  rw [if_neg O]; rfl
 rw [if_neg (by simp only [decide_eq_true_eq]; exact h12)]
 have hlo:((if (B0:Int)=224 then some 160 else some 128):Option Int)=some (if B0=224 then 160 else 128):=by
  by_cases q:B0=224
  ·rw [if_pos O,if_pos q]
  ·rw [if_neg O,if_neg q]
 have hhi:((if (B0:Int)=237 then some 159 else some 191):Option Int)=some (if B0=237 then 159 else 191):=by
  by_cases q:B0=237
  ·rw [if_pos O,if_pos q]
  ·rw [if_neg O,if_neg q]
 have hlo4:((if (B0:Int)=240 then some 144 else some 128):Option Int)=some (if B0=240 then 144 else 128):=by
  by_cases q:B0=240
  ·rw [if_pos O,if_pos q]
  ·rw [if_neg O,if_neg q]
 have hhi4:((if (B0:Int)=244 then some 143 else some 191):Option Int)=some (if B0=244 then 143 else 191):=by
  by_cases q:B0=244
  ·rw [if_pos O,if_pos q]
  ·rw [if_neg O,if_neg q]
 rw [hlo,Option.bind_some,hhi,Option.bind_some]
 have e32:∀ lo hi:Int,((if 224≤(B0:Int) then if (B0:Int)≤239 then ck (inR ((i:Int)+1)) <| (some (decide (1 < n∧lo≤(B1:Int)∧(B1:Int)≤hi))).bind λ r26=>if r26=true then ck (inR ((i:Int)+2)) <| (some (decide (2 < n∧(128:Int)≤(B2:Int)∧(B2:Int)≤191))).bind λ r30=>some r30 else some false else some false else some false):Option Bool)
   = some (decide (224≤B0∧B0≤239∧(1 < n∧lo≤(B1:Int)∧(B1:Int)≤hi)∧2 < n∧128≤B2∧B2≤191)):=by
  intro lo hi
  by_cases q1:224≤B0
  ·rw [if_pos O]
   by_cases q2:B0≤239
   ·rw [if_pos O,aT i1,Option.bind_some]
    by_cases q3:1 < n∧lo≤(B1:Int)∧(B1:Int)≤hi
    ·rw [if_pos (by simp only [decide_eq_true_eq]; exact q3),aT i2,Option.bind_some]
     refine congrArg some (eqB ?_)
     rw [decide_eq_true_eq,decide_eq_true_eq]
     constructor
     ·intro q; exact ⟨q1,q2,q3,by omega⟩
     ·intro q; have:=q.2.2.2; omega
    ·rw [if_neg (by simp only [decide_eq_true_eq]; exact q3)]
     symm; rw [Option.some.injEq,decide_eq_false_iff_not]
     intro q; exact q3 q.2.2.1
   ·rw [if_neg O]
    symm; rw [Option.some.injEq,decide_eq_false_iff_not]
    intro q; exact q2 q.2.1
  ·rw [if_neg O]
   symm; rw [Option.some.injEq,decide_eq_false_iff_not]
   intro q; exact q1 q.1
 rw [e32,Option.bind_some]
 by_cases h32:224≤B0∧B0≤239∧(1 < n∧(if B0=224 then 160 else 128)≤(B1:Int)∧(B1:Int)≤(if B0=237 then 159 else 191))∧2 < n∧128≤B2∧B2≤191
 ·rw [if_pos (by simp only [decide_eq_true_eq]; exact h32)]
  obtain ⟨k1,k2,⟨k3,k4,k5⟩,k6,k7,k8⟩:=h32
  have k4':128≤B1∧(B0=224→160≤B1):=by split at k4 <;> omega
  have k5':B1≤191∧(B0=237→B1≤159):=by split at k5 <;> omega
  clear k4 k5
  repeat rw [aT (by first | exact i1 | exact i2 | omega | exact aS O O)]
  rw [if_neg (show ¬ (B0 / 32=6∧1 < n∧B1 / 64=2) by omega),if_pos (show B0 / 16=14∧(1 < n∧B1 / 64=2)∧2 < n∧B2 / 64=2 by omega),if_pos (show B0 % 16*4096+B1 % 64*64+B2 % 64 ≥ 2048∧(B0 % 16*4096+B1 % 64*64+B2 % 64 < 55296∨57344≤B0 % 16*4096+B1 % 64*64+B2 % 64∧B0 % 16*4096+B1 % 64*64+B2 % 64≤1114111) by omega)]
  show some _=some (if B0 % 16*4096+B1 % 64*64+B2 % 64=65533∧(3:Nat)=1 then _ else _)
  rw [if_neg O]; rfl
 rw [if_neg (by simp only [decide_eq_true_eq]; exact h32)]
 rw [hlo4,Option.bind_some,hhi4,Option.bind_some]
 have h32':¬ (224≤B0∧B0≤239∧1 < n∧(B0=224→160≤B1)∧128≤B1∧B1≤191∧(B0=237→B1≤159)∧2 < n∧128≤B2∧B2≤191):=by
  rintro ⟨k1,k2,k3,k4,k5,k6,k7,k8⟩
  exact h32 ⟨k1,k2,⟨k3,by split <;> omega,by split <;> omega⟩,k8⟩
 clear h32 e32
 have e60:∀ lo hi:Int,((if 240≤(B0:Int) then if (B0:Int)≤244 then ck (inR ((i:Int)+1)) <| (some (decide (1 < n∧lo≤(B1:Int)∧(B1:Int)≤hi))).bind λ r50=>if r50=true then ck (inR ((i:Int)+2)) <| (some (decide (2 < n∧(128:Int)≤(B2:Int)∧(B2:Int)≤191))).bind λ r54=>if r54=true then ck (inR ((i:Int)+3)) <| (some (decide (3 < n∧(128:Int)≤(B3:Int)∧(B3:Int)≤191))).bind λ r58=>some r58 else some false else some false else some false else some false):Option Bool)
   = some (decide (240≤B0∧B0≤244∧(1 < n∧lo≤(B1:Int)∧(B1:Int)≤hi)∧(2 < n∧128≤B2∧B2≤191)∧3 < n∧128≤B3∧B3≤191)):=by
  intro lo hi
  by_cases q1:240≤B0
  ·rw [if_pos O]
   by_cases q2:B0≤244
   ·rw [if_pos O,aT i1,Option.bind_some]
    by_cases q3:1 < n∧lo≤(B1:Int)∧(B1:Int)≤hi
    ·rw [if_pos (by simp only [decide_eq_true_eq]; exact q3),aT i2,Option.bind_some]
     by_cases q4:2 < n∧128≤B2∧B2≤191
     ·rw [if_pos (by simp only [decide_eq_true_eq]; omega),aT i3,Option.bind_some]
      refine congrArg some (eqB ?_)
      rw [decide_eq_true_eq,decide_eq_true_eq]
      constructor
      ·intro q; exact ⟨q1,q2,q3,q4,by omega⟩
      ·intro q; have:=q.2.2.2.2; omega
     ·rw [if_neg (by simp only [decide_eq_true_eq]; omega)]
      symm; rw [Option.some.injEq,decide_eq_false_iff_not]
      intro q; exact q4 q.2.2.2.1
    ·rw [if_neg (by simp only [decide_eq_true_eq]; exact q3)]
     symm; rw [Option.some.injEq,decide_eq_false_iff_not]
     intro q; exact q3 q.2.2.1
   ·rw [if_neg O]
    symm; rw [Option.some.injEq,decide_eq_false_iff_not]
    intro q; exact q2 q.2.1
  ·rw [if_neg O]
   symm; rw [Option.some.injEq,decide_eq_false_iff_not]
   intro q; exact q1 q.1
 rw [e60,Option.bind_some]
 by_cases h60:240≤B0∧B0≤244∧(1 < n∧(if B0=240 then 144 else 128)≤(B1:Int)∧(B1:Int)≤(if B0=244 then 143 else 191))∧(2 < n∧128≤B2∧B2≤191)∧3 < n∧128≤B3∧B3≤191
 ·rw [if_pos (by simp only [decide_eq_true_eq]; exact h60)]
  obtain ⟨k1,k2,⟨k3,k4,k5⟩,⟨k6,k7,k8⟩,k9,k10,k11⟩:=h60
  have k4':128≤B1∧(B0=240→144≤B1):=by split at k4 <;> omega
  have k5':B1≤191∧(B0=244→B1≤143):=by split at k5 <;> omega
  clear k4 k5
  repeat rw [aT (by first | exact i1 | exact i2 | exact i3 | omega | exact aS O O)]
  rw [if_neg (show ¬ (B0 / 32=6∧1 < n∧B1 / 64=2) by omega),if_neg (show ¬ (B0 / 16=14∧(1 < n∧B1 / 64=2)∧2 < n∧B2 / 64=2) by omega),if_pos (show B0 / 8=30∧(1 < n∧B1 / 64=2)∧(2 < n∧B2 / 64=2)∧3 < n∧B3 / 64=2 by omega)]
  generalize hv:B0 % 8*262144+B1 % 64*4096+B2 % 64*64+B3 % 64=v
  rw [if_pos (show v ≥ 65536∧(v < 55296∨57344≤v∧v≤1114111) by omega)]
  show some _=some (if v=65533∧(4:Nat)=1 then _ else _)
  rw [if_neg O]; rfl
 rw [if_neg (by simp only [decide_eq_true_eq]; exact h60)]
 have h60':¬ (240≤B0∧B0≤244∧1 < n∧(B0=240→144≤B1)∧128≤B1∧B1≤191∧(B0=244→B1≤143)∧2 < n∧128≤B2∧B2≤191∧3 < n∧128≤B3∧B3≤191):=by
  rintro ⟨k1,k2,k3,k4,k5,k6,k7,k8,k9,k10,k11⟩
  exact h60 ⟨k1,k2,⟨k3,by split <;> omega,by split <;> omega⟩,⟨k8,k9,k10⟩,k11⟩
 clear h60 e60
 symm
 refine congrArg some (if_pos ?_)
 repeat' split
 all_goals first | exact ⟨Z,Z⟩ | (exfalso; omega)
theorem Ao (s:Bytes)(hs:s.length≤1000000000):∀ (k i:Nat),s.length - i < k→i≤s.length→Ev2 (λ _ m=>fL s m (i:Int)) (·=if validD (s.drop i)=true then .inl () else .inr false):=by
 intro k
 induction k with
 | zero=>intro i h; omega
 | succ k ih =>
  intro i hk hi
  refine aF ?_
  simp only [fL]
  by_cases h:i < s.length
  ·have hne:s.drop i≠[]:=by intro q; have:=congrArg List.length q; rw [List.length_drop] at this; simp at this; omega
   refine ao O (au _ (aU (uP s i h hs) Z) ?_)
   have hv:=us _ hne
   have hdf:=lD _ hne
   rw [List.length_drop] at hdf
   unfold DY
   by_cases q:(decodeL (s.drop i)).1=65533∧(decodeL (s.drop i)).2=1
   ·rw [if_pos q]
    refine ao Z (aa ?_)
    rw [if_neg (λ z=>((hv.1 z).1 q))]
   ·rw [if_neg q]
    refine ap (by simp only; omega) (af (aS (by simp only; omega) (by simp only; omega)) ?_)
    have:=ih (i+(decodeL (s.drop i)).2) O O
    rw [Int.natCast_add] at this
    refine ed this λ r hr=>?_
    rw [hr,← List.drop_drop]
    by_cases z:validD ((s.drop i).drop (decodeL (s.drop i)).2)=true
    ·rw [if_pos z,if_pos (hv.2 ⟨q,z⟩)]
    ·rw [if_neg z,if_neg (λ y=>z (hv.1 y).2)]
  ·refine ap O (aa ?_)
   rw [List.drop_of_length_le O,if_pos validD_nil]
theorem A5 (s:Bytes)(hs:s.length≤1000000000):Ev2 (λ n _=>kM n s) (·=(decide (s.length≤4096)&&validD s)):=by
 simp only [kM]
 refine aB (λ h=>aa ?_) (λ h=>?_)
 ·have:¬ s.length≤4096:=by omega
  simp [this]
 ·have h':s.length≤4096:=by omega
  have l:=Ao s hs (s.length+1) 0 O O
  rw [List.drop_zero] at l
  cases hv:validD s with
  | true=>rw [hv] at l; exact gH () (aY l) (aa (by simp [h']))
  | false=>rw [hv] at l; exact gw false (aY l) G
theorem yI:∀ (k u:Nat),u < 10 ^ (k+1)→u≤9007199254740992→Ev2 (λ n _=>d4 n (u:Int)) (·=decDigits u):=by
 intro k
 induction k with
 | zero =>
  intro u h _
  have h:u < 10:=by simpa using h
  refine px ?_
  simp only [d4]
  have hw:IntKind.wrap .u8 (48+(u:Int))=((48+u:Nat):Int):=by rw [qk]; omega
  rw [hw]
  refine au true (ao O (aa (by simp; omega))) (ao Z (af (aS O O) (af O (aa ?_))))
  rw [decDigits,dif_pos h]
  rfl
 | succ k ih =>
  intro u h hm
  refine px ?_
  simp only [d4]
  have hw:u < 10→IntKind.wrap .u8 (48+(u:Int))=((48+u:Nat):Int):=λ _=>by rw [qk]; omega
  by_cases h10:u < 10
  ·rw [hw h10]
   refine au true (ao O (aa (by simp; omega))) (ao Z (af (aS O O) (af O (aa ?_))))
   rw [decDigits,dif_pos h10]
   rfl
  ·have hd:IntKind.wrap .i64 ((u:Int).tdiv 10)=((u / 10:Nat):Int):=by
    have:(u:Int).tdiv 10=((u / 10:Nat):Int):=by
     rw [Int.tdiv_eq_ediv_of_nonneg O]; omega
    rw [this]
    simp [IntKind.wrap,IntKind.bits,IntKind.signed]
    omega
   have hmod:(u:Int).tmod 10=((u % 10:Nat):Int):=by
    rw [Int.tmod_eq_emod_of_nonneg O]; omega
   refine au false (ao O (aa (by simp; omega))) (ap G ?_)
   refine au false (ap O (aa Z)) (ap G (ap O (af (by decide) ?_)))
   rw [hd,hmod]
   have i1:=ih (u / 10) (by rw [Nat.pow_succ] at h; omega) O
   have i2:=ih (u % 10) (by have:10 ^ 1≤10 ^ (k+1):=Nat.pow_le_pow_right (by decide) O; omega) O
   have e2:decDigits (u % 10)=[UInt8.ofNat (48+u % 10)]:=by rw [decDigits,dif_pos O]
   have hl:(decDigits (u / 10)).length≤u / 10+1:=by
    have:∀ n v:Nat,v < n→(decDigits v).length≤v+1:=by
     intro n
     induction n with
     | zero=>intro v h; omega
     | succ n ihn =>
      intro v hv
      rw [decDigits]
      split
      ·simp
      ·have:=ihn (v / 10) O
       rw [List.length_append]; simp; omega
    exact this (u / 10+1) _ O
   refine au _ i1 (af (by decide) (au _ i2 (af ?_ (aa ?_))))
   ·rw [e2]; simp only [List.length_cons,List.length_nil]; omega
   ·conv=>rhs; rw [decDigits,dif_neg h10]
    rw [e2]
theorem Cu {v:Int}(h0:0≤v)(h1:v≤jh):Ev2 (λ n _=>d4 n v) (·=itoa v):=by
 obtain ⟨u,rfl⟩:∃ u:Nat,v=u:=⟨v.toNat,by omega⟩
 have e:itoa (u:Int)=decDigits u:=by unfold itoa; rw [if_neg O]; simp
 rw [e]
 have:u≤9007199254740992:=by unfold jh at h1; omega
 exact yI 15 u O this
theorem zP:∀ n:Fin 16,sub D6 ((n.1:Nat):Int) (((n.1:Nat):Int)+1)=[hexDigit n.1]:=by decide
theorem yY (u:Nat)(h:u < 256):Ev2 (λ n _=>gm n (u:Int)) (·=dK u):=by
 have one:∀ v:Nat,v < 16→Ev2 (λ n _=>gm n (v:Int)) (·=[hexDigit v]):=by
  intro v hv
  refine px ?_
  simp only [gm]
  have hm:(v:Int).tmod 16=(v:Int):=by rw [Int.tmod_eq_emod_of_nonneg O]; omega
  rw [hm]
  refine af (by decide) (af (by decide) (af (aS O O) (af (by simp; omega) (ao O (aa ?_)))))
  exact zP ⟨v,hv⟩
 by_cases h1:u < 16
 ·have e:dK u=[hexDigit u]:=if_pos h1
  rw [e]; exact one u h1
 ·have e:dK u=[hexDigit (u / 16),hexDigit (u % 16)]:=if_neg h1
  rw [e]
  refine px ?_
  simp only [gm]
  have hm:(u:Int).tmod 16=((u % 16:Nat):Int):=by rw [Int.tmod_eq_emod_of_nonneg O]; omega
  have hd:IntKind.wrap .i64 ((u:Int).tdiv 16)=((u / 16:Nat):Int):=by
   have:(u:Int).tdiv 16=((u / 16:Nat):Int):=by rw [Int.tdiv_eq_ediv_of_nonneg O]; omega
   rw [this]
   simp [IntKind.wrap,IntKind.bits,IntKind.signed]
   omega
  rw [hm,hd]
  have es:sub ([48,49,50,51,52,53,54,55,56,57,97,98,99,100,101,102]:Bytes) ((u % 16:Nat):Int) (((u % 16:Nat):Int)+1)=[hexDigit (u % 16)]:=zP ⟨u % 16,by omega⟩
  rw [es]
  refine af (by decide) (af (by decide) (af (aS O O) (af (by simp; omega) (ap O (af (by decide) (au _ (one _ O) (af G (aa Z))))))))
theorem DT (b:UInt8):Ev2 (λ n _=>jl n (b.toNat:Int)) (·=gj b):=by
 have hb:=b.toNat_lt
 simp only [jl]
 refine aB (λ h=>aa (zF O).symm) (λ h1=>aB (λ h=>aa (zh O).symm) (λ h2=>aB (λ h=>aa (zc O).symm) (λ h3=>aB (λ h=>aa ?_) (λ h4=>aB (λ h=>aa ?_) (λ h5=>?_)))))
 ·have e:b=34:=(lS (n:=34) (by decide)).1 O
  rw [e]; rfl
 ·have e:b=92:=(lS (n:=92) (by decide)).1 O
  rw [e]; rfl
 ·refine au (decide (b.toNat < 32∨b.toNat=127)) ?_ ?_
  ·by_cases h:b.toNat < 32
   ·exact ao O (aa (by simp [h]))
   ·exact ap O (aa (eqB (by rw [decide_eq_true_eq,decide_eq_true_eq]; omega)))
  ·by_cases h6:b.toNat < 32∨b.toNat=127
   ·rw [zj O O O h6]
    have hl:=oo b.toNat
    exact ao (by simp [h6]) (af (aS O O) (au _ (yY b.toNat O) (af (by simp only [List.length_cons,List.length_nil]; omega) (af (by simp only [List.length_append,List.length_cons,List.length_nil]; omega) (aa Z)))))
   ·rw [xw O O  h6]
    refine ap (by simp only [decide_eq_true_eq]; exact h6) (af O (aa ?_))
    rw [BE]
theorem AX (s:Bytes)(hs:s.length≤1000000000):∀ (k i:Nat) (f:Bytes),i+k=s.length→f.length≤6*i+1→Ev2 (λ n m=>eZ n s m f (i:Int)) (·=f++(s.drop i).flatMap gj):=by
 intro k
 induction k with
 | zero =>
  intro i f hi hf
  refine aF ?_
  simp only [eZ]
  refine ap O (aa ?_)
  rw [List.drop_of_length_le O]; simp
 | succ k ih =>
  intro i f hi hf
  refine aF ?_
  simp only [eZ]
  refine ao O (af O ?_)
  have hb:byt s i=((s.getD i 0).toNat:Int):=dh s i
  rw [hb]
  have hd:s.drop i=s.getD i 0::s.drop (i+1):=by
   rw [List.getD_eq_getElem?_getD,List.getElem?_eq_getElem O,Option.getD_some]
   exact List.drop_eq_getElem_cons O
  rw [hd,List.flatMap_cons]
  have he:=qv (s.getD i 0)
  generalize s.getD i 0=b at he ⊢
  refine au _ (DT b) (af O (af (aS O O) ?_))
  have:=ih (i+1) (f++gj b) O (by rw [List.length_append]; omega)
  rw [Int.natCast_add,Int.natCast_one] at this
  simpa using this
theorem vD (s:Bytes)(hs:s.length≤1000000000):Ev2 (λ n _=>jI n s) (·=dZ s):=by
 simp only [jI]
 have hf:=uz s
 have l:=AX s hs s.length 0 [34] O G
 rw [List.drop_zero] at l
 refine au _ (aY l) (af (by simp only [List.length_append,List.length_cons,List.length_nil]; omega) (aa ?_))
 simp [dZ]
theorem FZ:(List.range 256).all (λ n=>lE (n:Int) == some (match rM (UInt8.ofNat n) with | some d=>(d:Int) | none=>-1))=true:=by kernel_rfl
theorem Fh (b:UInt8):lE (b.toNat:Int)=some (match rM b with | some d=>(d:Int) | none=>-1):=by
 have:=eq_of_beq (List.all_eq_true.1 FZ b.toNat (List.mem_range.2 b.toNat_lt))
 simpa using this
theorem getD_drop (s:Bytes)(j i:Nat):(s.drop j).getD i 0=s.getD (j+i) 0:=by
 rw [List.getD_eq_getElem?_getD,List.getElem?_drop,List.getD_eq_getElem?_getD]
theorem uy (s:Bytes)(j i:Nat):byt s ((j:Int)+(i:Int))=((s.getD (j+i) 0).toNat:Int):=by
 rw [show (j:Int)+(i:Int)=((j+i:Nat):Int) by omega]; exact dh s (j+i)
theorem drop_at (s:Bytes){i:Nat}(h:i < s.length):s.drop i=s.getD i 0::s.drop (i+1):=by
 rw [List.getD_eq_getElem?_getD,List.getElem?_eq_getElem h,Option.getD_some]
 exact List.drop_eq_getElem_cons h
theorem AM (s:Bytes)(hs:s.length≤1000000000)(j:Nat)(hj:j≤s.length):∀ (k i a:Nat),i+k=6→j+i≤s.length→a < 16 ^ i→Ev2 (λ _ m=>eY s (j:Int) m (a:Int) (i:Int))
  (·=(((dr k (s.drop (j+i)) a).1:Int),((i+(dr k (s.drop (j+i)) a).2:Nat):Int))):=by
 intro k
 induction k with
 | zero =>
  intro i a hi hl ha
  refine aF ?_
  simp only [eY]
  refine au false ?_ (ap G (aa (by simp [dr])))
  exact af (aS O O) (aB (λ h=>ap O (aa Z)) (λ h=>aa Z))
 | succ k ih =>
  intro i a hi hl ha
  refine aF ?_
  simp only [eY]
  rw [uy]
  have hin:inR ((j:Int)+(i:Int)):=aS O O
  by_cases h:j+i < s.length
  ·rw [drop_at s h]
   generalize s.getD (j+i) 0=b
   unfold dr
   cases hh:rM b with
   | none =>
    refine au false (af hin (ao O (ao O (af hin (af O (au _ (aU (Fh b) Z) (aa ?_))))))) (ap G (aa G))
    rw [hh]; rfl
   | some d =>
    have hlt:=zD hh
    have hp:16 ^ i≤16 ^ 5:=Nat.pow_le_pow_right (by decide) O
    have hp5:(16:Nat) ^ 5=1048576:=rfl
    refine au true (af hin (ao O (ao O (af hin (af O (au _ (aU (Fh b) Z) (aa ?_))))))) ?_
    ·rw [hh]; simp
    refine ao Z (af (aS O O) (af hin (af O (au _ (aU (Fh b) Z) ?_))))
    rw [hh]
    simp only
    refine af (aS O O) (af (aS O O) ?_)
    have:=ih (i+1) (16*a+d) O O  (by rw [Nat.pow_succ]; omega)
    rw [show (((i+1:Nat)):Int)=(i:Int)+1 by omega,show ((16*a+d:Nat):Int)=16*(a:Int)+(d:Int) by omega,← Nat.add_assoc] at this
    refine ed this λ r hr=>?_
    rw [hr]
    refine Prod.ext Z ?_
    show ((i+1+_:Nat):Int)=((i+(_+1):Nat):Int)
    omega
  ·refine au false (af hin (ap O (aa Z))) (ap G (aa ?_))
   rw [List.drop_of_length_le O]
   simp [dr]
def shP (j:Int)(p:Int×Int×Int):Int×Int×Int:=if p.2.2=0 then (p.1,j+p.2.1,0) else (0,0,p.2.2)
theorem zR (s:Bytes)(hs:s.length≤1000000000)(j:Nat)(hj:j≤s.length):Ev2 (λ n _=>lb n s (j:Int)) (·=shP (j:Int) (jJ (s.drop j))):=by
 simp only [lb]
 have l:=AM s hs j hj 6 0 0 Z O (by decide)
 rw [Nat.add_zero,Nat.zero_add] at l
 have hle:=pz 6 (s.drop j) 0
 refine au _ (aY l) ?_
 obtain ⟨v,c,hh⟩:∃ v c,dr 6 (s.drop j) 0=(v,c):=⟨_,_,rfl⟩
 have hP:=tp hh
 rw [hh] at hle ⊢
 rw [List.length_drop] at hle hP
 simp only at hle ⊢
 have hin:inR ((j:Int)+(c:Int)):=aS O O
 refine af hin ?_
 refine aB (λ h=>aa ?_) (λ h=>?_)
 ·rw [hP,if_pos O]; rfl
 rw [if_neg (show ¬ c=s.length - j by omega),getD_drop,getD_drop,Nat.add_zero] at hP
 have hb0:byt s (j:Int)=((s.getD j 0).toNat:Int):=dh s j
 have h125:(s.getD (j+c) 0).toNat=125↔s.getD (j+c) 0=125:=lS (by decide)
 have h48:(s.getD j 0).toNat=48↔s.getD j 0=48:=lS (by decide)
 rw [uy,hb0]
 have hvr:validRune (v:Int)=false↔1114111 < (v:Int)∨(55296≤(v:Int)∧(v:Int)≤57343):=by
  simp only [validRune,decide_eq_false_iff_not]; omega
 have tail:Ev2 (λ _ _=>(if 1114111 < (v:Int) then some true else if 55296≤(v:Int) then some (decide ((v:Int)≤57343)) else some false:Option Bool)) (·=decide (validRune (v:Int)=false)):=by
  refine aB (λ h1=>aa ?_) (λ h1=>aB (λ h2=>aa (eqB ?_)) (λ h2=>aa ?_))
  ·symm; rw [decide_eq_true_eq,hvr]; exact .inl h1
  ·rw [decide_eq_true_eq,decide_eq_true_eq,hvr]; omega
  ·symm; rw [decide_eq_false_iff_not,hvr]; omega
 refine au (decide (s.getD (j+c) 0≠125∨c=0∨(1 < c∧s.getD j 0=48)∨validRune (v:Int)=false)) ?_ ?_
 ·refine aB (λ h1=>aa ?_) (λ h1=>af hin (af O ?_))
  ·symm; rw [decide_eq_true_eq]; right; left; omega
  refine aB (λ h2=>?_) (λ h2=>aa ?_)
  ·have q1:¬ s.getD (j+c) 0≠125:=λ q=>q (h125.1 O)
   have q0:¬ c=0:=by omega
   refine aB (λ h3=>af O (aB (λ h4=>aa ?_) (λ h4=>?_))) (λ h3=>?_)
   ·symm; rw [decide_eq_true_eq]; right; right; left; exact ⟨by omega,h48.1 O⟩
   ·have q2:¬ (1 < c∧s.getD j 0=48):=λ q=>h4 (by have:=h48.2 q.2; omega)
    refine ed tail λ r hr=>?_
    rw [hr]; simp only [q1,q0,q2,false_or]
   ·have q2:¬ (1 < c∧s.getD j 0=48):=λ q=>h3 O
    refine ed tail λ r hr=>?_
    rw [hr]; simp only [q1,q0,q2,false_or]
  ·symm; rw [decide_eq_true_eq]; left; intro q; exact h2 (by have:=h125.2 q; omega)
 ·refine aB (λ h1=>aa ?_) (λ h1=>af hin (af (aS O O) (aa ?_)))
  ·rw [hP,if_pos (of_decide_eq_true h1)]; rfl
  ·rw [hP,if_neg (λ q=>h1 (decide_eq_true q))]
   unfold shP
   rw [if_pos rfl]
   refine Prod.ext Z (Prod.ext ?_ Z)
   show (j:Int)+(c:Int)+1=(j:Int)+((c+1:Nat):Int)
   omega
theorem u192:(List.range 32).all (λ n=>iOr .i64 192 (n:Int) == ((192+n:Nat):Int))=true:=by kernel_rfl
theorem FC:(List.range 64).all (λ n=>iOr .i64 128 (n:Int) == ((128+n:Nat):Int))=true:=by kernel_rfl
theorem u224:(List.range 16).all (λ n=>iOr .i64 224 (n:Int) == ((224+n:Nat):Int))=true:=by kernel_rfl
theorem u240:(List.range 8).all (λ n=>iOr .i64 240 (n:Int) == ((240+n:Nat):Int))=true:=by kernel_rfl
theorem yw (u:Nat)(h:u < 4611686018427387904):bG .i64 (u:Int) 63=((u % 64:Nat):Int):=by
 have e1:(BitVec.ofInt 64 (u:Int)).toNat=u:=by rw [BitVec.toNat_ofInt]; omega
 have e2:(BitVec.ofInt 64 (63:Int)).toNat=63:=by rw [BitVec.toNat_ofInt]; omega
 show IntKind.wrap .i64 (((BitVec.ofInt 64 (u:Int)) &&& (BitVec.ofInt 64 (63:Int))).toNat:Nat)=_
 rw [BitVec.toNat_and,e1,e2]
 have:=Nat.and_two_pow_sub_one_eq_mod u 6
 rw [show (2:Nat) ^ 6 - 1=63 from rfl,show (2:Nat) ^ 6=64 from rfl] at this
 rw [this]
 simp [IntKind.wrap,IntKind.bits,IntKind.signed]
 omega
theorem shw (u k:Nat)(hk:k < 64):cS .i64 (u:Int) (k:Int)=((u / 2 ^ k:Nat):Int):=by
 show (u:Int).fdiv (2 ^ (min (k:Int).toNat IntKind.i64.bits))=_
 have:min (k:Int).toNat IntKind.i64.bits=k:=by
  have:IntKind.i64.bits=64:=rfl
  rw [this]; omega
 rw [this,Int.fdiv_eq_ediv_of_nonneg _ (by exact Int.le_of_lt (Int.pow_pos (by decide)))]
 push_cast; rfl
theorem D7 (u:Nat)(h:fY (u:Int)):jV (u:Int)=some (encodeRune (u:Int)):=by
 have h0:(u:Int)≤1114111:=by unfold fY at h; omega
 unfold jV
 have s6:cS .i64 (u:Int) 6=((u / 64:Nat):Int):=shw u 6 (by decide)
 have s12:cS .i64 (u:Int) 12=((u / 4096:Nat):Int):=shw u 12 (by decide)
 have s18:cS .i64 (u:Int) 18=((u / 262144:Nat):Int):=shw u 18 (by decide)
 rw [s6,s12,s18,yw u O,yw (u / 64) O,yw (u / 4096) O]
 have o1:iOr .i64 128 ((u % 64:Nat):Int)=((128+u % 64:Nat):Int):=tab FC _ O
 have o2:iOr .i64 128 ((u / 64 % 64:Nat):Int)=((128+u / 64 % 64:Nat):Int):=tab FC _ O
 have o3:iOr .i64 128 ((u / 4096 % 64:Nat):Int)=((128+u / 4096 % 64:Nat):Int):=tab FC _ O
 rw [o1,o2,o3]
 have w8:∀ v:Nat,v < 256→IntKind.wrap .u8 (v:Int)=(v:Int):=λ v hv=>by rw [qk]; omega
 have eu:∀ (v:Nat) (w:Int),(v:Int)=w→u8 (v:Int)=w.toNat.toUInt8:=λ v w q=>by rw [← q]; rfl
 by_cases h1:u < 128
 ·rw [if_pos O,w8 u O,aT O]
  simp only [encodeRune,encodeRuneZ,if_pos (show 0≤(u:Int)∧(u:Int)≤127 by omega),List.map_cons,List.map_nil,u8]
 rw [if_neg O]
 have n1:¬ (0≤(u:Int)∧(u:Int)≤127):=by omega
 by_cases h2:u < 2048
 ·have p1:iOr .i64 192 ((u / 64:Nat):Int)=((192+u / 64:Nat):Int):=tab u192 _ O
  rw [if_pos O,p1,w8 _ O,w8 _ O,aT O,aT O,aT O]
  simp only [encodeRune,encodeRuneZ,if_neg n1,if_pos (show 128≤(u:Int)∧(u:Int)≤2047 by omega),List.map_cons,List.map_nil]
  rw [eu _ (192+(u:Int) / 64) O,eu _ (128+(u:Int) % 64) O]
 rw [if_neg O]
 have n2:¬ (128≤(u:Int)∧(u:Int)≤2047):=by omega
 by_cases h3:u < 65536
 ·have p1:iOr .i64 224 ((u / 4096:Nat):Int)=((224+u / 4096:Nat):Int):=tab u224 _ O
  rw [if_pos O,p1,w8 _ O,w8 _ O,w8 _ O]
  repeat rw [aT O]
  simp only [encodeRune,encodeRuneZ,if_neg n1,if_neg n2,if_pos (show (2048≤(u:Int)∧(u:Int) < 55296)∨(57343 < (u:Int)∧(u:Int)≤65535) by unfold fY at h; omega),List.map_cons,List.map_nil]
  rw [eu _ (224+(u:Int) / 4096) O,eu _ (128+(u:Int) / 64 % 64) O,eu _ (128+(u:Int) % 64) O]
 ·have p1:iOr .i64 240 ((u / 262144:Nat):Int)=((240+u / 262144:Nat):Int):=tab u240 _ O
  rw [if_neg O,p1,w8 _ O,w8 _ O,w8 _ O,w8 _ O]
  repeat rw [aT O]
  simp only [encodeRune,encodeRuneZ,if_neg n1,if_neg n2,if_neg (show ¬ ((2048≤(u:Int)∧(u:Int) < 55296)∨(57343 < (u:Int)∧(u:Int)≤65535)) by omega),if_pos (show 65536≤(u:Int)∧(u:Int)≤1114111 by omega),List.map_cons,List.map_nil]
  rw [eu _ (240+(u:Int) / 262144) O,eu _ (128+(u:Int) / 4096 % 64) O,eu _ (128+(u:Int) / 64 % 64) O,eu _ (128+(u:Int) % 64) O]
theorem pi (s:Bytes)(a w:Nat):sub s (a:Int) ((a:Int)+(w:Int))=(s.drop a).take w:=by
 show (s.take ((a:Int)+(w:Int)).toNat).drop (a:Int).toNat=_
 rw [show ((a:Int)+(w:Int)).toNat=a+w by omega,Int.toNat_natCast,List.drop_take,Nat.add_sub_cancel_left]
def shE (j:Int)(p:Int×Int×Int):Bytes×Int×Int:=if p.2.2=0 then (encodeRune p.1,j+p.2.1,0) else ([],0,p.2.2)
theorem nq (j v c:Int):shE j (v,c,0)=(encodeRune v,j+c,0):=if_pos Z
theorem zp (j v c e:Int)(h:e≠0):shE j (v,c,e)=([],0,e):=if_neg h
theorem xq (s:Bytes)(hs:s.length≤1000000000)(i:Nat)(hi:i < s.length):Ev2 (λ n _=>ja n s (i:Int)) (·=shE ((i:Int)+1) (ke (s.drop (i+1)))):=by
 simp only [ja]
 have i1:inR ((i:Int)+1):=aS O O
 have i2:inR ((i:Int)+2):=aS O O
 have i3:inR ((i:Int)+3):=aS O O
 refine af i1 ?_
 by_cases h1:i+1 < s.length
 ·have hb:byt s ((i:Int)+1)=((s.getD (i+1) 0).toNat:Int):=uy s i 1
  have hb2:byt s ((i:Int)+2)=((s.getD (i+2) 0).toNat:Int):=uy s i 2
  have hsub:sub s ((i:Int)+1) ((i:Int)+2)=[s.getD (i+1) 0]:=by
   have:=pi s (i+1) 1
   rw [show ((i+1:Nat):Int)=(i:Int)+1 by omega,show (i:Int)+1+((1:Nat):Int)=(i:Int)+2 by omega] at this
   rw [this,drop_at s h1]; rfl
  have hd2:s.drop (i+1+1)=s.drop (i+2):=rfl
  rw [hb,hb2,hsub,drop_at s h1,hd2]
  generalize s.getD (i+1) 0=b
  have hbl:=b.toNat_lt
  have hP:=py b (s.drop (i+2))
  refine ap O (af i1 (af O ?_))
  have two:(i:Int)+2=(i:Int)+1+1:=by omega
  refine aB (λ h=>af i2 (aa ?_)) (λ h1=>?_)
  ·rw [hP,if_pos O,nq,two]; rfl
  rw [if_neg (show ¬ b.toNat=110 by omega)] at hP
  refine aB (λ h=>af i2 (aa ?_)) (λ h2=>?_)
  ·rw [hP,if_pos O,nq,two]; rfl
  rw [if_neg (show ¬ b.toNat=114 by omega)] at hP
  refine aB (λ h=>af i2 (aa ?_)) (λ h3=>?_)
  ·rw [hP,if_pos O,nq,two]; rfl
  rw [if_neg (show ¬ b.toNat=116 by omega)] at hP
  refine au (decide (b.toNat=34∨b.toNat=92)) ?_ ?_
  ·by_cases h:b.toNat=34
   ·exact ao O (aa (by simp [h]))
   ·exact ap O (aa (eqB (by rw [decide_eq_true_eq,decide_eq_true_eq]; omega)))
  by_cases h4:b.toNat=34∨b.toNat=92
  ·rw [if_pos h4] at hP
   rw [hP,nq,rR b O]
   exact ao (by simp [h4]) (af i1 (af i2 (af O (af i2 (aa (by rw [two]))))))
  rw [if_neg h4] at hP
  refine ap (by simp only [decide_eq_true_eq]; exact h4) ?_
  refine aB (λ h5=>?_) (λ h5=>aa (by rw [hP,if_neg O]; rfl))
  rw [if_pos (show b.toNat=117 by omega)] at hP
  rw [hP]
  refine af i2 ?_
  by_cases h6:i+2 < s.length
  ·rw [drop_at s h6]
   have hd3:s.drop (i+2+1)=s.drop (i+3):=rfl
   rw [hd3]
   refine ap O (af i2 (af O ?_))
   generalize s.getD (i+2) 0=c
   show Ev2 _ (·=shE ((i:Int)+1) (if c.toNat=123 then ((jJ (s.drop (i+3))).1,(jJ (s.drop (i+3))).2.1+2,(jJ (s.drop (i+3))).2.2) else ((0,0,2):Int×Int×Int)))
   refine aB (λ h7=>af i3 ?_) (λ h7=>aa (by rw [if_neg O]; rfl))
   rw [if_pos (show c.toNat=123 by omega)]
   have hpt:=zR s hs (i+3) O
   rw [show ((i+3:Nat):Int)=(i:Int)+3 by omega] at hpt
   have hle:=ww (s.drop (i+3))
   generalize jJ (s.drop (i+3))=p at hpt hle ⊢
   obtain ⟨v,w,e⟩:=p
   simp only at hle ⊢
   refine au _ hpt ?_
   by_cases he:e=0
   ·subst he
    have hr:=hle.2.2.1 Z
    obtain ⟨u,rfl⟩:∃ u:Nat,v=u:=⟨v.toNat,by unfold fY at hr; omega⟩
    rw [show shP ((i:Int)+3) ((u:Int),w,0)=((u:Int),(i:Int)+3+w,0) from if_pos rfl,nq]
    refine ao Z (au _ (aU (D7 u hr) Z) (aa ?_))
    refine Prod.ext Z (Prod.ext ?_ Z)
    show (i:Int)+3+w=(i:Int)+1+(w+2)
    omega
   ·rw [show shP ((i:Int)+3) (v,w,e)=(0,0,e) from if_neg he,zp _ _ _ _ he]
    exact ap he (aa Z)
  ·rw [List.drop_of_length_le (show s.length≤i+2 by omega)]
   exact ao O (aa Z)
 ·rw [List.drop_of_length_le O]
  exact ao O (aa Z)
theorem E2 (b:UInt8)(r:Bytes)(h:128≤b.toNat):128≤(decodeL (b::r)).1:=by
 have hN:=El (b::r).length ((b::r).getD 0 0).toNat ((b::r).getD 1 0).toNat ((b::r).getD 2 0).toNat ((b::r).getD 3 0).toNat G (UInt8.toNat_lt _)
 rw [← decodeL_N] at hN
 rcases Nat.lt_or_ge (decodeL (b::r)).1 128 with q | q
 ·have:=(hN.2.2.2.1 q).2
  have hb0:((b::r).getD 0 0).toNat=b.toNat:=rfl
  omega
 ·exact q
def EA (i:Int)(b:UInt8)(r:Bytes):Bytes×Int×Int :=
 if (decodeL (b::r)).1=92 then shE (i+1) (ke r)
 else if qf (decodeL (b::r)) then ([],0,2)
 else (encodeRune ((decodeL (b::r)).1:Int),i+((decodeL (b::r)).2:Int),0)
theorem Er (s:Bytes)(hs:s.length≤1000000000)(i:Nat)(b:UInt8)(r:Bytes)(hl:s.drop i=b::r)(hi:i+r.length+1=s.length):Ev2 (λ n _=>nb n s (i:Int)) (·=EA (i:Int) b r):=by
 simp only [nb]
 have hil:i < s.length:=by omega
 have hd:=drop_at s hil
 rw [hl] at hd
 have hb:byt s i=(b.toNat:Int):=by rw [dh,← (List.cons.inj hd).1]
 have hr:s.drop (i+1)=r:=(List.cons.inj hd).2.symm
 rw [hb]
 have hbl:=b.toNat_lt
 unfold EA
 refine af O ?_
 by_cases h92:b.toNat=92
 ·have e:decodeL (b::r)=(b.toNat,1):=decodeL_ascii b r O
  rw [e,if_pos h92]
  have:=xq s hs i hil
  rw [hr] at this
  exact ao O (au _ this (aa Z))
 ·have hdec:=uP s i hil hs
  rw [hl] at hdec
  have hdf:=lD (b::r) G
  have hc:((decodeL (b::r)).1=b.toNat∧(decodeL (b::r)).2=1∧b.toNat < 128)∨(128≤(decodeL (b::r)).1∧128≤b.toNat):=by
   rcases Nat.lt_or_ge b.toNat 128 with q | q
   ·left; rw [decodeL_ascii b r q]; exact ⟨Z,Z,q⟩
   ·right; exact ⟨E2 b r q,q⟩
  refine ap O (au _ (aU hdec Z) ?_)
  unfold DY
  generalize hD:decodeL (b::r)=D at hdf hc ⊢
  obtain ⟨c,w⟩:=D
  simp only at hdf hc ⊢
  rw [if_neg (show ¬ c=92 by omega)]
  simp only [List.length_cons] at hdf
  by_cases hbad:c=65533∧w=1
  ·rw [if_pos hbad,if_pos (show qf (c,w) from .inl hbad)]
   exact au true (ao Z (aa Z)) (ao Z (aa Z))
  ·rw [if_neg hbad]
   have hgood:=hdf.2.2 hbad
   refine au (decide (qf (c,w))) ?_ ?_
   ·refine ap (by simp only; omega) (af O (aB (λ h=>aa ?_) (λ h=>af O (aa (eqB ?_)))))
    ·symm; rw [decide_eq_true_eq]; unfold qf; simp only; omega
    ·rw [decide_eq_true_eq,decide_eq_true_eq]; unfold qf; simp only; omega
   ·refine aB (λ h=>aa (by rw [if_pos (of_decide_eq_true h)])) (λ h=>?_)
    rw [if_neg (λ q=>h (decide_eq_true q))]
    have hin:inR ((i:Int)+(w:Int)):=aS O O
    refine af hin (af (by simp only; omega) (af hin (aa ?_)))
    simp only
    rw [pi,hl,hgood.2]
def Dr (s:Bytes):(Int×Bytes)⊕(Bytes×Int×Int)→Unit⊕(Bytes×Int×Int)
 | .inl q=>if q.1=(s.length:Int) then .inl () else .inr (if 4096 < q.2.length then ([],0,3) else (q.2,q.1+1,0))
 | .inr e=>.inr e
theorem Ea (s:Bytes)(hs:s.length≤1000000000):∀ (k:Nat) (l:Bytes) (i:Nat) (f:Bytes),l.length < k→s.drop i=l→i+l.length=s.length→f.length≤4*i→Ev2 (λ n m=>eG n s m f (i:Int)) (·=Dr s (ly k l i f)):=by
 intro k
 induction k with
 | zero=>intro l i f h; omega
 | succ k ih =>
  intro l i f hk hl hi hf
  refine aF ?_
  simp only [eG]
  cases l with
  | nil =>
   simp only [List.length_nil] at hi
   refine ap O (aa ?_)
   rw [ly]
   show _=(if (i:Int)=(s.length:Int) then _ else _)
   rw [if_pos O]
  | cons b r =>
   have hil:i < s.length:=by simp only [List.length_cons] at hi; omega
   have hd:=drop_at s hil
   rw [hl] at hd
   have hb:byt s i=(b.toNat:Int):=by rw [dh,← (List.cons.inj hd).1]
   have hr:s.drop (i+1)=r:=(List.cons.inj hd).2.symm
   have hlr:r.length+i+1=s.length:=by simp only [List.length_cons] at hi; omega
   have hU:=jD k b r i f
   have h1:=Er s hs i b r hl O
   rw [hb]
   refine ao O (af O ?_)
   by_cases h34:b.toNat=34
   ·rw [if_pos h34] at hU
    have hO:Dr s (.inl ((i:Int),f))=.inr (if 4096 < f.length then ([],0,3) else (f,(i:Int)+1,0)):=if_neg (by simp only; omega)
    rw [hU,hO]
    refine ao O (aB (λ h=>aa (by rw [if_pos O])) (λ h=>af (aS O O) (aa (by rw [if_neg O]))))
   rw [if_neg h34] at hU
   refine ap O (au _ h1 ?_)
   unfold EA
   have hdf:=lD (b::r) G
   generalize hD:decodeL (b::r)=D at hU hdf ⊢
   obtain ⟨c,w⟩:=D
   simp only at hU hdf ⊢
   by_cases h92:c=92
   ·rw [if_pos h92] at hU ⊢
    have hes:=wH r
    generalize ke r=E at hU hes ⊢
    obtain ⟨x,y,z⟩:=E
    simp only at hU hes
    by_cases hz:z=0
    ·subst hz
     rw [if_pos rfl] at hU
     rw [nq]
     obtain ⟨e1,e2⟩:=hes.2.2.1 rfl
     obtain ⟨y',rfl⟩:∃ y':Nat,y=y':=⟨y.toNat,by omega⟩
     rw [Int.toNat_natCast] at hU
     have hle:=mx x e1
     refine ao Z (af (by dsimp only; omega) ?_)
     have:=ih (r.drop y') (i+(y'+1)) (f++encodeRune x) (by rw [List.length_drop]; simp only [List.length_cons] at hk; omega) (by rw [← hr,List.drop_drop]; congr 1; omega) (by rw [List.length_drop]; omega) (by rw [List.length_append]; omega)
     rw [← hU] at this
     rw [show ((i+(y'+1):Nat):Int)=(i:Int)+1+(y':Int) by omega] at this
     exact this
    ·rw [if_neg hz] at hU
     rw [zp _ _ _ _ hz]
     exact ap hz (aa (by rw [hU]; rfl))
   ·rw [if_neg h92] at hU ⊢
    by_cases hbd:qf (c,w)
    ·rw [if_pos hbd] at hU ⊢
     exact ap G (aa (by rw [hU]; rfl))
    ·rw [if_neg hbd] at hU ⊢
     have hgood:=hdf.2.2 (λ q=>hbd (.inl q))
     have hle:=mx c hgood.1
     have hw:w≤r.length+1:=by simpa using hdf.2.1
     have hw1:=hdf.1
     refine ao Z (af (by dsimp only; omega) ?_)
     have:=ih ((b::r).drop w) (i+w) (f++encodeRune (c:Int)) (by rw [List.length_drop]; simp only [List.length_cons] at hk ⊢; omega) (by rw [← hl,List.drop_drop]) (by rw [List.length_drop]; simp only [List.length_cons]; omega) (by rw [List.length_append]; omega)
     rw [← hU] at this
     rw [show ((i+w:Nat):Int)=(i:Int)+(w:Int) by omega] at this
     exact this
theorem Ds (s:Bytes)(hs:s.length≤1000000000):Ev2 (λ n _=>jp n s) (·=kp s):=by
 simp only [jp]
 cases s with
 | nil=>exact ao Z (aa Z)
 | cons b r =>
  have hl:((b::r).length:Int)=(r.length:Int)+1:=by simp
  have hln:(b::r).length=r.length+1:=by simp
  refine ap O (af O ?_)
  have hb:byt (b::r) 0=(b.toNat:Int):=rfl
  rw [hb,ni]
  refine aB (λ h=>?_) (λ h=>aa (by rw [if_neg (show ¬ b.toNat=34 by omega)]))
  have l:=Ea (b::r) hs (r.length+1) r 1 [] O rfl O G
  rw [if_pos (show b.toNat=34 by omega)]
  generalize ly (r.length+1) r 1 []=U at l ⊢
  cases U with
  | inr e=>exact gw e (aY l) Z
  | inl q =>
   obtain ⟨a,g⟩:=q
   by_cases ha:a=((r.length+1:Nat):Int)
   ·have e:Dr (b::r) (.inl (a,g))=.inl ():=if_pos (by simp only; omega)
    rw [e] at l
    refine gH () (aY l) (aa ?_)
    show _=(if a=((r.length+1:Nat):Int) then _ else _)
    rw [if_pos ha]
   ·have e:Dr (b::r) (.inl (a,g))=.inr (if 4096 < g.length then ([],0,3) else (g,a+1,0)):=if_neg (by simp only; omega)
    rw [e] at l
    refine gw _ (aY l) ?_
    show _=(if a=((r.length+1:Nat):Int) then _ else if 4096 < g.length then _ else (g,a+1,0))
    rw [if_neg ha]
theorem Ed (s:Bytes)(hs:s.length≤1000000000):∀ (k i:Nat),i+k=s.length→Ev2 (λ _ m=>ew s m (i:Int)) (·=if mA (λ j=>dI (s.getD j 0)) i k then .inl () else .inr false):=by
 intro k
 induction k with
 | zero =>
  intro i hi
  refine aF ?_
  simp only [ew]
  exact ap O (aa Z)
 | succ k ih =>
  intro i hi
  refine aF ?_
  simp only [ew]
  have hb:byt s i=((s.getD i 0).toNat:Int):=dh s i
  rw [hb]
  refine ao O (au (!dI (s.getD i 0)) ?_ ?_)
  ·have h:=jc (s.getD i 0)
   generalize s.getD i 0=b at h ⊢
   refine af O (aB (λ h1=>aa ?_) (λ h1=>af O (aa ?_)))
   ·have:dI b=false:=by rw [← Bool.not_eq_true,h]; omega
    simp [this]
   ·refine eqB ?_
    rw [decide_eq_true_eq,Bool.not_eq_true',← Bool.not_eq_true,h]
    omega
  ·cases hk:dI (s.getD i 0) with
   | false=>exact ao Z (aa (by simp only [mA,hk,Bool.false_and]; rfl))
   | true =>
    refine ap G (af (aS O O) ?_)
    have:=ih (i+1) O
    rw [Int.natCast_add,Int.natCast_one] at this
    simp only [mA,hk,Bool.true_and]
    exact this
theorem Ee (s:Bytes)(hs:s.length≤1000000000):Ev2 (λ n _=>jU n s) (·=qa s):=by
 simp only [jU]
 have l:=Ed s hs s.length 0 O
 rw [ug] at l
 have hc:=jR s
 have hb:byt s 0=((s.getD 0 0).toNat:Int):=dh s 0
 have h48:(s.getD 0 0).toNat=48↔s.getD 0 0=48:=lS (by decide)
 cases ha:s.all dI with
 | false =>
  rw [ha] at l hc
  refine gw false (aY l) (eqB ?_)
  rw [hc]; simp
 | true =>
  rw [ha] at l hc
  refine gH () (aY l) (gZ (·=qa s) ?_ (λ x hx=>aa hx))
  refine aB (λ h=>aa (eqB ?_)) (λ h0=>aB (λ h=>aa (eqB ?_)) (λ h=>af ?_ (aa (eqB ?_))))
  ·rw [hc,h]; simp
  ·rw [hc]; simp [h]
  ·have:=List.length_pos_iff.2 h; omega
  ·rw [hb,hc,Bool.not_eq_true',decide_eq_false_iff_not]
   constructor
   ·intro q; exact ⟨h,rfl,.inl λ z=>q (by have:=h48.2 z; omega)⟩
   ·rintro ⟨_,_,q | q⟩
    ·intro z; exact q (h48.1 O)
    ·intro z
     obtain ⟨b,hb1⟩:=List.length_eq_one_iff.1 q
     have h3:=h48.1 O
     rw [hb1] at h3
     exact h0 (by rw [hb1]; exact congrArg (λ x=>[x]) h3)
def u5 (l:Bytes):Int×Int:=if qa l=true then (if l.length≤16∧fW 0 l≤9007199254740992 then ((fW 0 l:Int),0) else (0,5)) else (0,2)
theorem wj:∀ (l:Bytes) (a:Nat),l.all dI=true→fW a l < (a+1)*10 ^ l.length
 | [],a,_=>by simp [mT]
 | b::r,a,h=>by
  have hb:=ky h (b:=b) List.mem_cons_self
  have hr:r.all dI=true:=by
   rw [List.all_eq_true] at h ⊢
   exact λ x hx=>h x (List.mem_cons_of_mem _ hx)
  have:=wj r (a*10+(b.toNat - 48)) hr
  rw [pA,List.length_cons,Nat.pow_succ]
  have h2:a*10+(b.toNat - 48)+1≤(a+1)*10:=by omega
  have h3:=Nat.mul_le_mul_right (10 ^ r.length) h2
  have h4:(a+1)*10*10 ^ r.length=(a+1)*(10 ^ r.length*10):=by rw [Nat.mul_assoc,Nat.mul_comm 10]
  omega
theorem DL (s:Bytes)(hs:s.length≤16)(hd:s.all dI=true):∀ (k i:Nat),i+k=s.length→Ev2 (λ _ m=>eT s m (fW 0 (s.take i):Int) (i:Int)) (·=(fW 0 s:Int)):=by
 intro k
 induction k with
 | zero =>
  intro i hi
  refine aF ?_
  simp only [eT]
  refine ap O (aa ?_)
  rw [List.take_of_length_le O]
 | succ k ih =>
  intro i hi
  refine aF ?_
  simp only [eT]
  have hil:i < s.length:=by omega
  have hb:byt s i=((s.getD i 0).toNat:Int):=dh s i
  have hm:s.getD i 0∈s:=by
   rw [List.getD_eq_getElem?_getD,List.getElem?_eq_getElem hil,Option.getD_some]; exact List.getElem_mem hil
  have hdig:=ky hd hm
  have ht:s.take (i+1)=s.take i++[s.getD i 0]:=by
   rw [List.take_add_one,List.getElem?_eq_getElem hil,List.getD_eq_getElem?_getD,List.getElem?_eq_getElem hil]; rfl
  have hall:(s.take i).all dI=true:=by
   rw [List.all_eq_true] at hd ⊢
   exact λ x hx=>hd x (List.mem_of_mem_take hx)
  have hlt:=wj (s.take i) 0 hall
  rw [List.length_take] at hlt
  have hp:10 ^ min i s.length≤10 ^ 15:=Nat.pow_le_pow_right (by decide) O
  have hp15:(10:Nat) ^ 15=1000000000000000:=rfl
  have:=ih (i+1) O
  rw [ht,rh] at this
  rw [hb]
  generalize s.getD i 0=b at hdig this
  generalize fW 0 (s.take i)=v at hlt this
  have hw:IntKind.wrap .u8 ((b.toNat:Int) - 48)=((b.toNat - 48:Nat):Int):=by rw [qk]; omega
  rw [hw]
  refine ao O (af (aS O O) (af O (af (aS O O) (af (aS O O) (af (aS O O) ?_)))))
  rw [show ((v*10+(b.toNat - 48):Nat):Int)=10*(v:Int)+((b.toNat - 48:Nat):Int) by omega,show ((i+1:Nat):Int)=(i:Int)+1 by omega] at this
  exact this
theorem Ej (s:Bytes)(hs:s.length≤1000000000)(hd:s.all dI=true):Ev2 (λ n _=>kY n s) (·=u5 s):=by
 simp only [kY]
 have hneg:¬ (0 < s.length∧byt s 0=45):=by
  rintro ⟨h1,h2⟩
  have hb:byt s 0=((s.getD 0 0).toNat:Int):=dh s 0
  have hm:s.getD 0 0∈s:=by
   rw [List.getD_eq_getElem?_getD,List.getElem?_eq_getElem h1,Option.getD_some]; exact List.getElem_mem h1
  have:=ky hd hm
  omega
 refine au false ?_ ?_
 ·refine aB (λ h=>af O (aa ?_)) (λ h=>aa Z)
  rw [decide_eq_false_iff_not]; intro q; exact hneg ⟨by omega,q⟩
 refine au s (ap G (aa Z)) ?_
 unfold u5
 refine au (!qa s) ?_ ?_
 ·refine au _ (Ee s hs) ?_
  cases qa s with
  | false=>exact ao Z (aa Z)
  | true=>exact ap G (ap G (aa Z))
 cases hc:qa s with
 | false=>exact ao Z (aa G)
 | true =>
  refine ap G ?_
  rw [if_pos rfl]
  refine aB (λ h=>aa (by rw [if_neg O])) (λ h=>?_)
  have l:=DL s O hd s.length 0 O
  rw [List.take_zero,mT] at l
  have hlt:=wj s 0 hd
  have hp:10 ^ s.length≤10 ^ 16:=Nat.pow_le_pow_right (by decide) O
  have hp16:(10:Nat) ^ 16=10000000000000000:=rfl
  refine au _ (aY l) (au _ (ap G (aa Z)) (au (decide (fW 0 s≤9007199254740992)) ?_ ?_))
  ·simp only [mr]
   refine gZ (·=decide (fW 0 s≤9007199254740992)) (ao O (aa (eqB ?_))) (λ t ht=>aa ht)
   rw [decide_eq_true_eq,decide_eq_true_eq]; omega
  ·by_cases hv:fW 0 s≤9007199254740992
   ·exact ap (by simp [hv]) (aa (by rw [if_pos ⟨by omega,hv⟩]))
   ·exact ao (by simp [hv]) (aa (by rw [if_neg (λ q=>hv q.2)]))
theorem AN {v:Int}(h0:0≤v)(h1:v≤jh):u5 (itoa v)=(v,0):=by
 have hl:=qx h0 h1
 obtain ⟨u,rfl⟩:∃ u:Nat,v=u:=⟨v.toNat,by omega⟩
 have e:itoa (u:Int)=decDigits u:=by unfold itoa; rw [if_neg O]; simp
 rw [e] at hl ⊢
 have hd:=wz (u+1) u O
 unfold u5
 rw [if_pos ((jR _).2 ⟨hd.2.2.1,hd.2.1,hd.2.2.2.1⟩),hd.1,if_pos ⟨hl,by unfold jh at h1; omega⟩]
theorem AG {l:Bytes}{v:Int}(h:u5 l=(v,0)):itoa v=l∧0≤v∧v≤jh:=by
 unfold u5 at h
 split at h
 ·rename_i hc
  split at h
  ·rename_i hv
   cases h
   have hb:=(sy l.length l (Nat.le_refl _) hc).1
   refine ⟨?_,by omega,by unfold jh; omega⟩
   have e:itoa ((fW 0 l:Nat):Int)=decDigits (fW 0 l):=by unfold itoa; rw [if_neg O]; simp
   rw [e,hb]
  ·cases h
 ·cases h
theorem tr (k:bT)(hk:k.fStr.length≤1000000000):Ev2 (λ n _=>jH n k) (·=cB k):=by
 simp only [jH]
 unfold cB
 by_cases h1:k.fKind=1
 ·refine ao h1 ?_
  rw [if_neg (show ¬ k.fKind=0 by omega),if_pos h1]
  refine gZ (·=decide (0≤k.fNum∧k.fNum≤jh∧k.fStr=[])) ?_ (λ t ht=>aa ht)
  refine aB (λ h2=>aB (λ h3=>aa ?_) (λ h3=>aa ?_)) (λ h2=>aa ?_)
  ·simp [h2,jh,h3]
  ·symm; rw [decide_eq_false_iff_not]; intro q; exact h3 q.2.1
  ·symm; rw [decide_eq_false_iff_not]; intro q; exact h2 q.1
 ·refine ap h1 ?_
  by_cases h2:k.fKind=2
  ·refine ao h2 ?_
   rw [if_neg (show ¬ k.fKind=0 by omega),if_neg h1,if_pos h2]
   refine gZ (·=(decide (k.fNum=0)&&(decide (k.fStr.length≤4096)&&validD k.fStr))) ?_ (λ t ht=>aa ht)
   refine aB (λ h3=>au _ (A5 _ hk) (aa (by simp [h3]))) (λ h3=>aa (by simp [h3]))
  ·refine ap h2 (aa ?_)
   by_cases h0:k.fKind=0
   ·rw [if_pos h0]; simp [h0]
   ·rw [if_neg h0,if_neg h1,if_neg h2]; simp [h0]
def wu:List Bytes:=[[109,111,100,117,108,101],[100,97,116,97],[118,97,114],[108,111,99,97,108],[111,117,116,112,117,116],[101,97,99,104],[99,111,117,110,116],[114,101,109,111,116,101],[112,97,116,104],[115,101,108,102],[99,104,97,110,103,101]]
theorem EB (s:Bytes):wu.contains s=fo s:=by
 unfold wu fo
 simp only [List.contains_cons,List.contains_nil,Bool.or_false]
 ac_rfl
theorem E1 (s:Bytes):∀ (k i:Nat),i+k=11→Ev2 (λ _ m=>dk s m (i:Int)) (·=if (wu.drop i).contains s=true then .inr true else .inl ()):=by
 intro k
 induction k with
 | zero =>
  intro i hi
  refine aF ?_
  simp only [dk]
  obtain rfl:i=11:=by omega
  exact ap G (aa Z)
 | succ k ih =>
  intro i hi
  refine aF ?_
  simp only [dk]
  have hlen:wu.length=11:=rfl
  have hil:i < wu.length:=by omega
  have:=ih (i+1) O
  rw [Int.natCast_add,Int.natCast_one] at this
  show Ev2 (λ _ m=>if (i:Int) < (wu.length:Int) then ck ((0:Int)≤i∧(i:Int) < (wu.length:Int)) <| if lat wu (i:Int)=s then some (Sum.inr true) else ck (inR ((i:Int)+1)) <| dk s m ((i:Int)+1) else some (Sum.inl ())) _
  refine ao O (af O ?_)
  rw [co _ _ hil,List.drop_eq_getElem_cons hil,List.contains_cons]
  refine aB (λ h=>aa ?_) (λ h=>af (aS O O) ?_)
  ·rw [h]; simp
  ·have hb:(s == wu[i])=false:=by simp; exact λ q=>h q.symm
   rw [hb,Bool.false_or]; exact this
theorem Cy (s:Bytes):Ev2 (λ n _=>gO n s) (·=fo s):=by
 simp only [gO]
 have l:=E1 s 11 0 Z
 rw [List.drop_zero,EB] at l
 cases h:fo s with
 | true=>rw [h] at l; exact gw true (aY l) rfl
 | false=>rw [h] at l; exact gH () (aY l) (aa rfl)
def Sk (a:al):Prop:=a.fKey.fStr.length≤100000∧∀ x∈a.fModule,x.fKey.fStr.length≤100000
theorem A0 (a:al)(ha:Sm a)(hk:Sk a):∀ (k i:Nat),i+k=a.fModule.length→Ev2 (λ n m=>eV n a m (i:Int)) (·=if jy (a.fModule.drop i)=0 then .inl () else .inr (jy (a.fModule.drop i))):=by
 intro k
 induction k with
 | zero =>
  intro i hi
  refine aF ?_
  simp only [eV]
  refine ap O (aa ?_)
  rw [List.drop_of_length_le O]; rfl
 | succ k ih =>
  intro i hi
  refine aF ?_
  simp only [eV]
  have hil:i < a.fModule.length:=by omega
  refine ao O (af O ?_)
  rw [co _ _ hil,List.drop_eq_getElem_cons hil]
  have hx:=ha.2.2.2 _ (List.getElem_mem hil)
  have hx2:=hk.2 _ (List.getElem_mem hil)
  have:=ih (i+1) O
  have hlen:=ha.1
  generalize a.fModule[i]=x at hx hx2 ⊢
  unfold jy
  refine au _ (lC x.fName O) ?_
  cases h1:bZ x.fName with
  | false=>exact ao Z (aa G)
  | true =>
   refine ap G (af O (au _ (tr _ O) ?_))
   cases h2:cB x.fKey with
   | false=>exact ao Z (aa G)
   | true =>
    refine ap G (af (aS O O) ?_)
    rw [Int.natCast_add,Int.natCast_one] at this
    simpa using this
theorem AH (a:al)(ha:Sm a)(hk:Sk a):Ev2 (λ n _=>kP n a) (·=nC a):=by
 simp only [kP]
 unfold nC
 refine aB (λ h=>aa (by rw [if_pos O])) (λ h=>?_)
 rw [if_neg (show ¬ 16 < a.fModule.length by omega)]
 have l:=A0 a ha hk a.fModule.length 0 O
 rw [List.drop_zero] at l
 by_cases he:jy a.fModule=0
 ·rw [if_pos he] at l
  rw [if_neg (by simp [he])]
  refine gH () (aY l) ?_
  refine au (decide (il a.fType=false∨bZ a.fName=false)) ?_ ?_
  ·refine au _ (lC _ (by have:=ha.2.1; omega)) ?_
   unfold il
   cases bZ a.fType with
   | false=>exact ao Z (aa G)
   | true =>
    refine ap G (au _ (Cy _) ?_)
    cases fo a.fType with
    | true=>exact ao Z (aa G)
    | false =>
     refine ap G (au _ (lC _ (by have:=ha.2.2.1; omega)) (aa ?_))
     cases bZ a.fName <;> simp
  ·refine aB (λ h=>aa (by rw [if_pos (of_decide_eq_true h)])) (λ h=>?_)
   rw [if_neg (λ q=>h (decide_eq_true q))]
   refine au _ (tr _ (by have:=hk.1; omega)) ?_
   cases cB a.fKey with
   | false=>exact ao Z (aa G)
   | true=>exact ap G (aa G)
 ·rw [if_neg he] at l
  rw [if_pos he]
  exact gw _ (aY l) Z
theorem xQ (k:bT)(hk:k.fStr.length≤1000000000):Ev2 (λ n _=>fZ n k) (·=aQ k):=by
 simp only [fZ]
 unfold aQ
 refine au (decide (cB k=false∨k.fKind=0)) ?_ ?_
 ·refine au _ (tr _ hk) ?_
  cases cB k with
  | false=>exact ao Z (aa G)
  | true=>exact ap G (aa G)
 ·refine aB (λ h=>aa (by rw [if_pos (of_decide_eq_true h)])) (λ h=>?_)
  have h:=λ q=>h (decide_eq_true q)
  rw [if_neg h]
  have hko:cB k=true:=by
   cases hh:cB k with
   | true=>rfl
   | false=>exact absurd (.inl hh) h
  refine aB (λ h1=>?_) (λ h1=>?_)
  ·rw [if_pos h1]
   have hn:=m6 hko h1
   have hl:=qx hn.1 hn.2.1
   refine au _ (Cu hn.1 hn.2.1) (af (by simp only [List.length_cons,List.length_nil]; omega) (af (by simp only [List.length_append,List.length_cons,List.length_nil]; omega) (aa Z)))
  ·rw [if_neg h1]
   have h2:k.fKind=2:=by
    rcases kT hko with q | q | q
    ·exact absurd (.inr q) h
    ·exact absurd q h1
    ·exact q
   have hs:=m8 hko h2
   have hl:=rv k.fStr
   refine au _ (vD _ O) (af (by simp only [List.length_cons,List.length_nil]; omega) (af (by simp only [List.length_append,List.length_cons,List.length_nil]; omega) (aa Z)))
theorem Ah (l:List ac)(hm:l.length≤16)(ha:∀ x∈l,bZ x.fName=true)(hk:∀ x∈l,x.fKey.fStr.length≤100000):∀ (k i:Nat) (f:Bytes),i+k=l.length→f.length≤25000*i→Ev2 (λ n m=>fh n l m f (i:Int)) (·=f++(l.drop i).flatMap bM):=by
 intro k
 induction k with
 | zero =>
  intro i f hi hf
  refine aF ?_
  simp only [fh]
  refine ap O (aa ?_)
  rw [List.drop_of_length_le O]; simp
 | succ k ih =>
  intro i f hi hf
  refine aF ?_
  simp only [fh]
  have hil:i < l.length:=by omega
  refine ao O (af (by simp only [List.length_cons,List.length_nil]; omega) (af O ?_))
  rw [co _ _ hil,List.drop_eq_getElem_cons hil]
  have hx:=ha _ (List.getElem_mem hil)
  have hx2:=hk _ (List.getElem_mem hil)
  generalize l[i]=x at hx hx2 ⊢
  have h1:=eH hx
  have h2:=kH x.fKey
  have h3:=nD hx
  refine af (by simp only [List.length_append,List.length_cons,List.length_nil]; omega) (af O (au _ (xQ x.fKey O) ?_))
  refine af (by simp only [List.length_append,List.length_cons,List.length_nil]; omega) (af (by simp only [List.length_append,List.length_cons,List.length_nil]; omega) (af (aS O O) ?_))
  have e:(((f++([109,111,100,117,108,101,46]:Bytes))++x.fName)++aQ x.fKey)++([46]:Bytes)=f++bM x:=by simp [bM,jg]
  rw [e]
  have:=ih (i+1) (f++bM x) O (by rw [List.length_append]; omega)
  rw [Int.natCast_add,Int.natCast_one] at this
  simpa using this
theorem xC (a:al)(ha:Sm a)(hk:Sk a):Ev2 (λ n _=>jX n a) (·=nz a):=by
 simp only [jX,mh]
 unfold nz
 refine au _ (AH a ha hk) (aB (λ h=>?_) (λ h=>aa (by rw [if_neg h])))
 rw [if_pos h]
 obtain ⟨c1,c2,c3,c4,c5⟩:=(mq a).1 h
 have l:=Ah a.fModule c1 (λ x hx=>(c2 x hx).1) hk.2 a.fModule.length 0 [] O G
 have hl:=rI a.fModule (λ x hx=>(c2 x hx).1)
 rw [List.drop_zero,List.nil_append] at l
 refine au _ (au _ (aY l) (aa Z)) ?_
 unfold gG
 generalize a.fModule.flatMap bM=st at hl ⊢
 have h1:=eH ((kf _).1 c3).2
 have h2:=eH c4
 have h3:=kH a.fKey
 have hd:(if a.fData=true then bF else ([]:Bytes)).length≤5:=by split <;> simp [bF]
 refine au (st++(if a.fData=true then bF else [])) ?_ ?_
 ·refine aB (λ h=>?_) (λ h=>aa (by rw [if_neg h]; simp))
  rw [if_pos h]
  exact af (by simp only [List.length_cons,List.length_nil]; omega) (aa (by simp [bF]))
 ·refine af (by simp only [List.length_append]; omega) (af (by simp only [List.length_append,List.length_cons,List.length_nil]; omega) (af (by simp only [List.length_append,List.length_cons,List.length_nil]; omega) (au _ (xQ a.fKey (by have:=hk.1; omega)) (af (by simp only [List.length_append,List.length_cons,List.length_nil]; omega) (aa ?_)))))
  simp
end Go.Ab.R06
end
section
namespace Go.Ab.R06
open Go.Proofs Go.Ab Go.Ab.RB
attribute [local irreducible] awp eC aW aA bN AV.sub M dY
abbrev m9:List AV:=[.p (.val (.slice none 0 0)),.p (eB false),.p (eS ([]:Bytes)),.p (eS ([]:Bytes)),.p (eI 0),.p (eI 0),.p (eS ([]:Bytes)),.p (eB false)]
abbrev lV:List AV:=[.p (.val (.slice none 0 0)),.p (eB false),.p (eS ([]:Bytes)),.p (eS ([]:Bytes)),.p (eI 0),.p (eI 0),.p (eS ([]:Bytes))]
abbrev qt:List AV:=[.p (eS ([]:Bytes)),.p (eI 0),.p (eI 0),.p (eS ([]:Bytes))]
abbrev iA:List AV:=[.p (eI 0),.p (eI 0),.p (eS ([]:Bytes))]
def iE (s_0:Bytes)(p_1:Bytes):Option Bool :=
 (
   if (p_1.length:Int)≤(s_0.length:Int) then
    ck ((0:Int)≤0∧0≤(p_1.length:Int)∧(p_1.length:Int)≤(s_0.length:Int)) <|
    some (decide (sub s_0 0 (p_1.length:Int)=p_1))
   else
    some false
  : Option Bool).bind λ t3 =>
 some t3
theorem nV (s_0:Bytes)(p_1:Bytes)(r:Bool)(h0:iE s_0 p_1=some r):aA Tryz.prog 102 [eS s_0,eS p_1] (·=.p (eB r)):=by
 unfold iE at h0
 refine ba good Tryz.func102 Z Z Z λ w0=>mP (λ v:Bool=>.p (eB v)) ?_
 refine nx 5 Z (bd h0 λ o5 h1 h0=>?_)
 refine kN o5 (λ v6=>⟨[(4,.p (eB v6))],[]⟩) ?_ ?_
 ·exact nx 2 Z (mQ (oi h0) Z (sr))
 refine nx 2 Z (oLs Z (nx 1 Z (oLs Z (nx 2 Z (fD [9,10] h1 Z (λ c1 h1=>?_) λ c1 h1=>?_)))))
 ·exact nx 2 Z (oLs Z (oP h1 Z Z Z λ hk2 h1=>nx 1 Z (oS Z Z (nx 3 Z (eX _ (oi h1).symm (gE Z Z))))))
 exact nx 9 Z (eX _ (oi h1).symm (gE Z Z))
def fI (s_0:Bytes):Nat→Int→Option Int
 | 0,_=>none
 | m+1,n13 =>
 (
   if n13 < (s_0.length:Int) then
    ck ((0:Int)≤n13∧n13 < (s_0.length:Int)) <|
    (gX (byt s_0 n13)).bind λ r16 =>
    if r16=true then
     some true
    else
     ck ((0:Int)≤n13∧n13 < (s_0.length:Int)) <|
     if 48≤byt s_0 n13 then
      ck ((0:Int)≤n13∧n13 < (s_0.length:Int)) <|
      some (decide (byt s_0 n13≤57))
     else
      some false
   else
    some false
  : Option Bool).bind λ t22 =>
 if t22=true then
  ck (inR (n13+1)) <|
  fI s_0 m (n13+1)
 else
  some n13
def jv (n:Nat)(s_0:Bytes):Option (Bytes×Bytes) :=
 (fI s_0 n 0).bind λ n26 =>
 ck ((0:Int)≤0∧0≤n26∧n26≤(s_0.length:Int)) <|
 ck ((0:Int)≤n26∧n26≤(s_0.length:Int)∧(s_0.length:Int)≤(s_0.length:Int)) <|
 some (sub s_0 0 n26,sub s_0 n26 (s_0.length:Int))
theorem mJ (n:Nat)(s_0:Bytes)(r:Bytes×Bytes)(h0:jv n s_0=some r):aA Tryz.prog 104 [eS s_0] (·=.tuple [.p (eS r.1),.p (eS r.2)]):=by
 unfold jv at h0
 refine ba good Tryz.func104 Z Z Z λ w0=>mP (λ v:Bytes×Bytes=>.tuple [.p (eS v.1),.p (eS v.2)]) ?_
 refine nx 11 Z (bd h0 λ o31 h1 h0=>?_)
 refine kE 0 o31 (λ v32=>⟨[(0,.p (eS s_0)),(4,.p (eI v32))],[]⟩) ?_ ?_
 ·refine nx 2 Z (cc' h0 λ hk27 h0=>cc' h0 λ hk28 h0=>mD [(0,.p (eS s_0)),(4,.p (eI o31))] Z ⟨Z,Z,trivial⟩ Z (dR 2 Z (dq (.p (eS (sub s_0 0 o31))) [29,30] Z (λ _ e _ q=>av Z (g9 (a:=s_0) (l:=0) (h:=o31) Z Z Z Z Z (e _ _ Z) Z (qZ (e _ _ Z)) hk27 q)) Z (dR 2 Z (dq (.p (eS (sub s_0 o31 (s_0.length:Int)))) [32,33] Z (λ _ e _ q=>av Z (g9 (a:=s_0) (l:=o31) (h:=(s_0.length:Int)) Z Z Z Z Z (e _ _ Z) (qQ (e _ _ Z)) Z hk28 q)) Z (dR 2 Z ?_))))))
  refine dE Z (nx 2 Z ?_)
  exact mQ (oi h0) Z (aC ⟨sr,sr,trivial⟩)
 refine lG (λ (q33:Int)=>⟨[(0,.p (eS s_0)),(4,.p (eI q33))],[]⟩) (λ m (q33:Int)=>fI s_0 m q33) Y 0 h1 (gE Z Z) ?_
 rintro m n13 h1
 replace h1:fI s_0 (m+1) n13=some o31:=h1
 rw [fI] at h1
 refine nx 2 Z (bd h1 λ o34 h2 h1=>?_)
 refine kN o34 (λ v35=>⟨[(0,.p (eS s_0)),(4,.p (eI n13)),(26,.p (eB v35))],[]⟩) ?_ ?_
 ·refine nx 1 Z (fB [26] h1 Z (λ c23 h1=>?_) λ c23 h1=>?_)
  ·exact nx 5 Z (oA h1 Z Z λ hk24 h1=>nx 2 Z (eX (n13+1) h1 (gE Z Z)))
  exact nx 2 Z (eXi _ (oi h1).symm (gE Z Z))
 refine nx 3 Z (oLs Z (nx 2 Z (fD [8,9] h2 Z (λ c14 h2=>?_) λ c14 h2=>?_)))
 ·refine nx 2 Z (oI h2 Z λ hk15 h2=>bd h2 λ r16 e17 h2=>oK (li (byt s_0 n13) _ e17) Z ⟨sr,trivial⟩ Tryz.call129 Z (nx 1 Z ?_))
  refine fB [13,14] h2 Z (λ c18 h2=>?_) λ c18 h2=>?_
  ·exact nx 13 Z (eX _ (oi h2).symm (gE Z Z))
  refine nx 2 Z (oI h2 Z λ hk19 h2=>nx 2 Z (fD [18,19] h2 Z (λ c20 h2=>?_) λ c20 h2=>?_))
  ·exact nx 2 Z (oI h2 Z λ hk21 h2=>nx 5 Z (eX _ (oi h2).symm (gE Z Z)))
  exact nx 8 Z (eX _ (oi h2).symm (gE Z Z))
 exact nx 18 Z (eX _ (oi h2).symm (gE Z Z))
def f0 (s_0:Bytes):Nat→Int→Option Int
 | 0,_=>none
 | m+1,n37 =>
 (
   if n37 < (s_0.length:Int) then
    ck ((0:Int)≤n37∧n37 < (s_0.length:Int)) <|
    if 48≤byt s_0 n37 then
     ck ((0:Int)≤n37∧n37 < (s_0.length:Int)) <|
     some (decide (byt s_0 n37≤57))
    else
     some false
   else
    some false
  : Option Bool).bind λ t42 =>
 if t42=true then
  ck (inR (n37+1)) <|
  f0 s_0 m (n37+1)
 else
  some n37
def lF (n:Nat)(s_0:Bytes):Option (bT×Bytes×Bool) :=
 (
   if s_0=([]:Bytes) then
    some true
   else
    ck ((0:Int)≤0∧0 < (s_0.length:Int)) <|
    some (!decide (byt s_0 0=91))
  : Option Bool).bind λ t3 =>
 if t3=true then
  some ((bT.mk 0 0 ([]:Bytes)),s_0,true)
 else
  (
    if 1 < (s_0.length:Int) then
     ck ((0:Int)≤1∧1 < (s_0.length:Int)) <|
     some (decide (byt s_0 1=34))
    else
     some false
   : Option Bool).bind λ t7 =>
  if t7=true then
   ck ((0:Int)≤1∧1≤(s_0.length:Int)∧(s_0.length:Int)≤(s_0.length:Int)) <|
   (jp n (sub s_0 1 (s_0.length:Int))).bind λ r10 =>
   (
     if r10.2.2=0 then
      ck (inR (r10.2.1+1)) <|
      if (s_0.length:Int)≤r10.2.1+1 then
       some true
      else
       ck (inR (r10.2.1+1)) <|
       ck ((0:Int)≤r10.2.1+1∧r10.2.1+1 < (s_0.length:Int)) <|
       if byt s_0 (r10.2.1+1)=93 then
        ck (inR (r10.2.1+1)) <|
        ck ((0:Int)≤1∧1≤r10.2.1+1∧r10.2.1+1≤(s_0.length:Int)) <|
        (jI n r10.1).bind λ r20 =>
        if sub s_0 1 (r10.2.1+1)=r20 then
         (jH n (bT.mk 2 0 r10.1)).bind λ r23 =>
         some (!r23)
        else
         some true
       else
        some true
     else
      some true
    : Option Bool).bind λ t25 =>
   if t25=true then
    some ((bT.mk 0 0 ([]:Bytes)),([]:Bytes),false)
   else
    ck (inR (r10.2.1+2)) <|
    ck ((0:Int)≤r10.2.1+2∧r10.2.1+2≤(s_0.length:Int)∧(s_0.length:Int)≤(s_0.length:Int)) <|
    some ((bT.mk 2 0 r10.1),sub s_0 (r10.2.1+2) (s_0.length:Int),true)
  else
   (f0 s_0 n 1).bind λ n46 =>
   ck ((0:Int)≤1∧1≤n46∧n46≤(s_0.length:Int)) <|
   (kY n (sub s_0 1 n46)).bind λ r48 =>
   (
     if r48.2=0 then
      if (s_0.length:Int)≤n46 then
       some true
      else
       ck ((0:Int)≤n46∧n46 < (s_0.length:Int)) <|
       some (!decide (byt s_0 n46=93))
     else
      some true
    : Option Bool).bind λ t53 =>
   if t53=true then
    some ((bT.mk 0 0 ([]:Bytes)),([]:Bytes),false)
   else
    ck (inR (n46+1)) <|
    ck ((0:Int)≤n46+1∧n46+1≤(s_0.length:Int)∧(s_0.length:Int)≤(s_0.length:Int)) <|
    some ((bT.mk 1 r48.1 ([]:Bytes)),sub s_0 (n46+1) (s_0.length:Int),true)
theorem qW (n:Nat)(s_0:Bytes)(r:bT×Bytes×Bool)(h0:lF n s_0=some r):aA Tryz.prog 107 [eS s_0] (·=.tuple [.p (.agg (bT.cs r.1)),.p (eS r.2.1),.p (eB r.2.2)]):=by
 unfold lF at h0
 refine ba good Tryz.func107 Z Z Z λ w0=>mP (λ v:bT×Bytes×Bool=>.tuple [.p (.agg (bT.cs v.1)),.p (eS v.2.1),.p (eB v.2.2)]) ?_
 refine nx 8 Z (bd h0 λ o63 h1 h0=>?_)
 refine kN o63 (λ v64=>⟨[(0,.p (eS s_0)),(2,.ptr 2 0),(18,.p (eB v64))],[(2,iA)]⟩) ?_ ?_
 ·refine nx 1 Z (fB [18] h0 Z (λ c4 h0=>?_) λ c4 h0=>?_)
  ·exact nx 10 Z (mQ (oi h0) Z (aC ⟨sr,sr,sr,trivial⟩))
  refine nx 4 Z (bd h0 λ o65 h1 h0=>?_)
  refine kN o65 (λ v66=>⟨[(0,.p (eS s_0)),(2,.ptr 2 0),(28,.p (eB v66))],[(2,iA)]⟩) ?_ ?_
  ·refine nx 1 Z (fB [28] h0 Z (λ c8 h0=>?_) λ c8 h0=>?_)
   ·refine nx 4 Z (oP h0 Z Z Z λ hk9 h0=>bd h0 λ r10 e11 h0=>oK (rU _ (sub s_0 1 (s_0.length:Int)) _ e11) Z ⟨sr,trivial⟩ Tryz.call130 Z (nx 17 Z (bd h0 λ o67 h1 h0=>kN o67 (λ v68=>⟨[(0,.p (eS s_0)),(2,.ptr 2 0),(6,.p (eI r10.2.1)),(8,.ptr 8 0),(67,.p (eB v68))],[(2,iA),(8,[.p (eI 2),.p (eI 0),.p (eS r10.1)])]⟩) ?_ ?_)))
    ·refine nx 1 Z (fB [67] h0 Z (λ c26 h0=>?_) λ c26 h0=>?_)
     ·exact nx 9 Z (mQ (oi h0) Z (aC ⟨sr,sr,sr,trivial⟩))
     refine nx 3 Z (cc' h0 λ hk27 h0=>cc' h0 λ hk28 h0=>mG (gE (t:=⟨[(0,.p (eS s_0)),(2,.ptr 2 0),(6,.p (eI r10.2.1)),(8,.ptr 8 0)],[(2,iA),(8,[.p (eI 2),.p (eI 0),.p (eS r10.1)])]⟩) Z Z) (mSq ⟨1,[5],(λ _=>.none),(λ _=>[(0,.p (eS s_0)),(2,.ptr 2 0),(6,.p (eI r10.2.1)),(8,.ptr 8 0)]),(ob2 ([(2,iA),(8,[.p (eI 2),.p (eI 0),.p (eS r10.1)])]) (2,[.p (eI 2),.p (eI 0),.p (eS r10.1)]))⟩ Z (dPc (.p (.agg [eI 2,eI 0,eS r10.1])) Z (dPc (.p (eS s_0)) Z (dPc (.p (eI r10.2.1)) Z (bE (λ _=>.p (eI (r10.2.1+2))) Z Z Z (ic Z Y) (lt1 Z) (bb [(71,_)] ⟨.inr ⟨2,_,Z,Z,Z⟩,trivial⟩ (λ sl hsl K hK=>av Z (eq Z Z Z (hsl _ _ Z) Z Z hk27 hK)) (bb [(71,_)] ⟨.inr ⟨2,_,Z,Z,Z⟩,trivial⟩ (λ sl hsl K hK=>av Z (eq Z Z Z (hsl _ _ Z) Z Z hk27 hK)) bC)) ?_))))))
     refine bE (λ _=>.p (eS (sub s_0 (r10.2.1+2) (s_0.length:Int)))) Z Z Z (ic Z Y) (lt1 Z) (bb [(70,_),(72,_)] ⟨.inr ⟨1,_,Z,Z,Z⟩,.inr ⟨3,_,Z,Z,Z⟩,trivial⟩ (λ sl hsl K hK=>av Z (g9 (a:=s_0) (l:=r10.2.1+2) (h:=(s_0.length:Int)) Z Z Z Z Z (hsl _ _ Z) (qQ (hsl _ _ Z)) Z hk28 hK)) (bb [(70,_),(72,_)] ⟨.inr ⟨1,_,Z,Z,Z⟩,.inr ⟨3,_,Z,Z,Z⟩,trivial⟩ (λ sl hsl K hK=>av Z (g9 (a:=s_0) (l:=r10.2.1+2) (h:=(s_0.length:Int)) Z Z Z Z Z (hsl _ _ Z) (qQ (hsl _ _ Z)) Z hk28 hK)) bC)) (dS Z ?_)
     refine dPc (.p (eS (sub s_0 (r10.2.1+2) (s_0.length:Int)))) Z (dPc (.p (eB true)) Z ?_)
     refine iS (nx 2 Z ?_)
     exact mQ (oi h0) Z (aC ⟨sr,sr,sr,trivial⟩)
    refine fN (p:=r10.2.2=0) [] h1 Z (λ c12 h1=>?_) λ c12 h1=>?_
    ·refine cc' h1 λ hk13 h1=>fD (p:=(s_0.length:Int)≤r10.2.1+1) [] h1 Z (λ c14 h1=>?_) λ c14 h1=>?_
     ·exact mD [(0,.p (eS s_0)),(2,.ptr 2 0),(5,.p (eS r10.1)),(6,.p (eI r10.2.1)),(7,.p (eI r10.2.2)),(8,.ptr 8 0)] Z ⟨Z,Z,Z,Z,Z,Z,trivial⟩ Z (dR 1 Z (dL (aE c12) Z (dR 2 Z (dq (.p (eI (r10.2.1+1))) [40,41] Z (λ _ e _ q=>aX (eq Z Z Z (e _ _ Z) Z Z hk13 q) Z Z (e _ _ Z) (rfl)) Z (dR 1 Z (dq (.p (eI (s_0.length:Int))) [40,43] Z (λ _ e _ q=>aX (eD Z Z Z Z Z (e _ _ Z) q) Z Z (e _ _ Z) (rfl)) Z (dL (dt c14) Z (dR 22 Z (dE Z (nx 1 Z (eX _ (oi h1).symm (gE Z Z))))))))))))
     refine cc' h1 λ hk15 h1=>cc' h1 λ hk16 h1=>fN (p:=byt s_0 (r10.2.1+1)=93) [] h1 Z (λ c17 h1=>?_) λ c17 h1=>?_
     ·refine cc' h1 λ hk18 h1=>cc' h1 λ hk19 h1=>bd h1 λ r20 e21 h1=>fN (p:=sub s_0 1 (r10.2.1+1)=r20) [] h1 Z (λ c22 h1=>?_) λ c22 h1=>?_
      ·refine bd h1 λ r23 e24 h1=>mD [(0,.p (eS s_0)),(2,.ptr 2 0),(5,.p (eS r10.1)),(6,.p (eI r10.2.1)),(7,.p (eI r10.2.2)),(8,.ptr 8 0)] Z ⟨Z,Z,Z,Z,Z,Z,trivial⟩ Z (dR 1 Z (dL (aE c12) Z (dR 2 Z (dq (.p (eI (r10.2.1+1))) [40,41] Z (λ _ e _ q=>aX (eq Z Z Z (e _ _ Z) Z Z hk13 q) Z Z (e _ _ Z) (rfl)) Z (dR 1 Z (dq (.p (eI (s_0.length:Int))) [40,43] Z (λ _ e _ q=>aX (eD Z Z Z Z Z (e _ _ Z) q) Z Z (e _ _ Z) (rfl)) Z (dL (df c14) Z (dR 4 Z (dq (.p (eI (r10.2.1+1))) [47,49] Z (λ _ e _ q=>aX (eq Z Z Z (e _ _ Z) Z Z hk15 q) Z Z (e _ _ Z) (rfl)) Z (dq (.p (eK .u8 (byt s_0 (r10.2.1+1)))) [47,48,50] Z (λ _ e _ q=>aX (iG Z Z Z Z Z (e _ _ Z) (e _ _ Z) hk16 q) Z Z (e _ _ Z) (rfl)) Z (dL (aE c17) Z (dR 4 Z (dq (.p (eI (r10.2.1+1))) [54,56] Z (λ _ e _ q=>aX (eq Z Z Z (e _ _ Z) Z Z hk18 q) Z Z (e _ _ Z) (rfl)) Z ?_)))))))))))))
       refine dq (.p (eS (sub s_0 1 (r10.2.1+1)))) [54,55,57] Z (λ _ e _ q=>aX (g9 (a:=s_0) (l:=1) (h:=r10.2.1+1) Z Z Z Z Z (e _ _ Z) Z (qZ (e _ _ Z)) hk19 q) Z Z (e _ _ Z) (rfl)) Z (dR 1 Z (dq (.p (eS r20)) [54,59] Z (λ _ e _ q=>aX (bw (l5 _ r10.1 _ e21) Z Z Z (aO (e _ _ Z) bA) ⟨sr,trivial⟩ Tryz.call110 Z q) Z Z (e _ _ Z) (rfl)) Z (dq (.p (eB (!decide (sub s_0 1 (r10.2.1+1)=r20)))) [54,58,60] Z (λ _ e _ q=>aX (cQ Z Z Z (e _ _ Z) (e _ _ Z) Z q) Z Z (e _ _ Z) (rfl)) Z (dL (aE c22) Z (dR 2 Z (dq (.p (eB r23)) [63,64] Z (λ _ e _ q=>aX (bw (lw _ (bT.mk 2 0 r10.1) _ e24) Z Z Z (aO (e _ _ Z) bA) ⟨sr,trivial⟩ Tryz.call108 Z q) Z Z (e _ _ Z) (rfl)) Z (dR 2 Z ?_)))))))
       refine dE Z (nx 1 Z ?_)
       exact eX _ (oi h1).symm (gE Z Z)
      refine mD [(0,.p (eS s_0)),(2,.ptr 2 0),(5,.p (eS r10.1)),(6,.p (eI r10.2.1)),(7,.p (eI r10.2.2)),(8,.ptr 8 0)] Z ⟨Z,Z,Z,Z,Z,Z,trivial⟩ Z (dR 1 Z (dL (aE c12) Z (dR 2 Z (dq (.p (eI (r10.2.1+1))) [40,41] Z (λ _ e _ q=>aX (eq Z Z Z (e _ _ Z) Z Z hk13 q) Z Z (e _ _ Z) (rfl)) Z (dR 1 Z (dq (.p (eI (s_0.length:Int))) [40,43] Z (λ _ e _ q=>aX (eD Z Z Z Z Z (e _ _ Z) q) Z Z (e _ _ Z) (rfl)) Z (dL (df c14) Z (dR 4 Z (dq (.p (eI (r10.2.1+1))) [47,49] Z (λ _ e _ q=>aX (eq Z Z Z (e _ _ Z) Z Z hk15 q) Z Z (e _ _ Z) (rfl)) Z (dq (.p (eK .u8 (byt s_0 (r10.2.1+1)))) [47,48,50] Z (λ _ e _ q=>aX (iG Z Z Z Z Z (e _ _ Z) (e _ _ Z) hk16 q) Z Z (e _ _ Z) (rfl)) Z (dL (aE c17) Z (dR 4 Z (dq (.p (eI (r10.2.1+1))) [54,56] Z (λ _ e _ q=>aX (eq Z Z Z (e _ _ Z) Z Z hk18 q) Z Z (e _ _ Z) (rfl)) Z ?_)))))))))))))
      refine dq (.p (eS (sub s_0 1 (r10.2.1+1)))) [54,55,57] Z (λ _ e _ q=>aX (g9 (a:=s_0) (l:=1) (h:=r10.2.1+1) Z Z Z Z Z (e _ _ Z) Z (qZ (e _ _ Z)) hk19 q) Z Z (e _ _ Z) (rfl)) Z (dR 1 Z (dq (.p (eS r20)) [54,59] Z (λ _ e _ q=>aX (bw (l5 _ r10.1 _ e21) Z Z Z (aO (e _ _ Z) bA) ⟨sr,trivial⟩ Tryz.call110 Z q) Z Z (e _ _ Z) (rfl)) Z (dq (.p (eB (!decide (sub s_0 1 (r10.2.1+1)=r20)))) [54,58,60] Z (λ _ e _ q=>aX (cQ Z Z Z (e _ _ Z) (e _ _ Z) Z q) Z Z (e _ _ Z) (rfl)) Z (dL (aR c22) Z (dR 5 Z ?_)))))
      refine dE Z (nx 1 Z ?_)
      exact eX _ (oi h1).symm (gE Z Z)
     refine mD [(0,.p (eS s_0)),(2,.ptr 2 0),(5,.p (eS r10.1)),(6,.p (eI r10.2.1)),(7,.p (eI r10.2.2)),(8,.ptr 8 0)] Z ⟨Z,Z,Z,Z,Z,Z,trivial⟩ Z (dR 1 Z (dL (aE c12) Z (dR 2 Z (dq (.p (eI (r10.2.1+1))) [40,41] Z (λ _ e _ q=>aX (eq Z Z Z (e _ _ Z) Z Z hk13 q) Z Z (e _ _ Z) (rfl)) Z (dR 1 Z (dq (.p (eI (s_0.length:Int))) [40,43] Z (λ _ e _ q=>aX (eD Z Z Z Z Z (e _ _ Z) q) Z Z (e _ _ Z) (rfl)) Z (dL (df c14) Z (dR 4 Z (dq (.p (eI (r10.2.1+1))) [47,49] Z (λ _ e _ q=>aX (eq Z Z Z (e _ _ Z) Z Z hk15 q) Z Z (e _ _ Z) (rfl)) Z (dq (.p (eK .u8 (byt s_0 (r10.2.1+1)))) [47,48,50] Z (λ _ e _ q=>aX (iG Z Z Z Z Z (e _ _ Z) (e _ _ Z) hk16 q) Z Z (e _ _ Z) (rfl)) Z (dL (aR c17) Z (dR 15 Z (dE Z ?_)))))))))))))
     exact nx 1 Z (eX _ (oi h1).symm (gE Z Z))
    refine mD [(0,.p (eS s_0)),(2,.ptr 2 0),(5,.p (eS r10.1)),(6,.p (eI r10.2.1)),(7,.p (eI r10.2.2)),(8,.ptr 8 0)] Z ⟨Z,Z,Z,Z,Z,Z,trivial⟩ Z (dR 1 Z (dL (aR c12) Z (dR 28 Z ?_)))
    refine dE Z (nx 1 Z ?_)
    exact eX _ (oi h1).symm (gE Z Z)
   refine nx 8 Z (bd h0 λ o69 h1 h0=>?_)
   refine kE 0 o69 (λ v70=>⟨[(0,.p (eS s_0)),(2,.ptr 2 0),(9,.p (eI v70))],[(2,iA)]⟩) ?_ ?_
   ·refine nx 5 Z (oP h0 Z Z Z λ hk47 h0=>bd h0 λ r48 e49 h0=>oK (uZ _ (sub s_0 1 o69) _ e49) Z ⟨sr,trivial⟩ Tryz.call131 Z (nx 8 Z (bd h0 λ o71 h1 h0=>kN o71 (λ v72=>⟨[(0,.p (eS s_0)),(2,.ptr 2 0),(9,.p (eI o69)),(10,.p (eI r48.1)),(112,.p (eB v72))],[(2,iA)]⟩) ?_ ?_)))
    ·refine nx 1 Z (fB [112] h0 Z (λ c54 h0=>?_) λ c54 h0=>?_)
     ·exact nx 9 Z (mQ (oi h0) Z (aC ⟨sr,sr,sr,trivial⟩))
     refine nx 3 Z (cc' h0 λ hk55 h0=>cc' h0 λ hk56 h0=>mG (gE (t:=⟨[(0,.p (eS s_0)),(2,.ptr 2 0),(9,.p (eI o69)),(10,.p (eI r48.1))],[(2,iA)]⟩) Z Z) (mSq ⟨1,[6],(λ _=>.none),(λ _=>[(0,.p (eS s_0)),(2,.ptr 2 0),(9,.p (eI o69)),(10,.p (eI r48.1))]),(ob2 ([(2,iA)]) (2,[.p (eI 1),.p (eI r48.1),.p (eS ([]:Bytes))]))⟩ Z (dPc (.p (eI r48.1)) Z (dPc (.p (.agg [eI 1,eI r48.1,eS ([]:Bytes)])) Z (dPc (.p (eS s_0)) Z (dPc (.p (eI o69)) Z ?_))))))
     refine bE (λ _=>.p (eI (o69+1))) Z Z Z (ic Z Y) (lt1 Z) (bb [(117,_)] ⟨.inr ⟨3,_,Z,Z,Z⟩,trivial⟩ (λ sl hsl K hK=>av Z (eq Z Z Z (hsl _ _ Z) Z Z hk55 hK)) (bb [(117,_)] ⟨.inr ⟨3,_,Z,Z,Z⟩,trivial⟩ (λ sl hsl K hK=>av Z (eq Z Z Z (hsl _ _ Z) Z Z hk55 hK)) bC)) (bE (λ _=>.p (eS (sub s_0 (o69+1) (s_0.length:Int)))) Z Z Z (ic Z Y) (lt1 Z) (bb [(116,_),(118,_)] ⟨.inr ⟨2,_,Z,Z,Z⟩,.inr ⟨4,_,Z,Z,Z⟩,trivial⟩ (λ sl hsl K hK=>av Z (g9 (a:=s_0) (l:=o69+1) (h:=(s_0.length:Int)) Z Z Z Z Z (hsl _ _ Z) (qQ (hsl _ _ Z)) Z hk56 hK)) (bb [(116,_),(118,_)] ⟨.inr ⟨2,_,Z,Z,Z⟩,.inr ⟨4,_,Z,Z,Z⟩,trivial⟩ (λ sl hsl K hK=>av Z (g9 (a:=s_0) (l:=o69+1) (h:=(s_0.length:Int)) Z Z Z Z Z (hsl _ _ Z) (qQ (hsl _ _ Z)) Z hk56 hK)) bC)) ?_)
     exact dS Z (dPc (.p (eS (sub s_0 (o69+1) (s_0.length:Int)))) Z (dPc (.p (eB true)) Z (iS (nx 2 Z (mQ (oi h0) Z (aC ⟨sr,sr,sr,trivial⟩))))))
    refine nx 4 Z (fN [100,101] h1 Z (λ c50 h1=>?_) λ c50 h1=>?_)
    ·refine nx 2 Z (oLs Z (nx 3 Z (fD [105,106,107] h1 Z (λ c51 h1=>?_) λ c51 h1=>?_)))
     ·exact nx 6 Z (eX _ (oi h1).symm (gE Z Z))
     exact nx 2 Z (oI h1 Z λ hk52 h1=>nx 3 Z (eX _ (oi h1).symm (gE Z Z)))
    exact nx 12 Z (eX _ (oi h1).symm (gE Z Z))
   refine lG (λ (q73:Int)=>⟨[(0,.p (eS s_0)),(2,.ptr 2 0),(9,.p (eI q73))],[(2,iA)]⟩) (λ m (q73:Int)=>f0 s_0 m q73) Y 1 h1 (gE Z Z) ?_
   rintro m n37 h1
   replace h1:f0 s_0 (m+1) n37=some o69:=h1
   rw [f0] at h1
   refine nx 2 Z (bd h1 λ o74 h2 h1=>?_)
   refine kN o74 (λ v75=>⟨[(0,.p (eS s_0)),(2,.ptr 2 0),(9,.p (eI n37)),(89,.p (eB v75))],[(2,iA)]⟩) ?_ ?_
   ·refine nx 1 Z (fB [89] h1 Z (λ c43 h1=>?_) λ c43 h1=>?_)
    ·exact nx 5 Z (oA h1 Z Z λ hk44 h1=>nx 2 Z (eX (n37+1) h1 (gE Z Z)))
    exact nx 2 Z (eXi _ (oi h1).symm (gE Z Z))
   refine nx 3 Z (oLs Z (nx 2 Z (fD [77,78] h2 Z (λ c38 h2=>?_) λ c38 h2=>?_)))
   ·refine nx 2 Z (oI h2 Z λ hk39 h2=>nx 3 Z (fD [82,83,84] h2 Z (λ c40 h2=>?_) λ c40 h2=>?_))
    ·exact nx 2 Z (oI h2 Z λ hk41 h2=>nx 3 Z (eX _ (oi h2).symm (gE Z Z)))
    exact nx 6 Z (eX _ (oi h2).symm (gE Z Z))
   exact nx 12 Z (eX _ (oi h2).symm (gE Z Z))
  refine nx 2 Z (oLs Z (nx 2 Z (fD [23,24] h1 Z (λ c5 h1=>?_) λ c5 h1=>?_)))
  ·exact nx 1 Z (oI h1 Z λ hk6 h1=>nx 3 Z (eX _ (oi h1).symm (gE Z Z)))
  exact nx 5 Z (eX _ (oi h1).symm (gE Z Z))
 refine nx 2 Z (oS Z Z (nx 1 Z (fD [13,14] h1 Z (λ c1 h1=>?_) λ c1 h1=>?_)))
 ·exact nx 5 Z (eX _ (oi h1).symm (gE Z Z))
 exact nx 1 Z (oI h1 Z λ hk2 h1=>nx 3 Z (eX _ (oi h1).symm (gE Z Z)))
def lJ (n:Nat)(s_0:Bytes):Option (ac×Bytes×Bool) :=
 ck ((0:Int)≤7∧7≤(s_0.length:Int)∧(s_0.length:Int)≤(s_0.length:Int)) <|
 (jv n (sub s_0 7 (s_0.length:Int))).bind λ r2 =>
 (lF n r2.2).bind λ r4 =>
 (
   if r4.2.2=true then
    (cY n r2.1).bind λ r7 =>
    some r7
   else
    some false
  : Option Bool).bind λ t9 =>
 some ((ac.mk r2.1 r4.1),r4.2.1,t9)
theorem vg (n:Nat)(s_0:Bytes)(r:ac×Bytes×Bool)(h0:lJ n s_0=some r):aA Tryz.prog 103 [eS s_0] (·=.tuple [.p (.agg (ac.cs r.1)),.p (eS r.2.1),.p (eB r.2.2)]):=by
 unfold lJ at h0
 refine ba good Tryz.func103 Z Z Z λ w0=>mP (λ v:ac×Bytes×Bool=>.tuple [.p (.agg (ac.cs v.1)),.p (eS v.2.1),.p (eB v.2.2)]) ?_
 refine nx 9 Z (oP h0 Z Z Z λ hk1 h0=>bd h0 λ r2 e3 h0=>oK (mJ _ (sub s_0 7 (s_0.length:Int)) _ e3) Z ⟨sr,trivial⟩ Tryz.call104 Z (nx 9 Z (bd h0 λ r4 e5 h0=>oK (qW _ r2.2 _ e5) Z ⟨sr,trivial⟩ Tryz.call107 Z (nx 10 Z (bd h0 λ o11 h1 h0=>kN o11 (λ v12=>⟨[(2,.ptr 2 0),(3,.p (eS r4.2.1)),(4,.p (eB v12))],[(2,[.p (eS r2.1),.p (eI r4.1.fKind),.p (eI r4.1.fNum),.p (eS r4.1.fStr)])]⟩) ?_ ?_)))))
 ·exact nx 2 Z (mQ (oi h0) Z (aC ⟨sr,sr,sr,trivial⟩))
 refine fB [8,20] h1 Z (λ c6 h1=>?_) λ c6 h1=>?_
 ·refine bd h1 λ r7 e8 h1=>mG (gE (t:=⟨[(2,.ptr 2 0),(5,.p (eS r2.1)),(6,.p (eS r4.2.1)),(7,.ptr 7 0),(8,.p (eB true))],[(2,qt),(7,(bT.cs r4.1).map .p)]⟩) Z Z) (mSq ⟨1,[9],(λ _=>.none),(λ _=>[(2,.ptr 2 0),(5,.p (eS r2.1)),(6,.p (eS r4.2.1)),(7,.ptr 7 0),(8,.p (eB true))]),(ob2 ([(2,qt),(7,((bT.cs r4.1).map .p))]) (2,[.p (eS r2.1),.p (eI r4.1.fKind),.p (eI r4.1.fNum),.p (eS r4.1.fStr)]))⟩ Z (dPc (.p (eS r2.1)) Z (dPc (.p (.agg (bT.cs r4.1))) Z (dPc (.p (.agg [eS r2.1,eI r4.1.fKind,eI r4.1.fNum,eS r4.1.fStr])) Z (dPc (.p (eS r4.2.1)) Z (dPc (.p (eB true)) Z (dPc (.p (eB true)) Z (dPy (λ _=>.p (eS r2.1)) (rfl) Z (bE (λ _=>.p (eB r7)) Z Z Z (ic Z Y) (lt1 Z) (bv Z (bb [(26,_),(27,_)] ⟨.inr ⟨5,_,Z,Z,Z⟩,.inr ⟨6,_,Z,Z,Z⟩,trivial⟩ (λ sl hsl K hK=>aX (bw (em _ r2.1 _ e8) Z Z Z (aO (hsl _ _ Z) bA) ⟨sr,trivial⟩ Tryz.call105 Z hK) Z Z (hsl _ _ Z) (rfl)) bC)) ?_)))))))))
  refine bE (λ _=>.p (eB r7)) Z Z Z (ic Z Y) (lt1 Z) (bb [(26,_),(28,_)] ⟨.inr ⟨5,_,Z,Z,Z⟩,.inr ⟨7,_,Z,Z,Z⟩,trivial⟩ (λ sl hsl K hK=>av Z (b7 Z Z Z (hsl _ _ Z) (rfl) (hsl _ _ Z) hK)) (bb [(26,_),(28,_)] ⟨.inr ⟨5,_,Z,Z,Z⟩,.inr ⟨7,_,Z,Z,Z⟩,trivial⟩ (λ sl hsl K hK=>av Z (b7 Z Z Z (hsl _ _ Z) (rfl) (hsl _ _ Z) hK)) bC)) (dS Z ?_)
  refine dPc (.p (eS r4.2.1)) Z (dPc (.p (eB r7)) Z ?_)
  refine iS (nx 1 Z ?_)
  exact eX _ (oi h1).symm (gE Z Z)
 refine mG (gE (t:=⟨[(2,.ptr 2 0),(5,.p (eS r2.1)),(6,.p (eS r4.2.1)),(7,.ptr 7 0),(8,.p (eB false))],[(2,qt),(7,(bT.cs r4.1).map .p)]⟩) Z Z) (mSq ⟨1,[9],(λ _=>.none),(λ _=>[(2,.ptr 2 0),(5,.p (eS r2.1)),(6,.p (eS r4.2.1)),(7,.ptr 7 0),(8,.p (eB false))]),(ob2 ([(2,qt),(7,((bT.cs r4.1).map .p))]) (2,[.p (eS r2.1),.p (eI r4.1.fKind),.p (eI r4.1.fNum),.p (eS r4.1.fStr)]))⟩ Z (dPc (.p (eS r2.1)) Z (dPc (.p (.agg (bT.cs r4.1))) Z (dPc (.p (.agg [eS r2.1,eI r4.1.fKind,eI r4.1.fNum,eS r4.1.fStr])) Z (dPc (.p (eS r4.2.1)) Z (dPc (.p (eB false)) Z (dPc (.p (eB false)) Z (dPn (rfl) Z (dPn (rfl) Z ?_)))))))))
 refine bE (λ _=>.p (eB false)) Z Z Z (ic Z Y) (lt1 Z) (bb [(26,_),(28,_)] ⟨.inr ⟨5,_,Z,Z,Z⟩,.inr ⟨7,_,Z,Z,Z⟩,trivial⟩ (λ sl hsl K hK=>av Z (bP Z Z Z (hsl _ _ Z) (rfl) Z hK)) (bb [(26,_),(28,_)] ⟨.inr ⟨5,_,Z,Z,Z⟩,.inr ⟨7,_,Z,Z,Z⟩,trivial⟩ (λ sl hsl K hK=>av Z (bP Z Z Z (hsl _ _ Z) (rfl) Z hK)) bC)) (dS Z ?_)
 refine dPc (.p (eS r4.2.1)) Z (dPc (.p (eB false)) Z ?_)
 refine iS (nx 1 Z ?_)
 exact eX _ (oi h1).symm (gE Z Z)
def fP (n:Nat):Nat→Bytes→(List ac)→Option ((Bytes×(List ac))⊕(fc×Bool))
 | 0,_,_=>none
 | m+1,s14,f15 =>
 (iE s14 ([109,111,100,117,108,101,46]:Bytes)).bind λ r16 =>
 if r16=true then
  (lJ n s14).bind λ r19 =>
  if (!r19.2.2)=true then
   some (.inr ((fc.mk (al.mk [] false ([]:Bytes) ([]:Bytes) (bT.mk 0 0 ([]:Bytes))) false),false))
  else
   ck ((f15.length+[r19.1].length)*48≤140737488355328) <|
   if r19.2.1=([]:Bytes) then
    some (.inr ((fc.mk (al.mk (f15++[r19.1]) false ([]:Bytes) ([]:Bytes) (bT.mk 0 0 ([]:Bytes))) false),true))
   else
    ck ((0:Int)≤0∧0 < (r19.2.1.length:Int)) <|
    if byt r19.2.1 0=46 then
     ck ((0:Int)≤1∧1≤(r19.2.1.length:Int)∧(r19.2.1.length:Int)≤(r19.2.1.length:Int)) <|
     fP n m (sub r19.2.1 1 (r19.2.1.length:Int)) (f15++[r19.1])
    else
     some (.inr ((fc.mk (al.mk [] false ([]:Bytes) ([]:Bytes) (bT.mk 0 0 ([]:Bytes))) false),false))
 else
  some (.inl (s14,f15))
def kR (n:Nat)(s_0:Bytes):Option (fc×Bool) :=
 jn (fP n n s_0 []) λ q60 =>
 (
   (iE q60.1 ([100,97,116,97,46]:Bytes)).bind λ r31 =>
   if r31=true then
    ck ((0:Int)≤5∧5≤(q60.1.length:Int)∧(q60.1.length:Int)≤(q60.1.length:Int)) <|
    some (sub q60.1 5 (q60.1.length:Int),true)
   else
    some (q60.1,false)
  : Option (Bytes×Bool)).bind λ q61 =>
 (jv n q61.1).bind λ r37 =>
 (
   (cY n r37.1).bind λ r39 =>
   if (!r39)=true then
    some true
   else
    (gO n r37.1).bind λ r42 =>
    if r42=true then
     some true
    else
     if r37.2=([]:Bytes) then
      some true
     else
      ck ((0:Int)≤0∧0 < (r37.2.length:Int)) <|
      some (!decide (byt r37.2 0=46))
  : Option Bool).bind λ t47 =>
 if t47=true then
  some ((fc.mk (al.mk [] false ([]:Bytes) ([]:Bytes) (bT.mk 0 0 ([]:Bytes))) false),false)
 else
  ck ((0:Int)≤1∧1≤(r37.2.length:Int)∧(r37.2.length:Int)≤(r37.2.length:Int)) <|
  (jv n (sub r37.2 1 (r37.2.length:Int))).bind λ r50 =>
  (lF n r50.2).bind λ r52 =>
  (
    (cY n r50.1).bind λ r54 =>
    if (!r54)=true then
     some true
    else
     if (!r52.2.2)=true then
      some true
     else
      some (!decide (r52.2.1=([]:Bytes)))
   : Option Bool).bind λ t58 =>
  if t58=true then
   some ((fc.mk (al.mk [] false ([]:Bytes) ([]:Bytes) (bT.mk 0 0 ([]:Bytes))) false),false)
  else
   some ((fc.mk (al.mk q60.2 q61.2 r37.1 r50.1 r52.1) true),true)
theorem tv (n:Nat)(s_0:Bytes)(r:fc×Bool)(h0:kR n s_0=some r):aA Tryz.prog 82 [eS s_0] (·=.tuple [.p (.agg (fc.cs r.1)),.p (eB r.2)]):=by
 unfold kR at h0
 refine ba good Tryz.func82 Z Z Z λ w0=>mP (λ v:fc×Bool=>.tuple [.p (.agg (fc.cs v.1)),.p (eB v.2)]) ?_
 refine nx 13 Z ?_
 obtain ⟨o64,h1,hL0,hR0⟩:=fx h0
 refine kEx 0 (λ v65:Bytes×(List ac)=>o64=.inl v65) (λ v65=>⟨[(0,.p (eS v65.1)),(2,.ptr 2 0),(4,.ptr 4 0)],[(2,m9),(4,[.vec 30 4 0 (v65.2.map ag),.p (eB false),.p (eS ([]:Bytes)),.p (eS ([]:Bytes)),.p (eI 0),.p (eI 0),.p (eS ([]:Bytes)),.p (eB false)])]⟩) (λ v65 hv=>?_) ?_
 ·have h0:=hL0 _ hv
  refine nx 2 Z (bd h0 λ o66 h1 h0=>?_)
  refine kN o66 (λ v67=>⟨[(0,.p (eS v67.1)),(2,.ptr 2 0),(4,.ptr 4 0)],[(2,m9),(4,[.vec 30 4 0 (v65.2.map ag),.p (eB v67.2),.p (eS ([]:Bytes)),.p (eS ([]:Bytes)),.p (eI 0),.p (eI 0),.p (eS ([]:Bytes)),.p (eB false)])]⟩) ?_ ?_
  ·refine nx 4 Z (bd h0 λ r37 e38 h0=>oK (mJ _ o66.1 _ e38) Z ⟨sr,trivial⟩ Tryz.call104 Z (nx 8 Z (bd h0 λ o68 h1 h0=>kN o68 (λ v69=>⟨[(2,.ptr 2 0),(4,.ptr 4 0),(8,.p (eS r37.1)),(9,.p (eS r37.2)),(68,.p (eB v69))],[(2,m9),(4,[.vec 30 4 0 (v65.2.map ag),.p (eB o66.2),.p (eS ([]:Bytes)),.p (eS ([]:Bytes)),.p (eI 0),.p (eI 0),.p (eS ([]:Bytes)),.p (eB false)])]⟩) ?_ ?_)))
   ·refine nx 1 Z (fB [68] h0 Z (λ c48 h0=>?_) λ c48 h0=>?_)
    ·exact nx 8 Z (mQ (oi h0) Z (aC ⟨iI ⟨.inr ⟨Z,Z⟩,.inl Z,.inl Z,.inl Z,.inl Z,.inl Z,.inl Z,.inl Z,trivial⟩,sr,trivial⟩))
    refine nx 5 Z (oP h0 Z Z Z λ hk49 h0=>bd h0 λ r50 e51 h0=>oK (mJ _ (sub r37.2 1 (r37.2.length:Int)) _ e51) Z ⟨sr,trivial⟩ Tryz.call104 Z (nx 9 Z (bd h0 λ r52 e53 h0=>oK (qW _ r50.2 _ e53) Z ⟨sr,trivial⟩ Tryz.call107 Z (nx 11 Z (bd h0 λ o70 h1 h0=>kN o70 (λ v71=>⟨[(2,.ptr 2 0),(4,.ptr 4 0),(8,.p (eS r37.1)),(10,.p (eS r50.1)),(11,.ptr 11 0),(92,.p (eB v71))],[(2,m9),(4,[.vec 30 4 0 (v65.2.map ag),.p (eB o66.2),.p (eS ([]:Bytes)),.p (eS ([]:Bytes)),.p (eI 0),.p (eI 0),.p (eS ([]:Bytes)),.p (eB false)]),(11,(bT.cs r52.1).map .p)]⟩) ?_ ?_)))))
    ·refine nx 1 Z (fB [92] h0 Z (λ c59 h0=>?_) λ c59 h0=>?_)
     ·exact nx 8 Z (mQ (oi h0) Z (aC ⟨iI ⟨.inr ⟨Z,Z⟩,.inl Z,.inl Z,.inl Z,.inl Z,.inl Z,.inl Z,.inl Z,trivial⟩,sr,trivial⟩))
     exact nx 35 Z (mQ (oi h0) Z (aC ⟨qn ⟨AV.sub_vec _ _ _ _,sr,sr,sr,sr,sr,sr,sr,trivial⟩,sr,trivial⟩))
    refine nx 2 Z (bd h1 λ r54 e55 h1=>oK (em _ r50.1 _ e55) Z ⟨sr,trivial⟩ Tryz.call105 Z (nx 2 Z ?_))
    refine fB [84,85] h1 Z (λ c56 h1=>?_) λ c56 h1=>?_
    ·exact nx 8 Z (eX _ (oi h1).symm (gE Z Z))
    refine nx 4 Z (fB [87,88,89] h1 Z (λ c57 h1=>?_) λ c57 h1=>?_)
    ·exact nx 4 Z (eX _ (oi h1).symm (gE Z Z))
    exact nx 1 Z (oS Z Z (nx 2 Z (eX _ (oi h1).symm (gE Z Z))))
   refine nx 2 Z (bd h1 λ r39 e40 h1=>oK (em _ r37.1 _ e40) Z ⟨sr,trivial⟩ Tryz.call105 Z (nx 2 Z ?_))
   refine fB [55,56] h1 Z (λ c41 h1=>?_) λ c41 h1=>?_
   ·exact nx 13 Z (eX _ (oi h1).symm (gE Z Z))
   refine nx 1 Z (bd h1 λ r42 e43 h1=>oK (mt _ r37.1 _ e43) Z ⟨sr,trivial⟩ Tryz.call106 Z (nx 2 Z ?_))
   refine fB [58,59,60] h1 Z (λ c44 h1=>?_) λ c44 h1=>?_
   ·exact nx 9 Z (eX _ (oi h1).symm (gE Z Z))
   refine nx 1 Z (oS Z Z (nx 2 Z (fD [62,63,64] h1 Z (λ c45 h1=>?_) λ c45 h1=>?_)))
   ·exact nx 5 Z (eX _ (oi h1).symm (gE Z Z))
   exact nx 1 Z (oI h1 Z λ hk46 h1=>nx 3 Z (eX _ (oi h1).symm (gE Z Z)))
  refine nx 3 Z (bd h1 λ r31 e32 h1=>oK (nV v65.1 ([100,97,116,97,46]:Bytes) _ e32) Z ⟨sr,sr,trivial⟩ Tryz.call102 Z (nx 1 Z ?_))
  refine fB [43] h1 Z (λ c33 h1=>?_) λ c33 h1=>?_
  ·exact nx 9 Z (oP h1 Z Z Z λ hk34 h1=>nx 2 Z (eX _ (oi h1).symm (gE Z Z)))
  exact nx 2 Z (eX _ (oi h1).symm (gE Z Z))
 refine lG (λ (q72:Bytes×(List ac))=>⟨[(0,.p (eS q72.1)),(2,.ptr 2 0),(4,.ptr 4 0)],[(2,m9),(4,[.vec 30 4 0 (q72.2.map ag),.p (eB false),.p (eS ([]:Bytes)),.p (eS ([]:Bytes)),.p (eI 0),.p (eI 0),.p (eS ([]:Bytes)),.p (eB false)])]⟩) (λ m (q72:Bytes×(List ac))=>fP n m q72.1 q72.2) Y (s_0,[]) h1 (aP (bm ⟨er Z,er Z,er Z,trivial⟩ ⟨⟨_,Z,⟨sr,sr,sr,sr,sr,sr,sr,sr,trivial⟩⟩,⟨_,Z,⟨AV.sub_nilvec _ _ _,sr,sr,sr,sr,sr,sr,sr,trivial⟩⟩,trivial⟩)) ?_
 rintro m ⟨s14,f15⟩ h1
 replace h1:fP n (m+1) s14 f15=some o64:=h1
 rw [fP] at h1
 refine nx 4 Z (bd h1 λ r16 e17 h1=>oK (nV s14 ([109,111,100,117,108,101,46]:Bytes) _ e17) Z ⟨sr,sr,trivial⟩ Tryz.call102 Z (nx 1 Z ?_))
 refine fB [15] h1 Z (λ c18 h1=>?_) λ c18 h1=>?_
 ·refine nx 6 Z (bd h1 λ r19 e20 h1=>oK (vg _ s14 _ e20) Z ⟨sr,trivial⟩ Tryz.call103 Z (nx 15 Z ?_))
  refine fB [23] h1 Z (λ c21 h1=>?_) λ c21 h1=>?_
  ·exact nx 8 Z (mQ (hR0 _ (oi h1).symm) Z (aC ⟨iI ⟨.inr ⟨Z,Z⟩,.inl Z,.inl Z,.inl Z,.inl Z,.inl Z,.inl Z,.inl Z,trivial⟩,sr,trivial⟩))
  refine nx 8 Z (mO Z (bs ag [r19.1] Z Z Z Z Z Z Z Z Z Z Z Z Z (by first | rfl | (simp only [List.map_cons,List.map_nil,ac.agg_eq]; done) | (simp only [List.map_cons,List.map_nil,ac.agg_eq]; rfl)) (cc' h1 λ hk22 h1=>mO Z (gB ag f15 [r19.1] Z Z Z Z Z Z Z Z Z Z Z Z Z (λ x=>congrArg List.length (ac.cells_eq x)) Z Z Z Z hk22 (nx 8 Z (oS Z Z (nx 1 Z (fD [34] h1 Z (λ c23 h1=>?_) λ c23 h1=>?_))))))))
  ·exact nx 7 Z (mG (gE (t:=⟨[(2,.ptr 2 0),(3,.p (eB true))],[(2,[.vec 30 4 0 ((f15++[r19.1]).map ag),.p (eB false),.p (eS ([]:Bytes)),.p (eS ([]:Bytes)),.p (eI 0),.p (eI 0),.p (eS ([]:Bytes)),.p (eB false)])]⟩) Z Z) (nx 1 Z (mQ (hR0 _ (oi h1).symm) Z (aC ⟨qn ⟨AV.sub_vec _ _ _ _,sr,sr,sr,sr,sr,sr,sr,trivial⟩,sr,trivial⟩))))
  refine nx 6 Z (oI h1 Z λ hk24 h1=>nx 2 Z (mG (gE (t:=⟨[(2,.ptr 2 0),(4,.ptr 4 0),(6,.p (eS r19.2.1)),(38,.p (eB (!decide (byt r19.2.1 0=46))))],[(2,m9),(4,[.vec 30 4 0 ((f15++[r19.1]).map ag),.p (eB false),.p (eS ([]:Bytes)),.p (eS ([]:Bytes)),.p (eI 0),.p (eI 0),.p (eS ([]:Bytes)),.p (eB false)])]⟩) Z Z) ?_))
  refine fN [38] h1 Z (λ c25 h1=>?_) λ c25 h1=>?_
  ·exact nx 4 Z (oP h1 Z Z Z λ hk26 h1=>nx 2 Z (eX (sub r19.2.1 1 (r19.2.1.length:Int),f15++[r19.1]) h1 (gE Z Z)))
  exact nx 8 Z (mQ (hR0 _ (oi h1).symm) Z (aC ⟨iI ⟨.inr ⟨Z,Z⟩,.inl Z,.inl Z,.inl Z,.inl Z,.inl Z,.inl Z,.inl Z,trivial⟩,sr,trivial⟩))
 exact nx 2 Z (eXi _ (oi h1).symm (gE Z Z))
def lc (n:Nat)(s_0:Bytes):Option (al×Int) :=
 (kR n s_0).bind λ r1 =>
 (
   if (!r1.2)=true then
    some true
   else
    some (!r1.1.fWhole)
  : Option Bool).bind λ t4 =>
 if t4=true then
  some ((al.mk [] false ([]:Bytes) ([]:Bytes) (bT.mk 0 0 ([]:Bytes))),2)
 else
  if 16 < (r1.1.fAddr.fModule.length:Int) then
   some ((al.mk [] false ([]:Bytes) ([]:Bytes) (bT.mk 0 0 ([]:Bytes))),4)
  else
   some (r1.1.fAddr,0)
theorem tU (n:Nat)(s_0:Bytes)(r:al×Int)(h0:lc n s_0=some r):aA Tryz.prog 53 [eS s_0] (·=.tuple [.p (.agg (al.cs r.1)),.p (eI r.2)]):=by
 unfold lc at h0
 refine ba good Tryz.func53 Z Z Z λ w0=>mP (λ v:al×Int=>.tuple [.p (.agg (al.cs v.1)),.p (eI v.2)]) ?_
 refine nx 8 Z (bd h0 λ r1 e2 h0=>oK (tv _ s_0 _ e2) Z ⟨sr,trivial⟩ Tryz.call82 Z (nx 9 Z (bd h0 λ o8 h1 h0=>kN o8 (λ v9=>⟨[(2,.ptr 2 0),(4,.ptr 4 0),(17,.p (eB v9))],[(2,lV),(4,(fc.cs r1.1).map .p)]⟩) ?_ ?_)))
 ·refine nx 1 Z (fB [17] h0 Z (λ c5 h0=>?_) λ c5 h0=>?_)
  ·exact nx 8 Z (mQ (oi h0) Z (aC ⟨iI ⟨.inr ⟨Z,Z⟩,.inl Z,.inl Z,.inl Z,.inl Z,.inl Z,.inl Z,trivial⟩,sr,trivial⟩))
  refine nx 8 Z (oLl (f:=ag) Z Z (nx 2 Z (fD [23] h0 Z (λ c6 h0=>?_) λ c6 h0=>?_)))
  ·exact nx 8 Z (mQ (oi h0) Z (aC ⟨iI ⟨.inr ⟨Z,Z⟩,.inl Z,.inl Z,.inl Z,.inl Z,.inl Z,.inl Z,trivial⟩,sr,trivial⟩))
  exact nx 10 Z (mQ (oi h0) Z (aC ⟨sr,sr,trivial⟩))
 refine nx 4 Z (fB [12,13] h1 Z (λ c3 h1=>?_) λ c3 h1=>?_)
 ·exact nx 5 Z (eX _ (oi h1).symm (gE Z Z))
 exact nx 5 Z (eX _ (oi h1).symm (gE Z Z))
def fA (a_0:al):Nat→Int→(List ac)→Option (List ac)
 | 0,_,_=>none
 | m+1,i7,f8 =>
 if i7 < (a_0.fModule.length:Int) then
  ck ((0:Int)≤i7∧i7 < (a_0.fModule.length:Int)) <|
  ck ((f8.length+([(ac.mk ((lat a_0.fModule i7).fName) (bT.mk 0 0 ([]:Bytes)))]).length)*48≤140737488355328) <|
  ck (inR (i7+1)) <|
  fA a_0 m (i7+1) (f8++([(ac.mk ((lat a_0.fModule i7).fName) (bT.mk 0 0 ([]:Bytes)))]))
 else
  some f8
def lM (n:Nat)(a_0:al):Option al :=
 (fA a_0 n 0 []).bind λ f15 =>
 some (al.mk f15 a_0.fData a_0.fType a_0.fName (bT.mk 0 0 ([]:Bytes)))
theorem va (n:Nat)(a_0:al)(r:al)(h0:lM n a_0=some r):aA Tryz.prog 55 [.agg (al.cs a_0)] (·=.p (.agg (al.cs r))):=by
 unfold lM at h0
 refine ba good Tryz.func55 Z Z Z λ w0=>mP (λ v:al=>.p (.agg (al.cs v))) ?_
 refine nx 23 Z (bd h0 λ o17 h1 h0=>?_)
 refine kE 0 o17 (λ v18=>⟨[(2,.ptr 2 0),(3,.ptr 3 0)],[(2,lV),(3,[.vec 29 4 0 (v18.map ag),.p (eB a_0.fData),.p (eS a_0.fType),.p (eS a_0.fName),.p (eI 0),.p (eI 0),.p (eS ([]:Bytes))])]⟩) ?_ ?_
 ·exact nx 7 Z (mQ (oi h0) Z (qn ⟨AV.sub_vec _ _ _ _,sr,sr,sr,sr,sr,sr,trivial⟩))
 refine lG (λ (q19:Int×(List ac))=>⟨[(1,.ptr 1 0),(2,.ptr 2 0),(3,.ptr 3 0),(4,.p (eI q19.1))],[(1,(al.cs a_0).map .p),(2,lV),(3,[.vec 29 4 0 (q19.2.map ag),.p (eB a_0.fData),.p (eS a_0.fType),.p (eS a_0.fName),.p (eI 0),.p (eI 0),.p (eS ([]:Bytes))])]⟩) (λ m (q19:Int×(List ac))=>fA a_0 m q19.1 q19.2) Y (0,[]) h1 (aP (bm ⟨er Z,er Z,er Z,er Z,trivial⟩ ⟨⟨_,Z,⟨sr,sr,sr,sr,sr,sr,sr,trivial⟩⟩,⟨_,Z,⟨sr,sr,sr,sr,sr,sr,sr,trivial⟩⟩,⟨_,Z,⟨AV.sub_nilvec _ _ _,sr,sr,sr,sr,sr,sr,trivial⟩⟩,trivial⟩)) ?_
 rintro m ⟨i7,f8⟩ h1
 replace h1:fA a_0 (m+1) i7 f8=some o17:=h1
 rw [fA] at h1
 refine nx 6 Z (oLl (f:=ag) Z Z (nx 2 Z (fD [16] h1 Z (λ c9 h1=>?_) λ c9 h1=>?_)))
 ·refine nx 4 Z (cc' h1 λ hk10 h1=>cc' h1 λ hk11 h1=>mG (gE (t:=⟨[(1,.ptr 1 0),(2,.ptr 2 0),(3,.ptr 3 0),(4,.p (eI i7))],[(1,(al.cs a_0).map .p),(2,lV),(3,[.vec 29 4 0 (f8.map ag),.p (eB a_0.fData),.p (eS a_0.fType),.p (eS a_0.fName),.p (eI 0),.p (eI 0),.p (eS ([]:Bytes))])]⟩) Z Z) (mSq ⟨2,[10,12],(by3 (.some λ i=>Nat.beq i 29||Nat.beq i 29) .none .none),(λ _=>[(1,.ptr 1 0),(2,.ptr 2 0),(3,.ptr 3 0),(4,.p (eI i7))]),(by3 ([(1,((al.cs a_0).map .p)),(2,lV),(3,[.vec 29 4 0 (f8.map ag),.p (eB a_0.fData),.p (eS a_0.fType),.p (eS a_0.fName),.p (eI 0),.p (eI 0),.p (eS ([]:Bytes))])]) ([(1,((al.cs a_0).map .p)),(2,lV),(3,[.p (eL ag f8),.p (eB a_0.fData),.p (eS a_0.fType),.p (eS a_0.fName),.p (eI 0),.p (eI 0),.p (eS ([]:Bytes))])]) ([(3,[.vec 29 4 0 ((f8++([(ac.mk ((lat a_0.fModule i7).fName) (bT.mk 0 0 ([]:Bytes)))])).map ag),.p (eB a_0.fData),.p (eS a_0.fType),.p (eS a_0.fName),.p (eI 0),.p (eI 0),.p (eS ([]:Bytes))]),(1,((al.cs a_0).map .p)),(2,lV),(3,[.p (eL ag f8),.p (eB a_0.fData),.p (eS a_0.fType),.p (eS a_0.fName),.p (eI 0),.p (eI 0),.p (eS ([]:Bytes))])]))⟩ Z (dPc (.ptr 3 0) Z (dP (by3 (.vec 29 4 0 (f8.map ag)) (.p (eL ag f8)) (.p (eL ag f8))) Z (dPc (.ptr 1 0) Z (dPc (.p (eL ag a_0.fModule)) Z (dPc (.p (eI i7)) Z (bE (λ _=>.rptr (ac.cs (lat a_0.fModule i7))) Z Z Z (wW Z Z Y) (lt2 Z Z) (bv Z (bb [(22,_),(23,_)] ⟨.inr ⟨3,_,Z,Z,Z⟩,.inr ⟨4,_,Z,Z,Z⟩,trivial⟩ (λ sl hsl K hK=>av Z (ek (f:=ag) (l:=a_0.fModule) ac.cs Z Z Z Z Z Z (hsl _ _ Z) Z (hsl _ _ Z) hk10 ac.cells_eq Y hK)) (bb [(22,_),(23,_)] ⟨.inr ⟨3,_,Z,Z,Z⟩,.inr ⟨4,_,Z,Z,Z⟩,trivial⟩ (λ sl hsl K hK=>av Z (ek (f:=ag) (l:=a_0.fModule) ac.cs Z Z Z Z Z Z (hsl _ _ Z) Z (hsl _ _ Z) hk10 ac.cells_eq Y hK)) bC))) (dPc (.rptr (List.drop 0 (ac.cs (lat a_0.fModule i7)))) Z (dPc (.p (eS ((lat a_0.fModule i7).fName))) Z (dPc (.p (.agg [eS ((lat a_0.fModule i7).fName),eI 0,eI 0,eS ([]:Bytes)])) Z (bE (λ _=>.p (eL ag ([(ac.mk ((lat a_0.fModule i7).fName) (bT.mk 0 0 ([]:Bytes)))]))) Z Z Z (wW Z Z Y) (lt2 Z Z) (bv Z (bv Z (bb [(27,_)] ⟨.inr ⟨8,_,Z,Z,Z⟩,trivial⟩ (λ sl hsl K hK=>av Z (bs ag [(ac.mk ((lat a_0.fModule i7).fName) (bT.mk 0 0 ([]:Bytes)))] Z Z Z Z Z Z (nu (hsl _ _ Z) Z po) Z Z Z Z Z Z (by first | rfl | (simp only [List.map_cons,List.map_nil,ac.agg_eq]; done) | (simp only [List.map_cons,List.map_nil,ac.agg_eq]; rfl)) hK)) bC))) ?_))))))))))))
  refine g5 (λ _=>.vec 29 4 0 ((f8++([(ac.mk ((lat a_0.fModule i7).fName) (bT.mk 0 0 ([]:Bytes)))])).map ag)) [(20,_),(28,_)] Z ⟨.inr ⟨1,_,Z,Z,Z⟩,.inr ⟨9,_,Z,Z,Z⟩,trivial⟩ Z Z (ic Z Y) (lt2 (λ h=>absurd h (by decide)) Y) (λ sl hsl K hK=>av Z (gB ag f8 ([(ac.mk ((lat a_0.fModule i7).fName) (bT.mk 0 0 ([]:Bytes)))]) Z Z Z Z Z Z Z Z (hsl _ _ Z) Z Z (hsl _ _ Z) Z (λ x=>congrArg List.length (ac.cells_eq x)) Z Z Z Z hk11 hK)) (dPc (.ptr 3 0) Z ?_)
  exact dS Z (iS (nx 3 Z (oA h1 Z Z λ hk12 h1=>nx 2 Z (eX (i7+1,f8++([(ac.mk ((lat a_0.fModule i7).fName) (bT.mk 0 0 ([]:Bytes)))])) h1 (gE Z Z)))))
 exact nx 2 Z (eXi _ (oi h1).symm (gE Z Z))
def iO (n:Nat)(s_0:Bytes):Option (Bytes×Int) :=
 (lc n s_0).bind λ r1 =>
 if r1.2=0 then
  (lM n r1.1).bind λ r4 =>
  (jX n r4).bind λ r6 =>
  some (r6,0)
 else
  some (([]:Bytes),r1.2)
theorem oc (n:Nat)(s_0:Bytes)(r:Bytes×Int)(h0:iO n s_0=some r):aA Tryz.prog 33 [eS s_0] (·=.tuple [.p (eS r.1),.p (eI r.2)]):=by
 unfold iO at h0
 refine ba good Tryz.func33 Z Z Z λ w0=>mP (λ v:Bytes×Int=>.tuple [.p (eS v.1),.p (eI v.2)]) ?_
 refine nx 8 Z (bd h0 λ r1 e2 h0=>oK (tU _ s_0 _ e2) Z ⟨sr,trivial⟩ Tryz.call53 Z (nx 13 Z ?_))
 refine fN [12] h0 Z (λ c3 h0=>?_) λ c3 h0=>?_
 ·exact nx 5 Z (bd h0 λ r4 e5 h0=>oK (va _ r1.1 _ e5) Z ⟨sr,trivial⟩ Tryz.call55 Z (bd h0 λ r6 e7 h0=>oK (sX _ r4 _ e7) Z ⟨sr,trivial⟩ Tryz.call54 Z (nx 4 Z (mQ (oi h0) Z (aC ⟨sr,sr,trivial⟩)))))
 exact nx 8 Z (mQ (oi h0) Z (aC ⟨sr,sr,trivial⟩))
end Go.Ab.R06
end
section
namespace Go.Ab.R06
open Go.Ab Go.Ab.RB Go.Lib
theorem vF (s p:Bytes):iE s p=some (hasPrefix s p):=by
 unfold iE
 by_cases h:p.length≤s.length
 ·rw [if_pos O,aT O,Option.bind_some]
  refine congrArg some (eqB ?_)
  rw [decide_eq_true_eq,dM,oM,Int.toNat_natCast]
  constructor
  ·intro q; exact ⟨s.drop p.length,by conv=>lhs; rw [← List.take_append_drop p.length s,q]⟩
  ·rintro ⟨t,rfl⟩; rw [List.take_left]
 ·rw [if_neg O,Option.bind_some]
  refine congrArg some (Eq.symm ?_)
  rw [← Bool.not_eq_true]
  intro q; exact h (qC q)
theorem lq {b c:UInt8}{t:Bytes}:hasPrefix (b::t) [c]=decide (b=c):=by
 refine eqB ?_
 rw [dM,decide_eq_true_eq]
 exact ⟨λ ⟨u,hu⟩=>(List.cons.inj hu).1,λ h=>⟨t,by rw [h]; rfl⟩⟩
theorem pre_nil {c:UInt8}:hasPrefix [] [c]=false:=by
 rw [← Bool.not_eq_true,dM]; rintro ⟨u,hu⟩; cases hu
def cW (s:Bytes):Bytes×Bytes:=(s.takeWhile idB,s.dropWhile idB)
theorem uA (p:UInt8→Bool)(s:Bytes):s.take (s.takeWhile p).length=s.takeWhile p∧s.drop (s.takeWhile p).length=s.dropWhile p:=by
 have h:=List.takeWhile_append_dropWhile (p:=p) (l:=s)
 constructor
 ·have:s.take (s.takeWhile p).length=(s.takeWhile p++s.dropWhile p).take (s.takeWhile p).length:=by rw [h]
  rw [this,List.take_left]
 ·have:s.drop (s.takeWhile p).length=(s.takeWhile p++s.dropWhile p).drop (s.takeWhile p).length:=by rw [h]
  rw [this,List.drop_left]
theorem Bi (p:UInt8→Bool)(s:Bytes):(s.takeWhile p).length≤s.length:=by
 have h:=congrArg List.length (List.takeWhile_append_dropWhile (p:=p) (l:=s))
 rw [List.length_append] at h; omega
theorem C4 (s:Bytes)(hs:s.length≤1000000000):∀ (k i:Nat),i+k=s.length→Ev2 (λ _ m=>fI s m (i:Int)) (·=((i+((s.drop i).takeWhile idB).length:Nat):Int)):=by
 intro k
 induction k with
 | zero =>
  intro i hi
  refine aF ?_
  simp only [fI]
  refine au false (ap O (aa Z)) (ap G (aa ?_))
  rw [List.drop_of_length_le O]; simp
 | succ k ih =>
  intro i hi
  refine aF ?_
  simp only [fI]
  have hil:i < s.length:=by omega
  have hb:byt s i=((s.getD i 0).toNat:Int):=dh s i
  have:=ih (i+1) O
  rw [hb,drop_at s hil]
  have hid:idB (s.getD i 0)=(pQ (s.getD i 0)||dI (s.getD i 0)):=rfl
  have hdg:=jc (s.getD i 0)
  have hlt:=wV (s.getD i 0)
  generalize s.getD i 0=b at hid hdg hlt ⊢
  refine au (idB b) ?_ ?_
  ·refine ao O (af O (au _ (aU hlt Z) ?_))
   rw [hid]
   cases pQ b with
   | true=>exact ao Z (aa Z)
   | false =>
    refine ap G (af O (aB (λ h=>af O (aa (eqB ?_))) (λ h=>aa (eqB ?_))))
    ·rw [decide_eq_true_eq,Bool.false_or,hdg]; omega
    ·rw [Bool.false_or,hdg]
     constructor
     ·intro q; cases q
     ·intro q; omega
  ·cases hi:idB b with
   | true =>
    refine ao Z (af (aS O O) ?_)
    rw [show ((i+1:Nat):Int)=(i:Int)+1 by omega] at this
    refine ed this λ r hr=>?_
    rw [hr,List.takeWhile_cons,if_pos hi,List.length_cons]; omega
   | false =>
    refine ap G (aa ?_)
    rw [List.takeWhile_cons,if_neg (by simp [hi])]; simp
theorem uE (s:Bytes)(hs:s.length≤1000000000):Ev2 (λ n _=>jv n s) (·=cW s):=by
 simp only [jv]
 have l:=C4 s hs s.length 0 O
 rw [List.drop_zero,Nat.zero_add] at l
 have hle:=Bi idB s
 have hw:=uA idB s
 refine au _ (aY l) (af O (af O (aa ?_)))
 rw [oM,fK,Int.toNat_natCast,hw.1,hw.2]; rfl
theorem yG (p:UInt8→Bool):∀ (w t:Bytes),(∀ b∈w,p b=true)→(t=[]∨∃ b r,t=b::r∧p b=false)→(w++t).takeWhile p=w∧(w++t).dropWhile p=t
 | [],t,_,h=>by
  rcases h with rfl | ⟨b,r,rfl,hb⟩
  ·exact ⟨Z,Z⟩
  ·simp [List.takeWhile_cons,List.dropWhile_cons,hb]
 | b::w,t,hw,h=>by
  have ih:=yG p w t (λ y hy=>hw y (List.mem_cons_of_mem _ hy)) h
  have hb:=hw b List.mem_cons_self
  simp only [List.cons_append,List.takeWhile_cons,List.dropWhile_cons,hb,if_true]
  exact ⟨by rw [ih.1],ih.2⟩
theorem Ae {b:UInt8}(h:j6 b=true):idB b=false:=by
 cases hi:idB b with
 | false=>rfl
 | true=>rw [nI hi] at h; cases h
theorem qg {w t:Bytes}(hw:bZ w=true)(h:t=[]∨∃ b r,t=b::r∧j6 b=true):cW (w++t)=(w,t):=by
 have:=yG idB w t (λ b hb=>lv hw hb) (h.imp id λ ⟨b,r,e,q⟩=>⟨b,r,e,Ae q⟩)
 unfold cW; rw [this.1,this.2]
theorem mu (s:Bytes):s=(cW s).1++(cW s).2:=(List.takeWhile_append_dropWhile).symm
theorem pk (s:Bytes):(cW s).1.length≤s.length∧(cW s).2.length≤s.length:=by
 have:=congrArg List.length (mu s)
 rw [List.length_append] at this; omega
def B7 (r:Bytes):bT×Bytes×Bool:=if (u5 (r.takeWhile dI)).2=0∧hasPrefix (r.dropWhile dI) [93]=true then (bT.mk 1 (u5 (r.takeWhile dI)).1 [],(r.dropWhile dI).drop 1,true) else (ka,[],false)
def CC (r:Bytes):bT×Bytes×Bool:=if (kp r).2.2=0∧r.take (kp r).2.1.toNat=dZ (kp r).1∧hasPrefix (r.drop (kp r).2.1.toNat) [93]=true then (bT.mk 2 0 (kp r).1,r.drop ((kp r).2.1.toNat+1),true) else (ka,[],false)
def iW (s:Bytes):bT×Bytes×Bool:=if hasPrefix s [91]=true then (if hasPrefix (s.drop 1) [34]=true then CC (s.drop 1) else B7 (s.drop 1)) else (ka,s,true)
theorem BO (s:Bytes)(hs:s.length≤1000000000):∀ (k i:Nat),i+k=s.length→Ev2 (λ _ m=>f0 s m (i:Int)) (·=((i+((s.drop i).takeWhile dI).length:Nat):Int)):=by
 intro k
 induction k with
 | zero =>
  intro i hi
  refine aF ?_
  simp only [f0]
  refine au false (ap O (aa Z)) (ap G (aa ?_))
  rw [List.drop_of_length_le O]; simp
 | succ k ih =>
  intro i hi
  refine aF ?_
  simp only [f0]
  have hil:i < s.length:=by omega
  have hb:byt s i=((s.getD i 0).toNat:Int):=dh s i
  have:=ih (i+1) O
  rw [hb,drop_at s hil]
  have hdg:=jc (s.getD i 0)
  generalize s.getD i 0=b at hdg ⊢
  refine au (dI b) ?_ ?_
  ·refine ao O (af O (aB (λ h=>af O (aa (eqB ?_))) (λ h=>aa (eqB ?_))))
   ·rw [decide_eq_true_eq,hdg]; omega
   ·rw [hdg]
    constructor
    ·intro q; cases q
    ·intro q; omega
  ·cases hi:dI b with
   | true =>
    refine ao Z (af (aS O O) ?_)
    rw [show ((i+1:Nat):Int)=(i:Int)+1 by omega] at this
    refine ed this λ r hr=>?_
    rw [hr,List.takeWhile_cons,if_pos hi,List.length_cons]; omega
   | false =>
    refine ap G (aa ?_)
    rw [List.takeWhile_cons,if_neg (by simp [hi])]; simp
theorem w4 (s:Bytes)(hs:s.length≤900000000):Ev2 (λ n _=>lF n s) (·=iW s):=by
 simp only [lF]
 unfold iW
 cases s with
 | nil=>exact au true (ao Z (aa Z)) (ao Z (aa Z))
 | cons b r =>
  have hln:(b::r).length=r.length+1:=by simp
  have hb:byt (b::r) 0=(b.toNat:Int):=rfl
  have h91:b.toNat=91↔b=91:=lS (by decide)
  rw [lq]
  refine au (!decide (b=91)) ?_ ?_
  ·refine ap G (af O (aa ?_))
   rw [hb]
   refine congrArg not (eqB ?_)
   rw [decide_eq_true_eq,decide_eq_true_eq,← h91]; omega
  by_cases hbr:b=91
  ·subst hbr
   rw [if_pos (show decide ((91:UInt8)=91)=true by simp)]
   refine ap G ?_
   have hd1:(91::r:Bytes).drop 1=r:=rfl
   rw [hd1]
   refine au (hasPrefix r [34]) ?_ ?_
   ·refine aB (λ h=>af O (aa ?_)) (λ h=>aa ?_)
    ·cases r with
     | nil=>simp at h
     | cons c q =>
      have hc:byt (91::c::q) 1=(c.toNat:Int):=rfl
      have h34:c.toNat=34↔c=34:=lS (by decide)
      rw [hc,lq]
      refine eqB ?_
      rw [decide_eq_true_eq,decide_eq_true_eq,← h34]; omega
    ·cases r with
     | nil=>exact pre_nil.symm
     | cons c q=>simp only [List.length_cons] at h; omega
   cases hq:hasPrefix r [34] with
   | true =>
    refine ao Z (af O ?_)
    rw [if_pos rfl]
    have s1:sub (91::r) 1 ((91::r:Bytes).length:Int)=r:=by rw [fK]; rfl
    rw [s1]
    unfold CC
    have hu:=Ds r O
    have hok:=@wo r
    have hle:=zq r
    generalize kp r=U at hu hok hle ⊢
    obtain ⟨x,m,e⟩:=U
    simp only at hok hle ⊢
    obtain ⟨m,rfl⟩:∃ m':Nat,m=m':=⟨m.toNat,by omega⟩
    rw [Int.toNat_natCast]
    have hin1:inR ((m:Int)+1):=aS O O
    have hin2:inR ((m:Int)+2):=aS O O
    refine au _ hu ?_
    dsimp only
    refine (au (!decide (e=0∧r.take m=dZ x∧hasPrefix (r.drop m) [93]=true)) ?_ ?_)
    ·refine aB (λ h=>af hin1 ?_) (λ h=>aa (by simp [h]))
     subst h
     refine aB (λ h=>aa ?_) (λ h=>af hin1 (af O ?_))
     ·rw [List.drop_of_length_le O,pre_nil]; simp
     have hml:m < r.length:=by omega
     have hb1:byt (91::r) ((m:Int)+1)=((r.getD m 0).toNat:Int):=by
      have:=uy (91::r) m 1
      rw [show ((1:Nat):Int)=1 from rfl] at this
      rw [this]; rfl
     rw [hb1,drop_at r hml,lq]
     have h93:(r.getD m 0).toNat=93↔r.getD m 0=93:=lS (by decide)
     refine aB (λ h2=>af hin1 (af O ?_)) (λ h2=>aa ?_)
     ·have h3:r.getD m 0=93:=h93.1 O
      have hsub:sub (91::r) 1 ((m:Int)+1)=r.take m:=by
       have:=pi (91::r) 1 m
       rw [show ((1:Nat):Int)=1 from rfl,show (1:Int)+(m:Int)=(m:Int)+1 by omega] at this
       exact this
      rw [hsub,h3]
      refine au _ (vD x O) (aB (λ h4=>?_) (λ h4=>aa (by simp [h4])))
      have hx:=hok Z
      have hko:cB (bT.mk 2 0 x)=true:=by unfold cB; simp [hx.1,hx.2.1]
      have hk:=tr (bT.mk 2 0 x) (by show x.length≤_; omega)
      rw [hko] at hk
      exact au _ hk (aa (by simp [h4]))
     ·have h3:¬ r.getD m 0=93:=λ q=>h2 (by have:=h93.2 q; omega)
      symm; rw [Bool.not_eq_true',decide_eq_false_iff_not]; intro q; exact h3 (of_decide_eq_true q.2.2)
    ·by_cases h:e=0∧r.take m=dZ x∧hasPrefix (r.drop m) [93]=true
     ·rw [if_pos h]
      have hx:=hok (by rw [h.1])
      have hml:m < r.length:=by
       rcases Nat.lt_or_ge m r.length with q | q
       ·exact q
       ·have:=h.2.2
        rw [List.drop_of_length_le q,pre_nil] at this; cases this
      refine ap (by simp [h]) (af hin2 (af O (aa ?_)))
      rw [fK,show ((m:Int)+2).toNat=m+1+1 by omega]; rfl
     ·rw [if_neg h]
      exact ao (by simp only [h,decide_false,Bool.not_false]) (aa Z)
   | false =>
    refine ap G ?_
    rw [if_neg G]
    unfold B7
    have l:=BO (91::r) O r.length 1 O
    rw [hd1] at l
    have hle:=Bi dI r
    have hw:=uA dI r
    have hall:(r.takeWhile dI).all dI=true:=by simp
    have hn:=Ej (r.takeWhile dI) O hall
    generalize u5 (r.takeWhile dI)=N at hn ⊢
    obtain ⟨v,e⟩:=N
    have hsub:sub (91::r) 1 ((1+(r.takeWhile dI).length:Nat):Int)=r.takeWhile dI:=by
     have:=pi (91::r) 1 (r.takeWhile dI).length
     rw [show ((1:Nat):Int)+((r.takeWhile dI).length:Int)=((1+(r.takeWhile dI).length:Nat):Int) by omega] at this
     rw [hd1,hw.1] at this
     exact this
    refine au _ (aY l) (af O ?_)
    rw [hsub]
    refine au _ hn ?_
    dsimp only
    refine (au (!decide (e=0∧hasPrefix (r.dropWhile dI) [93]=true)) ?_ ?_)
    ·refine aB (λ h=>?_) (λ h=>aa (by simp [h]))
     subst h
     rw [← hw.2]
     refine aB (λ h=>aa ?_) (λ h=>af O (aa ?_))
     ·rw [List.drop_of_length_le O,pre_nil]; simp
     ·have hml:(r.takeWhile dI).length < r.length:=by omega
      have hb1:byt (91::r) ((1+(r.takeWhile dI).length:Nat):Int)=((r.getD (r.takeWhile dI).length 0).toNat:Int):=by
       rw [dh,Nat.add_comm]; rfl
      rw [hb1,drop_at r hml,lq]
      have h93:(r.getD (r.takeWhile dI).length 0).toNat=93↔r.getD (r.takeWhile dI).length 0=93:=lS (by decide)
      refine congrArg not (eqB ?_)
      rw [decide_eq_true_eq,decide_eq_true_eq]
      exact ⟨λ q=>⟨Z,decide_eq_true (h93.1 O)⟩,λ q=>by have:=h93.2 (of_decide_eq_true q.2); omega⟩
    ·by_cases h:e=0∧hasPrefix (r.dropWhile dI) [93]=true
     ·rw [if_pos h]
      have hml:(r.takeWhile dI).length < r.length:=by
       rcases Nat.lt_or_ge (r.takeWhile dI).length r.length with q | q
       ·exact q
       ·have:=h.2
        rw [← hw.2,List.drop_of_length_le q,pre_nil] at this; cases this
      refine ap (by simp [h]) (af (aS O O) (af O (aa ?_)))
      rw [fK,show (((1+(r.takeWhile dI).length:Nat):Int)+1).toNat=(r.takeWhile dI).length+1+1 by omega]
      refine Prod.ext Z (Prod.ext ?_ Z)
      show r.drop ((r.takeWhile dI).length+1)=(r.dropWhile dI).drop 1
      rw [← hw.2,List.drop_drop]
     ·rw [if_neg h]
      exact ao (by simp only [h,decide_false,Bool.not_false]) (aa Z)
  ·rw [if_neg (show ¬ decide (b=91)=true by simp [hbr])]
   exact ao (by simp [hbr]) (aa Z)
end Go.Ab.R06
end
