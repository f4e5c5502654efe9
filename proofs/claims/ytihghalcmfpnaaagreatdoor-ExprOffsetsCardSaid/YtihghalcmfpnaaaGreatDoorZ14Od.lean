/- Texts of the proof, one behind the other. No statement is proved here. -/
import Derived.Test.YtihghalcmfpnaaaGreatDoorZ14Oa
import Derived.Test.YtihghalcmfpnaaaGreatDoorZ14Ob
import Derived.Test.YtihghalcmfpnaaaGreatDoorZ14Oc
set_option maxHeartbeats 4000000
section
namespace Go.Ab.R06
open Go.Proofs Go.Ab Go.Ab.RB
attribute [local irreducible] awp ge bq aK aW AV.sub M dc
abbrev j9:List AV:=[.p (eI 0),.p (eI 0),.p (eS ([]:Bytes)),.p (eS ([]:Bytes)),.p (eI 0),.p (eI 0),.p (eS ([]:Bytes)),.p (.val (.slice none 0 0)),.p (.val (.slice none 0 0)),.p (.val (.slice none 0 0)),.p (eI 0)]
abbrev lr:List PV:=[eI 0,eI 0,eS ([]:Bytes),eS ([]:Bytes),eI 0,eI 0,eS ([]:Bytes),.val (.slice none 0 0),.val (.slice none 0 0),.val (.slice none 0 0),eI 0]
abbrev iP:List AV:=[.p (eI 0),.p (eS ([]:Bytes)),.p (eI 0)]
abbrev fh:List AV:=[.p (eI 0),.p (eI 0),.p (eS ([]:Bytes))]
def jf (k_0:Int):Option Bool :=
 (
   if k_0=12 then
    some true
   else
    some (decide (k_0=13))
  : Option Bool).bind λ t2 =>
 some t2
theorem lW (k_0:Int)(r:Bool)(h0:jf k_0=some r):aK Tryz.prog 146 [eI k_0] (·=.p (eB r)):=by
 unfold jf at h0
 refine cB good Tryz.func146 Z Z Z λ w0=>mP (λ v:Bool=>.p (eB v)) ?_
 refine nx 5 Z (bd h0 λ o4 h1 h0=>?_)
 refine kN o4 (λ v5=>⟨[(2,.p (eB v5))],[]⟩) ?_ ?_
 ·exact nx 2 Z (mQ (oi h0) Z (sr))
 refine nx 4 Z (fD [4,5] h1 Z (λ c1 h1=>?_) λ c1 h1=>?_)
 ·exact nx 5 Z (eX _ (oi h1).symm (gE Z Z))
 exact nx 5 Z (eX _ (oi h1).symm (gE Z Z))
def io (k_0:Int):Option Bool :=
 (
   if k_0=3 then
    some true
   else
    if k_0=4 then
     some true
    else
     if k_0=9 then
      some true
     else
      (jf k_0).bind λ r4 =>
      some r4
  : Option Bool).bind λ t6 =>
 some t6
theorem oa (k_0:Int)(r:Bool)(h0:io k_0=some r):aK Tryz.prog 112 [eI k_0] (·=.p (eB r)):=by
 unfold io at h0
 refine cB good Tryz.func112 Z Z Z λ w0=>mP (λ v:Bool=>.p (eB v)) ?_
 refine nx 5 Z (bd h0 λ o8 h1 h0=>?_)
 refine kN o8 (λ v9=>⟨[(2,.p (eB v9))],[]⟩) ?_ ?_
 ·exact nx 2 Z (mQ (oi h0) Z (sr))
 refine nx 4 Z (fD [4,5] h1 Z (λ c1 h1=>?_) λ c1 h1=>?_)
 ·exact nx 13 Z (eX _ (oi h1).symm (gE Z Z))
 refine nx 4 Z (fD [7,8,9] h1 Z (λ c2 h1=>?_) λ c2 h1=>?_)
 ·exact nx 9 Z (eX _ (oi h1).symm (gE Z Z))
 refine nx 4 Z (fD [11,12,13] h1 Z (λ c3 h1=>?_) λ c3 h1=>?_)
 ·exact nx 5 Z (eX _ (oi h1).symm (gE Z Z))
 refine nx 1 Z (bd h1 λ r4 e5 h1=>?_)
 refine oK (lW k_0 _ e5) Z ⟨sr,trivial⟩ Tryz.call146 Z (nx 3 Z ?_)
 exact eX _ (oi h1).symm (gE Z Z)
def ia (e_0:ac):Option Bool :=
 if e_0.fKind=6 then
  (
    if e_0.fOp=1 then
     some true
    else
     some (decide (e_0.fOp=2))
   : Option Bool).bind λ t3 =>
  some t3
 else
  if e_0.fKind=7 then
   (
     if 3≤e_0.fOp then
      some (decide (e_0.fOp≤15))
     else
      some false
    : Option Bool).bind λ t6 =>
   some t6
  else
   some (decide (e_0.fOp=0))
theorem pP (e_0:ac)(r:Bool)(h0:ia e_0=some r):aK Tryz.prog 145 [.agg (ac.cs e_0)] (·=.p (eB r)):=by
 unfold ia at h0
 refine cB good Tryz.func145 Z Z Z λ w0=>mP (λ v:Bool=>.p (eB v)) ?_
 refine nx 17 Z (fD [5,6] h0 Z (λ c1 h0=>?_) λ c1 h0=>?_)
 ·refine nx 2 Z (bd h0 λ o9 h1 h0=>?_)
  refine kN o9 (λ v10=>⟨[(2,.p (eB v10))],[]⟩) ?_ ?_
  ·exact nx 2 Z (mQ (oi h0) Z (sr))
  refine nx 5 Z (fD [9,10] h1 Z (λ c2 h1=>?_) λ c2 h1=>?_)
  ·exact nx 6 Z (eX _ (oi h1).symm (gE Z Z))
  exact nx 6 Z (eX _ (oi h1).symm (gE Z Z))
 refine nx 6 Z (fD [15,16] h0 Z (λ c4 h0=>?_) λ c4 h0=>?_)
 ·refine nx 2 Z (bd h0 λ o11 h1 h0=>?_)
  refine kN o11 (λ v12=>⟨[(2,.p (eB v12))],[]⟩) ?_ ?_
  ·exact nx 2 Z (mQ (oi h0) Z (sr))
  refine nx 5 Z (fD [19,20] h1 Z (λ c5 h1=>?_) λ c5 h1=>?_)
  ·exact nx 6 Z (eX _ (oi h1).symm (gE Z Z))
  exact nx 6 Z (eX _ (oi h1).symm (gE Z Z))
 exact nx 10 Z (mQ (oi h0) Z (sr))
def iy (v_0:ah):Option Bool :=
 (
   if v_0.fKind=0 then
    if v_0.fNum=0 then
     if v_0.fStr=([]:Bytes) then
      ck (inR ((v_0.fItems.length:Int)+(v_0.fKeys.length:Int))) <|
      some (decide ((v_0.fItems.length:Int)+(v_0.fKeys.length:Int)=0))
     else
      some false
    else
     some false
   else
    some false
  : Option Bool).bind λ t5 =>
 some t5
theorem jS (v_0:ah)(r:Bool)(h0:iy v_0=some r):aK Tryz.prog 147 [.agg (ah.cs v_0)] (·=.p (eB r)):=by
 unfold iy at h0
 refine cB good Tryz.func147 Z Z Z λ w0=>mP (λ v:Bool=>.p (eB v)) ?_
 refine nx 6 Z (bd h0 λ o7 h1 h0=>?_)
 refine kN o7 (λ v8=>⟨[(2,.p (eB v8))],[]⟩) ?_ ?_
 ·exact nx 2 Z (mQ (oi h0) Z (sr))
 refine nx 5 Z (fD [5,6] h1 Z (λ c1 h1=>?_) λ c1 h1=>?_)
 ·refine nx 5 Z (fD [9,10,11] h1 Z (λ c2 h1=>?_) λ c2 h1=>?_)
  ·refine nx 2 Z (oS Z Z ?_)
   refine nx 2 Z (fD [14,15,16] h1 Z (λ c3 h1=>?_) λ c3 h1=>?_)
   ·refine nx 2 Z (oLl (f:=cC) Z Z ?_)
    refine nx 2 Z (oLl (f:=eS) Z Z ?_)
    exact oA h1 Z Z λ hk4 h1=>nx 4 Z (eX _ (oi h1).symm (gE Z Z))
   exact nx 11 Z (eX _ (oi h1).symm (gE Z Z))
  exact nx 16 Z (eX _ (oi h1).symm (gE Z Z))
 exact nx 21 Z (eX _ (oi h1).symm (gE Z Z))
def ns (k_0:Int):Option (Int×Int×Bool) :=
 (
   if k_0=1 then
    some true
   else
    some (decide (k_0=3))
  : Option Bool).bind λ t2 =>
 if t2=true then
  some (0,0,false)
 else
  (
    if k_0=4 then
     some true
    else
     some (decide (k_0=6))
   : Option Bool).bind λ t5 =>
  if t5=true then
   some (1,1,false)
  else
   (
     if k_0=5 then
      some true
     else
      some (decide (k_0=7))
    : Option Bool).bind λ t8 =>
   if t8=true then
    some (2,2,false)
   else
    if k_0=8 then
     some (3,3,false)
    else
     if k_0=2 then
      some (1,4096,false)
     else
      if k_0=12 then
       some (2,3,false)
      else
       if k_0=13 then
        some (3,4,false)
       else
        if k_0=11 then
         some (0,4096,true)
        else
         some (0,4096,false)
theorem uU (k_0:Int)(r:Int×Int×Bool)(h0:ns k_0=some r):aK Tryz.prog 148 [eI k_0] (·=.tuple [.p (eI r.1),.p (eI r.2.1),.p (eB r.2.2)]):=by
 unfold ns at h0
 refine cB good Tryz.func148 Z Z Z λ w0=>mP (λ v:Int×Int×Bool=>.tuple [.p (eI v.1),.p (eI v.2.1),.p (eB v.2.2)]) ?_
 refine nx 13 Z (bd h0 λ o18 h1 h0=>?_)
 refine kN o18 (λ v19=>⟨[(5,.p (eI k_0)),(6,.p (eB v19))],[]⟩) ?_ ?_
 ·refine nx 1 Z (fB [6] h0 Z (λ c3 h0=>?_) λ c3 h0=>?_)
  ·exact nx 8 Z (mQ (oi h0) Z (aM ⟨sr,sr,sr,trivial⟩))
  refine nx 2 Z (bd h0 λ o20 h1 h0=>?_)
  refine kN o20 (λ v21=>⟨[(5,.p (eI k_0)),(9,.p (eB v21))],[]⟩) ?_ ?_
  ·refine nx 1 Z (fB [9] h0 Z (λ c6 h0=>?_) λ c6 h0=>?_)
   ·exact nx 8 Z (mQ (oi h0) Z (aM ⟨sr,sr,sr,trivial⟩))
   refine nx 2 Z (bd h0 λ o22 h1 h0=>?_)
   refine kN o22 (λ v23=>⟨[(5,.p (eI k_0)),(12,.p (eB v23))],[]⟩) ?_ ?_
   ·refine nx 1 Z (fB [12] h0 Z (λ c9 h0=>?_) λ c9 h0=>?_)
    ·exact nx 8 Z (mQ (oi h0) Z (aM ⟨sr,sr,sr,trivial⟩))
    refine nx 6 Z (fD [15,16] h0 Z (λ c10 h0=>?_) λ c10 h0=>?_)
    ·exact nx 8 Z (mQ (oi h0) Z (aM ⟨sr,sr,sr,trivial⟩))
    refine nx 6 Z (fD [17,18] h0 Z (λ c11 h0=>?_) λ c11 h0=>?_)
    ·exact nx 8 Z (mQ (oi h0) Z (aM ⟨sr,sr,sr,trivial⟩))
    refine nx 6 Z (fD [19,20] h0 Z (λ c12 h0=>?_) λ c12 h0=>?_)
    ·exact nx 8 Z (mQ (oi h0) Z (aM ⟨sr,sr,sr,trivial⟩))
    refine nx 6 Z (fD [21,22] h0 Z (λ c13 h0=>?_) λ c13 h0=>?_)
    ·exact nx 8 Z (mQ (oi h0) Z (aM ⟨sr,sr,sr,trivial⟩))
    refine nx 6 Z (fD [23,24] h0 Z (λ c14 h0=>?_) λ c14 h0=>?_)
    ·exact nx 8 Z (mQ (oi h0) Z (aM ⟨sr,sr,sr,trivial⟩))
    exact nx 9 Z (mQ (oi h0) Z (aM ⟨sr,sr,sr,trivial⟩))
   refine nx 5 Z (fD [12,13] h1 Z (λ c7 h1=>?_) λ c7 h1=>?_)
   ·exact nx 2 Z (eX _ (oi h1).symm (gE Z Z))
   exact nx 5 Z (eX _ (oi h1).symm (gE Z Z))
  refine nx 5 Z (fD [9,10] h1 Z (λ c4 h1=>?_) λ c4 h1=>?_)
  ·exact nx 2 Z (eX _ (oi h1).symm (gE Z Z))
  exact nx 5 Z (eX _ (oi h1).symm (gE Z Z))
 refine nx 5 Z (fD [6,7] h1 Z (λ c1 h1=>?_) λ c1 h1=>?_)
 ·exact nx 2 Z (eX _ (oi h1).symm (gE Z Z))
 exact nx 5 Z (eX _ (oi h1).symm (gE Z Z))
def gf (e_0:ac):Option Bool :=
 (
   if e_0.fKind < 1 then
    some true
   else
    if 13 < e_0.fKind then
     some true
    else
     (ia e_0).bind λ r3 =>
     some (!r3)
  : Option Bool).bind λ t5 =>
 if t5=true then
  some false
 else
  (
    (io e_0.fKind).bind λ r7 =>
    if (!r7)=true then
     if e_0.fName=([]:Bytes) then
      (jf e_0.fKind).bind λ r11 =>
      if (!r11)=true then
       if e_0.fKey=([]:Bytes) then
        if e_0.fKind=1 then
         some false
        else
         (iy e_0.fValue).bind λ r16 =>
         some (!r16)
       else
        some true
      else
       if e_0.fKind=1 then
        some false
       else
        (iy e_0.fValue).bind λ r19 =>
        some (!r19)
     else
      some true
    else
     (jf e_0.fKind).bind λ r21 =>
     if (!r21)=true then
      if e_0.fKey=([]:Bytes) then
       if e_0.fKind=1 then
        some false
       else
        (iy e_0.fValue).bind λ r26 =>
        some (!r26)
      else
       some true
     else
      if e_0.fKind=1 then
       some false
      else
       (iy e_0.fValue).bind λ r29 =>
       some (!r29)
   : Option Bool).bind λ t31 =>
  if t31=true then
   some false
  else
   (ns e_0.fKind).bind λ r33 =>
   (
     if (e_0.fKids.length:Int) < r33.1 then
      some true
     else
      if r33.2.1 < (e_0.fKids.length:Int) then
       if r33.2.1 < 4096 then
        some true
       else
        if r33.2.2=true then
         ck ((2:Int)≠0) <|
         some (decide ((e_0.fKids.length:Int).tmod 2=1))
        else
         some false
      else
       if r33.2.2=true then
        ck ((2:Int)≠0) <|
        some (decide ((e_0.fKids.length:Int).tmod 2=1))
       else
        some false
    : Option Bool).bind λ t42 =>
   if t42=true then
    some false
   else
    if e_0.fKind=1 then
     (
       if 0≤e_0.fValue.fKind then
        if e_0.fValue.fKind≤3 then
         if e_0.fValue.fKind=2 then
          some (decide (0≤e_0.fValue.fNum))
         else
          some true
        else
         some false
       else
        some false
      : Option Bool).bind λ t48 =>
     some t48
    else
     some true
theorem sB (e_0:ac)(r:Bool)(h0:gf e_0=some r):aK Tryz.prog 110 [.agg (ac.cs e_0)] (·=.p (eB r)):=by
 unfold gf at h0
 refine cB good Tryz.func110 Z Z Z λ w0=>mP (λ v:Bool=>.p (eB v)) ?_
 refine nx 7 Z (bd h0 λ o53 h1 h0=>?_)
 refine kN o53 (λ v54=>⟨[(1,.ptr 1 0),(19,.p (eB v54))],[(1,(ac.cs e_0).map .p)]⟩) ?_ ?_
 ·refine nx 1 Z (fB [19] h0 Z (λ c6 h0=>?_) λ c6 h0=>?_)
  ·exact nx 6 Z (mQ (oi h0) Z (sr))
  refine nx 4 Z (bd h0 λ o55 h1 h0=>?_)
  refine kN o55 (λ v56=>⟨[(1,.ptr 1 0),(50,.p (eB v56))],[(1,(ac.cs e_0).map .p)]⟩) ?_ ?_
  ·refine nx 1 Z (fB [50] h0 Z (λ c32 h0=>?_) λ c32 h0=>?_)
   ·exact nx 6 Z (mQ (oi h0) Z (sr))
   refine nx 6 Z (bd h0 λ r33 e34 h0=>?_)
   refine oK (uU e_0.fKind _ e34) Z ⟨sr,trivial⟩ Tryz.call148 Z (nx 10 Z ?_)
   refine bd h0 λ o57 h1 h0=>kN o57 (λ v58=>⟨[(1,.ptr 1 0),(83,.p (eB v58))],[(1,(ac.cs e_0).map .p)]⟩) ?_ ?_
   ·refine nx 1 Z (fB [83] h0 Z (λ c43 h0=>?_) λ c43 h0=>?_)
    ·exact nx 6 Z (mQ (oi h0) Z (sr))
    refine nx 9 Z (fN [86] h0 Z (λ c44 h0=>?_) λ c44 h0=>?_)
    ·refine nx 10 Z (bd h0 λ o59 h1 h0=>?_)
     refine kN o59 (λ v60=>⟨[(2,.p (eB v60))],[]⟩) ?_ ?_
     ·exact nx 2 Z (mQ (oi h0) Z (sr))
     refine nx 5 Z (fD [91,92] h1 Z (λ c45 h1=>?_) λ c45 h1=>?_)
     ·refine nx 5 Z (fD [95,96,97] h1 Z (λ c46 h1=>?_) λ c46 h1=>?_)
      ·refine nx 4 Z (fN [100,101] h1 Z (λ c47 h1=>?_) λ c47 h1=>?_)
       ·exact nx 7 Z (eX _ (oi h1).symm (gE Z Z))
       exact nx 7 Z (eX _ (oi h1).symm (gE Z Z))
      exact nx 11 Z (eX _ (oi h1).symm (gE Z Z))
     exact nx 16 Z (eX _ (oi h1).symm (gE Z Z))
    exact nx 6 Z (mQ (oi h0) Z (sr))
   refine nx 3 Z (oLl (f:=ag) Z Z ?_)
   refine nx 3 Z (fD [62,63] h1 Z (λ c35 h1=>?_) λ c35 h1=>?_)
   ·exact nx 21 Z (eX _ (oi h1).symm (gE Z Z))
   refine nx 2 Z (oLl (f:=ag) Z Z ?_)
   refine nx 3 Z (fD [68,69] h1 Z (λ c36 h1=>?_) λ c36 h1=>?_)
   ·refine nx 5 Z (fD [71,72,73,74] h1 Z (λ c37 h1=>?_) λ c37 h1=>?_)
    ·exact nx 10 Z (eX _ (oi h1).symm (gE Z Z))
    refine nx 2 Z (fB [5,57,75,76] h1 Z (λ c38 h1=>?_) λ c38 h1=>?_)
    ·refine nx 2 Z (oLl (f:=ag) Z Z ?_)
     refine cc' h1 λ hk39 h1=>mO Z (Ak Z Z Z Z Z Z hk39 ?_)
     exact nx 4 Z (eX _ (oi h1).symm (gE Z Z))
    exact nx 8 Z (eX _ (oi h1).symm (gE Z Z))
   refine nx 7 Z (fB [5,57,75,76] h1 Z (λ c40 h1=>?_) λ c40 h1=>?_)
   ·refine nx 2 Z (oLl (f:=ag) Z Z ?_)
    refine cc' h1 λ hk41 h1=>mO Z (Ak Z Z Z Z Z Z hk41 ?_)
    exact nx 4 Z (eX _ (oi h1).symm (gE Z Z))
   exact nx 8 Z (eX _ (oi h1).symm (gE Z Z))
  refine nx 3 Z (bd h1 λ r7 e8 h1=>?_)
  refine oK (oa e_0.fKind _ e8) Z ⟨sr,trivial⟩ Tryz.call112 Z (nx 2 Z ?_)
  refine fB [23,24] h1 Z (λ c9 h1=>?_) λ c9 h1=>?_
  ·refine nx 2 Z (oS Z Z ?_)
   refine nx 2 Z (fN [27,28,29] h1 Z (λ c10 h1=>?_) λ c10 h1=>?_)
   ·refine nx 2 Z (bd h1 λ r11 e12 h1=>?_)
    refine oK (lW e_0.fKind _ e12) Z ⟨sr,trivial⟩ Tryz.call146 Z (nx 2 Z ?_)
    refine fB [33,34] h1 Z (λ c13 h1=>?_) λ c13 h1=>?_
    ·refine nx 2 Z (oS Z Z ?_)
     refine nx 3 Z (fN [37,38,39,40] h1 Z (λ c14 h1=>?_) λ c14 h1=>?_)
     ·refine nx 4 Z (fN [43,44] h1 Z (λ c15 h1=>?_) λ c15 h1=>?_)
      ·exact nx 7 Z (eX _ (oi h1).symm (gE Z Z))
      refine nx 2 Z (bd h1 λ r16 e17 h1=>?_)
      refine oK (jS e_0.fValue _ e17) Z ⟨sr,trivial⟩ Tryz.call147 Z (nx 4 Z ?_)
      exact eX _ (oi h1).symm (gE Z Z)
     exact nx 11 Z (eX _ (oi h1).symm (gE Z Z))
    refine nx 10 Z (fN [43,44] h1 Z (λ c18 h1=>?_) λ c18 h1=>?_)
    ·exact nx 7 Z (eX _ (oi h1).symm (gE Z Z))
    refine nx 2 Z (bd h1 λ r19 e20 h1=>?_)
    refine oK (jS e_0.fValue _ e20) Z ⟨sr,trivial⟩ Tryz.call147 Z (nx 4 Z ?_)
    exact eX _ (oi h1).symm (gE Z Z)
   exact nx 22 Z (eX _ (oi h1).symm (gE Z Z))
  refine nx 7 Z (bd h1 λ r21 e22 h1=>?_)
  refine oK (lW e_0.fKind _ e22) Z ⟨sr,trivial⟩ Tryz.call146 Z (nx 2 Z ?_)
  refine fB [33,34] h1 Z (λ c23 h1=>?_) λ c23 h1=>?_
  ·refine nx 2 Z (oS Z Z ?_)
   refine nx 3 Z (fN [37,38,39,40] h1 Z (λ c24 h1=>?_) λ c24 h1=>?_)
   ·refine nx 4 Z (fN [43,44] h1 Z (λ c25 h1=>?_) λ c25 h1=>?_)
    ·exact nx 7 Z (eX _ (oi h1).symm (gE Z Z))
    refine nx 2 Z (bd h1 λ r26 e27 h1=>?_)
    refine oK (jS e_0.fValue _ e27) Z ⟨sr,trivial⟩ Tryz.call147 Z (nx 4 Z ?_)
    exact eX _ (oi h1).symm (gE Z Z)
   exact nx 11 Z (eX _ (oi h1).symm (gE Z Z))
  refine nx 10 Z (fN [43,44] h1 Z (λ c28 h1=>?_) λ c28 h1=>?_)
  ·exact nx 7 Z (eX _ (oi h1).symm (gE Z Z))
  refine nx 2 Z (bd h1 λ r29 e30 h1=>?_)
  refine oK (jS e_0.fValue _ e30) Z ⟨sr,trivial⟩ Tryz.call147 Z (nx 4 Z ?_)
  exact eX _ (oi h1).symm (gE Z Z)
 refine nx 5 Z (fD [9,10] h1 Z (λ c1 h1=>?_) λ c1 h1=>?_)
 ·exact nx 10 Z (eX _ (oi h1).symm (gE Z Z))
 refine nx 5 Z (fD [13,14,15] h1 Z (λ c2 h1=>?_) λ c2 h1=>?_)
 ·exact nx 5 Z (eX _ (oi h1).symm (gE Z Z))
 refine nx 1 Z (bd h1 λ r3 e4 h1=>?_)
 refine oK (pP e_0 _ e4) Z ⟨sr,trivial⟩ Tryz.call145 Z (nx 3 Z ?_)
 exact eX _ (oi h1).symm (gE Z Z)
def cg (s_0:Bytes):Nat→Int→Option (Unit⊕Bool)
 | 0,_=>none
 | m+1,t19 =>
 if t19 < (s_0.length:Int) then
  ck ((0:Int)≤t19∧t19 < (s_0.length:Int)) <|
  (
    ck ((0:Int)≤t19∧t19 < (s_0.length:Int)) <|
    if byt s_0 t19=95 then
     some false
    else
     if iOr .u8 (byt s_0 t19) 32 < 97 then
      if t19=0 then
       some true
      else
       ck ((0:Int)≤t19∧t19 < (s_0.length:Int)) <|
       if byt s_0 t19 < 48 then
        some true
       else
        ck ((0:Int)≤t19∧t19 < (s_0.length:Int)) <|
        some (decide (57 < byt s_0 t19))
     else
      if 122 < iOr .u8 (byt s_0 t19) 32 then
       if t19=0 then
        some true
       else
        ck ((0:Int)≤t19∧t19 < (s_0.length:Int)) <|
        if byt s_0 t19 < 48 then
         some true
        else
         ck ((0:Int)≤t19∧t19 < (s_0.length:Int)) <|
         some (decide (57 < byt s_0 t19))
      else
       some false
   : Option Bool).bind λ t34 =>
  if t34=true then
   some (.inr false)
  else
   ck (inR (t19+1)) <|
   cg s_0 m (t19+1)
 else
  some (.inl ())
def dK (n:Nat)(s_0:Bytes):Option Bool :=
 jn (cg s_0 n 0) λ q40 =>
 (
   if s_0=([]:Bytes) then
    some false
   else
    some (decide ((s_0.length:Int)≤64))
  : Option Bool).bind λ t39 =>
 some t39
theorem kl (n:Nat)(s_0:Bytes)(r:Bool)(h0:dK n s_0=some r):aK Tryz.prog 113 [eS s_0] (·=.p (eB r)):=by
 unfold dK at h0
 refine cB good Tryz.func113 Z Z Z λ w0=>mP (λ v:Bool=>.p (eB v)) ?_
 refine nx 8 Z (oLs Z ?_)
 refine nx 3 Z ?_
 obtain ⟨o43,h1,hL0,hR0⟩:=dk h0
 refine kEx 0 (λ v44:Unit=>o43=.inl v44) (λ v44=>⟨[(0,.p (eS s_0))],[]⟩) (λ v44 hv=>?_) ?_
 ·have h0:=hL0 _ hv
  refine nx 2 Z (bd h0 λ o45 h1 h0=>?_)
  refine kN o45 (λ v46=>⟨[(2,.p (eB v46))],[]⟩) ?_ ?_
  ·exact nx 2 Z (mQ (oi h0) Z (sr))
  refine nx 2 Z (oS Z Z ?_)
  refine nx 1 Z (fN [44,45] h1 Z (λ c38 h1=>?_) λ c38 h1=>?_)
  ·exact nx 6 Z (eX _ (oi h1).symm (gE Z Z))
  refine nx 1 Z (oLs Z ?_)
  exact nx 4 Z (eX _ (oi h1).symm (gE Z Z))
 refine lG (λ (q47:Int)=>⟨[(0,.p (eS s_0)),(6,.p (eI (s_0.length:Int))),(7,.p (eI q47))],[]⟩) (λ m (q47:Int)=>cg s_0 m q47) Y 0 h1 (gE Z Z) ?_
 rintro m t19 h1
 replace h1:cg s_0 (m+1) t19=some o43:=h1
 rw [cg] at h1
 refine nx 5 Z (fD [8] h1 Z (λ c20 h1=>?_) λ c20 h1=>?_)
 ·refine nx 13 Z (oI h1 Z λ hk21 h1=>?_)
  refine nx 4 Z (bd h1 λ o48 h2 h1=>?_)
  refine kN o48 (λ v49=>⟨[(0,.p (eS s_0)),(6,.p (eI (s_0.length:Int))),(7,.p (eI t19)),(41,.p (eB v49))],[]⟩) ?_ ?_
  ·refine nx 1 Z (fB [41] h1 Z (λ c35 h1=>?_) λ c35 h1=>?_)
   ·exact nx 6 Z (mQ (hR0 _ (oi h1).symm) Z (sr))
   refine nx 3 Z (oA h1 Z Z λ hk36 h1=>?_)
   exact nx 2 Z (eX (t19+1) h1 (gE Z Z))
  refine nx 3 Z (oI h2 Z λ hk22 h2=>?_)
  refine nx 2 Z (fN [17,18] h2 Z (λ c23 h2=>?_) λ c23 h2=>?_)
  ·exact nx 24 Z (eX _ (oi h2).symm (gE Z Z))
  refine nx 3 Z (fD [20,21] h2 Z (λ c24 h2=>?_) λ c24 h2=>?_)
  ·refine nx 8 Z (fD [28,29] h2 Z (λ c25 h2=>?_) λ c25 h2=>?_)
   ·exact nx 13 Z (eX _ (oi h2).symm (gE Z Z))
   refine nx 2 Z (oI h2 Z λ hk26 h2=>?_)
   refine nx 3 Z (fD [33,34,35] h2 Z (λ c27 h2=>?_) λ c27 h2=>?_)
   ·exact nx 7 Z (eX _ (oi h2).symm (gE Z Z))
   refine nx 2 Z (oI h2 Z λ hk28 h2=>?_)
   exact nx 4 Z (eX _ (oi h2).symm (gE Z Z))
  refine nx 5 Z (fD [23,24,25,26] h2 Z (λ c29 h2=>?_) λ c29 h2=>?_)
  ·refine nx 3 Z (fD [28,29] h2 Z (λ c30 h2=>?_) λ c30 h2=>?_)
   ·exact nx 13 Z (eX _ (oi h2).symm (gE Z Z))
   refine nx 2 Z (oI h2 Z λ hk31 h2=>?_)
   refine nx 3 Z (fD [33,34,35] h2 Z (λ c32 h2=>?_) λ c32 h2=>?_)
   ·exact nx 7 Z (eX _ (oi h2).symm (gE Z Z))
   refine nx 2 Z (oI h2 Z λ hk33 h2=>?_)
   exact nx 4 Z (eX _ (oi h2).symm (gE Z Z))
  exact nx 16 Z (eX _ (oi h2).symm (gE Z Z))
 exact nx 2 Z (eXi _ (oi h1).symm (gE Z Z))
def eW (s_0:Bytes):Option Bool :=
 (
   if s_0=([110,117,108,108]:Bytes) then
    some true
   else
    if s_0=([116,114,117,101]:Bytes) then
     some true
    else
     if s_0=([102,97,108,115,101]:Bytes) then
      some true
     else
      if s_0=([102,111,114]:Bytes) then
       some true
      else
       if s_0=([105,110]:Bytes) then
        some true
       else
        some (decide (s_0=([105,102]:Bytes)))
  : Option Bool).bind λ t6 =>
 if t6=true then
  some true
 else
  some false
theorem gU (s_0:Bytes)(r:Bool)(h0:eW s_0=some r):aK Tryz.prog 114 [eS s_0] (·=.p (eB r)):=by
 unfold eW at h0
 refine cB good Tryz.func114 Z Z Z λ w0=>mP (λ v:Bool=>.p (eB v)) ?_
 refine nx 11 Z (bd h0 λ o9 h1 h0=>?_)
 refine kN o9 (λ v10=>⟨[(4,.p (eB v10))],[]⟩) ?_ ?_
 ·refine nx 1 Z (fB [4] h0 Z (λ c7 h0=>?_) λ c7 h0=>?_)
  ·exact nx 6 Z (mQ (oi h0) Z (sr))
  exact nx 7 Z (mQ (oi h0) Z (sr))
 refine nx 2 Z (oS Z Z ?_)
 refine nx 2 Z (fD [4,5] h1 Z (λ c1 h1=>?_) λ c1 h1=>?_)
 ·exact nx 2 Z (eX _ (oi h1).symm (gE Z Z))
 refine nx 3 Z (oS Z Z ?_)
 refine nx 2 Z (fD [4,6] h1 Z (λ c2 h1=>?_) λ c2 h1=>?_)
 ·exact nx 2 Z (eX _ (oi h1).symm (gE Z Z))
 refine nx 3 Z (oS Z Z ?_)
 refine nx 2 Z (fD [4,7] h1 Z (λ c3 h1=>?_) λ c3 h1=>?_)
 ·exact nx 2 Z (eX _ (oi h1).symm (gE Z Z))
 refine nx 3 Z (oS Z Z ?_)
 refine nx 2 Z (fD [4,8] h1 Z (λ c4 h1=>?_) λ c4 h1=>?_)
 ·exact nx 2 Z (eX _ (oi h1).symm (gE Z Z))
 refine nx 3 Z (oS Z Z ?_)
 refine nx 2 Z (fD [4,9] h1 Z (λ c5 h1=>?_) λ c5 h1=>?_)
 ·exact nx 2 Z (eX _ (oi h1).symm (gE Z Z))
 refine nx 2 Z (oS Z Z ?_)
 exact nx 2 Z (eX _ (oi h1).symm (gE Z Z))
def iv (n:Nat)(e_0:ac):Option Int :=
 (gf e_0).bind λ r1 =>
 if (!r1)=true then
  some 1
 else
  if e_0.fKind=1 then
   (gh n e_0.fValue).bind λ r5 =>
   some r5
  else
   (
     (io e_0.fKind).bind λ r7 =>
     if r7=true then
      (dK n e_0.fName).bind λ r10 =>
      if (!r10)=true then
       some true
      else
       if e_0.fKind=4 then
        some false
       else
        (eW e_0.fName).bind λ r14 =>
        some r14
     else
      some false
    : Option Bool).bind λ t16 =>
   if t16=true then
    some 7
   else
    (
      if e_0.fKey=([]:Bytes) then
       some false
      else
       (dK n e_0.fKey).bind λ r19 =>
       if (!r19)=true then
        some true
       else
        (eW e_0.fKey).bind λ r22 =>
        some r22
     : Option Bool).bind λ t24 =>
    if t24=true then
     some 7
    else
     some 0
theorem uo (n:Nat)(e_0:ac)(r:Int)(h0:iv n e_0=some r):aK Tryz.prog 68 [.agg (ac.cs e_0)] (·=.p (eI r)):=by
 unfold iv at h0
 refine cB good Tryz.func68 Z Z Z λ w0=>mP (λ v:Int=>.p (eI v)) ?_
 refine nx 9 Z (bd h0 λ r1 e2 h0=>?_)
 refine oK (sB e_0 _ e2) Z ⟨sr,trivial⟩ Tryz.call110 Z (nx 2 Z ?_)
 refine fB [5] h0 Z (λ c3 h0=>?_) λ c3 h0=>?_
 ·exact nx 6 Z (mQ (oi h0) Z (sr))
 refine nx 9 Z (fD [8] h0 Z (λ c4 h0=>?_) λ c4 h0=>?_)
 ·refine nx 5 Z (bd h0 λ r5 e6 h0=>?_)
  refine oK (rP _ e_0.fValue _ e6) Z ⟨sr,trivial⟩ Tryz.call111 Z (nx 3 Z ?_)
  exact mQ (oi h0) Z (sr)
 refine nx 4 Z (bd h0 λ o28 h1 h0=>?_)
 refine kN o28 (λ v29=>⟨[(1,.ptr 1 0),(30,.p (eB v29))],[(1,(ac.cs e_0).map .p)]⟩) ?_ ?_
 ·refine nx 1 Z (fB [30] h0 Z (λ c17 h0=>?_) λ c17 h0=>?_)
  ·exact nx 6 Z (mQ (oi h0) Z (sr))
  refine nx 4 Z (bd h0 λ o30 h1 h0=>?_)
  refine kN o30 (λ v31=>⟨[(44,.p (eB v31))],[]⟩) ?_ ?_
  ·refine nx 1 Z (fB [44] h0 Z (λ c25 h0=>?_) λ c25 h0=>?_)
   ·exact nx 6 Z (mQ (oi h0) Z (sr))
   exact nx 7 Z (mQ (oi h0) Z (sr))
  refine nx 3 Z (oS Z Z ?_)
  refine nx 1 Z (fN [33,34] h1 Z (λ c18 h1=>?_) λ c18 h1=>?_)
  ·exact nx 11 Z (eX _ (oi h1).symm (gE Z Z))
  refine nx 2 Z (bd h1 λ r19 e20 h1=>?_)
  refine oK (kl _ e_0.fKey _ e20) Z ⟨sr,trivial⟩ Tryz.call113 Z (nx 2 Z ?_)
  refine fB [38,39] h1 Z (λ c21 h1=>?_) λ c21 h1=>?_
  ·exact nx 6 Z (eX _ (oi h1).symm (gE Z Z))
  refine nx 2 Z (bd h1 λ r22 e23 h1=>?_)
  refine oK (gU e_0.fKey _ e23) Z ⟨sr,trivial⟩ Tryz.call114 Z (nx 3 Z ?_)
  exact eX _ (oi h1).symm (gE Z Z)
 refine nx 3 Z (bd h1 λ r7 e8 h1=>?_)
 refine oK (oa e_0.fKind _ e8) Z ⟨sr,trivial⟩ Tryz.call112 Z (nx 1 Z ?_)
 refine fB [14,15] h1 Z (λ c9 h1=>?_) λ c9 h1=>?_
 ·refine nx 2 Z (bd h1 λ r10 e11 h1=>?_)
  refine oK (kl _ e_0.fName _ e11) Z ⟨sr,trivial⟩ Tryz.call113 Z (nx 2 Z ?_)
  refine fB [19,20] h1 Z (λ c12 h1=>?_) λ c12 h1=>?_
  ·exact nx 11 Z (eX _ (oi h1).symm (gE Z Z))
  refine nx 4 Z (fN [23,24] h1 Z (λ c13 h1=>?_) λ c13 h1=>?_)
  ·exact nx 7 Z (eX _ (oi h1).symm (gE Z Z))
  refine nx 2 Z (bd h1 λ r14 e15 h1=>?_)
  refine oK (gU e_0.fName _ e15) Z ⟨sr,trivial⟩ Tryz.call114 Z (nx 4 Z ?_)
  exact eX _ (oi h1).symm (gE Z Z)
 exact nx 16 Z (eX _ (oi h1).symm (gE Z Z))
def bo (r_expr_checker_visit:bJ→ac→Int→Option (Int×bJ))(e_1:ac)(level_2:Int):Nat→Int→Int→Option (Int⊕(Int×bJ))
 | 0,_,_=>none
 | m+1,t16,f17 =>
 if t16 < (e_1.fKids.length:Int) then
  ck ((0:Int)≤t16∧t16 < (e_1.fKids.length:Int)) <|
  ck (inR (level_2+1)) <|
  (r_expr_checker_visit (bJ.mk f17) (lat e_1.fKids t16) (level_2+1)).bind λ r21 =>
  if r21.1=0 then
   ck (inR (t16+1)) <|
   bo r_expr_checker_visit e_1 level_2 m (t16+1) r21.2.fcount
  else
   some (.inr (r21.1,r21.2))
 else
  some (.inl f17)
def bg:Nat→bJ→ac→Int→Option (Int×bJ)
 | 0,_,_,_=>none
 | n+1,c_0,e_1,level_2 =>
 if 32 < level_2 then
  some (4,c_0)
 else
  if 4096≤c_0.fcount then
   some (14,c_0)
  else
   ck (inR (c_0.fcount+1)) <|
   (iv n e_1).bind λ r4 =>
   if r4=0 then
    jn (bo (bg n) e_1 level_2 n 0 (c_0.fcount+1)) λ f27 =>
    some (0,(bJ.mk f27))
   else
    some (r4,(bJ.mk (c_0.fcount+1)))
theorem mj (n:Nat):∀ (c_0:bJ) (e_1:ac) (level_2:Int) (r:Int×bJ),bg n c_0 e_1 level_2=some r→aW Tryz.prog 31 [.ptr 1000000 0,.p (.agg (ac.cs e_1)),.p (eI level_2)] [(1000000,[.p (eI c_0.fcount)])] (λ x y=>x=.p (eI r.1)∧y=[(1000000,[.p (eI r.2.fcount)])]):=by
 induction n with
 | zero=>intro c_0 e_1 level_2 r h0; cases h0
 | succ n ih =>
 have ih_expr_checker_visit_ok:=ih
 intro c_0 e_1 level_2 r h0
 rw [bg] at h0
 refine cw good [] [1000000] Tryz.func31 Z Z Z Z Z λ w0 F=>mPo (λ v:Int×bJ=>.p (eI v.1)) (λ v=>[(1000000,[.p (eI v.2.fcount)])]) ?_
 refine nx 11 Z (fD [12] h0 Z (λ c1 h0=>?_) λ c1 h0=>?_)
 ·exact nx 6 Z (gz h0 Z)
 refine nx 11 Z (fD [17] h0 Z (λ c2 h0=>?_) λ c2 h0=>?_)
 ·exact nx 6 Z (gz h0 Z)
 refine nx 8 Z (oA h0 Z Z λ hk3 h0=>?_)
 refine nx 8 Z (bd h0 λ r4 e5 h0=>?_)
 refine oK (uo _ e_1 _ e5) Z ⟨sr,trivial⟩ Tryz.call68 Z (nx 7 Z ?_)
 refine fN [28] h0 Z (λ c6 h0=>?_) λ c6 h0=>?_
 ·refine nx 7 Z (oLl (f:=ag) Z Z ?_)
  refine nx 3 Z ?_
  obtain ⟨o29,h1,hL0,hR0⟩:=dk h0
  refine kEx 0 (λ v30:Int=>o29=.inl v30) (λ v30=>⟨[],[(1000000,[.p (eI v30)])]⟩) (λ v30 hv=>?_) ?_
  ·have h0:=hL0 _ hv
   exact nx 6 Z (gz h0 Z)
  refine lG (λ (q31:Int×Int)=>⟨[(0,.ptr 1000000 0),(2,.p (eI level_2)),(31,.p (eL ag e_1.fKids)),(32,.p (eI (e_1.fKids.length:Int))),(33,.p (eI q31.1))],[(1000000,[.p (eI q31.2)])]⟩) (λ m (q31:Int×Int)=>bo (bg n) e_1 level_2 m q31.1 q31.2) Y (0,c_0.fcount+1) h1 (gE Z Z) ?_
  rintro m ⟨t16,f17⟩ h1
  replace h1:bo (bg n) e_1 level_2 (m+1) t16 f17=some o29:=h1
  rw [bo] at h1
  refine nx 5 Z (fD [34] h1 Z (λ c18 h1=>?_) λ c18 h1=>?_)
  ·refine nx 6 Z (oE h1 ac.cells_eq Z Z Y λ hk19 h1=>?_)
   refine nx 9 Z (oA h1 Z Z λ hk20 h1=>?_)
   refine bd h1 λ r21 e22 h1=>mO Z (cVq [1000000] [] 102000 102000 (ih_expr_checker_visit_ok (bJ.mk f17) (lat e_1.fKids t16) (level_2+1) _ e22) Tryz.call31 Z ?_)
   refine nx 7 Z (fN [43] h1 Z (λ c23 h1=>?_) λ c23 h1=>?_)
   ·refine nx 3 Z (oA h1 Z Z λ hk24 h1=>?_)
    exact nx 2 Z (eX (t16+1,r21.2.fcount) h1 (gE Z Z))
   exact nx 7 Z (mQo (hR0 _ (oi h1).symm) (ax _) Z Z Z Z (sr) ⟨⟨_,Z,⟨sr,trivial⟩⟩,trivial⟩)
  exact nx 2 Z (eXi _ (oi h1).symm (gE Z Z))
 exact nx 7 Z (gz h0 Z)
def gk (n:Nat)(e_0:ac):Option Int :=
 (bg n (bJ.mk 0) e_0 1).bind λ r1 =>
 some r1.1
theorem jl (n:Nat)(e_0:ac)(r:Int)(h0:gk n e_0=some r):aK Tryz.prog 12 [.agg (ac.cs e_0)] (·=.p (eI r)):=by
 unfold gk at h0
 refine cB good Tryz.func12 Z Z Z λ w0=>mP (λ v:Int=>.p (eI v)) ?_
 refine nx 15 Z (bd h0 λ r1 e2 h0=>?_)
 refine mO Z (cVq [5] [] 101000 101000 (mj _ (bJ.mk 0) e_0 1 _ e2) Tryz.call31 Z ?_)
 exact nx 3 Z (mQ (oi h0) Z (sr))
def bU (p_0:ad):Nat→Int→Option Int
 | 0,_=>none
 | m+1,f7 =>
 (
   if 0 < p_0.fnest then
    ck ((0:Int)≤f7∧f7 < (p_0.fl.length:Int)) <|
    some (decide ((lat p_0.fl f7).fKind=5))
   else
    some false
  : Option Bool).bind λ t10 =>
 if t10=true then
  ck (inR (f7+1)) <|
  bU p_0 m (f7+1)
 else
  some f7
def ba (n:Nat)(p_0:ad):Option (ae×ad) :=
 (bU p_0 n p_0.fat).bind λ f14 =>
 ck ((0:Int)≤f14∧f14 < (p_0.fl.length:Int)) <|
 ck (inR (((lat p_0.fl f14).fAt)+p_0.fbase)) <|
 some ((ae.mk ((lat p_0.fl f14).fKind) ((lat p_0.fl f14).fText) (((lat p_0.fl f14).fAt)+p_0.fbase)),(ad.mk p_0.fl f14 p_0.fnest p_0.fbase p_0.fbad))
theorem bE (n:Nat)(p_0:ad)(r:ae×ad)(h0:ba n p_0=some r):aW Tryz.prog 70 [.ptr 1000000 0] [(1000000,((ad.cs p_0).map .p))] (λ x y=>x=.p (.agg (ae.cs r.1))∧y=[(1000000,((ad.cs r.2).map .p))]):=by
 unfold ba at h0
 refine cw good [] [1000000] Tryz.func70 Z Z Z Z Z λ w0 F=>mPo (λ v:ae×ad=>.p (.agg (ae.cs v.1))) (λ v=>[(1000000,((ad.cs v.2).map .p))]) ?_
 refine nx 6 Z (bd h0 λ o19 h1 h0=>?_)
 refine kE 0 o19 (λ v20=>⟨[(0,.ptr 1000000 0),(2,.ptr 2 0)],[(2,iP),(1000000,[.p (eL bw p_0.fl),.p (eI v20),.p (eI p_0.fnest),.p (eI p_0.fbase),.p (eI p_0.fbad.fKind),.p (eI p_0.fbad.fAt),.p (eS p_0.fbad.fName)])]⟩) ?_ ?_
 ·refine nx 2 Z (cc' h0 λ hk15 h0=>?_)
  refine mG (gE (t:=⟨[(0,.ptr 1000000 0),(2,.ptr 2 0)],[(2,iP),(1000000,[.p (eL bw p_0.fl),.p (eI o19),.p (eI p_0.fnest),.p (eI p_0.fbase),.p (eI p_0.fbad.fKind),.p (eI p_0.fbad.fAt),.p (eS p_0.fbad.fName)])]⟩) Z Z) (mSq ⟨2,[10,11],(by3 (.some λ i=>Nat.beq i 3) .none .none),(λ _=>[(0,.ptr 1000000 0),(2,.ptr 2 0)]),(ob3 ([(2,iP),(1000000,[.p (eL bw p_0.fl),.p (eI o19),.p (eI p_0.fnest),.p (eI p_0.fbase),.p (eI p_0.fbad.fKind),.p (eI p_0.fbad.fAt),.p (eS p_0.fbad.fName)])]) (3,iP) (3,[.p (eI ((lat p_0.fl o19).fKind)),.p (eS ((lat p_0.fl o19).fText)),.p (eI ((lat p_0.fl o19).fAt))]))⟩ Z ?_)
  refine dPc (.ptr 1000000 0) Z (dPc (.ptr 1000000 0) Z ?_)
  refine dPc (.ptr 1000000 0) Z (dPc (.p (eL bw p_0.fl)) Z ?_)
  refine dPc (.ptr 1000000 0) Z (dPc (.ptr 1000000 0) Z ?_)
  refine dPc (.ptr 1000000 1) Z (dPc (.p (eI o19)) Z ?_)
  refine aN (λ _=>.rptr (ae.cs (lat p_0.fl o19))) Z Z Z (jz Z Z Y) (lt2 Z Z) (az Z (ay [(33,_),(37,_)] ⟨.inr ⟨3,_,Z,Z,Z⟩,.inr ⟨7,_,Z,Z,Z⟩,trivial⟩ (λ sl hsl K hK=>am Z (kB (f:=bw) (l:=p_0.fl) ae.cs Z Z Z Z Z Z (hsl _ _ Z) Z (hsl _ _ Z) hk15 ae.cells_eq Y hK)) (ay [(33,_),(37,_)] ⟨.inr ⟨3,_,Z,Z,Z⟩,.inr ⟨7,_,Z,Z,Z⟩,trivial⟩ (λ sl hsl K hK=>am Z (kB (f:=bw) (l:=p_0.fl) ae.cs Z Z Z Z Z Z (hsl _ _ Z) Z (hsl _ _ Z) hk15 ae.cells_eq Y hK)) aO))) (dPc (.p (.agg (ae.cs (lat p_0.fl o19)))) Z ?_)
  refine eC (λ _=>.ptr 3 0) [] Z trivial Z Z (gx Z Y) (lt2 (λ h=>absurd h (by decide)) Y) (λ sl hsl K hK=>am Z (gO Z Z Z Z Z hK)) (dS Z ?_)
  refine dJ (nx 2 Z ?_)
  refine cc' h0 λ hk16 h0=>mG (gE (t:=⟨[(0,.ptr 1000000 0),(2,.ptr 2 0),(3,.ptr 3 0)],[(2,iP),(3,(ae.cs (lat p_0.fl o19)).map .p),(1000000,[.p (eL bw p_0.fl),.p (eI o19),.p (eI p_0.fnest),.p (eI p_0.fbase),.p (eI p_0.fbad.fKind),.p (eI p_0.fbad.fAt),.p (eS p_0.fbad.fName)])]⟩) Z Z) (mSq ⟨1,[8],(λ _=>.none),(λ _=>[(0,.ptr 1000000 0),(2,.ptr 2 0),(3,.ptr 3 0)]),(ob2 ([(2,iP),(3,[.p (eI ((lat p_0.fl o19).fKind)),.p (eS ((lat p_0.fl o19).fText)),.p (eI ((lat p_0.fl o19).fAt))]),(1000000,[.p (eL bw p_0.fl),.p (eI o19),.p (eI p_0.fnest),.p (eI p_0.fbase),.p (eI p_0.fbad.fKind),.p (eI p_0.fbad.fAt),.p (eS p_0.fbad.fName)])]) (3,[.p (eI ((lat p_0.fl o19).fKind)),.p (eS ((lat p_0.fl o19).fText)),.p (eI (((lat p_0.fl o19).fAt)+p_0.fbase))]))⟩ Z ?_)
  refine dPc (.ptr 3 2) Z (dPc (.p (eI ((lat p_0.fl o19).fAt))) Z ?_)
  refine dPc (.ptr 1000000 0) Z (dPc (.ptr 1000000 0) Z ?_)
  refine dPc (.ptr 1000000 3) Z (dPc (.p (eI p_0.fbase)) Z ?_)
  refine aN (λ _=>.p (eI (((lat p_0.fl o19).fAt)+p_0.fbase))) Z Z Z (gx Z Y) (lt1 Z) (az Z (ay [(41,_),(45,_)] ⟨.inr ⟨1,_,Z,Z,Z⟩,.inr ⟨5,_,Z,Z,Z⟩,trivial⟩ (λ sl hsl K hK=>am Z (eN Z Z Z (hsl _ _ Z) (hsl _ _ Z) Z hk16 hK)) aO)) (dPc (.ptr 3 2) Z ?_)
  refine dS Z (dJ ?_)
  exact nx 7 Z (gz h0 Z)
 refine lG (λ (q21:Int)=>⟨[(0,.ptr 1000000 0),(2,.ptr 2 0)],[(2,iP),(1000000,[.p (eL bw p_0.fl),.p (eI q21),.p (eI p_0.fnest),.p (eI p_0.fbase),.p (eI p_0.fbad.fKind),.p (eI p_0.fbad.fAt),.p (eS p_0.fbad.fName)])]⟩) (λ m (q21:Int)=>bU p_0 m q21) Y p_0.fat h1 (gE Z Z) ?_
 rintro m f7 h1
 replace h1:bU p_0 (m+1) f7=some o19:=h1
 rw [bU] at h1
 refine nx 2 Z (bd h1 λ o22 h2 h1=>?_)
 refine kN o22 (λ v23=>⟨[(0,.ptr 1000000 0),(2,.ptr 2 0),(22,.p (eB v23))],[(2,iP),(1000000,[.p (eL bw p_0.fl),.p (eI f7),.p (eI p_0.fnest),.p (eI p_0.fbase),.p (eI p_0.fbad.fKind),.p (eI p_0.fbad.fAt),.p (eS p_0.fbad.fName)])]⟩) ?_ ?_
 ·refine nx 1 Z (fB [22] h1 Z (λ c11 h1=>?_) λ c11 h1=>?_)
  ·refine nx 8 Z (oA h1 Z Z λ hk12 h1=>?_)
   exact nx 4 Z (eX (f7+1) h1 (gE Z Z))
  exact nx 2 Z (eXi _ (oi h1).symm (gE Z Z))
 refine fD (p:=0 < p_0.fnest) [] h2 Z (λ c8 h2=>?_) λ c8 h2=>?_
 ·refine cc' h2 λ hk9 h2=>mD [(0,.ptr 1000000 0),(2,.ptr 2 0)] Z ⟨Z,Z,trivial⟩ Z (dR 4 Z ?_)
  refine dL (dt c8) Z (dR 9 Z ?_)
  refine dq (.rptr (ae.cs (lat p_0.fl f7))) [9,13,17] Z (λ _ e _ q=>em (kB (f:=bw) (l:=p_0.fl) ae.cs Z Z Z Z Z Z (e _ _ Z) Z (e _ _ Z) hk9 ae.cells_eq Y q) Z Z (e _ _ Z) (rfl)) Z (dR 4 Z ?_)
  refine dE Z (nx 1 Z ?_)
  exact eX _ (oi h2).symm (gE Z Z)
 refine mD [(0,.ptr 1000000 0),(2,.ptr 2 0)] Z ⟨Z,Z,trivial⟩ Z (dR 4 Z ?_)
 refine dL (df c8) Z (dR 14 Z ?_)
 refine dE Z (nx 1 Z ?_)
 exact eX _ (oi h2).symm (gE Z Z)
def aJ (n:Nat)(p_0:ad):Option (ae×ad) :=
 (ba n p_0).bind λ r1 =>
 (
   if r1.1.fKind=6 then
    some r1.2.fat
   else
    ck (inR (r1.2.fat+1)) <|
    some (r1.2.fat+1)
  : Option Int).bind λ f5 =>
 some (r1.1,(ad.mk r1.2.fl f5 r1.2.fnest r1.2.fbase r1.2.fbad))
theorem aR (n:Nat)(p_0:ad)(r:ae×ad)(h0:aJ n p_0=some r):aW Tryz.prog 102 [.ptr 1000000 0] [(1000000,((ad.cs p_0).map .p))] (λ x y=>x=.p (.agg (ae.cs r.1))∧y=[(1000000,((ad.cs r.2).map .p))]):=by
 unfold aJ at h0
 refine cw good [] [1000000] Tryz.func102 Z Z Z Z Z λ w0 F=>mPo (λ v:ae×ad=>.p (.agg (ae.cs v.1))) (λ v=>[(1000000,((ad.cs v.2).map .p))]) ?_
 refine nx 7 Z (bd h0 λ r1 e2 h0=>?_)
 refine mO Z (cVq [1000000] [] 101000 101000 (bE _ p_0 _ e2) Tryz.call70 Z ?_)
 refine nx 4 Z (bd h0 λ o7 h1 h0=>?_)
 refine kN o7 (λ v8=>⟨[(2,.ptr 2 0),(3,.ptr 3 0)],[(2,iP),(3,(ae.cs r1.1).map .p),(1000000,[.p (eL bw r1.2.fl),.p (eI v8),.p (eI r1.2.fnest),.p (eI r1.2.fbase),.p (eI r1.2.fbad.fKind),.p (eI r1.2.fbad.fAt),.p (eS r1.2.fbad.fName)])]⟩) ?_ ?_
 ·exact nx 7 Z (gz h0 Z)
 refine nx 6 Z (fN [8] h1 Z (λ c3 h1=>?_) λ c3 h1=>?_)
 ·exact nx 2 Z (eX _ (oi h1).symm (gE Z Z))
 refine nx 6 Z (oA h1 Z Z λ hk4 h1=>?_)
 exact nx 4 Z (eX _ (oi h1).symm (gE Z Z))
def aY (p_0:ad):Option (Bool×ad) :=
 some (!decide (p_0.fbad.fKind=0),p_0)
theorem cX (p_0:ad)(r:Bool×ad)(h0:aY p_0=some r):aW Tryz.prog 121 [.ptr 1000000 0] [(1000000,((ad.cs p_0).map .p))] (λ x y=>x=.p (eB r.1)∧y=[(1000000,((ad.cs r.2).map .p))]):=by
 unfold aY at h0
 refine cw good [] [1000000] Tryz.func121 Z Z Z Z Z λ w0 F=>mPo (λ v:Bool×ad=>.p (eB v.1)) (λ v=>[(1000000,((ad.cs v.2).map .p))]) ?_
 exact nx 15 Z (gz h0 Z)
def aS (n:Nat)(p_0:ad)(s_1:Bytes):Option (Bool×ad) :=
 (ba n p_0).bind λ r1 =>
 (
   (aY r1.2).bind λ r3 =>
   if (!r3.1)=true then
    if r1.1.fKind=4 then
     some (decide (r1.1.fText=s_1),r3.2.fl,r3.2.fat,r3.2.fnest,r3.2.fbase,r3.2.fbad.fKind,r3.2.fbad.fAt,r3.2.fbad.fName)
    else
     some (false,r3.2.fl,r3.2.fat,r3.2.fnest,r3.2.fbase,r3.2.fbad.fKind,r3.2.fbad.fAt,r3.2.fbad.fName)
   else
    some (false,r3.2.fl,r3.2.fat,r3.2.fnest,r3.2.fbase,r3.2.fbad.fKind,r3.2.fbad.fAt,r3.2.fbad.fName)
  : Option (Bool×(List ae)×Int×Int×Int×Int×Int×Bytes)).bind λ q15 =>
 some (q15.1,(ad.mk q15.2.1 q15.2.2.1 q15.2.2.2.1 q15.2.2.2.2.1 (ap.mk q15.2.2.2.2.2.1 q15.2.2.2.2.2.2.1 q15.2.2.2.2.2.2.2)))
theorem bu (n:Nat)(p_0:ad)(s_1:Bytes)(r:Bool×ad)(h0:aS n p_0 s_1=some r):aW Tryz.prog 101 [.ptr 1000000 0,.p (eS s_1)] [(1000000,((ad.cs p_0).map .p))] (λ x y=>x=.p (eB r.1)∧y=[(1000000,((ad.cs r.2).map .p))]):=by
 unfold aS at h0
 refine cw good [] [1000000] Tryz.func101 Z Z Z Z Z λ w0 F=>mPo (λ v:Bool×ad=>.p (eB v.1)) (λ v=>[(1000000,((ad.cs v.2).map .p))]) ?_
 refine nx 7 Z (bd h0 λ r1 e2 h0=>?_)
 refine mO Z (cVq [1000000] [] 101000 101000 (bE _ p_0 _ e2) Tryz.call70 Z ?_)
 refine nx 4 Z (bd h0 λ o16 h1 h0=>?_)
 refine kN o16 (λ v17=>⟨[(4,.p (eB v17.1))],[(1000000,[.p (eL bw v17.2.1),.p (eI v17.2.2.1),.p (eI v17.2.2.2.1),.p (eI v17.2.2.2.2.1),.p (eI v17.2.2.2.2.2.1),.p (eI v17.2.2.2.2.2.2.1),.p (eS v17.2.2.2.2.2.2.2)])]⟩) ?_ ?_
 ·exact nx 2 Z (gz h0 Z)
 refine nx 2 Z (bd h1 λ r3 e4 h1=>?_)
 refine mO Z (cVq [1000000] [] 102000 102000 (cX r1.2 _ e4) Tryz.call121 Z ?_)
 refine nx 2 Z (fB [10,11] h1 Z (λ c5 h1=>?_) λ c5 h1=>?_)
 ·refine nx 5 Z (fD [14,15,16] h1 Z (λ c6 h1=>?_) λ c6 h1=>?_)
  ·refine nx 3 Z (oS Z Z ?_)
   exact nx 3 Z (eX _ (oi h1).symm (gE Z Z))
  exact nx 7 Z (eX _ (oi h1).symm (gE Z Z))
 exact nx 12 Z (eX _ (oi h1).symm (gE Z Z))
def bv (p_0:ad)(k_1:Int)(at_2:Int):Option (ac×ad) :=
 (
   (aY p_0).bind λ r1 =>
   if (!r1.1)=true then
    some (r1.2.fl,r1.2.fat,r1.2.fnest,r1.2.fbase,k_1,at_2,([]:Bytes))
   else
    some (r1.2.fl,r1.2.fat,r1.2.fnest,r1.2.fbase,r1.2.fbad.fKind,r1.2.fbad.fAt,r1.2.fbad.fName)
  : Option ((List ae)×Int×Int×Int×Int×Int×Bytes)).bind λ q11 =>
 some ((ac.mk 0 0 ([]:Bytes) ([]:Bytes) (ah.mk 0 0 ([]:Bytes) [] []) [] 0),(ad.mk q11.1 q11.2.1 q11.2.2.1 q11.2.2.2.1 (ap.mk q11.2.2.2.2.1 q11.2.2.2.2.2.1 q11.2.2.2.2.2.2)))
theorem bW (p_0:ad)(k_1:Int)(at_2:Int)(r:ac×ad)(h0:bv p_0 k_1 at_2=some r):aW Tryz.prog 71 [.ptr 1000000 0,.p (eI k_1),.p (eI at_2)] [(1000000,((ad.cs p_0).map .p))] (λ x y=>x=.p (.agg (ac.cs r.1))∧y=[(1000000,((ad.cs r.2).map .p))]):=by
 unfold bv at h0
 refine cw good [] [1000000] Tryz.func71 Z Z Z Z Z λ w0 F=>mPo (λ v:ac×ad=>.p (.agg (ac.cs v.1))) (λ v=>[(1000000,((ad.cs v.2).map .p))]) ?_
 refine nx 5 Z (bd h0 λ o12 h1 h0=>?_)
 refine kN o12 (λ v13=>⟨[(6,.ptr 6 0)],[(6,j9),(1000000,[.p (eL bw v13.1),.p (eI v13.2.1),.p (eI v13.2.2.1),.p (eI v13.2.2.2.1),.p (eI v13.2.2.2.2.1),.p (eI v13.2.2.2.2.2.1),.p (eS v13.2.2.2.2.2.2)])]⟩) ?_ ?_
 ·exact nx 7 Z (mQo (oi h0) (ax _) Z Z Z Z (db ⟨.inl Z,.inl Z,.inl Z,.inl Z,.inl Z,.inl Z,.inl Z,.inr ⟨Z,Z⟩,.inr ⟨Z,Z⟩,.inr ⟨Z,Z⟩,.inl Z,trivial⟩) ⟨⟨_,Z,⟨sr,sr,sr,sr,sr,sr,sr,trivial⟩⟩,trivial⟩)
 refine nx 3 Z (bd h1 λ r1 e2 h1=>?_)
 refine mO Z (cVq [1000000] [] 101000 101000 (cX p_0 _ e2) Tryz.call121 Z ?_)
 refine nx 2 Z (fB [9] h1 Z (λ c3 h1=>?_) λ c3 h1=>?_)
 ·exact nx 10 Z (eX _ (oi h1).symm (gE Z Z))
 exact nx 2 Z (eX _ (oi h1).symm (gE Z Z))
def fA (v_0:ah)(at_1:Int):Option ac :=
 some (ac.mk 1 0 ([]:Bytes) ([]:Bytes) v_0 [] at_1)
theorem eG (v_0:ah)(at_1:Int)(r:ac)(h0:fA v_0 at_1=some r):aK Tryz.prog 39 [.agg (ah.cs v_0),eI at_1] (·=.p (.agg (ac.cs r))):=by
 unfold fA at h0
 refine cB good Tryz.func39 Z Z Z λ w0=>mP (λ v:ac=>.p (.agg (ac.cs v))) ?_
 exact nx 13 Z (mQ (oi h0) Z (db ⟨.inl Z,.inl Z,.inl Z,.inl Z,.inl Z,.inl Z,.inl Z,.inl Z,.inl Z,.inr ⟨Z,Z⟩,.inl Z,trivial⟩))
def eR (n:Nat)(e_0:ac)(d_1:ap):Option (ac×ap) :=
 if d_1.fKind=0 then
  (gk n e_0).bind λ r2 =>
  if r2=0 then
   some (e_0,(ap.mk 0 0 ([]:Bytes)))
  else
   some ((ac.mk 0 0 ([]:Bytes) ([]:Bytes) (ah.mk 0 0 ([]:Bytes) [] []) [] 0),(ap.mk r2 e_0.fAt ([]:Bytes)))
 else
  some ((ac.mk 0 0 ([]:Bytes) ([]:Bytes) (ah.mk 0 0 ([]:Bytes) [] []) [] 0),d_1)
theorem np (n:Nat)(e_0:ac)(d_1:ap)(r:ac×ap)(h0:eR n e_0 d_1=some r):aK Tryz.prog 34 [.agg (ac.cs e_0),.agg (ap.cs d_1)] (·=.tuple [.p (.agg (ac.cs r.1)),.p (.agg (ap.cs r.2))]):=by
 unfold eR at h0
 refine cB good Tryz.func34 Z Z Z λ w0=>mP (λ v:ac×ap=>.tuple [.p (.agg (ac.cs v.1)),.p (.agg (ap.cs v.2))]) ?_
 refine nx 14 Z (fN [9] h0 Z (λ c1 h0=>?_) λ c1 h0=>?_)
 ·refine nx 6 Z (bd h0 λ r2 e3 h0=>?_)
  refine oK (jl _ e_0 _ e3) Z ⟨sr,trivial⟩ Tryz.call12 Z (nx 7 Z ?_)
  refine fN [15] h0 Z (λ c4 h0=>?_) λ c4 h0=>?_
  ·exact nx 10 Z (mQ (oi h0) Z (aM ⟨sr,sr,trivial⟩))
  refine nx 2 Z (mG (gE (t:=⟨[(2,.ptr 2 0),(4,.ptr 4 0),(5,.ptr 5 0),(6,.p (eI r2))],[(2,(ac.cs e_0).map .p),(4,j9),(5,fh)]⟩) Z Z) ?_)
  refine mSq ⟨2,[5,6],(λ _=>.none),(λ _=>[(2,.ptr 2 0),(4,.ptr 4 0),(5,.ptr 5 0),(6,.p (eI r2))]),(ob3 ([(2,((ac.cs e_0).map .p)),(4,j9),(5,fh)]) (4,j9) (5,[.p (eI r2),.p (eI e_0.fAt),.p (eS ([]:Bytes))]))⟩ Z (dPc (.p (.agg lr)) Z ?_)
  refine dPc (.p (eI r2)) Z (dPc (.ptr 2 10) Z ?_)
  refine dPc (.p (eI e_0.fAt)) Z (dPc (.p (.agg [eI r2,eI e_0.fAt,eS ([]:Bytes)])) Z ?_)
  refine dS Z (dS Z ?_)
  refine dJ (nx 2 Z ?_)
  exact mQ (oi h0) Z (aM ⟨db ⟨.inl Z,.inl Z,.inl Z,.inl Z,.inl Z,.inl Z,.inl Z,.inr ⟨Z,Z⟩,.inr ⟨Z,Z⟩,.inr ⟨Z,Z⟩,.inl Z,trivial⟩,sr,trivial⟩)
 refine nx 2 Z (mG (gE (t:=⟨[(3,.ptr 3 0),(4,.ptr 4 0),(5,.ptr 5 0)],[(3,(ap.cs d_1).map .p),(4,j9),(5,fh)]⟩) Z Z) ?_)
 refine mSq ⟨2,[2,3],(λ _=>.none),(λ _=>[(3,.ptr 3 0),(4,.ptr 4 0),(5,.ptr 5 0)]),(ob3 ([(3,((ap.cs d_1).map .p)),(4,j9),(5,fh)]) (4,j9) (5,((ap.cs d_1).map .p)))⟩ Z (dPc (.p (.agg lr)) Z ?_)
 refine dPc (.p (.agg (ap.cs d_1))) Z (dS Z ?_)
 refine dS Z (dJ ?_)
 exact nx 2 Z (mQ (oi h0) Z (aM ⟨db ⟨.inl Z,.inl Z,.inl Z,.inl Z,.inl Z,.inl Z,.inl Z,.inr ⟨Z,Z⟩,.inr ⟨Z,Z⟩,.inr ⟨Z,Z⟩,.inl Z,trivial⟩,sr,trivial⟩))
def dN (t_0:ak):Option (ap×ak) :=
 if 4096 < (t_0.ftext.length:Int) then
  ck (inR (t_0.fat+t_0.ffrom)) <|
  some ((ap.mk 3 (t_0.fat+t_0.ffrom) ([]:Bytes)),(ak.mk t_0.fs t_0.fat t_0.fi t_0.ffrom t_0.ftext t_0.fparts t_0.fopen))
 else
  some ((ap.mk 0 0 ([]:Bytes)),(ak.mk t_0.fs t_0.fat t_0.fi t_0.ffrom t_0.ftext t_0.fparts t_0.fopen))
theorem iW (t_0:ak)(r:ap×ak)(h0:dN t_0=some r):aW Tryz.prog 76 [.ptr 1000000 0] [(1000000,[.p (eS t_0.fs),.p (eI t_0.fat),.p (eI t_0.fi),.p (eI t_0.ffrom),.p (eS t_0.ftext),.vec 900000 11 0 (t_0.fparts.map ag),.p (eB t_0.fopen)])] (λ x y=>x=.p (.agg (ap.cs r.1))∧y=[(1000000,[.p (eS r.2.fs),.p (eI r.2.fat),.p (eI r.2.fi),.p (eI r.2.ffrom),.p (eS r.2.ftext),.vec 2000000 11 0 (r.2.fparts.map ag),.p (eB r.2.fopen)])]):=by
 unfold dN at h0
 refine cw good [800000] [1000000] Tryz.func76 Z Z Z Z Z λ w0 F=>mPo (λ v:ap×ak=>.p (.agg (ap.cs v.1))) (λ v=>[(1000000,[.p (eS v.2.fs),.p (eI v.2.fat),.p (eI v.2.fi),.p (eI v.2.ffrom),.p (eS v.2.ftext),.vec 2000000 11 0 (v.2.fparts.map ag),.p (eB v.2.fopen)])]) ?_
 refine nx 11 Z (oLs Z ?_)
 refine nx 2 Z (fD [8] h0 Z (λ c1 h0=>?_) λ c1 h0=>?_)
 ·refine nx 2 Z (cc' h0 λ hk2 h0=>?_)
  refine mG (gE (t:=⟨[(0,.ptr 1000000 0),(2,.ptr 2 0)],[(2,fh),(1000000,[.p (eS t_0.fs),.p (eI t_0.fat),.p (eI t_0.fi),.p (eI t_0.ffrom),.p (eS t_0.ftext),.vec 900000 11 0 (t_0.fparts.map ag),.p (eB t_0.fopen)])]⟩) Z Z) (mSq ⟨1,[10],(λ _=>.none),(λ _=>[(0,.ptr 1000000 0),(2,.ptr 2 0)]),(ob2 ([(2,fh),(1000000,[.p (eS t_0.fs),.p (eI t_0.fat),.p (eI t_0.fi),.p (eI t_0.ffrom),.p (eS t_0.ftext),.vec 900000 11 0 (t_0.fparts.map ag),.p (eB t_0.fopen)])]) (2,[.p (eI 3),.p (eI (t_0.fat+t_0.ffrom)),.p (eS ([]:Bytes))]))⟩ Z ?_)
  refine dPc (.ptr 1000000 0) Z (dPc (.ptr 1000000 0) Z ?_)
  refine dPc (.ptr 1000000 1) Z (dPc (.p (eI t_0.fat)) Z ?_)
  refine dPc (.ptr 1000000 0) Z (dPc (.ptr 1000000 0) Z ?_)
  refine dPc (.ptr 1000000 3) Z (dPc (.p (eI t_0.ffrom)) Z ?_)
  refine aN (λ _=>.p (eI (t_0.fat+t_0.ffrom))) Z Z Z (gx Z Y) (lt1 Z) (az Z (ay [(12,_),(16,_)] ⟨.inr ⟨3,_,Z,Z,Z⟩,.inr ⟨7,_,Z,Z,Z⟩,trivial⟩ (λ sl hsl K hK=>am Z (eN Z Z Z (hsl _ _ Z) (hsl _ _ Z) Z hk2 hK)) aO)) (dPc (.p (.agg [eI 3,eI (t_0.fat+t_0.ffrom),eS ([]:Bytes)])) Z ?_)
  refine dS Z (dJ ?_)
  exact nx 2 Z (mQo (oi h0) (bj (cn 900000 800000 Z Z Z Z Z) (ax _)) Z Z Z Z (sr) ⟨⟨_,Z,⟨sr,sr,sr,sr,sr,sr,sr,trivial⟩⟩,trivial⟩)
 exact nx 8 Z (mQo (oi h0) (bj (cn 900000 800000 Z Z Z Z Z) (ax _)) Z Z Z Z (sr) ⟨⟨_,Z,⟨sr,sr,sr,sr,sr,sr,sr,trivial⟩⟩,trivial⟩)
def ee (t_0:ak):Option ak :=
 (
   if t_0.ffrom < t_0.fi then
    ck (inR (t_0.fat+t_0.ffrom)) <|
    (fA (ah.mk 3 0 t_0.ftext [] []) (t_0.fat+t_0.ffrom)).bind λ r3 =>
    ck ((t_0.fparts.length+1)*160≤140737488355328) <|
    some (t_0.fparts++[r3])
   else
    some t_0.fparts
  : Option (List ac)).bind λ f6 =>
 some (ak.mk t_0.fs t_0.fat t_0.fi t_0.ffrom ([]:Bytes) f6 t_0.fopen)
theorem iN (t_0:ak)(r:ak)(h0:ee t_0=some r):aW Tryz.prog 40 [.ptr 1000000 0] [(1000000,[.p (eS t_0.fs),.p (eI t_0.fat),.p (eI t_0.fi),.p (eI t_0.ffrom),.p (eS t_0.ftext),.vec 900000 11 0 (t_0.fparts.map ag),.p (eB t_0.fopen)])] (λ x y=>x=.tuple []∧y=[(1000000,[.p (eS r.fs),.p (eI r.fat),.p (eI r.fi),.p (eI r.ffrom),.p (eS r.ftext),.vec 2000000 11 0 (r.fparts.map ag),.p (eB r.fopen)])]):=by
 unfold ee at h0
 refine cw good [800000] [1000000] Tryz.func40 Z Z Z Z Z λ w0 F=>mPo (λ v:ak=>.tuple []) (λ v=>[(1000000,[.p (eS v.fs),.p (eI v.fat),.p (eI v.fi),.p (eI v.ffrom),.p (eS v.ftext),.vec 2000000 11 0 (v.fparts.map ag),.p (eB v.fopen)])]) ?_
 refine nx 1 Z (bd h0 λ o8 h1 h0=>?_)
 refine kN o8 (λ v9=>⟨[(0,.ptr 1000000 0)],[(1000000,[.p (eS t_0.fs),.p (eI t_0.fat),.p (eI t_0.fi),.p (eI t_0.ffrom),.p (eS t_0.ftext),.vec 900000 11 0 (v9.map ag),.p (eB t_0.fopen)])]⟩) ?_ ?_
 ·exact nx 7 Z (ws (oi h0) (bj (cn 900000 800000 Z Z Z Z Z) (ax _)) Z Z Z Z (sr) ⟨⟨_,Z,⟨sr,sr,sr,sr,sr,sr,sr,trivial⟩⟩,trivial⟩)
 refine nx 1 Z (mD [(0,.ptr 1000000 0)] Z ⟨Z,trivial⟩ Z ?_)
 refine dR 9 Z (dE Z ?_)
 refine nx 1 Z (fD [10] h1 Z (λ c1 h1=>?_) λ c1 h1=>?_)
 ·refine nx 1 Z (cc' h1 λ hk2 h1=>?_)
  refine bd h1 λ r3 e4 h1=>cc' h1 λ hk5 h1=>mG (gE (t:=⟨[(0,.ptr 1000000 0)],[(1000000,[.p (eS t_0.fs),.p (eI t_0.fat),.p (eI t_0.fi),.p (eI t_0.ffrom),.p (eS t_0.ftext),.vec 900000 11 0 (t_0.fparts.map ag),.p (eB t_0.fopen)])]⟩) Z Z) (mSP ⟨3,[21,23,26],(by4 (.some λ i=>Nat.beq i 900000||Nat.beq i 32) (.fn (upP 32 11 (.agg (ac.cs r3)))) .none .none),(λ _=>[(0,.ptr 1000000 0)]),(by4 ([(1000000,[.p (eS t_0.fs),.p (eI t_0.fat),.p (eI t_0.fi),.p (eI t_0.ffrom),.p (eS t_0.ftext),.vec 900000 11 0 (t_0.fparts.map ag),.p (eB t_0.fopen)])]) ([(1000000,((ak.cs t_0).map .p))]) ([(1000000,((ak.cs t_0).map .p))]) ([(1000000,[.p (eS t_0.fs),.p (eI t_0.fat),.p (eI t_0.fi),.p (eI t_0.ffrom),.p (eS t_0.ftext),.vec 32 11 0 (t_0.fparts.map ag++[.agg (ac.cs r3)]),.p (eB t_0.fopen)]),(1000000,((ak.cs t_0).map .p))]))⟩ ⟨3,[21,26,23],(by4 (.some λ i=>Nat.beq i 900000||Nat.beq i 32) .none (.fn (upP 32 11 (.agg (ac.cs r3)))) .none),(λ _=>[(0,.ptr 1000000 0)]),(by4 ([(1000000,[.p (eS t_0.fs),.p (eI t_0.fat),.p (eI t_0.fi),.p (eI t_0.ffrom),.p (eS t_0.ftext),.vec 900000 11 0 (t_0.fparts.map ag),.p (eB t_0.fopen)])]) ([(1000000,((ak.cs t_0).map .p))]) ([(1000000,[.p (eS t_0.fs),.p (eI t_0.fat),.p (eI t_0.fi),.p (eI t_0.ffrom),.p (eS t_0.ftext),.vecp 32 11 0 (t_0.fparts.map ag),.p (eB t_0.fopen)]),(1000000,((ak.cs t_0).map .p))]) ([(1000000,[.p (eS t_0.fs),.p (eI t_0.fat),.p (eI t_0.fi),.p (eI t_0.ffrom),.p (eS t_0.ftext),.vec 32 11 0 (t_0.fparts.map ag++[.agg (ac.cs r3)]),.p (eB t_0.fopen)]),(1000000,((ak.cs t_0).map .p))]))⟩ Z Z Z Z Z Z Z ⟨Z,trivial⟩ Z (lt3 ⟨Z,trivial⟩ ⟨Z,trivial⟩ ⟨Z,trivial⟩) (lt3 ⟨Z,trivial⟩ ⟨Z,trivial⟩ ⟨Z,trivial⟩) Z Z Z Z Z ?_)
  refine dPc (.ptr 1000000 0) Z (dPc (.ptr 1000000 0) Z ?_)
  refine dPc (.ptr 1000000 5) Z (dP (by4 (.vec 900000 11 0 (t_0.fparts.map ag)) (.p (eL ag t_0.fparts)) (.p (eL ag t_0.fparts)) (.p (eL ag t_0.fparts))) Z ?_)
  refine dPc (.ptr 1000000 0) Z (dPc (.ptr 1000000 0) Z ?_)
  refine dPc (.ptr 1000000 4) Z (dPc (.p (eS t_0.ftext)) Z ?_)
  refine dPc (.p (.agg [eI 3,eI 0,eS t_0.ftext,.val (.slice none 0 0),.val (.slice none 0 0)])) Z (dPc (.ptr 1000000 0) Z ?_)
  refine dPc (.ptr 1000000 0) Z (dPc (.ptr 1000000 1) Z ?_)
  refine dPc (.p (eI t_0.fat)) Z (dPc (.ptr 1000000 0) Z ?_)
  refine dPc (.ptr 1000000 0) Z (dPc (.ptr 1000000 3) Z ?_)
  refine dPc (.p (eI t_0.ffrom)) Z (aN (λ _=>.p (eI (t_0.fat+t_0.ffrom))) Z Z Z (kr Z Z Z Y) (lt3 Z Z Z) (az Z (az Z (az Z (ay [(23,_),(27,_)] ⟨.inr ⟨12,_,Z,Z,Z⟩,.inr ⟨16,_,Z,Z,Z⟩,trivial⟩ (λ sl hsl K hK=>am Z (eN Z Z Z (hsl _ _ Z) (hsl _ _ Z) Z hk2 hK)) aO)))) ?_)
  refine aN (λ _=>.p (.agg (ac.cs r3))) Z Z Z (kr Z Z Z Y) (lt3 Z Z Z) (az Z (az Z (az Z (ay [(19,_),(28,_)] ⟨.inr ⟨8,_,Z,Z,Z⟩,.inr ⟨17,_,Z,Z,Z⟩,trivial⟩ (λ sl hsl K hK=>am Z (cG (eG (ah.mk 3 0 t_0.ftext [] []) (t_0.fat+t_0.ffrom) _ e4) Z Z Z (aE (hsl _ _ Z) (aE (hsl _ _ Z) bK)) ⟨db ⟨.inl Z,.inl Z,.inl Z,.inr ⟨Z,Z⟩,.inr ⟨Z,Z⟩,trivial⟩,sr,trivial⟩ Tryz.call39 Z hK)) aO)))) (aN (λ _=>.p (eI (t_0.fparts.length:Int))) Z Z Z (kr Z Z Z Y) (lt3 Z Z Z) (az Z (az Z (az Z (ay [(14,_)] ⟨.inr ⟨3,_,Z,Z,Z⟩,trivial⟩ (λ sl hsl K hK=>am Z (oY (f:=ag) (l:=t_0.fparts) Z Z Z Z Z (hsl _ _ Z) Z hK)) aO)))) ?_)
  refine aN (λ _=>.p (eL (λ x:PV=>x) [.agg lr])) Z Z Z (kr Z Z Z Y) (lt3 Z Z Z) (az Z (az Z (az Z (ay [] trivial (λ sl hsl K hK=>am Z (bQ (λ x:PV=>x) [.agg lr] Z Z Z Z Z Z (eA Z Z fY) Z Z Z Z Z Z Z hK)) aO)))) (eC (by4 (.vecp 32 11 0 (t_0.fparts.map ag)) (.vecp 32 11 0 (t_0.fparts.map ag)) (.vec 32 11 0 (t_0.fparts.map ag++[.agg (ac.cs r3)])) (.vec 32 11 0 (t_0.fparts.map ag++[.agg (ac.cs r3)]))) [(14,_),(31,_)] Z ⟨.inr ⟨3,_,Z,Z,Z⟩,.inr ⟨20,_,Z,Z,Z⟩,trivial⟩ Z Z (jz Z Z Y) (lt3 (λ h=>absurd h (by decide)) Y Y) (λ sl hsl K hK=>am Z (pk ag t_0.fparts Z Z Z Z Z Z Z Z (hsl _ _ Z) Z Z (hsl _ _ Z) Z Z Z Z Z hk5 hK)) ?_)
  refine pd (by4 (.elp 32 11) (.elp 32 11) .undef .undef) Z Z Z (kr Z Z Z Y) (lt3 (nl Z) Y Y) (az Z (az Z (ay [(30,_),(32,_)] ⟨.inr ⟨19,_,Z,Z,Z⟩,.inr ⟨21,_,Z,Z,Z⟩,trivial⟩ (λ sl hsl K hK=>am Z (nE Z Z Z Z Z Z Z (hsl _ _ Z) (hsl _ _ Z) (by rw [List.length_map]) hK)) (az Z aO)))) (iJ [(29,_),(33,_)] Z ⟨.inr ⟨18,_,Z,Z,Z⟩,.inr ⟨22,_,Z,Z,Z⟩,trivial⟩ Z (λ sl hsl K hK=>am Z (uI (z:=.agg (ac.cs r3)) Z Z Z Z (hsl _ _ Z) (hsl _ _ Z) Z Z Z Z Z hK)) ?_)
  refine dPc (.ptr 1000000 0) Z (dPc (.ptr 1000000 5) Z ?_)
  refine dS Z (ww (dPc (.ptr 1000000 0) Z (dPc (.ptr 1000000 0) Z (dPc (.ptr 1000000 5) Z (dP (by4 (.vec 900000 11 0 (t_0.fparts.map ag)) (.p (eL ag t_0.fparts)) (.p (eL ag t_0.fparts)) (.p (eL ag t_0.fparts))) Z (dPc (.ptr 1000000 0) Z (dPc (.ptr 1000000 0) Z (dPc (.ptr 1000000 4) Z (dPc (.p (eS t_0.ftext)) Z (dPc (.p (.agg [eI 3,eI 0,eS t_0.ftext,.val (.slice none 0 0),.val (.slice none 0 0)])) Z (dPc (.ptr 1000000 0) Z (dPc (.ptr 1000000 0) Z (dPc (.ptr 1000000 1) Z (dPc (.p (eI t_0.fat)) Z (dPc (.ptr 1000000 0) Z (dPc (.ptr 1000000 0) Z (dPc (.ptr 1000000 3) Z (dPc (.p (eI t_0.ffrom)) Z (aN (λ _=>.p (eI (t_0.fat+t_0.ffrom))) Z Z Z (kr Z Z Z Y) (lt3 Z Z Z) (az Z (az Z (az Z (ay [(23,_),(27,_)] ⟨.inr ⟨12,_,Z,Z,Z⟩,.inr ⟨16,_,Z,Z,Z⟩,trivial⟩ (λ sl hsl K hK=>am Z (eN Z Z Z (hsl _ _ Z) (hsl _ _ Z) Z hk2 hK)) aO)))) (aN (λ _=>.p (.agg (ac.cs r3))) Z Z Z (kr Z Z Z Y) (lt3 Z Z Z) (az Z (az Z (az Z (ay [(19,_),(28,_)] ⟨.inr ⟨8,_,Z,Z,Z⟩,.inr ⟨17,_,Z,Z,Z⟩,trivial⟩ (λ sl hsl K hK=>am Z (cG (eG (ah.mk 3 0 t_0.ftext [] []) (t_0.fat+t_0.ffrom) _ e4) Z Z Z (aE (hsl _ _ Z) (aE (hsl _ _ Z) bK)) ⟨db ⟨.inl Z,.inl Z,.inl Z,.inr ⟨Z,Z⟩,.inr ⟨Z,Z⟩,trivial⟩,sr,trivial⟩ Tryz.call39 Z hK)) aO)))) (aN (λ _=>.p (eI (t_0.fparts.length:Int))) Z Z Z (kr Z Z Z Y) (lt3 Z Z Z) (az Z (az Z (az Z (ay [(14,_)] ⟨.inr ⟨3,_,Z,Z,Z⟩,trivial⟩ (λ sl hsl K hK=>am Z (oY (f:=ag) (l:=t_0.fparts) Z Z Z Z Z (hsl _ _ Z) Z hK)) aO)))) (aN (λ _=>.p (eL (λ x:PV=>x) [.agg lr])) Z Z Z (kr Z Z Z Y) (lt3 Z Z Z) (az Z (az Z (az Z (ay [] trivial (λ sl hsl K hK=>am Z (bQ (λ x:PV=>x) [.agg lr] Z Z Z Z Z Z (eA Z Z fY) Z Z Z Z Z Z Z hK)) aO)))) (eC (by4 (.vecp 32 11 0 (t_0.fparts.map ag)) (.vecp 32 11 0 (t_0.fparts.map ag)) (.vecp 32 11 0 (t_0.fparts.map ag)) (.vec 32 11 0 (t_0.fparts.map ag++[.agg (ac.cs r3)]))) [(14,_),(31,_)] Z ⟨.inr ⟨3,_,Z,Z,Z⟩,.inr ⟨20,_,Z,Z,Z⟩,trivial⟩ Z Z (jz Z Z Y) (lt3 (λ h=>absurd h (by decide)) Y Y) (λ sl hsl K hK=>am Z (pk ag t_0.fparts Z Z Z Z Z Z Z Z (hsl _ _ Z) Z Z (hsl _ _ Z) Z Z Z Z Z hk5 hK)) (pd (by4 (.elp 32 11) (.elp 32 11) (.elp 32 11) .undef) Z Z Z (kr Z Z Z Y) (lt3 (nl Z) Y Y) (az Z (ay [(30,_),(32,_)] ⟨.inr ⟨19,_,Z,Z,Z⟩,.inr ⟨21,_,Z,Z,Z⟩,trivial⟩ (λ sl hsl K hK=>am Z (nE Z Z Z Z Z Z Z (hsl _ _ Z) (hsl _ _ Z) (by rw [List.length_map]) hK)) (ay [(30,_),(32,_)] ⟨.inr ⟨19,_,Z,Z,Z⟩,.inr ⟨21,_,Z,Z,Z⟩,trivial⟩ (λ sl hsl K hK=>am Z (nE Z Z Z Z Z Z Z (hsl _ _ Z) (hsl _ _ Z) (by rw [List.length_map]) hK)) (az Z aO)))) (iJ [(29,_),(33,_)] Z ⟨.inr ⟨18,_,Z,Z,Z⟩,.inr ⟨22,_,Z,Z,Z⟩,trivial⟩ Z (λ sl hsl K hK=>am Z (uI (z:=.agg (ac.cs r3)) Z Z Z Z (hsl _ _ Z) (hsl _ _ Z) Z Z Z Z Z hK)) (dPc (.ptr 1000000 0) Z (dPc (.ptr 1000000 5) Z (dS Z (xN Z ⟨Z,Z,trivial⟩ ⟨⟨Z,Z,.inr Z⟩,⟨⟨Z,Z,.inr Z⟩,⟨⟨Z,Z,.inr Z⟩,⟨⟨Z,Z,.inr Z⟩,⟨⟨Z,Z,.inr Z⟩,⟨⟨Z,Z,.inr Z⟩,⟨⟨Z,Z,.inr Z⟩,⟨⟨Z,Z,.inr Z⟩,⟨⟨Z,Z,.inr Z⟩,⟨⟨Z,Z,.inr Z⟩,⟨⟨Z,Z,.inr Z⟩,⟨⟨Z,Z,.inr Z⟩,⟨⟨Z,Z,.inr Z⟩,⟨⟨Z,Z,.inr Z⟩,⟨⟨Z,Z,.inr Z⟩,⟨⟨Z,Z,.inr Z⟩,⟨⟨Z,Z,.inr Z⟩,⟨⟨Z,Z,.inr Z⟩,⟨⟨Z,Z,.inr Z⟩,⟨⟨Z,Z,.inr Z⟩,⟨⟨Z,Z,.inr Z⟩,⟨⟨Z,Z,.inr Z⟩,⟨⟨Z,Z,.inr Z⟩,⟨⟨Z,Z,.inr Z⟩,⟨⟨Z,Z,.inr Z⟩,trivial⟩⟩⟩⟩⟩⟩⟩⟩⟩⟩⟩⟩⟩⟩⟩⟩⟩⟩⟩⟩⟩⟩⟩⟩⟩)))))))))))))))))))))))))))) ?_)
  refine mG (fZ (t:=⟨[(0,.ptr 1000000 0)],[(1000000,[.p (eS t_0.fs),.p (eI t_0.fat),.p (eI t_0.fi),.p (eI t_0.ffrom),.p (eS t_0.ftext),.vec 32 11 0 ((t_0.fparts++[r3]).map ag),.p (eB t_0.fopen)])]⟩) (nY ⟨er Z,trivial⟩ ⟨⟨_,Z,⟨sr,sr,sr,sr,sr,AV.sub_of_eq (by first | (simp only [List.map_append,List.map_cons,List.map_nil,ac.agg_eq]; done) | (simp only [List.map_append,List.map_cons,List.map_nil,ac.agg_eq]; rfl)),sr,trivial⟩⟩,trivial⟩)) (nx 1 Z ?_)
  exact eX _ (oi h1).symm (bj (cn 32 900000 Z Z Z Z Z) (gE Z Z))
 exact nx 2 Z (eX _ (oi h1).symm (gE Z Z))
def cF (r_expr_quoted:Bytes→Int→Option Int)(s_0:Bytes):Nat→Int→Int→Option (Unit⊕Int)
 | 0,_,_=>none
 | m+1,i18,depth19 =>
 if i18 < (s_0.length:Int) then
  ck ((0:Int)≤i18∧i18 < (s_0.length:Int)) <|
  jn (
    if byt s_0 i18=123 then
     ck (inR (depth19+1)) <|
     some (.inl (i18,depth19+1))
    else
     if byt s_0 i18=125 then
      ck (inR (depth19 - 1)) <|
      if depth19 - 1=0 then
       some (.inr (.inr i18))
      else
       some (.inl (i18,depth19 - 1))
     else
      if byt s_0 i18=34 then
       ck (inR (i18+1)) <|
       (r_expr_quoted s_0 (i18+1)).bind λ r29 =>
       if r29 < 0 then
        some (.inr (.inr (-1)))
       else
        some (.inl (r29,depth19))
      else
       some (.inl (i18,depth19))
   : Option ((Int×Int)⊕(Unit⊕Int))) λ q38 =>
  ck (inR (q38.1+1)) <|
  cF r_expr_quoted s_0 m (q38.1+1) q38.2
 else
  some (.inl ())
def cQ (r_expr_closing:Bytes→Int→Option Int)(s_0:Bytes):Nat→Int→Option (Unit⊕Int)
 | 0,_=>none
 | m+1,i23 =>
 if i23 < (s_0.length:Int) then
  jn (
    ck ((0:Int)≤i23∧i23 < (s_0.length:Int)) <|
    if byt s_0 i23=34 then
     some (.inr (.inr i23))
    else
     ck ((0:Int)≤i23∧i23 < (s_0.length:Int)) <|
     if byt s_0 i23=92 then
      ck (inR (i23+1)) <|
      some (.inl (i23+1))
     else
      ck ((0:Int)≤i23∧i23≤(s_0.length:Int)∧(s_0.length:Int)≤(s_0.length:Int)) <|
      (strings_HasPrefix (sub s_0 i23 (s_0.length:Int)) ([36,36,123]:Bytes)).bind λ r31 =>
      if r31=true then
       ck (inR (i23+2)) <|
       some (.inl (i23+2))
      else
       ck ((0:Int)≤i23∧i23≤(s_0.length:Int)∧(s_0.length:Int)≤(s_0.length:Int)) <|
       (strings_HasPrefix (sub s_0 i23 (s_0.length:Int)) ([36,123]:Bytes)).bind λ r36 =>
       if r36=true then
        ck (inR (i23+2)) <|
        (r_expr_closing s_0 (i23+2)).bind λ r40 =>
        if r40 < 0 then
         some (.inr (.inr (-1)))
        else
         some (.inl r40)
       else
        some (.inl i23)
   : Option (Int⊕(Unit⊕Int))) λ i43 =>
  ck (inR (i43+1)) <|
  cQ r_expr_closing s_0 m (i43+1)
 else
  some (.inl ())
mutual
def cy:Nat→Bytes→Int→Option Int
 | 0,_,_=>none
 | n+1,s_0,i_1 =>
 jn (cF (dW n) s_0 n i_1 1) λ q37 =>
 some (-1)
def dW:Nat→Bytes→Int→Option Int
 | 0,_,_=>none
 | n+1,s_0,i_1 =>
 jn (cQ (cy n) s_0 n i_1) λ q46 =>
 some (-1)
end
theorem pF (n:Nat):(∀ (s_0:Bytes) (i_1:Int) (r:Int),cy n s_0 i_1=some r→aK Tryz.prog 124 [eS s_0,eI i_1] (·=.p (eI r)))∧(∀ (s_0:Bytes) (i_1:Int) (r:Int),dW n s_0 i_1=some r→aK Tryz.prog 156 [eS s_0,eI i_1] (·=.p (eI r))):=by
 induction n with
 | zero=>exact ⟨(by intro s_0 i_1 r h0; cases h0),(by intro s_0 i_1 r h0; cases h0)⟩
 | succ n ih =>
 obtain ⟨ih_expr_closing_ok,ih_expr_quoted_ok⟩:=ih
 refine ⟨?_,?_⟩
 ·skip
  intro s_0 i_1 r h0
  rw [cy] at h0
  refine cB good Tryz.func124 Z Z Z λ w0=>mP (λ v:Int=>.p (eI v)) ?_
  refine nx 10 Z ?_
  obtain ⟨o39,h1,hL0,hR0⟩:=dk h0
  refine kEx 0 (λ v40:Unit=>o39=.inl v40) (λ v40=>⟨[],[]⟩) (λ v40 hv=>?_) ?_
  ·have h0:=hL0 _ hv
   exact nx 6 Z (mQ (oi h0) Z (sr))
  refine lG (λ (q41:Int×Int)=>⟨[(0,.p (eS s_0)),(1,.p (eI q41.1)),(5,.p (eI q41.2))],[]⟩) (λ m (q41:Int×Int)=>cF (dW n) s_0 m q41.1 q41.2) Y (i_1,1) h1 (gE Z Z) ?_
  rintro m ⟨i18,depth19⟩ h1
  replace h1:cF (dW n) s_0 (m+1) i18 depth19=some o39:=h1
  rw [cF] at h1
  refine nx 5 Z (oLs Z ?_)
  refine nx 2 Z (fD [9] h1 Z (λ c20 h1=>?_) λ c20 h1=>?_)
  ·refine nx 8 Z (oI h1 Z λ hk21 h1=>?_)
   refine nx 1 Z ?_
   obtain ⟨o42,h2,hL1,hR1⟩:=dk h1
   refine kX (λ v43:Int×Int=>o42=.inl v43) (λ v43=>⟨[(0,.p (eS s_0)),(1,.p (eI v43.1)),(5,.p (eI v43.2))],[]⟩) (λ v43 hv=>?_) ?_
   ·have h1:=hL1 _ hv
    refine nx 3 Z (oA h1 Z Z λ hk34 h1=>?_)
    exact nx 2 Z (eX (v43.1+1,v43.2) h1 (gE Z Z))
   refine nx 6 Z (fD [15,16] h2 Z (λ c22 h2=>?_) λ c22 h2=>?_)
   ·refine nx 3 Z (oA h2 Z Z λ hk23 h2=>?_)
    exact nx 2 Z (eX _ (oi h2).symm (gE Z Z))
   refine nx 6 Z (fD [19,20] h2 Z (λ c24 h2=>?_) λ c24 h2=>?_)
   ·refine nx 4 Z (oA h2 Z Z λ hk25 h2=>?_)
    refine nx 7 Z (fD [24] h2 Z (λ c26 h2=>?_) λ c26 h2=>?_)
    ·exact nx 7 Z (mQ (hR0 _ (hR1 _ (oi h2).symm).symm) Z (sr))
    exact nx 2 Z (eX _ (oi h2).symm (gE Z Z))
   refine nx 6 Z (fD [26,27] h2 Z (λ c27 h2=>?_) λ c27 h2=>?_)
   ·refine nx 5 Z (oA h2 Z Z λ hk28 h2=>?_)
    refine bd h2 λ r29 e30 h2=>oK (ih_expr_quoted_ok s_0 (i18+1) _ e30) Z ⟨sr,sr,trivial⟩ Tryz.call156 Z (nx 7 Z ?_)
    refine fD [33] h2 Z (λ c31 h2=>?_) λ c31 h2=>?_
    ·exact nx 6 Z (mQ (hR0 _ (hR1 _ (oi h2).symm).symm) Z (sr))
    exact nx 2 Z (eX _ (oi h2).symm (gE Z Z))
   exact nx 2 Z (eX _ (oi h2).symm (gE Z Z))
  exact nx 2 Z (eXi _ (oi h1).symm (gE Z Z))
 ·skip
  intro s_0 i_1 r h0
  rw [dW] at h0
  refine cB good Tryz.func156 Z Z Z λ w0=>mP (λ v:Int=>.p (eI v)) ?_
  refine nx 6 Z ?_
  obtain ⟨o48,h1,hL0,hR0⟩:=dk h0
  refine kEx 0 (λ v49:Unit=>o48=.inl v49) (λ v49=>⟨[],[]⟩) (λ v49 hv=>?_) ?_
  ·have h0:=hL0 _ hv
   exact nx 6 Z (mQ (oi h0) Z (sr))
  refine lG (λ (q50:Int)=>⟨[(0,.p (eS s_0)),(1,.p (eI q50))],[]⟩) (λ m (q50:Int)=>cQ (cy n) s_0 m q50) Y i_1 h1 (gE Z Z) ?_
  rintro m i23 h1
  replace h1:cQ (cy n) s_0 (m+1) i23=some o48:=h1
  rw [cQ] at h1
  refine nx 5 Z (oLs Z ?_)
  refine nx 2 Z (fD [8] h1 Z (λ c24 h1=>?_) λ c24 h1=>?_)
  ·refine nx 4 Z ?_
   obtain ⟨o51,h2,hL1,hR1⟩:=dk h1
   refine kX (λ v52:Int=>o51=.inl v52) (λ v52=>⟨[(0,.p (eS s_0)),(1,.p (eI v52))],[]⟩) (λ v52 hv=>?_) ?_
   ·have h1:=hL1 _ hv
    refine nx 3 Z (oA h1 Z Z λ hk44 h1=>?_)
    exact nx 2 Z (eX (v52+1) h1 (gE Z Z))
   refine nx 5 Z (oI h2 Z λ hk25 h2=>?_)
   refine nx 3 Z (fD [11,15] h2 Z (λ c26 h2=>?_) λ c26 h2=>?_)
   ·exact nx 7 Z (mQ (hR0 _ (hR1 _ (oi h2).symm).symm) Z (sr))
   refine nx 5 Z (oI h2 Z λ hk27 h2=>?_)
   refine nx 3 Z (fD [17,21] h2 Z (λ c28 h2=>?_) λ c28 h2=>?_)
   ·refine nx 3 Z (oA h2 Z Z λ hk29 h2=>?_)
    exact nx 2 Z (eX _ (oi h2).symm (gE Z Z))
   refine nx 5 Z (oP h2 Z Z Z λ hk30 h2=>?_)
   refine bd h2 λ r31 e32 h2=>oK (cM (sub s_0 i23 (s_0.length:Int)) ([36,36,123]:Bytes) _ e32) Z ⟨sr,sr,trivial⟩ Tryz.call75 Z (nx 2 Z ?_)
   refine fB [24,28] h2 Z (λ c33 h2=>?_) λ c33 h2=>?_
   ·refine nx 3 Z (oA h2 Z Z λ hk34 h2=>?_)
    exact nx 2 Z (eX _ (oi h2).symm (gE Z Z))
   refine nx 5 Z (oP h2 Z Z Z λ hk35 h2=>?_)
   refine bd h2 λ r36 e37 h2=>oK (cM (sub s_0 i23 (s_0.length:Int)) ([36,123]:Bytes) _ e37) Z ⟨sr,sr,trivial⟩ Tryz.call75 Z (nx 2 Z ?_)
   refine fB [31,35] h2 Z (λ c38 h2=>?_) λ c38 h2=>?_
   ·refine nx 5 Z (oA h2 Z Z λ hk39 h2=>?_)
    refine bd h2 λ r40 e41 h2=>oK (ih_expr_closing_ok s_0 (i23+2) _ e41) Z ⟨sr,sr,trivial⟩ Tryz.call124 Z (nx 2 Z ?_)
    refine mG (gE (t:=⟨[(0,.p (eS s_0)),(1,.p (eI r40))],[]⟩) Z Z) (nx 5 Z ?_)
    refine fD [41] h2 Z (λ c42 h2=>?_) λ c42 h2=>?_
    ·exact nx 6 Z (mQ (hR0 _ (hR1 _ (oi h2).symm).symm) Z (sr))
    exact nx 2 Z (eX _ (oi h2).symm (gE Z Z))
   exact nx 2 Z (eX _ (oi h2).symm (gE Z Z))
  exact nx 2 Z (eXi _ (oi h1).symm (gE Z Z))
theorem qO (n:Nat):∀ (s_0:Bytes) (i_1:Int) (r:Int),cy n s_0 i_1=some r→aK Tryz.prog 124 [eS s_0,eI i_1] (·=.p (eI r)):=(pF n).1
def bF (s_0:Bytes):Nat→Int→Option Int
 | 0,_=>none
 | m+1,n10 =>
 (
   if n10 < (s_0.length:Int) then
    if n10 < 6 then
     ck ((0:Int)≤n10∧n10 < (s_0.length:Int)) <|
     (strings_IndexByte ([48,49,50,51,52,53,54,55,56,57,97,98,99,100,101,102]:Bytes) (byt s_0 n10)).bind λ r14 =>
     some (decide (0≤r14))
    else
     some false
   else
    some false
  : Option Bool).bind λ t16 =>
 if t16=true then
  ck (inR (n10+1)) <|
  bF s_0 m (n10+1)
 else
  some n10
def dU (n:Nat)(s_0:Bytes):Option Int :=
 (bF s_0 n 0).bind λ n20 =>
 some n20
theorem nK (n:Nat)(s_0:Bytes)(r:Int)(h0:dU n s_0=some r):aK Tryz.prog 157 [eS s_0] (·=.p (eI r)):=by
 unfold dU at h0
 refine cB good Tryz.func157 Z Z Z λ w0=>mP (λ v:Int=>.p (eI v)) ?_
 refine nx 10 Z (bd h0 λ o23 h1 h0=>?_)
 refine kE 0 o23 (λ v24=>⟨[(3,.p (eI v24))],[]⟩) ?_ ?_
 ·exact nx 7 Z (mQ (oi h0) Z (sr))
 refine lG (λ (q25:Int)=>⟨[(0,.p (eS s_0)),(3,.p (eI q25))],[]⟩) (λ m (q25:Int)=>bF s_0 m q25) Y 0 h1 (gE Z Z) ?_
 rintro m n10 h1
 replace h1:bF s_0 (m+1) n10=some o23:=h1
 rw [bF] at h1
 refine nx 2 Z (bd h1 λ o26 h2 h1=>?_)
 refine kN o26 (λ v27=>⟨[(0,.p (eS s_0)),(3,.p (eI n10)),(18,.p (eB v27))],[]⟩) ?_ ?_
 ·refine nx 1 Z (fB [18] h1 Z (λ c17 h1=>?_) λ c17 h1=>?_)
  ·refine nx 5 Z (oA h1 Z Z λ hk18 h1=>?_)
   exact nx 2 Z (eX (n10+1) h1 (gE Z Z))
  exact nx 2 Z (eXi _ (oi h1).symm (gE Z Z))
 refine nx 3 Z (oLs Z ?_)
 refine nx 2 Z (fD [7,8] h2 Z (λ c11 h2=>?_) λ c11 h2=>?_)
 ·refine nx 4 Z (fD [10,11,12] h2 Z (λ c12 h2=>?_) λ c12 h2=>?_)
  ·refine nx 2 Z (oI h2 Z λ hk13 h2=>?_)
   refine bd h2 λ r14 e15 h2=>oK (fy ([48,49,50,51,52,53,54,55,56,57,97,98,99,100,101,102]:Bytes) (byt s_0 n10) _ e15) Z ⟨sr,sr,trivial⟩ Tryz.call85 Z (nx 3 Z ?_)
   exact eX _ (oi h2).symm (gE Z Z)
  exact nx 7 Z (eX _ (oi h2).symm (gE Z Z))
 exact nx 11 Z (eX _ (oi h2).symm (gE Z Z))
def gg (n:Nat)(s_0:Bytes):Option (Bytes×Int×Int) :=
 jn (
   (strings_HasPrefix s_0 ([92,117]:Bytes)).bind λ r1 =>
   if r1=true then
    (
      if 2 < (s_0.length:Int) then
       ck ((0:Int)≤2∧2 < (s_0.length:Int)) <|
       some (!decide (byt s_0 2=123))
      else
       some false
     : Option Bool).bind λ t6 =>
    if t6=true then
     some (.inr (([]:Bytes),0,2))
    else
     if 3 < (s_0.length:Int) then
      ck ((0:Int)≤3∧3≤(s_0.length:Int)∧(s_0.length:Int)≤(s_0.length:Int)) <|
      (dU n (sub s_0 3 (s_0.length:Int))).bind λ r10 =>
      ck (inR (4+r10)) <|
      some (.inl (4+r10))
     else
      some (.inl 4)
   else
    some (.inl 2)
  : Option (Int⊕(Bytes×Int×Int))) λ n13 =>
 if (s_0.length:Int) < n13 then
  some (([]:Bytes),0,40)
 else
  ck ((0:Int)≤0∧0≤n13∧n13≤(s_0.length:Int)) <|
  ck (([34]:Bytes).length+(sub s_0 0 n13).length≤9223372036854775807) <|
  ck ((([34]:Bytes)++(sub s_0 0 n13)).length+([34]:Bytes).length≤9223372036854775807) <|
  (d7 n ((([34]:Bytes)++(sub s_0 0 n13))++([34]:Bytes))).bind λ r18 =>
  if r18.2.2=0 then
   some (r18.1,n13,0)
  else
   some (([]:Bytes),0,2)
theorem sA (n:Nat)(s_0:Bytes)(r:Bytes×Int×Int)(h0:gg n s_0=some r):aK Tryz.prog 125 [eS s_0] (·=.tuple [.p (eS r.1),.p (eI r.2.1),.p (eI r.2.2)]):=by
 unfold gg at h0
 refine cB good Tryz.func125 Z Z Z λ w0=>mP (λ v:Bytes×Int×Int=>.tuple [.p (eS v.1),.p (eI v.2.1),.p (eI v.2.2)]) ?_
 refine nx 11 Z ?_
 obtain ⟨o23,h1,hL0,hR0⟩:=dk h0
 refine kX (λ v24:Int=>o23=.inl v24) (λ v24=>⟨[(0,.p (eS s_0)),(5,.p (eI v24))],[]⟩) (λ v24 hv=>?_) ?_
 ·have h0:=hL0 _ hv
  refine nx 6 Z (oLs Z ?_)
  refine nx 2 Z (fD [29] h0 Z (λ c14 h0=>?_) λ c14 h0=>?_)
  ·exact nx 8 Z (mQ (oi h0) Z (aM ⟨sr,sr,sr,trivial⟩))
  refine nx 6 Z (oP h0 Z Z Z λ hk15 h0=>?_)
  refine oC h0 Z λ hk16 h0=>oC h0 Z λ hk17 h0=>bd h0 λ r18 e19 h0=>oK (oH _ ((([34]:Bytes)++(sub s_0 0 v24))++([34]:Bytes)) _ e19) Z ⟨sr,trivial⟩ Tryz.call158 Z (nx 14 Z ?_)
  refine fN [41] h0 Z (λ c20 h0=>?_) λ c20 h0=>?_
  ·exact nx 11 Z (mQ (oi h0) Z (aM ⟨sr,sr,sr,trivial⟩))
  exact nx 8 Z (mQ (oi h0) Z (aM ⟨sr,sr,sr,trivial⟩))
 refine nx 3 Z (bd h1 λ r1 e2 h1=>?_)
 refine oK (cM s_0 ([92,117]:Bytes) _ e2) Z ⟨sr,sr,trivial⟩ Tryz.call75 Z (nx 1 Z ?_)
 refine fB [10] h1 Z (λ c3 h1=>?_) λ c3 h1=>?_
 ·refine nx 3 Z (bd h1 λ o25 h2 h1=>?_)
  refine kN o25 (λ v26=>⟨[(0,.p (eS s_0)),(18,.p (eB v26))],[]⟩) ?_ ?_
  ·refine nx 1 Z (fB [18] h1 Z (λ c7 h1=>?_) λ c7 h1=>?_)
   ·exact nx 8 Z (mQ (hR0 _ (oi h1).symm) Z (aM ⟨sr,sr,sr,trivial⟩))
   refine nx 9 Z (oLs Z ?_)
   refine nx 2 Z (fD [21] h1 Z (λ c8 h1=>?_) λ c8 h1=>?_)
   ·refine nx 3 Z (oP h1 Z Z Z λ hk9 h1=>?_)
    refine bd h1 λ r10 e11 h1=>oK (nK _ (sub s_0 3 (s_0.length:Int)) _ e11) Z ⟨sr,trivial⟩ Tryz.call157 Z (oA h1 Z Z λ hk12 h1=>?_)
    exact nx 2 Z (eX _ (oi h1).symm (gE Z Z))
   exact nx 4 Z (eX _ (oi h1).symm (gE Z Z))
  refine nx 2 Z (oLs Z ?_)
  refine nx 2 Z (fD [13,14] h2 Z (λ c4 h2=>?_) λ c4 h2=>?_)
  ·refine nx 1 Z (oI h2 Z λ hk5 h2=>?_)
   exact nx 3 Z (eX _ (oi h2).symm (gE Z Z))
  exact nx 5 Z (eX _ (oi h2).symm (gE Z Z))
 exact nx 2 Z (eX _ (oi h1).symm (gE Z Z))
def dl (n:Nat)(t_0:ak):Option (ap×ak) :=
 ck ((0:Int)≤t_0.fi∧t_0.fi≤(t_0.fs.length:Int)∧(t_0.fs.length:Int)≤(t_0.fs.length:Int)) <|
 jn (
   ck ((0:Int)≤0∧0 < ((sub t_0.fs t_0.fi (t_0.fs.length:Int)).length:Int)) <|
   if byt (sub t_0.fs t_0.fi (t_0.fs.length:Int)) 0=92 then
    (gg n (sub t_0.fs t_0.fi (t_0.fs.length:Int))).bind λ r4 =>
    if r4.2.2=0 then
     ck (t_0.ftext.length+r4.1.length≤9223372036854775807) <|
     ck (inR (t_0.fi+r4.2.1)) <|
     some (.inl (t_0.fi+r4.2.1,t_0.ftext++r4.1))
    else
     ck (inR (t_0.fat+t_0.fi)) <|
     some (.inr ((ap.mk r4.2.2 (t_0.fat+t_0.fi) ([]:Bytes)),(ak.mk t_0.fs t_0.fat t_0.fi t_0.ffrom t_0.ftext t_0.fparts t_0.fopen)))
   else
    (aZ (sub t_0.fs t_0.fi (t_0.fs.length:Int))).bind λ r10 =>
    (
      if r10.1=65533 then
       if r10.2=1 then
        some true
       else
        if r10.1 < 32 then
         some true
        else
         if r10.1=127 then
          some true
         else
          some (decide (r10.1=34))
      else
       if r10.1 < 32 then
        some true
       else
        if r10.1=127 then
         some true
        else
         some (decide (r10.1=34))
     : Option Bool).bind λ t18 =>
    if t18=true then
     ck (inR (t_0.fat+t_0.fi)) <|
     some (.inr ((ap.mk 2 (t_0.fat+t_0.fi) ([]:Bytes)),(ak.mk t_0.fs t_0.fat t_0.fi t_0.ffrom t_0.ftext t_0.fparts t_0.fopen)))
    else
     ck ((0:Int)≤0∧0≤r10.2∧r10.2≤((sub t_0.fs t_0.fi (t_0.fs.length:Int)).length:Int)) <|
     ck (t_0.ftext.length+(sub (sub t_0.fs t_0.fi (t_0.fs.length:Int)) 0 r10.2).length≤9223372036854775807) <|
     ck (inR (t_0.fi+r10.2)) <|
     some (.inl (t_0.fi+r10.2,t_0.ftext++(sub (sub t_0.fs t_0.fi (t_0.fs.length:Int)) 0 r10.2)))
  : Option ((Int×Bytes)⊕(ap×ak))) λ q28 =>
 (dN (ak.mk t_0.fs t_0.fat q28.1 t_0.ffrom q28.2 t_0.fparts t_0.fopen)).bind λ r26 =>
 some (r26.1,(ak.mk r26.2.fs r26.2.fat r26.2.fi r26.2.ffrom r26.2.ftext r26.2.fparts r26.2.fopen))
theorem mn (n:Nat)(t_0:ak)(r:ap×ak)(h0:dl n t_0=some r):aW Tryz.prog 78 [.ptr 1000000 0] [(1000000,[.p (eS t_0.fs),.p (eI t_0.fat),.p (eI t_0.fi),.p (eI t_0.ffrom),.p (eS t_0.ftext),.vec 900000 11 0 (t_0.fparts.map ag),.p (eB t_0.fopen)])] (λ x y=>x=.p (.agg (ap.cs r.1))∧y=[(1000000,[.p (eS r.2.fs),.p (eI r.2.fat),.p (eI r.2.fi),.p (eI r.2.ffrom),.p (eS r.2.ftext),.vec 2000000 11 0 (r.2.fparts.map ag),.p (eB r.2.fopen)])]):=by
 unfold dl at h0
 refine cw good [800000] [1000000] Tryz.func78 Z Z Z Z Z λ w0 F=>mPo (λ v:ap×ak=>.p (.agg (ap.cs v.1))) (λ v=>[(1000000,[.p (eS v.2.fs),.p (eI v.2.fat),.p (eI v.2.fi),.p (eI v.2.ffrom),.p (eS v.2.ftext),.vec 2000000 11 0 (v.2.fparts.map ag),.p (eB v.2.fopen)])]) ?_
 refine nx 5 Z (cc' h0 λ hk1 h0=>?_)
 refine mD [(0,.ptr 1000000 0),(2,.ptr 2 0)] Z ⟨Z,Z,trivial⟩ Z (dR 8 Z ?_)
 refine dq (.p (eS (sub t_0.fs t_0.fi (t_0.fs.length:Int)))) [12,16] Z (λ _ e _ q=>am Z (dD (a:=t_0.fs) (l:=t_0.fi) (h:=(t_0.fs.length:Int)) Z Z Z Z Z (e _ _ Z) (fO (e _ _ Z)) Z hk1 q)) Z (dR 1 Z ?_)
 refine dE Z (nx 2 Z ?_)
 obtain ⟨o30,h1,hL0,hR0⟩:=dk h0
 refine kX (λ v31:Int×Bytes=>o30=.inl v31) (λ v31=>⟨[(0,.ptr 1000000 0),(2,.ptr 2 0)],[(2,fh),(1000000,[.p (eS t_0.fs),.p (eI t_0.fat),.p (eI v31.1),.p (eI t_0.ffrom),.p (eS v31.2),.vec 900000 11 0 (t_0.fparts.map ag),.p (eB t_0.fopen)])]⟩) (λ v31 hv=>?_) ?_
 ·have h0:=hL0 _ hv
  refine nx 4 Z (bd h0 λ r26 e27 h0=>?_)
  refine mO Z (cVq [1000000] [900000] 101000 101001 (iW (ak.mk t_0.fs t_0.fat v31.1 t_0.ffrom v31.2 t_0.fparts t_0.fopen) _ e27) Tryz.call76 Z ?_)
  exact nx 3 Z (mQo (oi h0) (bj (cn 101000 800000 Z Z Z Z Z) (ax _)) Z Z Z Z (sr) ⟨⟨_,Z,⟨sr,sr,sr,sr,sr,sr,sr,trivial⟩⟩,trivial⟩)
 refine nx 3 Z (oI h1 Z λ hk2 h1=>?_)
 refine nx 2 Z (fD [20] h1 Z (λ c3 h1=>?_) λ c3 h1=>?_)
 ·refine nx 4 Z (bd h1 λ r4 e5 h1=>?_)
  refine oK (sA _ (sub t_0.fs t_0.fi (t_0.fs.length:Int)) _ e5) Z ⟨sr,trivial⟩ Tryz.call125 Z (nx 14 Z ?_)
  refine fN [28] h1 Z (λ c6 h1=>?_) λ c6 h1=>?_
  ·refine nx 9 Z (oC h1 Z λ hk8 h1=>?_)
   refine nx 4 Z (mG (gE (t:=⟨[(0,.ptr 1000000 0),(2,.ptr 2 0),(5,.p (eI r4.2.1))],[(2,fh),(1000000,[.p (eS t_0.fs),.p (eI t_0.fat),.p (eI t_0.fi),.p (eI t_0.ffrom),.p (eS (t_0.ftext++r4.1)),.vec 900000 11 0 (t_0.fparts.map ag),.p (eB t_0.fopen)])]⟩) Z Z) ?_)
   refine nx 6 Z (oA h1 Z Z λ hk9 h1=>?_)
   exact nx 4 Z (eX _ (oi h1).symm (gE Z Z))
  refine nx 2 Z (cc' h1 λ hk7 h1=>?_)
  refine mG (gE (t:=⟨[(0,.ptr 1000000 0),(2,.ptr 2 0),(6,.p (eI r4.2.2))],[(2,fh),(1000000,[.p (eS t_0.fs),.p (eI t_0.fat),.p (eI t_0.fi),.p (eI t_0.ffrom),.p (eS t_0.ftext),.vec 900000 11 0 (t_0.fparts.map ag),.p (eB t_0.fopen)])]⟩) Z Z) (mSq ⟨1,[11],(λ _=>.none),(λ _=>[(0,.ptr 1000000 0),(2,.ptr 2 0),(6,.p (eI r4.2.2))]),(ob2 ([(2,fh),(1000000,[.p (eS t_0.fs),.p (eI t_0.fat),.p (eI t_0.fi),.p (eI t_0.ffrom),.p (eS t_0.ftext),.vec 900000 11 0 (t_0.fparts.map ag),.p (eB t_0.fopen)])]) (2,[.p (eI r4.2.2),.p (eI (t_0.fat+t_0.fi)),.p (eS ([]:Bytes))]))⟩ Z ?_)
  refine dPc (.p (eI r4.2.2)) Z (dPc (.ptr 1000000 0) Z ?_)
  refine dPc (.ptr 1000000 0) Z (dPc (.ptr 1000000 1) Z ?_)
  refine dPc (.p (eI t_0.fat)) Z (dPc (.ptr 1000000 0) Z ?_)
  refine dPc (.ptr 1000000 0) Z (dPc (.ptr 1000000 2) Z ?_)
  refine dPc (.p (eI t_0.fi)) Z (aN (λ _=>.p (eI (t_0.fat+t_0.fi))) Z Z Z (gx Z Y) (lt1 Z) (az Z (ay [(33,_),(37,_)] ⟨.inr ⟨4,_,Z,Z,Z⟩,.inr ⟨8,_,Z,Z,Z⟩,trivial⟩ (λ sl hsl K hK=>am Z (eN Z Z Z (hsl _ _ Z) (hsl _ _ Z) Z hk7 hK)) aO)) ?_)
  refine dPc (.p (.agg [eI r4.2.2,eI (t_0.fat+t_0.fi),eS ([]:Bytes)])) Z (dS Z ?_)
  refine dJ (nx 2 Z ?_)
  exact mQo (hR0 _ (oi h1).symm) (bj (cn 900000 800000 Z Z Z Z Z) (ax _)) Z Z Z Z (sr) ⟨⟨_,Z,⟨sr,sr,sr,sr,sr,sr,sr,trivial⟩⟩,trivial⟩
 refine nx 4 Z (bd h1 λ r10 e11 h1=>?_)
 refine oK (dM (sub t_0.fs t_0.fi (t_0.fs.length:Int)) _ e11) Z ⟨sr,trivial⟩ Tryz.call126 Z (nx 8 Z ?_)
 refine bd h1 λ o32 h2 h1=>kN o32 (λ v33=>⟨[(0,.ptr 1000000 0),(2,.ptr 2 0),(3,.p (eS (sub t_0.fs t_0.fi (t_0.fs.length:Int)))),(8,.p (eI r10.2)),(78,.p (eB v33))],[(2,fh),(1000000,[.p (eS t_0.fs),.p (eI t_0.fat),.p (eI t_0.fi),.p (eI t_0.ffrom),.p (eS t_0.ftext),.vec 900000 11 0 (t_0.fparts.map ag),.p (eB t_0.fopen)])]⟩) ?_ ?_
 ·refine nx 1 Z (fB [78] h1 Z (λ c19 h1=>?_) λ c19 h1=>?_)
  ·refine nx 2 Z (cc' h1 λ hk20 h1=>?_)
   refine mG (gE (t:=⟨[(0,.ptr 1000000 0),(2,.ptr 2 0)],[(2,fh),(1000000,[.p (eS t_0.fs),.p (eI t_0.fat),.p (eI t_0.fi),.p (eI t_0.ffrom),.p (eS t_0.ftext),.vec 900000 11 0 (t_0.fparts.map ag),.p (eB t_0.fopen)])]⟩) Z Z) (mSq ⟨1,[10],(λ _=>.none),(λ _=>[(0,.ptr 1000000 0),(2,.ptr 2 0)]),(ob2 ([(2,fh),(1000000,[.p (eS t_0.fs),.p (eI t_0.fat),.p (eI t_0.fi),.p (eI t_0.ffrom),.p (eS t_0.ftext),.vec 900000 11 0 (t_0.fparts.map ag),.p (eB t_0.fopen)])]) (2,[.p (eI 2),.p (eI (t_0.fat+t_0.fi)),.p (eS ([]:Bytes))]))⟩ Z ?_)
   refine dPc (.ptr 1000000 0) Z (dPc (.ptr 1000000 0) Z ?_)
   refine dPc (.ptr 1000000 1) Z (dPc (.p (eI t_0.fat)) Z ?_)
   refine dPc (.ptr 1000000 0) Z (dPc (.ptr 1000000 0) Z ?_)
   refine dPc (.ptr 1000000 2) Z (dPc (.p (eI t_0.fi)) Z ?_)
   refine aN (λ _=>.p (eI (t_0.fat+t_0.fi))) Z Z Z (gx Z Y) (lt1 Z) (az Z (ay [(82,_),(86,_)] ⟨.inr ⟨3,_,Z,Z,Z⟩,.inr ⟨7,_,Z,Z,Z⟩,trivial⟩ (λ sl hsl K hK=>am Z (eN Z Z Z (hsl _ _ Z) (hsl _ _ Z) Z hk20 hK)) aO)) (dPc (.p (.agg [eI 2,eI (t_0.fat+t_0.fi),eS ([]:Bytes)])) Z ?_)
   refine dS Z (dJ ?_)
   exact nx 2 Z (mQo (hR0 _ (oi h1).symm) (bj (cn 900000 800000 Z Z Z Z Z) (ax _)) Z Z Z Z (sr) ⟨⟨_,Z,⟨sr,sr,sr,sr,sr,sr,sr,trivial⟩⟩,trivial⟩)
  refine nx 3 Z (cc' h1 λ hk21 h1=>?_)
  refine cc' h1 λ hk22 h1=>mG (gE (t:=⟨[(0,.ptr 1000000 0),(2,.ptr 2 0),(3,.p (eS (sub t_0.fs t_0.fi (t_0.fs.length:Int)))),(8,.p (eI r10.2))],[(2,fh),(1000000,[.p (eS t_0.fs),.p (eI t_0.fat),.p (eI t_0.fi),.p (eI t_0.ffrom),.p (eS t_0.ftext),.vec 900000 11 0 (t_0.fparts.map ag),.p (eB t_0.fopen)])]⟩) Z Z) (mSq ⟨1,[10],(λ _=>.none),(λ _=>[(0,.ptr 1000000 0),(2,.ptr 2 0),(3,.p (eS (sub t_0.fs t_0.fi (t_0.fs.length:Int)))),(8,.p (eI r10.2))]),(ob2 ([(2,fh),(1000000,[.p (eS t_0.fs),.p (eI t_0.fat),.p (eI t_0.fi),.p (eI t_0.ffrom),.p (eS t_0.ftext),.vec 900000 11 0 (t_0.fparts.map ag),.p (eB t_0.fopen)])]) (1000000,[.p (eS t_0.fs),.p (eI t_0.fat),.p (eI t_0.fi),.p (eI t_0.ffrom),.p (eS (t_0.ftext++(sub (sub t_0.fs t_0.fi (t_0.fs.length:Int)) 0 r10.2))),.vec 900000 11 0 (t_0.fparts.map ag),.p (eB t_0.fopen)]))⟩ Z ?_)
  refine dPc (.ptr 1000000 0) Z (dPc (.ptr 1000000 0) Z ?_)
  refine dPc (.ptr 1000000 4) Z (dPc (.p (eS t_0.ftext)) Z ?_)
  refine dPc (.p (eS (sub t_0.fs t_0.fi (t_0.fs.length:Int)))) Z (dPc (.p (eI r10.2)) Z ?_)
  refine aN (λ _=>.p (eS (sub (sub t_0.fs t_0.fi (t_0.fs.length:Int)) 0 r10.2))) Z Z Z (gx Z Y) (lt1 Z) (az Z (ay [(93,_),(94,_)] ⟨.inr ⟨4,_,Z,Z,Z⟩,.inr ⟨5,_,Z,Z,Z⟩,trivial⟩ (λ sl hsl K hK=>am Z (dD (a:=sub t_0.fs t_0.fi (t_0.fs.length:Int)) (l:=0) (h:=r10.2) Z Z Z Z Z (hsl _ _ Z) Z (jU (hsl _ _ Z)) hk21 hK)) aO)) (aN (λ _=>.p (eS (t_0.ftext++(sub (sub t_0.fs t_0.fi (t_0.fs.length:Int)) 0 r10.2)))) Z Z Z (gx Z Y) (lt1 Z) (az Z (ay [(92,_),(95,_)] ⟨.inr ⟨3,_,Z,Z,Z⟩,.inr ⟨6,_,Z,Z,Z⟩,trivial⟩ (λ sl hsl K hK=>am Z (pJ Z Z Z (hsl _ _ Z) (hsl _ _ Z) hk22 hK)) aO)) ?_)
  refine dPc (.ptr 1000000 0) Z (dPc (.ptr 1000000 4) Z ?_)
  refine dS Z (dJ ?_)
  refine nx 7 Z (oA h1 Z Z λ hk23 h1=>?_)
  exact nx 4 Z (eX _ (oi h1).symm (gE Z Z))
 refine nx 4 Z (fD [62,63] h2 Z (λ c12 h2=>?_) λ c12 h2=>?_)
 ·refine nx 4 Z (fD [65,66,67] h2 Z (λ c13 h2=>?_) λ c13 h2=>?_)
  ·exact nx 12 Z (eX _ (oi h2).symm (gE Z Z))
  refine nx 4 Z (fD [69,70,71] h2 Z (λ c14 h2=>?_) λ c14 h2=>?_)
  ·exact nx 8 Z (eX _ (oi h2).symm (gE Z Z))
  refine nx 4 Z (fD [73,74,75] h2 Z (λ c15 h2=>?_) λ c15 h2=>?_)
  ·exact nx 4 Z (eX _ (oi h2).symm (gE Z Z))
  exact nx 4 Z (eX _ (oi h2).symm (gE Z Z))
 refine nx 8 Z (fD [69,70,71] h2 Z (λ c16 h2=>?_) λ c16 h2=>?_)
 ·exact nx 8 Z (eX _ (oi h2).symm (gE Z Z))
 refine nx 4 Z (fD [73,74,75] h2 Z (λ c17 h2=>?_) λ c17 h2=>?_)
 ·exact nx 4 Z (eX _ (oi h2).symm (gE Z Z))
 exact nx 4 Z (eX _ (oi h2).symm (gE Z Z))
def b7 (n:Nat)(p_0:ad):Option ad :=
 (aJ n p_0).bind λ r1 =>
 ck (inR (r1.2.fnest+1)) <|
 some (ad.mk r1.2.fl r1.2.fat (r1.2.fnest+1) r1.2.fbase r1.2.fbad)
theorem ef (n:Nat)(p_0:ad)(r:ad)(h0:b7 n p_0=some r):aW Tryz.prog 185 [.ptr 1000000 0] [(1000000,((ad.cs p_0).map .p))] (λ x y=>x=.tuple []∧y=[(1000000,((ad.cs r).map .p))]):=by
 unfold b7 at h0
 refine cw good [] [1000000] Tryz.func185 Z Z Z Z Z λ w0 F=>mPo (λ v:ad=>.tuple []) (λ v=>[(1000000,((ad.cs v).map .p))]) ?_
 refine nx 3 Z (bd h0 λ r1 e2 h0=>?_)
 refine mO Z (cVq [1000000] [] 101000 101000 (aR _ p_0 _ e2) Tryz.call102 Z ?_)
 refine nx 6 Z (oA h0 Z Z λ hk3 h0=>?_)
 exact nx 4 Z (ws (oi h0) (ax _) Z Z Z Z (sr) ⟨⟨_,Z,⟨sr,sr,sr,sr,sr,sr,sr,trivial⟩⟩,trivial⟩)
def bT (n:Nat)(p_0:ad)(s_1:Bytes):Option ad :=
 (aS n p_0 s_1).bind λ r1 =>
 if (!r1.1)=true then
  (ba n r1.2).bind λ r4 =>
  (bv r4.2 2 r4.1.fAt).bind λ r6 =>
  some r6.2
 else
  (aJ n r1.2).bind λ r8 =>
  some r8.2
theorem eM (n:Nat)(p_0:ad)(s_1:Bytes)(r:ad)(h0:bT n p_0 s_1=some r):aW Tryz.prog 103 [.ptr 1000000 0,.p (eS s_1)] [(1000000,((ad.cs p_0).map .p))] (λ x y=>x=.tuple []∧y=[(1000000,((ad.cs r).map .p))]):=by
 unfold bT at h0
 refine cw good [] [1000000] Tryz.func103 Z Z Z Z Z λ w0 F=>mPo (λ v:ad=>.tuple []) (λ v=>[(1000000,((ad.cs v).map .p))]) ?_
 refine nx 5 Z (bd h0 λ r1 e2 h0=>?_)
 refine mO Z (cVq [1000000] [] 101000 101000 (bu _ p_0 s_1 _ e2) Tryz.call101 Z ?_)
 refine nx 2 Z (fB [7] h0 Z (λ c3 h0=>?_) λ c3 h0=>?_)
 ·refine nx 5 Z (bd h0 λ r4 e5 h0=>?_)
  refine mO Z (cVq [1000000] [] 102000 102000 (bE _ r1.2 _ e5) Tryz.call70 Z ?_)
  refine nx 1 Z (bd h0 λ r6 e7 h0=>?_)
  refine mO Z (cVq [1000000] [] 103000 103000 (bW r4.2 2 r4.1.fAt _ e7) Tryz.call71 Z ?_)
  exact nx 2 Z (gz h0 Z)
 refine nx 4 Z (bd h0 λ r8 e9 h0=>?_)
 refine mO Z (cVq [1000000] [] 104000 104000 (aR _ r1.2 _ e9) Tryz.call102 Z ?_)
 exact nx 1 Z (ws (oi h0) (ax _) Z Z Z Z (sr) ⟨⟨_,Z,⟨sr,sr,sr,sr,sr,sr,sr,trivial⟩⟩,trivial⟩)
def bc (n:Nat)(p_0:ad)(s_1:Bytes):Option ad :=
 (bT n p_0 s_1).bind λ r1 =>
 ck (inR (r1.fnest - 1)) <|
 some (ad.mk r1.fl r1.fat (r1.fnest - 1) r1.fbase r1.fbad)
theorem dj (n:Nat)(p_0:ad)(s_1:Bytes)(r:ad)(h0:bc n p_0 s_1=some r):aW Tryz.prog 186 [.ptr 1000000 0,.p (eS s_1)] [(1000000,((ad.cs p_0).map .p))] (λ x y=>x=.tuple []∧y=[(1000000,((ad.cs r).map .p))]):=by
 unfold bc at h0
 refine cw good [] [1000000] Tryz.func186 Z Z Z Z Z λ w0 F=>mPo (λ v:ad=>.tuple []) (λ v=>[(1000000,((ad.cs v).map .p))]) ?_
 refine nx 4 Z (bd h0 λ r1 e2 h0=>?_)
 refine mO Z (cVq [1000000] [] 101000 101000 (eM _ p_0 s_1 _ e2) Tryz.call103 Z ?_)
 refine nx 6 Z (oA h0 Z Z λ hk3 h0=>?_)
 exact nx 4 Z (ws (oi h0) (ax _) Z Z Z Z (sr) ⟨⟨_,Z,⟨sr,sr,sr,sr,sr,sr,sr,trivial⟩⟩,trivial⟩)
def b9 (n:Nat)(p_0:ad)(s_1:Bytes):Option (Bool×ad) :=
 (ba n p_0).bind λ r1 =>
 (
   (aY r1.2).bind λ r3 =>
   if (!r3.1)=true then
    if r1.1.fKind=1 then
     some (decide (r1.1.fText=s_1),r3.2.fl,r3.2.fat,r3.2.fnest,r3.2.fbase,r3.2.fbad.fKind,r3.2.fbad.fAt,r3.2.fbad.fName)
    else
     some (false,r3.2.fl,r3.2.fat,r3.2.fnest,r3.2.fbase,r3.2.fbad.fKind,r3.2.fbad.fAt,r3.2.fbad.fName)
   else
    some (false,r3.2.fl,r3.2.fat,r3.2.fnest,r3.2.fbase,r3.2.fbad.fKind,r3.2.fbad.fAt,r3.2.fbad.fName)
  : Option (Bool×(List ae)×Int×Int×Int×Int×Int×Bytes)).bind λ q15 =>
 some (q15.1,(ad.mk q15.2.1 q15.2.2.1 q15.2.2.2.1 q15.2.2.2.2.1 (ap.mk q15.2.2.2.2.2.1 q15.2.2.2.2.2.2.1 q15.2.2.2.2.2.2.2)))
theorem fQ (n:Nat)(p_0:ad)(s_1:Bytes)(r:Bool×ad)(h0:b9 n p_0 s_1=some r):aW Tryz.prog 211 [.ptr 1000000 0,.p (eS s_1)] [(1000000,((ad.cs p_0).map .p))] (λ x y=>x=.p (eB r.1)∧y=[(1000000,((ad.cs r.2).map .p))]):=by
 unfold b9 at h0
 refine cw good [] [1000000] Tryz.func211 Z Z Z Z Z λ w0 F=>mPo (λ v:Bool×ad=>.p (eB v.1)) (λ v=>[(1000000,((ad.cs v.2).map .p))]) ?_
 refine nx 7 Z (bd h0 λ r1 e2 h0=>?_)
 refine mO Z (cVq [1000000] [] 101000 101000 (bE _ p_0 _ e2) Tryz.call70 Z ?_)
 refine nx 4 Z (bd h0 λ o16 h1 h0=>?_)
 refine kN o16 (λ v17=>⟨[(4,.p (eB v17.1))],[(1000000,[.p (eL bw v17.2.1),.p (eI v17.2.2.1),.p (eI v17.2.2.2.1),.p (eI v17.2.2.2.2.1),.p (eI v17.2.2.2.2.2.1),.p (eI v17.2.2.2.2.2.2.1),.p (eS v17.2.2.2.2.2.2.2)])]⟩) ?_ ?_
 ·exact nx 2 Z (gz h0 Z)
 refine nx 2 Z (bd h1 λ r3 e4 h1=>?_)
 refine mO Z (cVq [1000000] [] 102000 102000 (cX r1.2 _ e4) Tryz.call121 Z ?_)
 refine nx 2 Z (fB [10,11] h1 Z (λ c5 h1=>?_) λ c5 h1=>?_)
 ·refine nx 5 Z (fD [14,15,16] h1 Z (λ c6 h1=>?_) λ c6 h1=>?_)
  ·refine nx 3 Z (oS Z Z ?_)
   exact nx 3 Z (eX _ (oi h1).symm (gE Z Z))
  exact nx 7 Z (eX _ (oi h1).symm (gE Z Z))
 exact nx 12 Z (eX _ (oi h1).symm (gE Z Z))
def cx (n:Nat)(p_0:ad):Option (Bytes×ad) :=
 (ba n p_0).bind λ r1 =>
 (
   (aY r1.2).bind λ r3 =>
   if r3.1=true then
    some (true,r3.2.fl,r3.2.fat,r3.2.fnest,r3.2.fbase,r3.2.fbad.fKind,r3.2.fbad.fAt,r3.2.fbad.fName)
   else
    if r1.1.fKind=1 then
     (eW r1.1.fText).bind λ r7 =>
     some (r7,r3.2.fl,r3.2.fat,r3.2.fnest,r3.2.fbase,r3.2.fbad.fKind,r3.2.fbad.fAt,r3.2.fbad.fName)
    else
     some (true,r3.2.fl,r3.2.fat,r3.2.fnest,r3.2.fbase,r3.2.fbad.fKind,r3.2.fbad.fAt,r3.2.fbad.fName)
  : Option (Bool×(List ae)×Int×Int×Int×Int×Int×Bytes)).bind λ q22 =>
 if q22.1=true then
  (bv (ad.mk q22.2.1 q22.2.2.1 q22.2.2.2.1 q22.2.2.2.2.1 (ap.mk q22.2.2.2.2.2.1 q22.2.2.2.2.2.2.1 q22.2.2.2.2.2.2.2)) 2 r1.1.fAt).bind λ r18 =>
  some (([]:Bytes),r18.2)
 else
  (aJ n (ad.mk q22.2.1 q22.2.2.1 q22.2.2.2.1 q22.2.2.2.2.1 (ap.mk q22.2.2.2.2.2.1 q22.2.2.2.2.2.2.1 q22.2.2.2.2.2.2.2))).bind λ r20 =>
  some (r1.1.fText,r20.2)
theorem iw (n:Nat)(p_0:ad)(r:Bytes×ad)(h0:cx n p_0=some r):aW Tryz.prog 223 [.ptr 1000000 0] [(1000000,((ad.cs p_0).map .p))] (λ x y=>x=.p (eS r.1)∧y=[(1000000,((ad.cs r.2).map .p))]):=by
 unfold cx at h0
 refine cw good [] [1000000] Tryz.func223 Z Z Z Z Z λ w0 F=>mPo (λ v:Bytes×ad=>.p (eS v.1)) (λ v=>[(1000000,((ad.cs v.2).map .p))]) ?_
 refine nx 7 Z (bd h0 λ r1 e2 h0=>?_)
 refine mO Z (cVq [1000000] [] 101000 101000 (bE _ p_0 _ e2) Tryz.call70 Z ?_)
 refine nx 5 Z (bd h0 λ o23 h1 h0=>?_)
 refine kN o23 (λ v24=>⟨[(0,.ptr 1000000 0),(3,.ptr 3 0),(17,.p (eB v24.1))],[(3,(ae.cs r1.1).map .p),(1000000,[.p (eL bw v24.2.1),.p (eI v24.2.2.1),.p (eI v24.2.2.2.1),.p (eI v24.2.2.2.2.1),.p (eI v24.2.2.2.2.2.1),.p (eI v24.2.2.2.2.2.2.1),.p (eS v24.2.2.2.2.2.2.2)])]⟩) ?_ ?_
 ·refine nx 1 Z (fB [17] h0 Z (λ c17 h0=>?_) λ c17 h0=>?_)
  ·refine nx 6 Z (bd h0 λ r18 e19 h0=>?_)
   refine mO Z (cVq [1000000] [] 103000 103000 (bW (ad.mk o23.2.1 o23.2.2.1 o23.2.2.2.1 o23.2.2.2.2.1 (ap.mk o23.2.2.2.2.2.1 o23.2.2.2.2.2.2.1 o23.2.2.2.2.2.2.2)) 2 r1.1.fAt _ e19) Tryz.call71 Z ?_)
   exact nx 6 Z (gz h0 Z)
  refine nx 5 Z (bd h0 λ r20 e21 h0=>?_)
  refine mO Z (cVq [1000000] [] 104000 104000 (aR _ (ad.mk o23.2.1 o23.2.2.1 o23.2.2.2.1 o23.2.2.2.2.1 (ap.mk o23.2.2.2.2.2.1 o23.2.2.2.2.2.2.1 o23.2.2.2.2.2.2.2)) _ e21) Tryz.call102 Z ?_)
  exact nx 8 Z (gz h0 Z)
 refine nx 2 Z (bd h1 λ r3 e4 h1=>?_)
 refine mO Z (cVq [1000000] [] 102000 102000 (cX r1.2 _ e4) Tryz.call121 Z ?_)
 refine nx 1 Z (fB [7,8] h1 Z (λ c5 h1=>?_) λ c5 h1=>?_)
 ·exact nx 10 Z (eX _ (oi h1).symm (gE Z Z))
 refine nx 5 Z (fN [11,12,13] h1 Z (λ c6 h1=>?_) λ c6 h1=>?_)
 ·refine nx 2 Z (bd h1 λ r7 e8 h1=>?_)
  refine oK (gU r1.1.fText _ e8) Z ⟨sr,trivial⟩ Tryz.call114 Z (nx 2 Z ?_)
  exact eX _ (oi h1).symm (gE Z Z)
 exact nx 5 Z (eX _ (oi h1).symm (gE Z Z))
def cp (n:Nat)(p_0:ad)(s_1:Bytes):Option ad :=
 (b9 n p_0 s_1).bind λ r1 =>
 if (!r1.1)=true then
  (ba n r1.2).bind λ r4 =>
  (bv r4.2 2 r4.1.fAt).bind λ r6 =>
  some r6.2
 else
  (aJ n r1.2).bind λ r8 =>
  some r8.2
theorem lZ (n:Nat)(p_0:ad)(s_1:Bytes)(r:ad)(h0:cp n p_0 s_1=some r):aW Tryz.prog 224 [.ptr 1000000 0,.p (eS s_1)] [(1000000,((ad.cs p_0).map .p))] (λ x y=>x=.tuple []∧y=[(1000000,((ad.cs r).map .p))]):=by
 unfold cp at h0
 refine cw good [] [1000000] Tryz.func224 Z Z Z Z Z λ w0 F=>mPo (λ v:ad=>.tuple []) (λ v=>[(1000000,((ad.cs v).map .p))]) ?_
 refine nx 5 Z (bd h0 λ r1 e2 h0=>?_)
 refine mO Z (cVq [1000000] [] 101000 101000 (fQ _ p_0 s_1 _ e2) Tryz.call211 Z ?_)
 refine nx 2 Z (fB [7] h0 Z (λ c3 h0=>?_) λ c3 h0=>?_)
 ·refine nx 5 Z (bd h0 λ r4 e5 h0=>?_)
  refine mO Z (cVq [1000000] [] 102000 102000 (bE _ r1.2 _ e5) Tryz.call70 Z ?_)
  refine nx 1 Z (bd h0 λ r6 e7 h0=>?_)
  refine mO Z (cVq [1000000] [] 103000 103000 (bW r4.2 2 r4.1.fAt _ e7) Tryz.call71 Z ?_)
  exact nx 2 Z (gz h0 Z)
 refine nx 4 Z (bd h0 λ r8 e9 h0=>?_)
 refine mO Z (cVq [1000000] [] 104000 104000 (aR _ r1.2 _ e9) Tryz.call102 Z ?_)
 exact nx 1 Z (ws (oi h0) (ax _) Z Z Z Z (sr) ⟨⟨_,Z,⟨sr,sr,sr,sr,sr,sr,sr,trivial⟩⟩,trivial⟩)
def a8 (n:Nat)(l_1:List Bytes):Nat→Int→(List ae)→Int→Int→Int→Int→Int→Bytes→Option (((List ae)×Int×Int×Int×Int×Int×Bytes)⊕(Bytes×Bool×ad))
 | 0,_,_,_,_,_,_,_,_=>none
 | m+1,t15,f16,f17,f18,f19,f20,f21,f22 =>
 if t15 < (l_1.length:Int) then
  ck ((0:Int)≤t15∧t15 < (l_1.length:Int)) <|
  (aS n (ad.mk f16 f17 f18 f19 (ap.mk f20 f21 f22)) (lat l_1 t15)).bind λ r25 =>
  if r25.1=true then
   some (.inr (lat l_1 t15,true,r25.2))
  else
   ck (inR (t15+1)) <|
   a8 n l_1 m (t15+1) r25.2.fl r25.2.fat r25.2.fnest r25.2.fbase r25.2.fbad.fKind r25.2.fbad.fAt r25.2.fbad.fName
 else
  some (.inl (f16,f17,f18,f19,f20,f21,f22))
def cJ (n:Nat)(p_0:ad)(l_1:List Bytes):Option (Bytes×Bool×ad) :=
 jn (a8 n l_1 n 0 p_0.fl p_0.fat p_0.fnest p_0.fbase p_0.fbad.fKind p_0.fbad.fAt p_0.fbad.fName) λ q44 =>
 some (([]:Bytes),false,(ad.mk q44.1 q44.2.1 q44.2.2.1 q44.2.2.2.1 (ap.mk q44.2.2.2.2.1 q44.2.2.2.2.2.1 q44.2.2.2.2.2.2)))
theorem mZ (n:Nat)(p_0:ad)(l_1:List Bytes)(r:Bytes×Bool×ad)(h0:cJ n p_0 l_1=some r):aW Tryz.prog 140 [.ptr 1000000 0,.p (eL eS l_1)] [(1000000,((ad.cs p_0).map .p))] (λ x y=>x=.tuple [.p (eS r.1),.p (eB r.2.1)]∧y=[(1000000,((ad.cs r.2.2).map .p))]):=by
 unfold cJ at h0
 refine cw good [] [1000000] Tryz.func140 Z Z Z Z Z λ w0 F=>mPo (λ v:Bytes×Bool×ad=>.tuple [.p (eS v.1),.p (eB v.2.1)]) (λ v=>[(1000000,((ad.cs v.2.2).map .p))]) ?_
 refine nx 9 Z (oLl (f:=eS) Z Z ?_)
 refine nx 3 Z ?_
 obtain ⟨o45,h1,hL0,hR0⟩:=dk h0
 refine kEx 0 (λ v46:(List ae)×Int×Int×Int×Int×Int×Bytes=>o45=.inl v46) (λ v46=>⟨[],[(1000000,[.p (eL bw v46.1),.p (eI v46.2.1),.p (eI v46.2.2.1),.p (eI v46.2.2.2.1),.p (eI v46.2.2.2.2.1),.p (eI v46.2.2.2.2.2.1),.p (eS v46.2.2.2.2.2.2)])]⟩) (λ v46 hv=>?_) ?_
 ·have h0:=hL0 _ hv
  exact nx 7 Z (mQo (oi h0) (ax _) Z Z Z Z (aM ⟨sr,sr,trivial⟩) ⟨⟨_,Z,⟨sr,sr,sr,sr,sr,sr,sr,trivial⟩⟩,trivial⟩)
 refine lG (λ (q47:Int×(List ae)×Int×Int×Int×Int×Int×Bytes)=>⟨[(0,.ptr 1000000 0),(8,.p (eL eS l_1)),(9,.p (eI (l_1.length:Int))),(10,.p (eI q47.1))],[(1000000,[.p (eL bw q47.2.1),.p (eI q47.2.2.1),.p (eI q47.2.2.2.1),.p (eI q47.2.2.2.2.1),.p (eI q47.2.2.2.2.2.1),.p (eI q47.2.2.2.2.2.2.1),.p (eS q47.2.2.2.2.2.2.2)])]⟩) (λ m (q47:Int×(List ae)×Int×Int×Int×Int×Int×Bytes)=>a8 n l_1 m q47.1 q47.2.1 q47.2.2.1 q47.2.2.2.1 q47.2.2.2.2.1 q47.2.2.2.2.2.1 q47.2.2.2.2.2.2.1 q47.2.2.2.2.2.2.2) Y (0,p_0.fl,p_0.fat,p_0.fnest,p_0.fbase,p_0.fbad.fKind,p_0.fbad.fAt,p_0.fbad.fName) h1 (gE Z Z) ?_
 rintro m ⟨t15,f16,f17,f18,f19,f20,f21,f22⟩ h1
 replace h1:a8 n l_1 (m+1) t15 f16 f17 f18 f19 f20 f21 f22=some o45:=h1
 rw [a8] at h1
 refine nx 5 Z (fD [11] h1 Z (λ c23 h1=>?_) λ c23 h1=>?_)
 ·refine nx 6 Z (oE h1 Y Z Z Y λ hk24 h1=>?_)
  refine nx 7 Z (bd h1 λ r25 e26 h1=>?_)
  refine mO Z (cVq [1000000] [] 102000 102000 (bu _ (ad.mk f16 f17 f18 f19 (ap.mk f20 f21 f22)) (lat l_1 t15) _ e26) Tryz.call101 Z ?_)
  refine nx 1 Z (fB [16] h1 Z (λ c27 h1=>?_) λ c27 h1=>?_)
  ·exact nx 8 Z (mQo (hR0 _ (oi h1).symm) (ax _) Z Z Z Z (aM ⟨sr,sr,trivial⟩) ⟨⟨_,Z,⟨sr,sr,sr,sr,sr,sr,sr,trivial⟩⟩,trivial⟩)
  refine nx 3 Z (oA h1 Z Z λ hk28 h1=>?_)
  exact nx 2 Z (eX (t15+1,r25.2.fl,r25.2.fat,r25.2.fnest,r25.2.fbase,r25.2.fbad.fKind,r25.2.fbad.fAt,r25.2.fbad.fName) h1 (gE Z Z))
 exact nx 2 Z (eXi _ (oi h1).symm (gE Z Z))
def iL (level_0:Int):Option (List Bytes) :=
 if level_0=0 then
  some ([([124,124]:Bytes)])
 else
  if level_0=1 then
   some ([([38,38]:Bytes)])
  else
   if level_0=2 then
    some ([([61,61]:Bytes),([33,61]:Bytes)])
   else
    if level_0=3 then
     some ([([60]:Bytes),([60,61]:Bytes),([62]:Bytes),([62,61]:Bytes)])
    else
     if level_0=4 then
      some ([([43]:Bytes),([45]:Bytes)])
     else
      some ([([42]:Bytes),([47]:Bytes),([37]:Bytes)])
theorem pm (level_0:Int)(r:(List Bytes))(h0:iL level_0=some r):aK Tryz.prog 141 [eI level_0] (·=.p (eL eS r)):=by
 unfold iL at h0
 refine cB good Tryz.func141 Z Z Z λ w0=>mP (λ v:(List Bytes)=>.p (eL eS v)) ?_
 refine nx 15 Z (fD [4,5] h0 Z (λ c1 h0=>?_) λ c1 h0=>?_)
 ·refine nx 3 Z (mO Z (bQ eS [([124,124]:Bytes)] Z Z Z Z Z Z Z Z Z Z Z Z Z Z ?_))
  exact nx 3 Z (mQ (oi h0) Z (sr))
 refine nx 6 Z (fD [7,8] h0 Z (λ c2 h0=>?_) λ c2 h0=>?_)
 ·refine nx 3 Z (mO Z (bQ eS [([38,38]:Bytes)] Z Z Z Z Z Z Z Z Z Z Z Z Z Z ?_))
  exact nx 3 Z (mQ (oi h0) Z (sr))
 refine nx 6 Z (fD [10,11] h0 Z (λ c3 h0=>?_) λ c3 h0=>?_)
 ·refine nx 3 Z (mO Z (bQ eS [([61,61]:Bytes),([33,61]:Bytes)] Z Z Z Z Z Z Z Z Z Z Z Z Z Z ?_))
  exact nx 3 Z (mQ (oi h0) Z (sr))
 refine nx 6 Z (fD [13,14] h0 Z (λ c4 h0=>?_) λ c4 h0=>?_)
 ·refine nx 3 Z (mO Z (bQ eS [([60]:Bytes),([60,61]:Bytes),([62]:Bytes),([62,61]:Bytes)] Z Z Z Z Z Z Z Z Z Z Z Z Z Z ?_))
  exact nx 3 Z (mQ (oi h0) Z (sr))
 refine nx 6 Z (fD [16,17] h0 Z (λ c5 h0=>?_) λ c5 h0=>?_)
 ·refine nx 3 Z (mO Z (bQ eS [([43]:Bytes),([45]:Bytes)] Z Z Z Z Z Z Z Z Z Z Z Z Z Z ?_))
  exact nx 3 Z (mQ (oi h0) Z (sr))
 refine nx 4 Z (mO Z (bQ eS [([42]:Bytes),([47]:Bytes),([37]:Bytes)] Z Z Z Z Z Z Z Z Z Z Z Z Z Z ?_))
 exact nx 3 Z (mQ (oi h0) Z (sr))
def eF (s_0:Bytes):Nat→Int→Option (Unit⊕Int)
 | 0,_=>none
 | m+1,t7 =>
 if t7 < 13 then
  ck ((0:Int)≤t7∧t7 < 13) <|
  if lat ([([124,124]:Bytes),([38,38]:Bytes),([61,61]:Bytes),([33,61]:Bytes),([60]:Bytes),([60,61]:Bytes),([62]:Bytes),([62,61]:Bytes),([43]:Bytes),([45]:Bytes),([42]:Bytes),([47]:Bytes),([37]:Bytes)]:List Bytes) t7=s_0 then
   ck (inR (3+t7)) <|
   some (.inr (3+t7))
  else
   ck (inR (t7+1)) <|
   eF s_0 m (t7+1)
 else
  some (.inl ())
def kz (n:Nat)(s_0:Bytes):Option Int :=
 jn (eF s_0 n 0) λ q14 =>
 some 0
theorem w6 (n:Nat)(s_0:Bytes)(r:Int)(h0:kz n s_0=some r):aK Tryz.prog 142 [eS s_0] (·=.p (eI r)):=by
 unfold kz at h0
 refine cB good Tryz.func142 Z Z Z λ w0=>mP (λ v:Int=>.p (eI v)) ?_
 refine nx 11 Z ?_
 obtain ⟨o15,h1,hL0,hR0⟩:=dk h0
 refine kEx 0 (λ v16:Unit=>o15=.inl v16) (λ v16=>⟨[],[]⟩) (λ v16 hv=>?_) ?_
 ·have h0:=hL0 _ hv
  exact nx 6 Z (mQ (oi h0) Z (sr))
 refine lG (λ (q17:Int)=>⟨[(0,.p (eS s_0)),(5,.p (.agg [eS ([124,124]:Bytes),eS ([38,38]:Bytes),eS ([61,61]:Bytes),eS ([33,61]:Bytes),eS ([60]:Bytes),eS ([60,61]:Bytes),eS ([62]:Bytes),eS ([62,61]:Bytes),eS ([43]:Bytes),eS ([45]:Bytes),eS ([42]:Bytes),eS ([47]:Bytes),eS ([37]:Bytes)])),(6,.p (eI q17))],[]⟩) (λ m (q17:Int)=>eF s_0 m q17) Y 0 h1 (gE Z Z) ?_
 rintro m t7 h1
 replace h1:eF s_0 (m+1) t7=some o15:=h1
 rw [eF] at h1
 refine nx 5 Z (fD [7] h1 Z (λ c8 h1=>?_) λ c8 h1=>?_)
 ·refine nx 7 Z (cc' h1 λ hk9 h1=>?_)
  refine mO Z (ua eS ([([124,124]:Bytes),([38,38]:Bytes),([61,61]:Bytes),([33,61]:Bytes),([60]:Bytes),([60,61]:Bytes),([62]:Bytes),([62,61]:Bytes),([43]:Bytes),([45]:Bytes),([42]:Bytes),([47]:Bytes),([37]:Bytes)]:List Bytes) Z Z Z Z Z Z Z Z Z Z Z (by have:=hk9; simp only [List.length_cons,List.length_nil]; omega) ?_)
  refine nx 7 Z (oS Z Z ?_)
  refine nx 1 Z (fD [12] h1 Z (λ c10 h1=>?_) λ c10 h1=>?_)
  ·refine nx 4 Z (oA h1 Z Z λ hk11 h1=>?_)
   exact nx 3 Z (mQ (hR0 _ (oi h1).symm) Z (sr))
  refine nx 3 Z (oA h1 Z Z λ hk12 h1=>?_)
  exact nx 2 Z (eX (t7+1) h1 (gE Z Z))
 exact nx 2 Z (eXi _ (oi h1).symm (gE Z Z))
abbrev bb:List AV:=[.p (eI 0),.p (eI 0),.p (eS ([]:Bytes)),.p (eS ([]:Bytes)),.p (eI 0),.p (eI 0),.p (eS ([]:Bytes)),.p (.val (.slice none 0 0)),.p (.val (.slice none 0 0)),.p (.val (.slice none 0 0)),.p (eI 0)]
abbrev lb:List PV:=[eI 0,eI 0,eS ([]:Bytes),eS ([]:Bytes),eI 0,eI 0,eS ([]:Bytes),.val (.slice none 0 0),.val (.slice none 0 0),.val (.slice none 0 0),eI 0]
abbrev ce:List AV:=[.p (eI 0),.p (eI 0),.p (eS ([]:Bytes))]
def bm (n:Nat)(r_expr_template_interpolation:ak→Option (ap×ak)):Nat→Bytes→Int→Int→Int→Bytes→(List ac)→Bool→Option ((Bytes×Int×Int×Int×Bytes×(List ac)×Bool)⊕(ap×ak))
 | 0,_,_,_,_,_,_,_=>none
 | m+1,f35,f36,f37,f38,f39,f40,f41 =>
 if f37 < (f35.length:Int) then
  ck ((0:Int)≤f37∧f37≤(f35.length:Int)∧(f35.length:Int)≤(f35.length:Int)) <|
  (
    (strings_HasPrefix (sub f35 f37 (f35.length:Int)) ([36,36,123]:Bytes)).bind λ r44 =>
    if r44=true then
     ck (f39.length+([36,123]:Bytes).length≤9223372036854775807) <|
     ck (inR (f37+3)) <|
     (dN (ak.mk f35 f36 (f37+3) f38 (f39++([36,123]:Bytes)) f40 f41)).bind λ r49 =>
     some (r49.1.fKind,r49.1.fAt,r49.1.fName,r49.2.fs,r49.2.fat,r49.2.fi,r49.2.ffrom,r49.2.ftext,r49.2.fparts,r49.2.fopen)
    else
     (strings_HasPrefix (sub f35 f37 (f35.length:Int)) ([36,123]:Bytes)).bind λ r51 =>
     if r51=true then
      (r_expr_template_interpolation (ak.mk f35 f36 f37 f38 f39 f40 f41)).bind λ r54 =>
      some (r54.1.fKind,r54.1.fAt,r54.1.fName,r54.2.fs,r54.2.fat,r54.2.fi,r54.2.ffrom,r54.2.ftext,r54.2.fparts,r54.2.fopen)
     else
      (dl n (ak.mk f35 f36 f37 f38 f39 f40 f41)).bind λ r56 =>
      some (r56.1.fKind,r56.1.fAt,r56.1.fName,r56.2.fs,r56.2.fat,r56.2.fi,r56.2.ffrom,r56.2.ftext,r56.2.fparts,r56.2.fopen)
   : Option (Int×Int×Bytes×Bytes×Int×Int×Int×Bytes×(List ac)×Bool)).bind λ q84 =>
  if q84.1=0 then
   bm n r_expr_template_interpolation m q84.2.2.2.1 q84.2.2.2.2.1 q84.2.2.2.2.2.1 q84.2.2.2.2.2.2.1 q84.2.2.2.2.2.2.2.1 q84.2.2.2.2.2.2.2.2.1 q84.2.2.2.2.2.2.2.2.2
  else
   some (.inr ((ap.mk q84.1 q84.2.1 q84.2.2.1),(ak.mk q84.2.2.2.1 q84.2.2.2.2.1 q84.2.2.2.2.2.1 q84.2.2.2.2.2.2.1 q84.2.2.2.2.2.2.2.1 q84.2.2.2.2.2.2.2.2.1 q84.2.2.2.2.2.2.2.2.2)))
 else
  some (.inl (f35,f36,f37,f38,f39,f40,f41))
def bn (n:Nat)(r_expr_parser_binary:ad→Int→Option (ac×ad))(level_1:Int)(r5:ac×ad):Nat→Int→Int→Bytes→Bytes→Int→Int→Bytes→(List ah)→(List Bytes)→(List ac)→(List ae)→Int→Int→Int→Int→Int→Bytes→Option (((List ae)×Int×Int×Int×Int×Int×Bytes)⊕(ac×ad))
 | 0,_,_,_,_,_,_,_,_,_,_,_,_,_,_,_,_,_=>none
 | m+1,f36,f37,f38,f39,f40,f41,f42,f43,f44,f45,f46,f47,f48,f49,f50,f51,f52 =>
 (iL level_1).bind λ r53 =>
 (cJ n (ad.mk f46 f47 f48 f49 (ap.mk f50 f51 f52)) r53).bind λ r55 =>
 if (!r55.2.1)=true then
  some (.inr ((ac.mk f36 f37 f38 f39 (ah.mk f40 f41 f42 f43 f44) f45 r5.1.fAt),r55.2.2))
 else
  (aJ n r55.2.2).bind λ r58 =>
  ck (inR (level_1+1)) <|
  (r_expr_parser_binary r58.2 (level_1+1)).bind λ r61 =>
  (kz n r55.1).bind λ r63 =>
  bn n r_expr_parser_binary level_1 r5 m 7 r63 ([]:Bytes) ([]:Bytes) 0 0 ([]:Bytes) [] [] [(ac.mk f36 f37 f38 f39 (ah.mk f40 f41 f42 f43 f44) f45 r5.1.fAt),r61.1] r61.2.fl r61.2.fat r61.2.fnest r61.2.fbase r61.2.fbad.fKind r61.2.fbad.fAt r61.2.fbad.fName
def bf (n:Nat)(r_expr_parser_expr:ad→Option (ac×ad))(r1:ac×ad):Nat→Int→Int→Bytes→Bytes→Int→Int→Bytes→(List ah)→(List Bytes)→(List ac)→(List ae)→Int→Int→Int→Int→Int→Bytes→Option (((List ae)×Int×Int×Int×Int×Int×Bytes)⊕(ac×ad))
 | 0,_,_,_,_,_,_,_,_,_,_,_,_,_,_,_,_,_=>none
 | m+1,f51,f52,f53,f54,f55,f56,f57,f58,f59,f60,f61,f62,f63,f64,f65,f66,f67 =>
 jn (
   (aS n (ad.mk f61 f62 f63 f64 (ap.mk f65 f66 f67)) ([46]:Bytes)).bind λ r68 =>
   if r68.1=true then
    (aJ n r68.2).bind λ r71 =>
    (ba n r71.2).bind λ r73 =>
    if r73.1.fKind=1 then
     (aJ n r73.2).bind λ r78 =>
     some (.inl (4,r73.1.fText,[(ac.mk f51 f52 f53 f54 (ah.mk f55 f56 f57 f58 f59) f60 r1.1.fAt)],r78.2.fl,r78.2.fat,r78.2.fnest,r78.2.fbase,r78.2.fbad.fKind,r78.2.fbad.fAt,r78.2.fbad.fName))
    else
     (bv r73.2 2 r73.1.fAt).bind λ r76 =>
     some (.inr (.inr (r76.1,r76.2)))
   else
    (aS n r68.2 ([91]:Bytes)).bind λ r80 =>
    if r80.1=true then
     (b7 n r80.2).bind λ r83 =>
     (r_expr_parser_expr r83).bind λ r85 =>
     (bc n r85.2 ([93]:Bytes)).bind λ r87 =>
     some (.inl (5,([]:Bytes),[(ac.mk f51 f52 f53 f54 (ah.mk f55 f56 f57 f58 f59) f60 r1.1.fAt),r85.1],r87.fl,r87.fat,r87.fnest,r87.fbase,r87.fbad.fKind,r87.fbad.fAt,r87.fbad.fName))
    else
     some (.inr (.inr ((ac.mk f51 f52 f53 f54 (ah.mk f55 f56 f57 f58 f59) f60 r1.1.fAt),r80.2)))
  : Option ((Int×Bytes×(List ac)×(List ae)×Int×Int×Int×Int×Int×Bytes)⊕(((List ae)×Int×Int×Int×Int×Int×Bytes)⊕(ac×ad)))) λ q124 =>
 bf n r_expr_parser_expr r1 m q124.1 0 q124.2.1 ([]:Bytes) 0 0 ([]:Bytes) [] [] q124.2.2.1 q124.2.2.2.1 q124.2.2.2.2.1 q124.2.2.2.2.2.1 q124.2.2.2.2.2.2.1 q124.2.2.2.2.2.2.2.1 q124.2.2.2.2.2.2.2.2.1 q124.2.2.2.2.2.2.2.2.2
def bV (n:Nat)(r_expr_parser_expr:ad→Option (ac×ad))(end_1:Bytes):Nat→(List ac)→(List ae)→Int→Int→Int→Int→Int→Bytes→Option ((List ac)×(List ae)×Int×Int×Int×Int×Int×Bytes)
 | 0,_,_,_,_,_,_,_,_=>none
 | m+1,out31,f32,f33,f34,f35,f36,f37,f38 =>
 (
   (aY (ad.mk f32 f33 f34 f35 (ap.mk f36 f37 f38))).bind λ r39 =>
   if (!r39.1)=true then
    (aS n r39.2 end_1).bind λ r42 =>
    some (!r42.1,r42.2.fl,r42.2.fat,r42.2.fnest,r42.2.fbase,r42.2.fbad.fKind,r42.2.fbad.fAt,r42.2.fbad.fName)
   else
    some (false,r39.2.fl,r39.2.fat,r39.2.fnest,r39.2.fbase,r39.2.fbad.fKind,r39.2.fbad.fAt,r39.2.fbad.fName)
  : Option (Bool×(List ae)×Int×Int×Int×Int×Int×Bytes)).bind λ q78 =>
 if q78.1=true then
  (r_expr_parser_expr (ad.mk q78.2.1 q78.2.2.1 q78.2.2.2.1 q78.2.2.2.2.1 (ap.mk q78.2.2.2.2.2.1 q78.2.2.2.2.2.2.1 q78.2.2.2.2.2.2.2))).bind λ r53 =>
  ck ((out31.length+[r53.1].length)*160≤140737488355328) <|
  (aS n r53.2 ([44]:Bytes)).bind λ r56 =>
  if (!r56.1)=true then
   some (out31++[r53.1],r56.2.fl,r56.2.fat,r56.2.fnest,r56.2.fbase,r56.2.fbad.fKind,r56.2.fbad.fAt,r56.2.fbad.fName)
  else
   (aJ n r56.2).bind λ r59 =>
   bV n r_expr_parser_expr end_1 m (out31++[r53.1]) r59.2.fl r59.2.fat r59.2.fnest r59.2.fbase r59.2.fbad.fKind r59.2.fbad.fAt r59.2.fbad.fName
 else
  some (out31,q78.2.1,q78.2.2.1,q78.2.2.2.1,q78.2.2.2.2.1,q78.2.2.2.2.2.1,q78.2.2.2.2.2.2.1,q78.2.2.2.2.2.2.2)
def bC (n:Nat)(r_expr_parser_expr:ad→Option (ac×ad))(r_expr_parser_key:ad→Option (ac×ad)):Nat→(List ac)→(List ae)→Int→Int→Int→Int→Int→Bytes→Option ((List ac)×(List ae)×Int×Int×Int×Int×Int×Bytes)
 | 0,_,_,_,_,_,_,_,_=>none
 | m+1,out36,f37,f38,f39,f40,f41,f42,f43 =>
 (
   (aY (ad.mk f37 f38 f39 f40 (ap.mk f41 f42 f43))).bind λ r44 =>
   if (!r44.1)=true then
    (aS n r44.2 ([125]:Bytes)).bind λ r47 =>
    some (!r47.1,r47.2.fl,r47.2.fat,r47.2.fnest,r47.2.fbase,r47.2.fbad.fKind,r47.2.fbad.fAt,r47.2.fbad.fName)
   else
    some (false,r44.2.fl,r44.2.fat,r44.2.fnest,r44.2.fbase,r44.2.fbad.fKind,r44.2.fbad.fAt,r44.2.fbad.fName)
  : Option (Bool×(List ae)×Int×Int×Int×Int×Int×Bytes)).bind λ q88 =>
 if q88.1=true then
  (r_expr_parser_key (ad.mk q88.2.1 q88.2.2.1 q88.2.2.2.1 q88.2.2.2.2.1 (ap.mk q88.2.2.2.2.2.1 q88.2.2.2.2.2.2.1 q88.2.2.2.2.2.2.2))).bind λ r58 =>
  ck ((out36.length+[r58.1].length)*160≤140737488355328) <|
  (bT n r58.2 ([61]:Bytes)).bind λ r61 =>
  (r_expr_parser_expr r61).bind λ r63 =>
  ck (((out36++[r58.1]).length+[r63.1].length)*160≤140737488355328) <|
  (aS n r63.2 ([44]:Bytes)).bind λ r66 =>
  if (!r66.1)=true then
   some ((out36++[r58.1])++[r63.1],r66.2.fl,r66.2.fat,r66.2.fnest,r66.2.fbase,r66.2.fbad.fKind,r66.2.fbad.fAt,r66.2.fbad.fName)
  else
   (aJ n r66.2).bind λ r69 =>
   bC n r_expr_parser_expr r_expr_parser_key m ((out36++[r58.1])++[r63.1]) r69.2.fl r69.2.fat r69.2.fnest r69.2.fbase r69.2.fbad.fKind r69.2.fbad.fAt r69.2.fbad.fName
 else
  some (out36,q88.2.1,q88.2.2.1,q88.2.2.2.1,q88.2.2.2.2.1,q88.2.2.2.2.2.1,q88.2.2.2.2.2.2.1,q88.2.2.2.2.2.2.2)
mutual
def eq:Nat→Bytes→Int→Option (ac×ap)
 | 0,_,_=>none
 | n+1,s_0,at_1 =>
 ((de n) (ak.mk s_0 at_1 0 0 ([]:Bytes) [] false)).bind λ r1 =>
 if r1.1.fKind=0 then
  (fA (ah.mk 3 0 r1.2.ftext [] []) at_1).bind λ r4 =>
  (
    if r1.2.fopen=true then
     (ee (ak.mk r1.2.fs r1.2.fat r1.2.fi r1.2.ffrom r1.2.ftext r1.2.fparts r1.2.fopen)).bind λ r7 =>
     some (2,0,([]:Bytes),([]:Bytes),0,0,([]:Bytes),[],[],r7.fparts,at_1)
    else
     some (r4.fKind,r4.fOp,r4.fName,r4.fKey,r4.fValue.fKind,r4.fValue.fNum,r4.fValue.fStr,r4.fValue.fItems,r4.fValue.fKeys,r4.fKids,r4.fAt)
   : Option (Int×Int×Bytes×Bytes×Int×Int×Bytes×(List ah)×(List Bytes)×(List ac)×Int)).bind λ q22 =>
  (eR n (ac.mk q22.1 q22.2.1 q22.2.2.1 q22.2.2.2.1 (ah.mk q22.2.2.2.2.1 q22.2.2.2.2.2.1 q22.2.2.2.2.2.2.1 q22.2.2.2.2.2.2.2.1 q22.2.2.2.2.2.2.2.2.1) q22.2.2.2.2.2.2.2.2.2.1 q22.2.2.2.2.2.2.2.2.2.2) r1.1).bind λ r20 =>
  some (r20.1,r20.2)
 else
  some ((ac.mk 0 0 ([]:Bytes) ([]:Bytes) (ah.mk 0 0 ([]:Bytes) [] []) [] 0),r1.1)
def d5:Nat→Bytes→Int→Option (ac×ap)
 | 0,_,_=>none
 | n+1,s_0,base_1 =>
 (gN n s_0).bind λ r1 =>
 if r1.2.fKind=0 then
  ((aA n) (ad.mk r1.1 0 1 base_1 (ap.mk 0 0 ([]:Bytes)))).bind λ r5 =>
  (
    (ba n r5.2).bind λ r7 =>
    if r7.1.fKind=6 then
     some (r7.2.fl,r7.2.fat,r7.2.fnest,r7.2.fbase,r7.2.fbad.fKind,r7.2.fbad.fAt,r7.2.fbad.fName)
    else
     (bv r7.2 2 r7.1.fAt).bind λ r10 =>
     some (r10.2.fl,r10.2.fat,r10.2.fnest,r10.2.fbase,r10.2.fbad.fKind,r10.2.fbad.fAt,r10.2.fbad.fName)
   : Option ((List ae)×Int×Int×Int×Int×Int×Bytes)).bind λ q19 =>
  some (r5.1,(ap.mk q19.2.2.2.2.1 q19.2.2.2.2.2.1 q19.2.2.2.2.2.2))
 else
  ck (inR (base_1+r1.2.fAt)) <|
  some ((ac.mk 0 0 ([]:Bytes) ([]:Bytes) (ah.mk 0 0 ([]:Bytes) [] []) [] 0),(ap.mk r1.2.fKind (base_1+r1.2.fAt) ([]:Bytes)))
def de:Nat→ak→Option (ap×ak)
 | 0,_=>none
 | n+1,t_0 =>
 jn (bm n (aB n) n t_0.fs t_0.fat t_0.fi t_0.ffrom t_0.ftext t_0.fparts t_0.fopen) λ q83 =>
 some ((ap.mk 0 0 ([]:Bytes)),(ak.mk q83.1 q83.2.1 q83.2.2.1 q83.2.2.2.1 q83.2.2.2.2.1 q83.2.2.2.2.2.1 q83.2.2.2.2.2.2))
def aA:Nat→ad→Option (ac×ad)
 | 0,_=>none
 | n+1,p_0 =>
 ((aT n) p_0 0).bind λ r1 =>
 (aS n r1.2 ([63]:Bytes)).bind λ r3 =>
 if (!r3.1)=true then
  some (r1.1,r3.2)
 else
  (aJ n r3.2).bind λ r6 =>
  ((aA n) r6.2).bind λ r8 =>
  (bT n r8.2 ([58]:Bytes)).bind λ r10 =>
  ((aA n) r10).bind λ r12 =>
  some ((ac.mk 8 0 ([]:Bytes) ([]:Bytes) (ah.mk 0 0 ([]:Bytes) [] []) [r1.1,r8.1,r12.1] r1.1.fAt),r12.2)
def aB:Nat→ak→Option (ap×ak)
 | 0,_=>none
 | n+1,t_0 =>
 (ee (ak.mk t_0.fs t_0.fat t_0.fi t_0.ffrom t_0.ftext t_0.fparts t_0.fopen)).bind λ r1 =>
 ck (inR (r1.fi+2)) <|
 (cy n r1.fs (r1.fi+2)).bind λ r4 =>
 if r4 < 0 then
  ck (inR (r1.fat+r1.fi)) <|
  some ((ap.mk 40 (r1.fat+r1.fi) ([]:Bytes)),(ak.mk r1.fs r1.fat r1.fi r1.ffrom r1.ftext r1.fparts true))
 else
  ck (inR (r1.fi+2)) <|
  ck ((0:Int)≤r1.fi+2∧r1.fi+2≤r4∧r4≤(r1.fs.length:Int)) <|
  ck (inR (r1.fat+r1.fi)) <|
  ck (inR ((r1.fat+r1.fi)+2)) <|
  ((d5 n) (sub r1.fs (r1.fi+2) r4) ((r1.fat+r1.fi)+2)).bind λ r12 =>
  if r12.2.fKind=0 then
   ck ((r1.fparts.length+1)*160≤140737488355328) <|
   ck (inR (r4+1)) <|
   some ((ap.mk 0 0 ([]:Bytes)),(ak.mk r1.fs r1.fat (r4+1) (r4+1) r1.ftext (r1.fparts++[r12.1]) true))
  else
   some (r12.2,(ak.mk r1.fs r1.fat r1.fi r1.ffrom r1.ftext r1.fparts true))
def aT:Nat→ad→Int→Option (ac×ad)
 | 0,_,_=>none
 | n+1,p_0,level_1 =>
 if 5 < level_1 then
  ((ca n) p_0).bind λ r2 =>
  some (r2.1,r2.2)
 else
  ck (inR (level_1+1)) <|
  ((aT n) p_0 (level_1+1)).bind λ r5 =>
  jn (bn n (aT n) level_1 r5 n r5.1.fKind r5.1.fOp r5.1.fName r5.1.fKey r5.1.fValue.fKind r5.1.fValue.fNum r5.1.fValue.fStr r5.1.fValue.fItems r5.1.fValue.fKeys r5.1.fKids r5.2.fl r5.2.fat r5.2.fnest r5.2.fbase r5.2.fbad.fKind r5.2.fbad.fAt r5.2.fbad.fName) λ q89 =>
  none
def ca:Nat→ad→Option (ac×ad)
 | 0,_=>none
 | n+1,p_0 =>
 (
   (aS n p_0 ([33]:Bytes)).bind λ r1 =>
   if r1.1=true then
    some (1,r1.2.fl,r1.2.fat,r1.2.fnest,r1.2.fbase,r1.2.fbad.fKind,r1.2.fbad.fAt,r1.2.fbad.fName)
   else
    (aS n r1.2 ([45]:Bytes)).bind λ r4 =>
    if r4.1=true then
     some (2,r4.2.fl,r4.2.fat,r4.2.fnest,r4.2.fbase,r4.2.fbad.fKind,r4.2.fbad.fAt,r4.2.fbad.fName)
    else
     some (0,r4.2.fl,r4.2.fat,r4.2.fnest,r4.2.fbase,r4.2.fbad.fKind,r4.2.fbad.fAt,r4.2.fbad.fName)
  : Option (Int×(List ae)×Int×Int×Int×Int×Int×Bytes)).bind λ q22 =>
 if q22.1=0 then
  ((cq n) (ad.mk q22.2.1 q22.2.2.1 q22.2.2.2.1 q22.2.2.2.2.1 (ap.mk q22.2.2.2.2.2.1 q22.2.2.2.2.2.2.1 q22.2.2.2.2.2.2.2))).bind λ r16 =>
  some (r16.1,r16.2)
 else
  (aJ n (ad.mk q22.2.1 q22.2.2.1 q22.2.2.2.1 q22.2.2.2.2.1 (ap.mk q22.2.2.2.2.2.1 q22.2.2.2.2.2.2.1 q22.2.2.2.2.2.2.2))).bind λ r18 =>
  ((ca n) r18.2).bind λ r20 =>
  some ((ac.mk 6 q22.1 ([]:Bytes) ([]:Bytes) (ah.mk 0 0 ([]:Bytes) [] []) [r20.1] r18.1.fAt),r20.2)
def cq:Nat→ad→Option (ac×ad)
 | 0,_=>none
 | n+1,p_0 =>
 ((bX n) p_0).bind λ r1 =>
 jn (bf n (aA n) r1 n r1.1.fKind r1.1.fOp r1.1.fName r1.1.fKey r1.1.fValue.fKind r1.1.fValue.fNum r1.1.fValue.fStr r1.1.fValue.fItems r1.1.fValue.fKeys r1.1.fKids r1.2.fl r1.2.fat r1.2.fnest r1.2.fbase r1.2.fbad.fKind r1.2.fbad.fAt r1.2.fbad.fName) λ q123 =>
 none
def bX:Nat→ad→Option (ac×ad)
 | 0,_=>none
 | n+1,p_0 =>
 (aY p_0).bind λ r1 =>
 if r1.1=true then
  some ((ac.mk 0 0 ([]:Bytes) ([]:Bytes) (ah.mk 0 0 ([]:Bytes) [] []) [] 0),r1.2)
 else
  (ba n r1.2).bind λ r4 =>
  if r4.1.fKind=2 then
   (fz n r4.1.fText).bind λ r7 =>
   if r7.2=0 then
    (aJ n r4.2).bind λ r12 =>
    (fA (ah.mk 2 r7.1 ([]:Bytes) [] []) r4.1.fAt).bind λ r14 =>
    some (r14,r12.2)
   else
    (bv r4.2 r7.2 r4.1.fAt).bind λ r10 =>
    some (r10.1,r10.2)
  else
   if r4.1.fKind=3 then
    ((cU n) r4.2).bind λ r17 =>
    some (r17.1,r17.2)
   else
    if r4.1.fKind=1 then
     ((du n) r4.2).bind λ r20 =>
     some (r20.1,r20.2)
    else
     if r4.1.fKind=4 then
      ((dh n) r4.2).bind λ r23 =>
      some (r23.1,r23.2)
     else
      (bv r4.2 2 r4.1.fAt).bind λ r25 =>
      some (r25.1,r25.2)
def cU:Nat→ad→Option (ac×ad)
 | 0,_=>none
 | n+1,p_0 =>
 (ba n p_0).bind λ r1 =>
 ck (inR (r1.1.fAt+1)) <|
 ((eq n) r1.1.fText (r1.1.fAt+1)).bind λ r4 =>
 if r4.2.fKind=0 then
  (aJ n r1.2).bind λ r9 =>
  some ((ac.mk r4.1.fKind r4.1.fOp r4.1.fName r4.1.fKey r4.1.fValue r4.1.fKids r1.1.fAt),r9.2)
 else
  (bv r1.2 r4.2.fKind r4.2.fAt).bind λ r7 =>
  some (r7.1,r7.2)
def du:Nat→ad→Option (ac×ad)
 | 0,_=>none
 | n+1,p_0 =>
 (ba n p_0).bind λ r1 =>
 if r1.1.fText=([110,117,108,108]:Bytes) then
  (aJ n r1.2).bind λ r4 =>
  (fA (ah.mk 0 0 ([]:Bytes) [] []) r1.1.fAt).bind λ r6 =>
  some (r6,r4.2)
 else
  (
    if r1.1.fText=([116,114,117,101]:Bytes) then
     some true
    else
     some (decide (r1.1.fText=([102,97,108,115,101]:Bytes)))
   : Option Bool).bind λ t9 =>
  if t9=true then
   (aJ n r1.2).bind λ r11 =>
   (
     if r1.1.fText=([116,114,117,101]:Bytes) then
      some 1
     else
      some 0
    : Option Int).bind λ f14 =>
   (fA (ah.mk 1 f14 ([]:Bytes) [] []) r1.1.fAt).bind λ r15 =>
   some (r15,r11.2)
  else
   (eW r1.1.fText).bind λ r17 =>
   if r17=true then
    (bv r1.2 2 r1.1.fAt).bind λ r20 =>
    some (r20.1,r20.2)
   else
    (aJ n r1.2).bind λ r22 =>
    (aS n r22.2 ([40]:Bytes)).bind λ r24 =>
    if (!r24.1)=true then
     some ((ac.mk 3 0 r1.1.fText ([]:Bytes) (ah.mk 0 0 ([]:Bytes) [] []) [] r1.1.fAt),r24.2)
    else
     (b7 n r24.2).bind λ r27 =>
     ((dx n) r27 ([41]:Bytes)).bind λ r29 =>
     (bc n r29.2 ([41]:Bytes)).bind λ r31 =>
     some ((ac.mk 9 0 r1.1.fText ([]:Bytes) (ah.mk 0 0 ([]:Bytes) [] []) r29.1 r1.1.fAt),r31)
def dh:Nat→ad→Option (ac×ad)
 | 0,_=>none
 | n+1,p_0 =>
 (ba n p_0).bind λ r1 =>
 if r1.1.fText=([40]:Bytes) then
  (b7 n r1.2).bind λ r4 =>
  ((aA n) r4).bind λ r6 =>
  (bc n r6.2 ([41]:Bytes)).bind λ r8 =>
  some (r6.1,r8)
 else
  if r1.1.fText=([91]:Bytes) then
   (b7 n r1.2).bind λ r11 =>
   (b9 n r11 ([102,111,114]:Bytes)).bind λ r13 =>
   if r13.1=true then
    ((cT n) r13.2 r1.1.fAt 12).bind λ r16 =>
    some (r16.1,r16.2)
   else
    ((dx n) r13.2 ([93]:Bytes)).bind λ r18 =>
    (bc n r18.2 ([93]:Bytes)).bind λ r20 =>
    some ((ac.mk 10 0 ([]:Bytes) ([]:Bytes) (ah.mk 0 0 ([]:Bytes) [] []) r18.1 r1.1.fAt),r20)
  else
   if r1.1.fText=([123]:Bytes) then
    (b7 n r1.2).bind λ r23 =>
    (b9 n r23 ([102,111,114]:Bytes)).bind λ r25 =>
    if r25.1=true then
     ((cT n) r25.2 r1.1.fAt 13).bind λ r28 =>
     some (r28.1,r28.2)
    else
     ((cW n) r25.2).bind λ r30 =>
     (bc n r30.2 ([125]:Bytes)).bind λ r32 =>
     some ((ac.mk 11 0 ([]:Bytes) ([]:Bytes) (ah.mk 0 0 ([]:Bytes) [] []) r30.1 r1.1.fAt),r32)
   else
    (bv r1.2 2 r1.1.fAt).bind λ r34 =>
    some (r34.1,r34.2)
def dx:Nat→ad→Bytes→Option ((List ac)×ad)
 | 0,_,_=>none
 | n+1,p_0,end_1 =>
 (bV n (aA n) end_1 n [] p_0.fl p_0.fat p_0.fnest p_0.fbase p_0.fbad.fKind p_0.fbad.fAt p_0.fbad.fName).bind λ q77 =>
 some (q77.1,(ad.mk q77.2.1 q77.2.2.1 q77.2.2.2.1 q77.2.2.2.2.1 (ap.mk q77.2.2.2.2.2.1 q77.2.2.2.2.2.2.1 q77.2.2.2.2.2.2.2)))
def cT:Nat→ad→Int→Int→Option (ac×ad)
 | 0,_,_,_=>none
 | n+1,p_0,at_1,k_2 =>
 (aJ n p_0).bind λ r1 =>
 (cx n r1.2).bind λ r3 =>
 (
   (aS n r3.2 ([44]:Bytes)).bind λ r5 =>
   if r5.1=true then
    (aJ n r5.2).bind λ r8 =>
    (cx n r8.2).bind λ r10 =>
    some (r10.1,r3.1,r10.2.fl,r10.2.fat,r10.2.fnest,r10.2.fbase,r10.2.fbad.fKind,r10.2.fbad.fAt,r10.2.fbad.fName)
   else
    some (r3.1,([]:Bytes),r5.2.fl,r5.2.fat,r5.2.fnest,r5.2.fbase,r5.2.fbad.fKind,r5.2.fbad.fAt,r5.2.fbad.fName)
  : Option (Bytes×Bytes×(List ae)×Int×Int×Int×Int×Int×Bytes)).bind λ q64 =>
 (cp n (ad.mk q64.2.2.1 q64.2.2.2.1 q64.2.2.2.2.1 q64.2.2.2.2.2.1 (ap.mk q64.2.2.2.2.2.2.1 q64.2.2.2.2.2.2.2.1 q64.2.2.2.2.2.2.2.2)) ([105,110]:Bytes)).bind λ r21 =>
 ((aA n) r21).bind λ r23 =>
 ck ([r23.1].length*160≤140737488355328) <|
 (bT n r23.2 ([58]:Bytes)).bind λ r26 =>
 ((aA n) r26).bind λ r28 =>
 ck (([r23.1].length+[r28.1].length)*160≤140737488355328) <|
 (
   if k_2=13 then
    (bT n r28.2 ([61,62]:Bytes)).bind λ r32 =>
    ((aA n) r32).bind λ r34 =>
    ck ((([r23.1]++[r28.1]).length+[r34.1].length)*160≤140737488355328) <|
    some (([125]:Bytes),([r23.1]++[r28.1])++[r34.1],r34.2.fl,r34.2.fat,r34.2.fnest,r34.2.fbase,r34.2.fbad.fKind,r34.2.fbad.fAt,r34.2.fbad.fName)
   else
    some (([93]:Bytes),[r23.1]++[r28.1],r28.2.fl,r28.2.fat,r28.2.fnest,r28.2.fbase,r28.2.fbad.fKind,r28.2.fbad.fAt,r28.2.fbad.fName)
  : Option (Bytes×(List ac)×(List ae)×Int×Int×Int×Int×Int×Bytes)).bind λ q65 =>
 (
   (b9 n (ad.mk q65.2.2.1 q65.2.2.2.1 q65.2.2.2.2.1 q65.2.2.2.2.2.1 (ap.mk q65.2.2.2.2.2.2.1 q65.2.2.2.2.2.2.2.1 q65.2.2.2.2.2.2.2.2)) ([105,102]:Bytes)).bind λ r46 =>
   if r46.1=true then
    (aJ n r46.2).bind λ r49 =>
    ((aA n) r49.2).bind λ r51 =>
    ck ((q65.2.1.length+[r51.1].length)*160≤140737488355328) <|
    some (q65.2.1++[r51.1],r51.2.fl,r51.2.fat,r51.2.fnest,r51.2.fbase,r51.2.fbad.fKind,r51.2.fbad.fAt,r51.2.fbad.fName)
   else
    some (q65.2.1,r46.2.fl,r46.2.fat,r46.2.fnest,r46.2.fbase,r46.2.fbad.fKind,r46.2.fbad.fAt,r46.2.fbad.fName)
  : Option ((List ac)×(List ae)×Int×Int×Int×Int×Int×Bytes)).bind λ q66 =>
 (bc n (ad.mk q66.2.1 q66.2.2.1 q66.2.2.2.1 q66.2.2.2.2.1 (ap.mk q66.2.2.2.2.2.1 q66.2.2.2.2.2.2.1 q66.2.2.2.2.2.2.2)) q65.1).bind λ r62 =>
 some ((ac.mk k_2 0 q64.1 q64.2.1 (ah.mk 0 0 ([]:Bytes) [] []) q66.1 at_1),r62)
def cW:Nat→ad→Option ((List ac)×ad)
 | 0,_=>none
 | n+1,p_0 =>
 (bC n (aA n) (cu n) n [] p_0.fl p_0.fat p_0.fnest p_0.fbase p_0.fbad.fKind p_0.fbad.fAt p_0.fbad.fName).bind λ q87 =>
 some (q87.1,(ad.mk q87.2.1 q87.2.2.1 q87.2.2.2.1 q87.2.2.2.2.1 (ap.mk q87.2.2.2.2.2.1 q87.2.2.2.2.2.2.1 q87.2.2.2.2.2.2.2)))
def cu:Nat→ad→Option (ac×ad)
 | 0,_=>none
 | n+1,p_0 =>
 (ba n p_0).bind λ r1 =>
 if r1.1.fKind=1 then
  (aJ n r1.2).bind λ r4 =>
  (fA (ah.mk 3 0 r1.1.fText [] []) r1.1.fAt).bind λ r6 =>
  some (r6,r4.2)
 else
  if r1.1.fKind=3 then
   ((cU n) r1.2).bind λ r9 =>
   some (r9.1,r9.2)
  else
   (aS n r1.2 ([40]:Bytes)).bind λ r11 =>
   if r11.1=true then
    (b7 n r11.2).bind λ r14 =>
    ((aA n) r14).bind λ r16 =>
    (bc n r16.2 ([41]:Bytes)).bind λ r18 =>
    some (r16.1,r18)
   else
    (bv r11.2 2 r1.1.fAt).bind λ r20 =>
    some (r20.1,r20.2)
end
theorem oU (n:Nat):(∀ (s_0:Bytes) (at_1:Int) (r:ac×ap),eq n s_0 at_1=some r→aK Tryz.prog 19 [eS s_0,eI at_1] (·=.tuple [.p (.agg (ac.cs r.1)),.p (.agg (ap.cs r.2))]))∧(∀ (s_0:Bytes) (base_1:Int) (r:ac×ap),d5 n s_0 base_1=some r→aK Tryz.prog 33 [eS s_0,eI base_1] (·=.tuple [.p (.agg (ac.cs r.1)),.p (.agg (ap.cs r.2))]))∧(∀ (t_0:ak) (r:ap×ak),de n t_0=some r→aW Tryz.prog 38 [.ptr 1000000 0] [(1000000,[.p (eS t_0.fs),.p (eI t_0.fat),.p (eI t_0.fi),.p (eI t_0.ffrom),.p (eS t_0.ftext),.vec 900000 11 0 (t_0.fparts.map ag),.p (eB t_0.fopen)])] (λ x y=>x=.p (.agg (ap.cs r.1))∧y=[(1000000,[.p (eS r.2.fs),.p (eI r.2.fat),.p (eI r.2.fi),.p (eI r.2.ffrom),.p (eS r.2.ftext),.vec 2000000 11 0 (r.2.fparts.map ag),.p (eB r.2.fopen)])]))∧(∀ (p_0:ad) (r:ac×ad),aA n p_0=some r→aW Tryz.prog 65 [.ptr 1000000 0] [(1000000,((ad.cs p_0).map .p))] (λ x y=>x=.p (.agg (ac.cs r.1))∧y=[(1000000,((ad.cs r.2).map .p))]))∧(∀ (t_0:ak) (r:ap×ak),aB n t_0=some r→aW Tryz.prog 77 [.ptr 1000000 0] [(1000000,[.p (eS t_0.fs),.p (eI t_0.fat),.p (eI t_0.fi),.p (eI t_0.ffrom),.p (eS t_0.ftext),.vec 900000 11 0 (t_0.fparts.map ag),.p (eB t_0.fopen)])] (λ x y=>x=.p (.agg (ap.cs r.1))∧y=[(1000000,[.p (eS r.2.fs),.p (eI r.2.fat),.p (eI r.2.fi),.p (eI r.2.ffrom),.p (eS r.2.ftext),.vec 2000000 11 0 (r.2.fparts.map ag),.p (eB r.2.fopen)])]))∧(∀ (p_0:ad) (level_1:Int) (r:ac×ad),aT n p_0 level_1=some r→aW Tryz.prog 100 [.ptr 1000000 0,.p (eI level_1)] [(1000000,((ad.cs p_0).map .p))] (λ x y=>x=.p (.agg (ac.cs r.1))∧y=[(1000000,((ad.cs r.2).map .p))]))∧(∀ (p_0:ad) (r:ac×ad),ca n p_0=some r→aW Tryz.prog 139 [.ptr 1000000 0] [(1000000,((ad.cs p_0).map .p))] (λ x y=>x=.p (.agg (ac.cs r.1))∧y=[(1000000,((ad.cs r.2).map .p))]))∧(∀ (p_0:ad) (r:ac×ad),cq n p_0=some r→aW Tryz.prog 166 [.ptr 1000000 0] [(1000000,((ad.cs p_0).map .p))] (λ x y=>x=.p (.agg (ac.cs r.1))∧y=[(1000000,((ad.cs r.2).map .p))]))∧(∀ (p_0:ad) (r:ac×ad),bX n p_0=some r→aW Tryz.prog 184 [.ptr 1000000 0] [(1000000,((ad.cs p_0).map .p))] (λ x y=>x=.p (.agg (ac.cs r.1))∧y=[(1000000,((ad.cs r.2).map .p))]))∧(∀ (p_0:ad) (r:ac×ad),cU n p_0=some r→aW Tryz.prog 197 [.ptr 1000000 0] [(1000000,((ad.cs p_0).map .p))] (λ x y=>x=.p (.agg (ac.cs r.1))∧y=[(1000000,((ad.cs r.2).map .p))]))∧(∀ (p_0:ad) (r:ac×ad),du n p_0=some r→aW Tryz.prog 198 [.ptr 1000000 0] [(1000000,((ad.cs p_0).map .p))] (λ x y=>x=.p (.agg (ac.cs r.1))∧y=[(1000000,((ad.cs r.2).map .p))]))∧(∀ (p_0:ad) (r:ac×ad),dh n p_0=some r→aW Tryz.prog 199 [.ptr 1000000 0] [(1000000,((ad.cs p_0).map .p))] (λ x y=>x=.p (.agg (ac.cs r.1))∧y=[(1000000,((ad.cs r.2).map .p))]))∧(∀ (p_0:ad) (end_1:Bytes) (r:(List ac)×ad),dx n p_0 end_1=some r→aW Tryz.prog 210 [.ptr 1000000 0,.p (eS end_1)] [(1000000,((ad.cs p_0).map .p))] (λ x y=>x=.p (eL ag r.1)∧y=[(1000000,((ad.cs r.2).map .p))]))∧(∀ (p_0:ad) (at_1:Int) (k_2:Int) (r:ac×ad),cT n p_0 at_1 k_2=some r→aW Tryz.prog 212 [.ptr 1000000 0,.p (eI at_1),.p (eI k_2)] [(1000000,((ad.cs p_0).map .p))] (λ x y=>x=.p (.agg (ac.cs r.1))∧y=[(1000000,((ad.cs r.2).map .p))]))∧(∀ (p_0:ad) (r:(List ac)×ad),cW n p_0=some r→aW Tryz.prog 213 [.ptr 1000000 0] [(1000000,((ad.cs p_0).map .p))] (λ x y=>x=.p (eL ag r.1)∧y=[(1000000,((ad.cs r.2).map .p))]))∧(∀ (p_0:ad) (r:ac×ad),cu n p_0=some r→aW Tryz.prog 225 [.ptr 1000000 0] [(1000000,((ad.cs p_0).map .p))] (λ x y=>x=.p (.agg (ac.cs r.1))∧y=[(1000000,((ad.cs r.2).map .p))])):=by
 induction n with
 | zero=>exact ⟨(by intro s_0 at_1 r h0; cases h0),(by intro s_0 base_1 r h0; cases h0),(by intro t_0 r h0; cases h0),(by intro p_0 r h0; cases h0),(by intro t_0 r h0; cases h0),(by intro p_0 level_1 r h0; cases h0),(by intro p_0 r h0; cases h0),(by intro p_0 r h0; cases h0),(by intro p_0 r h0; cases h0),(by intro p_0 r h0; cases h0),(by intro p_0 r h0; cases h0),(by intro p_0 r h0; cases h0),(by intro p_0 end_1 r h0; cases h0),(by intro p_0 at_1 k_2 r h0; cases h0),(by intro p_0 r h0; cases h0),(by intro p_0 r h0; cases h0)⟩
 | succ n ih =>
 obtain ⟨ih_expr_Template_ok,ih_expr_whole_ok,ih_expr_template_read_ok,ih_expr_parser_expr_ok,ih_expr_template_interpolation_ok,ih_expr_parser_binary_ok,ih_expr_parser_unary_ok,ih_expr_parser_postfix_ok,ih_expr_parser_primary_ok,ih_expr_parser_text_ok,ih_expr_parser_name_ok,ih_expr_parser_enclosed_ok,ih_expr_parser_list_ok,ih_expr_parser_loop_ok,ih_expr_parser_entries_ok,ih_expr_parser_key_ok⟩:=ih
 refine ⟨?_,?_,?_,?_,?_,?_,?_,?_,?_,?_,?_,?_,?_,?_,?_,?_⟩
 ·skip
  intro s_0 at_1 r h0
  rw [eq] at h0
  refine cB good Tryz.func19 Z Z Z λ w0=>mP (λ v:ac×ap=>.tuple [.p (.agg (ac.cs v.1)),.p (.agg (ap.cs v.2))]) ?_
  refine nx 16 Z (bd h0 λ r1 e2 h0=>?_)
  refine mO Z (bB [12] [890000] 101000 101001 (ih_expr_template_read_ok (ak.mk s_0 at_1 0 0 ([]:Bytes) [] false) _ e2) Z Z Z Z Z ⟨sr,trivial⟩ Z Z ⟨⟨_,Z,⟨sr,sr,sr,sr,sr,AV.sub_nilvec _ _ _,sr,trivial⟩⟩,trivial⟩ Z Z Z Z Z Z Z Z Tryz.call38 Z Z ?_)
  refine nx 10 Z (fN [17] h0 Z (λ c3 h0=>?_) λ c3 h0=>?_)
  ·refine nx 10 Z (bd h0 λ r4 e5 h0=>?_)
   refine oK (eG (ah.mk 3 0 r1.2.ftext [] []) at_1 _ e5) Z ⟨db ⟨.inl Z,.inl Z,.inl Z,.inr ⟨Z,Z⟩,.inr ⟨Z,Z⟩,trivial⟩,sr,trivial⟩ Tryz.call39 Z (nx 4 Z ?_)
   refine bd h0 λ o23 h1 h0=>kN o23 (λ v24=>⟨[(4,.ptr 4 0),(5,.ptr 5 0),(7,.ptr 7 0),(8,.ptr 8 0)],[(4,bb),(5,ce),(7,(ap.cs r1.1).map .p),(8,[.p (eI v24.1),.p (eI v24.2.1),.p (eS v24.2.2.1),.p (eS v24.2.2.2.1),.p (eI v24.2.2.2.2.1),.p (eI v24.2.2.2.2.2.1),.p (eS v24.2.2.2.2.2.2.1),.p (eL cC v24.2.2.2.2.2.2.2.1),.p (eL eS v24.2.2.2.2.2.2.2.2.1),.p (eL ag v24.2.2.2.2.2.2.2.2.2.1),.p (eI v24.2.2.2.2.2.2.2.2.2.2)])]⟩) ?_ ?_
   ·refine nx 5 Z (bd h0 λ r20 e21 h0=>?_)
    refine oK (np _ (ac.mk o23.1 o23.2.1 o23.2.2.1 o23.2.2.2.1 (ah.mk o23.2.2.2.2.1 o23.2.2.2.2.2.1 o23.2.2.2.2.2.2.1 o23.2.2.2.2.2.2.2.1 o23.2.2.2.2.2.2.2.2.1) o23.2.2.2.2.2.2.2.2.2.1 o23.2.2.2.2.2.2.2.2.2.2) r1.1 _ e21) Z ⟨sr,sr,trivial⟩ Tryz.call34 Z (nx 6 Z ?_)
    exact mQ (oi h0) Z (aM ⟨sr,sr,trivial⟩)
   refine nx 7 Z (fB [30] h1 Z (λ c6 h1=>?_) λ c6 h1=>?_)
   ·refine nx 4 Z (bd h1 λ r7 e8 h1=>?_)
    refine mO Z (cVq [12] [101000] 102000 102001 (iN (ak.mk r1.2.fs r1.2.fat r1.2.fi r1.2.ffrom r1.2.ftext r1.2.fparts r1.2.fopen) _ e8) Tryz.call40 Z ?_)
    exact nx 10 Z (eX _ (oi h1).symm (fZ (nY ⟨er Z,er Z,er Z,er Z,trivial⟩ ⟨⟨_,Z,⟨sr,sr,sr,sr,sr,sr,sr,sr,sr,sr,sr,trivial⟩⟩,⟨_,Z,⟨sr,sr,sr,trivial⟩⟩,⟨_,Z,⟨sr,sr,sr,trivial⟩⟩,⟨_,Z,⟨sr,sr,sr,sr,sr,sr,sr,gq _,gq _,AV.sub_vec _ _ _ _,sr,trivial⟩⟩,trivial⟩)))
   exact nx 2 Z (eX _ (oi h1).symm (gE Z Z))
  refine nx 2 Z (mG (gE (t:=⟨[(4,.ptr 4 0),(5,.ptr 5 0),(7,.ptr 7 0)],[(4,bb),(5,ce),(7,(ap.cs r1.1).map .p)]⟩) Z Z) ?_)
  refine mSq ⟨2,[2,3],(λ _=>.none),(λ _=>[(4,.ptr 4 0),(5,.ptr 5 0),(7,.ptr 7 0)]),(ob3 ([(4,bb),(5,ce),(7,((ap.cs r1.1).map .p))]) (4,bb) (5,((ap.cs r1.1).map .p)))⟩ Z (dPc (.p (.agg lb)) Z ?_)
  refine dPc (.p (.agg (ap.cs r1.1))) Z (dS Z ?_)
  refine dS Z (dJ ?_)
  exact nx 2 Z (mQ (oi h0) Z (aM ⟨db ⟨.inl Z,.inl Z,.inl Z,.inl Z,.inl Z,.inl Z,.inl Z,.inr ⟨Z,Z⟩,.inr ⟨Z,Z⟩,.inr ⟨Z,Z⟩,.inl Z,trivial⟩,sr,trivial⟩))
 ·skip
  intro s_0 base_1 r h0
  rw [d5] at h0
  refine cB good Tryz.func33 Z Z Z λ w0=>mP (λ v:ac×ap=>.tuple [.p (.agg (ac.cs v.1)),.p (.agg (ap.cs v.2))]) ?_
  refine nx 8 Z (bd h0 λ r1 e2 h0=>?_)
  refine oK (sO _ s_0 _ e2) Z ⟨sr,trivial⟩ Tryz.call25 Z (nx 14 Z ?_)
  refine fN [18] h0 Z (λ c3 h0=>?_) λ c3 h0=>?_
  ·refine nx 13 Z (bd h0 λ r5 e6 h0=>?_)
   refine mO Z (cVq [30] [] 101000 101000 (ih_expr_parser_expr_ok (ad.mk r1.1 0 1 base_1 (ap.mk 0 0 ([]:Bytes))) _ e6) Tryz.call65 Z ?_)
   refine nx 4 Z (bd h0 λ o20 h1 h0=>?_)
   refine kN o20 (λ v21=>⟨[(4,.ptr 4 0),(5,.ptr 5 0),(8,.ptr 30 0),(9,.ptr 9 0)],[(4,bb),(5,ce),(9,(ac.cs r5.1).map .p),(30,[.p (eL bw v21.1),.p (eI v21.2.1),.p (eI v21.2.2.1),.p (eI v21.2.2.2.1),.p (eI v21.2.2.2.2.1),.p (eI v21.2.2.2.2.2.1),.p (eS v21.2.2.2.2.2.2)])]⟩) ?_ ?_
   ·refine nx 2 Z (mG (gE (t:=⟨[(4,.ptr 4 0),(5,.ptr 5 0),(8,.ptr 30 0),(9,.ptr 9 0)],[(4,bb),(5,ce),(9,(ac.cs r5.1).map .p),(30,[.p (eL bw o20.1),.p (eI o20.2.1),.p (eI o20.2.2.1),.p (eI o20.2.2.2.1),.p (eI o20.2.2.2.2.1),.p (eI o20.2.2.2.2.2.1),.p (eS o20.2.2.2.2.2.2)])]⟩) Z Z) ?_)
    refine mSq ⟨2,[5,6],(λ _=>.none),(λ _=>[(4,.ptr 4 0),(5,.ptr 5 0),(8,.ptr 30 0),(9,.ptr 9 0)]),(ob3 ([(4,bb),(5,ce),(9,((ac.cs r5.1).map .p)),(30,[.p (eL bw o20.1),.p (eI o20.2.1),.p (eI o20.2.2.1),.p (eI o20.2.2.2.1),.p (eI o20.2.2.2.2.1),.p (eI o20.2.2.2.2.2.1),.p (eS o20.2.2.2.2.2.2)])]) (4,((ac.cs r5.1).map .p)) (5,[.p (eI o20.2.2.2.2.1),.p (eI o20.2.2.2.2.2.1),.p (eS o20.2.2.2.2.2.2)]))⟩ Z (dPc (.p (.agg (ac.cs r5.1))) Z ?_)
    refine dPc (.ptr 30 0) Z (dPc (.ptr 30 0) Z ?_)
    refine dPc (.ptr 30 4) Z (dPc (.p (.agg [eI o20.2.2.2.2.1,eI o20.2.2.2.2.2.1,eS o20.2.2.2.2.2.2])) Z ?_)
    refine dS Z (dS Z ?_)
    refine dJ (nx 2 Z ?_)
    exact mQ (oi h0) Z (aM ⟨sr,sr,trivial⟩)
   refine nx 3 Z (bd h1 λ r7 e8 h1=>?_)
   refine mO Z (cVq [30] [] 102000 102000 (bE _ r5.2 _ e8) Tryz.call70 Z ?_)
   refine nx 9 Z (fN [37] h1 Z (λ c9 h1=>?_) λ c9 h1=>?_)
   ·exact nx 2 Z (eX _ (oi h1).symm (gE Z Z))
   refine nx 5 Z (bd h1 λ r10 e11 h1=>?_)
   refine mO Z (cVq [30] [] 103000 103000 (bW r7.2 2 r7.1.fAt _ e11) Tryz.call71 Z ?_)
   exact nx 1 Z (eX _ (oi h1).symm (gE Z Z))
  refine nx 2 Z (cc' h0 λ hk4 h0=>?_)
  refine mG (gE (t:=⟨[(1,.p (eI base_1)),(4,.ptr 4 0),(5,.ptr 5 0),(7,.ptr 7 0)],[(4,bb),(5,ce),(7,(ap.cs r1.2).map .p)]⟩) Z Z) (mSq ⟨2,[8,9],(λ _=>.none),(λ _=>[(1,.p (eI base_1)),(4,.ptr 4 0),(5,.ptr 5 0),(7,.ptr 7 0)]),(ob3 ([(4,bb),(5,ce),(7,((ap.cs r1.2).map .p))]) (4,bb) (5,[.p (eI r1.2.fKind),.p (eI (base_1+r1.2.fAt)),.p (eS ([]:Bytes))]))⟩ Z ?_)
  refine dPc (.p (.agg lb)) Z (dPc (.ptr 7 0) Z ?_)
  refine dPc (.p (eI r1.2.fKind)) Z (dPc (.p (eI base_1)) Z ?_)
  refine dPc (.ptr 7 1) Z (dPc (.p (eI r1.2.fAt)) Z ?_)
  refine aN (λ _=>.p (eI (base_1+r1.2.fAt))) Z Z Z (jz Z Z Y) (lt2 Z Z) (az Z (ay [(22,_),(24,_)] ⟨.inr ⟨3,_,Z,Z,Z⟩,.inr ⟨5,_,Z,Z,Z⟩,trivial⟩ (λ sl hsl K hK=>am Z (eN Z Z Z (hsl _ _ Z) (hsl _ _ Z) Z hk4 hK)) (ay [(22,_),(24,_)] ⟨.inr ⟨3,_,Z,Z,Z⟩,.inr ⟨5,_,Z,Z,Z⟩,trivial⟩ (λ sl hsl K hK=>am Z (eN Z Z Z (hsl _ _ Z) (hsl _ _ Z) Z hk4 hK)) aO))) (dPc (.p (.agg [eI r1.2.fKind,eI (base_1+r1.2.fAt),eS ([]:Bytes)])) Z ?_)
  refine dS Z (dS Z ?_)
  refine dJ (nx 2 Z ?_)
  exact mQ (oi h0) Z (aM ⟨db ⟨.inl Z,.inl Z,.inl Z,.inl Z,.inl Z,.inl Z,.inl Z,.inr ⟨Z,Z⟩,.inr ⟨Z,Z⟩,.inr ⟨Z,Z⟩,.inl Z,trivial⟩,sr,trivial⟩)
 ·skip
  intro t_0 r h0
  rw [de] at h0
  refine cw good [800000] [1000000] Tryz.func38 Z Z Z Z Z λ w0 F=>mPo (λ v:ap×ak=>.p (.agg (ap.cs v.1))) (λ v=>[(1000000,[.p (eS v.2.fs),.p (eI v.2.fat),.p (eI v.2.fi),.p (eI v.2.ffrom),.p (eS v.2.ftext),.vec 2000000 11 0 (v.2.fparts.map ag),.p (eB v.2.fopen)])]) ?_
  refine nx 6 Z ?_
  obtain ⟨o85,h1,hL0,hR0⟩:=dk h0
  refine kEx 0 (λ v86:Bytes×Int×Int×Int×Bytes×(List ac)×Bool=>o85=.inl v86) (λ v86=>⟨[(2,.ptr 2 0)],[(2,ce),(1000000,[.p (eS v86.1),.p (eI v86.2.1),.p (eI v86.2.2.1),.p (eI v86.2.2.2.1),.p (eS v86.2.2.2.2.1),.vec 900000 11 0 (v86.2.2.2.2.2.1.map ag),.p (eB v86.2.2.2.2.2.2)])]⟩) (λ v86 hv=>?_) ?_
  ·have h0:=hL0 _ hv
   exact nx 7 Z (mQo (oi h0) (bj (cn 900000 800000 Z Z Z Z Z) (ax _)) Z Z Z Z (sr) ⟨⟨_,Z,⟨sr,sr,sr,sr,sr,sr,sr,trivial⟩⟩,trivial⟩)
  refine lG (λ (q87:Bytes×Int×Int×Int×Bytes×(List ac)×Bool)=>⟨[(0,.ptr 1000000 0),(2,.ptr 2 0)],[(2,ce),(1000000,[.p (eS q87.1),.p (eI q87.2.1),.p (eI q87.2.2.1),.p (eI q87.2.2.2.1),.p (eS q87.2.2.2.2.1),.vec 900000 11 0 (q87.2.2.2.2.2.1.map ag),.p (eB q87.2.2.2.2.2.2)])]⟩) (λ m (q87:Bytes×Int×Int×Int×Bytes×(List ac)×Bool)=>bm n (aB n) m q87.1 q87.2.1 q87.2.2.1 q87.2.2.2.1 q87.2.2.2.2.1 q87.2.2.2.2.2.1 q87.2.2.2.2.2.2) Y (t_0.fs,t_0.fat,t_0.fi,t_0.ffrom,t_0.ftext,t_0.fparts,t_0.fopen) h1 (gE Z Z) ?_
  rintro m ⟨f35,f36,f37,f38,f39,f40,f41⟩ h1
  replace h1:bm n (aB n) (m+1) f35 f36 f37 f38 f39 f40 f41=some o85:=h1
  rw [bm] at h1
  refine nx 2 Z (mD [(0,.ptr 1000000 0),(2,.ptr 2 0)] Z ⟨Z,Z,trivial⟩ Z ?_)
  refine dR 8 Z (dq (.p (eI (f35.length:Int))) [12] Z (λ _ e _ q=>am Z (lS Z Z Z Z Z (e _ _ Z) q)) Z ?_)
  refine dR 1 Z (dE Z ?_)
  refine nx 1 Z (fD [14] h1 Z (λ c42 h1=>?_) λ c42 h1=>?_)
  ·refine nx 9 Z (cc' h1 λ hk43 h1=>?_)
   refine mD [(0,.ptr 1000000 0),(2,.ptr 2 0),(3,.ptr 3 0)] Z ⟨Z,Z,Z,trivial⟩ Z (dR 8 Z ?_)
   refine dq (.p (eS (sub f35 f37 (f35.length:Int)))) [18,22] Z (λ _ e _ q=>am Z (dD (a:=f35) (l:=f37) (h:=(f35.length:Int)) Z Z Z Z Z (e _ _ Z) (fO (e _ _ Z)) Z hk43 q)) Z (dR 1 Z ?_)
   refine dE Z (nx 1 Z ?_)
   refine bd h1 λ o88 h2 h1=>kN o88 (λ v89=>⟨[(0,.ptr 1000000 0),(2,.ptr 2 0),(3,.ptr 3 0)],[(2,ce),(3,[.p (eI v89.1),.p (eI v89.2.1),.p (eS v89.2.2.1)]),(1000000,[.p (eS v89.2.2.2.1),.p (eI v89.2.2.2.2.1),.p (eI v89.2.2.2.2.2.1),.p (eI v89.2.2.2.2.2.2.1),.p (eS v89.2.2.2.2.2.2.2.1),.vec 106000 11 0 (v89.2.2.2.2.2.2.2.2.1.map ag),.p (eB v89.2.2.2.2.2.2.2.2.2)])]⟩) ?_ ?_
   ·refine nx 7 Z (fN [52] h1 Z (λ c68 h1=>?_) λ c68 h1=>?_)
    ·exact nx 2 Z (eX (o88.2.2.2.1,o88.2.2.2.2.1,o88.2.2.2.2.2.1,o88.2.2.2.2.2.2.1,o88.2.2.2.2.2.2.2.1,o88.2.2.2.2.2.2.2.2.1,o88.2.2.2.2.2.2.2.2.2) h1 (bj (cn 106000 900000 Z Z Z Z Z) (gE Z Z)))
    exact nx 7 Z (mQo (hR0 _ (oi h1).symm) (bj (cn 106000 800000 Z Z Z Z Z) (ax _)) Z Z Z Z (sr) ⟨⟨_,Z,⟨sr,sr,sr,sr,sr,sr,sr,trivial⟩⟩,trivial⟩)
   refine nx 4 Z (bd h2 λ r44 e45 h2=>?_)
   refine oK (cM (sub f35 f37 (f35.length:Int)) ([36,36,123]:Bytes) _ e45) Z ⟨sr,sr,trivial⟩ Tryz.call75 Z (nx 2 Z ?_)
   refine fB [26,28] h2 Z (λ c46 h2=>?_) λ c46 h2=>?_
   ·refine nx 7 Z (oC h2 Z λ hk47 h2=>?_)
    refine nx 10 Z (oA h2 Z Z λ hk48 h2=>?_)
    refine nx 4 Z (mG (gE (t:=⟨[(0,.ptr 1000000 0),(2,.ptr 2 0),(3,.ptr 3 0)],[(2,ce),(3,ce),(1000000,[.p (eS f35),.p (eI f36),.p (eI (f37+3)),.p (eI f38),.p (eS (f39++([36,123]:Bytes))),.vec 900000 11 0 (f40.map ag),.p (eB f41)])]⟩) Z Z) ?_)
    refine nx 2 Z (bd h2 λ r49 e50 h2=>?_)
    refine mO Z (cVq [1000000] [900000] 104000 104001 (iW (ak.mk f35 f36 (f37+3) f38 (f39++([36,123]:Bytes)) f40 f41) _ e50) Tryz.call76 Z ?_)
    exact nx 2 Z (eX _ (oi h2).symm (bj (cn 104000 106000 Z Z Z Z Z) (gE Z Z)))
   refine nx 4 Z (bd h2 λ r51 e52 h2=>?_)
   refine oK (cM (sub f35 f37 (f35.length:Int)) ([36,123]:Bytes) _ e52) Z ⟨sr,sr,trivial⟩ Tryz.call75 Z (nx 2 Z ?_)
   refine fB [45,47] h2 Z (λ c53 h2=>?_) λ c53 h2=>?_
   ·refine nx 3 Z (bd h2 λ r54 e55 h2=>?_)
    refine mO Z (cVq [1000000] [900000] 105000 105001 (ih_expr_template_interpolation_ok (ak.mk f35 f36 f37 f38 f39 f40 f41) _ e55) Tryz.call77 Z ?_)
    exact nx 2 Z (eX _ (oi h2).symm (bj (cn 105000 106000 Z Z Z Z Z) (gE Z Z)))
   refine nx 3 Z (bd h2 λ r56 e57 h2=>?_)
   refine mO Z (cVq [1000000] [900000] 106000 106001 (mn _ (ak.mk f35 f36 f37 f38 f39 f40 f41) _ e57) Tryz.call78 Z ?_)
   exact nx 2 Z (eX _ (oi h2).symm (gE Z Z))
  exact nx 2 Z (eXi _ (oi h1).symm (gE Z Z))
 ·skip
  intro p_0 r h0
  rw [aA] at h0
  refine cw good [] [1000000] Tryz.func65 Z Z Z Z Z λ w0 F=>mPo (λ v:ac×ad=>.p (.agg (ac.cs v.1))) (λ v=>[(1000000,((ad.cs v.2).map .p))]) ?_
  refine nx 7 Z (bd h0 λ r1 e2 h0=>?_)
  refine mO Z (cVq [1000000] [] 101000 101000 (ih_expr_parser_binary_ok p_0 0 _ e2) Tryz.call100 Z ?_)
  refine nx 7 Z (bd h0 λ r3 e4 h0=>?_)
  refine mO Z (cVq [1000000] [] 102000 102000 (bu _ r1.2 ([63]:Bytes) _ e4) Tryz.call101 Z ?_)
  refine nx 2 Z (fB [10] h0 Z (λ c5 h0=>?_) λ c5 h0=>?_)
  ·exact nx 7 Z (gz h0 Z)
  refine nx 5 Z (bd h0 λ r6 e7 h0=>?_)
  refine mO Z (cVq [1000000] [] 103000 103000 (aR _ r3.2 _ e7) Tryz.call102 Z ?_)
  refine nx 4 Z (bd h0 λ r8 e9 h0=>?_)
  refine mO Z (cVq [1000000] [] 104000 104000 (ih_expr_parser_expr_ok r6.2 _ e9) Tryz.call65 Z ?_)
  refine nx 6 Z (bd h0 λ r10 e11 h0=>?_)
  refine mO Z (cVq [1000000] [] 105000 105000 (eM _ r8.2 ([58]:Bytes) _ e11) Tryz.call103 Z ?_)
  refine nx 4 Z (bd h0 λ r12 e13 h0=>?_)
  refine mO Z (cVq [1000000] [] 106000 106000 (ih_expr_parser_expr_ok r10 _ e13) Tryz.call65 Z ?_)
  refine nx 8 Z (mO Z (bQ ag [r1.1,r8.1,r12.1] Z Z Z Z Z Z Z Z Z Z Z Z Z (by first | rfl | (simp only [List.map_cons,List.map_nil,ac.agg_eq]; done) | (simp only [List.map_cons,List.map_nil,ac.agg_eq]; rfl)) ?_))
  exact nx 6 Z (mQo (oi h0) (ax _) Z Z Z Z (db ⟨.inl Z,.inl Z,.inl Z,.inl Z,.inl Z,.inl Z,.inl Z,.inr ⟨Z,Z⟩,.inr ⟨Z,Z⟩,.inl Z,.inl Z,trivial⟩) ⟨⟨_,Z,⟨sr,sr,sr,sr,sr,sr,sr,trivial⟩⟩,trivial⟩)
 ·skip
  intro t_0 r h0
  rw [aB] at h0
  refine cw good [800000] [1000000] Tryz.func77 Z Z Z Z Z λ w0 F=>mPo (λ v:ap×ak=>.p (.agg (ap.cs v.1))) (λ v=>[(1000000,[.p (eS v.2.fs),.p (eI v.2.fat),.p (eI v.2.fi),.p (eI v.2.ffrom),.p (eS v.2.ftext),.vec 2000000 11 0 (v.2.fparts.map ag),.p (eB v.2.fopen)])]) ?_
  refine nx 7 Z (bd h0 λ r1 e2 h0=>?_)
  refine mO Z (cVq [1000000] [900000] 101000 101001 (iN (ak.mk t_0.fs t_0.fat t_0.fi t_0.ffrom t_0.ftext t_0.fparts t_0.fopen) _ e2) Tryz.call40 Z ?_)
  refine nx 9 Z (cc' h0 λ hk3 h0=>?_)
  refine bd h0 λ r4 e5 h0=>mD [(0,.ptr 1000000 0),(2,.ptr 2 0)] Z ⟨Z,Z,trivial⟩ Z (dR 8 Z ?_)
  refine dq (.p (eI (r1.fi+2))) [18] Z (λ _ e _ q=>am Z (eN Z Z Z (e _ _ Z) Z Z hk3 q)) Z (dq (.p (eI r4)) [14,19] Z (λ _ e _ q=>am Z (cG (qO _ r1.fs (r1.fi+2) _ e5) Z Z Z (aE (e _ _ Z) (aE (e _ _ Z) bK)) ⟨sr,sr,trivial⟩ Tryz.call124 Z q)) Z ?_)
  refine dR 1 Z (dE Z ?_)
  refine nx 7 Z (fD [22] h0 Z (λ c6 h0=>?_) λ c6 h0=>?_)
  ·refine nx 2 Z (cc' h0 λ hk7 h0=>?_)
   refine mG (gE (t:=⟨[(0,.ptr 1000000 0),(2,.ptr 2 0)],[(2,ce),(1000000,[.p (eS r1.fs),.p (eI r1.fat),.p (eI r1.fi),.p (eI r1.ffrom),.p (eS r1.ftext),.vec 101000 11 0 (r1.fparts.map ag),.p (eB true)])]⟩) Z Z) (mSq ⟨1,[10],(λ _=>.none),(λ _=>[(0,.ptr 1000000 0),(2,.ptr 2 0)]),(ob2 ([(2,ce),(1000000,[.p (eS r1.fs),.p (eI r1.fat),.p (eI r1.fi),.p (eI r1.ffrom),.p (eS r1.ftext),.vec 101000 11 0 (r1.fparts.map ag),.p (eB true)])]) (2,[.p (eI 40),.p (eI (r1.fat+r1.fi)),.p (eS ([]:Bytes))]))⟩ Z ?_)
   refine dPc (.ptr 1000000 0) Z (dPc (.ptr 1000000 0) Z ?_)
   refine dPc (.ptr 1000000 1) Z (dPc (.p (eI r1.fat)) Z ?_)
   refine dPc (.ptr 1000000 0) Z (dPc (.ptr 1000000 0) Z ?_)
   refine dPc (.ptr 1000000 2) Z (dPc (.p (eI r1.fi)) Z ?_)
   refine aN (λ _=>.p (eI (r1.fat+r1.fi))) Z Z Z (gx Z Y) (lt1 Z) (az Z (ay [(26,_),(30,_)] ⟨.inr ⟨3,_,Z,Z,Z⟩,.inr ⟨7,_,Z,Z,Z⟩,trivial⟩ (λ sl hsl K hK=>am Z (eN Z Z Z (hsl _ _ Z) (hsl _ _ Z) Z hk7 hK)) aO)) (dPc (.p (.agg [eI 40,eI (r1.fat+r1.fi),eS ([]:Bytes)])) Z ?_)
   refine dS Z (dJ ?_)
   exact nx 2 Z (mQo (oi h0) (bj (cn 101000 800000 Z Z Z Z Z) (ax _)) Z Z Z Z (sr) ⟨⟨_,Z,⟨sr,sr,sr,sr,sr,sr,sr,trivial⟩⟩,trivial⟩)
  refine nx 3 Z (cc' h0 λ hk8 h0=>?_)
  refine cc' h0 λ hk9 h0=>cc' h0 λ hk10 h0=>cc' h0 λ hk11 h0=>bd h0 λ r12 e13 h0=>mG (gE (t:=⟨[(0,.ptr 1000000 0),(2,.ptr 2 0),(3,.p (eI r4))],[(2,ce),(1000000,[.p (eS r1.fs),.p (eI r1.fat),.p (eI r1.fi),.p (eI r1.ffrom),.p (eS r1.ftext),.vec 101000 11 0 (r1.fparts.map ag),.p (eB true)])]⟩) Z Z) (mSS ⟨4,[25,26,27,28],(by5 (.some λ i=>Nat.beq i 4) (.some λ i=>Nat.beq i 5) .none .none .none),(λ _=>[(0,.ptr 1000000 0),(2,.ptr 2 0),(3,.p (eI r4))]),(ob5 ([(2,ce),(1000000,[.p (eS r1.fs),.p (eI r1.fat),.p (eI r1.fi),.p (eI r1.ffrom),.p (eS r1.ftext),.vec 101000 11 0 (r1.fparts.map ag),.p (eB true)])]) (4,bb) (5,ce) (4,((ac.cs r12.1).map .p)) (5,((ap.cs r12.2).map .p)))⟩ ⟨4,[26,25,27,28],(by5 (.some λ i=>Nat.beq i 5) (.some λ i=>Nat.beq i 4) .none .none .none),(λ _=>[(0,.ptr 1000000 0),(2,.ptr 2 0),(3,.p (eI r4))]),(ob5 ([(2,ce),(1000000,[.p (eS r1.fs),.p (eI r1.fat),.p (eI r1.fi),.p (eI r1.ffrom),.p (eS r1.ftext),.vec 101000 11 0 (r1.fparts.map ag),.p (eB true)])]) (5,ce) (4,bb) (4,((ac.cs r12.1).map .p)) (5,((ap.cs r12.2).map .p)))⟩ Z Z Z Z Z Z Z ⟨Z,Z,Z,trivial⟩ Z (lt4 ⟨Z,Z,Z,trivial⟩ ⟨Z,Z,Z,trivial⟩ ⟨Z,Z,Z,trivial⟩ ⟨Z,Z,Z,trivial⟩) (lt4 ⟨Z,Z,Z,trivial⟩ ⟨Z,Z,Z,trivial⟩ ⟨Z,Z,Z,trivial⟩ ⟨Z,Z,Z,trivial⟩) Z Z Z Z Z ?_)
  refine dPc (.ptr 1000000 0) Z (dPc (.ptr 1000000 0) Z ?_)
  refine dPc (.ptr 1000000 0) Z (dPc (.p (eS r1.fs)) Z ?_)
  refine dPc (.ptr 1000000 0) Z (dPc (.ptr 1000000 0) Z ?_)
  refine dPc (.ptr 1000000 2) Z (dPc (.p (eI r1.fi)) Z ?_)
  refine aN (λ _=>.p (eI (r1.fi+2))) Z Z Z (sN Z Z Z Z Y) (lt4 Z Z Z Z) (az Z (az Z (ay [(41,_)] ⟨.inr ⟨7,_,Z,Z,Z⟩,trivial⟩ (λ sl hsl K hK=>am Z (eN Z Z Z (hsl _ _ Z) Z Z hk8 hK)) (ay [(41,_)] ⟨.inr ⟨7,_,Z,Z,Z⟩,trivial⟩ (λ sl hsl K hK=>am Z (eN Z Z Z (hsl _ _ Z) Z Z hk8 hK)) (ay [(41,_)] ⟨.inr ⟨7,_,Z,Z,Z⟩,trivial⟩ (λ sl hsl K hK=>am Z (eN Z Z Z (hsl _ _ Z) Z Z hk8 hK)) aO))))) (dPc (.p (eI r4)) Z ?_)
  refine aN (λ _=>.p (eS (sub r1.fs (r1.fi+2) r4))) Z Z Z (sN Z Z Z Z Y) (lt4 Z Z Z Z) (az Z (az Z (ay [(37,_),(42,_),(43,_)] ⟨.inr ⟨3,_,Z,Z,Z⟩,.inr ⟨8,_,Z,Z,Z⟩,.inr ⟨9,_,Z,Z,Z⟩,trivial⟩ (λ sl hsl K hK=>am Z (dD (a:=r1.fs) (l:=r1.fi+2) (h:=r4) Z Z Z Z Z (hsl _ _ Z) (fO (hsl _ _ Z)) (jU (hsl _ _ Z)) hk9 hK)) (ay [(37,_),(42,_),(43,_)] ⟨.inr ⟨3,_,Z,Z,Z⟩,.inr ⟨8,_,Z,Z,Z⟩,.inr ⟨9,_,Z,Z,Z⟩,trivial⟩ (λ sl hsl K hK=>am Z (dD (a:=r1.fs) (l:=r1.fi+2) (h:=r4) Z Z Z Z Z (hsl _ _ Z) (fO (hsl _ _ Z)) (jU (hsl _ _ Z)) hk9 hK)) (ay [(37,_),(42,_),(43,_)] ⟨.inr ⟨3,_,Z,Z,Z⟩,.inr ⟨8,_,Z,Z,Z⟩,.inr ⟨9,_,Z,Z,Z⟩,trivial⟩ (λ sl hsl K hK=>am Z (dD (a:=r1.fs) (l:=r1.fi+2) (h:=r4) Z Z Z Z Z (hsl _ _ Z) (fO (hsl _ _ Z)) (jU (hsl _ _ Z)) hk9 hK)) aO))))) (dPc (.ptr 1000000 0) Z ?_)
  refine dPc (.ptr 1000000 0) Z (dPc (.ptr 1000000 1) Z ?_)
  refine dPc (.p (eI r1.fat)) Z (dPc (.ptr 1000000 0) Z ?_)
  refine dPc (.ptr 1000000 0) Z (dPc (.ptr 1000000 2) Z ?_)
  refine dPc (.p (eI r1.fi)) Z (aN (λ _=>.p (eI (r1.fat+r1.fi))) Z Z Z (sN Z Z Z Z Y) (lt4 Z Z Z Z) (az Z (az Z (ay [(48,_),(52,_)] ⟨.inr ⟨14,_,Z,Z,Z⟩,.inr ⟨18,_,Z,Z,Z⟩,trivial⟩ (λ sl hsl K hK=>am Z (eN Z Z Z (hsl _ _ Z) (hsl _ _ Z) Z hk10 hK)) (ay [(48,_),(52,_)] ⟨.inr ⟨14,_,Z,Z,Z⟩,.inr ⟨18,_,Z,Z,Z⟩,trivial⟩ (λ sl hsl K hK=>am Z (eN Z Z Z (hsl _ _ Z) (hsl _ _ Z) Z hk10 hK)) (ay [(48,_),(52,_)] ⟨.inr ⟨14,_,Z,Z,Z⟩,.inr ⟨18,_,Z,Z,Z⟩,trivial⟩ (λ sl hsl K hK=>am Z (eN Z Z Z (hsl _ _ Z) (hsl _ _ Z) Z hk10 hK)) aO))))) ?_)
  refine aN (λ _=>.p (eI ((r1.fat+r1.fi)+2))) Z Z Z (sN Z Z Z Z Y) (lt4 Z Z Z Z) (az Z (az Z (ay [(53,_)] ⟨.inr ⟨19,_,Z,Z,Z⟩,trivial⟩ (λ sl hsl K hK=>am Z (eN Z Z Z (hsl _ _ Z) Z Z hk11 hK)) (ay [(53,_)] ⟨.inr ⟨19,_,Z,Z,Z⟩,trivial⟩ (λ sl hsl K hK=>am Z (eN Z Z Z (hsl _ _ Z) Z Z hk11 hK)) (ay [(53,_)] ⟨.inr ⟨19,_,Z,Z,Z⟩,trivial⟩ (λ sl hsl K hK=>am Z (eN Z Z Z (hsl _ _ Z) Z Z hk11 hK)) aO))))) (aN (λ _=>.tuple [.p (.agg (ac.cs r12.1)),.p (.agg (ap.cs r12.2))]) Z Z Z (sN Z Z Z Z Y) (lt4 Z Z Z Z) (az Z (az Z (ay [(44,_),(54,_)] ⟨.inr ⟨10,_,Z,Z,Z⟩,.inr ⟨20,_,Z,Z,Z⟩,trivial⟩ (λ sl hsl K hK=>am Z (cG (ih_expr_whole_ok (sub r1.fs (r1.fi+2) r4) ((r1.fat+r1.fi)+2) _ e13) Z Z Z (aE (hsl _ _ Z) (aE (hsl _ _ Z) bK)) ⟨sr,sr,trivial⟩ Tryz.call33 Z hK)) (ay [(44,_),(54,_)] ⟨.inr ⟨10,_,Z,Z,Z⟩,.inr ⟨20,_,Z,Z,Z⟩,trivial⟩ (λ sl hsl K hK=>am Z (cG (ih_expr_whole_ok (sub r1.fs (r1.fi+2) r4) ((r1.fat+r1.fi)+2) _ e13) Z Z Z (aE (hsl _ _ Z) (aE (hsl _ _ Z) bK)) ⟨sr,sr,trivial⟩ Tryz.call33 Z hK)) (ay [(44,_),(54,_)] ⟨.inr ⟨10,_,Z,Z,Z⟩,.inr ⟨20,_,Z,Z,Z⟩,trivial⟩ (λ sl hsl K hK=>am Z (cG (ih_expr_whole_ok (sub r1.fs (r1.fi+2) r4) ((r1.fat+r1.fi)+2) _ e13) Z Z Z (aE (hsl _ _ Z) (aE (hsl _ _ Z) bK)) ⟨sr,sr,trivial⟩ Tryz.call33 Z hK)) aO))))) ?_)
  refine dPc (.tuple [.p (.agg (ac.cs r12.1)),.p (.agg (ap.cs r12.2))]) Z (dPc (.p (.agg (ac.cs r12.1))) Z ?_)
  refine dPc (.p (.agg (ap.cs r12.2))) Z (eC (λ _=>.ptr 4 0) [] Z trivial Z Z (kr Z Z Z Y) (lt4 (λ h=>absurd h (by decide)) Y Y Y) (λ sl hsl K hK=>am Z (gO Z Z Z Z Z hK)) ?_)
  refine eC (λ _=>.ptr 5 0) [] Z trivial Z Z (jz Z Z Y) (lt4 (λ h=>absurd h (by decide)) (λ h=>absurd h (by decide)) Y Y) (λ sl hsl K hK=>am Z (gO Z Z Z Z Z hK)) (dS Z ?_)
  refine dS Z (ww (dPc (.ptr 1000000 0) Z (dPc (.ptr 1000000 0) Z (dPc (.ptr 1000000 0) Z (dPc (.p (eS r1.fs)) Z (dPc (.ptr 1000000 0) Z (dPc (.ptr 1000000 0) Z (dPc (.ptr 1000000 2) Z (dPc (.p (eI r1.fi)) Z (aN (λ _=>.p (eI (r1.fi+2))) Z Z Z (sN Z Z Z Z Y) (lt4 Z Z Z Z) (az Z (az Z (ay [(41,_)] ⟨.inr ⟨7,_,Z,Z,Z⟩,trivial⟩ (λ sl hsl K hK=>am Z (eN Z Z Z (hsl _ _ Z) Z Z hk8 hK)) (ay [(41,_)] ⟨.inr ⟨7,_,Z,Z,Z⟩,trivial⟩ (λ sl hsl K hK=>am Z (eN Z Z Z (hsl _ _ Z) Z Z hk8 hK)) (ay [(41,_)] ⟨.inr ⟨7,_,Z,Z,Z⟩,trivial⟩ (λ sl hsl K hK=>am Z (eN Z Z Z (hsl _ _ Z) Z Z hk8 hK)) aO))))) (dPc (.p (eI r4)) Z (aN (λ _=>.p (eS (sub r1.fs (r1.fi+2) r4))) Z Z Z (sN Z Z Z Z Y) (lt4 Z Z Z Z) (az Z (az Z (ay [(37,_),(42,_),(43,_)] ⟨.inr ⟨3,_,Z,Z,Z⟩,.inr ⟨8,_,Z,Z,Z⟩,.inr ⟨9,_,Z,Z,Z⟩,trivial⟩ (λ sl hsl K hK=>am Z (dD (a:=r1.fs) (l:=r1.fi+2) (h:=r4) Z Z Z Z Z (hsl _ _ Z) (fO (hsl _ _ Z)) (jU (hsl _ _ Z)) hk9 hK)) (ay [(37,_),(42,_),(43,_)] ⟨.inr ⟨3,_,Z,Z,Z⟩,.inr ⟨8,_,Z,Z,Z⟩,.inr ⟨9,_,Z,Z,Z⟩,trivial⟩ (λ sl hsl K hK=>am Z (dD (a:=r1.fs) (l:=r1.fi+2) (h:=r4) Z Z Z Z Z (hsl _ _ Z) (fO (hsl _ _ Z)) (jU (hsl _ _ Z)) hk9 hK)) (ay [(37,_),(42,_),(43,_)] ⟨.inr ⟨3,_,Z,Z,Z⟩,.inr ⟨8,_,Z,Z,Z⟩,.inr ⟨9,_,Z,Z,Z⟩,trivial⟩ (λ sl hsl K hK=>am Z (dD (a:=r1.fs) (l:=r1.fi+2) (h:=r4) Z Z Z Z Z (hsl _ _ Z) (fO (hsl _ _ Z)) (jU (hsl _ _ Z)) hk9 hK)) aO))))) (dPc (.ptr 1000000 0) Z (dPc (.ptr 1000000 0) Z (dPc (.ptr 1000000 1) Z (dPc (.p (eI r1.fat)) Z (dPc (.ptr 1000000 0) Z (dPc (.ptr 1000000 0) Z (dPc (.ptr 1000000 2) Z (dPc (.p (eI r1.fi)) Z (aN (λ _=>.p (eI (r1.fat+r1.fi))) Z Z Z (sN Z Z Z Z Y) (lt4 Z Z Z Z) (az Z (az Z (ay [(48,_),(52,_)] ⟨.inr ⟨14,_,Z,Z,Z⟩,.inr ⟨18,_,Z,Z,Z⟩,trivial⟩ (λ sl hsl K hK=>am Z (eN Z Z Z (hsl _ _ Z) (hsl _ _ Z) Z hk10 hK)) (ay [(48,_),(52,_)] ⟨.inr ⟨14,_,Z,Z,Z⟩,.inr ⟨18,_,Z,Z,Z⟩,trivial⟩ (λ sl hsl K hK=>am Z (eN Z Z Z (hsl _ _ Z) (hsl _ _ Z) Z hk10 hK)) (ay [(48,_),(52,_)] ⟨.inr ⟨14,_,Z,Z,Z⟩,.inr ⟨18,_,Z,Z,Z⟩,trivial⟩ (λ sl hsl K hK=>am Z (eN Z Z Z (hsl _ _ Z) (hsl _ _ Z) Z hk10 hK)) aO))))) (aN (λ _=>.p (eI ((r1.fat+r1.fi)+2))) Z Z Z (sN Z Z Z Z Y) (lt4 Z Z Z Z) (az Z (az Z (ay [(53,_)] ⟨.inr ⟨19,_,Z,Z,Z⟩,trivial⟩ (λ sl hsl K hK=>am Z (eN Z Z Z (hsl _ _ Z) Z Z hk11 hK)) (ay [(53,_)] ⟨.inr ⟨19,_,Z,Z,Z⟩,trivial⟩ (λ sl hsl K hK=>am Z (eN Z Z Z (hsl _ _ Z) Z Z hk11 hK)) (ay [(53,_)] ⟨.inr ⟨19,_,Z,Z,Z⟩,trivial⟩ (λ sl hsl K hK=>am Z (eN Z Z Z (hsl _ _ Z) Z Z hk11 hK)) aO))))) (aN (λ _=>.tuple [.p (.agg (ac.cs r12.1)),.p (.agg (ap.cs r12.2))]) Z Z Z (sN Z Z Z Z Y) (lt4 Z Z Z Z) (az Z (az Z (ay [(44,_),(54,_)] ⟨.inr ⟨10,_,Z,Z,Z⟩,.inr ⟨20,_,Z,Z,Z⟩,trivial⟩ (λ sl hsl K hK=>am Z (cG (ih_expr_whole_ok (sub r1.fs (r1.fi+2) r4) ((r1.fat+r1.fi)+2) _ e13) Z Z Z (aE (hsl _ _ Z) (aE (hsl _ _ Z) bK)) ⟨sr,sr,trivial⟩ Tryz.call33 Z hK)) (ay [(44,_),(54,_)] ⟨.inr ⟨10,_,Z,Z,Z⟩,.inr ⟨20,_,Z,Z,Z⟩,trivial⟩ (λ sl hsl K hK=>am Z (cG (ih_expr_whole_ok (sub r1.fs (r1.fi+2) r4) ((r1.fat+r1.fi)+2) _ e13) Z Z Z (aE (hsl _ _ Z) (aE (hsl _ _ Z) bK)) ⟨sr,sr,trivial⟩ Tryz.call33 Z hK)) (ay [(44,_),(54,_)] ⟨.inr ⟨10,_,Z,Z,Z⟩,.inr ⟨20,_,Z,Z,Z⟩,trivial⟩ (λ sl hsl K hK=>am Z (cG (ih_expr_whole_ok (sub r1.fs (r1.fi+2) r4) ((r1.fat+r1.fi)+2) _ e13) Z Z Z (aE (hsl _ _ Z) (aE (hsl _ _ Z) bK)) ⟨sr,sr,trivial⟩ Tryz.call33 Z hK)) aO))))) (dPc (.tuple [.p (.agg (ac.cs r12.1)),.p (.agg (ap.cs r12.2))]) Z (dPc (.p (.agg (ac.cs r12.1))) Z (dPc (.p (.agg (ap.cs r12.2))) Z (eC (λ _=>.ptr 4 0) [] Z trivial Z Z (jz Z Z Y) (lt4 (λ h=>absurd h (by decide)) (λ h=>absurd h (by decide)) Y Y) (λ sl hsl K hK=>am Z (gO Z Z Z Z Z hK)) (eC (λ _=>.ptr 5 0) [] Z trivial Z Z (kr Z Z Z Y) (lt4 (λ h=>absurd h (by decide)) Y Y Y) (λ sl hsl K hK=>am Z (gO Z Z Z Z Z hK)) (dS Z (dS Z (Ee Z ⟨Z,Z,Z,Z,Z,Z,trivial⟩ ⟨⟨Z,Z,.inl Z⟩,⟨⟨Z,Z,.inl Z⟩,⟨⟨Z,Z,.inr Z⟩,⟨⟨Z,Z,.inr Z⟩,⟨⟨Z,Z,.inr Z⟩,⟨⟨Z,Z,.inr Z⟩,⟨⟨Z,Z,.inr Z⟩,⟨⟨Z,Z,.inr Z⟩,⟨⟨Z,Z,.inr Z⟩,⟨⟨Z,Z,.inr Z⟩,⟨⟨Z,Z,.inr Z⟩,⟨⟨Z,Z,.inr Z⟩,⟨⟨Z,Z,.inr Z⟩,⟨⟨Z,Z,.inr Z⟩,⟨⟨Z,Z,.inr Z⟩,⟨⟨Z,Z,.inr Z⟩,⟨⟨Z,Z,.inr Z⟩,⟨⟨Z,Z,.inr Z⟩,⟨⟨Z,Z,.inr Z⟩,⟨⟨Z,Z,.inr Z⟩,⟨⟨Z,Z,.inr Z⟩,⟨⟨Z,Z,.inr Z⟩,⟨⟨Z,Z,.inr Z⟩,⟨⟨Z,Z,.inr Z⟩,⟨⟨Z,Z,.inr Z⟩,⟨⟨Z,Z,.inr Z⟩,⟨⟨Z,Z,.inr Z⟩,trivial⟩⟩⟩⟩⟩⟩⟩⟩⟩⟩⟩⟩⟩⟩⟩⟩⟩⟩⟩⟩⟩⟩⟩⟩⟩⟩⟩)))))))))))))))))))))))))))))) ?_)
  refine nx 1 Z (mG (gE (t:=⟨[(0,.ptr 1000000 0),(2,.ptr 2 0),(3,.p (eI r4)),(4,.ptr 4 0),(5,.ptr 5 0)],[(2,ce),(4,(ac.cs r12.1).map .p),(5,(ap.cs r12.2).map .p),(1000000,[.p (eS r1.fs),.p (eI r1.fat),.p (eI r1.fi),.p (eI r1.ffrom),.p (eS r1.ftext),.vec 101000 11 0 (r1.fparts.map ag),.p (eB true)])]⟩) Z Z) ?_)
  refine nx 7 Z (fN [60] h0 Z (λ c14 h0=>?_) λ c14 h0=>?_)
  ·refine nx 3 Z (cc' h0 λ hk15 h0=>?_)
   refine mG (gE (t:=⟨[(0,.ptr 1000000 0),(2,.ptr 2 0),(3,.p (eI r4)),(4,.ptr 4 0)],[(2,ce),(4,(ac.cs r12.1).map .p),(1000000,[.p (eS r1.fs),.p (eI r1.fat),.p (eI r1.fi),.p (eI r1.ffrom),.p (eS r1.ftext),.vec 101000 11 0 (r1.fparts.map ag),.p (eB true)])]⟩) Z Z) (mSP ⟨3,[7,9,12],(by4 (.some λ i=>Nat.beq i 101000||Nat.beq i 69) (.fn (upP 69 11 (.agg (ac.cs r12.1)))) .none .none),(λ _=>[(0,.ptr 1000000 0),(2,.ptr 2 0),(3,.p (eI r4)),(4,.ptr 4 0)]),(by4 ([(2,ce),(4,((ac.cs r12.1).map .p)),(1000000,[.p (eS r1.fs),.p (eI r1.fat),.p (eI r1.fi),.p (eI r1.ffrom),.p (eS r1.ftext),.vec 101000 11 0 (r1.fparts.map ag),.p (eB true)])]) ([(2,ce),(4,((ac.cs r12.1).map .p)),(1000000,[.p (eS r1.fs),.p (eI r1.fat),.p (eI r1.fi),.p (eI r1.ffrom),.p (eS r1.ftext),.p (eL ag r1.fparts),.p (eB true)])]) ([(2,ce),(4,((ac.cs r12.1).map .p)),(1000000,[.p (eS r1.fs),.p (eI r1.fat),.p (eI r1.fi),.p (eI r1.ffrom),.p (eS r1.ftext),.p (eL ag r1.fparts),.p (eB true)])]) ([(1000000,[.p (eS r1.fs),.p (eI r1.fat),.p (eI r1.fi),.p (eI r1.ffrom),.p (eS r1.ftext),.vec 69 11 0 (r1.fparts.map ag++[.agg (ac.cs r12.1)]),.p (eB true)]),(2,ce),(4,((ac.cs r12.1).map .p)),(1000000,[.p (eS r1.fs),.p (eI r1.fat),.p (eI r1.fi),.p (eI r1.ffrom),.p (eS r1.ftext),.p (eL ag r1.fparts),.p (eB true)])]))⟩ ⟨3,[7,12,9],(by4 (.some λ i=>Nat.beq i 101000||Nat.beq i 69) .none (.fn (upP 69 11 (.agg (ac.cs r12.1)))) .none),(λ _=>[(0,.ptr 1000000 0),(2,.ptr 2 0),(3,.p (eI r4)),(4,.ptr 4 0)]),(by4 ([(2,ce),(4,((ac.cs r12.1).map .p)),(1000000,[.p (eS r1.fs),.p (eI r1.fat),.p (eI r1.fi),.p (eI r1.ffrom),.p (eS r1.ftext),.vec 101000 11 0 (r1.fparts.map ag),.p (eB true)])]) ([(2,ce),(4,((ac.cs r12.1).map .p)),(1000000,[.p (eS r1.fs),.p (eI r1.fat),.p (eI r1.fi),.p (eI r1.ffrom),.p (eS r1.ftext),.p (eL ag r1.fparts),.p (eB true)])]) ([(1000000,[.p (eS r1.fs),.p (eI r1.fat),.p (eI r1.fi),.p (eI r1.ffrom),.p (eS r1.ftext),.vecp 69 11 0 (r1.fparts.map ag),.p (eB true)]),(2,ce),(4,((ac.cs r12.1).map .p)),(1000000,[.p (eS r1.fs),.p (eI r1.fat),.p (eI r1.fi),.p (eI r1.ffrom),.p (eS r1.ftext),.p (eL ag r1.fparts),.p (eB true)])]) ([(1000000,[.p (eS r1.fs),.p (eI r1.fat),.p (eI r1.fi),.p (eI r1.ffrom),.p (eS r1.ftext),.vec 69 11 0 (r1.fparts.map ag++[.agg (ac.cs r12.1)]),.p (eB true)]),(2,ce),(4,((ac.cs r12.1).map .p)),(1000000,[.p (eS r1.fs),.p (eI r1.fat),.p (eI r1.fi),.p (eI r1.ffrom),.p (eS r1.ftext),.p (eL ag r1.fparts),.p (eB true)])]))⟩ Z Z Z Z Z Z Z ⟨Z,Z,Z,Z,trivial⟩ Z (lt3 ⟨Z,Z,Z,Z,trivial⟩ ⟨Z,Z,Z,Z,trivial⟩ ⟨Z,Z,Z,Z,trivial⟩) (lt3 ⟨Z,Z,Z,Z,trivial⟩ ⟨Z,Z,Z,Z,trivial⟩ ⟨Z,Z,Z,Z,trivial⟩) Z Z Z Z Z ?_)
   refine dPc (.ptr 1000000 0) Z (dPc (.ptr 1000000 0) Z ?_)
   refine dPc (.ptr 1000000 5) Z (dP (by4 (.vec 101000 11 0 (r1.fparts.map ag)) (.p (eL ag r1.fparts)) (.p (eL ag r1.fparts)) (.p (eL ag r1.fparts))) Z ?_)
   refine dPc (.p (.agg (ac.cs r12.1))) Z (aN (λ _=>.p (eI (r1.fparts.length:Int))) Z Z Z (kr Z Z Z Y) (lt3 Z Z Z) (az Z (az Z (az Z (ay [(65,_)] ⟨.inr ⟨3,_,Z,Z,Z⟩,trivial⟩ (λ sl hsl K hK=>am Z (oY (f:=ag) (l:=r1.fparts) Z Z Z Z Z (hsl _ _ Z) Z hK)) aO)))) ?_)
   refine aN (λ _=>.p (eL (λ x:PV=>x) [.agg lb])) Z Z Z (kr Z Z Z Y) (lt3 Z Z Z) (az Z (az Z (az Z (ay [] trivial (λ sl hsl K hK=>am Z (bQ (λ x:PV=>x) [.agg lb] Z Z Z Z Z Z (eA Z Z fY) Z Z Z Z Z Z Z hK)) aO)))) (eC (by4 (.vecp 69 11 0 (r1.fparts.map ag)) (.vecp 69 11 0 (r1.fparts.map ag)) (.vec 69 11 0 (r1.fparts.map ag++[.agg (ac.cs r12.1)])) (.vec 69 11 0 (r1.fparts.map ag++[.agg (ac.cs r12.1)]))) [(65,_),(68,_)] Z ⟨.inr ⟨3,_,Z,Z,Z⟩,.inr ⟨6,_,Z,Z,Z⟩,trivial⟩ Z Z (jz Z Z Y) (lt3 (λ h=>absurd h (by decide)) Y Y) (λ sl hsl K hK=>am Z (pk ag r1.fparts Z Z Z Z Z Z Z Z (hsl _ _ Z) Z Z (hsl _ _ Z) Z Z Z Z Z hk15 hK)) ?_)
   refine pd (by4 (.elp 69 11) (.elp 69 11) .undef .undef) Z Z Z (kr Z Z Z Y) (lt3 (nl Z) Y Y) (az Z (az Z (ay [(67,_),(69,_)] ⟨.inr ⟨5,_,Z,Z,Z⟩,.inr ⟨7,_,Z,Z,Z⟩,trivial⟩ (λ sl hsl K hK=>am Z (nE Z Z Z Z Z Z Z (hsl _ _ Z) (hsl _ _ Z) (by rw [List.length_map]) hK)) (az Z aO)))) (iJ [(66,_),(70,_)] Z ⟨.inr ⟨4,_,Z,Z,Z⟩,.inr ⟨8,_,Z,Z,Z⟩,trivial⟩ Z (λ sl hsl K hK=>am Z (uI (z:=.agg (ac.cs r12.1)) Z Z Z Z (hsl _ _ Z) (hsl _ _ Z) Z Z Z Z Z hK)) ?_)
   refine dPc (.ptr 1000000 0) Z (dPc (.ptr 1000000 5) Z ?_)
   refine dS Z (ww (dPc (.ptr 1000000 0) Z (dPc (.ptr 1000000 0) Z (dPc (.ptr 1000000 5) Z (dP (by4 (.vec 101000 11 0 (r1.fparts.map ag)) (.p (eL ag r1.fparts)) (.p (eL ag r1.fparts)) (.p (eL ag r1.fparts))) Z (dPc (.p (.agg (ac.cs r12.1))) Z (aN (λ _=>.p (eI (r1.fparts.length:Int))) Z Z Z (kr Z Z Z Y) (lt3 Z Z Z) (az Z (az Z (az Z (ay [(65,_)] ⟨.inr ⟨3,_,Z,Z,Z⟩,trivial⟩ (λ sl hsl K hK=>am Z (oY (f:=ag) (l:=r1.fparts) Z Z Z Z Z (hsl _ _ Z) Z hK)) aO)))) (aN (λ _=>.p (eL (λ x:PV=>x) [.agg lb])) Z Z Z (kr Z Z Z Y) (lt3 Z Z Z) (az Z (az Z (az Z (ay [] trivial (λ sl hsl K hK=>am Z (bQ (λ x:PV=>x) [.agg lb] Z Z Z Z Z Z (eA Z Z fY) Z Z Z Z Z Z Z hK)) aO)))) (eC (by4 (.vecp 69 11 0 (r1.fparts.map ag)) (.vecp 69 11 0 (r1.fparts.map ag)) (.vecp 69 11 0 (r1.fparts.map ag)) (.vec 69 11 0 (r1.fparts.map ag++[.agg (ac.cs r12.1)]))) [(65,_),(68,_)] Z ⟨.inr ⟨3,_,Z,Z,Z⟩,.inr ⟨6,_,Z,Z,Z⟩,trivial⟩ Z Z (jz Z Z Y) (lt3 (λ h=>absurd h (by decide)) Y Y) (λ sl hsl K hK=>am Z (pk ag r1.fparts Z Z Z Z Z Z Z Z (hsl _ _ Z) Z Z (hsl _ _ Z) Z Z Z Z Z hk15 hK)) (pd (by4 (.elp 69 11) (.elp 69 11) (.elp 69 11) .undef) Z Z Z (kr Z Z Z Y) (lt3 (nl Z) Y Y) (az Z (ay [(67,_),(69,_)] ⟨.inr ⟨5,_,Z,Z,Z⟩,.inr ⟨7,_,Z,Z,Z⟩,trivial⟩ (λ sl hsl K hK=>am Z (nE Z Z Z Z Z Z Z (hsl _ _ Z) (hsl _ _ Z) (by rw [List.length_map]) hK)) (ay [(67,_),(69,_)] ⟨.inr ⟨5,_,Z,Z,Z⟩,.inr ⟨7,_,Z,Z,Z⟩,trivial⟩ (λ sl hsl K hK=>am Z (nE Z Z Z Z Z Z Z (hsl _ _ Z) (hsl _ _ Z) (by rw [List.length_map]) hK)) (az Z aO)))) (iJ [(66,_),(70,_)] Z ⟨.inr ⟨4,_,Z,Z,Z⟩,.inr ⟨8,_,Z,Z,Z⟩,trivial⟩ Z (λ sl hsl K hK=>am Z (uI (z:=.agg (ac.cs r12.1)) Z Z Z Z (hsl _ _ Z) (hsl _ _ Z) Z Z Z Z Z hK)) (dPc (.ptr 1000000 0) Z (dPc (.ptr 1000000 5) Z (dS Z (xN Z ⟨Z,Z,Z,Z,trivial⟩ ⟨⟨Z,Z,.inr Z⟩,⟨⟨Z,Z,.inr Z⟩,⟨⟨Z,Z,.inr Z⟩,⟨⟨Z,Z,.inr Z⟩,⟨⟨Z,Z,.inr Z⟩,⟨⟨Z,Z,.inr Z⟩,⟨⟨Z,Z,.inr Z⟩,⟨⟨Z,Z,.inr Z⟩,⟨⟨Z,Z,.inr Z⟩,⟨⟨Z,Z,.inr Z⟩,⟨⟨Z,Z,.inr Z⟩,trivial⟩⟩⟩⟩⟩⟩⟩⟩⟩⟩⟩)))))))))))))) ?_)
   refine mG (fZ (t:=⟨[(0,.ptr 1000000 0),(2,.ptr 2 0),(3,.p (eI r4))],[(2,ce),(1000000,[.p (eS r1.fs),.p (eI r1.fat),.p (eI r1.fi),.p (eI r1.ffrom),.p (eS r1.ftext),.vec 69 11 0 ((r1.fparts++[r12.1]).map ag),.p (eB true)])]⟩) (nY ⟨er Z,er Z,er Z,trivial⟩ ⟨⟨_,Z,⟨sr,sr,sr,trivial⟩⟩,⟨_,Z,⟨sr,sr,sr,sr,sr,AV.sub_of_eq (by first | (simp only [List.map_append,List.map_cons,List.map_nil,ac.agg_eq]; done) | (simp only [List.map_append,List.map_cons,List.map_nil,ac.agg_eq]; rfl)),sr,trivial⟩⟩,trivial⟩)) (nx 5 Z ?_)
   exact oA h0 Z Z λ hk16 h0=>nx 21 Z (mQo (oi h0) (bj (cn 69 800000 Z Z Z Z Z) (ax _)) Z Z Z Z (sr) ⟨⟨_,Z,⟨sr,sr,sr,sr,sr,sr,sr,trivial⟩⟩,trivial⟩)
  exact nx 7 Z (mQo (oi h0) (bj (cn 101000 800000 Z Z Z Z Z) (ax _)) Z Z Z Z (sr) ⟨⟨_,Z,⟨sr,sr,sr,sr,sr,sr,sr,trivial⟩⟩,trivial⟩)
 ·skip
  intro p_0 level_1 r h0
  rw [aT] at h0
  refine cw good [] [1000000] Tryz.func100 Z Z Z Z Z λ w0 F=>mPo (λ v:ac×ad=>.p (.agg (ac.cs v.1))) (λ v=>[(1000000,((ad.cs v.2).map .p))]) ?_
  refine nx 10 Z (fD [10] h0 Z (λ c1 h0=>?_) λ c1 h0=>?_)
  ·refine nx 4 Z (bd h0 λ r2 e3 h0=>?_)
   refine mO Z (cVq [1000000] [] 101000 101000 (ih_expr_parser_unary_ok p_0 _ e3) Tryz.call139 Z ?_)
   exact nx 3 Z (gz h0 Z)
  refine nx 6 Z (oA h0 Z Z λ hk4 h0=>?_)
  refine bd h0 λ r5 e6 h0=>mO Z (cVq [1000000] [] 102000 102000 (ih_expr_parser_binary_ok p_0 (level_1+1) _ e6) Tryz.call100 Z ?_)
  refine nx 4 Z ?_
  obtain ⟨o90,h1,hL0,hR0⟩:=dk h0
  refine kEx 0 (λ v91:(List ae)×Int×Int×Int×Int×Int×Bytes=>o90=.inl v91) (λ v91=>⟨[],[(1000000,[.p (eL bw v91.1),.p (eI v91.2.1),.p (eI v91.2.2.1),.p (eI v91.2.2.2.1),.p (eI v91.2.2.2.2.1),.p (eI v91.2.2.2.2.2.1),.p (eS v91.2.2.2.2.2.2)])]⟩) (λ v91 hv=>?_) ?_
  ·have h0:=hL0 _ hv
   refine nx 1 Z ?_
   cases h0
  refine lG (λ (q92:Int×Int×Bytes×Bytes×Int×Int×Bytes×(List ah)×(List Bytes)×(List ac)×(List ae)×Int×Int×Int×Int×Int×Bytes)=>⟨[(0,.ptr 1000000 0),(1,.p (eI level_1)),(4,.ptr 4 0),(5,.ptr 5 0)],[(4,bb),(5,[.p (eI q92.1),.p (eI q92.2.1),.p (eS q92.2.2.1),.p (eS q92.2.2.2.1),.p (eI q92.2.2.2.2.1),.p (eI q92.2.2.2.2.2.1),.p (eS q92.2.2.2.2.2.2.1),.p (eL cC q92.2.2.2.2.2.2.2.1),.p (eL eS q92.2.2.2.2.2.2.2.2.1),.p (eL ag q92.2.2.2.2.2.2.2.2.2.1),.p (eI r5.1.fAt)]),(1000000,[.p (eL bw q92.2.2.2.2.2.2.2.2.2.2.1),.p (eI q92.2.2.2.2.2.2.2.2.2.2.2.1),.p (eI q92.2.2.2.2.2.2.2.2.2.2.2.2.1),.p (eI q92.2.2.2.2.2.2.2.2.2.2.2.2.2.1),.p (eI q92.2.2.2.2.2.2.2.2.2.2.2.2.2.2.1),.p (eI q92.2.2.2.2.2.2.2.2.2.2.2.2.2.2.2.1),.p (eS q92.2.2.2.2.2.2.2.2.2.2.2.2.2.2.2.2)])]⟩) (λ m (q92:Int×Int×Bytes×Bytes×Int×Int×Bytes×(List ah)×(List Bytes)×(List ac)×(List ae)×Int×Int×Int×Int×Int×Bytes)=>bn n (aT n) level_1 r5 m q92.1 q92.2.1 q92.2.2.1 q92.2.2.2.1 q92.2.2.2.2.1 q92.2.2.2.2.2.1 q92.2.2.2.2.2.2.1 q92.2.2.2.2.2.2.2.1 q92.2.2.2.2.2.2.2.2.1 q92.2.2.2.2.2.2.2.2.2.1 q92.2.2.2.2.2.2.2.2.2.2.1 q92.2.2.2.2.2.2.2.2.2.2.2.1 q92.2.2.2.2.2.2.2.2.2.2.2.2.1 q92.2.2.2.2.2.2.2.2.2.2.2.2.2.1 q92.2.2.2.2.2.2.2.2.2.2.2.2.2.2.1 q92.2.2.2.2.2.2.2.2.2.2.2.2.2.2.2.1 q92.2.2.2.2.2.2.2.2.2.2.2.2.2.2.2.2) Y (r5.1.fKind,r5.1.fOp,r5.1.fName,r5.1.fKey,r5.1.fValue.fKind,r5.1.fValue.fNum,r5.1.fValue.fStr,r5.1.fValue.fItems,r5.1.fValue.fKeys,r5.1.fKids,r5.2.fl,r5.2.fat,r5.2.fnest,r5.2.fbase,r5.2.fbad.fKind,r5.2.fbad.fAt,r5.2.fbad.fName) h1 (gE Z Z) ?_
  rintro m ⟨f36,f37,f38,f39,f40,f41,f42,f43,f44,f45,f46,f47,f48,f49,f50,f51,f52⟩ h1
  replace h1:bn n (aT n) level_1 r5 (m+1) f36 f37 f38 f39 f40 f41 f42 f43 f44 f45 f46 f47 f48 f49 f50 f51 f52=some o90:=h1
  rw [bn] at h1
  refine nx 5 Z (bd h1 λ r53 e54 h1=>?_)
  refine oK (pm level_1 _ e54) Z ⟨sr,trivial⟩ Tryz.call141 Z (bd h1 λ r55 e56 h1=>?_)
  refine mO Z (cVq [1000000] [] 106000 106000 (mZ _ (ad.mk f46 f47 f48 f49 (ap.mk f50 f51 f52)) r53 _ e56) Tryz.call140 Z ?_)
  refine nx 12 Z (fB [25] h1 Z (λ c57 h1=>?_) λ c57 h1=>?_)
  ·exact nx 7 Z (mQo (hR0 _ (oi h1).symm) (ax _) Z Z Z Z (sr) ⟨⟨_,Z,⟨sr,sr,sr,sr,sr,sr,sr,trivial⟩⟩,trivial⟩)
  refine nx 5 Z (bd h1 λ r58 e59 h1=>?_)
  refine mO Z (cVq [1000000] [] 107000 107000 (aR _ r55.2.2 _ e59) Tryz.call102 Z ?_)
  refine nx 5 Z (oA h1 Z Z λ hk60 h1=>?_)
  refine bd h1 λ r61 e62 h1=>mO Z (cVq [1000000] [] 108000 108000 (ih_expr_parser_binary_ok r58.2 (level_1+1) _ e62) Tryz.call100 Z ?_)
  refine nx 3 Z (bd h1 λ r63 e64 h1=>?_)
  refine mG (gE (t:=⟨[(0,.ptr 1000000 0),(1,.p (eI level_1)),(4,.ptr 4 0),(5,.ptr 5 0),(6,.p (eS r55.1)),(8,.ptr 8 0)],[(4,bb),(5,[.p (eI f36),.p (eI f37),.p (eS f38),.p (eS f39),.p (eI f40),.p (eI f41),.p (eS f42),.p (eL cC f43),.p (eL eS f44),.p (eL ag f45),.p (eI r5.1.fAt)]),(8,(ac.cs r61.1).map .p),(1000000,(ad.cs r61.2).map .p)]⟩) Z Z) (mSq ⟨1,[8],(λ _=>.none),(λ _=>[(0,.ptr 1000000 0),(1,.p (eI level_1)),(4,.ptr 4 0),(5,.ptr 5 0),(6,.p (eS r55.1)),(8,.ptr 8 0)]),(ob2 ([(4,bb),(5,[.p (eI f36),.p (eI f37),.p (eS f38),.p (eS f39),.p (eI f40),.p (eI f41),.p (eS f42),.p (eL cC f43),.p (eL eS f44),.p (eL ag f45),.p (eI r5.1.fAt)]),(8,((ac.cs r61.1).map .p)),(1000000,((ad.cs r61.2).map .p))]) (5,[.p (eI 7),.p (eI r63),.p (eS ([]:Bytes)),.p (eS ([]:Bytes)),.p (eI 0),.p (eI 0),.p (eS ([]:Bytes)),.p (.val (.slice none 0 0)),.p (.val (.slice none 0 0)),.p (eL ag [(ac.mk f36 f37 f38 f39 (ah.mk f40 f41 f42 f43 f44) f45 r5.1.fAt),r61.1]),.p (eI r5.1.fAt)]))⟩ Z ?_)
  refine dPc (.p (eS r55.1)) Z (aN (λ _=>.p (eI r63)) Z Z Z (gx Z Y) (lt1 Z) (az Z (ay [(33,_)] ⟨.inr ⟨0,_,Z,Z,Z⟩,trivial⟩ (λ sl hsl K hK=>am Z (cG (w6 _ r55.1 _ e64) Z Z Z (aE (hsl _ _ Z) bK) ⟨sr,trivial⟩ Tryz.call142 Z hK)) aO)) ?_)
  refine dPc (.p (.agg [eI f36,eI f37,eS f38,eS f39,eI f40,eI f41,eS f42,eL cC f43,eL eS f44,eL ag f45,eI r5.1.fAt])) Z (dPc (.p (.agg (ac.cs r61.1))) Z ?_)
  refine aN (λ _=>.p (eL ag [(ac.mk f36 f37 f38 f39 (ah.mk f40 f41 f42 f43 f44) f45 r5.1.fAt),r61.1])) Z Z Z (gx Z Y) (lt1 Z) (az Z (ay [(35,_),(36,_)] ⟨.inr ⟨2,_,Z,Z,Z⟩,.inr ⟨3,_,Z,Z,Z⟩,trivial⟩ (λ sl hsl K hK=>am Z (bQ ag [(ac.mk f36 f37 f38 f39 (ah.mk f40 f41 f42 f43 f44) f45 r5.1.fAt),r61.1] Z Z Z Z Z Z (eA (hsl _ _ Z) Z (eA (hsl _ _ Z) Z fY)) Z Z Z Z Z Z (by first | rfl | (simp only [List.map_cons,List.map_nil,ac.agg_eq]; done) | (simp only [List.map_cons,List.map_nil,ac.agg_eq]; rfl)) hK)) aO)) (dPc (.ptr 5 10) Z ?_)
  refine dPc (.p (eI r5.1.fAt)) Z (dPc (.p (.agg [eI 7,eI r63,eS ([]:Bytes),eS ([]:Bytes),eI 0,eI 0,eS ([]:Bytes),.val (.slice none 0 0),.val (.slice none 0 0),eL ag [(ac.mk f36 f37 f38 f39 (ah.mk f40 f41 f42 f43 f44) f45 r5.1.fAt),r61.1],eI r5.1.fAt])) Z ?_)
  refine dS Z (dJ ?_)
  exact nx 1 Z (eX (7,r63,([]:Bytes),([]:Bytes),0,0,([]:Bytes),[],[],[(ac.mk f36 f37 f38 f39 (ah.mk f40 f41 f42 f43 f44) f45 r5.1.fAt),r61.1],r61.2.fl,r61.2.fat,r61.2.fnest,r61.2.fbase,r61.2.fbad.fKind,r61.2.fbad.fAt,r61.2.fbad.fName) h1 (fZ (nY ⟨er Z,er Z,er Z,er Z,trivial⟩ ⟨⟨_,Z,⟨sr,sr,sr,sr,sr,sr,sr,sr,sr,sr,sr,trivial⟩⟩,⟨_,Z,⟨sr,sr,sr,sr,sr,sr,sr,gq _,gq _,sr,sr,trivial⟩⟩,⟨_,Z,⟨sr,sr,sr,sr,sr,sr,sr,trivial⟩⟩,trivial⟩)))
 ·skip
  intro p_0 r h0
  rw [ca] at h0
  refine cw good [] [1000000] Tryz.func139 Z Z Z Z Z λ w0 F=>mPo (λ v:ac×ad=>.p (.agg (ac.cs v.1))) (λ v=>[(1000000,((ad.cs v.2).map .p))]) ?_
  refine nx 9 Z (bd h0 λ o23 h1 h0=>?_)
  refine kN o23 (λ v24=>⟨[(0,.ptr 1000000 0),(2,.ptr 2 0),(3,.p (eI v24.1))],[(2,bb),(1000000,[.p (eL bw v24.2.1),.p (eI v24.2.2.1),.p (eI v24.2.2.2.1),.p (eI v24.2.2.2.2.1),.p (eI v24.2.2.2.2.2.1),.p (eI v24.2.2.2.2.2.2.1),.p (eS v24.2.2.2.2.2.2.2)])]⟩) ?_ ?_
  ·refine nx 7 Z (fD [10] h0 Z (λ c15 h0=>?_) λ c15 h0=>?_)
   ·refine nx 4 Z (bd h0 λ r16 e17 h0=>?_)
    refine mO Z (cVq [1000000] [] 103000 103000 (ih_expr_parser_postfix_ok (ad.mk o23.2.1 o23.2.2.1 o23.2.2.2.1 o23.2.2.2.2.1 (ap.mk o23.2.2.2.2.2.1 o23.2.2.2.2.2.2.1 o23.2.2.2.2.2.2.2)) _ e17) Tryz.call166 Z ?_)
    exact nx 3 Z (gz h0 Z)
   refine nx 5 Z (bd h0 λ r18 e19 h0=>?_)
   refine mO Z (cVq [1000000] [] 104000 104000 (aR _ (ad.mk o23.2.1 o23.2.2.1 o23.2.2.2.1 o23.2.2.2.2.1 (ap.mk o23.2.2.2.2.2.1 o23.2.2.2.2.2.2.1 o23.2.2.2.2.2.2.2)) _ e19) Tryz.call102 Z ?_)
   refine nx 4 Z (bd h0 λ r20 e21 h0=>?_)
   refine mG (gE (t:=⟨[(0,.ptr 1000000 0),(2,.ptr 2 0),(3,.p (eI o23.1)),(4,.ptr 4 0)],[(2,bb),(4,(ae.cs r18.1).map .p),(1000000,(ad.cs r18.2).map .p)]⟩) Z Z) (mSq ⟨2,[2,7],(by3 (.some (da [] 105000 105000)) .none .none),(λ _=>[(0,.ptr 1000000 0),(2,.ptr 2 0),(3,.p (eI o23.1)),(4,.ptr 4 0)]),(by3 ([(2,bb),(4,((ae.cs r18.1).map .p)),(1000000,((ad.cs r18.2).map .p))]) ([(1000000,((ad.cs r20.2).map .p)),(2,bb),(4,((ae.cs r18.1).map .p))]) ([(2,[.p (eI 6),.p (eI o23.1),.p (eS ([]:Bytes)),.p (eS ([]:Bytes)),.p (eI 0),.p (eI 0),.p (eS ([]:Bytes)),.p (.val (.slice none 0 0)),.p (.val (.slice none 0 0)),.p (eL ag [r20.1]),.p (eI r18.1.fAt)]),(1000000,((ad.cs r20.2).map .p)),(2,bb),(4,((ae.cs r18.1).map .p))]))⟩ Z ?_)
   refine dPc (.p (eI o23.1)) Z (dPc (.ptr 1000000 0) Z ?_)
   refine eC (λ _=>.p (.agg (ac.cs r20.1))) [(16,_)] Z ⟨.inr ⟨1,_,Z,Z,Z⟩,trivial⟩ Z Z (gx Z Y) (lt2 (λ h=>absurd h (by decide)) Y) (λ sl hsl K hK=>am Z (bB [1000000] [] 105000 105000 (ih_expr_parser_unary_ok r18.2 _ e21) Z Z Z (aE (hsl _ _ Z) bK) Z ⟨sr,trivial⟩ Z Z ⟨⟨_,Z,⟨sr,sr,sr,sr,sr,sr,sr,trivial⟩⟩,trivial⟩ Z Z Z Z Z Z Z Z Tryz.call139 Z Z hK)) (aN (λ _=>.p (eL ag [r20.1])) Z Z Z (jz Z Z Y) (lt2 Z Z) (az Z (ay [(17,_)] ⟨.inr ⟨2,_,Z,Z,Z⟩,trivial⟩ (λ sl hsl K hK=>am Z (bQ ag [r20.1] Z Z Z Z Z Z (eA (hsl _ _ Z) Z fY) Z Z Z Z Z Z (by first | rfl | (simp only [List.map_cons,List.map_nil,ac.agg_eq]; done) | (simp only [List.map_cons,List.map_nil,ac.agg_eq]; rfl)) hK)) (az Z aO))) ?_)
   refine dPc (.ptr 4 2) Z (dPc (.p (eI r18.1.fAt)) Z ?_)
   refine dPc (.p (.agg [eI 6,eI o23.1,eS ([]:Bytes),eS ([]:Bytes),eI 0,eI 0,eS ([]:Bytes),.val (.slice none 0 0),.val (.slice none 0 0),eL ag [r20.1],eI r18.1.fAt])) Z (dS Z ?_)
   refine dJ (nx 2 Z ?_)
   exact mQo (oi h0) (ax _) Z Z Z Z (db ⟨.inl Z,.inl Z,.inl Z,.inl Z,.inl Z,.inl Z,.inl Z,.inr ⟨Z,Z⟩,.inr ⟨Z,Z⟩,.inl Z,.inl Z,trivial⟩) ⟨⟨_,Z,⟨sr,sr,sr,sr,sr,sr,sr,trivial⟩⟩,trivial⟩
  refine nx 3 Z (bd h1 λ r1 e2 h1=>?_)
  refine mO Z (cVq [1000000] [] 101000 101000 (bu _ p_0 ([33]:Bytes) _ e2) Tryz.call101 Z ?_)
  refine nx 1 Z (fB [6] h1 Z (λ c3 h1=>?_) λ c3 h1=>?_)
  ·exact nx 4 Z (eX _ (oi h1).symm (gE Z Z))
  refine nx 4 Z (bd h1 λ r4 e5 h1=>?_)
  refine mO Z (cVq [1000000] [] 102000 102000 (bu _ r1.2 ([45]:Bytes) _ e5) Tryz.call101 Z ?_)
  refine nx 1 Z (fB [8] h1 Z (λ c6 h1=>?_) λ c6 h1=>?_)
  ·exact nx 4 Z (eX _ (oi h1).symm (gE Z Z))
  exact nx 2 Z (eX _ (oi h1).symm (gE Z Z))
 ·skip
  intro p_0 r h0
  rw [cq] at h0
  refine cw good [] [1000000] Tryz.func166 Z Z Z Z Z λ w0 F=>mPo (λ v:ac×ad=>.p (.agg (ac.cs v.1))) (λ v=>[(1000000,((ad.cs v.2).map .p))]) ?_
  refine nx 7 Z (bd h0 λ r1 e2 h0=>?_)
  refine mO Z (cVq [1000000] [] 101000 101000 (ih_expr_parser_primary_ok p_0 _ e2) Tryz.call184 Z ?_)
  refine nx 4 Z ?_
  obtain ⟨o125,h1,hL0,hR0⟩:=dk h0
  refine kEx 0 (λ v126:(List ae)×Int×Int×Int×Int×Int×Bytes=>o125=.inl v126) (λ v126=>⟨[],[(1000000,[.p (eL bw v126.1),.p (eI v126.2.1),.p (eI v126.2.2.1),.p (eI v126.2.2.2.1),.p (eI v126.2.2.2.2.1),.p (eI v126.2.2.2.2.2.1),.p (eS v126.2.2.2.2.2.2)])]⟩) (λ v126 hv=>?_) ?_
  ·have h0:=hL0 _ hv
   refine nx 1 Z ?_
   cases h0
  refine lG (λ (q127:Int×Int×Bytes×Bytes×Int×Int×Bytes×(List ah)×(List Bytes)×(List ac)×(List ae)×Int×Int×Int×Int×Int×Bytes)=>⟨[(0,.ptr 1000000 0),(2,.ptr 2 0),(3,.ptr 3 0)],[(2,bb),(3,[.p (eI q127.1),.p (eI q127.2.1),.p (eS q127.2.2.1),.p (eS q127.2.2.2.1),.p (eI q127.2.2.2.2.1),.p (eI q127.2.2.2.2.2.1),.p (eS q127.2.2.2.2.2.2.1),.p (eL cC q127.2.2.2.2.2.2.2.1),.p (eL eS q127.2.2.2.2.2.2.2.2.1),.p (eL ag q127.2.2.2.2.2.2.2.2.2.1),.p (eI r1.1.fAt)]),(1000000,[.p (eL bw q127.2.2.2.2.2.2.2.2.2.2.1),.p (eI q127.2.2.2.2.2.2.2.2.2.2.2.1),.p (eI q127.2.2.2.2.2.2.2.2.2.2.2.2.1),.p (eI q127.2.2.2.2.2.2.2.2.2.2.2.2.2.1),.p (eI q127.2.2.2.2.2.2.2.2.2.2.2.2.2.2.1),.p (eI q127.2.2.2.2.2.2.2.2.2.2.2.2.2.2.2.1),.p (eS q127.2.2.2.2.2.2.2.2.2.2.2.2.2.2.2.2)])]⟩) (λ m (q127:Int×Int×Bytes×Bytes×Int×Int×Bytes×(List ah)×(List Bytes)×(List ac)×(List ae)×Int×Int×Int×Int×Int×Bytes)=>bf n (aA n) r1 m q127.1 q127.2.1 q127.2.2.1 q127.2.2.2.1 q127.2.2.2.2.1 q127.2.2.2.2.2.1 q127.2.2.2.2.2.2.1 q127.2.2.2.2.2.2.2.1 q127.2.2.2.2.2.2.2.2.1 q127.2.2.2.2.2.2.2.2.2.1 q127.2.2.2.2.2.2.2.2.2.2.1 q127.2.2.2.2.2.2.2.2.2.2.2.1 q127.2.2.2.2.2.2.2.2.2.2.2.2.1 q127.2.2.2.2.2.2.2.2.2.2.2.2.2.1 q127.2.2.2.2.2.2.2.2.2.2.2.2.2.2.1 q127.2.2.2.2.2.2.2.2.2.2.2.2.2.2.2.1 q127.2.2.2.2.2.2.2.2.2.2.2.2.2.2.2.2) Y (r1.1.fKind,r1.1.fOp,r1.1.fName,r1.1.fKey,r1.1.fValue.fKind,r1.1.fValue.fNum,r1.1.fValue.fStr,r1.1.fValue.fItems,r1.1.fValue.fKeys,r1.1.fKids,r1.2.fl,r1.2.fat,r1.2.fnest,r1.2.fbase,r1.2.fbad.fKind,r1.2.fbad.fAt,r1.2.fbad.fName) h1 (gE Z Z) ?_
  rintro m ⟨f51,f52,f53,f54,f55,f56,f57,f58,f59,f60,f61,f62,f63,f64,f65,f66,f67⟩ h1
  replace h1:bf n (aA n) r1 (m+1) f51 f52 f53 f54 f55 f56 f57 f58 f59 f60 f61 f62 f63 f64 f65 f66 f67=some o125:=h1
  rw [bf] at h1
  refine nx 1 Z ?_
  obtain ⟨o128,h2,hL1,hR1⟩:=dk h1
  refine kX (λ v129:Int×Bytes×(List ac)×(List ae)×Int×Int×Int×Int×Int×Bytes=>o128=.inl v129) (λ v129=>⟨[(0,.ptr 1000000 0),(2,.ptr 2 0),(3,.ptr 3 0)],[(2,bb),(3,[.p (eI v129.1),.p (eI 0),.p (eS v129.2.1),.p (eS ([]:Bytes)),.p (eI 0),.p (eI 0),.p (eS ([]:Bytes)),.p (.val (.slice none 0 0)),.p (.val (.slice none 0 0)),.p (eL ag v129.2.2.1),.p (eI r1.1.fAt)]),(1000000,[.p (eL bw v129.2.2.2.1),.p (eI v129.2.2.2.2.1),.p (eI v129.2.2.2.2.2.1),.p (eI v129.2.2.2.2.2.2.1),.p (eI v129.2.2.2.2.2.2.2.1),.p (eI v129.2.2.2.2.2.2.2.2.1),.p (eS v129.2.2.2.2.2.2.2.2.2)])]⟩) (λ v129 hv=>?_) ?_
  ·have h1:=hL1 _ hv
   exact nx 1 Z (eX (v129.1,0,v129.2.1,([]:Bytes),0,0,([]:Bytes),[],[],v129.2.2.1,v129.2.2.2.1,v129.2.2.2.2.1,v129.2.2.2.2.2.1,v129.2.2.2.2.2.2.1,v129.2.2.2.2.2.2.2.1,v129.2.2.2.2.2.2.2.2.1,v129.2.2.2.2.2.2.2.2.2) h1 (fZ (nY ⟨er Z,er Z,er Z,trivial⟩ ⟨⟨_,Z,⟨sr,sr,sr,sr,sr,sr,sr,sr,sr,sr,sr,trivial⟩⟩,⟨_,Z,⟨sr,sr,sr,sr,sr,sr,sr,gq _,gq _,sr,sr,trivial⟩⟩,⟨_,Z,⟨sr,sr,sr,sr,sr,sr,sr,trivial⟩⟩,trivial⟩)))
  refine nx 4 Z (bd h2 λ r68 e69 h2=>?_)
  refine mO Z (cVq [1000000] [] 111000 111000 (bu _ (ad.mk f61 f62 f63 f64 (ap.mk f65 f66 f67)) ([46]:Bytes) _ e69) Tryz.call101 Z ?_)
  refine nx 2 Z (fB [9,11] h2 Z (λ c70 h2=>?_) λ c70 h2=>?_)
  ·refine nx 4 Z (bd h2 λ r71 e72 h2=>?_)
   refine mO Z (cVq [1000000] [] 112000 112000 (aR _ r68.2 _ e72) Tryz.call102 Z ?_)
   refine nx 4 Z (bd h2 λ r73 e74 h2=>?_)
   refine mO Z (cVq [1000000] [] 113000 113000 (bE _ r71.2 _ e74) Tryz.call70 Z ?_)
   refine nx 10 Z (fN [18] h2 Z (λ c75 h2=>?_) λ c75 h2=>?_)
   ·refine nx 5 Z (bd h2 λ r78 e79 h2=>?_)
    refine mO Z (cVq [1000000] [] 115000 115000 (aR _ r73.2 _ e79) Tryz.call102 Z ?_)
    refine nx 5 Z (mO Z (bQ ag [(ac.mk f51 f52 f53 f54 (ah.mk f55 f56 f57 f58 f59) f60 r1.1.fAt)] Z Z Z Z Z Z Z Z Z Z Z Z Z (by first | rfl | (simp only [List.map_cons,List.map_nil,ac.agg_eq]; done) | (simp only [List.map_cons,List.map_nil,ac.agg_eq]; rfl)) ?_))
    exact nx 5 Z (eX _ (oi h2).symm (gE Z Z))
   refine nx 6 Z (bd h2 λ r76 e77 h2=>?_)
   refine mO Z (cVq [1000000] [] 114000 114000 (bW r73.2 2 r73.1.fAt _ e77) Tryz.call71 Z ?_)
   exact nx 3 Z (mQo (hR0 _ (hR1 _ (oi h2).symm).symm) (ax _) Z Z Z Z (sr) ⟨⟨_,Z,⟨sr,sr,sr,sr,sr,sr,sr,trivial⟩⟩,trivial⟩)
  refine nx 4 Z (bd h2 λ r80 e81 h2=>?_)
  refine mO Z (cVq [1000000] [] 116000 116000 (bu _ r68.2 ([91]:Bytes) _ e81) Tryz.call101 Z ?_)
  refine nx 2 Z (fB [32,34] h2 Z (λ c82 h2=>?_) λ c82 h2=>?_)
  ·refine nx 4 Z (bd h2 λ r83 e84 h2=>?_)
   refine mO Z (cVq [1000000] [] 117000 117000 (ef _ r80.2 _ e84) Tryz.call185 Z ?_)
   refine nx 4 Z (bd h2 λ r85 e86 h2=>?_)
   refine mO Z (cVq [1000000] [] 118000 118000 (ih_expr_parser_expr_ok r83 _ e86) Tryz.call65 Z ?_)
   refine nx 6 Z (bd h2 λ r87 e88 h2=>?_)
   refine mO Z (cVq [1000000] [] 119000 119000 (dj _ r85.2 ([93]:Bytes) _ e88) Tryz.call186 Z ?_)
   refine nx 4 Z (mO Z (bQ ag [(ac.mk f51 f52 f53 f54 (ah.mk f55 f56 f57 f58 f59) f60 r1.1.fAt),r85.1] Z Z Z Z Z Z Z Z Z Z Z Z Z (by first | rfl | (simp only [List.map_cons,List.map_nil,ac.agg_eq]; done) | (simp only [List.map_cons,List.map_nil,ac.agg_eq]; rfl)) ?_))
   exact nx 5 Z (eX _ (oi h2).symm (gE Z Z))
  exact nx 7 Z (mQo (hR0 _ (hR1 _ (oi h2).symm).symm) (ax _) Z Z Z Z (sr) ⟨⟨_,Z,⟨sr,sr,sr,sr,sr,sr,sr,trivial⟩⟩,trivial⟩)
 ·skip
  intro p_0 r h0
  rw [bX] at h0
  refine cw good [] [1000000] Tryz.func184 Z Z Z Z Z λ w0 F=>mPo (λ v:ac×ad=>.p (.agg (ac.cs v.1))) (λ v=>[(1000000,((ad.cs v.2).map .p))]) ?_
  refine nx 8 Z (bd h0 λ r1 e2 h0=>?_)
  refine mO Z (cVq [1000000] [] 101000 101000 (cX p_0 _ e2) Tryz.call121 Z ?_)
  refine nx 1 Z (fB [7] h0 Z (λ c3 h0=>?_) λ c3 h0=>?_)
  ·exact nx 7 Z (mQo (oi h0) (ax _) Z Z Z Z (db ⟨.inl Z,.inl Z,.inl Z,.inl Z,.inl Z,.inl Z,.inl Z,.inr ⟨Z,Z⟩,.inr ⟨Z,Z⟩,.inr ⟨Z,Z⟩,.inl Z,trivial⟩) ⟨⟨_,Z,⟨sr,sr,sr,sr,sr,sr,sr,trivial⟩⟩,trivial⟩)
  refine nx 5 Z (bd h0 λ r4 e5 h0=>?_)
  refine mO Z (cVq [1000000] [] 102000 102000 (bE _ r1.2 _ e5) Tryz.call70 Z ?_)
  refine nx 14 Z (fD [17,18] h0 Z (λ c6 h0=>?_) λ c6 h0=>?_)
  ·refine nx 5 Z (bd h0 λ r7 e8 h0=>?_)
   refine oK (qV _ r4.1.fText _ e8) Z ⟨sr,trivial⟩ Tryz.call196 Z (nx 12 Z ?_)
   refine fN [26] h0 Z (λ c9 h0=>?_) λ c9 h0=>?_
   ·refine nx 5 Z (bd h0 λ r12 e13 h0=>?_)
    refine mO Z (cVq [1000000] [] 104000 104000 (aR _ r4.2 _ e13) Tryz.call102 Z ?_)
    refine nx 7 Z (bd h0 λ r14 e15 h0=>?_)
    refine oK (eG (ah.mk 2 r7.1 ([]:Bytes) [] []) r4.1.fAt _ e15) Z ⟨db ⟨.inl Z,.inl Z,.inl Z,.inr ⟨Z,Z⟩,.inr ⟨Z,Z⟩,trivial⟩,sr,trivial⟩ Tryz.call39 Z (nx 2 Z ?_)
    refine mG (gE (t:=⟨[(2,.ptr 2 0)],[(2,(ac.cs r14).map .p),(1000000,(ad.cs r12.2).map .p)]⟩) Z Z) (nx 1 Z ?_)
    exact gz h0 Z
   refine nx 7 Z (bd h0 λ r10 e11 h0=>?_)
   refine mO Z (cVq [1000000] [] 103000 103000 (bW r4.2 r7.2 r4.1.fAt _ e11) Tryz.call71 Z ?_)
   refine nx 2 Z (mG (gE (t:=⟨[(2,.ptr 2 0)],[(2,(ac.cs r10.1).map .p),(1000000,(ad.cs r10.2).map .p)]⟩) Z Z) ?_)
   exact nx 1 Z (gz h0 Z)
  refine nx 6 Z (fD [39,40] h0 Z (λ c16 h0=>?_) λ c16 h0=>?_)
  ·refine nx 4 Z (bd h0 λ r17 e18 h0=>?_)
   refine mO Z (cVq [1000000] [] 105000 105000 (ih_expr_parser_text_ok r4.2 _ e18) Tryz.call197 Z ?_)
   exact nx 3 Z (gz h0 Z)
  refine nx 6 Z (fD [43,44] h0 Z (λ c19 h0=>?_) λ c19 h0=>?_)
  ·refine nx 4 Z (bd h0 λ r20 e21 h0=>?_)
   refine mO Z (cVq [1000000] [] 106000 106000 (ih_expr_parser_name_ok r4.2 _ e21) Tryz.call198 Z ?_)
   exact nx 3 Z (gz h0 Z)
  refine nx 6 Z (fD [47,48] h0 Z (λ c22 h0=>?_) λ c22 h0=>?_)
  ·refine nx 4 Z (bd h0 λ r23 e24 h0=>?_)
   refine mO Z (cVq [1000000] [] 107000 107000 (ih_expr_parser_enclosed_ok r4.2 _ e24) Tryz.call199 Z ?_)
   exact nx 3 Z (gz h0 Z)
  refine nx 6 Z (bd h0 λ r25 e26 h0=>?_)
  refine mO Z (cVq [1000000] [] 108000 108000 (bW r4.2 2 r4.1.fAt _ e26) Tryz.call71 Z ?_)
  exact nx 3 Z (gz h0 Z)
 ·skip
  intro p_0 r h0
  rw [cU] at h0
  refine cw good [] [1000000] Tryz.func197 Z Z Z Z Z λ w0 F=>mPo (λ v:ac×ad=>.p (.agg (ac.cs v.1))) (λ v=>[(1000000,((ad.cs v.2).map .p))]) ?_
  refine nx 7 Z (bd h0 λ r1 e2 h0=>?_)
  refine mO Z (cVq [1000000] [] 101000 101000 (bE _ p_0 _ e2) Tryz.call70 Z ?_)
  refine nx 9 Z (oA h0 Z Z λ hk3 h0=>?_)
  refine bd h0 λ r4 e5 h0=>oK (ih_expr_Template_ok r1.1.fText (r1.1.fAt+1) _ e5) Z ⟨sr,sr,trivial⟩ Tryz.call19 Z (nx 15 Z ?_)
  refine fN [19] h0 Z (λ c6 h0=>?_) λ c6 h0=>?_
  ·refine nx 5 Z (bd h0 λ r9 e10 h0=>?_)
   refine mO Z (cVq [1000000] [] 103000 103000 (aR _ r1.2 _ e10) Tryz.call102 Z ?_)
   exact nx 14 Z (gz h0 Z)
  refine nx 8 Z (bd h0 λ r7 e8 h0=>?_)
  refine mO Z (cVq [1000000] [] 102000 102000 (bW r1.2 r4.2.fKind r4.2.fAt _ e8) Tryz.call71 Z ?_)
  exact nx 3 Z (gz h0 Z)
 ·skip
  intro p_0 r h0
  rw [du] at h0
  refine cw good [] [1000000] Tryz.func198 Z Z Z Z Z λ w0 F=>mPo (λ v:ac×ad=>.p (.agg (ac.cs v.1))) (λ v=>[(1000000,((ad.cs v.2).map .p))]) ?_
  refine nx 7 Z (bd h0 λ r1 e2 h0=>?_)
  refine mO Z (cVq [1000000] [] 101000 101000 (bE _ p_0 _ e2) Tryz.call70 Z ?_)
  refine nx 12 Z (oS Z Z ?_)
  refine nx 2 Z (fD [10,11] h0 Z (λ c3 h0=>?_) λ c3 h0=>?_)
  ·refine nx 4 Z (bd h0 λ r4 e5 h0=>?_)
   refine mO Z (cVq [1000000] [] 102000 102000 (aR _ r1.2 _ e5) Tryz.call102 Z ?_)
   refine nx 6 Z (bd h0 λ r6 e7 h0=>?_)
   refine oK (eG (ah.mk 0 0 ([]:Bytes) [] []) r1.1.fAt _ e7) Z ⟨db ⟨.inl Z,.inl Z,.inl Z,.inr ⟨Z,Z⟩,.inr ⟨Z,Z⟩,trivial⟩,sr,trivial⟩ Tryz.call39 Z (nx 3 Z ?_)
   exact gz h0 Z
  refine nx 2 Z (bd h0 λ o35 h1 h0=>?_)
  refine kN o35 (λ v36=>⟨[(0,.ptr 1000000 0),(2,.ptr 2 0),(3,.ptr 3 0),(18,.p (eB v36))],[(2,bb),(3,(ae.cs r1.1).map .p),(1000000,(ad.cs r1.2).map .p)]⟩) ?_ ?_
  ·refine nx 1 Z (fB [18] h0 Z (λ c10 h0=>?_) λ c10 h0=>?_)
   ·refine nx 4 Z (bd h0 λ r11 e12 h0=>?_)
    refine mO Z (cVq [1000000] [] 103000 103000 (aR _ r1.2 _ e12) Tryz.call102 Z ?_)
    refine nx 8 Z (bd h0 λ o37 h1 h0=>?_)
    refine kN o37 (λ v38=>⟨[(2,.ptr 2 0),(3,.ptr 3 0),(4,.ptr 4 0)],[(2,bb),(3,(ae.cs r1.1).map .p),(4,[.p (eI 1),.p (eI v38),.p (eS ([]:Bytes)),.p (.val (.slice none 0 0)),.p (.val (.slice none 0 0))]),(1000000,(ad.cs r11.2).map .p)]⟩) ?_ ?_
    ·refine nx 6 Z (bd h0 λ r15 e16 h0=>?_)
     refine oK (eG (ah.mk 1 o37 ([]:Bytes) [] []) r1.1.fAt _ e16) Z ⟨db ⟨.inl Z,.inl Z,.inl Z,.inr ⟨Z,Z⟩,.inr ⟨Z,Z⟩,trivial⟩,sr,trivial⟩ Tryz.call39 Z (nx 3 Z ?_)
     exact gz h0 Z
    refine nx 4 Z (oS Z Z ?_)
    refine nx 1 Z (fD [26] h1 Z (λ c13 h1=>?_) λ c13 h1=>?_)
    ·exact nx 5 Z (eX _ (oi h1).symm (gE Z Z))
    exact nx 2 Z (eX _ (oi h1).symm (gE Z Z))
   refine nx 7 Z (bd h0 λ r17 e18 h0=>?_)
   refine oK (gU r1.1.fText _ e18) Z ⟨sr,trivial⟩ Tryz.call114 Z (nx 1 Z ?_)
   refine fB [34] h0 Z (λ c19 h0=>?_) λ c19 h0=>?_
   ·refine nx 6 Z (bd h0 λ r20 e21 h0=>?_)
    refine mO Z (cVq [1000000] [] 104000 104000 (bW r1.2 2 r1.1.fAt _ e21) Tryz.call71 Z ?_)
    exact nx 3 Z (gz h0 Z)
   refine nx 5 Z (bd h0 λ r22 e23 h0=>?_)
   refine mO Z (cVq [1000000] [] 105000 105000 (aR _ r1.2 _ e23) Tryz.call102 Z ?_)
   refine nx 5 Z (bd h0 λ r24 e25 h0=>?_)
   refine mO Z (cVq [1000000] [] 106000 106000 (bu _ r22.2 ([40]:Bytes) _ e25) Tryz.call101 Z ?_)
   refine nx 2 Z (fB [43] h0 Z (λ c26 h0=>?_) λ c26 h0=>?_)
   ·exact nx 11 Z (mQo (oi h0) (ax _) Z Z Z Z (db ⟨.inl Z,.inl Z,.inl Z,.inl Z,.inl Z,.inl Z,.inl Z,.inr ⟨Z,Z⟩,.inr ⟨Z,Z⟩,.inr ⟨Z,Z⟩,.inl Z,trivial⟩) ⟨⟨_,Z,⟨sr,sr,sr,sr,sr,sr,sr,trivial⟩⟩,trivial⟩)
   refine nx 5 Z (bd h0 λ r27 e28 h0=>?_)
   refine mO Z (cVq [1000000] [] 107000 107000 (ef _ r24.2 _ e28) Tryz.call185 Z ?_)
   refine nx 4 Z (bd h0 λ r29 e30 h0=>?_)
   refine mO Z (cVq [1000000] [] 108000 108000 (ih_expr_parser_list_ok r27 ([41]:Bytes) _ e30) Tryz.call210 Z ?_)
   refine nx 5 Z (bd h0 λ r31 e32 h0=>?_)
   refine mO Z (cVq [1000000] [] 109000 109000 (dj _ r29.2 ([41]:Bytes) _ e32) Tryz.call186 Z ?_)
   exact nx 12 Z (mQo (oi h0) (ax _) Z Z Z Z (db ⟨.inl Z,.inl Z,.inl Z,.inl Z,.inl Z,.inl Z,.inl Z,.inr ⟨Z,Z⟩,.inr ⟨Z,Z⟩,.inl Z,.inl Z,trivial⟩) ⟨⟨_,Z,⟨sr,sr,sr,sr,sr,sr,sr,trivial⟩⟩,trivial⟩)
  refine nx 2 Z (oS Z Z ?_)
  refine nx 2 Z (fD [18,19] h1 Z (λ c8 h1=>?_) λ c8 h1=>?_)
  ·exact nx 2 Z (eX _ (oi h1).symm (gE Z Z))
  refine nx 2 Z (oS Z Z ?_)
  exact nx 2 Z (eX _ (oi h1).symm (gE Z Z))
 ·skip
  intro p_0 r h0
  rw [dh] at h0
  refine cw good [] [1000000] Tryz.func199 Z Z Z Z Z λ w0 F=>mPo (λ v:ac×ad=>.p (.agg (ac.cs v.1))) (λ v=>[(1000000,((ad.cs v.2).map .p))]) ?_
  refine nx 7 Z (bd h0 λ r1 e2 h0=>?_)
  refine mO Z (cVq [1000000] [] 101000 101000 (bE _ p_0 _ e2) Tryz.call70 Z ?_)
  refine nx 12 Z (oS Z Z ?_)
  refine nx 2 Z (fD [11,12] h0 Z (λ c3 h0=>?_) λ c3 h0=>?_)
  ·refine nx 4 Z (bd h0 λ r4 e5 h0=>?_)
   refine mO Z (cVq [1000000] [] 102000 102000 (ef _ r1.2 _ e5) Tryz.call185 Z ?_)
   refine nx 4 Z (bd h0 λ r6 e7 h0=>?_)
   refine mO Z (cVq [1000000] [] 103000 103000 (ih_expr_parser_expr_ok r4 _ e7) Tryz.call65 Z ?_)
   refine nx 6 Z (bd h0 λ r8 e9 h0=>?_)
   refine mO Z (cVq [1000000] [] 104000 104000 (dj _ r6.2 ([41]:Bytes) _ e9) Tryz.call186 Z ?_)
   exact nx 7 Z (gz h0 Z)
  refine nx 3 Z (oS Z Z ?_)
  refine nx 2 Z (fD [20,21] h0 Z (λ c10 h0=>?_) λ c10 h0=>?_)
  ·refine nx 4 Z (bd h0 λ r11 e12 h0=>?_)
   refine mO Z (cVq [1000000] [] 105000 105000 (ef _ r1.2 _ e12) Tryz.call185 Z ?_)
   refine nx 5 Z (bd h0 λ r13 e14 h0=>?_)
   refine mO Z (cVq [1000000] [] 106000 106000 (fQ _ r11 ([102,111,114]:Bytes) _ e14) Tryz.call211 Z ?_)
   refine nx 1 Z (fB [25] h0 Z (λ c15 h0=>?_) λ c15 h0=>?_)
   ·refine nx 6 Z (bd h0 λ r16 e17 h0=>?_)
    refine mO Z (cVq [1000000] [] 107000 107000 (ih_expr_parser_loop_ok r13.2 r1.1.fAt 12 _ e17) Tryz.call212 Z ?_)
    exact nx 3 Z (gz h0 Z)
   refine nx 5 Z (bd h0 λ r18 e19 h0=>?_)
   refine mO Z (cVq [1000000] [] 108000 108000 (ih_expr_parser_list_ok r13.2 ([93]:Bytes) _ e19) Tryz.call210 Z ?_)
   refine nx 5 Z (bd h0 λ r20 e21 h0=>?_)
   refine mO Z (cVq [1000000] [] 109000 109000 (dj _ r18.2 ([93]:Bytes) _ e21) Tryz.call186 Z ?_)
   exact nx 10 Z (mQo (oi h0) (ax _) Z Z Z Z (db ⟨.inl Z,.inl Z,.inl Z,.inl Z,.inl Z,.inl Z,.inl Z,.inr ⟨Z,Z⟩,.inr ⟨Z,Z⟩,.inl Z,.inl Z,trivial⟩) ⟨⟨_,Z,⟨sr,sr,sr,sr,sr,sr,sr,trivial⟩⟩,trivial⟩)
  refine nx 3 Z (oS Z Z ?_)
  refine nx 2 Z (fD [38,39] h0 Z (λ c22 h0=>?_) λ c22 h0=>?_)
  ·refine nx 4 Z (bd h0 λ r23 e24 h0=>?_)
   refine mO Z (cVq [1000000] [] 110000 110000 (ef _ r1.2 _ e24) Tryz.call185 Z ?_)
   refine nx 5 Z (bd h0 λ r25 e26 h0=>?_)
   refine mO Z (cVq [1000000] [] 111000 111000 (fQ _ r23 ([102,111,114]:Bytes) _ e26) Tryz.call211 Z ?_)
   refine nx 1 Z (fB [43] h0 Z (λ c27 h0=>?_) λ c27 h0=>?_)
   ·refine nx 6 Z (bd h0 λ r28 e29 h0=>?_)
    refine mO Z (cVq [1000000] [] 112000 112000 (ih_expr_parser_loop_ok r25.2 r1.1.fAt 13 _ e29) Tryz.call212 Z ?_)
    exact nx 3 Z (gz h0 Z)
   refine nx 5 Z (bd h0 λ r30 e31 h0=>?_)
   refine mO Z (cVq [1000000] [] 113000 113000 (ih_expr_parser_entries_ok r25.2 _ e31) Tryz.call213 Z ?_)
   refine nx 5 Z (bd h0 λ r32 e33 h0=>?_)
   refine mO Z (cVq [1000000] [] 114000 114000 (dj _ r30.2 ([125]:Bytes) _ e33) Tryz.call186 Z ?_)
   refine nx 9 Z (mG (gE (t:=⟨[(2,.ptr 2 0)],[(2,[.p (eI 11),.p (eI 0),.p (eS ([]:Bytes)),.p (eS ([]:Bytes)),.p (eI 0),.p (eI 0),.p (eS ([]:Bytes)),.p (.val (.slice none 0 0)),.p (.val (.slice none 0 0)),.p (eL ag r30.1),.p (eI r1.1.fAt)]),(1000000,(ad.cs r32).map .p)]⟩) Z Z) ?_)
   exact nx 1 Z (mQo (oi h0) (ax _) Z Z Z Z (db ⟨.inl Z,.inl Z,.inl Z,.inl Z,.inl Z,.inl Z,.inl Z,.inr ⟨Z,Z⟩,.inr ⟨Z,Z⟩,.inl Z,.inl Z,trivial⟩) ⟨⟨_,Z,⟨sr,sr,sr,sr,sr,sr,sr,trivial⟩⟩,trivial⟩)
  refine nx 7 Z (bd h0 λ r34 e35 h0=>?_)
  refine mO Z (cVq [1000000] [] 115000 115000 (bW r1.2 2 r1.1.fAt _ e35) Tryz.call71 Z ?_)
  exact nx 3 Z (gz h0 Z)
 ·skip
  intro p_0 end_1 r h0
  rw [dx] at h0
  refine cw good [] [1000000] Tryz.func210 Z Z Z Z Z λ w0 F=>mPo (λ v:(List ac)×ad=>.p (eL ag v.1)) (λ v=>[(1000000,((ad.cs v.2).map .p))]) ?_
  refine nx 10 Z (bd h0 λ o79 h1 h0=>?_)
  refine kE 0 o79 (λ v80=>⟨[(5,.vec 19 11 0 (v80.1.map ag))],[(1000000,[.p (eL bw v80.2.1),.p (eI v80.2.2.1),.p (eI v80.2.2.2.1),.p (eI v80.2.2.2.2.1),.p (eI v80.2.2.2.2.2.1),.p (eI v80.2.2.2.2.2.2.1),.p (eS v80.2.2.2.2.2.2.2)])]⟩) ?_ ?_
  ·exact nx 7 Z (gz h0 Z)
  refine lG (λ (q81:(List ac)×(List ae)×Int×Int×Int×Int×Int×Bytes)=>⟨[(0,.ptr 1000000 0),(1,.p (eS end_1)),(5,.vec 19 11 0 (q81.1.map ag))],[(1000000,[.p (eL bw q81.2.1),.p (eI q81.2.2.1),.p (eI q81.2.2.2.1),.p (eI q81.2.2.2.2.1),.p (eI q81.2.2.2.2.2.1),.p (eI q81.2.2.2.2.2.2.1),.p (eS q81.2.2.2.2.2.2.2)])]⟩) (λ m (q81:(List ac)×(List ae)×Int×Int×Int×Int×Int×Bytes)=>bV n (aA n) end_1 m q81.1 q81.2.1 q81.2.2.1 q81.2.2.2.1 q81.2.2.2.2.1 q81.2.2.2.2.2.1 q81.2.2.2.2.2.2.1 q81.2.2.2.2.2.2.2) Y ([],p_0.fl,p_0.fat,p_0.fnest,p_0.fbase,p_0.fbad.fKind,p_0.fbad.fAt,p_0.fbad.fName) h1 (fZ (nY ⟨er Z,er Z,⟨_,Z,AV.sub_nilvec _ _ _⟩,trivial⟩ ⟨⟨_,Z,⟨sr,sr,sr,sr,sr,sr,sr,trivial⟩⟩,trivial⟩)) ?_
  rintro m ⟨out31,f32,f33,f34,f35,f36,f37,f38⟩ h1
  replace h1:bV n (aA n) end_1 (m+1) out31 f32 f33 f34 f35 f36 f37 f38=some o79:=h1
  rw [bV] at h1
  refine nx 2 Z (bd h1 λ o82 h2 h1=>?_)
  refine kN o82 (λ v83=>⟨[(0,.ptr 1000000 0),(1,.p (eS end_1)),(5,.vec 19 11 0 (out31.map ag)),(14,.p (eB v83.1))],[(1000000,[.p (eL bw v83.2.1),.p (eI v83.2.2.1),.p (eI v83.2.2.2.1),.p (eI v83.2.2.2.2.1),.p (eI v83.2.2.2.2.2.1),.p (eI v83.2.2.2.2.2.2.1),.p (eS v83.2.2.2.2.2.2.2)])]⟩) ?_ ?_
  ·refine nx 1 Z (fB [14] h1 Z (λ c52 h1=>?_) λ c52 h1=>?_)
   ·refine nx 7 Z (bd h1 λ r53 e54 h1=>?_)
    refine mO Z (cVq [1000000] [] 108000 108000 (ih_expr_parser_expr_ok (ad.mk o82.2.1 o82.2.2.1 o82.2.2.2.1 o82.2.2.2.2.1 (ap.mk o82.2.2.2.2.2.1 o82.2.2.2.2.2.2.1 o82.2.2.2.2.2.2.2)) _ e54) Tryz.call65 Z ?_)
    refine mO Z (bQ ag [r53.1] Z Z Z Z Z Z Z Z Z Z Z Z Z (by first | rfl | (simp only [List.map_cons,List.map_nil,ac.agg_eq]; done) | (simp only [List.map_cons,List.map_nil,ac.agg_eq]; rfl)) ?_)
    refine cc' h1 λ hk55 h1=>mO Z (gD ag out31 [r53.1] Z Z Z Z Z Z Z Z Z Z Z Z Z (λ x=>congrArg List.length (ac.cells_eq x)) Z Z Z Z hk55 ?_)
    refine nx 6 Z (bd h1 λ r56 e57 h1=>?_)
    refine mO Z (cVq [1000000] [] 109000 109000 (bu _ r53.2 ([44]:Bytes) _ e57) Tryz.call101 Z ?_)
    refine nx 2 Z (fB [22] h1 Z (λ c58 h1=>?_) λ c58 h1=>?_)
    ·exact nx 2 Z (eXi _ (oi h1).symm (gE Z Z))
    refine nx 4 Z (bd h1 λ r59 e60 h1=>?_)
    refine mO Z (cVq [1000000] [] 110000 110000 (aR _ r56.2 _ e60) Tryz.call102 Z ?_)
    exact nx 1 Z (eX (out31++[r53.1],r59.2.fl,r59.2.fat,r59.2.fnest,r59.2.fbase,r59.2.fbad.fKind,r59.2.fbad.fAt,r59.2.fbad.fName) h1 (gE Z Z))
   exact nx 2 Z (eXi _ (oi h1).symm (gE Z Z))
  refine nx 2 Z (bd h2 λ r39 e40 h2=>?_)
  refine mO Z (cVq [1000000] [] 106000 106000 (cX (ad.mk f32 f33 f34 f35 (ap.mk f36 f37 f38)) _ e40) Tryz.call121 Z ?_)
  refine nx 2 Z (fB [8,9] h2 Z (λ c41 h2=>?_) λ c41 h2=>?_)
  ·refine nx 2 Z (bd h2 λ r42 e43 h2=>?_)
   refine mO Z (cVq [1000000] [] 107000 107000 (bu _ r39.2 end_1 _ e43) Tryz.call101 Z ?_)
   exact nx 3 Z (eX _ (oi h2).symm (gE Z Z))
  exact nx 6 Z (eX _ (oi h2).symm (gE Z Z))
 ·skip
  intro p_0 at_1 k_2 r h0
  rw [cT] at h0
  refine cw good [] [1000000] Tryz.func212 Z Z Z Z Z λ w0 F=>mPo (λ v:ac×ad=>.p (.agg (ac.cs v.1))) (λ v=>[(1000000,((ad.cs v.2).map .p))]) ?_
  refine nx 7 Z (bd h0 λ r1 e2 h0=>?_)
  refine mO Z (cVq [1000000] [] 101000 101000 (aR _ p_0 _ e2) Tryz.call102 Z ?_)
  refine nx 6 Z (bd h0 λ r3 e4 h0=>?_)
  refine mO Z (cVq [1000000] [] 102000 102000 (iw _ r1.2 _ e4) Tryz.call223 Z ?_)
  refine nx 5 Z (bd h0 λ o67 h1 h0=>?_)
  refine kN o67 (λ v68=>⟨[(0,.ptr 1000000 0),(2,.p (eI k_2)),(6,.ptr 6 0),(7,.ptr 7 0)],[(6,bb),(7,[.p (eI k_2),.p (eI 0),.p (eS v68.1),.p (eS v68.2.1),.p (eI 0),.p (eI 0),.p (eS ([]:Bytes)),.p (.val (.slice none 0 0)),.p (.val (.slice none 0 0)),.p (.val (.slice none 0 0)),.p (eI at_1)]),(1000000,[.p (eL bw v68.2.2.1),.p (eI v68.2.2.2.1),.p (eI v68.2.2.2.2.1),.p (eI v68.2.2.2.2.2.1),.p (eI v68.2.2.2.2.2.2.1),.p (eI v68.2.2.2.2.2.2.2.1),.p (eS v68.2.2.2.2.2.2.2.2)])]⟩) ?_ ?_
  ·refine nx 4 Z (bd h0 λ r21 e22 h0=>?_)
   refine mO Z (cVq [1000000] [] 106000 106000 (lZ _ (ad.mk o67.2.2.1 o67.2.2.2.1 o67.2.2.2.2.1 o67.2.2.2.2.2.1 (ap.mk o67.2.2.2.2.2.2.1 o67.2.2.2.2.2.2.2.1 o67.2.2.2.2.2.2.2.2)) ([105,110]:Bytes) _ e22) Tryz.call224 Z ?_)
   refine nx 2 Z (bd h0 λ r23 e24 h0=>?_)
   refine cc' h0 λ hk25 h0=>mG (gE (t:=⟨[(0,.ptr 1000000 0),(2,.p (eI k_2)),(6,.ptr 6 0),(7,.ptr 7 0)],[(6,bb),(7,[.p (eI k_2),.p (eI 0),.p (eS o67.1),.p (eS o67.2.1),.p (eI 0),.p (eI 0),.p (eS ([]:Bytes)),.p (.val (.slice none 0 0)),.p (.val (.slice none 0 0)),.p (.val (.slice none 0 0)),.p (eI at_1)]),(1000000,(ad.cs r21).map .p)]⟩) Z Z) (mSq ⟨3,[3,5,7],(by4 (.some (da [] 107000 107000)) (.some λ i=>Nat.beq i 33) .none .none),(λ _=>[(0,.ptr 1000000 0),(2,.p (eI k_2)),(6,.ptr 6 0),(7,.ptr 7 0)]),(by4 ([(6,bb),(7,[.p (eI k_2),.p (eI 0),.p (eS o67.1),.p (eS o67.2.1),.p (eI 0),.p (eI 0),.p (eS ([]:Bytes)),.p (.val (.slice none 0 0)),.p (.val (.slice none 0 0)),.p (.val (.slice none 0 0)),.p (eI at_1)]),(1000000,((ad.cs r21).map .p))]) ([(1000000,((ad.cs r23.2).map .p)),(6,bb),(7,[.p (eI k_2),.p (eI 0),.p (eS o67.1),.p (eS o67.2.1),.p (eI 0),.p (eI 0),.p (eS ([]:Bytes)),.p (.val (.slice none 0 0)),.p (.val (.slice none 0 0)),.p (.val (.slice none 0 0)),.p (eI at_1)])]) ([(1000000,((ad.cs r23.2).map .p)),(6,bb),(7,[.p (eI k_2),.p (eI 0),.p (eS o67.1),.p (eS o67.2.1),.p (eI 0),.p (eI 0),.p (eS ([]:Bytes)),.p (.val (.slice none 0 0)),.p (.val (.slice none 0 0)),.p (.val (.slice none 0 0)),.p (eI at_1)])]) ([(7,[.p (eI k_2),.p (eI 0),.p (eS o67.1),.p (eS o67.2.1),.p (eI 0),.p (eI 0),.p (eS ([]:Bytes)),.p (.val (.slice none 0 0)),.p (.val (.slice none 0 0)),.vec 33 11 0 ([r23.1].map ag),.p (eI at_1)]),(1000000,((ad.cs r23.2).map .p)),(6,bb),(7,[.p (eI k_2),.p (eI 0),.p (eS o67.1),.p (eS o67.2.1),.p (eI 0),.p (eI 0),.p (eS ([]:Bytes)),.p (.val (.slice none 0 0)),.p (.val (.slice none 0 0)),.p (.val (.slice none 0 0)),.p (eI at_1)])]))⟩ Z ?_)
   refine dPc (.ptr 7 9) Z (dPc (.p (.val (.slice none 0 0))) Z ?_)
   refine dPc (.ptr 1000000 0) Z (eC (λ _=>.p (.agg (ac.cs r23.1))) [(30,_)] Z ⟨.inr ⟨2,_,Z,Z,Z⟩,trivial⟩ Z Z (jz Z Z Y) (lt3 (λ h=>absurd h (by decide)) Y Y) (λ sl hsl K hK=>am Z (bB [1000000] [] 107000 107000 (ih_expr_parser_expr_ok r21 _ e24) Z Z Z (aE (hsl _ _ Z) bK) Z ⟨sr,trivial⟩ Z Z ⟨⟨_,Z,⟨sr,sr,sr,sr,sr,sr,sr,trivial⟩⟩,trivial⟩ Z Z Z Z Z Z Z Z Tryz.call65 Z Z hK)) ?_)
   refine aN (λ _=>.p (eL ag [r23.1])) Z Z Z (kr Z Z Z Y) (lt3 Z Z Z) (az Z (az Z (ay [(31,_)] ⟨.inr ⟨3,_,Z,Z,Z⟩,trivial⟩ (λ sl hsl K hK=>am Z (bQ ag [r23.1] Z Z Z Z Z Z (eA (hsl _ _ Z) Z fY) Z Z Z Z Z Z (by first | rfl | (simp only [List.map_cons,List.map_nil,ac.agg_eq]; done) | (simp only [List.map_cons,List.map_nil,ac.agg_eq]; rfl)) hK)) (az Z aO)))) (eC (λ _=>.vec 33 11 0 ([r23.1].map ag)) [(29,_),(32,_)] Z ⟨.inr ⟨1,_,Z,Z,Z⟩,.inr ⟨4,_,Z,Z,Z⟩,trivial⟩ Z Z (gx Z Y) (lt3 (λ h=>absurd h (by decide)) (λ h=>absurd h (by decide)) Y) (λ sl hsl K hK=>am Z (Cm ag [r23.1] 0 Z Z Z Z Z Z Z Z (hsl _ _ Z) (hsl _ _ Z) Z (λ x=>congrArg List.length (ac.cells_eq x)) Z Z Z Z hk25 hK)) ?_)
   refine dPc (.ptr 7 9) Z (dS Z ?_)
   refine dJ (nx 4 Z ?_)
   refine bd h0 λ r26 e27 h0=>mO Z (cVq [1000000] [] 108000 108000 (eM _ r23.2 ([58]:Bytes) _ e27) Tryz.call103 Z ?_)
   refine nx 2 Z (bd h0 λ r28 e29 h0=>?_)
   refine cc' h0 λ hk30 h0=>mG (gE (t:=⟨[(0,.ptr 1000000 0),(2,.p (eI k_2)),(6,.ptr 6 0),(7,.ptr 7 0)],[(6,bb),(7,[.p (eI k_2),.p (eI 0),.p (eS o67.1),.p (eS o67.2.1),.p (eI 0),.p (eI 0),.p (eS ([]:Bytes)),.p (.val (.slice none 0 0)),.p (.val (.slice none 0 0)),.vec 33 11 0 ([r23.1].map ag),.p (eI at_1)]),(1000000,(ad.cs r26).map .p)]⟩) Z Z) (mSq ⟨3,[3,5,7],(by4 (.some (da [] 109000 109000)) (.some λ i=>Nat.beq i 33||Nat.beq i 42) .none .none),(λ _=>[(0,.ptr 1000000 0),(2,.p (eI k_2)),(6,.ptr 6 0),(7,.ptr 7 0)]),(by4 ([(6,bb),(7,[.p (eI k_2),.p (eI 0),.p (eS o67.1),.p (eS o67.2.1),.p (eI 0),.p (eI 0),.p (eS ([]:Bytes)),.p (.val (.slice none 0 0)),.p (.val (.slice none 0 0)),.vec 33 11 0 ([r23.1].map ag),.p (eI at_1)]),(1000000,((ad.cs r26).map .p))]) ([(1000000,((ad.cs r28.2).map .p)),(6,bb),(7,[.p (eI k_2),.p (eI 0),.p (eS o67.1),.p (eS o67.2.1),.p (eI 0),.p (eI 0),.p (eS ([]:Bytes)),.p (.val (.slice none 0 0)),.p (.val (.slice none 0 0)),.vec 33 11 0 ([r23.1].map ag),.p (eI at_1)])]) ([(1000000,((ad.cs r28.2).map .p)),(6,bb),(7,[.p (eI k_2),.p (eI 0),.p (eS o67.1),.p (eS o67.2.1),.p (eI 0),.p (eI 0),.p (eS ([]:Bytes)),.p (.val (.slice none 0 0)),.p (.val (.slice none 0 0)),.p (eL ag [r23.1]),.p (eI at_1)])]) ([(7,[.p (eI k_2),.p (eI 0),.p (eS o67.1),.p (eS o67.2.1),.p (eI 0),.p (eI 0),.p (eS ([]:Bytes)),.p (.val (.slice none 0 0)),.p (.val (.slice none 0 0)),.vec 42 11 0 (([r23.1]++[r28.1]).map ag),.p (eI at_1)]),(1000000,((ad.cs r28.2).map .p)),(6,bb),(7,[.p (eI k_2),.p (eI 0),.p (eS o67.1),.p (eS o67.2.1),.p (eI 0),.p (eI 0),.p (eS ([]:Bytes)),.p (.val (.slice none 0 0)),.p (.val (.slice none 0 0)),.p (eL ag [r23.1]),.p (eI at_1)])]))⟩ Z ?_)
   refine dPc (.ptr 7 9) Z (dP (by4 (.vec 33 11 0 ([r23.1].map ag)) (.vec 33 11 0 ([r23.1].map ag)) (.p (eL ag [r23.1])) (.p (eL ag [r23.1]))) Z ?_)
   refine dPc (.ptr 1000000 0) Z (eC (λ _=>.p (.agg (ac.cs r28.1))) [(39,_)] Z ⟨.inr ⟨2,_,Z,Z,Z⟩,trivial⟩ Z Z (jz Z Z Y) (lt3 (λ h=>absurd h (by decide)) Y Y) (λ sl hsl K hK=>am Z (bB [1000000] [] 109000 109000 (ih_expr_parser_expr_ok r26 _ e29) Z Z Z (aE (hsl _ _ Z) bK) Z ⟨sr,trivial⟩ Z Z ⟨⟨_,Z,⟨sr,sr,sr,sr,sr,sr,sr,trivial⟩⟩,trivial⟩ Z Z Z Z Z Z Z Z Tryz.call65 Z Z hK)) ?_)
   refine aN (λ _=>.p (eL ag [r28.1])) Z Z Z (kr Z Z Z Y) (lt3 Z Z Z) (az Z (az Z (ay [(40,_)] ⟨.inr ⟨3,_,Z,Z,Z⟩,trivial⟩ (λ sl hsl K hK=>am Z (bQ ag [r28.1] Z Z Z Z Z Z (eA (hsl _ _ Z) Z fY) Z Z Z Z Z Z (by first | rfl | (simp only [List.map_cons,List.map_nil,ac.agg_eq]; done) | (simp only [List.map_cons,List.map_nil,ac.agg_eq]; rfl)) hK)) (az Z aO)))) (eC (λ _=>.vec 42 11 0 (([r23.1]++[r28.1]).map ag)) [(38,_),(41,_)] Z ⟨.inr ⟨1,_,Z,Z,Z⟩,.inr ⟨4,_,Z,Z,Z⟩,trivial⟩ Z Z (gx Z Y) (lt3 (λ h=>absurd h (by decide)) (λ h=>absurd h (by decide)) Y) (λ sl hsl K hK=>am Z (gD ag [r23.1] [r28.1] Z Z Z Z Z Z Z Z (hsl _ _ Z) Z Z (hsl _ _ Z) Z (λ x=>congrArg List.length (ac.cells_eq x)) Z Z Z Z hk30 hK)) ?_)
   refine dPc (.ptr 7 9) Z (dS Z ?_)
   refine dJ (nx 6 Z ?_)
   refine bd h0 λ o69 h1 h0=>kN o69 (λ v70=>⟨[(0,.ptr 1000000 0),(6,.ptr 6 0),(7,.ptr 7 0),(8,.p (eS v70.1))],[(6,bb),(7,[.p (eI k_2),.p (eI 0),.p (eS o67.1),.p (eS o67.2.1),.p (eI 0),.p (eI 0),.p (eS ([]:Bytes)),.p (.val (.slice none 0 0)),.p (.val (.slice none 0 0)),.vec 53 11 0 (v70.2.1.map ag),.p (eI at_1)]),(1000000,[.p (eL bw v70.2.2.1),.p (eI v70.2.2.2.1),.p (eI v70.2.2.2.2.1),.p (eI v70.2.2.2.2.2.1),.p (eI v70.2.2.2.2.2.2.1),.p (eI v70.2.2.2.2.2.2.2.1),.p (eS v70.2.2.2.2.2.2.2.2)])]⟩) ?_ ?_
   ·refine nx 2 Z (bd h0 λ o71 h1 h0=>?_)
    refine kN o71 (λ v72=>⟨[(0,.ptr 1000000 0),(6,.ptr 6 0),(7,.ptr 7 0),(8,.p (eS o69.1))],[(6,bb),(7,[.p (eI k_2),.p (eI 0),.p (eS o67.1),.p (eS o67.2.1),.p (eI 0),.p (eI 0),.p (eS ([]:Bytes)),.p (.val (.slice none 0 0)),.p (.val (.slice none 0 0)),.vec 64 11 0 (v72.1.map ag),.p (eI at_1)]),(1000000,[.p (eL bw v72.2.1),.p (eI v72.2.2.1),.p (eI v72.2.2.2.1),.p (eI v72.2.2.2.2.1),.p (eI v72.2.2.2.2.2.1),.p (eI v72.2.2.2.2.2.2.1),.p (eS v72.2.2.2.2.2.2.2)])]⟩) ?_ ?_
    ·refine nx 5 Z (bd h0 λ r62 e63 h0=>?_)
     refine mO Z (cVq [1000000] [] 115000 115000 (dj _ (ad.mk o71.2.1 o71.2.2.1 o71.2.2.2.1 o71.2.2.2.2.1 (ap.mk o71.2.2.2.2.2.1 o71.2.2.2.2.2.2.1 o71.2.2.2.2.2.2.2)) o69.1 _ e63) Tryz.call186 Z ?_)
     exact nx 7 Z (mQo (oi h0) (ax _) Z Z Z Z (uX ⟨sr,sr,sr,sr,sr,sr,sr,gq _,gq _,sr,sr,trivial⟩) ⟨⟨_,Z,⟨sr,sr,sr,sr,sr,sr,sr,trivial⟩⟩,trivial⟩)
    refine nx 3 Z (bd h1 λ r46 e47 h1=>?_)
    refine mO Z (cVq [1000000] [] 112000 112000 (fQ _ (ad.mk o69.2.2.1 o69.2.2.2.1 o69.2.2.2.2.1 o69.2.2.2.2.2.1 (ap.mk o69.2.2.2.2.2.2.1 o69.2.2.2.2.2.2.2.1 o69.2.2.2.2.2.2.2.2)) ([105,102]:Bytes) _ e47) Tryz.call211 Z ?_)
    refine nx 1 Z (fB [56] h1 Z (λ c48 h1=>?_) λ c48 h1=>?_)
    ·refine nx 4 Z (bd h1 λ r49 e50 h1=>?_)
     refine mO Z (cVq [1000000] [] 113000 113000 (aR _ r46.2 _ e50) Tryz.call102 Z ?_)
     refine nx 1 Z (bd h1 λ r51 e52 h1=>?_)
     refine cc' h1 λ hk53 h1=>mG (gE (t:=⟨[(0,.ptr 1000000 0),(6,.ptr 6 0),(7,.ptr 7 0),(8,.p (eS o69.1))],[(6,bb),(7,[.p (eI k_2),.p (eI 0),.p (eS o67.1),.p (eS o67.2.1),.p (eI 0),.p (eI 0),.p (eS ([]:Bytes)),.p (.val (.slice none 0 0)),.p (.val (.slice none 0 0)),.vec 53 11 0 (o69.2.1.map ag),.p (eI at_1)]),(1000000,(ad.cs r49.2).map .p)]⟩) Z Z) (mSq ⟨3,[3,5,7],(by4 (.some (da [] 114000 114000)) (.some λ i=>Nat.beq i 53||Nat.beq i 64) .none .none),(λ _=>[(0,.ptr 1000000 0),(6,.ptr 6 0),(7,.ptr 7 0),(8,.p (eS o69.1))]),(by4 ([(6,bb),(7,[.p (eI k_2),.p (eI 0),.p (eS o67.1),.p (eS o67.2.1),.p (eI 0),.p (eI 0),.p (eS ([]:Bytes)),.p (.val (.slice none 0 0)),.p (.val (.slice none 0 0)),.vec 53 11 0 (o69.2.1.map ag),.p (eI at_1)]),(1000000,((ad.cs r49.2).map .p))]) ([(1000000,((ad.cs r51.2).map .p)),(6,bb),(7,[.p (eI k_2),.p (eI 0),.p (eS o67.1),.p (eS o67.2.1),.p (eI 0),.p (eI 0),.p (eS ([]:Bytes)),.p (.val (.slice none 0 0)),.p (.val (.slice none 0 0)),.vec 53 11 0 (o69.2.1.map ag),.p (eI at_1)])]) ([(1000000,((ad.cs r51.2).map .p)),(6,bb),(7,[.p (eI k_2),.p (eI 0),.p (eS o67.1),.p (eS o67.2.1),.p (eI 0),.p (eI 0),.p (eS ([]:Bytes)),.p (.val (.slice none 0 0)),.p (.val (.slice none 0 0)),.p (eL ag o69.2.1),.p (eI at_1)])]) ([(7,[.p (eI k_2),.p (eI 0),.p (eS o67.1),.p (eS o67.2.1),.p (eI 0),.p (eI 0),.p (eS ([]:Bytes)),.p (.val (.slice none 0 0)),.p (.val (.slice none 0 0)),.vec 64 11 0 ((o69.2.1++[r51.1]).map ag),.p (eI at_1)]),(1000000,((ad.cs r51.2).map .p)),(6,bb),(7,[.p (eI k_2),.p (eI 0),.p (eS o67.1),.p (eS o67.2.1),.p (eI 0),.p (eI 0),.p (eS ([]:Bytes)),.p (.val (.slice none 0 0)),.p (.val (.slice none 0 0)),.p (eL ag o69.2.1),.p (eI at_1)])]))⟩ Z ?_)
     refine dPc (.ptr 7 9) Z (dP (by4 (.vec 53 11 0 (o69.2.1.map ag)) (.vec 53 11 0 (o69.2.1.map ag)) (.p (eL ag o69.2.1)) (.p (eL ag o69.2.1))) Z ?_)
     refine dPc (.ptr 1000000 0) Z (eC (λ _=>.p (.agg (ac.cs r51.1))) [(61,_)] Z ⟨.inr ⟨2,_,Z,Z,Z⟩,trivial⟩ Z Z (jz Z Z Y) (lt3 (λ h=>absurd h (by decide)) Y Y) (λ sl hsl K hK=>am Z (bB [1000000] [] 114000 114000 (ih_expr_parser_expr_ok r49.2 _ e52) Z Z Z (aE (hsl _ _ Z) bK) Z ⟨sr,trivial⟩ Z Z ⟨⟨_,Z,⟨sr,sr,sr,sr,sr,sr,sr,trivial⟩⟩,trivial⟩ Z Z Z Z Z Z Z Z Tryz.call65 Z Z hK)) ?_)
     refine aN (λ _=>.p (eL ag [r51.1])) Z Z Z (kr Z Z Z Y) (lt3 Z Z Z) (az Z (az Z (ay [(62,_)] ⟨.inr ⟨3,_,Z,Z,Z⟩,trivial⟩ (λ sl hsl K hK=>am Z (bQ ag [r51.1] Z Z Z Z Z Z (eA (hsl _ _ Z) Z fY) Z Z Z Z Z Z (by first | rfl | (simp only [List.map_cons,List.map_nil,ac.agg_eq]; done) | (simp only [List.map_cons,List.map_nil,ac.agg_eq]; rfl)) hK)) (az Z aO)))) (eC (λ _=>.vec 64 11 0 ((o69.2.1++[r51.1]).map ag)) [(60,_),(63,_)] Z ⟨.inr ⟨1,_,Z,Z,Z⟩,.inr ⟨4,_,Z,Z,Z⟩,trivial⟩ Z Z (gx Z Y) (lt3 (λ h=>absurd h (by decide)) (λ h=>absurd h (by decide)) Y) (λ sl hsl K hK=>am Z (gD ag o69.2.1 [r51.1] Z Z Z Z Z Z Z Z (hsl _ _ Z) Z Z (hsl _ _ Z) Z (λ x=>congrArg List.length (ac.cells_eq x)) Z Z Z Z hk53 hK)) ?_)
     refine dPc (.ptr 7 9) Z (dS Z ?_)
     refine dJ (nx 1 Z ?_)
     exact eX _ (oi h1).symm (gE Z Z)
    exact nx 2 Z (eX _ (oi h1).symm (bj (cn 53 64 Z Z Z Z Z) (gE Z Z)))
   refine nx 5 Z (fD [45] h1 Z (λ c31 h1=>?_) λ c31 h1=>?_)
   ·refine nx 4 Z (bd h1 λ r32 e33 h1=>?_)
    refine mO Z (cVq [1000000] [] 110000 110000 (eM _ r28.2 ([61,62]:Bytes) _ e33) Tryz.call103 Z ?_)
    refine nx 2 Z (bd h1 λ r34 e35 h1=>?_)
    refine cc' h1 λ hk36 h1=>mG (gE (t:=⟨[(0,.ptr 1000000 0),(6,.ptr 6 0),(7,.ptr 7 0)],[(6,bb),(7,[.p (eI k_2),.p (eI 0),.p (eS o67.1),.p (eS o67.2.1),.p (eI 0),.p (eI 0),.p (eS ([]:Bytes)),.p (.val (.slice none 0 0)),.p (.val (.slice none 0 0)),.vec 42 11 0 (([r23.1]++[r28.1]).map ag),.p (eI at_1)]),(1000000,(ad.cs r32).map .p)]⟩) Z Z) (mSq ⟨3,[3,5,7],(by4 (.some (da [] 111000 111000)) (.some λ i=>Nat.beq i 42||Nat.beq i 53) .none .none),(λ _=>[(0,.ptr 1000000 0),(6,.ptr 6 0),(7,.ptr 7 0)]),(by4 ([(6,bb),(7,[.p (eI k_2),.p (eI 0),.p (eS o67.1),.p (eS o67.2.1),.p (eI 0),.p (eI 0),.p (eS ([]:Bytes)),.p (.val (.slice none 0 0)),.p (.val (.slice none 0 0)),.vec 42 11 0 (([r23.1]++[r28.1]).map ag),.p (eI at_1)]),(1000000,((ad.cs r32).map .p))]) ([(1000000,((ad.cs r34.2).map .p)),(6,bb),(7,[.p (eI k_2),.p (eI 0),.p (eS o67.1),.p (eS o67.2.1),.p (eI 0),.p (eI 0),.p (eS ([]:Bytes)),.p (.val (.slice none 0 0)),.p (.val (.slice none 0 0)),.vec 42 11 0 (([r23.1]++[r28.1]).map ag),.p (eI at_1)])]) ([(1000000,((ad.cs r34.2).map .p)),(6,bb),(7,[.p (eI k_2),.p (eI 0),.p (eS o67.1),.p (eS o67.2.1),.p (eI 0),.p (eI 0),.p (eS ([]:Bytes)),.p (.val (.slice none 0 0)),.p (.val (.slice none 0 0)),.p (eL ag ([r23.1]++[r28.1])),.p (eI at_1)])]) ([(7,[.p (eI k_2),.p (eI 0),.p (eS o67.1),.p (eS o67.2.1),.p (eI 0),.p (eI 0),.p (eS ([]:Bytes)),.p (.val (.slice none 0 0)),.p (.val (.slice none 0 0)),.vec 53 11 0 ((([r23.1]++[r28.1])++[r34.1]).map ag),.p (eI at_1)]),(1000000,((ad.cs r34.2).map .p)),(6,bb),(7,[.p (eI k_2),.p (eI 0),.p (eS o67.1),.p (eS o67.2.1),.p (eI 0),.p (eI 0),.p (eS ([]:Bytes)),.p (.val (.slice none 0 0)),.p (.val (.slice none 0 0)),.p (eL ag ([r23.1]++[r28.1])),.p (eI at_1)])]))⟩ Z ?_)
    refine dPc (.ptr 7 9) Z (dP (by4 (.vec 42 11 0 (([r23.1]++[r28.1]).map ag)) (.vec 42 11 0 (([r23.1]++[r28.1]).map ag)) (.p (eL ag ([r23.1]++[r28.1]))) (.p (eL ag ([r23.1]++[r28.1])))) Z ?_)
    refine dPc (.ptr 1000000 0) Z (eC (λ _=>.p (.agg (ac.cs r34.1))) [(50,_)] Z ⟨.inr ⟨2,_,Z,Z,Z⟩,trivial⟩ Z Z (jz Z Z Y) (lt3 (λ h=>absurd h (by decide)) Y Y) (λ sl hsl K hK=>am Z (bB [1000000] [] 111000 111000 (ih_expr_parser_expr_ok r32 _ e35) Z Z Z (aE (hsl _ _ Z) bK) Z ⟨sr,trivial⟩ Z Z ⟨⟨_,Z,⟨sr,sr,sr,sr,sr,sr,sr,trivial⟩⟩,trivial⟩ Z Z Z Z Z Z Z Z Tryz.call65 Z Z hK)) ?_)
    refine aN (λ _=>.p (eL ag [r34.1])) Z Z Z (kr Z Z Z Y) (lt3 Z Z Z) (az Z (az Z (ay [(51,_)] ⟨.inr ⟨3,_,Z,Z,Z⟩,trivial⟩ (λ sl hsl K hK=>am Z (bQ ag [r34.1] Z Z Z Z Z Z (eA (hsl _ _ Z) Z fY) Z Z Z Z Z Z (by first | rfl | (simp only [List.map_cons,List.map_nil,ac.agg_eq]; done) | (simp only [List.map_cons,List.map_nil,ac.agg_eq]; rfl)) hK)) (az Z aO)))) (eC (λ _=>.vec 53 11 0 ((([r23.1]++[r28.1])++[r34.1]).map ag)) [(49,_),(52,_)] Z ⟨.inr ⟨1,_,Z,Z,Z⟩,.inr ⟨4,_,Z,Z,Z⟩,trivial⟩ Z Z (gx Z Y) (lt3 (λ h=>absurd h (by decide)) (λ h=>absurd h (by decide)) Y) (λ sl hsl K hK=>am Z (gD ag ([r23.1]++[r28.1]) [r34.1] Z Z Z Z Z Z Z Z (hsl _ _ Z) Z Z (hsl _ _ Z) Z (λ x=>congrArg List.length (ac.cells_eq x)) Z Z Z Z hk36 hK)) ?_)
    refine dPc (.ptr 7 9) Z (dS Z ?_)
    refine dJ (nx 4 Z ?_)
    exact eX _ (oi h1).symm (gE Z Z)
   exact nx 2 Z (eX _ (oi h1).symm (bj (cn 42 53 Z Z Z Z Z) (gE Z Z)))
  refine nx 3 Z (bd h1 λ r5 e6 h1=>?_)
  refine mO Z (cVq [1000000] [] 103000 103000 (bu _ r3.2 ([44]:Bytes) _ e6) Tryz.call101 Z ?_)
  refine nx 1 Z (fB [17] h1 Z (λ c7 h1=>?_) λ c7 h1=>?_)
  ·refine nx 4 Z (bd h1 λ r8 e9 h1=>?_)
   refine mO Z (cVq [1000000] [] 104000 104000 (aR _ r5.2 _ e9) Tryz.call102 Z ?_)
   refine nx 10 Z (bd h1 λ r10 e11 h1=>?_)
   refine mO Z (cVq [1000000] [] 105000 105000 (iw _ r8.2 _ e11) Tryz.call223 Z ?_)
   exact nx 3 Z (eX _ (oi h1).symm (gE Z Z))
  exact nx 2 Z (eX _ (oi h1).symm (gE Z Z))
 ·skip
  intro p_0 r h0
  rw [cW] at h0
  refine cw good [] [1000000] Tryz.func213 Z Z Z Z Z λ w0 F=>mPo (λ v:(List ac)×ad=>.p (eL ag v.1)) (λ v=>[(1000000,((ad.cs v.2).map .p))]) ?_
  refine nx 10 Z (bd h0 λ o89 h1 h0=>?_)
  refine kE 0 o89 (λ v90=>⟨[(3,.vec 23 11 0 (v90.1.map ag))],[(1000000,[.p (eL bw v90.2.1),.p (eI v90.2.2.1),.p (eI v90.2.2.2.1),.p (eI v90.2.2.2.2.1),.p (eI v90.2.2.2.2.2.1),.p (eI v90.2.2.2.2.2.2.1),.p (eS v90.2.2.2.2.2.2.2)])]⟩) ?_ ?_
  ·exact nx 7 Z (gz h0 Z)
  refine lG (λ (q91:(List ac)×(List ae)×Int×Int×Int×Int×Int×Bytes)=>⟨[(0,.ptr 1000000 0),(3,.vec 23 11 0 (q91.1.map ag))],[(1000000,[.p (eL bw q91.2.1),.p (eI q91.2.2.1),.p (eI q91.2.2.2.1),.p (eI q91.2.2.2.2.1),.p (eI q91.2.2.2.2.2.1),.p (eI q91.2.2.2.2.2.2.1),.p (eS q91.2.2.2.2.2.2.2)])]⟩) (λ m (q91:(List ac)×(List ae)×Int×Int×Int×Int×Int×Bytes)=>bC n (aA n) (cu n) m q91.1 q91.2.1 q91.2.2.1 q91.2.2.2.1 q91.2.2.2.2.1 q91.2.2.2.2.2.1 q91.2.2.2.2.2.2.1 q91.2.2.2.2.2.2.2) Y ([],p_0.fl,p_0.fat,p_0.fnest,p_0.fbase,p_0.fbad.fKind,p_0.fbad.fAt,p_0.fbad.fName) h1 (fZ (nY ⟨er Z,⟨_,Z,AV.sub_nilvec _ _ _⟩,trivial⟩ ⟨⟨_,Z,⟨sr,sr,sr,sr,sr,sr,sr,trivial⟩⟩,trivial⟩)) ?_
  rintro m ⟨out36,f37,f38,f39,f40,f41,f42,f43⟩ h1
  replace h1:bC n (aA n) (cu n) (m+1) out36 f37 f38 f39 f40 f41 f42 f43=some o89:=h1
  rw [bC] at h1
  refine nx 2 Z (bd h1 λ o92 h2 h1=>?_)
  refine kN o92 (λ v93=>⟨[(0,.ptr 1000000 0),(3,.vec 23 11 0 (out36.map ag)),(11,.p (eB v93.1))],[(1000000,[.p (eL bw v93.2.1),.p (eI v93.2.2.1),.p (eI v93.2.2.2.1),.p (eI v93.2.2.2.2.1),.p (eI v93.2.2.2.2.2.1),.p (eI v93.2.2.2.2.2.2.1),.p (eS v93.2.2.2.2.2.2.2)])]⟩) ?_ ?_
  ·refine nx 1 Z (fB [11] h1 Z (λ c57 h1=>?_) λ c57 h1=>?_)
   ·refine nx 7 Z (bd h1 λ r58 e59 h1=>?_)
    refine mO Z (cVq [1000000] [] 110000 110000 (ih_expr_parser_key_ok (ad.mk o92.2.1 o92.2.2.1 o92.2.2.2.1 o92.2.2.2.2.1 (ap.mk o92.2.2.2.2.2.1 o92.2.2.2.2.2.2.1 o92.2.2.2.2.2.2.2)) _ e59) Tryz.call225 Z ?_)
    refine mO Z (bQ ag [r58.1] Z Z Z Z Z Z Z Z Z Z Z Z Z (by first | rfl | (simp only [List.map_cons,List.map_nil,ac.agg_eq]; done) | (simp only [List.map_cons,List.map_nil,ac.agg_eq]; rfl)) ?_)
    refine cc' h1 λ hk60 h1=>mO Z (gD ag out36 [r58.1] Z Z Z Z Z Z Z Z Z Z Z Z Z (λ x=>congrArg List.length (ac.cells_eq x)) Z Z Z Z hk60 ?_)
    refine nx 5 Z (bd h1 λ r61 e62 h1=>?_)
    refine mO Z (cVq [1000000] [] 111000 111000 (eM _ r58.2 ([61]:Bytes) _ e62) Tryz.call103 Z ?_)
    refine nx 5 Z (bd h1 λ r63 e64 h1=>?_)
    refine mO Z (cVq [1000000] [] 112000 112000 (ih_expr_parser_expr_ok r61 _ e64) Tryz.call65 Z ?_)
    refine mO Z (bQ ag [r63.1] Z Z Z Z Z Z Z Z Z Z Z Z Z (by first | rfl | (simp only [List.map_cons,List.map_nil,ac.agg_eq]; done) | (simp only [List.map_cons,List.map_nil,ac.agg_eq]; rfl)) ?_)
    refine cc' h1 λ hk65 h1=>mO Z (gD ag (out36++[r58.1]) [r63.1] Z Z Z Z Z Z Z Z Z Z Z Z Z (λ x=>congrArg List.length (ac.cells_eq x)) Z Z Z Z hk65 ?_)
    refine nx 6 Z (bd h1 λ r66 e67 h1=>?_)
    refine mO Z (cVq [1000000] [] 113000 113000 (bu _ r63.2 ([44]:Bytes) _ e67) Tryz.call101 Z ?_)
    refine nx 2 Z (fB [26] h1 Z (λ c68 h1=>?_) λ c68 h1=>?_)
    ·exact nx 2 Z (eXi _ (oi h1).symm (gE Z Z))
    refine nx 4 Z (bd h1 λ r69 e70 h1=>?_)
    refine mO Z (cVq [1000000] [] 114000 114000 (aR _ r66.2 _ e70) Tryz.call102 Z ?_)
    exact nx 1 Z (eX ((out36++[r58.1])++[r63.1],r69.2.fl,r69.2.fat,r69.2.fnest,r69.2.fbase,r69.2.fbad.fKind,r69.2.fbad.fAt,r69.2.fbad.fName) h1 (gE Z Z))
   exact nx 2 Z (eXi _ (oi h1).symm (gE Z Z))
  refine nx 2 Z (bd h2 λ r44 e45 h2=>?_)
  refine mO Z (cVq [1000000] [] 108000 108000 (cX (ad.mk f37 f38 f39 f40 (ap.mk f41 f42 f43)) _ e45) Tryz.call121 Z ?_)
  refine nx 2 Z (fB [6,7] h2 Z (λ c46 h2=>?_) λ c46 h2=>?_)
  ·refine nx 1 Z (bd h2 λ r47 e48 h2=>?_)
   refine mO Z (cVq [1000000] [] 109000 109000 (bu _ r44.2 ([125]:Bytes) _ e48) Tryz.call101 Z ?_)
   exact nx 3 Z (eX _ (oi h2).symm (gE Z Z))
  exact nx 5 Z (eX _ (oi h2).symm (gE Z Z))
 ·skip
  intro p_0 r h0
  rw [cu] at h0
  refine cw good [] [1000000] Tryz.func225 Z Z Z Z Z λ w0 F=>mPo (λ v:ac×ad=>.p (.agg (ac.cs v.1))) (λ v=>[(1000000,((ad.cs v.2).map .p))]) ?_
  refine nx 7 Z (bd h0 λ r1 e2 h0=>?_)
  refine mO Z (cVq [1000000] [] 101000 101000 (bE _ p_0 _ e2) Tryz.call70 Z ?_)
  refine nx 12 Z (fD [7,10] h0 Z (λ c3 h0=>?_) λ c3 h0=>?_)
  ·refine nx 4 Z (bd h0 λ r4 e5 h0=>?_)
   refine mO Z (cVq [1000000] [] 102000 102000 (aR _ r1.2 _ e5) Tryz.call102 Z ?_)
   refine nx 8 Z (bd h0 λ r6 e7 h0=>?_)
   refine oK (eG (ah.mk 3 0 r1.1.fText [] []) r1.1.fAt _ e7) Z ⟨db ⟨.inl Z,.inl Z,.inl Z,.inr ⟨Z,Z⟩,.inr ⟨Z,Z⟩,trivial⟩,sr,trivial⟩ Tryz.call39 Z (nx 3 Z ?_)
   exact gz h0 Z
  refine nx 8 Z (fD [19,22] h0 Z (λ c8 h0=>?_) λ c8 h0=>?_)
  ·refine nx 4 Z (bd h0 λ r9 e10 h0=>?_)
   refine mO Z (cVq [1000000] [] 103000 103000 (ih_expr_parser_text_ok r1.2 _ e10) Tryz.call197 Z ?_)
   exact nx 3 Z (gz h0 Z)
  refine nx 4 Z (bd h0 λ r11 e12 h0=>?_)
  refine mO Z (cVq [1000000] [] 104000 104000 (bu _ r1.2 ([40]:Bytes) _ e12) Tryz.call101 Z ?_)
  refine nx 2 Z (fB [25,27] h0 Z (λ c13 h0=>?_) λ c13 h0=>?_)
  ·refine nx 4 Z (bd h0 λ r14 e15 h0=>?_)
   refine mO Z (cVq [1000000] [] 105000 105000 (ef _ r11.2 _ e15) Tryz.call185 Z ?_)
   refine nx 4 Z (bd h0 λ r16 e17 h0=>?_)
   refine mO Z (cVq [1000000] [] 106000 106000 (ih_expr_parser_expr_ok r14 _ e17) Tryz.call65 Z ?_)
   refine nx 6 Z (bd h0 λ r18 e19 h0=>?_)
   refine mO Z (cVq [1000000] [] 107000 107000 (dj _ r16.2 ([41]:Bytes) _ e19) Tryz.call186 Z ?_)
   exact nx 7 Z (gz h0 Z)
  refine nx 7 Z (bd h0 λ r20 e21 h0=>?_)
  refine mO Z (cVq [1000000] [] 108000 108000 (bW r11.2 2 r1.1.fAt _ e21) Tryz.call71 Z ?_)
  exact nx 3 Z (gz h0 Z)
theorem sU (n:Nat):∀ (s_0:Bytes) (base_1:Int) (r:ac×ap),d5 n s_0 base_1=some r→aK Tryz.prog 33 [eS s_0,eI base_1] (·=.tuple [.p (.agg (ac.cs r.1)),.p (.agg (ap.cs r.2))]):=(oU n).2.1
def ei (n:Nat)(s_0:Bytes):Option (ac×ap) :=
 (d5 n s_0 0).bind λ r1 =>
 (eR n r1.1 r1.2).bind λ r3 =>
 some (r3.1,r3.2)
theorem gu (n:Nat)(s_0:Bytes)(r:ac×ap)(h0:ei n s_0=some r):aK Tryz.prog 16 [eS s_0] (·=.tuple [.p (.agg (ac.cs r.1)),.p (.agg (ap.cs r.2))]):=by
 unfold ei at h0
 refine cB good Tryz.func16 Z Z Z λ w0=>mP (λ v:ac×ap=>.tuple [.p (.agg (ac.cs v.1)),.p (.agg (ap.cs v.2))]) ?_
 refine nx 8 Z (bd h0 λ r1 e2 h0=>?_)
 refine oK (sU _ s_0 0 _ e2) Z ⟨sr,sr,trivial⟩ Tryz.call33 Z (nx 12 Z ?_)
 refine bd h0 λ r3 e4 h0=>oK (np _ r1.1 r1.2 _ e4) Z ⟨sr,sr,trivial⟩ Tryz.call34 Z (nx 6 Z ?_)
 exact mQ (oi h0) Z (aM ⟨sr,sr,trivial⟩)
def eY (r_expr_Nodes:ac→Option Int)(e_0:ac):Nat→Int→Int→Option Int
 | 0,_,_=>none
 | m+1,n9,t10 =>
 if t10 < (e_0.fKids.length:Int) then
  ck ((0:Int)≤t10∧t10 < (e_0.fKids.length:Int)) <|
  (r_expr_Nodes (lat e_0.fKids t10)).bind λ r13 =>
  ck (inR (n9+r13)) <|
  ck (inR (t10+1)) <|
  eY r_expr_Nodes e_0 m (n9+r13) (t10+1)
 else
  some n9
def fj:Nat→ac→Option Int
 | 0,_=>none
 | n+1,e_0 =>
 (eY (fj n) e_0 n 1 0).bind λ n19 =>
 some n19
theorem sQ (n:Nat):∀ (e_0:ac) (r:Int),fj n e_0=some r→aK Tryz.prog 14 [.agg (ac.cs e_0)] (·=.p (eI r)):=by
 induction n with
 | zero=>intro e_0 r h0; cases h0
 | succ n ih =>
 have ih_expr_Nodes_ok:=ih
 intro e_0 r h0
 rw [fj] at h0
 refine cB good Tryz.func14 Z Z Z λ w0=>mP (λ v:Int=>.p (eI v)) ?_
 refine nx 14 Z (oLl (f:=ag) Z Z ?_)
 refine nx 3 Z (bd h0 λ o21 h1 h0=>?_)
 refine kE 0 o21 (λ v22=>⟨[(3,.p (eI v22))],[]⟩) ?_ ?_
 ·exact nx 7 Z (mQ (oi h0) Z (sr))
 refine lG (λ (q23:Int×Int)=>⟨[(3,.p (eI q23.1)),(7,.p (eL ag e_0.fKids)),(8,.p (eI (e_0.fKids.length:Int))),(9,.p (eI q23.2))],[]⟩) (λ m (q23:Int×Int)=>eY (fj n) e_0 m q23.1 q23.2) Y (1,0) h1 (gE Z Z) ?_
 rintro m ⟨n9,t10⟩ h1
 replace h1:eY (fj n) e_0 (m+1) n9 t10=some o21:=h1
 rw [eY] at h1
 refine nx 5 Z (fD [10] h1 Z (λ c11 h1=>?_) λ c11 h1=>?_)
 ·refine nx 6 Z (oE h1 ac.cells_eq Z Z Y λ hk12 h1=>?_)
  refine nx 7 Z (bd h1 λ r13 e14 h1=>?_)
  refine oK (ih_expr_Nodes_ok (lat e_0.fKids t10) _ e14) Z ⟨sr,trivial⟩ Tryz.call14 Z (oA h1 Z Z λ hk15 h1=>?_)
  refine nx 3 Z (oA h1 Z Z λ hk16 h1=>?_)
  exact nx 2 Z (eX (n9+r13,t10+1) h1 (gE Z Z))
 exact nx 2 Z (eXi _ (oi h1).symm (gE Z Z))
def eT (n:Nat):Option Bool :=
 (ei n ([49,32,43,32,50,32,42,32,51]:Bytes)).bind λ r1 =>
 (ei n ([34,120,36,123,34,121,34,125,34]:Bytes)).bind λ r3 =>
 (ei n ([97,32,43]:Bytes)).bind λ r5 =>
 (ei n ([91,102,111,114,32,107,44,32,118,32,105,110,32,109,32,58,32,118,32,105,102,32,107,32,33,61,32,34,97,34,93]:Bytes)).bind λ r7 =>
 (
   if r1.2.fKind=0 then
    if r3.2.fKind=0 then
     if r5.2.fKind=2 then
      if r5.2.fAt=3 then
       if r7.2.fKind=0 then
        if (r1.1.fKids.length:Int)=2 then
         some (!decide ((r3.1.fKids.length:Int)=2))
        else
         some true
       else
        some true
      else
       some true
     else
      some true
    else
     some true
   else
    some true
  : Option Bool).bind λ t15 =>
 if t15=true then
  some false
 else
  (
    if r1.1.fOp=11 then
     ck ((0:Int)≤1∧1 < (r1.1.fKids.length:Int)) <|
     if (lat r1.1.fKids 1).fOp=13 then
      if r3.1.fKind=2 then
       if r7.1.fKind=12 then
        if r7.1.fKey=([107]:Bytes) then
         if r7.1.fName=([118]:Bytes) then
          if (r7.1.fKids.length:Int)=3 then
           (fj n r1.1).bind λ r25 =>
           some (decide (r25=5))
          else
           some false
         else
          some false
        else
         some false
       else
        some false
      else
       some false
     else
      some false
    else
     some false
   : Option Bool).bind λ t27 =>
  some t27
theorem j5 (n:Nat)(r:Bool)(h0:eT n=some r):aK Tryz.prog 11 [] (·=.p (eB r)):=by
 unfold eT at h0
 refine cB good Tryz.func11 Z Z Z λ w0=>mP (λ v:Bool=>.p (eB v)) ?_
 refine nx 6 Z (bd h0 λ r1 e2 h0=>?_)
 refine oK (gu _ ([49,32,43,32,50,32,42,32,51]:Bytes) _ e2) Z ⟨sr,trivial⟩ Tryz.call16 Z (nx 10 Z ?_)
 refine bd h0 λ r3 e4 h0=>oK (gu _ ([34,120,36,123,34,121,34,125,34]:Bytes) _ e4) Z ⟨sr,trivial⟩ Tryz.call16 Z (nx 10 Z ?_)
 refine bd h0 λ r5 e6 h0=>oK (gu _ ([97,32,43]:Bytes) _ e6) Z ⟨sr,trivial⟩ Tryz.call16 Z (nx 10 Z ?_)
 refine bd h0 λ r7 e8 h0=>oK (gu _ ([91,102,111,114,32,107,44,32,118,32,105,110,32,109,32,58,32,118,32,105,102,32,107,32,33,61,32,34,97,34,93]:Bytes) _ e8) Z ⟨sr,trivial⟩ Tryz.call16 Z (nx 10 Z ?_)
 refine bd h0 λ o30 h1 h0=>kN o30 (λ v31=>⟨[(1,.ptr 1 0),(3,.ptr 3 0),(7,.ptr 7 0),(59,.p (eB v31))],[(1,(ac.cs r1.1).map .p),(3,(ac.cs r3.1).map .p),(7,(ac.cs r7.1).map .p)]⟩) ?_ ?_
 ·refine nx 1 Z (fB [59] h0 Z (λ c16 h0=>?_) λ c16 h0=>?_)
  ·exact nx 6 Z (mQ (oi h0) Z (sr))
  refine nx 3 Z (bd h0 λ o32 h1 h0=>?_)
  refine kN o32 (λ v33=>⟨[(0,.p (eB v33))],[]⟩) ?_ ?_
  ·exact nx 2 Z (mQ (oi h0) Z (sr))
  refine nx 5 Z (fD [62,63] h1 Z (λ c17 h1=>?_) λ c17 h1=>?_)
  ·refine nx 2 Z (oE h1 ac.cells_eq Z Z Y λ hk18 h1=>?_)
   refine nx 5 Z (fD [69,70,71] h1 Z (λ c19 h1=>?_) λ c19 h1=>?_)
   ·refine nx 5 Z (fD [74,75,76] h1 Z (λ c20 h1=>?_) λ c20 h1=>?_)
    ·refine nx 5 Z (fD [79,80,81] h1 Z (λ c21 h1=>?_) λ c21 h1=>?_)
     ·refine nx 2 Z (oS Z Z ?_)
      refine nx 2 Z (fD [84,85,86] h1 Z (λ c22 h1=>?_) λ c22 h1=>?_)
      ·refine nx 2 Z (oS Z Z ?_)
       refine nx 2 Z (fD [89,90,91] h1 Z (λ c23 h1=>?_) λ c23 h1=>?_)
       ·refine nx 2 Z (oLl (f:=ag) Z Z ?_)
        refine nx 3 Z (fD [95,96,97] h1 Z (λ c24 h1=>?_) λ c24 h1=>?_)
        ·refine nx 1 Z (bd h1 λ r25 e26 h1=>?_)
         refine oK (sQ _ r1.1 _ e26) Z ⟨sr,trivial⟩ Tryz.call14 Z (nx 4 Z ?_)
         exact eX _ (oi h1).symm (gE Z Z)
        exact nx 6 Z (eX _ (oi h1).symm (gE Z Z))
       exact nx 12 Z (eX _ (oi h1).symm (gE Z Z))
      exact nx 17 Z (eX _ (oi h1).symm (gE Z Z))
     exact nx 22 Z (eX _ (oi h1).symm (gE Z Z))
    exact nx 27 Z (eX _ (oi h1).symm (gE Z Z))
   exact nx 32 Z (eX _ (oi h1).symm (gE Z Z))
  exact nx 40 Z (eX _ (oi h1).symm (gE Z Z))
 refine nx 5 Z (fN [27,28] h1 Z (λ c9 h1=>?_) λ c9 h1=>?_)
 ·refine nx 5 Z (fN [31,32,33] h1 Z (λ c10 h1=>?_) λ c10 h1=>?_)
  ·refine nx 5 Z (fN [36,37,38] h1 Z (λ c11 h1=>?_) λ c11 h1=>?_)
   ·refine nx 5 Z (fN [41,42,43] h1 Z (λ c12 h1=>?_) λ c12 h1=>?_)
    ·refine nx 5 Z (fN [46,47,48] h1 Z (λ c13 h1=>?_) λ c13 h1=>?_)
     ·refine nx 2 Z (oLl (f:=ag) Z Z ?_)
      refine nx 3 Z (fN [52,53,54] h1 Z (λ c14 h1=>?_) λ c14 h1=>?_)
      ·refine nx 2 Z (oLl (f:=ag) Z Z ?_)
       exact nx 3 Z (eX _ (oi h1).symm (gE Z Z))
      exact nx 6 Z (eX _ (oi h1).symm (gE Z Z))
     exact nx 12 Z (eX _ (oi h1).symm (gE Z Z))
    exact nx 17 Z (eX _ (oi h1).symm (gE Z Z))
   exact nx 22 Z (eX _ (oi h1).symm (gE Z Z))
  exact nx 27 Z (eX _ (oi h1).symm (gE Z Z))
 exact nx 32 Z (eX _ (oi h1).symm (gE Z Z))
end Go.Ab.R06
end
section
namespace Go.Ab.R06
open Go.Ab
theorem p6 {r_expr_Nodes r_expr_Nodes':ac→Option Int}(h_expr_Nodes:∀ x0,Le (r_expr_Nodes x0) (r_expr_Nodes' x0)){e_0:ac}:∀ (m m':Nat),m≤m'→∀ (y0:Int) (y1:Int),Le (eY r_expr_Nodes e_0 m y0 y1) (eY r_expr_Nodes' e_0 m' y0 y1):=by
 intro m
 induction m with
 | zero=>intro m' _ y0 y1; exact br _
 | succ m ih =>
 intro m' hm y0 y1
 cases m' with
 | zero=>omega
 | succ m' =>
 simp only [eY]
 repeat' (with_reducible (first | exact al _ | apply ih | apply h_expr_Nodes | refine bA ?_ | refine aU ?_ ?_ | refine aH ?_ (λ _=>?_) | refine bz ?_ (λ _=>?_) | omega | intro _))
theorem sc (n:Nat):∀ n':Nat,n≤n'→(∀ (e_0:ac),Le (fj n e_0) (fj n' e_0)):=by
 induction n with
 | zero=>exact λ n' _=>(by intro e_0; exact br _)
 | succ n ih =>
 intro n' hn
 cases n' with
 | zero=>omega
 | succ n' =>
 have hn':n≤n':=by omega
 have ih_expr_Nodes_le:=ih n' hn'
 intro e_0
 simp only [fj]
 repeat' (with_reducible (first | exact al _ | apply ih_expr_Nodes_le | apply p6 | refine bA ?_ | refine aU ?_ ?_ | refine aH ?_ (λ _=>?_) | refine bz ?_ (λ _=>?_) | omega | intro _))
theorem sJ {n n':Nat}(hn:n≤n'):∀ (e_0:ac),Le (fj n e_0) (fj n' e_0):=(sc n n' hn)
theorem kQ:∀ (m m':Nat),m≤m'→∀ (y0:aa),Le (aX m y0) (aX m' y0):=by
 intro m
 induction m with
 | zero=>intro m' _ y0; exact br _
 | succ m ih =>
 intro m' hm y0
 cases m' with
 | zero=>omega
 | succ m' =>
 simp only [aX]
 repeat' (with_reducible (first | exact al _ | apply ih | refine bA ?_ | refine aU ?_ ?_ | refine aH ?_ (λ _=>?_) | refine bz ?_ (λ _=>?_) | omega | intro _))
theorem iV {n n':Nat}(hn:n≤n'){x_0:aa}:Le (cN n x_0) (cN n' x_0):=by
 simp only [cN]
 repeat' (with_reducible (first | exact al _ | apply kQ | refine bA ?_ | refine aU ?_ ?_ | refine aH ?_ (λ _=>?_) | refine bz ?_ (λ _=>?_) | omega | intro _))
theorem oo {s_0:Bytes}:∀ (m m':Nat),m≤m'→∀ (y0:Int),Le (cE s_0 m y0) (cE s_0 m' y0):=by
 intro m
 induction m with
 | zero=>intro m' _ y0; exact br _
 | succ m ih =>
 intro m' hm y0
 cases m' with
 | zero=>omega
 | succ m' =>
 simp only [cE]
 repeat' (with_reducible (first | exact al _ | apply ih | refine bA ?_ | refine aU ?_ ?_ | refine aH ?_ (λ _=>?_) | refine bz ?_ (λ _=>?_) | omega | intro _))
theorem mf {n n':Nat}(hn:n≤n'){s_0:Bytes}:Le (eP n s_0) (eP n' s_0):=by
 simp only [eP]
 repeat' (with_reducible (first | exact al _ | apply oo | refine bA ?_ | refine aU ?_ ?_ | refine aH ?_ (λ _=>?_) | refine bz ?_ (λ _=>?_) | omega | intro _))
theorem ix {n n':Nat}(hn:n≤n'){x_0:aa}:Le (cz n x_0) (cz n' x_0):=by
 simp only [cz]
 repeat' (with_reducible (first | exact al _ | apply mf | refine bA ?_ | refine aU ?_ ?_ | refine aH ?_ (λ _=>?_) | refine bz ?_ (λ _=>?_) | omega | intro _))
theorem lz {a_1:Int}{b_2:Int}:∀ (m m':Nat),m≤m'→∀ (y0:aa),Le (bH a_1 b_2 m y0) (bH a_1 b_2 m' y0):=by
 intro m
 induction m with
 | zero=>intro m' _ y0; exact br _
 | succ m ih =>
 intro m' hm y0
 cases m' with
 | zero=>omega
 | succ m' =>
 simp only [bH]
 repeat' (with_reducible (first | exact al _ | apply ih | refine bA ?_ | refine aU ?_ ?_ | refine aH ?_ (λ _=>?_) | refine bz ?_ (λ _=>?_) | omega | intro _))
theorem mH {n n':Nat}(hn:n≤n'){x_0:aa}{a_1:Int}{b_2:Int}:Le (cY n x_0 a_1 b_2) (cY n' x_0 a_1 b_2):=by
 simp only [cY]
 repeat' (with_reducible (first | exact al _ | apply lz | refine bA ?_ | refine aU ?_ ?_ | refine aH ?_ (λ _=>?_) | refine bz ?_ (λ _=>?_) | omega | intro _))
theorem jK {r_token_scanner_interpolation r_token_scanner_interpolation':aa→Int→Option (Bool×aa)}(h_token_scanner_interpolation:∀ x0 x1,Le (r_token_scanner_interpolation x0 x1) (r_token_scanner_interpolation' x0 x1)){depth_1:Int}:∀ (m m':Nat),m≤m'→∀ (y0:aa),Le (aI r_token_scanner_interpolation depth_1 m y0) (aI r_token_scanner_interpolation' depth_1 m' y0):=by
 intro m
 induction m with
 | zero=>intro m' _ y0; exact br _
 | succ m ih =>
 intro m' hm y0
 cases m' with
 | zero=>omega
 | succ m' =>
 simp only [aI]
 repeat' (with_reducible (first | exact al _ | apply ih | apply h_token_scanner_interpolation | refine bA ?_ | refine aU ?_ ?_ | refine aH ?_ (λ _=>?_) | refine bz ?_ (λ _=>?_) | omega | intro _))
theorem iF {n n':Nat}(hn:n≤n'){r_token_scanner_token r_token_scanner_token':aa→Int→Option (ae×Bool×aa)}(h_token_scanner_token:∀ x0 x1,Le (r_token_scanner_token x0 x1) (r_token_scanner_token' x0 x1)){depth_1:Int}:∀ (m m':Nat),m≤m'→∀ (y0:Int) (y1:aa),Le (aD n r_token_scanner_token depth_1 m y0 y1) (aD n' r_token_scanner_token' depth_1 m' y0 y1):=by
 intro m
 induction m with
 | zero=>intro m' _ y0 y1; exact br _
 | succ m ih =>
 intro m' hm y0 y1
 cases m' with
 | zero=>omega
 | succ m' =>
 simp only [aD]
 repeat' (with_reducible (first | exact al _ | apply ih | apply h_token_scanner_token | apply iV | apply ix | refine bA ?_ | refine aU ?_ ?_ | refine aH ?_ (λ _=>?_) | refine bz ?_ (λ _=>?_) | omega | intro _))
theorem lf (n:Nat):∀ n':Nat,n≤n'→(∀ (x_0:aa) (depth_1:Int),Le (aQ n x_0 depth_1) (aQ n' x_0 depth_1))∧(∀ (x_0:aa) (depth_1:Int),Le (bY n x_0 depth_1) (bY n' x_0 depth_1))∧(∀ (x_0:aa) (depth_1:Int),Le (bR n x_0 depth_1) (bR n' x_0 depth_1))∧(∀ (x_0:aa) (depth_1:Int),Le (aC n x_0 depth_1) (aC n' x_0 depth_1)):=by
 induction n with
 | zero=>exact λ n' _=>⟨(by intro x_0 depth_1; exact br _),(by intro x_0 depth_1; exact br _),(by intro x_0 depth_1; exact br _),(by intro x_0 depth_1; exact br _)⟩
 | succ n ih =>
 intro n' hn
 cases n' with
 | zero=>omega
 | succ n' =>
 have hn':n≤n':=by omega
 obtain ⟨ih_token_scanner_token_le,ih_token_scanner_source_b_le,ih_token_scanner_source_le,ih_token_scanner_interpolation_le⟩:=ih n' hn'
 refine ⟨?_,?_,?_,?_⟩
 ·intro x_0 depth_1
  simp only [aQ]
  repeat' (with_reducible (first | exact al _ | apply ih_token_scanner_token_le | apply ih_token_scanner_source_b_le | apply ih_token_scanner_source_le | apply ih_token_scanner_interpolation_le | apply mH | apply mf | refine bA ?_ | refine aU ?_ ?_ | refine aH ?_ (λ _=>?_) | refine bz ?_ (λ _=>?_) | omega | intro _))
 ·intro x_0 depth_1
  simp only [bY]
  repeat' (with_reducible (first | exact al _ | apply ih_token_scanner_token_le | apply ih_token_scanner_source_b_le | apply ih_token_scanner_source_le | apply ih_token_scanner_interpolation_le | apply jK | refine bA ?_ | refine aU ?_ ?_ | refine aH ?_ (λ _=>?_) | refine bz ?_ (λ _=>?_) | omega | intro _))
 ·intro x_0 depth_1
  simp only [bR]
  repeat' (with_reducible (first | exact al _ | apply ih_token_scanner_token_le | apply ih_token_scanner_source_b_le | apply ih_token_scanner_source_le | apply ih_token_scanner_interpolation_le | refine bA ?_ | refine aU ?_ ?_ | refine aH ?_ (λ _=>?_) | refine bz ?_ (λ _=>?_) | omega | intro _))
 ·intro x_0 depth_1
  simp only [aC]
  repeat' (with_reducible (first | exact al _ | apply ih_token_scanner_token_le | apply ih_token_scanner_source_b_le | apply ih_token_scanner_source_le | apply ih_token_scanner_interpolation_le | apply iF | refine bA ?_ | refine aU ?_ ?_ | refine aH ?_ (λ _=>?_) | refine bz ?_ (λ _=>?_) | omega | intro _))
theorem lP {n n':Nat}(hn:n≤n'):∀ (x_0:aa) (depth_1:Int),Le (aQ n x_0 depth_1) (aQ n' x_0 depth_1):=(lf n n' hn).1
theorem pY {n n':Nat}(hn:n≤n'):∀ (m m':Nat),m≤m'→∀ (y0:List ae) (y1:aa),Le (dG n m y0 y1) (dG n' m' y0 y1):=by
 intro m
 induction m with
 | zero=>intro m' _ y0 y1; exact br _
 | succ m ih =>
 intro m' hm y0 y1
 cases m' with
 | zero=>omega
 | succ m' =>
 simp only [dG]
 repeat' (with_reducible (first | exact al _ | apply ih | apply iV | apply ix | apply lP | refine bA ?_ | refine aU ?_ ?_ | refine aH ?_ (λ _=>?_) | refine bz ?_ (λ _=>?_) | omega | intro _))
theorem ta {n n':Nat}(hn:n≤n'){s_0:Bytes}:Le (gN n s_0) (gN n' s_0):=by
 simp only [gN]
 repeat' (with_reducible (first | exact al _ | apply pY | refine bA ?_ | refine aU ?_ ?_ | refine aH ?_ (λ _=>?_) | refine bz ?_ (λ _=>?_) | omega | intro _))
theorem lF {p_0:ad}:∀ (m m':Nat),m≤m'→∀ (y0:Int),Le (bU p_0 m y0) (bU p_0 m' y0):=by
 intro m
 induction m with
 | zero=>intro m' _ y0; exact br _
 | succ m ih =>
 intro m' hm y0
 cases m' with
 | zero=>omega
 | succ m' =>
 simp only [bU]
 repeat' (with_reducible (first | exact al _ | apply ih | refine bA ?_ | refine aU ?_ ?_ | refine aH ?_ (λ _=>?_) | refine bz ?_ (λ _=>?_) | omega | intro _))
theorem bG {n n':Nat}(hn:n≤n'){p_0:ad}:Le (ba n p_0) (ba n' p_0):=by
 simp only [ba]
 repeat' (with_reducible (first | exact al _ | apply lF | refine bA ?_ | refine aU ?_ ?_ | refine aH ?_ (λ _=>?_) | refine bz ?_ (λ _=>?_) | omega | intro _))
theorem bh {n n':Nat}(hn:n≤n'){p_0:ad}:Le (aJ n p_0) (aJ n' p_0):=by
 simp only [aJ]
 repeat' (with_reducible (first | exact al _ | apply bG | refine bA ?_ | refine aU ?_ ?_ | refine aH ?_ (λ _=>?_) | refine bz ?_ (λ _=>?_) | omega | intro _))
theorem cr {n n':Nat}(hn:n≤n'){p_0:ad}{s_1:Bytes}:Le (aS n p_0 s_1) (aS n' p_0 s_1):=by
 simp only [aS]
 repeat' (with_reducible (first | exact al _ | apply bG | refine bA ?_ | refine aU ?_ ?_ | refine aH ?_ (λ _=>?_) | refine bz ?_ (λ _=>?_) | omega | intro _))
theorem lE {s7:Bytes}:∀ (m m':Nat),m≤m'→∀ (y0:Int),Le (bP s7 m y0) (bP s7 m' y0):=by
 intro m
 induction m with
 | zero=>intro m' _ y0; exact br _
 | succ m ih =>
 intro m' hm y0
 cases m' with
 | zero=>omega
 | succ m' =>
 simp only [bP]
 repeat' (with_reducible (first | exact al _ | apply ih | refine bA ?_ | refine aU ?_ ?_ | refine aH ?_ (λ _=>?_) | refine bz ?_ (λ _=>?_) | omega | intro _))
theorem nU {n n':Nat}(hn:n≤n'){s_0:Bytes}:Le (dV n s_0) (dV n' s_0):=by
 simp only [dV]
 repeat' (with_reducible (first | exact al _ | apply lE | refine bA ?_ | refine aU ?_ ?_ | refine aH ?_ (λ _=>?_) | refine bz ?_ (λ _=>?_) | omega | intro _))
theorem qX {n n':Nat}(hn:n≤n'){s_0:Bytes}:Le (fz n s_0) (fz n' s_0):=by
 simp only [fz]
 repeat' (with_reducible (first | exact al _ | apply nU | refine bA ?_ | refine aU ?_ ?_ | refine aH ?_ (λ _=>?_) | refine bz ?_ (λ _=>?_) | omega | intro _))
theorem pI {v_0:ah}:∀ (m m':Nat),m≤m'→∀ (y0:Int),Le (fe v_0 m y0) (fe v_0 m' y0):=by
 intro m
 induction m with
 | zero=>intro m' _ y0; exact br _
 | succ m ih =>
 intro m' hm y0
 cases m' with
 | zero=>omega
 | succ m' =>
 simp only [fe]
 repeat' (with_reducible (first | exact al _ | apply ih | refine bA ?_ | refine aU ?_ ?_ | refine aH ?_ (λ _=>?_) | refine bz ?_ (λ _=>?_) | omega | intro _))
theorem sI {n n':Nat}(hn:n≤n'){v_0:ah}:Le (gK n v_0) (gK n' v_0):=by
 simp only [gK]
 repeat' (with_reducible (first | exact al _ | apply pI | refine bA ?_ | refine aU ?_ ?_ | refine aH ?_ (λ _=>?_) | refine bz ?_ (λ _=>?_) | omega | intro _))
theorem nP {r_value_Check_1 r_value_Check_1':ah→Int→Int→Option (Int×Int)}(h_value_Check_1:∀ x0 x1 x2,Le (r_value_Check_1 x0 x1 x2) (r_value_Check_1' x0 x1 x2)){v_0:ah}{level_1:Int}:∀ (m m':Nat),m≤m'→∀ (y0:Int) (y1:Int),Le (cV r_value_Check_1 v_0 level_1 m y0 y1) (cV r_value_Check_1' v_0 level_1 m' y0 y1):=by
 intro m
 induction m with
 | zero=>intro m' _ y0 y1; exact br _
 | succ m ih =>
 intro m' hm y0 y1
 cases m' with
 | zero=>omega
 | succ m' =>
 simp only [cV]
 repeat' (with_reducible (first | exact al _ | apply ih | apply h_value_Check_1 | refine bA ?_ | refine aU ?_ ?_ | refine aH ?_ (λ _=>?_) | refine bz ?_ (λ _=>?_) | omega | intro _))
theorem pC (n:Nat):∀ n':Nat,n≤n'→(∀ (v_0:ah) (level_1:Int) (cap_0:Int),Le (cS n v_0 level_1 cap_0) (cS n' v_0 level_1 cap_0)):=by
 induction n with
 | zero=>exact λ n' _=>(by intro v_0 level_1 cap_0; exact br _)
 | succ n ih =>
 intro n' hn
 cases n' with
 | zero=>omega
 | succ n' =>
 have hn':n≤n':=by omega
 have ih_value_Check_1_le:=ih n' hn'
 intro v_0 level_1 cap_0
 simp only [cS]
 repeat' (with_reducible (first | exact al _ | apply ih_value_Check_1_le | apply sI | apply nP | refine bA ?_ | refine aU ?_ ?_ | refine aH ?_ (λ _=>?_) | refine bz ?_ (λ _=>?_) | omega | intro _))
theorem qu {n n':Nat}(hn:n≤n'):∀ (v_0:ah) (level_1:Int) (cap_0:Int),Le (cS n v_0 level_1 cap_0) (cS n' v_0 level_1 cap_0):=(pC n n' hn)
theorem rH {n n':Nat}(hn:n≤n'){v_0:ah}:Le (gh n v_0) (gh n' v_0):=by
 simp only [gh]
 repeat' (with_reducible (first | exact al _ | apply qu | refine bA ?_ | refine aU ?_ ?_ | refine aH ?_ (λ _=>?_) | refine bz ?_ (λ _=>?_) | omega | intro _))
theorem mr {s_0:Bytes}:∀ (m m':Nat),m≤m'→∀ (y0:Int),Le (cg s_0 m y0) (cg s_0 m' y0):=by
 intro m
 induction m with
 | zero=>intro m' _ y0; exact br _
 | succ m ih =>
 intro m' hm y0
 cases m' with
 | zero=>omega
 | succ m' =>
 simp only [cg]
 repeat' (with_reducible (first | exact al _ | apply ih | refine bA ?_ | refine aU ?_ ?_ | refine aH ?_ (λ _=>?_) | refine bz ?_ (λ _=>?_) | omega | intro _))
theorem oq {n n':Nat}(hn:n≤n'){s_0:Bytes}:Le (dK n s_0) (dK n' s_0):=by
 simp only [dK]
 repeat' (with_reducible (first | exact al _ | apply mr | refine bA ?_ | refine aU ?_ ?_ | refine aH ?_ (λ _=>?_) | refine bz ?_ (λ _=>?_) | omega | intro _))
theorem um {n n':Nat}(hn:n≤n'){e_0:ac}:Le (iv n e_0) (iv n' e_0):=by
 simp only [iv]
 repeat' (with_reducible (first | exact al _ | apply rH | apply oq | refine bA ?_ | refine aU ?_ ?_ | refine aH ?_ (λ _=>?_) | refine bz ?_ (λ _=>?_) | omega | intro _))
theorem kT {r_expr_checker_visit r_expr_checker_visit':bJ→ac→Int→Option (Int×bJ)}(h_expr_checker_visit:∀ x0 x1 x2,Le (r_expr_checker_visit x0 x1 x2) (r_expr_checker_visit' x0 x1 x2)){e_1:ac}{level_2:Int}:∀ (m m':Nat),m≤m'→∀ (y0:Int) (y1:Int),Le (bo r_expr_checker_visit e_1 level_2 m y0 y1) (bo r_expr_checker_visit' e_1 level_2 m' y0 y1):=by
 intro m
 induction m with
 | zero=>intro m' _ y0 y1; exact br _
 | succ m ih =>
 intro m' hm y0 y1
 cases m' with
 | zero=>omega
 | succ m' =>
 simp only [bo]
 repeat' (with_reducible (first | exact al _ | apply ih | apply h_expr_checker_visit | refine bA ?_ | refine aU ?_ ?_ | refine aH ?_ (λ _=>?_) | refine bz ?_ (λ _=>?_) | omega | intro _))
theorem lH (n:Nat):∀ n':Nat,n≤n'→(∀ (c_0:bJ) (e_1:ac) (level_2:Int),Le (bg n c_0 e_1 level_2) (bg n' c_0 e_1 level_2)):=by
 induction n with
 | zero=>exact λ n' _=>(by intro c_0 e_1 level_2; exact br _)
 | succ n ih =>
 intro n' hn
 cases n' with
 | zero=>omega
 | succ n' =>
 have hn':n≤n':=by omega
 have ih_expr_checker_visit_le:=ih n' hn'
 intro c_0 e_1 level_2
 simp only [bg]
 repeat' (with_reducible (first | exact al _ | apply ih_expr_checker_visit_le | apply um | apply kT | refine bA ?_ | refine aU ?_ ?_ | refine aH ?_ (λ _=>?_) | refine bz ?_ (λ _=>?_) | omega | intro _))
theorem mt {n n':Nat}(hn:n≤n'):∀ (c_0:bJ) (e_1:ac) (level_2:Int),Le (bg n c_0 e_1 level_2) (bg n' c_0 e_1 level_2):=(lH n n' hn)
theorem tc {n n':Nat}(hn:n≤n'){e_0:ac}:Le (gk n e_0) (gk n' e_0):=by
 simp only [gk]
 repeat' (with_reducible (first | exact al _ | apply mt | refine bA ?_ | refine aU ?_ ?_ | refine aH ?_ (λ _=>?_) | refine bz ?_ (λ _=>?_) | omega | intro _))
theorem mT {n n':Nat}(hn:n≤n'){e_0:ac}{d_1:ap}:Le (eR n e_0 d_1) (eR n' e_0 d_1):=by
 simp only [eR]
 repeat' (with_reducible (first | exact al _ | apply tc | refine bA ?_ | refine aU ?_ ?_ | refine aH ?_ (λ _=>?_) | refine bz ?_ (λ _=>?_) | omega | intro _))
theorem ol {r_expr_quoted r_expr_quoted':Bytes→Int→Option Int}(h_expr_quoted:∀ x0 x1,Le (r_expr_quoted x0 x1) (r_expr_quoted' x0 x1)){s_0:Bytes}:∀ (m m':Nat),m≤m'→∀ (y0:Int) (y1:Int),Le (cF r_expr_quoted s_0 m y0 y1) (cF r_expr_quoted' s_0 m' y0 y1):=by
 intro m
 induction m with
 | zero=>intro m' _ y0 y1; exact br _
 | succ m ih =>
 intro m' hm y0 y1
 cases m' with
 | zero=>omega
 | succ m' =>
 simp only [cF]
 repeat' (with_reducible (first | exact al _ | apply ih | apply h_expr_quoted | refine bA ?_ | refine aU ?_ ?_ | refine aH ?_ (λ _=>?_) | refine bz ?_ (λ _=>?_) | omega | intro _))
theorem pp {r_expr_closing r_expr_closing':Bytes→Int→Option Int}(h_expr_closing:∀ x0 x1,Le (r_expr_closing x0 x1) (r_expr_closing' x0 x1)){s_0:Bytes}:∀ (m m':Nat),m≤m'→∀ (y0:Int),Le (cQ r_expr_closing s_0 m y0) (cQ r_expr_closing' s_0 m' y0):=by
 intro m
 induction m with
 | zero=>intro m' _ y0; exact br _
 | succ m ih =>
 intro m' hm y0
 cases m' with
 | zero=>omega
 | succ m' =>
 simp only [cQ]
 repeat' (with_reducible (first | exact al _ | apply ih | apply h_expr_closing | refine bA ?_ | refine aU ?_ ?_ | refine aH ?_ (λ _=>?_) | refine bz ?_ (λ _=>?_) | omega | intro _))
theorem qp (n:Nat):∀ n':Nat,n≤n'→(∀ (s_0:Bytes) (i_1:Int),Le (cy n s_0 i_1) (cy n' s_0 i_1))∧(∀ (s_0:Bytes) (i_1:Int),Le (dW n s_0 i_1) (dW n' s_0 i_1)):=by
 induction n with
 | zero=>exact λ n' _=>⟨(by intro s_0 i_1; exact br _),(by intro s_0 i_1; exact br _)⟩
 | succ n ih =>
 intro n' hn
 cases n' with
 | zero=>omega
 | succ n' =>
 have hn':n≤n':=by omega
 obtain ⟨ih_expr_closing_le,ih_expr_quoted_le⟩:=ih n' hn'
 refine ⟨?_,?_⟩
 ·intro s_0 i_1
  simp only [cy]
  repeat' (with_reducible (first | exact al _ | apply ih_expr_closing_le | apply ih_expr_quoted_le | apply ol | refine bA ?_ | refine aU ?_ ?_ | refine aH ?_ (λ _=>?_) | refine bz ?_ (λ _=>?_) | omega | intro _))
 ·intro s_0 i_1
  simp only [dW]
  repeat' (with_reducible (first | exact al _ | apply ih_expr_closing_le | apply ih_expr_quoted_le | apply pp | refine bA ?_ | refine aU ?_ ?_ | refine aH ?_ (λ _=>?_) | refine bz ?_ (λ _=>?_) | omega | intro _))
theorem qW {n n':Nat}(hn:n≤n'):∀ (s_0:Bytes) (i_1:Int),Le (cy n s_0 i_1) (cy n' s_0 i_1):=(qp n n' hn).1
theorem lJ {s_0:Bytes}:∀ (m m':Nat),m≤m'→∀ (y0:Int),Le (bF s_0 m y0) (bF s_0 m' y0):=by
 intro m
 induction m with
 | zero=>intro m' _ y0; exact br _
 | succ m ih =>
 intro m' hm y0
 cases m' with
 | zero=>omega
 | succ m' =>
 simp only [bF]
 repeat' (with_reducible (first | exact al _ | apply ih | refine bA ?_ | refine aU ?_ ?_ | refine aH ?_ (λ _=>?_) | refine bz ?_ (λ _=>?_) | omega | intro _))
theorem nR {n n':Nat}(hn:n≤n'){s_0:Bytes}:Le (dU n s_0) (dU n' s_0):=by
 simp only [dU]
 repeat' (with_reducible (first | exact al _ | apply lJ | refine bA ?_ | refine aU ?_ ?_ | refine aH ?_ (λ _=>?_) | refine bz ?_ (λ _=>?_) | omega | intro _))
theorem kM {s_0:Bytes}:∀ (m m':Nat),m≤m'→∀ (y0:Int) (y1:Int),Le (bM s_0 m y0 y1) (bM s_0 m' y0 y1):=by
 intro m
 induction m with
 | zero=>intro m' _ y0 y1; exact br _
 | succ m ih =>
 intro m' hm y0 y1
 cases m' with
 | zero=>omega
 | succ m' =>
 simp only [bM]
 repeat' (with_reducible (first | exact al _ | apply ih | refine bA ?_ | refine aU ?_ ?_ | refine aH ?_ (λ _=>?_) | refine bz ?_ (λ _=>?_) | omega | intro _))
theorem mq {n n':Nat}(hn:n≤n'){s_0:Bytes}:Le (cO n s_0) (cO n' s_0):=by
 simp only [cO]
 repeat' (with_reducible (first | exact al _ | apply kM | refine bA ?_ | refine aU ?_ ?_ | refine aH ?_ (λ _=>?_) | refine bz ?_ (λ _=>?_) | omega | intro _))
theorem qf {n n':Nat}(hn:n≤n'){s_0:Bytes}:Le (eZ n s_0) (eZ n' s_0):=by
 simp only [eZ]
 repeat' (with_reducible (first | exact al _ | apply mq | refine bA ?_ | refine aU ?_ ?_ | refine aH ?_ (λ _=>?_) | refine bz ?_ (λ _=>?_) | omega | intro _))
theorem my {n n':Nat}(hn:n≤n'){s_0:Bytes}:∀ (m m':Nat),m≤m'→∀ (y0:Int) (y1:List UInt8),Le (cH n s_0 m y0 y1) (cH n' s_0 m' y0 y1):=by
 intro m
 induction m with
 | zero=>intro m' _ y0 y1; exact br _
 | succ m ih =>
 intro m' hm y0 y1
 cases m' with
 | zero=>omega
 | succ m' =>
 simp only [cH]
 repeat' (with_reducible (first | exact al _ | apply ih | apply qf | refine bA ?_ | refine aU ?_ ?_ | refine aH ?_ (λ _=>?_) | refine bz ?_ (λ _=>?_) | omega | intro _))
theorem oQ {n n':Nat}(hn:n≤n'){s_0:Bytes}:Le (d7 n s_0) (d7 n' s_0):=by
 simp only [d7]
 repeat' (with_reducible (first | exact al _ | apply my | refine bA ?_ | refine aU ?_ ?_ | refine aH ?_ (λ _=>?_) | refine bz ?_ (λ _=>?_) | omega | intro _))
theorem rQ {n n':Nat}(hn:n≤n'){s_0:Bytes}:Le (gg n s_0) (gg n' s_0):=by
 simp only [gg]
 repeat' (with_reducible (first | exact al _ | apply nR | apply oQ | refine bA ?_ | refine aU ?_ ?_ | refine aH ?_ (λ _=>?_) | refine bz ?_ (λ _=>?_) | omega | intro _))
theorem ml {n n':Nat}(hn:n≤n'){t_0:ak}:Le (dl n t_0) (dl n' t_0):=by
 simp only [dl]
 repeat' (with_reducible (first | exact al _ | apply rQ | refine bA ?_ | refine aU ?_ ?_ | refine aH ?_ (λ _=>?_) | refine bz ?_ (λ _=>?_) | omega | intro _))
theorem fP {n n':Nat}(hn:n≤n'){p_0:ad}:Le (b7 n p_0) (b7 n' p_0):=by
 simp only [b7]
 repeat' (with_reducible (first | exact al _ | apply bh | refine bA ?_ | refine aU ?_ ?_ | refine aH ?_ (λ _=>?_) | refine bz ?_ (λ _=>?_) | omega | intro _))
theorem fM {n n':Nat}(hn:n≤n'){p_0:ad}{s_1:Bytes}:Le (bT n p_0 s_1) (bT n' p_0 s_1):=by
 simp only [bT]
 repeat' (with_reducible (first | exact al _ | apply cr | apply bG | apply bh | refine bA ?_ | refine aU ?_ ?_ | refine aH ?_ (λ _=>?_) | refine bz ?_ (λ _=>?_) | omega | intro _))
theorem et {n n':Nat}(hn:n≤n'){p_0:ad}{s_1:Bytes}:Le (bc n p_0 s_1) (bc n' p_0 s_1):=by
 simp only [bc]
 repeat' (with_reducible (first | exact al _ | apply fM | refine bA ?_ | refine aU ?_ ?_ | refine aH ?_ (λ _=>?_) | refine bz ?_ (λ _=>?_) | omega | intro _))
theorem hC {n n':Nat}(hn:n≤n'){p_0:ad}{s_1:Bytes}:Le (b9 n p_0 s_1) (b9 n' p_0 s_1):=by
 simp only [b9]
 repeat' (with_reducible (first | exact al _ | apply bG | refine bA ?_ | refine aU ?_ ?_ | refine aH ?_ (λ _=>?_) | refine bz ?_ (λ _=>?_) | omega | intro _))
theorem lj {n n':Nat}(hn:n≤n'){p_0:ad}:Le (cx n p_0) (cx n' p_0):=by
 simp only [cx]
 repeat' (with_reducible (first | exact al _ | apply bG | apply bh | refine bA ?_ | refine aU ?_ ?_ | refine aH ?_ (λ _=>?_) | refine bz ?_ (λ _=>?_) | omega | intro _))
theorem lT {n n':Nat}(hn:n≤n'){p_0:ad}{s_1:Bytes}:Le (cp n p_0 s_1) (cp n' p_0 s_1):=by
 simp only [cp]
 repeat' (with_reducible (first | exact al _ | apply hC | apply bG | apply bh | refine bA ?_ | refine aU ?_ ?_ | refine aH ?_ (λ _=>?_) | refine bz ?_ (λ _=>?_) | omega | intro _))
theorem lg {n n':Nat}(hn:n≤n'){l_1:List Bytes}:∀ (m m':Nat),m≤m'→∀ (y0:Int) (y1:List ae) (y2:Int) (y3:Int) (y4:Int) (y5:Int) (y6:Int) (y7:Bytes),Le (a8 n l_1 m y0 y1 y2 y3 y4 y5 y6 y7) (a8 n' l_1 m' y0 y1 y2 y3 y4 y5 y6 y7):=by
 intro m
 induction m with
 | zero=>intro m' _ y0 y1 y2 y3 y4 y5 y6 y7; exact br _
 | succ m ih =>
 intro m' hm y0 y1 y2 y3 y4 y5 y6 y7
 cases m' with
 | zero=>omega
 | succ m' =>
 simp only [a8]
 repeat' (with_reducible (first | exact al _ | apply ih | apply cr | refine bA ?_ | refine aU ?_ ?_ | refine aH ?_ (λ _=>?_) | refine bz ?_ (λ _=>?_) | omega | intro _))
theorem mF {n n':Nat}(hn:n≤n'){p_0:ad}{l_1:List Bytes}:Le (cJ n p_0 l_1) (cJ n' p_0 l_1):=by
 simp only [cJ]
 repeat' (with_reducible (first | exact al _ | apply lg | refine bA ?_ | refine aU ?_ ?_ | refine aH ?_ (λ _=>?_) | refine bz ?_ (λ _=>?_) | omega | intro _))
theorem ti {s_0:Bytes}:∀ (m m':Nat),m≤m'→∀ (y0:Int),Le (eF s_0 m y0) (eF s_0 m' y0):=by
 intro m
 induction m with
 | zero=>intro m' _ y0; exact br _
 | succ m ih =>
 intro m' hm y0
 cases m' with
 | zero=>omega
 | succ m' =>
 simp only [eF]
 repeat' (with_reducible (first | exact al _ | apply ih | refine bA ?_ | refine aU ?_ ?_ | refine aH ?_ (λ _=>?_) | refine bz ?_ (λ _=>?_) | omega | intro _))
theorem wS {n n':Nat}(hn:n≤n'){s_0:Bytes}:Le (kz n s_0) (kz n' s_0):=by
 simp only [kz]
 repeat' (with_reducible (first | exact al _ | apply ti | refine bA ?_ | refine aU ?_ ?_ | refine aH ?_ (λ _=>?_) | refine bz ?_ (λ _=>?_) | omega | intro _))
theorem kY {n n':Nat}(hn:n≤n'){r_expr_template_interpolation r_expr_template_interpolation':ak→Option (ap×ak)}(h_expr_template_interpolation:∀ x0,Le (r_expr_template_interpolation x0) (r_expr_template_interpolation' x0)):∀ (m m':Nat),m≤m'→∀ (y0:Bytes) (y1:Int) (y2:Int) (y3:Int) (y4:Bytes) (y5:List ac) (y6:Bool),Le (bm n r_expr_template_interpolation m y0 y1 y2 y3 y4 y5 y6) (bm n' r_expr_template_interpolation' m' y0 y1 y2 y3 y4 y5 y6):=by
 intro m
 induction m with
 | zero=>intro m' _ y0 y1 y2 y3 y4 y5 y6; exact br _
 | succ m ih =>
 intro m' hm y0 y1 y2 y3 y4 y5 y6
 cases m' with
 | zero=>omega
 | succ m' =>
 simp only [bm]
 repeat' (with_reducible (first | exact al _ | apply ih | apply h_expr_template_interpolation | apply ml | refine bA ?_ | refine aU ?_ ?_ | refine aH ?_ (λ _=>?_) | refine bz ?_ (λ _=>?_) | omega | intro _))
theorem kU {n n':Nat}(hn:n≤n'){r_expr_parser_binary r_expr_parser_binary':ad→Int→Option (ac×ad)}(h_expr_parser_binary:∀ x0 x1,Le (r_expr_parser_binary x0 x1) (r_expr_parser_binary' x0 x1)){level_1:Int}{r5:ac×ad}:∀ (m m':Nat),m≤m'→∀ (y0:Int) (y1:Int) (y2:Bytes) (y3:Bytes) (y4:Int) (y5:Int) (y6:Bytes) (y7:List ah) (y8:List Bytes) (y9:List ac) (y10:List ae) (y11:Int) (y12:Int) (y13:Int) (y14:Int) (y15:Int) (y16:Bytes),Le (bn n r_expr_parser_binary level_1 r5 m y0 y1 y2 y3 y4 y5 y6 y7 y8 y9 y10 y11 y12 y13 y14 y15 y16) (bn n' r_expr_parser_binary' level_1 r5 m' y0 y1 y2 y3 y4 y5 y6 y7 y8 y9 y10 y11 y12 y13 y14 y15 y16):=by
 intro m
 induction m with
 | zero=>intro m' _ y0 y1 y2 y3 y4 y5 y6 y7 y8 y9 y10 y11 y12 y13 y14 y15 y16; exact br _
 | succ m ih =>
 intro m' hm y0 y1 y2 y3 y4 y5 y6 y7 y8 y9 y10 y11 y12 y13 y14 y15 y16
 cases m' with
 | zero=>omega
 | succ m' =>
 simp only [bn]
 repeat' (with_reducible (first | exact al _ | apply ih | apply h_expr_parser_binary | apply mF | apply bh | apply wS | refine bA ?_ | refine aU ?_ ?_ | refine aH ?_ (λ _=>?_) | refine bz ?_ (λ _=>?_) | omega | intro _))
theorem kx {n n':Nat}(hn:n≤n'){r_expr_parser_expr r_expr_parser_expr':ad→Option (ac×ad)}(h_expr_parser_expr:∀ x0,Le (r_expr_parser_expr x0) (r_expr_parser_expr' x0)){r1:ac×ad}:∀ (m m':Nat),m≤m'→∀ (y0:Int) (y1:Int) (y2:Bytes) (y3:Bytes) (y4:Int) (y5:Int) (y6:Bytes) (y7:List ah) (y8:List Bytes) (y9:List ac) (y10:List ae) (y11:Int) (y12:Int) (y13:Int) (y14:Int) (y15:Int) (y16:Bytes),Le (bf n r_expr_parser_expr r1 m y0 y1 y2 y3 y4 y5 y6 y7 y8 y9 y10 y11 y12 y13 y14 y15 y16) (bf n' r_expr_parser_expr' r1 m' y0 y1 y2 y3 y4 y5 y6 y7 y8 y9 y10 y11 y12 y13 y14 y15 y16):=by
 intro m
 induction m with
 | zero=>intro m' _ y0 y1 y2 y3 y4 y5 y6 y7 y8 y9 y10 y11 y12 y13 y14 y15 y16; exact br _
 | succ m ih =>
 intro m' hm y0 y1 y2 y3 y4 y5 y6 y7 y8 y9 y10 y11 y12 y13 y14 y15 y16
 cases m' with
 | zero=>omega
 | succ m' =>
 simp only [bf]
 repeat' (with_reducible (first | exact al _ | apply ih | apply h_expr_parser_expr | apply cr | apply bh | apply bG | apply fP | apply et | refine bA ?_ | refine aU ?_ ?_ | refine aH ?_ (λ _=>?_) | refine bz ?_ (λ _=>?_) | omega | intro _))
theorem lV {n n':Nat}(hn:n≤n'){r_expr_parser_expr r_expr_parser_expr':ad→Option (ac×ad)}(h_expr_parser_expr:∀ x0,Le (r_expr_parser_expr x0) (r_expr_parser_expr' x0)){end_1:Bytes}:∀ (m m':Nat),m≤m'→∀ (y0:List ac) (y1:List ae) (y2:Int) (y3:Int) (y4:Int) (y5:Int) (y6:Int) (y7:Bytes),Le (bV n r_expr_parser_expr end_1 m y0 y1 y2 y3 y4 y5 y6 y7) (bV n' r_expr_parser_expr' end_1 m' y0 y1 y2 y3 y4 y5 y6 y7):=by
 intro m
 induction m with
 | zero=>intro m' _ y0 y1 y2 y3 y4 y5 y6 y7; exact br _
 | succ m ih =>
 intro m' hm y0 y1 y2 y3 y4 y5 y6 y7
 cases m' with
 | zero=>omega
 | succ m' =>
 simp only [bV]
 repeat' (with_reducible (first | exact al _ | apply ih | apply h_expr_parser_expr | apply cr | apply bh | refine bA ?_ | refine aU ?_ ?_ | refine aH ?_ (λ _=>?_) | refine bz ?_ (λ _=>?_) | omega | intro _))
theorem kw {n n':Nat}(hn:n≤n'){r_expr_parser_expr r_expr_parser_expr':ad→Option (ac×ad)}(h_expr_parser_expr:∀ x0,Le (r_expr_parser_expr x0) (r_expr_parser_expr' x0)){r_expr_parser_key r_expr_parser_key':ad→Option (ac×ad)}(h_expr_parser_key:∀ x0,Le (r_expr_parser_key x0) (r_expr_parser_key' x0)):∀ (m m':Nat),m≤m'→∀ (y0:List ac) (y1:List ae) (y2:Int) (y3:Int) (y4:Int) (y5:Int) (y6:Int) (y7:Bytes),Le (bC n r_expr_parser_expr r_expr_parser_key m y0 y1 y2 y3 y4 y5 y6 y7) (bC n' r_expr_parser_expr' r_expr_parser_key' m' y0 y1 y2 y3 y4 y5 y6 y7):=by
 intro m
 induction m with
 | zero=>intro m' _ y0 y1 y2 y3 y4 y5 y6 y7; exact br _
 | succ m ih =>
 intro m' hm y0 y1 y2 y3 y4 y5 y6 y7
 cases m' with
 | zero=>omega
 | succ m' =>
 simp only [bC]
 repeat' (with_reducible (first | exact al _ | apply ih | apply h_expr_parser_expr | apply h_expr_parser_key | apply cr | apply fM | apply bh | refine bA ?_ | refine aU ?_ ?_ | refine aH ?_ (λ _=>?_) | refine bz ?_ (λ _=>?_) | omega | intro _))
theorem pu (n:Nat):∀ n':Nat,n≤n'→(∀ (s_0:Bytes) (at_1:Int),Le (eq n s_0 at_1) (eq n' s_0 at_1))∧(∀ (s_0:Bytes) (base_1:Int),Le (d5 n s_0 base_1) (d5 n' s_0 base_1))∧(∀ (t_0:ak),Le (de n t_0) (de n' t_0))∧(∀ (p_0:ad),Le (aA n p_0) (aA n' p_0))∧(∀ (t_0:ak),Le (aB n t_0) (aB n' t_0))∧(∀ (p_0:ad) (level_1:Int),Le (aT n p_0 level_1) (aT n' p_0 level_1))∧(∀ (p_0:ad),Le (ca n p_0) (ca n' p_0))∧(∀ (p_0:ad),Le (cq n p_0) (cq n' p_0))∧(∀ (p_0:ad),Le (bX n p_0) (bX n' p_0))∧(∀ (p_0:ad),Le (cU n p_0) (cU n' p_0))∧(∀ (p_0:ad),Le (du n p_0) (du n' p_0))∧(∀ (p_0:ad),Le (dh n p_0) (dh n' p_0))∧(∀ (p_0:ad) (end_1:Bytes),Le (dx n p_0 end_1) (dx n' p_0 end_1))∧(∀ (p_0:ad) (at_1:Int) (k_2:Int),Le (cT n p_0 at_1 k_2) (cT n' p_0 at_1 k_2))∧(∀ (p_0:ad),Le (cW n p_0) (cW n' p_0))∧(∀ (p_0:ad),Le (cu n p_0) (cu n' p_0)):=by
 induction n with
 | zero=>exact λ n' _=>⟨(by intro s_0 at_1; exact br _),(by intro s_0 base_1; exact br _),(by intro t_0; exact br _),(by intro p_0; exact br _),(by intro t_0; exact br _),(by intro p_0 level_1; exact br _),(by intro p_0; exact br _),(by intro p_0; exact br _),(by intro p_0; exact br _),(by intro p_0; exact br _),(by intro p_0; exact br _),(by intro p_0; exact br _),(by intro p_0 end_1; exact br _),(by intro p_0 at_1 k_2; exact br _),(by intro p_0; exact br _),(by intro p_0; exact br _)⟩
 | succ n ih =>
 intro n' hn
 cases n' with
 | zero=>omega
 | succ n' =>
 have hn':n≤n':=by omega
 obtain ⟨ih_expr_Template_le,ih_expr_whole_le,ih_expr_template_read_le,ih_expr_parser_expr_le,ih_expr_template_interpolation_le,ih_expr_parser_binary_le,ih_expr_parser_unary_le,ih_expr_parser_postfix_le,ih_expr_parser_primary_le,ih_expr_parser_text_le,ih_expr_parser_name_le,ih_expr_parser_enclosed_le,ih_expr_parser_list_le,ih_expr_parser_loop_le,ih_expr_parser_entries_le,ih_expr_parser_key_le⟩:=ih n' hn'
 refine ⟨?_,?_,?_,?_,?_,?_,?_,?_,?_,?_,?_,?_,?_,?_,?_,?_⟩
 ·intro s_0 at_1
  simp only [eq]
  repeat' (with_reducible (first | exact al _ | apply ih_expr_Template_le | apply ih_expr_whole_le | apply ih_expr_template_read_le | apply ih_expr_parser_expr_le | apply ih_expr_template_interpolation_le | apply ih_expr_parser_binary_le | apply ih_expr_parser_unary_le | apply ih_expr_parser_postfix_le | apply ih_expr_parser_primary_le | apply ih_expr_parser_text_le | apply ih_expr_parser_name_le | apply ih_expr_parser_enclosed_le | apply ih_expr_parser_list_le | apply ih_expr_parser_loop_le | apply ih_expr_parser_entries_le | apply ih_expr_parser_key_le | apply mT | refine bA ?_ | refine aU ?_ ?_ | refine aH ?_ (λ _=>?_) | refine bz ?_ (λ _=>?_) | omega | intro _))
 ·intro s_0 base_1
  simp only [d5]
  repeat' (with_reducible (first | exact al _ | apply ih_expr_Template_le | apply ih_expr_whole_le | apply ih_expr_template_read_le | apply ih_expr_parser_expr_le | apply ih_expr_template_interpolation_le | apply ih_expr_parser_binary_le | apply ih_expr_parser_unary_le | apply ih_expr_parser_postfix_le | apply ih_expr_parser_primary_le | apply ih_expr_parser_text_le | apply ih_expr_parser_name_le | apply ih_expr_parser_enclosed_le | apply ih_expr_parser_list_le | apply ih_expr_parser_loop_le | apply ih_expr_parser_entries_le | apply ih_expr_parser_key_le | apply ta | apply bG | refine bA ?_ | refine aU ?_ ?_ | refine aH ?_ (λ _=>?_) | refine bz ?_ (λ _=>?_) | omega | intro _))
 ·intro t_0
  simp only [de]
  repeat' (with_reducible (first | exact al _ | apply ih_expr_Template_le | apply ih_expr_whole_le | apply ih_expr_template_read_le | apply ih_expr_parser_expr_le | apply ih_expr_template_interpolation_le | apply ih_expr_parser_binary_le | apply ih_expr_parser_unary_le | apply ih_expr_parser_postfix_le | apply ih_expr_parser_primary_le | apply ih_expr_parser_text_le | apply ih_expr_parser_name_le | apply ih_expr_parser_enclosed_le | apply ih_expr_parser_list_le | apply ih_expr_parser_loop_le | apply ih_expr_parser_entries_le | apply ih_expr_parser_key_le | apply kY | refine bA ?_ | refine aU ?_ ?_ | refine aH ?_ (λ _=>?_) | refine bz ?_ (λ _=>?_) | omega | intro _))
 ·intro p_0
  simp only [aA]
  repeat' (with_reducible (first | exact al _ | apply ih_expr_Template_le | apply ih_expr_whole_le | apply ih_expr_template_read_le | apply ih_expr_parser_expr_le | apply ih_expr_template_interpolation_le | apply ih_expr_parser_binary_le | apply ih_expr_parser_unary_le | apply ih_expr_parser_postfix_le | apply ih_expr_parser_primary_le | apply ih_expr_parser_text_le | apply ih_expr_parser_name_le | apply ih_expr_parser_enclosed_le | apply ih_expr_parser_list_le | apply ih_expr_parser_loop_le | apply ih_expr_parser_entries_le | apply ih_expr_parser_key_le | apply cr | apply bh | apply fM | refine bA ?_ | refine aU ?_ ?_ | refine aH ?_ (λ _=>?_) | refine bz ?_ (λ _=>?_) | omega | intro _))
 ·intro t_0
  simp only [aB]
  repeat' (with_reducible (first | exact al _ | apply ih_expr_Template_le | apply ih_expr_whole_le | apply ih_expr_template_read_le | apply ih_expr_parser_expr_le | apply ih_expr_template_interpolation_le | apply ih_expr_parser_binary_le | apply ih_expr_parser_unary_le | apply ih_expr_parser_postfix_le | apply ih_expr_parser_primary_le | apply ih_expr_parser_text_le | apply ih_expr_parser_name_le | apply ih_expr_parser_enclosed_le | apply ih_expr_parser_list_le | apply ih_expr_parser_loop_le | apply ih_expr_parser_entries_le | apply ih_expr_parser_key_le | apply qW | refine bA ?_ | refine aU ?_ ?_ | refine aH ?_ (λ _=>?_) | refine bz ?_ (λ _=>?_) | omega | intro _))
 ·intro p_0 level_1
  simp only [aT]
  repeat' (with_reducible (first | exact al _ | apply ih_expr_Template_le | apply ih_expr_whole_le | apply ih_expr_template_read_le | apply ih_expr_parser_expr_le | apply ih_expr_template_interpolation_le | apply ih_expr_parser_binary_le | apply ih_expr_parser_unary_le | apply ih_expr_parser_postfix_le | apply ih_expr_parser_primary_le | apply ih_expr_parser_text_le | apply ih_expr_parser_name_le | apply ih_expr_parser_enclosed_le | apply ih_expr_parser_list_le | apply ih_expr_parser_loop_le | apply ih_expr_parser_entries_le | apply ih_expr_parser_key_le | apply kU | refine bA ?_ | refine aU ?_ ?_ | refine aH ?_ (λ _=>?_) | refine bz ?_ (λ _=>?_) | omega | intro _))
 ·intro p_0
  simp only [ca]
  repeat' (with_reducible (first | exact al _ | apply ih_expr_Template_le | apply ih_expr_whole_le | apply ih_expr_template_read_le | apply ih_expr_parser_expr_le | apply ih_expr_template_interpolation_le | apply ih_expr_parser_binary_le | apply ih_expr_parser_unary_le | apply ih_expr_parser_postfix_le | apply ih_expr_parser_primary_le | apply ih_expr_parser_text_le | apply ih_expr_parser_name_le | apply ih_expr_parser_enclosed_le | apply ih_expr_parser_list_le | apply ih_expr_parser_loop_le | apply ih_expr_parser_entries_le | apply ih_expr_parser_key_le | apply cr | apply bh | refine bA ?_ | refine aU ?_ ?_ | refine aH ?_ (λ _=>?_) | refine bz ?_ (λ _=>?_) | omega | intro _))
 ·intro p_0
  simp only [cq]
  repeat' (with_reducible (first | exact al _ | apply ih_expr_Template_le | apply ih_expr_whole_le | apply ih_expr_template_read_le | apply ih_expr_parser_expr_le | apply ih_expr_template_interpolation_le | apply ih_expr_parser_binary_le | apply ih_expr_parser_unary_le | apply ih_expr_parser_postfix_le | apply ih_expr_parser_primary_le | apply ih_expr_parser_text_le | apply ih_expr_parser_name_le | apply ih_expr_parser_enclosed_le | apply ih_expr_parser_list_le | apply ih_expr_parser_loop_le | apply ih_expr_parser_entries_le | apply ih_expr_parser_key_le | apply kx | refine bA ?_ | refine aU ?_ ?_ | refine aH ?_ (λ _=>?_) | refine bz ?_ (λ _=>?_) | omega | intro _))
 ·intro p_0
  simp only [bX]
  repeat' (with_reducible (first | exact al _ | apply ih_expr_Template_le | apply ih_expr_whole_le | apply ih_expr_template_read_le | apply ih_expr_parser_expr_le | apply ih_expr_template_interpolation_le | apply ih_expr_parser_binary_le | apply ih_expr_parser_unary_le | apply ih_expr_parser_postfix_le | apply ih_expr_parser_primary_le | apply ih_expr_parser_text_le | apply ih_expr_parser_name_le | apply ih_expr_parser_enclosed_le | apply ih_expr_parser_list_le | apply ih_expr_parser_loop_le | apply ih_expr_parser_entries_le | apply ih_expr_parser_key_le | apply bG | apply qX | apply bh | refine bA ?_ | refine aU ?_ ?_ | refine aH ?_ (λ _=>?_) | refine bz ?_ (λ _=>?_) | omega | intro _))
 ·intro p_0
  simp only [cU]
  repeat' (with_reducible (first | exact al _ | apply ih_expr_Template_le | apply ih_expr_whole_le | apply ih_expr_template_read_le | apply ih_expr_parser_expr_le | apply ih_expr_template_interpolation_le | apply ih_expr_parser_binary_le | apply ih_expr_parser_unary_le | apply ih_expr_parser_postfix_le | apply ih_expr_parser_primary_le | apply ih_expr_parser_text_le | apply ih_expr_parser_name_le | apply ih_expr_parser_enclosed_le | apply ih_expr_parser_list_le | apply ih_expr_parser_loop_le | apply ih_expr_parser_entries_le | apply ih_expr_parser_key_le | apply bG | apply bh | refine bA ?_ | refine aU ?_ ?_ | refine aH ?_ (λ _=>?_) | refine bz ?_ (λ _=>?_) | omega | intro _))
 ·intro p_0
  simp only [du]
  repeat' (with_reducible (first | exact al _ | apply ih_expr_Template_le | apply ih_expr_whole_le | apply ih_expr_template_read_le | apply ih_expr_parser_expr_le | apply ih_expr_template_interpolation_le | apply ih_expr_parser_binary_le | apply ih_expr_parser_unary_le | apply ih_expr_parser_postfix_le | apply ih_expr_parser_primary_le | apply ih_expr_parser_text_le | apply ih_expr_parser_name_le | apply ih_expr_parser_enclosed_le | apply ih_expr_parser_list_le | apply ih_expr_parser_loop_le | apply ih_expr_parser_entries_le | apply ih_expr_parser_key_le | apply bG | apply bh | apply cr | apply fP | apply et | refine bA ?_ | refine aU ?_ ?_ | refine aH ?_ (λ _=>?_) | refine bz ?_ (λ _=>?_) | omega | intro _))
 ·intro p_0
  simp only [dh]
  repeat' (with_reducible (first | exact al _ | apply ih_expr_Template_le | apply ih_expr_whole_le | apply ih_expr_template_read_le | apply ih_expr_parser_expr_le | apply ih_expr_template_interpolation_le | apply ih_expr_parser_binary_le | apply ih_expr_parser_unary_le | apply ih_expr_parser_postfix_le | apply ih_expr_parser_primary_le | apply ih_expr_parser_text_le | apply ih_expr_parser_name_le | apply ih_expr_parser_enclosed_le | apply ih_expr_parser_list_le | apply ih_expr_parser_loop_le | apply ih_expr_parser_entries_le | apply ih_expr_parser_key_le | apply bG | apply fP | apply et | apply hC | refine bA ?_ | refine aU ?_ ?_ | refine aH ?_ (λ _=>?_) | refine bz ?_ (λ _=>?_) | omega | intro _))
 ·intro p_0 end_1
  simp only [dx]
  repeat' (with_reducible (first | exact al _ | apply ih_expr_Template_le | apply ih_expr_whole_le | apply ih_expr_template_read_le | apply ih_expr_parser_expr_le | apply ih_expr_template_interpolation_le | apply ih_expr_parser_binary_le | apply ih_expr_parser_unary_le | apply ih_expr_parser_postfix_le | apply ih_expr_parser_primary_le | apply ih_expr_parser_text_le | apply ih_expr_parser_name_le | apply ih_expr_parser_enclosed_le | apply ih_expr_parser_list_le | apply ih_expr_parser_loop_le | apply ih_expr_parser_entries_le | apply ih_expr_parser_key_le | apply lV | refine bA ?_ | refine aU ?_ ?_ | refine aH ?_ (λ _=>?_) | refine bz ?_ (λ _=>?_) | omega | intro _))
 ·intro p_0 at_1 k_2
  simp only [cT]
  repeat' (with_reducible (first | exact al _ | apply ih_expr_Template_le | apply ih_expr_whole_le | apply ih_expr_template_read_le | apply ih_expr_parser_expr_le | apply ih_expr_template_interpolation_le | apply ih_expr_parser_binary_le | apply ih_expr_parser_unary_le | apply ih_expr_parser_postfix_le | apply ih_expr_parser_primary_le | apply ih_expr_parser_text_le | apply ih_expr_parser_name_le | apply ih_expr_parser_enclosed_le | apply ih_expr_parser_list_le | apply ih_expr_parser_loop_le | apply ih_expr_parser_entries_le | apply ih_expr_parser_key_le | apply bh | apply lj | apply cr | apply lT | apply fM | apply hC | apply et | refine bA ?_ | refine aU ?_ ?_ | refine aH ?_ (λ _=>?_) | refine bz ?_ (λ _=>?_) | omega | intro _))
 ·intro p_0
  simp only [cW]
  repeat' (with_reducible (first | exact al _ | apply ih_expr_Template_le | apply ih_expr_whole_le | apply ih_expr_template_read_le | apply ih_expr_parser_expr_le | apply ih_expr_template_interpolation_le | apply ih_expr_parser_binary_le | apply ih_expr_parser_unary_le | apply ih_expr_parser_postfix_le | apply ih_expr_parser_primary_le | apply ih_expr_parser_text_le | apply ih_expr_parser_name_le | apply ih_expr_parser_enclosed_le | apply ih_expr_parser_list_le | apply ih_expr_parser_loop_le | apply ih_expr_parser_entries_le | apply ih_expr_parser_key_le | apply kw | refine bA ?_ | refine aU ?_ ?_ | refine aH ?_ (λ _=>?_) | refine bz ?_ (λ _=>?_) | omega | intro _))
 ·intro p_0
  simp only [cu]
  repeat' (with_reducible (first | exact al _ | apply ih_expr_Template_le | apply ih_expr_whole_le | apply ih_expr_template_read_le | apply ih_expr_parser_expr_le | apply ih_expr_template_interpolation_le | apply ih_expr_parser_binary_le | apply ih_expr_parser_unary_le | apply ih_expr_parser_postfix_le | apply ih_expr_parser_primary_le | apply ih_expr_parser_text_le | apply ih_expr_parser_name_le | apply ih_expr_parser_enclosed_le | apply ih_expr_parser_list_le | apply ih_expr_parser_loop_le | apply ih_expr_parser_entries_le | apply ih_expr_parser_key_le | apply bG | apply bh | apply cr | apply fP | apply et | refine bA ?_ | refine aU ?_ ?_ | refine aH ?_ (λ _=>?_) | refine bz ?_ (λ _=>?_) | omega | intro _))
theorem sW {n n':Nat}(hn:n≤n'):∀ (s_0:Bytes) (base_1:Int),Le (d5 n s_0 base_1) (d5 n' s_0 base_1):=(pu n n' hn).2.1
theorem tj {n n':Nat}(hn:n≤n'){s_0:Bytes}:Le (ei n s_0) (ei n' s_0):=by
 simp only [ei]
 repeat' (with_reducible (first | exact al _ | apply sW | apply mT | refine bA ?_ | refine aU ?_ ?_ | refine aH ?_ (λ _=>?_) | refine bz ?_ (λ _=>?_) | omega | intro _))
theorem rI {n n':Nat}(hn:n≤n'):Le (eT n) (eT n'):=by
 simp only [eT]
 repeat' (with_reducible (first | exact al _ | apply tj | apply sJ | refine bA ?_ | refine aU ?_ ?_ | refine aH ?_ (λ _=>?_) | refine bz ?_ (λ _=>?_) | omega | intro _))
theorem xq:eT 60=some true:=by decide +kernel
theorem oJ:Ev2 (λ n _=>eT n) (·=true):=CH 60 xq (λ n hn=>rI hn) Z
end Go.Ab.R06
end
