/- The statement LifecycleLeast is proved, and its tied card: for all inputs that are Go values of the law's parameters' types, the law returns true and never panics, where what it reads is of bulk at most 1048576 (the second form). No further condition. -/
import Derived.Test.YtdhapbkkniegoaaGreatDoorCards
import Derived.Test.YtdhapbkkniegoaaGreatDoorTie
import Derived.WalkKit
import Derived.SizedLaws
import Derived.ProofKit
import Derived.OpenShut
import Derived.ShutString
import Derived.LaidMore
import Derived.Stop.Joined
import Derived.Deep.DeepHandedRow
import Derived.Deep.DeepWitnessRowRef
import Derived.Test.YtdhapbkkniegoaaGreatDoorZ43a
import Derived.Test.YtdhapbkkniegoaaGreatDoorZ43b
import Derived.Test.YtdhapbkkniegoaaGreatDoorZ43c
import Derived.Test.YtdhapbkkniegoaaGreatDoorZ43d
import Derived.Test.YtdhapbkkniegoaaGreatDoorZ43e
import Derived.Test.YtdhapbkkniegoaaGreatDoorZ43f
section
set_option linter.unusedVariables false
set_option linter.unusedSimpArgs false
set_option linter.unnecessarySimpa false
namespace Go.Ab.R06
open Go.Proofs Go.Ab Go.Ab.RB
attribute [local irreducible] awp gO aY aB cD AV.sub M dh
def bY (n:Nat)(l_0:List aa)(i169:Int):Nat→Int→(List Bool)→Option (List Bool)
 | 0,_,_=>none
 | m+1,k194,l195 =>
 if k194 < (l_0.length:Int) then
  (
    (
      ck ((0:Int)≤i169∧i169 < (l_0.length:Int)) <|
      (iW (lat l_0 i169)).bind λ r198 =>
      if r198=true then
       ck ((0:Int)≤i169∧i169 < (l_0.length:Int)) <|
       ck ((0:Int)≤k194∧k194 < (l_0.length:Int)) <|
       (fQ n (lat l_0 i169) (lat l_0 k194)).bind λ r203 =>
       some r203
      else
       ck ((0:Int)≤i169∧i169 < (l195.length:Int)) <|
       if (lat l195 i169)=true then
        ck ((0:Int)≤i169∧i169 < (l_0.length:Int)) <|
        ck ((0:Int)≤k194∧k194 < (l_0.length:Int)) <|
        (fQ n (lat l_0 i169) (lat l_0 k194)).bind λ r209 =>
        some r209
       else
        some false
     : Option Bool).bind λ t211 =>
    if t211=true then
     ck ((0:Int)≤k194∧k194 < (l195.length:Int)) <|
     some (l195.set k194.toNat true)
    else
     some l195
   : Option (List Bool)).bind λ l214 =>
  ck (inR (k194+1)) <|
  bY n l_0 i169 m (k194+1) l214
 else
  some l195
def bZ (n:Nat)(l_0:List aa):Nat→Int→(List Bool)→Option (List Bool)
 | 0,_,_=>none
 | m+1,i169,l170 =>
 if i169 < (l_0.length:Int) then
  (bY n l_0 i169 n 0 l170).bind λ l218 =>
  ck (inR (i169+1)) <|
  bZ n l_0 m (i169+1) l218
 else
  some l170
def bX (n:Nat)(l_0:List aa):Nat→Int→(List Bool)→Option (List Bool)
 | 0,_,_=>none
 | m+1,round116,l117 =>
 if round116 < (l_0.length:Int) then
  (bZ n l_0 n 0 l117).bind λ l222 =>
  ck (inR (round116+1)) <|
  bX n l_0 m (round116+1) l222
 else
  some l117
def bW (l_0:List aa)(r6:(List aa))(l226:List Bool):Nat→Int→Option (Unit⊕Bool)
 | 0,_=>none
 | m+1,i237 =>
 if i237 < (l_0.length:Int) then
  (
    ck ((0:Int)≤i237∧i237 < (r6.length:Int)) <|
    if ((lat r6 i237).fCreateFirst)=true then
     ck ((0:Int)≤i237∧i237 < (l_0.length:Int)) <|
     if (!((lat l_0 i237).fCreateFirst))=true then
      ck ((0:Int)≤i237∧i237 < (l226.length:Int)) <|
      some (!(lat l226 i237))
     else
      some false
    else
     some false
   : Option Bool).bind λ t244 =>
  if t244=true then
   some (.inr false)
  else
   ck (inR (i237+1)) <|
   bW l_0 r6 l226 m (i237+1)
 else
  some (.inl ())
def fL (n:Nat)(l_0:List aa):Option Bool :=
 (hH n l_0).bind λ r1 =>
 if (!r1)=true then
  (cF n).bind λ r4 =>
  some r4
 else
  (bo n l_0).bind λ r6 =>
  if (r6.length:Int)=(l_0.length:Int) then
   ck ((0:Int)≤(l_0.length:Int)∧(l_0.length:Int)≤9223372036854775807∧(1:Int)*(l_0.length:Int)≤281474976710656) <|
   (bX n l_0 n 0 (List.replicate (l_0.length:Int).toNat (false:Bool))).bind λ l226 =>
   jn (bW l_0 r6 l226 n 0) λ q255 =>
   (cF n).bind λ r248 =>
   some r248
  else
   some false
set_option maxHeartbeats 4000000 in
theorem mi (n:Nat)(l_0:List aa)(r:Bool)(h0:fL n l_0=some r):aB Tryz.prog 6 [eL ac l_0] (·=.p (eB r)):=by
 unfold fL at h0
 refine aU good Tryz.func6 rfl rfl rfl λ w0=>mP (λ v:Bool=>.p (eB v)) ?_
 refine nx 8 rfl (bd h0 λ r1 e2 h0=>?_)
 refine oK (ju _ l_0 _ e2) rfl ⟨sr,trivial⟩ Tryz.call8 rfl (nx 2 rfl ?_)
 refine fB [11] h0 rfl (λ c3 h0=>?_) λ c3 h0=>?_
 ·refine nx 3 rfl (bd h0 λ r4 e5 h0=>?_)
  refine oK (dG _  _ e5) rfl trivial Tryz.call9 rfl (nx 3 rfl ?_)
  exact mQ (oi h0) rfl (sr)
 refine nx 5 rfl (bd h0 λ r6 e7 h0=>?_)
 refine oK (cH _ l_0 _ e7) rfl ⟨sr,trivial⟩ Tryz.call10 rfl (nx 6 rfl ?_)
 refine oLl (f:=ac) rfl rfl (nx 1 rfl ?_)
 refine oLl (f:=ac) rfl rfl (nx 2 rfl ?_)
 refine fN [19] h0 rfl (λ c8 h0=>?_) λ c8 h0=>?_
 ·refine nx 5 rfl (oLl (f:=ac) rfl rfl ?_)
  refine cc' h0 λ hk9 h0=>mO rfl (sd eB (false:Bool) rfl rfl rfl rfl rfl rfl rfl rfl rfl rfl rfl hk9 ?_)
  refine nx 8 rfl (bd h0 λ o257 h1 h0=>?_)
  refine kE 0 o257 (λ v258=>⟨[(0,.p (eL ac l_0)),(3,.p (eL ac r6)),(4,.arr 22 1 0 v258.length)],[(22,(v258.map eB).map .p)]⟩) ?_ ?_
  ·refine nx 7 rfl ?_
   obtain ⟨o259,h1,hL0,hR0⟩:=cU h0
   refine kEx 6 (λ v260:Unit=>o259=.inl v260) (λ v260=>⟨[],[]⟩) (λ v260 hv=>?_) ?_
   ·have h0:=hL0 _ hv
    refine nx 3 rfl (bd h0 λ r248 e249 h0=>?_)
    refine oK (dG _  _ e249) rfl trivial Tryz.call9 rfl (nx 3 rfl ?_)
    exact mQ (oi h0) rfl (sr)
   refine lG (λ (q261:Int)=>⟨[(0,.p (eL ac l_0)),(3,.p (eL ac r6)),(4,.arr 22 1 0 o257.length),(8,.p (eI q261))],[(22,(o257.map eB).map .p)]⟩) (λ m (q261:Int)=>bW l_0 r6 o257 m q261) (λ _=>rfl) 0 h1 (gE rfl rfl) ?_
   rintro m i237 h1
   replace h1:bW l_0 r6 o257 (m+1) i237=some o259:=h1
   rw [bW] at h1
   refine nx 5 rfl (oLl (f:=ac) rfl rfl ?_)
   refine nx 2 rfl (fD [69] h1 rfl (λ c238 h1=>?_) λ c238 h1=>?_)
   ·refine nx 5 rfl (bd h1 λ o262 h2 h1=>?_)
    refine kN o262 (λ v263=>⟨[(0,.p (eL ac l_0)),(3,.p (eL ac r6)),(4,.arr 22 1 0 o257.length),(8,.p (eI i237)),(91,.p (eB v263))],[(22,(o257.map eB).map .p)]⟩) ?_ ?_
    ·refine nx 1 rfl (fB [91] h1 rfl (λ c245 h1=>?_) λ c245 h1=>?_)
     ·exact nx 6 rfl (mQ (hR0 _ (oi h1).symm) rfl (sr))
     refine nx 4 rfl (oA h1 rfl rfl λ hk246 h1=>?_)
     exact nx 2 rfl (eX (i237+1) h1 (gE rfl rfl))
    refine nx 3 rfl (oE h2 aa.cells_eq rfl rfl (λ _=>rfl) λ hk239 h2=>?_)
    refine nx 3 rfl (fB [76,77] h2 rfl (λ c240 h2=>?_) λ c240 h2=>?_)
    ·refine nx 2 rfl (oE h2 aa.cells_eq rfl rfl (λ _=>rfl) λ hk241 h2=>?_)
     refine nx 5 rfl (fB [83,84,85] h2 rfl (λ c242 h2=>?_) λ c242 h2=>?_)
     ·refine nx 2 rfl (cc' h2 λ hk243 h2=>?_)
      refine mO rfl (bT rfl rfl rfl rfl rfl rfl rfl rfl rfl hk243 ?_)
      refine mO rfl (ge (default:Bool) (f:=eB) (l:=o257) rfl rfl rfl rfl rfl rfl rfl (by have:=hk243; omega) ?_)
      exact nx 3 rfl (eX _ (oi h2).symm (gE rfl rfl))
     exact nx 7 rfl (eX _ (oi h2).symm (gE rfl rfl))
    exact nx 15 rfl (eX _ (oi h2).symm (gE rfl rfl))
   exact nx 2 rfl (eXi _ (oi h1).symm (gE rfl rfl))
  refine lG (λ (q264:Int×(List Bool))=>⟨[(0,.p (eL ac l_0)),(3,.p (eL ac r6)),(4,.arr 22 1 0 q264.2.length),(5,.p (eI q264.1))],[(22,(q264.2.map eB).map .p)]⟩) (λ m (q264:Int×(List Bool))=>bX n l_0 m q264.1 q264.2) (λ _=>rfl) (0,List.replicate (l_0.length:Int).toNat (false:Bool)) h1 (aI (cb ⟨er rfl,er rfl,⟨_,rfl,AV.sub_of_eq (by first | rfl | simp)⟩,er rfl,trivial⟩ ⟨⟨_,rfl,aG _⟩,trivial⟩)) ?_
  rintro m ⟨round116,l117⟩ h1
  replace h1:bX n l_0 (m+1) round116 l117=some o257:=h1
  rw [bX] at h1
  refine nx 5 rfl (oLl (f:=ac) rfl rfl ?_)
  refine nx 2 rfl (fD [26] h1 rfl (λ c118 h1=>?_) λ c118 h1=>?_)
  ·refine nx 9 rfl (bd h1 λ o265 h2 h1=>?_)
   refine kE 2 o265 (λ v266=>⟨[(0,.p (eL ac l_0)),(3,.p (eL ac r6)),(4,.arr 22 1 0 v266.length),(5,.p (eI round116))],[(22,(v266.map eB).map .p)]⟩) ?_ ?_
   ·refine nx 3 rfl (oA h1 rfl rfl λ hk223 h1=>?_)
    exact nx 2 rfl (eX (round116+1,o265) h1 (aI (cb ⟨er rfl,er rfl,⟨_,rfl,AV.sub_of_eq (by first | rfl | simp)⟩,er rfl,trivial⟩ ⟨⟨_,rfl,aG _⟩,trivial⟩)))
   refine lG (λ (q267:Int×(List Bool))=>⟨[(0,.p (eL ac l_0)),(3,.p (eL ac r6)),(4,.arr 22 1 0 q267.2.length),(5,.p (eI round116)),(6,.p (eI q267.1))],[(22,(q267.2.map eB).map .p)]⟩) (λ m (q267:Int×(List Bool))=>bZ n l_0 m q267.1 q267.2) (λ _=>rfl) (0,l117) h2 (aI (cb ⟨er rfl,er rfl,⟨_,rfl,AV.sub_of_eq (by first | rfl | simp)⟩,er rfl,er rfl,trivial⟩ ⟨⟨_,rfl,aG _⟩,trivial⟩)) ?_
   rintro m ⟨i169,l170⟩ h2
   replace h2:bZ n l_0 (m+1) i169 l170=some o265:=h2
   rw [bZ] at h2
   refine nx 5 rfl (oLl (f:=ac) rfl rfl ?_)
   refine nx 2 rfl (fD [32] h2 rfl (λ c171 h2=>?_) λ c171 h2=>?_)
   ·refine nx 9 rfl (bd h2 λ o268 h3 h2=>?_)
    refine kE 4 o268 (λ v269=>⟨[(0,.p (eL ac l_0)),(3,.p (eL ac r6)),(4,.arr 22 1 0 v269.length),(5,.p (eI round116)),(6,.p (eI i169))],[(22,(v269.map eB).map .p)]⟩) ?_ ?_
    ·refine nx 3 rfl (oA h2 rfl rfl λ hk219 h2=>?_)
     exact nx 2 rfl (eX (i169+1,o268) h2 (aI (cb ⟨er rfl,er rfl,⟨_,rfl,AV.sub_of_eq (by first | rfl | simp)⟩,er rfl,er rfl,trivial⟩ ⟨⟨_,rfl,aG _⟩,trivial⟩)))
    refine lG (λ (q270:Int×(List Bool))=>⟨[(0,.p (eL ac l_0)),(3,.p (eL ac r6)),(4,.arr 22 1 0 q270.2.length),(5,.p (eI round116)),(6,.p (eI i169)),(7,.p (eI q270.1))],[(22,(q270.2.map eB).map .p)]⟩) (λ m (q270:Int×(List Bool))=>bY n l_0 i169 m q270.1 q270.2) (λ _=>rfl) (0,l170) h3 (aI (cb ⟨er rfl,er rfl,⟨_,rfl,AV.sub_of_eq (by first | rfl | simp)⟩,er rfl,er rfl,er rfl,trivial⟩ ⟨⟨_,rfl,aG _⟩,trivial⟩)) ?_
    rintro m ⟨k194,l195⟩ h3
    replace h3:bY n l_0 i169 (m+1) k194 l195=some o268:=h3
    rw [bY] at h3
    refine nx 5 rfl (oLl (f:=ac) rfl rfl ?_)
    refine nx 2 rfl (fD [38] h3 rfl (λ c196 h3=>?_) λ c196 h3=>?_)
    ·refine nx 3 rfl (bd h3 λ o271 h4 h3=>?_)
     refine kN o271 (λ v272=>⟨[(0,.p (eL ac l_0)),(3,.p (eL ac r6)),(4,.arr 22 1 0 v272.length),(5,.p (eI round116)),(6,.p (eI i169)),(7,.p (eI k194))],[(22,(v272.map eB).map .p)]⟩) ?_ ?_
     ·refine nx 3 rfl (oA h3 rfl rfl λ hk215 h3=>?_)
      exact nx 2 rfl (eX (k194+1,o271) h3 (aI (cb ⟨er rfl,er rfl,⟨_,rfl,AV.sub_of_eq (by first | rfl | simp)⟩,er rfl,er rfl,er rfl,trivial⟩ ⟨⟨_,rfl,aG _⟩,trivial⟩)))
     refine nx 2 rfl (bd h4 λ o273 h5 h4=>?_)
     refine kN o273 (λ v274=>⟨[(0,.p (eL ac l_0)),(3,.p (eL ac r6)),(4,.arr 22 1 0 l195.length),(5,.p (eI round116)),(6,.p (eI i169)),(7,.p (eI k194)),(62,.p (eB v274))],[(22,(l195.map eB).map .p)]⟩) ?_ ?_
     ·refine nx 1 rfl (fB [62] h4 rfl (λ c212 h4=>?_) λ c212 h4=>?_)
      ·refine nx 4 rfl (cc' h4 λ hk213 h4=>?_)
       refine mO rfl (bT rfl rfl rfl rfl rfl rfl rfl rfl rfl hk213 ?_)
       refine mO rfl (oN (f:=eB) (l:=l195) (b:=true) rfl rfl rfl rfl rfl rfl rfl rfl (by have:=hk213; omega) ?_)
       exact nx 1 rfl (eX _ (oi h4).symm (aI (cb ⟨er rfl,er rfl,⟨_,rfl,AV.sub_of_eq (by first | rfl | simp)⟩,er rfl,er rfl,er rfl,trivial⟩ ⟨⟨_,rfl,aG _⟩,trivial⟩)))
      exact nx 2 rfl (eX _ (oi h4).symm (aI (cb ⟨er rfl,er rfl,⟨_,rfl,AV.sub_of_eq (by first | rfl | simp)⟩,er rfl,er rfl,er rfl,trivial⟩ ⟨⟨_,rfl,aG _⟩,trivial⟩)))
     refine cc' h5 λ hk197 h5=>bd h5 λ r198 e199 h5=>fB (p:=r198) [] h5 rfl (λ c200 h5=>?_) λ c200 h5=>?_
     ·refine cc' h5 λ hk201 h5=>cc' h5 λ hk202 h5=>bd h5 λ r203 e204 h5=>mD [(0,.p (eL ac l_0)),(3,.p (eL ac r6)),(4,.arr 22 1 0 l195.length),(5,.p (eI round116)),(6,.p (eI i169)),(7,.p (eI k194))] rfl ⟨rfl,rfl,rfl,rfl,rfl,rfl,trivial⟩ rfl (dR 2 rfl ?_)
      refine dq (.rptr (aa.cs (lat l_0 i169))) [41,42] rfl (λ _ e _ q=>af rfl (bf (f:=ac) (l:=l_0) aa.cs rfl rfl rfl rfl rfl rfl (e _ _ rfl) rfl (e _ _ rfl) hk197 aa.cells_eq (λ _=>rfl) q)) rfl (dR 1 rfl ?_)
      refine dq (.p (eB r198)) [44] rfl (λ _ e _ q=>af rfl (aJ (jh (lat l_0 i169) _ e199) rfl rfl rfl (au (e _ _ rfl) aK) ⟨sr,trivial⟩ Tryz.call18 rfl q)) rfl (dL (c200) rfl ?_)
      refine dR 8 rfl (dq (.rptr (aa.cs (lat l_0 i169))) [52,53,54] rfl (λ _ e _ q=>aA (bf (f:=ac) (l:=l_0) aa.cs rfl rfl rfl rfl rfl rfl (e _ _ rfl) rfl (e _ _ rfl) hk201 aa.cells_eq (λ _=>rfl) q) rfl rfl (e _ _ rfl) (rfl)) rfl ?_)
      refine dR 3 rfl (dq (.rptr (aa.cs (lat l_0 k194))) [52,57,58] rfl (λ _ e _ q=>aA (bf (f:=ac) (l:=l_0) aa.cs rfl rfl rfl rfl rfl rfl (e _ _ rfl) rfl (e _ _ rfl) hk202 aa.cells_eq (λ _=>rfl) q) rfl rfl (e _ _ rfl) (rfl)) rfl ?_)
      refine dR 1 rfl (dq (.p (eB r203)) [52,56,60] rfl (λ _ e _ q=>aA (aJ (jG _ (lat l_0 i169) (lat l_0 k194) _ e204) rfl rfl rfl (au (e _ _ rfl) (au (e _ _ rfl) aK)) ⟨sr,sr,trivial⟩ Tryz.call19 rfl q) rfl rfl (e _ _ rfl) (rfl)) rfl ?_)
      refine dR 1 rfl (dE rfl ?_)
      exact nx 1 rfl (eX _ (oi h5).symm (gE rfl rfl))
     refine cc' h5 λ hk205 h5=>fB (p:=lat l195 i169) [] h5 rfl (λ c206 h5=>?_) λ c206 h5=>?_
     ·refine cc' h5 λ hk207 h5=>cc' h5 λ hk208 h5=>bd h5 λ r209 e210 h5=>mD [(0,.p (eL ac l_0)),(3,.p (eL ac r6)),(4,.arr 22 1 0 l195.length),(5,.p (eI round116)),(6,.p (eI i169)),(7,.p (eI k194))] rfl ⟨rfl,rfl,rfl,rfl,rfl,rfl,trivial⟩ rfl (dR 2 rfl ?_)
      refine dq (.rptr (aa.cs (lat l_0 i169))) [41,42] rfl (λ _ e _ q=>af rfl (bf (f:=ac) (l:=l_0) aa.cs rfl rfl rfl rfl rfl rfl (e _ _ rfl) rfl (e _ _ rfl) hk197 aa.cells_eq (λ _=>rfl) q)) rfl (dR 1 rfl ?_)
      refine dq (.p (eB r198)) [44] rfl (λ _ e _ q=>af rfl (aJ (jh (lat l_0 i169) _ e199) rfl rfl rfl (au (e _ _ rfl) aK) ⟨sr,trivial⟩ Tryz.call18 rfl q)) rfl (dL (c200) rfl ?_)
      refine dR 2 rfl (dq (.ptr 22 i169.toNat) [46,47,48] rfl (λ _ e _ q=>aA (bT rfl rfl rfl rfl rfl rfl (e _ _ rfl) (e _ _ rfl) rfl hk205 q) rfl rfl (e _ _ rfl) (rfl)) rfl ?_)
      refine dq (.p (eB (lat l195 i169))) [46,49] rfl (λ _ e _ q=>aA (ge (default:Bool) (f:=eB) (l:=l195) rfl rfl rfl rfl rfl (e _ _ rfl) rfl (by have:=hk205; omega) q) rfl rfl (e _ _ rfl) (rfl)) rfl (dL (c206) rfl ?_)
      refine dR 3 rfl (dq (.rptr (aa.cs (lat l_0 i169))) [52,53,54] rfl (λ _ e _ q=>aA (bf (f:=ac) (l:=l_0) aa.cs rfl rfl rfl rfl rfl rfl (e _ _ rfl) rfl (e _ _ rfl) hk207 aa.cells_eq (λ _=>rfl) q) rfl rfl (e _ _ rfl) (rfl)) rfl ?_)
      refine dR 3 rfl (dq (.rptr (aa.cs (lat l_0 k194))) [52,57,58] rfl (λ _ e _ q=>aA (bf (f:=ac) (l:=l_0) aa.cs rfl rfl rfl rfl rfl rfl (e _ _ rfl) rfl (e _ _ rfl) hk208 aa.cells_eq (λ _=>rfl) q) rfl rfl (e _ _ rfl) (rfl)) rfl ?_)
      refine dR 1 rfl (dq (.p (eB r209)) [52,56,60] rfl (λ _ e _ q=>aA (aJ (jG _ (lat l_0 i169) (lat l_0 k194) _ e210) rfl rfl rfl (au (e _ _ rfl) (au (e _ _ rfl) aK)) ⟨sr,sr,trivial⟩ Tryz.call19 rfl q) rfl rfl (e _ _ rfl) (rfl)) rfl ?_)
      refine dR 1 rfl (dE rfl ?_)
      exact nx 1 rfl (eX _ (oi h5).symm (gE rfl rfl))
     refine mD [(0,.p (eL ac l_0)),(3,.p (eL ac r6)),(4,.arr 22 1 0 l195.length),(5,.p (eI round116)),(6,.p (eI i169)),(7,.p (eI k194))] rfl ⟨rfl,rfl,rfl,rfl,rfl,rfl,trivial⟩ rfl (dR 2 rfl ?_)
     refine dq (.rptr (aa.cs (lat l_0 i169))) [41,42] rfl (λ _ e _ q=>af rfl (bf (f:=ac) (l:=l_0) aa.cs rfl rfl rfl rfl rfl rfl (e _ _ rfl) rfl (e _ _ rfl) hk197 aa.cells_eq (λ _=>rfl) q)) rfl (dR 1 rfl ?_)
     refine dq (.p (eB r198)) [44] rfl (λ _ e _ q=>af rfl (aJ (jh (lat l_0 i169) _ e199) rfl rfl rfl (au (e _ _ rfl) aK) ⟨sr,trivial⟩ Tryz.call18 rfl q)) rfl (dL (c200) rfl ?_)
     refine dR 2 rfl (dq (.ptr 22 i169.toNat) [46,47,48] rfl (λ _ e _ q=>aA (bT rfl rfl rfl rfl rfl rfl (e _ _ rfl) (e _ _ rfl) rfl hk205 q) rfl rfl (e _ _ rfl) (rfl)) rfl ?_)
     refine dq (.p (eB (lat l195 i169))) [46,49] rfl (λ _ e _ q=>aA (ge (default:Bool) (f:=eB) (l:=l195) rfl rfl rfl rfl rfl (e _ _ rfl) rfl (by have:=hk205; omega) q) rfl rfl (e _ _ rfl) (rfl)) rfl (dL (c206) rfl ?_)
     refine dR 11 rfl (dE rfl ?_)
     exact nx 1 rfl (eX _ (oi h5).symm (gE rfl rfl))
    exact nx 2 rfl (eXi _ (oi h3).symm (aI (cb ⟨er rfl,er rfl,⟨_,rfl,AV.sub_of_eq (by first | rfl | simp)⟩,er rfl,er rfl,trivial⟩ ⟨⟨_,rfl,aG _⟩,trivial⟩)))
   exact nx 2 rfl (eXi _ (oi h2).symm (aI (cb ⟨er rfl,er rfl,⟨_,rfl,AV.sub_of_eq (by first | rfl | simp)⟩,er rfl,trivial⟩ ⟨⟨_,rfl,aG _⟩,trivial⟩)))
  exact nx 2 rfl (eXi _ (oi h1).symm (aI (cb ⟨er rfl,er rfl,⟨_,rfl,AV.sub_of_eq (by first | rfl | simp)⟩,trivial⟩ ⟨⟨_,rfl,aG _⟩,trivial⟩)))
 exact nx 6 rfl (mQ (oi h0) rfl (sr))
end Go.Ab.R06
end
section
set_option linter.unusedVariables false
set_option linter.unusedSimpArgs false
set_option linter.unnecessarySimpa false
namespace Go.Ab.R06
open Go.Ab Go.Ab.RB Go.Lib
section
variable {l:List aa} (hb:∀ c∈l,aa.Bd c) (hl:l.length≤30)
theorem AK (hb:∀ c∈l,aa.Bd c)(hl:l.length≤30)(i:Nat)(hi:i < l.length):∀ (j k:Nat) (S:List Bool),k+j=l.length→S.length=l.length →
  Ev2 (λ n m=>bY n l (i:Int) m (k:Int) S) (λ r=>Stp l (λ i' k'=>i'=i∧k≤k') S r):=by
 intro j
 induction j with
 | zero =>
  intro k S hk hS
  refine ap ?_
  simp only [bY]
  exact am (by omega) (ab ((Stp.refl hS).mono λ i' k' h hn=>by have:=hn.2.1; omega))
 | succ j ih =>
  intro k S hk hS
  have hkl:k < l.length:=by omega
  have hkS:k < S.length:=by omega
  have hdep:=tl _ _ (pA hb hi) (pA hb hkl)
  refine ap ?_
  simp only [bY]
  rw [fo l i,fo l k]
  refine al (by omega) (dw (λ q=>Stp l (λ i' k'=>i'=i∧k'=k) S q) ?_ (λ q hq=>ag (aF (by omega) (by omega)) ?_))
  ·refine dw (λ t=>(t=true→(fi l i∨on S i)∧ne l i k)∧(t=false→(fi l i∨on S i)→¬ ne l i k)) ?_ (λ t ht=>?_)
   ·refine ag (by omega) (ai (nW (cat l i)) (aR (uz _) rfl) (ar (λ hf=>?_) (λ hf=>?_)))
    ·exact ag (by omega) (ag (by omega) (ai _ hdep (ab ⟨λ h=>⟨.inl ⟨hi,hf⟩,hi,hkl,h⟩,λ h _ hn=>by rw [hn.2.2] at h; cases h⟩)))
    ·refine ag (by omega) (ar (λ hs=>?_) (λ hs=>ab ⟨λ h=>(by cases h),λ _ h=>?_⟩))
     ·exact ag (by omega) (ag (by omega) (ai _ hdep (ab ⟨λ h=>⟨.inr ((kK (by omega)).1 hs),hi,hkl,h⟩,λ h _ hn=>by rw [hn.2.2] at h; cases h⟩)))
     ·rcases h with h | h
      ·exact absurd h.2 hf
      ·exact absurd ((kK (by omega)).2 h) hs
   ·refine ar (λ h=>ag (by omega) (ab ?_)) (λ h=>ab ⟨hS,λ _ h=>h,λ i' k' h' hf hn=>?_,λ h=>h⟩)
    ·obtain ⟨h1,h2⟩:=ht.1 h
     rw [Int.toNat_natCast]
     refine ⟨by simp [hS],λ j hj=>(jM hkS).2 (.inr hj),λ i' k' h' hf hn=>?_,λ hs j hj=>?_⟩
     ·obtain ⟨rfl,rfl⟩:=h'
      exact (jM hkS).2 (.inl rfl)
     ·rcases (jM hkS).1 hj with rfl | hj
      ·rcases h1 with h1 | h1
       ·exact .one h1 h2
       ·exact .more (hs _ h1) h2
      ·exact hs j hj
    ·obtain ⟨rfl,rfl⟩:=h'
     exact absurd hn (ht.2 (by simpa using h) hf)
  ·have:=ih (k+1) q (by omega) hq.len
   rw [Int.natCast_add,Int.natCast_one] at this
   refine dZ this λ r hr=>(hq.then hr).mono λ i' k' h _=>?_
   obtain ⟨rfl,h⟩:=h
   by_cases e:k'=k
   ·exact .inl ⟨rfl,e⟩
   ·exact .inr ⟨rfl,by omega⟩
theorem Ce (hb:∀ c∈l,aa.Bd c)(hl:l.length≤30):∀ (j i:Nat) (S:List Bool),i+j=l.length→S.length=l.length →
  Ev2 (λ n m=>bZ n l m (i:Int) S) (λ r=>Stp l (λ i' _=>i≤i') S r):=by
 intro j
 induction j with
 | zero =>
  intro i S hi hS
  refine ap ?_
  simp only [bZ]
  exact am (by omega) (ab ((Stp.refl hS).mono λ i' k' h hn=>by have:=hn.1; omega))
 | succ j ih =>
  intro i S hi hS
  refine ap ?_
  simp only [bZ]
  refine al (by omega) (dw _ (aH (f:=λ n m=>bY n l (i:Int) m 0 S) (AK hb hl i (by omega) l.length 0 S (by omega) hS)) (λ q hq=>ag (aF (by omega) (by omega)) ?_))
  have:=ih (i+1) q (by omega) hq.len
  rw [Int.natCast_add,Int.natCast_one] at this
  refine dZ this λ r hr=>(hq.then hr).mono λ i' k' h _=>?_
  by_cases e:i'=i
  ·exact .inl ⟨e,Nat.zero_le _⟩
  ·exact .inr (by omega)
theorem Bw (hb:∀ c∈l,aa.Bd c)(hl:l.length≤30):∀ (j r:Nat) (S:List Bool),r+j=l.length→S.length=l.length→(∀ k,on S k→Rc l k)→xm l r S→Ev2 (λ n m=>bX n l m (r:Int) S) (·=rcB l):=by
 intro j
 induction j with
 | zero =>
  intro r S hr hS hs hd
  refine ap ?_
  simp only [bX]
  obtain rfl:r=l.length:=by omega
  exact am (by omega) (ab (sw hS λ k=>⟨hs k,hd.fin hS k⟩))
 | succ j ih =>
  intro r S hr hS hs hd
  refine ap ?_
  simp only [bX]
  refine al (by omega) (dw _ (aH (f:=λ n m=>bZ n l m 0 S) (Ce hb hl l.length 0 S (by omega) hS)) (λ q hq=>ag (aF (by omega) (by omega)) ?_))
  have hst:Stp l (λ _ _=>True) S q:=hq.mono λ _ _ _ _=>Nat.zero_le _
  have:=ih (r+1) q (by omega) hst.len (hst.snd hs) (hd.next hS hs hst)
  rw [Int.natCast_add,Int.natCast_one] at this
  exact this
theorem Bu (hl:l.length≤30):∀ (j i:Nat),i+j=l.length→Ev2 (λ _ m=>bW l (cY l) (rcB l) m (i:Int)) (·=.inl ()):=by
 have hpl:=dm l
 have hrl:=oL l
 intro j
 induction j with
 | zero =>
  intro i hi
  refine ap ?_
  simp only [bW]
  exact am (by omega) (ab rfl)
 | succ j ih =>
  intro i hi
  have h1:i < l.length:=by omega
  have hn:=ih (i+1) (by omega)
  rw [Int.natCast_add,Int.natCast_one] at hn
  have hpc:=fy l i h1
  have hup:(cat (cY l) i).fCreateFirst=upF (cat l i) ((rcB l).getD i false):=by rw [hpc]; rfl
  refine ap ?_
  simp only [bW]
  rw [fo l i,fo (cY l) i]
  refine al (by omega) (ai false (ag (by omega) (ar (λ h=>ag (by omega) (ar (λ h2=>ag (by omega) (ab ?_)) (λ _=>ab rfl))) (λ _=>ab rfl))) (am (by simp) (ag (aF (by omega) (by omega)) hn)))
  rw [hup] at h
  have h3:(rcB l).getD i false=true:=by
   unfold upF at h
   split at h
   ·rename_i h'; simp at h'; simp [h'.1]
   ·rw [h] at h2; cases h2
  have h4:lat (rcB l) (i:Int)=true:=h3
  rw [h4]; rfl
end
theorem zT {l:List aa}(hb:∀ c∈l,aa.Bd c)(hw:l.length≤da):Ev2 (λ n _=>fL n l) (·=true):=by
 simp only [fL]
 refine dw _ (sZ l hw) (λ t ht=>ar (λ h=>ai true iu (ab rfl)) (λ h=>?_))
 have hl:=ht (by simpa using h)
 have hpl:=dm l
 refine ai _ (hQ hb hl) (al (by omega) (ag (by omega) ?_))
 rw [Int.toNat_natCast]
 refine ai _ (aH (f:=λ n m=>bX n l m 0 (List.replicate l.length false)) (Bw hb hl l.length 0 _ (by omega) (by simp) (λ k h=>absurd h (vB _ _)) (.inr (Nat.zero_le _)))) ?_
 exact dF () (aH (f:=λ _ m=>bW l (cY l) (rcB l) m 0) (Bu hl _ 0 (Nat.zero_add _))) (ai true iu (ab rfl))
end Go.Ab.R06
end
section
set_option linter.unusedVariables false
set_option linter.unusedSimpArgs false
set_option linter.unnecessarySimpa false
namespace Go.Ab.R06
open Go.Proofs Go.Ab Go.Ab.RB
theorem zn (qs:List PV)(h:WTa tt [22] qs):aB Tryz.prog 6 qs (·=.p (.val (.bool true))):=by
 match qs,h with
 | [a],⟨⟨n,h1,h2⟩,_⟩ =>
  obtain ⟨l,rfl,b1,b2⟩:=jW h1 h2
  obtain ⟨n,r,hr,rfl⟩:=tc (zT b2 b1)
  exact mi n l true hr
end Go.Ab.R06
end
section
set_option linter.unusedSimpArgs false
set_option linter.unnecessarySimpa false
namespace Go.Proofs.YtdhapbkkniegoaaGreatDoor.lifecycleLeast
open Go.ChangeShapes Go.WideShapes Go.ChangeAt Go.RowKit
set_option linter.unusedVariables false
theorem own:ownKnob Tryz.prog.godebug=none:=by kernel_rfl
theorem laid:laidOutB Tryz.prog=true:=by kernel_rfl
theorem mapped:mapsRowed Tryz.prog=true:=by kernel_rfl
theorem full:((List.range Tryz.prog.types.size).all λ t=>match Tryz.prog.underlying t with | some (.slice e)=>decide (0 < Tryz.prog.cellsOf e) | _=>true)=true:=by kernel_rfl
theorem rowed:(([22]:List Nat).all λ t=>decide (t < Tryz.prog.types.size))=true:=by kernel_rfl
theorem plain:([22,35,9,27,28,33,29,3,30,31,4]:List Nat).all (Go.Ab.iG Go.Ab.tt [22,35,9,27,28,33,29,3,30,31,4])=true:=by kernel_rfl
theorem closed:([22,35,9,27,28,33,29,3,30,31,4]:List Nat).all (elB Tryz.prog 512 [22,35,9,27,28,33,29,3,30,31,4])=true:=by kernel_rfl
theorem globs:Go.Ab.oO Tryz.prog Rows.lifecycleLeastUptoRow.laid=true:=by kernel_rfl
noncomputable def laidW0 (os:Os):World :=
  { World.doorLaid Tryz.prog 72 os with heap:=(World.doorLaid Tryz.prog 72 os).heap.modify 1 fun
      | .cells _ t frozen=>.cells (Go.Ab.sM.map Go.Ab.GC.val).toArray t frozen
      | o=>o }
noncomputable def laidW (os:Os):World:=laidW0 os
theorem laid_met (os:Os):laidMetH Tryz.prog Rows.lifecycleLeastUptoRow.laid ((laidW os).forCall (λ _ _=>0) ⟨#[],#[.slice none 0 0],[]⟩).memory :=
  laidMetH_of_parts3 (fuel:=8) (laidMet_of_run' 8 (by kernel_rfl) (by kernel_rfl)) (by kernel_rfl) (by kernel_rfl)
theorem reads (os:Os){H:Type}(enc:TypeId×Value→H):(DataW.whole enc Tryz.prog ((laidW os).forCall (λ _ _=>0) ⟨#[],#[.slice none 0 0],[]⟩).memory Tryz.f6.params.toList Rows.lifecycleLeastSpec.vars false #[.slice none 0 0].toList 8).isSome=true:=by kernel_rfl
set_option maxRecDepth 100000 in
theorem small (os:Os){H:Type}(enc:TypeId×Value→H):(DataW.whole enc Tryz.prog ((laidW os).forCall (λ _ _=>0) ⟨#[],#[.slice none 0 0],[]⟩).memory Tryz.f6.params.toList Rows.lifecycleLeastSpec.vars false #[.slice none 0 0].toList 8).map (λ x=>Rows.uptoSmall H (x.1++x.2.1))=some true:=by kernel_rfl
set_option maxRecDepth 100000 in
theorem lifted (os:Os)(started:os.Started)(H:Type)(enc:TypeId×Value→H)(F:Stop.Interp) :
    ReturnsInHanded {} Tryz.checked os 6 .any ((Rows.OpenSpec.upto Rows.lifecycleLeastSpec).preRow enc Tryz.prog Tryz.f6 Rows.lifecycleLeastUptoRow.domain false Rows.lifecycleLeastUptoRow.laid) (((Rows.OpenSpec.upto Rows.lifecycleLeastSpec).at F).post enc Tryz.prog Tryz.f6 false true false false):=by
  obtain ⟨x,hx⟩:=Option.isSome_iff_exists.1 (reads os enc)
  refine returnsInHanded_of_row (C:=Tryz.checked) (s:=Rows.OpenSpec.upto Rows.lifecycleLeastSpec) own started (by kernel_rfl) Tryz.func6
    (witness_row_atRef (enc:=enc) (C:=Tryz.checked) false (laidW os) #[.slice none 0 0] rfl (by kernel_rfl) (by kernel_rfl) (by kernel_rfl)
      (OpenSpec.preRow_of_cond 8 hx rfl (λ k hk=>by cases hk; have q:=small os (H:=H) enc; rw [hx] at q; exact Option.some.inj q) (by kernel_rfl) (laid_met os))) ?_
  intro W base args ds gs before hval0 hW _ hcond hsz0 hL hsh _
  have hk:Rows.uptoSmall H (ds++gs)=true:=hcond _ rfl
  rw [MakeChecks.laidMetH_plain _ _ _ (by kernel_rfl)] at hL
  have hgl:=Go.Ab.p6 globs hL hsh
  have hval:∀ (j:Nat) t v,Tryz.f6.params[j]? = some t→args[j]? = some v→Value.okWide Tryz.prog W .any base t v:=hval0
  have hW':=hW
  obtain ⟨p,q,hA0,hV,rfl,hfz,hnd⟩:=hW
  have hA:DataW.TrodAll enc Tryz.prog W 0 (λ _=>true) true Tryz.f6.params.toList args.toList ds p:=hA0
  have hsz:(DataW.weightsEach Tryz.prog (Tryz.f6.params.toList++Rows.lifecycleLeastSpec.plain.varTypes Tryz.prog) (ds++gs)).all (·≤reachBytes)=true:=hsz0
  rw [Tryz.params6] at hA hval hsz
  obtain ⟨rfl,rfl⟩:=trodVars_none hV
  rw [List.append_nil] at hk
  clear hA0 hval0 hV hsz0
  rw [List.append_nil] at hsz
  have hA2:DataW.TrodAll enc Tryz.prog W 0 (λ _=>true) true [22] args.toList ds p:=hA
  have hlt:∀ x∈p,x.block < W.heap.size:=λ x hx=>hW'.lt x (List.mem_append_left _ hx)
  obtain ⟨qs,g1,g2,g3⟩:=Go.Ab.kD Go.Ab.good plain (by decide) (λ j t v hj hv=>hval j t v (by simpa using hj) (by simpa using hv)) hA2 (λ w hw=>upto_w closed (ts:=[22]) (by decide) hk hw)
  have hds:∃ d0,ds=[d0]:=by
    obtain ⟨v0,vs0,d0,ds0,p0,q0,_,e0,_,_,r0⟩:=trodAll_cons hA2
    obtain ⟨_,z,_⟩:=trodAll_nil r0
    exact ⟨d0,by rw [e0,z]⟩
  obtain ⟨d0,rfl⟩:=hds
  refine (Go.Ab.grown_of (Go.Ab.R06.zn qs g3) W hgl (by simpa using g1.symm) (λ i c v hc hv=>g2 i c v hc (by simpa using hv))).mono λ e W' ⟨he,hg⟩=>?_
  subst he
  exact ⟨_,rfl,Go.Ab.ml (pa:=p) (pv:=[]) hW' (λ _ _ _=>(trodAll_cons_mk (shut_bool Tryz.underlying4 _) trodAll_mk0)) (λ sp hsp=>Go.Ab.mh laid mapped full hg rowed hlt hA2 sp (λ x hx=>hsp x (List.mem_append_left _ hx))) (λ _ _=>rfl) rfl
    hg (ok_one (by kernel_rfl) rfl (okWide_bool_mk Tryz.underlying4 _))⟩
theorem said:Rows.LifecycleLeastUptoSaid :=
  OpenClaim.holds_of_cond 6 Tryz.f6 rfl rfl rfl rfl rfl rfl rfl ⟨rfl,rfl,rfl,rfl,rfl⟩ rfl rfl rfl rfl rfl (by kernel_rfl) Tryz.func6 (by kernel_rfl)
    (of_decide_eq_true (by kernel_rfl)) (by unfold Func.isWrapper; first | (rw [if_pos (by decide +kernel)]; kernel_rfl) | (rw [if_neg (by decide +kernel)]; exact ⟨rfl,rfl⟩))
    (λ os started H enc _ F=>by rw [OpenClaim.pre_eq_preRow]; exact lifted os started H enc F)
theorem plainly (f:FuncId)(fn:Func)(hf:Tryz.pinned.checked.prog.funcNamed "provision/provisionlaw43.LifecycleLeast" = some f) (hfn:Tryz.pinned.checked.prog.funcs[f]? = some fn) :
    true=Tryz.pinned.checked.prog.looks []∧∀ (j:Nat) t,fn.params[j]? = some t→Tryz.pinned.checked.prog.wantsStandIn t=false:=by
  obtain rfl:f=6:=Option.some.inj ((show Tryz.prog.funcNamed "provision/provisionlaw43.LifecycleLeast" = some 6 by kernel_rfl).symm.trans hf) |>.symm
  obtain rfl:fn=Tryz.f6:=(Option.some.inj (Tryz.func6.symm.trans hfn)).symm
  refine ⟨by kernel_rfl,λ j t ht=>?_⟩
  rw [Tryz.params6] at ht
  have hm:t∈([22]:List Nat):=by have:=Array.mem_of_getElem? ht; simp at this ⊢; omega
  have hall:(([22]:List Nat).all λ u=>!Tryz.prog.wantsStandIn u)=true:=by kernel_rfl
  exact (show Tryz.prog.wantsStandIn t=false by simpa using List.all_eq_true.1 hall t hm)
theorem proved:Rows.LifecycleLeastUptoCardSaid :=
  Claim7.holds_tied_plain_at .later [] _ _ _ _ said (λ _ h=>by cases h) (by kernel_rfl) (λ _ h=>by cases h) lifecycleLeastUpto_row_tie rfl ⟨rfl,rfl⟩ (by kernel_rfl) rfl plainly (by kernel_rfl)
#print axioms proved
end Go.Proofs.YtdhapbkkniegoaaGreatDoor.lifecycleLeast
end
