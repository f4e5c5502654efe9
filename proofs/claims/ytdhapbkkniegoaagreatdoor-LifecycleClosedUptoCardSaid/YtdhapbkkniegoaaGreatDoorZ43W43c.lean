/- The statement LifecycleClosed is proved, and its tied card: for all inputs that are Go values of the law's parameters' types, the law returns true and never panics, where what it reads is of bulk at most 1048576 (the second form). No further condition. -/
import Derived.Test.YtdhapbkkniegoaaGreatDoorCards
import Derived.Test.YtdhapbkkniegoaaGreatDoorTie
import Derived.WalkKit
import Derived.SizedLaws
import Derived.ProofKit
import Derived.OpenShut
import Derived.ShutString
import Derived.LaidMore
import Derived.Stop.Joined
import Derived.Deep.DeepHandedRow
import Derived.Deep.DeepWitnessRowRef
import Derived.Test.YtdhapbkkniegoaaGreatDoorZ43a
import Derived.Test.YtdhapbkkniegoaaGreatDoorZ43b
import Derived.Test.YtdhapbkkniegoaaGreatDoorZ43c
import Derived.Test.YtdhapbkkniegoaaGreatDoorZ43d
import Derived.Test.YtdhapbkkniegoaaGreatDoorZ43e
import Derived.Test.YtdhapbkkniegoaaGreatDoorZ43f
section
set_option linter.unusedVariables false
set_option linter.unusedSimpArgs false
set_option linter.unnecessarySimpa false
namespace Go.Ab.R06
open Go.Proofs Go.Ab Go.Ab.RB
attribute [local irreducible] awp gO aY aB cD AV.sub M dh
def dK (n:Nat)(p_0:List aa)(todo178:List Int):Nat→(List Int)→Int→(List Bool)→Option (((List Int)×(List Bool))⊕(Unit⊕(Unit⊕(Unit⊕Bool))))
 | 0,_,_,_=>none
 | m+1,todo205,j206,l207 =>
 if j206 < (p_0.length:Int) then
  jn (
    (
      ck ((0:Int)≤j206∧j206 < (l207.length:Int)) <|
      if (!(lat l207 j206))=true then
       ck ((0:Int)≤lat todo178 0∧lat todo178 0 < (p_0.length:Int)) <|
       ck ((0:Int)≤j206∧j206 < (p_0.length:Int)) <|
       (fQ n (lat p_0 (lat todo178 0)) (lat p_0 j206)).bind λ r213 =>
       some r213
      else
       some false
     : Option Bool).bind λ t215 =>
    if t215=true then
     ck ((0:Int)≤j206∧j206 < (l207.length:Int)) <|
     ck ((todo205.length+[j206].length)*8≤140737488355328) <|
     (
       ck ((0:Int)≤j206∧j206 < (p_0.length:Int)) <|
       if (lat p_0 j206).fAction=3 then
        ck ((0:Int)≤j206∧j206 < (p_0.length:Int)) <|
        some (!((lat p_0 j206).fCreateFirst))
       else
        some false
      : Option Bool).bind λ t222 =>
     if t222=true then
      some (.inr (.inr (.inr (.inr (.inr false)))))
     else
      some (.inl (todo205++[j206],l207.set j206.toNat true))
    else
     some (.inl (todo205,l207))
   : Option (((List Int)×(List Bool))⊕(((List Int)×(List Bool))⊕(Unit⊕(Unit⊕(Unit⊕Bool)))))) λ q240 =>
  ck (inR (j206+1)) <|
  dK n p_0 todo178 m q240.1 (j206+1) q240.2
 else
  some (.inl (todo205,l207))
def dk (n:Nat)(p_0:List aa):Nat→(List Int)→(List Bool)→Option (Unit⊕(Unit⊕(Unit⊕Bool)))
 | 0,_,_=>none
 | m+1,todo178,l179 =>
 if 0 < (todo178.length:Int) then
  ck ((0:Int)≤0∧0 < (todo178.length:Int)) <|
  ck ((0:Int)≤1∧1≤(todo178.length:Int)) <|
  jn (dK n p_0 todo178 n (todo178.drop (1:Int).toNat) 0 l179) λ q239 =>
  dk n p_0 m q239.1 q239.2
 else
  some (.inl ())
def dJ (n:Nat)(p_0:List aa):Nat→Int→Option (Unit⊕Bool)
 | 0,_=>none
 | m+1,i117 =>
 if i117 < (p_0.length:Int) then
  jn (
    ck ((0:Int)≤i117∧i117 < (p_0.length:Int)) <|
    (iW (lat p_0 i117)).bind λ r120 =>
    if (!r120)=true then
     some (.inl ())
    else
     ck ((0:Int)≤(p_0.length:Int)∧(p_0.length:Int)≤9223372036854775807∧(1:Int)*(p_0.length:Int)≤281474976710656) <|
     jn (dk n p_0 n [i117] (List.replicate (p_0.length:Int).toNat (false:Bool))) λ q238 =>
     some (.inl ())
   : Option (Unit⊕(Unit⊕Bool))) λ q237 =>
  ck (inR (i117+1)) <|
  dJ n p_0 m (i117+1)
 else
  some (.inl ())
def jm (n:Nat)(p_0:List aa):Option Bool :=
 jn (dJ n p_0 n 0) λ q236 =>
 some true
set_option maxHeartbeats 4000000 in
theorem rH (n:Nat)(p_0:List aa)(r:Bool)(h0:jm n p_0=some r):aB Tryz.prog 17 [eL ac p_0] (·=.p (eB r)):=by
 unfold jm at h0
 refine aU good Tryz.func17 rfl rfl rfl λ w0=>mP (λ v:Bool=>.p (eB v)) ?_
 refine nx 10 rfl ?_
 obtain ⟨o243,h1,hL0,hR0⟩:=cU h0
 refine kEx 0 (λ v244:Unit=>o243=.inl v244) (λ v244=>⟨[],[]⟩) (λ v244 hv=>?_) ?_
 ·have h0:=hL0 _ hv
  exact nx 6 rfl (mQ (oi h0) rfl (sr))
 refine lG (λ (q245:Int)=>⟨[(0,.p (eL ac p_0)),(3,.p (eI q245))],[]⟩) (λ m (q245:Int)=>dJ n p_0 m q245) (λ _=>rfl) 0 h1 (gE rfl rfl) ?_
 rintro m i117 h1
 replace h1:dJ n p_0 (m+1) i117=some o243:=h1
 rw [dJ] at h1
 refine nx 5 rfl (oLl (f:=ac) rfl rfl ?_)
 refine nx 2 rfl (fD [11] h1 rfl (λ c118 h1=>?_) λ c118 h1=>?_)
 ·refine nx 3 rfl ?_
  obtain ⟨o246,h2,hL1,hR1⟩:=cU h1
  refine kX (λ v247:Unit=>o246=.inl v247) (λ v247=>⟨[(0,.p (eL ac p_0)),(3,.p (eI i117))],[]⟩) (λ v247 hv=>?_) ?_
  ·have h1:=hL1 _ hv
   refine nx 3 rfl (oA h1 rfl rfl λ hk234 h1=>?_)
   exact nx 2 rfl (eX (i117+1) h1 (gE rfl rfl))
  refine nx 6 rfl (oE h2 aa.cells_eq rfl rfl (λ _=>rfl) λ hk119 h2=>?_)
  refine nx 1 rfl (bd h2 λ r120 e121 h2=>?_)
  refine oK (jh (lat p_0 i117) _ e121) rfl ⟨sr,trivial⟩ Tryz.call18 rfl (nx 2 rfl ?_)
  refine fB [19] h2 rfl (λ c122 h2=>?_) λ c122 h2=>?_
  ·exact nx 2 rfl (eX _ (oi h2).symm (gE rfl rfl))
  refine nx 5 rfl (oLl (f:=ac) rfl rfl ?_)
  refine cc' h2 λ hk123 h2=>mO rfl (sd eB (false:Bool) rfl rfl rfl rfl rfl rfl rfl rfl rfl rfl rfl hk123 ?_)
  refine nx 5 rfl ?_
  skip; refine mO rfl (xy eI [i117] rfl rfl rfl rfl rfl rfl rfl rfl rfl rfl rfl rfl rfl rfl rfl rfl (by repeat (first | exact rfl | apply yA rfl | apply dmO_drop rfl | apply dmO_one rfl rfl)) ?_)
  refine nx 3 rfl ?_
  obtain ⟨o248,h3,hL2,hR2⟩:=cU h2
  refine kEx 2 (λ v249:Unit=>o248=.inl v249) (λ v249=>⟨[(0,.p (eL ac p_0)),(3,.p (eI i117))],[]⟩) (λ v249 hv=>?_) ?_
  ·have h2:=hL2 _ hv
   exact nx 1 rfl (eX _ (oi h2).symm (gE rfl rfl))
  refine lG (λ (q250:(List Int)×(List Bool))=>⟨[(0,.p (eL ac p_0)),(3,.p (eI i117)),(4,.arr 22 1 0 q250.2.length),(5,.vec 61 1 0 (q250.1.map eI))],[(22,(q250.2.map eB).map .p)]⟩) (λ m (q250:(List Int)×(List Bool))=>dk n p_0 m q250.1 q250.2) (λ _=>rfl) ([i117],List.replicate (p_0.length:Int).toNat (false:Bool)) h3 (br (cn 24 61 rfl rfl rfl rfl (by repeat (first | exact rfl | exact ia rfl (hG _) rfl | refine ia rfl (hG _) ?_ | refine ia rfl rfl ?_))) (aI (cb ⟨er rfl,er rfl,⟨_,rfl,AV.sub_of_eq (by first | rfl | (simp; done) | (simp [AV.dem]; rfl))⟩,er rfl,trivial⟩ ⟨⟨_,rfl,aG _⟩,trivial⟩))) ?_
  rintro m ⟨todo178,l179⟩ h3
  replace h3:dk n p_0 (m+1) todo178 l179=some o248:=h3
  rw [dk] at h3
  refine nx 4 rfl (oLl (f:=eI) rfl rfl ?_)
  refine nx 2 rfl (fD [27] h3 rfl (λ c180 h3=>?_) λ c180 h3=>?_)
  ·refine nx 6 rfl (oE h3 (λ _=>rfl) rfl rfl (λ _=>rfl) λ hk181 h3=>?_)
   refine nx 6 rfl (cc' h3 λ hk182 h3=>?_)
   refine mO rfl (vS eI todo178 rfl rfl rfl rfl rfl rfl rfl rfl hk182 rfl ?_)
   refine nx 7 rfl ?_
   obtain ⟨o251,h4,hL3,hR3⟩:=cU h3
   refine kEx 4 (λ v252:(List Int)×(List Bool)=>o251=.inl v252) (λ v252=>⟨[(0,.p (eL ac p_0)),(3,.p (eI i117)),(4,.arr 22 1 0 v252.2.length),(5,.vec 61 1 0 (v252.1.map eI))],[(22,(v252.2.map eB).map .p)]⟩) (λ v252 hv=>?_) ?_
   ·have h3:=hL3 _ hv
    exact nx 1 rfl (eX (v252.1,v252.2) h3 (aI (cb ⟨er rfl,er rfl,⟨_,rfl,AV.sub_of_eq (by first | rfl | (simp; done) | (simp [AV.dem]; rfl))⟩,er rfl,trivial⟩ ⟨⟨_,rfl,aG _⟩,trivial⟩)))
   refine lG (λ (q253:(List Int)×Int×(List Bool))=>⟨[(0,.p (eL ac p_0)),(3,.p (eI i117)),(4,.arr 22 1 0 q253.2.2.length),(5,.vec 61 1 0 (q253.1.map eI)),(6,.p (eI (lat todo178 0))),(7,.p (eI q253.2.1))],[(22,(q253.2.2.map eB).map .p)]⟩) (λ m (q253:(List Int)×Int×(List Bool))=>dK n p_0 todo178 m q253.1 q253.2.1 q253.2.2) (λ _=>rfl) (todo178.drop (1:Int).toNat,0,l179) h4 (aI (cb ⟨er rfl,er rfl,⟨_,rfl,AV.sub_of_eq (by first | rfl | (simp; done) | (simp [AV.dem]; rfl))⟩,er rfl,er rfl,er rfl,trivial⟩ ⟨⟨_,rfl,aG _⟩,trivial⟩)) ?_
   rintro m ⟨todo205,j206,l207⟩ h4
   replace h4:dK n p_0 todo178 (m+1) todo205 j206 l207=some o251:=h4
   rw [dK] at h4
   refine nx 5 rfl (oLl (f:=ac) rfl rfl ?_)
   refine nx 2 rfl (fD [36] h4 rfl (λ c208 h4=>?_) λ c208 h4=>?_)
   ·refine nx 3 rfl ?_
    obtain ⟨o254,h5,hL4,hR4⟩:=cU h4
    refine kX (λ v255:(List Int)×(List Bool)=>o254=.inl v255) (λ v255=>⟨[(0,.p (eL ac p_0)),(3,.p (eI i117)),(4,.arr 22 1 0 v255.2.length),(5,.vec 61 1 0 (v255.1.map eI)),(6,.p (eI (lat todo178 0))),(7,.p (eI j206))],[(22,(v255.2.map eB).map .p)]⟩) (λ v255 hv=>?_) ?_
    ·have h4:=hL4 _ hv
     refine nx 3 rfl (oA h4 rfl rfl λ hk226 h4=>?_)
     exact nx 2 rfl (eX (v255.1,j206+1,v255.2) h4 (aI (cb ⟨er rfl,er rfl,⟨_,rfl,AV.sub_of_eq (by first | rfl | (simp; done) | (simp [AV.dem]; rfl))⟩,er rfl,er rfl,er rfl,trivial⟩ ⟨⟨_,rfl,aG _⟩,trivial⟩)))
    refine nx 2 rfl (bd h5 λ o256 h6 h5=>?_)
    refine kN o256 (λ v257=>⟨[(0,.p (eL ac p_0)),(3,.p (eI i117)),(4,.arr 22 1 0 l207.length),(5,.vec 61 1 0 (todo205.map eI)),(6,.p (eI (lat todo178 0))),(7,.p (eI j206)),(54,.p (eB v257))],[(22,(l207.map eB).map .p)]⟩) ?_ ?_
    ·refine nx 1 rfl (fB [54] h5 rfl (λ c216 h5=>?_) λ c216 h5=>?_)
     ·refine nx 5 rfl (cc' h5 λ hk217 h5=>?_)
      refine mO rfl (bT rfl rfl rfl rfl rfl rfl rfl rfl rfl hk217 ?_)
      refine mO rfl (oN (f:=eB) (l:=l207) (b:=true) rfl rfl rfl rfl rfl rfl rfl rfl (by have:=hk217; omega) ?_)
      refine nx 5 rfl (mO rfl (bS eI [j206] rfl rfl rfl rfl rfl rfl rfl rfl rfl rfl rfl rfl rfl rfl ?_))
      refine cc' h5 λ hk218 h5=>mO rfl (fp eI todo205 [j206] rfl rfl rfl rfl rfl rfl rfl rfl rfl rfl rfl rfl rfl (λ _=>rfl) rfl rfl rfl rfl hk218 ?_)
      refine mG (BM (show ry _ _=_ from (by repeat (first | exact uC _ | apply demOb_drop rfl | apply nb rfl (xE _ _) | apply nb rfl rfl)))) (nx 3 rfl ?_)
      refine bd h5 λ o258 h6 h5=>kN o258 (λ v259=>⟨[(0,.p (eL ac p_0)),(3,.p (eI i117)),(4,.arr 22 1 0 ((l207.set j206.toNat true).length)),(5,.vec 61 1 0 ((todo205++[j206]).map eI)),(6,.p (eI (lat todo178 0))),(7,.p (eI j206)),(75,.p (eB v259))],[(22,((l207.set j206.toNat true).map eB).map .p)]⟩) ?_ ?_
      ·refine nx 1 rfl (fB [75] h5 rfl (λ c223 h5=>?_) λ c223 h5=>?_)
       ·exact nx 6 rfl (mQ (hR0 _ (hR1 _ (hR2 _ (hR3 _ (hR4 _ (oi h5).symm).symm).symm).symm).symm) rfl (sr))
       exact nx 2 rfl (eX _ (oi h5).symm (aI (cb ⟨er rfl,er rfl,⟨_,rfl,AV.sub_of_eq (by first | rfl | (simp; done) | (simp [AV.dem]; rfl))⟩,er rfl,er rfl,er rfl,trivial⟩ ⟨⟨_,rfl,aG _⟩,trivial⟩)))
      refine nx 3 rfl (oE h6 aa.cells_eq rfl rfl (λ _=>rfl) λ hk219 h6=>?_)
      refine nx 4 rfl (fD [67,68] h6 rfl (λ c220 h6=>?_) λ c220 h6=>?_)
      ·refine nx 2 rfl (oE h6 aa.cells_eq rfl rfl (λ _=>rfl) λ hk221 h6=>?_)
       exact nx 5 rfl (eX _ (oi h6).symm (aI (cb ⟨er rfl,er rfl,⟨_,rfl,AV.sub_of_eq (by first | rfl | (simp; done) | (simp [AV.dem]; rfl))⟩,er rfl,er rfl,er rfl,er rfl,trivial⟩ ⟨⟨_,rfl,aG _⟩,trivial⟩)))
      exact nx 8 rfl (eX _ (oi h6).symm (aI (cb ⟨er rfl,er rfl,⟨_,rfl,AV.sub_of_eq (by first | rfl | (simp; done) | (simp [AV.dem]; rfl))⟩,er rfl,er rfl,er rfl,er rfl,trivial⟩ ⟨⟨_,rfl,aG _⟩,trivial⟩)))
     exact nx 2 rfl (eX _ (oi h5).symm (aI (cb ⟨er rfl,er rfl,⟨_,rfl,AV.sub_of_eq (by first | rfl | (simp; done) | (simp [AV.dem]; rfl))⟩,er rfl,er rfl,er rfl,trivial⟩ ⟨⟨_,rfl,aG _⟩,trivial⟩)))
    refine cc' h6 λ hk209 h6=>fB (p:=!(lat l207 j206)) [] h6 rfl (λ c210 h6=>?_) λ c210 h6=>?_
    ·refine cc' h6 λ hk211 h6=>cc' h6 λ hk212 h6=>bd h6 λ r213 e214 h6=>mD [(0,.p (eL ac p_0)),(3,.p (eI i117)),(4,.arr 22 1 0 l207.length),(5,.vec 61 1 0 (todo205.map eI)),(6,.p (eI (lat todo178 0))),(7,.p (eI j206))] rfl ⟨rfl,rfl,rfl,rfl,rfl,rfl,trivial⟩ rfl (dR 2 rfl ?_)
     refine dq (.ptr 22 j206.toNat) [39,40] rfl (λ _ e _ q=>af rfl (bT rfl rfl rfl rfl rfl rfl (e _ _ rfl) (e _ _ rfl) rfl hk209 q)) rfl (dq (.p (eB (lat l207 j206))) [41] rfl (λ _ e _ q=>af rfl (ge (default:Bool) (f:=eB) (l:=l207) rfl rfl rfl rfl rfl (e _ _ rfl) rfl (by have:=hk209; omega) q)) rfl ?_)
     refine dL (c210) rfl (dR 3 rfl ?_)
     refine dq (.rptr (aa.cs (lat p_0 (lat todo178 0)))) [44,45,46] rfl (λ _ e _ q=>aA (bf (f:=ac) (l:=p_0) aa.cs rfl rfl rfl rfl rfl rfl (e _ _ rfl) rfl (e _ _ rfl) hk211 aa.cells_eq (λ _=>rfl) q) rfl rfl (e _ _ rfl) (rfl)) rfl (dR 3 rfl ?_)
     refine dq (.rptr (aa.cs (lat p_0 j206))) [44,49,50] rfl (λ _ e _ q=>aA (bf (f:=ac) (l:=p_0) aa.cs rfl rfl rfl rfl rfl rfl (e _ _ rfl) rfl (e _ _ rfl) hk212 aa.cells_eq (λ _=>rfl) q) rfl rfl (e _ _ rfl) (rfl)) rfl (dR 1 rfl ?_)
     refine dq (.p (eB r213)) [44,48,52] rfl (λ _ e _ q=>aA (aJ (jG _ (lat p_0 (lat todo178 0)) (lat p_0 j206) _ e214) rfl rfl rfl (au (e _ _ rfl) (au (e _ _ rfl) aK)) ⟨sr,sr,trivial⟩ Tryz.call19 rfl q) rfl rfl (e _ _ rfl) (rfl)) rfl (dR 1 rfl ?_)
     refine dE rfl (nx 1 rfl ?_)
     exact eX _ (oi h6).symm (gE rfl rfl)
    refine mD [(0,.p (eL ac p_0)),(3,.p (eI i117)),(4,.arr 22 1 0 l207.length),(5,.vec 61 1 0 (todo205.map eI)),(6,.p (eI (lat todo178 0))),(7,.p (eI j206))] rfl ⟨rfl,rfl,rfl,rfl,rfl,rfl,trivial⟩ rfl (dR 2 rfl ?_)
    refine dq (.ptr 22 j206.toNat) [39,40] rfl (λ _ e _ q=>af rfl (bT rfl rfl rfl rfl rfl rfl (e _ _ rfl) (e _ _ rfl) rfl hk209 q)) rfl (dq (.p (eB (lat l207 j206))) [41] rfl (λ _ e _ q=>af rfl (ge (default:Bool) (f:=eB) (l:=l207) rfl rfl rfl rfl rfl (e _ _ rfl) rfl (by have:=hk209; omega) q)) rfl ?_)
    refine dL (c210) rfl (dR 11 rfl ?_)
    refine dE rfl (nx 1 rfl ?_)
    exact eX _ (oi h6).symm (gE rfl rfl)
   exact nx 2 rfl (eXi _ (oi h4).symm (aI (cb ⟨er rfl,er rfl,⟨_,rfl,AV.sub_of_eq (by first | rfl | (simp; done) | (simp [AV.dem]; rfl))⟩,er rfl,trivial⟩ ⟨⟨_,rfl,aG _⟩,trivial⟩)))
  exact nx 2 rfl (eXi _ (oi h3).symm (gE rfl rfl))
 exact nx 2 rfl (eXi _ (oi h1).symm (gE rfl rfl))
def bQ (n:Nat)(l_0:List aa)(r6:(List aa))(r8:(List aa)):Nat→Int→Option (Unit⊕Bool)
 | 0,_=>none
 | m+1,i45 =>
 if i45 < (l_0.length:Int) then
  ck ((0:Int)≤i45∧i45 < (l_0.length:Int)) <|
  ck ((0:Int)≤i45∧i45 < (r6.length:Int)) <|
  (
    ck ((0:Int)≤i45∧i45 < (r6.length:Int)) <|
    ck ((0:Int)≤i45∧i45 < (r8.length:Int)) <|
    (gj n (lat r6 i45) (lat r8 i45)).bind λ r51 =>
    if (!r51)=true then
     some true
    else
     ck ((0:Int)≤i45∧i45 < (r6.length:Int)) <|
     (gj n (aa.mk ((lat l_0 i45).fAddr) ((lat l_0 i45).fDeposed) ((lat l_0 i45).fType) ((lat l_0 i45).fAction) ((lat l_0 i45).fReason) ((lat l_0 i45).fBefore) ((lat l_0 i45).fAfter) ((lat l_0 i45).fID) ((lat l_0 i45).fReplace) ((lat r6 i45).fCreateFirst) ((lat l_0 i45).fProtect) ((lat l_0 i45).fImport) ((lat l_0 i45).fDeps) ((lat l_0 i45).fOldDeps)) (lat r6 i45)).bind λ r55 =>
     if (!r55)=true then
      some true
     else
      ck ((0:Int)≤i45∧i45 < (l_0.length:Int)) <|
      if ((lat l_0 i45).fCreateFirst)=true then
       ck ((0:Int)≤i45∧i45 < (r6.length:Int)) <|
       if (!((lat r6 i45).fCreateFirst))=true then
        some true
       else
        ck ((0:Int)≤i45∧i45 < (l_0.length:Int)) <|
        if (!true)=true then
         ck ((0:Int)≤i45∧i45 < (r6.length:Int)) <|
         if ((lat r6 i45).fCreateFirst)=true then
          some true
         else
          if (!false)=true then
           some true
          else
           ck ((0:Int)≤i45∧i45 < (l_0.length:Int)) <|
           ck ((0:Int)≤i45∧i45 < (r6.length:Int)) <|
           some false
        else
         some false
      else
       ck ((0:Int)≤i45∧i45 < (l_0.length:Int)) <|
       if (!false)=true then
        ck ((0:Int)≤i45∧i45 < (r6.length:Int)) <|
        if ((lat r6 i45).fCreateFirst)=true then
         ck ((0:Int)≤i45∧i45 < (l_0.length:Int)) <|
         some (!decide ((lat l_0 i45).fAction=3))
        else
         some false
       else
        some false
   : Option Bool).bind λ t74 =>
  if t74=true then
   some (.inr false)
  else
   ck (inR (i45+1)) <|
   bQ n l_0 r6 r8 m (i45+1)
 else
  some (.inl ())
def fm (n:Nat)(l_0:List aa):Option Bool :=
 (hH n l_0).bind λ r1 =>
 if (!r1)=true then
  (cF n).bind λ r4 =>
  some r4
 else
  (bo n l_0).bind λ r6 =>
  (bo n r6).bind λ r8 =>
  (
    if (r6.length:Int)=(l_0.length:Int) then
     some (!decide ((r8.length:Int)=(l_0.length:Int)))
    else
     some true
   : Option Bool).bind λ t11 =>
  if t11=true then
   some false
  else
   jn (bQ n l_0 r6 r8 n 0) λ q85 =>
   (
     (jm n r6).bind λ r78 =>
     if r78=true then
      (cF n).bind λ r81 =>
      some r81
     else
      some false
    : Option Bool).bind λ t83 =>
   some t83
set_option maxHeartbeats 4000000 in
theorem lO (n:Nat)(l_0:List aa)(r:Bool)(h0:fm n l_0=some r):aB Tryz.prog 5 [eL ac l_0] (·=.p (eB r)):=by
 unfold fm at h0
 refine aU good Tryz.func5 rfl rfl rfl λ w0=>mP (λ v:Bool=>.p (eB v)) ?_
 refine nx 8 rfl (bd h0 λ r1 e2 h0=>?_)
 refine oK (ju _ l_0 _ e2) rfl ⟨sr,trivial⟩ Tryz.call8 rfl (nx 2 rfl ?_)
 refine fB [9] h0 rfl (λ c3 h0=>?_) λ c3 h0=>?_
 ·refine nx 3 rfl (bd h0 λ r4 e5 h0=>?_)
  refine oK (dG _  _ e5) rfl trivial Tryz.call9 rfl (nx 3 rfl ?_)
  exact mQ (oi h0) rfl (sr)
 refine nx 5 rfl (bd h0 λ r6 e7 h0=>?_)
 refine oK (cH _ l_0 _ e7) rfl ⟨sr,trivial⟩ Tryz.call10 rfl (nx 5 rfl ?_)
 refine bd h0 λ r8 e9 h0=>oK (cH _ r6 _ e9) rfl ⟨sr,trivial⟩ Tryz.call10 rfl (nx 4 rfl ?_)
 refine bd h0 λ o88 h1 h0=>kN o88 (λ v89=>⟨[(0,.p (eL ac l_0)),(3,.p (eL ac r6)),(4,.p (eL ac r8)),(26,.p (eB v89))],[]⟩) ?_ ?_
 ·refine nx 1 rfl (fB [26] h0 rfl (λ c12 h0=>?_) λ c12 h0=>?_)
  ·exact nx 6 rfl (mQ (oi h0) rfl (sr))
  refine nx 8 rfl ?_
  obtain ⟨o90,h1,hL0,hR0⟩:=cU h0
  refine kEx 0 (λ v91:Unit=>o90=.inl v91) (λ v91=>⟨[(3,.p (eL ac r6))],[]⟩) (λ v91 hv=>?_) ?_
  ·have h0:=hL0 _ hv
   refine nx 2 rfl (bd h0 λ o92 h1 h0=>?_)
   refine kN o92 (λ v93=>⟨[(2,.p (eB v93))],[]⟩) ?_ ?_
   ·exact nx 2 rfl (mQ (oi h0) rfl (sr))
   refine nx 2 rfl (bd h1 λ r78 e79 h1=>?_)
   refine oK (rH _ r6 _ e79) rfl ⟨sr,trivial⟩ Tryz.call17 rfl (nx 1 rfl ?_)
   refine fB [101,102] h1 rfl (λ c80 h1=>?_) λ c80 h1=>?_
   ·refine bd h1 λ r81 e82 h1=>oK (dG _  _ e82) rfl trivial Tryz.call9 rfl (nx 3 rfl ?_)
    exact eX _ (oi h1).symm (gE rfl rfl)
   exact nx 4 rfl (eX _ (oi h1).symm (gE rfl rfl))
  refine lG (λ (q94:Int)=>⟨[(0,.p (eL ac l_0)),(3,.p (eL ac r6)),(4,.p (eL ac r8)),(5,.p (eI q94))],[]⟩) (λ m (q94:Int)=>bQ n l_0 r6 r8 m q94) (λ _=>rfl) 0 h1 (gE rfl rfl) ?_
  rintro m i45 h1
  replace h1:bQ n l_0 r6 r8 (m+1) i45=some o90:=h1
  rw [bQ] at h1
  refine nx 5 rfl (oLl (f:=ac) rfl rfl ?_)
  refine nx 2 rfl (fD [30] h1 rfl (λ c46 h1=>?_) λ c46 h1=>?_)
  ·refine nx 8 rfl (oE h1 aa.cells_eq rfl rfl (λ _=>rfl) λ hk47 h1=>?_)
   refine nx 8 rfl (oE h1 aa.cells_eq rfl rfl (λ _=>rfl) λ hk48 h1=>?_)
   refine nx 6 rfl (bd h1 λ o95 h2 h1=>?_)
   refine kN o95 (λ v96=>⟨[(0,.p (eL ac l_0)),(3,.p (eL ac r6)),(4,.p (eL ac r8)),(5,.p (eI i45)),(99,.p (eB v96))],[]⟩) ?_ ?_
   ·refine nx 1 rfl (fB [99] h1 rfl (λ c75 h1=>?_) λ c75 h1=>?_)
    ·exact nx 6 rfl (mQ (hR0 _ (oi h1).symm) rfl (sr))
    refine nx 4 rfl (oA h1 rfl rfl λ hk76 h1=>?_)
    exact nx 2 rfl (eX (i45+1) h1 (gE rfl rfl))
   refine cc' h2 λ hk49 h2=>cc' h2 λ hk50 h2=>bd h2 λ r51 e52 h2=>fB (p:=!r51) [] h2 rfl (λ c53 h2=>?_) λ c53 h2=>?_
   ·refine mD [(0,.p (eL ac l_0)),(3,.p (eL ac r6)),(4,.p (eL ac r8)),(5,.p (eI i45)),(6,.ptr 6 0)] rfl ⟨rfl,rfl,rfl,rfl,rfl,trivial⟩ rfl (dR 2 rfl ?_)
    refine dq (.rptr (aa.cs (lat r6 i45))) [43,44] rfl (λ _ e _ q=>af rfl (bf (f:=ac) (l:=r6) aa.cs rfl rfl rfl rfl rfl rfl (e _ _ rfl) rfl (e _ _ rfl) hk49 aa.cells_eq (λ _=>rfl) q)) rfl (dR 3 rfl ?_)
    refine dq (.rptr (aa.cs (lat r8 i45))) [47,48] rfl (λ _ e _ q=>af rfl (bf (f:=ac) (l:=r8) aa.cs rfl rfl rfl rfl rfl rfl (e _ _ rfl) rfl (e _ _ rfl) hk50 aa.cells_eq (λ _=>rfl) q)) rfl (dR 1 rfl ?_)
    refine dq (.p (eB r51)) [46,50] rfl (λ _ e _ q=>af rfl (aJ (bi _ (lat r6 i45) (lat r8 i45) _ e52) rfl rfl rfl (au (e _ _ rfl) (au (e _ _ rfl) aK)) ⟨sr,sr,trivial⟩ Tryz.call12 rfl q)) rfl (dL (c53) rfl ?_)
    refine dR 47 rfl (dE rfl ?_)
    exact nx 1 rfl (eX _ (oi h2).symm (gE rfl rfl))
   refine cc' h2 λ hk54 h2=>bd h2 λ r55 e56 h2=>fB (p:=!r55) [] h2 rfl (λ c57 h2=>?_) λ c57 h2=>?_
   ·refine mD [(0,.p (eL ac l_0)),(3,.p (eL ac r6)),(4,.p (eL ac r8)),(5,.p (eI i45)),(6,.ptr 6 0)] rfl ⟨rfl,rfl,rfl,rfl,rfl,trivial⟩ rfl (dR 2 rfl ?_)
    refine dq (.rptr (aa.cs (lat r6 i45))) [43,44] rfl (λ _ e _ q=>af rfl (bf (f:=ac) (l:=r6) aa.cs rfl rfl rfl rfl rfl rfl (e _ _ rfl) rfl (e _ _ rfl) hk49 aa.cells_eq (λ _=>rfl) q)) rfl (dR 3 rfl ?_)
    refine dq (.rptr (aa.cs (lat r8 i45))) [47,48] rfl (λ _ e _ q=>af rfl (bf (f:=ac) (l:=r8) aa.cs rfl rfl rfl rfl rfl rfl (e _ _ rfl) rfl (e _ _ rfl) hk50 aa.cells_eq (λ _=>rfl) q)) rfl (dR 1 rfl ?_)
    refine dq (.p (eB r51)) [46,50] rfl (λ _ e _ q=>af rfl (aJ (bi _ (lat r6 i45) (lat r8 i45) _ e52) rfl rfl rfl (au (e _ _ rfl) (au (e _ _ rfl) aK)) ⟨sr,sr,trivial⟩ Tryz.call12 rfl q)) rfl (dL (c53) rfl ?_)
    refine dR 4 rfl (dq (.rptr (aa.cs (lat r6 i45))) [53,55,56] rfl (λ _ e _ q=>aA (bf (f:=ac) (l:=r6) aa.cs rfl rfl rfl rfl rfl rfl (e _ _ rfl) rfl (e _ _ rfl) hk54 aa.cells_eq (λ _=>rfl) q) rfl rfl (e _ _ rfl) (rfl)) rfl ?_)
    refine dR 1 rfl (dq (.p (eB r55)) [53,54,58] rfl (λ _ e _ q=>aA (aJ (bi _ (aa.mk ((lat l_0 i45).fAddr) ((lat l_0 i45).fDeposed) ((lat l_0 i45).fType) ((lat l_0 i45).fAction) ((lat l_0 i45).fReason) ((lat l_0 i45).fBefore) ((lat l_0 i45).fAfter) ((lat l_0 i45).fID) ((lat l_0 i45).fReplace) ((lat r6 i45).fCreateFirst) ((lat l_0 i45).fProtect) ((lat l_0 i45).fImport) ((lat l_0 i45).fDeps) ((lat l_0 i45).fOldDeps)) (lat r6 i45) _ e56) rfl rfl rfl (au (e _ _ rfl) (au (e _ _ rfl) aK)) ⟨sr,sr,trivial⟩ Tryz.call12 rfl q) rfl rfl (e _ _ rfl) (rfl)) rfl ?_)
    refine dL (c57) rfl (dR 39 rfl ?_)
    refine dE rfl (nx 1 rfl ?_)
    exact eX _ (oi h2).symm (gE rfl rfl)
   refine cc' h2 λ hk58 h2=>fB (p:=(lat l_0 i45).fCreateFirst) [] h2 rfl (λ c59 h2=>?_) λ c59 h2=>?_
   ·refine cc' h2 λ hk60 h2=>fB (p:=!((lat r6 i45).fCreateFirst)) [] h2 rfl (λ c61 h2=>?_) λ c61 h2=>?_
    ·refine mD [(0,.p (eL ac l_0)),(3,.p (eL ac r6)),(4,.p (eL ac r8)),(5,.p (eI i45)),(6,.ptr 6 0)] rfl ⟨rfl,rfl,rfl,rfl,rfl,trivial⟩ rfl (dR 2 rfl ?_)
     refine dq (.rptr (aa.cs (lat r6 i45))) [43,44] rfl (λ _ e _ q=>af rfl (bf (f:=ac) (l:=r6) aa.cs rfl rfl rfl rfl rfl rfl (e _ _ rfl) rfl (e _ _ rfl) hk49 aa.cells_eq (λ _=>rfl) q)) rfl (dR 3 rfl ?_)
     refine dq (.rptr (aa.cs (lat r8 i45))) [47,48] rfl (λ _ e _ q=>af rfl (bf (f:=ac) (l:=r8) aa.cs rfl rfl rfl rfl rfl rfl (e _ _ rfl) rfl (e _ _ rfl) hk50 aa.cells_eq (λ _=>rfl) q)) rfl (dR 1 rfl ?_)
     refine dq (.p (eB r51)) [46,50] rfl (λ _ e _ q=>af rfl (aJ (bi _ (lat r6 i45) (lat r8 i45) _ e52) rfl rfl rfl (au (e _ _ rfl) (au (e _ _ rfl) aK)) ⟨sr,sr,trivial⟩ Tryz.call12 rfl q)) rfl (dL (c53) rfl ?_)
     refine dR 4 rfl (dq (.rptr (aa.cs (lat r6 i45))) [53,55,56] rfl (λ _ e _ q=>aA (bf (f:=ac) (l:=r6) aa.cs rfl rfl rfl rfl rfl rfl (e _ _ rfl) rfl (e _ _ rfl) hk54 aa.cells_eq (λ _=>rfl) q) rfl rfl (e _ _ rfl) (rfl)) rfl ?_)
     refine dR 1 rfl (dq (.p (eB r55)) [53,54,58] rfl (λ _ e _ q=>aA (aJ (bi _ (aa.mk ((lat l_0 i45).fAddr) ((lat l_0 i45).fDeposed) ((lat l_0 i45).fType) ((lat l_0 i45).fAction) ((lat l_0 i45).fReason) ((lat l_0 i45).fBefore) ((lat l_0 i45).fAfter) ((lat l_0 i45).fID) ((lat l_0 i45).fReplace) ((lat r6 i45).fCreateFirst) ((lat l_0 i45).fProtect) ((lat l_0 i45).fImport) ((lat l_0 i45).fDeps) ((lat l_0 i45).fOldDeps)) (lat r6 i45) _ e56) rfl rfl rfl (au (e _ _ rfl) (au (e _ _ rfl) aK)) ⟨sr,sr,trivial⟩ Tryz.call12 rfl q) rfl rfl (e _ _ rfl) (rfl)) rfl ?_)
     refine dL (c57) rfl (dR 4 rfl ?_)
     refine dq (.rptr (aa.cs (lat l_0 i45))) [62,63,64] rfl (λ _ e _ q=>aA (bf (f:=ac) (l:=l_0) aa.cs rfl rfl rfl rfl rfl rfl (e _ _ rfl) rfl (e _ _ rfl) hk58 aa.cells_eq (λ _=>rfl) q) rfl rfl (e _ _ rfl) (rfl)) rfl (dR 1 rfl ?_)
     refine dL (c59) rfl (dR 3 rfl ?_)
     refine dq (.rptr (aa.cs (lat r6 i45))) [68,69,70] rfl (λ _ e _ q=>aA (bf (f:=ac) (l:=r6) aa.cs rfl rfl rfl rfl rfl rfl (e _ _ rfl) rfl (e _ _ rfl) hk60 aa.cells_eq (λ _=>rfl) q) rfl rfl (e _ _ rfl) (rfl)) rfl (dR 2 rfl ?_)
     refine dL (c61) rfl (dR 25 rfl ?_)
     refine dE rfl (nx 1 rfl ?_)
     exact eX _ (oi h2).symm (gE rfl rfl)
    refine cc' h2 λ hk62 h2=>fB (p:=!true) [] h2 rfl (λ c63 h2=>?_) λ c63 h2=>?_
    ·refine cc' h2 λ hk64 h2=>fB [41] h2 rfl (λ c65 h2=>?_) λ c65 h2=>?_
     ·refine mD [(0,.p (eL ac l_0)),(3,.p (eL ac r6)),(4,.p (eL ac r8)),(5,.p (eI i45)),(6,.ptr 6 0)] rfl ⟨rfl,rfl,rfl,rfl,rfl,trivial⟩ rfl (dR 2 rfl ?_)
      refine dq (.rptr (aa.cs (lat r6 i45))) [43,44] rfl (λ _ e _ q=>af rfl (bf (f:=ac) (l:=r6) aa.cs rfl rfl rfl rfl rfl rfl (e _ _ rfl) rfl (e _ _ rfl) hk49 aa.cells_eq (λ _=>rfl) q)) rfl (dR 3 rfl ?_)
      refine dq (.rptr (aa.cs (lat r8 i45))) [47,48] rfl (λ _ e _ q=>af rfl (bf (f:=ac) (l:=r8) aa.cs rfl rfl rfl rfl rfl rfl (e _ _ rfl) rfl (e _ _ rfl) hk50 aa.cells_eq (λ _=>rfl) q)) rfl (dR 1 rfl ?_)
      refine dq (.p (eB r51)) [46,50] rfl (λ _ e _ q=>af rfl (aJ (bi _ (lat r6 i45) (lat r8 i45) _ e52) rfl rfl rfl (au (e _ _ rfl) (au (e _ _ rfl) aK)) ⟨sr,sr,trivial⟩ Tryz.call12 rfl q)) rfl (dL (c53) rfl ?_)
      refine dR 4 rfl (dq (.rptr (aa.cs (lat r6 i45))) [53,55,56] rfl (λ _ e _ q=>aA (bf (f:=ac) (l:=r6) aa.cs rfl rfl rfl rfl rfl rfl (e _ _ rfl) rfl (e _ _ rfl) hk54 aa.cells_eq (λ _=>rfl) q) rfl rfl (e _ _ rfl) (rfl)) rfl ?_)
      refine dR 1 rfl (dq (.p (eB r55)) [53,54,58] rfl (λ _ e _ q=>aA (aJ (bi _ (aa.mk ((lat l_0 i45).fAddr) ((lat l_0 i45).fDeposed) ((lat l_0 i45).fType) ((lat l_0 i45).fAction) ((lat l_0 i45).fReason) ((lat l_0 i45).fBefore) ((lat l_0 i45).fAfter) ((lat l_0 i45).fID) ((lat l_0 i45).fReplace) ((lat r6 i45).fCreateFirst) ((lat l_0 i45).fProtect) ((lat l_0 i45).fImport) ((lat l_0 i45).fDeps) ((lat l_0 i45).fOldDeps)) (lat r6 i45) _ e56) rfl rfl rfl (au (e _ _ rfl) (au (e _ _ rfl) aK)) ⟨sr,sr,trivial⟩ Tryz.call12 rfl q) rfl rfl (e _ _ rfl) (rfl)) rfl ?_)
      refine dL (c57) rfl (dR 4 rfl ?_)
      refine dq (.rptr (aa.cs (lat l_0 i45))) [62,63,64] rfl (λ _ e _ q=>aA (bf (f:=ac) (l:=l_0) aa.cs rfl rfl rfl rfl rfl rfl (e _ _ rfl) rfl (e _ _ rfl) hk58 aa.cells_eq (λ _=>rfl) q) rfl rfl (e _ _ rfl) (rfl)) rfl (dR 1 rfl ?_)
      refine dL (c59) rfl (dR 3 rfl ?_)
      refine dq (.rptr (aa.cs (lat r6 i45))) [68,69,70] rfl (λ _ e _ q=>aA (bf (f:=ac) (l:=r6) aa.cs rfl rfl rfl rfl rfl rfl (e _ _ rfl) rfl (e _ _ rfl) hk60 aa.cells_eq (λ _=>rfl) q) rfl rfl (e _ _ rfl) (rfl)) rfl (dR 1 rfl ?_)
      refine dL (c65) rfl (dL (c63) rfl ?_)
      refine dR 25 rfl (dE rfl ?_)
      exact nx 1 rfl (eX _ (oi h2).symm (gE rfl rfl))
     refine fB (p:=!false) [] h2 rfl (λ c66 h2=>?_) λ c66 h2=>?_
     ·refine mD [(0,.p (eL ac l_0)),(3,.p (eL ac r6)),(4,.p (eL ac r8)),(5,.p (eI i45)),(6,.ptr 6 0)] rfl ⟨rfl,rfl,rfl,rfl,rfl,trivial⟩ rfl (dR 2 rfl ?_)
      refine dq (.rptr (aa.cs (lat r6 i45))) [43,44] rfl (λ _ e _ q=>af rfl (bf (f:=ac) (l:=r6) aa.cs rfl rfl rfl rfl rfl rfl (e _ _ rfl) rfl (e _ _ rfl) hk49 aa.cells_eq (λ _=>rfl) q)) rfl (dR 3 rfl ?_)
      refine dq (.rptr (aa.cs (lat r8 i45))) [47,48] rfl (λ _ e _ q=>af rfl (bf (f:=ac) (l:=r8) aa.cs rfl rfl rfl rfl rfl rfl (e _ _ rfl) rfl (e _ _ rfl) hk50 aa.cells_eq (λ _=>rfl) q)) rfl (dR 1 rfl ?_)
      refine dq (.p (eB r51)) [46,50] rfl (λ _ e _ q=>af rfl (aJ (bi _ (lat r6 i45) (lat r8 i45) _ e52) rfl rfl rfl (au (e _ _ rfl) (au (e _ _ rfl) aK)) ⟨sr,sr,trivial⟩ Tryz.call12 rfl q)) rfl (dL (c53) rfl ?_)
      refine dR 4 rfl (dq (.rptr (aa.cs (lat r6 i45))) [53,55,56] rfl (λ _ e _ q=>aA (bf (f:=ac) (l:=r6) aa.cs rfl rfl rfl rfl rfl rfl (e _ _ rfl) rfl (e _ _ rfl) hk54 aa.cells_eq (λ _=>rfl) q) rfl rfl (e _ _ rfl) (rfl)) rfl ?_)
      refine dR 1 rfl (dq (.p (eB r55)) [53,54,58] rfl (λ _ e _ q=>aA (aJ (bi _ (aa.mk ((lat l_0 i45).fAddr) ((lat l_0 i45).fDeposed) ((lat l_0 i45).fType) ((lat l_0 i45).fAction) ((lat l_0 i45).fReason) ((lat l_0 i45).fBefore) ((lat l_0 i45).fAfter) ((lat l_0 i45).fID) ((lat l_0 i45).fReplace) ((lat r6 i45).fCreateFirst) ((lat l_0 i45).fProtect) ((lat l_0 i45).fImport) ((lat l_0 i45).fDeps) ((lat l_0 i45).fOldDeps)) (lat r6 i45) _ e56) rfl rfl rfl (au (e _ _ rfl) (au (e _ _ rfl) aK)) ⟨sr,sr,trivial⟩ Tryz.call12 rfl q) rfl rfl (e _ _ rfl) (rfl)) rfl ?_)
      refine dL (c57) rfl (dR 4 rfl ?_)
      refine dq (.rptr (aa.cs (lat l_0 i45))) [62,63,64] rfl (λ _ e _ q=>aA (bf (f:=ac) (l:=l_0) aa.cs rfl rfl rfl rfl rfl rfl (e _ _ rfl) rfl (e _ _ rfl) hk58 aa.cells_eq (λ _=>rfl) q) rfl rfl (e _ _ rfl) (rfl)) rfl (dR 1 rfl ?_)
      refine dL (c59) rfl (dR 3 rfl ?_)
      refine dq (.rptr (aa.cs (lat r6 i45))) [68,69,70] rfl (λ _ e _ q=>aA (bf (f:=ac) (l:=r6) aa.cs rfl rfl rfl rfl rfl rfl (e _ _ rfl) rfl (e _ _ rfl) hk60 aa.cells_eq (λ _=>rfl) q) rfl rfl (e _ _ rfl) (rfl)) rfl (dR 1 rfl ?_)
      refine dL (c65) rfl (dL (c66) rfl ?_)
      refine dR 25 rfl (dE rfl ?_)
      exact nx 1 rfl (eX _ (oi h2).symm (gE rfl rfl))
     refine cc' h2 λ hk67 h2=>cc' h2 λ hk68 h2=>mD [(0,.p (eL ac l_0)),(3,.p (eL ac r6)),(4,.p (eL ac r8)),(5,.p (eI i45)),(6,.ptr 6 0)] rfl ⟨rfl,rfl,rfl,rfl,rfl,trivial⟩ rfl (dR 2 rfl ?_)
     refine dq (.rptr (aa.cs (lat r6 i45))) [43,44] rfl (λ _ e _ q=>af rfl (bf (f:=ac) (l:=r6) aa.cs rfl rfl rfl rfl rfl rfl (e _ _ rfl) rfl (e _ _ rfl) hk49 aa.cells_eq (λ _=>rfl) q)) rfl (dR 3 rfl ?_)
     refine dq (.rptr (aa.cs (lat r8 i45))) [47,48] rfl (λ _ e _ q=>af rfl (bf (f:=ac) (l:=r8) aa.cs rfl rfl rfl rfl rfl rfl (e _ _ rfl) rfl (e _ _ rfl) hk50 aa.cells_eq (λ _=>rfl) q)) rfl (dR 1 rfl ?_)
     refine dq (.p (eB r51)) [46,50] rfl (λ _ e _ q=>af rfl (aJ (bi _ (lat r6 i45) (lat r8 i45) _ e52) rfl rfl rfl (au (e _ _ rfl) (au (e _ _ rfl) aK)) ⟨sr,sr,trivial⟩ Tryz.call12 rfl q)) rfl (dL (c53) rfl ?_)
     refine dR 4 rfl (dq (.rptr (aa.cs (lat r6 i45))) [53,55,56] rfl (λ _ e _ q=>aA (bf (f:=ac) (l:=r6) aa.cs rfl rfl rfl rfl rfl rfl (e _ _ rfl) rfl (e _ _ rfl) hk54 aa.cells_eq (λ _=>rfl) q) rfl rfl (e _ _ rfl) (rfl)) rfl ?_)
     refine dR 1 rfl (dq (.p (eB r55)) [53,54,58] rfl (λ _ e _ q=>aA (aJ (bi _ (aa.mk ((lat l_0 i45).fAddr) ((lat l_0 i45).fDeposed) ((lat l_0 i45).fType) ((lat l_0 i45).fAction) ((lat l_0 i45).fReason) ((lat l_0 i45).fBefore) ((lat l_0 i45).fAfter) ((lat l_0 i45).fID) ((lat l_0 i45).fReplace) ((lat r6 i45).fCreateFirst) ((lat l_0 i45).fProtect) ((lat l_0 i45).fImport) ((lat l_0 i45).fDeps) ((lat l_0 i45).fOldDeps)) (lat r6 i45) _ e56) rfl rfl rfl (au (e _ _ rfl) (au (e _ _ rfl) aK)) ⟨sr,sr,trivial⟩ Tryz.call12 rfl q) rfl rfl (e _ _ rfl) (rfl)) rfl ?_)
     refine dL (c57) rfl (dR 4 rfl ?_)
     refine dq (.rptr (aa.cs (lat l_0 i45))) [62,63,64] rfl (λ _ e _ q=>aA (bf (f:=ac) (l:=l_0) aa.cs rfl rfl rfl rfl rfl rfl (e _ _ rfl) rfl (e _ _ rfl) hk58 aa.cells_eq (λ _=>rfl) q) rfl rfl (e _ _ rfl) (rfl)) rfl (dR 1 rfl ?_)
     refine dL (c59) rfl (dR 3 rfl ?_)
     refine dq (.rptr (aa.cs (lat r6 i45))) [68,69,70] rfl (λ _ e _ q=>aA (bf (f:=ac) (l:=r6) aa.cs rfl rfl rfl rfl rfl rfl (e _ _ rfl) rfl (e _ _ rfl) hk60 aa.cells_eq (λ _=>rfl) q) rfl rfl (e _ _ rfl) (rfl)) rfl (dR 1 rfl ?_)
     refine dL (c65) rfl (dL (c66) rfl ?_)
     refine dR 5 rfl (dq (.rptr (aa.cs (lat l_0 i45))) [77,78,79] rfl (λ _ e _ q=>aA (bf (f:=ac) (l:=l_0) aa.cs rfl rfl rfl rfl rfl rfl (e _ _ rfl) rfl (e _ _ rfl) hk67 aa.cells_eq (λ _=>rfl) q) rfl rfl (e _ _ rfl) (rfl)) rfl ?_)
     refine dR 1 rfl (dL (c59) rfl ?_)
     refine dL (c63) rfl (dR 3 rfl ?_)
     refine dq (.rptr (aa.cs (lat r6 i45))) [84,85,86] rfl (λ _ e _ q=>aA (bf (f:=ac) (l:=r6) aa.cs rfl rfl rfl rfl rfl rfl (e _ _ rfl) rfl (e _ _ rfl) hk68 aa.cells_eq (λ _=>rfl) q) rfl rfl (e _ _ rfl) (rfl)) rfl (dR 1 rfl ?_)
     refine dL (c65) rfl (dR 10 rfl ?_)
     refine dE rfl (nx 1 rfl ?_)
     exact eX _ (oi h2).symm (gE rfl rfl)
    refine mD [(0,.p (eL ac l_0)),(3,.p (eL ac r6)),(4,.p (eL ac r8)),(5,.p (eI i45)),(6,.ptr 6 0)] rfl ⟨rfl,rfl,rfl,rfl,rfl,trivial⟩ rfl (dR 2 rfl ?_)
    refine dq (.rptr (aa.cs (lat r6 i45))) [43,44] rfl (λ _ e _ q=>af rfl (bf (f:=ac) (l:=r6) aa.cs rfl rfl rfl rfl rfl rfl (e _ _ rfl) rfl (e _ _ rfl) hk49 aa.cells_eq (λ _=>rfl) q)) rfl (dR 3 rfl ?_)
    refine dq (.rptr (aa.cs (lat r8 i45))) [47,48] rfl (λ _ e _ q=>af rfl (bf (f:=ac) (l:=r8) aa.cs rfl rfl rfl rfl rfl rfl (e _ _ rfl) rfl (e _ _ rfl) hk50 aa.cells_eq (λ _=>rfl) q)) rfl (dR 1 rfl ?_)
    refine dq (.p (eB r51)) [46,50] rfl (λ _ e _ q=>af rfl (aJ (bi _ (lat r6 i45) (lat r8 i45) _ e52) rfl rfl rfl (au (e _ _ rfl) (au (e _ _ rfl) aK)) ⟨sr,sr,trivial⟩ Tryz.call12 rfl q)) rfl (dL (c53) rfl ?_)
    refine dR 4 rfl (dq (.rptr (aa.cs (lat r6 i45))) [53,55,56] rfl (λ _ e _ q=>aA (bf (f:=ac) (l:=r6) aa.cs rfl rfl rfl rfl rfl rfl (e _ _ rfl) rfl (e _ _ rfl) hk54 aa.cells_eq (λ _=>rfl) q) rfl rfl (e _ _ rfl) (rfl)) rfl ?_)
    refine dR 1 rfl (dq (.p (eB r55)) [53,54,58] rfl (λ _ e _ q=>aA (aJ (bi _ (aa.mk ((lat l_0 i45).fAddr) ((lat l_0 i45).fDeposed) ((lat l_0 i45).fType) ((lat l_0 i45).fAction) ((lat l_0 i45).fReason) ((lat l_0 i45).fBefore) ((lat l_0 i45).fAfter) ((lat l_0 i45).fID) ((lat l_0 i45).fReplace) ((lat r6 i45).fCreateFirst) ((lat l_0 i45).fProtect) ((lat l_0 i45).fImport) ((lat l_0 i45).fDeps) ((lat l_0 i45).fOldDeps)) (lat r6 i45) _ e56) rfl rfl rfl (au (e _ _ rfl) (au (e _ _ rfl) aK)) ⟨sr,sr,trivial⟩ Tryz.call12 rfl q) rfl rfl (e _ _ rfl) (rfl)) rfl ?_)
    refine dL (c57) rfl (dR 4 rfl ?_)
    refine dq (.rptr (aa.cs (lat l_0 i45))) [62,63,64] rfl (λ _ e _ q=>aA (bf (f:=ac) (l:=l_0) aa.cs rfl rfl rfl rfl rfl rfl (e _ _ rfl) rfl (e _ _ rfl) hk58 aa.cells_eq (λ _=>rfl) q) rfl rfl (e _ _ rfl) (rfl)) rfl (dR 1 rfl ?_)
    refine dL (c59) rfl (dR 3 rfl ?_)
    refine dq (.rptr (aa.cs (lat r6 i45))) [68,69,70] rfl (λ _ e _ q=>aA (bf (f:=ac) (l:=r6) aa.cs rfl rfl rfl rfl rfl rfl (e _ _ rfl) rfl (e _ _ rfl) hk60 aa.cells_eq (λ _=>rfl) q) rfl rfl (e _ _ rfl) (rfl)) rfl (dR 2 rfl ?_)
    refine dL (c61) rfl (dR 5 rfl ?_)
    refine dq (.rptr (aa.cs (lat l_0 i45))) [77,78,79] rfl (λ _ e _ q=>aA (bf (f:=ac) (l:=l_0) aa.cs rfl rfl rfl rfl rfl rfl (e _ _ rfl) rfl (e _ _ rfl) hk62 aa.cells_eq (λ _=>rfl) q) rfl rfl (e _ _ rfl) (rfl)) rfl (dR 1 rfl ?_)
    refine dL (c59) rfl (dL (c63) rfl ?_)
    refine dR 16 rfl (dE rfl ?_)
    exact nx 1 rfl (eX _ (oi h2).symm (gE rfl rfl))
   refine cc' h2 λ hk69 h2=>fB (p:=!false) [] h2 rfl (λ c70 h2=>?_) λ c70 h2=>?_
   ·refine cc' h2 λ hk71 h2=>fB [41] h2 rfl (λ c72 h2=>?_) λ c72 h2=>?_
    ·refine cc' h2 λ hk73 h2=>mD [(0,.p (eL ac l_0)),(3,.p (eL ac r6)),(4,.p (eL ac r8)),(5,.p (eI i45)),(6,.ptr 6 0)] rfl ⟨rfl,rfl,rfl,rfl,rfl,trivial⟩ rfl (dR 2 rfl ?_)
     refine dq (.rptr (aa.cs (lat r6 i45))) [43,44] rfl (λ _ e _ q=>af rfl (bf (f:=ac) (l:=r6) aa.cs rfl rfl rfl rfl rfl rfl (e _ _ rfl) rfl (e _ _ rfl) hk49 aa.cells_eq (λ _=>rfl) q)) rfl (dR 3 rfl ?_)
     refine dq (.rptr (aa.cs (lat r8 i45))) [47,48] rfl (λ _ e _ q=>af rfl (bf (f:=ac) (l:=r8) aa.cs rfl rfl rfl rfl rfl rfl (e _ _ rfl) rfl (e _ _ rfl) hk50 aa.cells_eq (λ _=>rfl) q)) rfl (dR 1 rfl ?_)
     refine dq (.p (eB r51)) [46,50] rfl (λ _ e _ q=>af rfl (aJ (bi _ (lat r6 i45) (lat r8 i45) _ e52) rfl rfl rfl (au (e _ _ rfl) (au (e _ _ rfl) aK)) ⟨sr,sr,trivial⟩ Tryz.call12 rfl q)) rfl (dL (c53) rfl ?_)
     refine dR 4 rfl (dq (.rptr (aa.cs (lat r6 i45))) [53,55,56] rfl (λ _ e _ q=>aA (bf (f:=ac) (l:=r6) aa.cs rfl rfl rfl rfl rfl rfl (e _ _ rfl) rfl (e _ _ rfl) hk54 aa.cells_eq (λ _=>rfl) q) rfl rfl (e _ _ rfl) (rfl)) rfl ?_)
     refine dR 1 rfl (dq (.p (eB r55)) [53,54,58] rfl (λ _ e _ q=>aA (aJ (bi _ (aa.mk ((lat l_0 i45).fAddr) ((lat l_0 i45).fDeposed) ((lat l_0 i45).fType) ((lat l_0 i45).fAction) ((lat l_0 i45).fReason) ((lat l_0 i45).fBefore) ((lat l_0 i45).fAfter) ((lat l_0 i45).fID) ((lat l_0 i45).fReplace) ((lat r6 i45).fCreateFirst) ((lat l_0 i45).fProtect) ((lat l_0 i45).fImport) ((lat l_0 i45).fDeps) ((lat l_0 i45).fOldDeps)) (lat r6 i45) _ e56) rfl rfl rfl (au (e _ _ rfl) (au (e _ _ rfl) aK)) ⟨sr,sr,trivial⟩ Tryz.call12 rfl q) rfl rfl (e _ _ rfl) (rfl)) rfl ?_)
     refine dL (c57) rfl (dR 4 rfl ?_)
     refine dq (.rptr (aa.cs (lat l_0 i45))) [62,63,64] rfl (λ _ e _ q=>aA (bf (f:=ac) (l:=l_0) aa.cs rfl rfl rfl rfl rfl rfl (e _ _ rfl) rfl (e _ _ rfl) hk58 aa.cells_eq (λ _=>rfl) q) rfl rfl (e _ _ rfl) (rfl)) rfl (dR 1 rfl ?_)
     refine dL (c59) rfl (dR 12 rfl ?_)
     refine dq (.rptr (aa.cs (lat l_0 i45))) [77,78,79] rfl (λ _ e _ q=>aA (bf (f:=ac) (l:=l_0) aa.cs rfl rfl rfl rfl rfl rfl (e _ _ rfl) rfl (e _ _ rfl) hk69 aa.cells_eq (λ _=>rfl) q) rfl rfl (e _ _ rfl) (rfl)) rfl (dR 1 rfl ?_)
     refine dL (c59) rfl (dL (c70) rfl ?_)
     refine dR 3 rfl (dq (.rptr (aa.cs (lat r6 i45))) [84,85,86] rfl (λ _ e _ q=>aA (bf (f:=ac) (l:=r6) aa.cs rfl rfl rfl rfl rfl rfl (e _ _ rfl) rfl (e _ _ rfl) hk71 aa.cells_eq (λ _=>rfl) q) rfl rfl (e _ _ rfl) (rfl)) rfl ?_)
     refine dR 1 rfl (dL (c72) rfl ?_)
     refine dR 4 rfl (dq (.rptr (aa.cs (lat l_0 i45))) [91,92,93] rfl (λ _ e _ q=>aA (bf (f:=ac) (l:=l_0) aa.cs rfl rfl rfl rfl rfl rfl (e _ _ rfl) rfl (e _ _ rfl) hk73 aa.cells_eq (λ _=>rfl) q) rfl rfl (e _ _ rfl) (rfl)) rfl ?_)
     refine dR 5 rfl (dE rfl ?_)
     exact nx 1 rfl (eX _ (oi h2).symm (gE rfl rfl))
    refine mD [(0,.p (eL ac l_0)),(3,.p (eL ac r6)),(4,.p (eL ac r8)),(5,.p (eI i45)),(6,.ptr 6 0)] rfl ⟨rfl,rfl,rfl,rfl,rfl,trivial⟩ rfl (dR 2 rfl ?_)
    refine dq (.rptr (aa.cs (lat r6 i45))) [43,44] rfl (λ _ e _ q=>af rfl (bf (f:=ac) (l:=r6) aa.cs rfl rfl rfl rfl rfl rfl (e _ _ rfl) rfl (e _ _ rfl) hk49 aa.cells_eq (λ _=>rfl) q)) rfl (dR 3 rfl ?_)
    refine dq (.rptr (aa.cs (lat r8 i45))) [47,48] rfl (λ _ e _ q=>af rfl (bf (f:=ac) (l:=r8) aa.cs rfl rfl rfl rfl rfl rfl (e _ _ rfl) rfl (e _ _ rfl) hk50 aa.cells_eq (λ _=>rfl) q)) rfl (dR 1 rfl ?_)
    refine dq (.p (eB r51)) [46,50] rfl (λ _ e _ q=>af rfl (aJ (bi _ (lat r6 i45) (lat r8 i45) _ e52) rfl rfl rfl (au (e _ _ rfl) (au (e _ _ rfl) aK)) ⟨sr,sr,trivial⟩ Tryz.call12 rfl q)) rfl (dL (c53) rfl ?_)
    refine dR 4 rfl (dq (.rptr (aa.cs (lat r6 i45))) [53,55,56] rfl (λ _ e _ q=>aA (bf (f:=ac) (l:=r6) aa.cs rfl rfl rfl rfl rfl rfl (e _ _ rfl) rfl (e _ _ rfl) hk54 aa.cells_eq (λ _=>rfl) q) rfl rfl (e _ _ rfl) (rfl)) rfl ?_)
    refine dR 1 rfl (dq (.p (eB r55)) [53,54,58] rfl (λ _ e _ q=>aA (aJ (bi _ (aa.mk ((lat l_0 i45).fAddr) ((lat l_0 i45).fDeposed) ((lat l_0 i45).fType) ((lat l_0 i45).fAction) ((lat l_0 i45).fReason) ((lat l_0 i45).fBefore) ((lat l_0 i45).fAfter) ((lat l_0 i45).fID) ((lat l_0 i45).fReplace) ((lat r6 i45).fCreateFirst) ((lat l_0 i45).fProtect) ((lat l_0 i45).fImport) ((lat l_0 i45).fDeps) ((lat l_0 i45).fOldDeps)) (lat r6 i45) _ e56) rfl rfl rfl (au (e _ _ rfl) (au (e _ _ rfl) aK)) ⟨sr,sr,trivial⟩ Tryz.call12 rfl q) rfl rfl (e _ _ rfl) (rfl)) rfl ?_)
    refine dL (c57) rfl (dR 4 rfl ?_)
    refine dq (.rptr (aa.cs (lat l_0 i45))) [62,63,64] rfl (λ _ e _ q=>aA (bf (f:=ac) (l:=l_0) aa.cs rfl rfl rfl rfl rfl rfl (e _ _ rfl) rfl (e _ _ rfl) hk58 aa.cells_eq (λ _=>rfl) q) rfl rfl (e _ _ rfl) (rfl)) rfl (dR 1 rfl ?_)
    refine dL (c59) rfl (dR 12 rfl ?_)
    refine dq (.rptr (aa.cs (lat l_0 i45))) [77,78,79] rfl (λ _ e _ q=>aA (bf (f:=ac) (l:=l_0) aa.cs rfl rfl rfl rfl rfl rfl (e _ _ rfl) rfl (e _ _ rfl) hk69 aa.cells_eq (λ _=>rfl) q) rfl rfl (e _ _ rfl) (rfl)) rfl (dR 1 rfl ?_)
    refine dL (c59) rfl (dL (c70) rfl ?_)
    refine dR 3 rfl (dq (.rptr (aa.cs (lat r6 i45))) [84,85,86] rfl (λ _ e _ q=>aA (bf (f:=ac) (l:=r6) aa.cs rfl rfl rfl rfl rfl rfl (e _ _ rfl) rfl (e _ _ rfl) hk71 aa.cells_eq (λ _=>rfl) q) rfl rfl (e _ _ rfl) (rfl)) rfl ?_)
    refine dR 1 rfl (dL (c72) rfl ?_)
    refine dR 10 rfl (dE rfl ?_)
    exact nx 1 rfl (eX _ (oi h2).symm (gE rfl rfl))
   refine mD [(0,.p (eL ac l_0)),(3,.p (eL ac r6)),(4,.p (eL ac r8)),(5,.p (eI i45)),(6,.ptr 6 0)] rfl ⟨rfl,rfl,rfl,rfl,rfl,trivial⟩ rfl (dR 2 rfl ?_)
   refine dq (.rptr (aa.cs (lat r6 i45))) [43,44] rfl (λ _ e _ q=>af rfl (bf (f:=ac) (l:=r6) aa.cs rfl rfl rfl rfl rfl rfl (e _ _ rfl) rfl (e _ _ rfl) hk49 aa.cells_eq (λ _=>rfl) q)) rfl (dR 3 rfl ?_)
   refine dq (.rptr (aa.cs (lat r8 i45))) [47,48] rfl (λ _ e _ q=>af rfl (bf (f:=ac) (l:=r8) aa.cs rfl rfl rfl rfl rfl rfl (e _ _ rfl) rfl (e _ _ rfl) hk50 aa.cells_eq (λ _=>rfl) q)) rfl (dR 1 rfl ?_)
   refine dq (.p (eB r51)) [46,50] rfl (λ _ e _ q=>af rfl (aJ (bi _ (lat r6 i45) (lat r8 i45) _ e52) rfl rfl rfl (au (e _ _ rfl) (au (e _ _ rfl) aK)) ⟨sr,sr,trivial⟩ Tryz.call12 rfl q)) rfl (dL (c53) rfl ?_)
   refine dR 4 rfl (dq (.rptr (aa.cs (lat r6 i45))) [53,55,56] rfl (λ _ e _ q=>aA (bf (f:=ac) (l:=r6) aa.cs rfl rfl rfl rfl rfl rfl (e _ _ rfl) rfl (e _ _ rfl) hk54 aa.cells_eq (λ _=>rfl) q) rfl rfl (e _ _ rfl) (rfl)) rfl ?_)
   refine dR 1 rfl (dq (.p (eB r55)) [53,54,58] rfl (λ _ e _ q=>aA (aJ (bi _ (aa.mk ((lat l_0 i45).fAddr) ((lat l_0 i45).fDeposed) ((lat l_0 i45).fType) ((lat l_0 i45).fAction) ((lat l_0 i45).fReason) ((lat l_0 i45).fBefore) ((lat l_0 i45).fAfter) ((lat l_0 i45).fID) ((lat l_0 i45).fReplace) ((lat r6 i45).fCreateFirst) ((lat l_0 i45).fProtect) ((lat l_0 i45).fImport) ((lat l_0 i45).fDeps) ((lat l_0 i45).fOldDeps)) (lat r6 i45) _ e56) rfl rfl rfl (au (e _ _ rfl) (au (e _ _ rfl) aK)) ⟨sr,sr,trivial⟩ Tryz.call12 rfl q) rfl rfl (e _ _ rfl) (rfl)) rfl ?_)
   refine dL (c57) rfl (dR 4 rfl ?_)
   refine dq (.rptr (aa.cs (lat l_0 i45))) [62,63,64] rfl (λ _ e _ q=>aA (bf (f:=ac) (l:=l_0) aa.cs rfl rfl rfl rfl rfl rfl (e _ _ rfl) rfl (e _ _ rfl) hk58 aa.cells_eq (λ _=>rfl) q) rfl rfl (e _ _ rfl) (rfl)) rfl (dR 1 rfl ?_)
   refine dL (c59) rfl (dR 12 rfl ?_)
   refine dq (.rptr (aa.cs (lat l_0 i45))) [77,78,79] rfl (λ _ e _ q=>aA (bf (f:=ac) (l:=l_0) aa.cs rfl rfl rfl rfl rfl rfl (e _ _ rfl) rfl (e _ _ rfl) hk69 aa.cells_eq (λ _=>rfl) q) rfl rfl (e _ _ rfl) (rfl)) rfl (dR 1 rfl ?_)
   refine dL (c59) rfl (dL (c70) rfl ?_)
   refine dR 16 rfl (dE rfl ?_)
   exact nx 1 rfl (eX _ (oi h2).symm (gE rfl rfl))
  exact nx 2 rfl (eXi _ (oi h1).symm (gE rfl rfl))
 refine nx 2 rfl (oLl (f:=ac) rfl rfl ?_)
 refine nx 1 rfl (oLl (f:=ac) rfl rfl ?_)
 refine nx 2 rfl (fN [19,20] h1 rfl (λ c10 h1=>?_) λ c10 h1=>?_)
 ·refine nx 1 rfl (oLl (f:=ac) rfl rfl ?_)
  refine nx 1 rfl (oLl (f:=ac) rfl rfl ?_)
  exact nx 3 rfl (eX _ (oi h1).symm (gE rfl rfl))
 exact nx 7 rfl (eX _ (oi h1).symm (gE rfl rfl))
end Go.Ab.R06
end
section
set_option linter.unusedVariables false
set_option linter.unusedSimpArgs false
set_option linter.unnecessarySimpa false
namespace Go.Ab.R06
open Go.Ab Go.Ab.RB Go.Lib
theorem Bs (a c:aa)(b b':Bool):nd (upd a b) (upd c b')=nd a c:=rfl
theorem wu {c:aa}{b:Bool}(h:c.fCreateFirst=true):upF c b=true:=by unfold upF; split <;> first | rfl | exact h
theorem Cb {c:aa}{b:Bool}(h:upF c b=true):c.fCreateFirst=true∨(b=true∧c.fAction=3):=by
 unfold upF at h
 split at h
 ·rename_i h'; simp at h'; exact .inr h'
 ·exact .inl h
theorem wD {c:aa}{b:Bool}:nW (upd c b)=true↔c.fAction=3∧(c.fCreateFirst=true∨b=true):=by
 unfold nW
 show (decide (c.fAction=3)&&upF c b)=true↔_
 rw [Bool.and_eq_true,decide_eq_true_iff]
 constructor
 ·rintro ⟨h1,h2⟩; exact ⟨h1,(Cb h2).imp id And.left⟩
 ·rintro ⟨h1,h2⟩
  refine ⟨h1,?_⟩
  rcases h2 with h | h
  ·exact wu h
  ·unfold upF; rw [if_pos (by simp [h,h1])]
theorem tb {l:List aa}{k:Nat}:(rcB l).getD k false=true↔Rc l k:=by
 by_cases hk:k < l.length
 ·rw [u4 l k hk]; simp
 ·constructor
  ·intro h; exact absurd (DJ (S:=rcB l) h) (by rw [oL]; exact hk)
  ·intro h; exact absurd h.lt hk
theorem rZ (l:List aa)(i k:Nat):ne (cY l) i k↔ne l i k:=by
 unfold ne
 rw [dm]
 constructor
 ·rintro ⟨h1,h2,h3⟩; rw [fy l i h1,fy l k h2,Bs] at h3; exact ⟨h1,h2,h3⟩
 ·rintro ⟨h1,h2,h3⟩; rw [fy l i h1,fy l k h2,Bs]; exact ⟨h1,h2,h3⟩
theorem ya (l:List aa)(k:Nat):Rc (cY l) k↔Rc l k:=by
 constructor
 ·intro h
  refine Rch.least (S:=Rc l) (λ i k hf hn=>?_) (λ i k hs hn=>?_) h
  ·have hn':=(rZ l i k).1 hn
   have h2:=hf.2
   rw [fy l i hn'.1] at h2
   obtain ⟨h3,h4⟩:=wD.1 h2
   rcases h4 with h4 | h4
   ·exact .one ⟨hn'.1,by unfold nW; simp [h3,h4]⟩ hn'
   ·exact .more (tb.1 h4) hn'
  ·exact .more hs ((rZ l i k).1 hn)
 ·intro h
  refine Rch.least (S:=Rc (cY l)) (λ i k hf hn=>?_) (λ i k hs hn=>?_) h
  ·refine .one ⟨by rw [dm]; exact hf.1,?_⟩ ((rZ l i k).2 hn)
   rw [fy l i hf.1]
   have:=hf.2
   unfold nW at this
   rw [Bool.and_eq_true,decide_eq_true_iff] at this
   exact wD.2 ⟨this.1,.inl this.2⟩
  ·exact .more hs ((rZ l i k).2 hn)
theorem BW (l:List aa):rcB (cY l)=rcB l:=by
 refine sw (by rw [oL,dm]) λ k=>?_
 rw [← ya l k]
 exact tb
theorem Do (c:aa)(b:Bool):upd (upd c b) b=upd c b:=by
 have h:upF (upd c b) b=upF c b:=by
  unfold upF
  show (if (b&&decide (c.fAction=3))=true then true else upF c b)=_
  unfold upF
  split <;> rfl
 show aa.mk _ _ _ _ _ _ _ _ _ (upF (upd c b) b) _ _ _ _=_
 rw [h]; rfl
theorem xk (l:List aa):cY (cY l)=cY l:=by
 apply List.ext_getElem (by rw [dm])
 intro i h1 h2
 have hi:i < l.length:=by rwa [dm] at h2
 rw [ou (cY l) i h2,ou l i hi,BW,fy l i hi,Do]
theorem xo {l:List aa}{k:Nat}(h:Rc (cY l) k)(ha:(cat (cY l) k).fAction=3):(cat (cY l) k).fCreateFirst=true:=by
 have hr:=(ya l k).1 h
 have hk:=hr.lt
 rw [fy l k hk] at ha ⊢
 show upF _ _=true
 have ha:(cat l k).fAction=3:=ha
 unfold upF
 rw [if_pos (by rw [tb.2 hr,ha]; rfl)]
structure Que (p:List aa)(i K:Nat)(T:List Nat)(S:List Bool):Prop where
 len:S.length=p.length
 work:∀ k∈T,k < p.length∧(k=i∨Rc p k)
 meas:T.length+S.count false=K
section
variable {p:List aa} (hb:∀ c∈p,aa.Bd c) (hl:p.length≤30) (hcf:∀ k,Rc p k→(cat p k).fAction=3→(cat p k).fCreateFirst=true)
theorem Cv (hb:∀ c∈p,aa.Bd c)(hl:p.length≤30)(hcf:∀ k,Rc p k→(cat p k).fAction=3→(cat p k).fCreateFirst=true){i c K:Nat}(hi:fi p i)(hc:c < p.length∧(c=i∨Rc p c))(hK:K≤1000)(T1:List Nat):∀ (j k:Nat) (T:List Nat) (S:List Bool),k+j=p.length→Que p i K T S →
  Ev2 (λ n m=>dK n p (ints (c::T1)) m (ints T) (k:Int) S) (λ r=>∃ T' S',r=.inl (ints T',S')∧Que p i K T' S'):=by
 have hlat:lat (ints (c::T1)) 0=(c:Int):=rfl
 intro j
 induction j with
 | zero =>
  intro k T S hk hm
  refine ap ?_
  simp only [dK]
  exact am (by omega) (ab ⟨T,S,rfl,hm⟩)
 | succ j ih =>
  intro k T S hk hm
  have hkl:k < p.length:=by omega
  have hkS:k < S.length:=by rw [hm.len]; exact hkl
  refine ap ?_
  simp only [dK,hlat]
  rw [fo p c,fo p k]
  refine al (by omega) ?_
  refine ls (dZ (P:=λ s=>∃ T' S',s=.inl (ints T',S')∧Que p i K T' S') ?_ λ s hs=>?_)
  ·refine dw (λ t=>t=true→¬ on S k∧nd (cat p c) (cat p k)=true) ?_ (λ t ht=>?_)
   ·refine ag (by omega) (ar (λ h=>?_) (λ h=>ab (λ h=>by cases h)))
    refine ag (by have:=hc.1; omega) (ag (by omega) (ai _ (tl _ _ (pA hb hc.1) (pA hb hkl)) (ab λ h2=>⟨λ q=>?_,h2⟩)))
    rw [(kK hkS).2 q] at h; cases h
   ·refine ar (λ h=>?_) (λ h=>ab ⟨T,S,rfl,hm⟩)
    obtain ⟨h1,h2⟩:=ht h
    have hne:ne p c k:=⟨hc.1,hkl,h2⟩
    have hrc:Rc p k:=by
     rcases hc.2 with rfl | hr
     ·exact .one hi hne
     ·exact .more hr hne
    have hcnt:=cntF S k hkS (Cc.1 h1)
    have hmm:=hm.meas
    refine ag (by omega) (ag (by simp only [ints,List.length_map,List.length_cons,List.length_nil]; omega) ?_)
    refine ai false (ag (by omega) (ar (λ h=>ag (by omega) (ab (by rw [hcf k hrc h]; rfl))) (λ h=>ab rfl))) (am (by simp) (ab ⟨T++[k],S.set k true,by simp [ints],by simp [hm.len],λ q hq=>?_,by simp; omega⟩))
    rcases List.mem_append.1 hq with hq | hq
    ·exact hm.work q hq
    ·simp only [List.mem_singleton] at hq
     subst hq; exact ⟨hkl,.inr hrc⟩
  ·obtain ⟨T',S',rfl,hm'⟩:=hs
   show Ev2 _ _
   refine ag (aF (by omega) (by omega)) ?_
   have:=ih (k+1) T' S' (by omega) hm'
   rw [Int.natCast_add,Int.natCast_one] at this
   exact this
theorem De (hb:∀ c∈p,aa.Bd c)(hl:p.length≤30)(hcf:∀ k,Rc p k→(cat p k).fAction=3→(cat p k).fCreateFirst=true){i:Nat}(hi:fi p i):∀ (K:Nat) (T:List Nat) (S:List Bool),K≤1000→Que p i K T S→Ev2 (λ n m=>dk n p m (ints T) S) (·=.inl ()):=by
 intro K
 induction K with
 | zero =>
  intro T S _ hm
  have h1:=hm.meas
  obtain rfl:T=[]:=List.eq_nil_of_length_eq_zero (by omega)
  refine ap ?_
  simp only [dk,ints,List.map_nil]
  exact am (by simp) (ab rfl)
 | succ K ih =>
  intro T S hK hm
  cases T with
  | nil =>
   refine ap ?_
   simp only [dk,ints,List.map_nil]
   exact am (by simp) (ab rfl)
  | cons c T1 =>
   have h1:=hm.meas
   simp only [List.length_cons] at h1
   have hlen:((ints (c::T1)).length:Int)=(T1.length:Int)+1:=by simp [ints]
   have hdrop:(ints (c::T1)).drop (1:Int).toNat=ints T1:=rfl
   refine ap ?_
   simp only [dk,hlen,hdrop]
   refine al (by omega) (ag (by omega) (ag (by omega) ?_))
   have l5:=Cv hb hl hcf hi (hm.work c (by simp)) (K:=K) (by omega) T1 _ 0 T1 S (Nat.zero_add _) ⟨hm.len,λ k hk=>hm.work k (by simp [hk]),by omega⟩
   refine ls (dZ (aH (f:=λ n m=>dK n p (ints (c::T1)) m (ints T1) 0 S) l5) λ s hs=>?_)
   obtain ⟨T',S',rfl,hm'⟩:=hs
   exact ih T' S' (by omega) hm'
theorem Dt (hb:∀ c∈p,aa.Bd c)(hl:p.length≤30)(hcf:∀ k,Rc p k→(cat p k).fAction=3→(cat p k).fCreateFirst=true):∀ (j i:Nat),i+j=p.length→Ev2 (λ n m=>dJ n p m (i:Int)) (·=.inl ()):=by
 intro j
 induction j with
 | zero =>
  intro i hi
  refine ap ?_
  simp only [dJ]
  exact am (by omega) (ab rfl)
 | succ j ih =>
  intro i hi
  have hn:=ih (i+1) (by omega)
  rw [Int.natCast_add,Int.natCast_one] at hn
  refine ap ?_
  simp only [dJ]
  rw [fo p i]
  refine al (by omega) (dF () (ag (by omega) ?_) (ag (aF (by omega) (by omega)) hn))
  refine ai (nW (cat p i)) (aR (uz _) rfl) (ar (λ h=>ab rfl) (λ h=>ag (by omega) ?_))
  rw [Int.toNat_natCast]
  have l6:=De hb hl hcf (i:=i) ⟨by omega,by simpa using h⟩ (1+p.length) [i] (List.replicate p.length false) (by omega) ⟨by simp,λ k hk=>by simp only [List.mem_singleton] at hk; subst hk; exact ⟨by omega,.inl rfl⟩,by simp⟩
  exact dF () (aH (f:=λ n m=>dk n p m (ints [i]) (List.replicate p.length false)) l6) (ab rfl)
theorem zR (hb:∀ c∈p,aa.Bd c)(hl:p.length≤30)(hcf:∀ k,Rc p k→(cat p k).fAction=3→(cat p k).fCreateFirst=true):Ev2 (λ n _=>jm n p) (·=true):=by
 simp only [jm]
 exact dF () (aH (f:=λ n m=>dJ n p m 0) (Dt hb hl hcf _ 0 (Nat.zero_add _))) (ab rfl)
end
section
variable {l:List aa} (hb:∀ c∈l,aa.Bd c) (hl:l.length≤30)
theorem CN (hb:∀ c∈l,aa.Bd c)(hl:l.length≤30):∀ (j i:Nat),i+j=l.length→Ev2 (λ n m=>bQ n l (cY l) (cY l) m (i:Int)) (·=.inl ()):=by
 have hpl:=dm l
 intro j
 induction j with
 | zero =>
  intro i hi
  refine ap ?_
  simp only [bQ]
  exact am (by omega) (ab rfl)
 | succ j ih =>
  intro i hi
  have h1:i < l.length:=by omega
  have hn:=ih (i+1) (by omega)
  rw [Int.natCast_add,Int.natCast_one] at hn
  have hbp:=pA (pT hb) (i:=i) (by omega)
  have hpc:=fy l i h1
  refine ap ?_
  simp only [bQ]
  rw [fo l i,fo (cY l) i]
  refine al (by omega) (ag (by omega) (ag (by omega) (ai false ?_ (am (by simp) (ag (aF (by omega) (by omega)) hn)))))
  refine ag (by omega) (ag (by omega) (ai true (oM _ hbp) (am (by simp) (ag (by omega) ?_))))
  have he:aa.mk (cat l i).fAddr (cat l i).fDeposed (cat l i).fType (cat l i).fAction (cat l i).fReason (cat l i).fBefore (cat l i).fAfter (cat l i).fID (cat l i).fReplace (cat (cY l) i).fCreateFirst (cat l i).fProtect (cat l i).fImport (cat l i).fDeps (cat l i).fOldDeps=cat (cY l) i:=by
   rw [hpc]; rfl
  rw [he]
  refine ai true (oM _ hbp) (am (by simp) (ag (by omega) ?_))
  have hup:(cat (cY l) i).fCreateFirst=upF (cat l i) ((rcB l).getD i false):=by rw [hpc]; rfl
  refine ar (λ h=>?_) (λ h=>?_)
  ·refine ag (by omega) (am (by rw [hup,wu h]; simp) (ag (by omega) (am (by simp) (ab rfl))))
  ·refine ag (by omega) (al (by simp) (ag (by omega) (ar (λ h2=>ag (by omega) (ab ?_)) (λ _=>ab rfl))))
   rw [hup] at h2
   rcases Cb h2 with h3 | h3
   ·exact absurd h3 h
   ·simp [h3.2]
end
theorem xh {l:List aa}(hb:∀ c∈l,aa.Bd c)(hw:l.length≤da):Ev2 (λ n _=>fm n l) (·=true):=by
 simp only [fm]
 refine dw _ (sZ l hw) (λ t ht=>ar (λ h=>ai true iu (ab rfl)) (λ h=>?_))
 have hl:=ht (by simpa using h)
 have hpl:=dm l
 have hbp:=pT hb
 have h2:=hQ hbp (l:=cY l) (by omega)
 rw [xk] at h2
 refine ai _ (hQ hb hl) (ai _ h2 (ai false (al (by omega) (ab (by simp [hpl]))) (am (by simp) ?_)))
 refine dF () (aH (f:=λ n m=>bQ n l (cY l) (cY l) m 0) (CN hb hl _ 0 (Nat.zero_add _))) (ai true ?_ (ab rfl))
 exact ai true (zR hbp (by omega) (λ k hr ha=>xo hr ha)) (al rfl (ai true iu (ab rfl)))
end Go.Ab.R06
end
section
set_option linter.unusedVariables false
set_option linter.unusedSimpArgs false
set_option linter.unnecessarySimpa false
namespace Go.Ab.R06
open Go.Proofs Go.Ab Go.Ab.RB
theorem xc (qs:List PV)(h:WTa tt [22] qs):aB Tryz.prog 5 qs (·=.p (.val (.bool true))):=by
 match qs,h with
 | [a],⟨⟨n,h1,h2⟩,_⟩ =>
  obtain ⟨l,rfl,b1,b2⟩:=jW h1 h2
  obtain ⟨n,r,hr,rfl⟩:=tc (xh b2 b1)
  exact lO n l true hr
end Go.Ab.R06
end
section
set_option linter.unusedSimpArgs false
set_option linter.unnecessarySimpa false
namespace Go.Proofs.YtdhapbkkniegoaaGreatDoor.lifecycleClosed
open Go.ChangeShapes Go.WideShapes Go.ChangeAt Go.RowKit
set_option linter.unusedVariables false
theorem own:ownKnob Tryz.prog.godebug=none:=by kernel_rfl
theorem laid:laidOutB Tryz.prog=true:=by kernel_rfl
theorem mapped:mapsRowed Tryz.prog=true:=by kernel_rfl
theorem full:((List.range Tryz.prog.types.size).all λ t=>match Tryz.prog.underlying t with | some (.slice e)=>decide (0 < Tryz.prog.cellsOf e) | _=>true)=true:=by kernel_rfl
theorem rowed:(([22]:List Nat).all λ t=>decide (t < Tryz.prog.types.size))=true:=by kernel_rfl
theorem plain:([22,35,9,27,28,33,29,3,30,31,4]:List Nat).all (Go.Ab.iG Go.Ab.tt [22,35,9,27,28,33,29,3,30,31,4])=true:=by kernel_rfl
theorem closed:([22,35,9,27,28,33,29,3,30,31,4]:List Nat).all (elB Tryz.prog 512 [22,35,9,27,28,33,29,3,30,31,4])=true:=by kernel_rfl
theorem globs:Go.Ab.oO Tryz.prog Rows.lifecycleClosedUptoRow.laid=true:=by kernel_rfl
noncomputable def laidW0 (os:Os):World :=
  { World.doorLaid Tryz.prog 72 os with heap:=(World.doorLaid Tryz.prog 72 os).heap.modify 1 fun
      | .cells _ t frozen=>.cells (Go.Ab.sM.map Go.Ab.GC.val).toArray t frozen
      | o=>o }
noncomputable def laidW (os:Os):World:=laidW0 os
theorem laid_met (os:Os):laidMetH Tryz.prog Rows.lifecycleClosedUptoRow.laid ((laidW os).forCall (λ _ _=>0) ⟨#[],#[.slice none 0 0],[]⟩).memory :=
  laidMetH_of_parts3 (fuel:=8) (laidMet_of_run' 8 (by kernel_rfl) (by kernel_rfl)) (by kernel_rfl) (by kernel_rfl)
theorem reads (os:Os){H:Type}(enc:TypeId×Value→H):(DataW.whole enc Tryz.prog ((laidW os).forCall (λ _ _=>0) ⟨#[],#[.slice none 0 0],[]⟩).memory Tryz.f5.params.toList Rows.lifecycleClosedSpec.vars false #[.slice none 0 0].toList 8).isSome=true:=by kernel_rfl
set_option maxRecDepth 100000 in
theorem small (os:Os){H:Type}(enc:TypeId×Value→H):(DataW.whole enc Tryz.prog ((laidW os).forCall (λ _ _=>0) ⟨#[],#[.slice none 0 0],[]⟩).memory Tryz.f5.params.toList Rows.lifecycleClosedSpec.vars false #[.slice none 0 0].toList 8).map (λ x=>Rows.uptoSmall H (x.1++x.2.1))=some true:=by kernel_rfl
set_option maxRecDepth 100000 in
theorem lifted (os:Os)(started:os.Started)(H:Type)(enc:TypeId×Value→H)(F:Stop.Interp) :
    ReturnsInHanded {} Tryz.checked os 5 .any ((Rows.OpenSpec.upto Rows.lifecycleClosedSpec).preRow enc Tryz.prog Tryz.f5 Rows.lifecycleClosedUptoRow.domain false Rows.lifecycleClosedUptoRow.laid) (((Rows.OpenSpec.upto Rows.lifecycleClosedSpec).at F).post enc Tryz.prog Tryz.f5 false true false false):=by
  obtain ⟨x,hx⟩:=Option.isSome_iff_exists.1 (reads os enc)
  refine returnsInHanded_of_row (C:=Tryz.checked) (s:=Rows.OpenSpec.upto Rows.lifecycleClosedSpec) own started (by kernel_rfl) Tryz.func5
    (witness_row_atRef (enc:=enc) (C:=Tryz.checked) false (laidW os) #[.slice none 0 0] rfl (by kernel_rfl) (by kernel_rfl) (by kernel_rfl)
      (OpenSpec.preRow_of_cond 8 hx rfl (λ k hk=>by cases hk; have q:=small os (H:=H) enc; rw [hx] at q; exact Option.some.inj q) (by kernel_rfl) (laid_met os))) ?_
  intro W base args ds gs before hval0 hW _ hcond hsz0 hL hsh _
  have hk:Rows.uptoSmall H (ds++gs)=true:=hcond _ rfl
  rw [MakeChecks.laidMetH_plain _ _ _ (by kernel_rfl)] at hL
  have hgl:=Go.Ab.p6 globs hL hsh
  have hval:∀ (j:Nat) t v,Tryz.f5.params[j]? = some t→args[j]? = some v→Value.okWide Tryz.prog W .any base t v:=hval0
  have hW':=hW
  obtain ⟨p,q,hA0,hV,rfl,hfz,hnd⟩:=hW
  have hA:DataW.TrodAll enc Tryz.prog W 0 (λ _=>true) true Tryz.f5.params.toList args.toList ds p:=hA0
  have hsz:(DataW.weightsEach Tryz.prog (Tryz.f5.params.toList++Rows.lifecycleClosedSpec.plain.varTypes Tryz.prog) (ds++gs)).all (·≤reachBytes)=true:=hsz0
  rw [Tryz.params5] at hA hval hsz
  obtain ⟨rfl,rfl⟩:=trodVars_none hV
  rw [List.append_nil] at hk
  clear hA0 hval0 hV hsz0
  rw [List.append_nil] at hsz
  have hA2:DataW.TrodAll enc Tryz.prog W 0 (λ _=>true) true [22] args.toList ds p:=hA
  have hlt:∀ x∈p,x.block < W.heap.size:=λ x hx=>hW'.lt x (List.mem_append_left _ hx)
  obtain ⟨qs,g1,g2,g3⟩:=Go.Ab.kD Go.Ab.good plain (by decide) (λ j t v hj hv=>hval j t v (by simpa using hj) (by simpa using hv)) hA2 (λ w hw=>upto_w closed (ts:=[22]) (by decide) hk hw)
  have hds:∃ d0,ds=[d0]:=by
    obtain ⟨v0,vs0,d0,ds0,p0,q0,_,e0,_,_,r0⟩:=trodAll_cons hA2
    obtain ⟨_,z,_⟩:=trodAll_nil r0
    exact ⟨d0,by rw [e0,z]⟩
  obtain ⟨d0,rfl⟩:=hds
  refine (Go.Ab.grown_of (Go.Ab.R06.xc qs g3) W hgl (by simpa using g1.symm) (λ i c v hc hv=>g2 i c v hc (by simpa using hv))).mono λ e W' ⟨he,hg⟩=>?_
  subst he
  exact ⟨_,rfl,Go.Ab.ml (pa:=p) (pv:=[]) hW' (λ _ _ _=>(trodAll_cons_mk (shut_bool Tryz.underlying4 _) trodAll_mk0)) (λ sp hsp=>Go.Ab.mh laid mapped full hg rowed hlt hA2 sp (λ x hx=>hsp x (List.mem_append_left _ hx))) (λ _ _=>rfl) rfl
    hg (ok_one (by kernel_rfl) rfl (okWide_bool_mk Tryz.underlying4 _))⟩
theorem said:Rows.LifecycleClosedUptoSaid :=
  OpenClaim.holds_of_cond 5 Tryz.f5 rfl rfl rfl rfl rfl rfl rfl ⟨rfl,rfl,rfl,rfl,rfl⟩ rfl rfl rfl rfl rfl (by kernel_rfl) Tryz.func5 (by kernel_rfl)
    (of_decide_eq_true (by kernel_rfl)) (by unfold Func.isWrapper; first | (rw [if_pos (by decide +kernel)]; kernel_rfl) | (rw [if_neg (by decide +kernel)]; exact ⟨rfl,rfl⟩))
    (λ os started H enc _ F=>by rw [OpenClaim.pre_eq_preRow]; exact lifted os started H enc F)
theorem plainly (f:FuncId)(fn:Func)(hf:Tryz.pinned.checked.prog.funcNamed "provision/provisionlaw43.LifecycleClosed" = some f) (hfn:Tryz.pinned.checked.prog.funcs[f]? = some fn) :
    true=Tryz.pinned.checked.prog.looks []∧∀ (j:Nat) t,fn.params[j]? = some t→Tryz.pinned.checked.prog.wantsStandIn t=false:=by
  obtain rfl:f=5:=Option.some.inj ((show Tryz.prog.funcNamed "provision/provisionlaw43.LifecycleClosed" = some 5 by kernel_rfl).symm.trans hf) |>.symm
  obtain rfl:fn=Tryz.f5:=(Option.some.inj (Tryz.func5.symm.trans hfn)).symm
  refine ⟨by kernel_rfl,λ j t ht=>?_⟩
  rw [Tryz.params5] at ht
  have hm:t∈([22]:List Nat):=by have:=Array.mem_of_getElem? ht; simp at this ⊢; omega
  have hall:(([22]:List Nat).all λ u=>!Tryz.prog.wantsStandIn u)=true:=by kernel_rfl
  exact (show Tryz.prog.wantsStandIn t=false by simpa using List.all_eq_true.1 hall t hm)
theorem proved:Rows.LifecycleClosedUptoCardSaid :=
  Claim7.holds_tied_plain_at .later [] _ _ _ _ said (λ _ h=>by cases h) (by kernel_rfl) (λ _ h=>by cases h) lifecycleClosedUpto_row_tie rfl ⟨rfl,rfl⟩ (by kernel_rfl) rfl plainly (by kernel_rfl)
#print axioms proved
end Go.Proofs.YtdhapbkkniegoaaGreatDoor.lifecycleClosed
end
