/- Texts of the proof, one behind the other. No statement is proved here. -/
import Derived.Test.YtdhapbkkniegoaaGreatDoorZ43a
import Derived.Test.YtdhapbkkniegoaaGreatDoorZ43b
import Derived.Test.YtdhapbkkniegoaaGreatDoorZ43c
import Derived.Test.YtdhapbkkniegoaaGreatDoorZ43d
import Derived.Test.YtdhapbkkniegoaaGreatDoorZ43e
section
set_option linter.unusedVariables false
set_option linter.unusedSimpArgs false
set_option linter.unnecessarySimpa false
namespace Go.Ab.R06
open Go.Proofs Go.Ab Go.Ab.RB
attribute [local irreducible] awp gO aY aB cD AV.sub M dh
def jU (c_0:aa):Option Bool :=
 (
   if c_0.fAction=3 then
    some c_0.fCreateFirst
   else
    some false
  : Option Bool).bind λ t2 =>
 some t2
set_option maxHeartbeats 4000000 in
theorem gZ (c_0:aa)(r:Bool)(h0:jU c_0=some r):aB Tryz.prog 33 [.agg (aa.cs c_0)] (·=.p (eB r)):=by
 unfold jU at h0
 refine aU good Tryz.func33 rfl rfl rfl λ w0=>mP (λ v:Bool=>.p (eB v)) ?_
 refine nx 6 rfl (bd h0 λ o4 h1 h0=>?_)
 refine kN o4 (λ v5=>⟨[(2,.p (eB v5))],[]⟩) ?_ ?_
 ·exact nx 2 rfl (mQ (oi h0) rfl (sr))
 refine nx 5 rfl (fD [5,6] h1 rfl (λ c1 h1=>?_) λ c1 h1=>?_)
 ·exact nx 5 rfl (eX _ (oi h1).symm (gE rfl rfl))
 exact nx 5 rfl (eX _ (oi h1).symm (gE rfl rfl))
def fI (l_0:List Bytes)(s_1:Bytes):Nat→Int→Option (Unit⊕Bool)
 | 0,_=>none
 | m+1,i6 =>
 if i6 < (l_0.length:Int) then
  ck ((0:Int)≤i6∧i6 < (l_0.length:Int)) <|
  if lat l_0 i6=s_1 then
   some (.inr true)
  else
   ck (inR (i6+1)) <|
   fI l_0 s_1 m (i6+1)
 else
  some (.inl ())
def kF (n:Nat)(l_0:List Bytes)(s_1:Bytes):Option Bool :=
 jn (fI l_0 s_1 n 0) λ q12 =>
 some false
set_option maxHeartbeats 4000000 in
theorem mM (n:Nat)(l_0:List Bytes)(s_1:Bytes)(r:Bool)(h0:kF n l_0 s_1=some r):aB Tryz.prog 40 [eL eS l_0,eS s_1] (·=.p (eB r)):=by
 unfold kF at h0
 refine aU good Tryz.func40 rfl rfl rfl λ w0=>mP (λ v:Bool=>.p (eB v)) ?_
 refine nx 10 rfl ?_
 obtain ⟨o13,h1,hL0,hR0⟩:=cU h0
 refine kEx 0 (λ v14:Unit=>o13=.inl v14) (λ v14=>⟨[],[]⟩) (λ v14 hv=>?_) ?_
 ·have h0:=hL0 _ hv
  exact nx 6 rfl (mQ (oi h0) rfl (sr))
 refine lG (λ (q15:Int)=>⟨[(0,.p (eL eS l_0)),(1,.p (eS s_1)),(5,.p (eI q15))],[]⟩) (λ m (q15:Int)=>fI l_0 s_1 m q15) (λ _=>rfl) 0 h1 (gE rfl rfl) ?_
 rintro m i6 h1
 replace h1:fI l_0 s_1 (m+1) i6=some o13:=h1
 rw [fI] at h1
 refine nx 5 rfl (oLl (f:=eS) rfl rfl ?_)
 refine nx 2 rfl (fD [9] h1 rfl (λ c7 h1=>?_) λ c7 h1=>?_)
 ·refine nx 8 rfl (oE h1 (λ _=>rfl) rfl rfl (λ _=>rfl) λ hk8 h1=>?_)
  refine nx 2 rfl (oS rfl rfl ?_)
  refine nx 1 rfl (fD [17] h1 rfl (λ c9 h1=>?_) λ c9 h1=>?_)
  ·exact nx 6 rfl (mQ (hR0 _ (oi h1).symm) rfl (sr))
  refine nx 4 rfl (oA h1 rfl rfl λ hk10 h1=>?_)
  exact nx 2 rfl (eX (i6+1) h1 (gE rfl rfl))
 exact nx 2 rfl (eXi _ (oi h1).symm (gE rfl rfl))
def gY (n:Nat)(a_0:aa)(b_1:aa):Option Bool :=
 (
   (fe n b_1).bind λ r1 =>
   (kF n a_0.fDeps r1).bind λ r3 =>
   if r3=true then
    some true
   else
    (fe n b_1).bind λ r6 =>
    (kF n a_0.fOldDeps r6).bind λ r8 =>
    some r8
  : Option Bool).bind λ t10 =>
 some t10
set_option maxHeartbeats 4000000 in
theorem nD (n:Nat)(a_0:aa)(b_1:aa)(r:Bool)(h0:gY n a_0 b_1=some r):aB Tryz.prog 34 [.agg (aa.cs a_0),.agg (aa.cs b_1)] (·=.p (eB r)):=by
 unfold gY at h0
 refine aU good Tryz.func34 rfl rfl rfl λ w0=>mP (λ v:Bool=>.p (eB v)) ?_
 refine nx 7 rfl (bd h0 λ o12 h1 h0=>?_)
 refine kN o12 (λ v13=>⟨[(4,.p (eB v13))],[]⟩) ?_ ?_
 ·exact nx 2 rfl (mQ (oi h0) rfl (sr))
 refine bd h1 λ r1 e2 h1=>bd h1 λ r3 e4 h1=>fB (p:=r3) [] h1 rfl (λ c5 h1=>?_) λ c5 h1=>?_
 ·refine mD [(2,.ptr 2 0),(3,.ptr 3 0)] rfl ⟨rfl,rfl,trivial⟩ rfl (dR 3 rfl ?_)
  refine dq (.p (eS r1)) [7] rfl (λ _ e _ q=>af rfl (aJ (gK _ b_1 _ e2) rfl rfl rfl (au (e _ _ rfl) aK) ⟨sr,trivial⟩ Tryz.call28 rfl q)) rfl (dq (.p (eB r3)) [6,8] rfl (λ _ e _ q=>af rfl (aJ (mM _ a_0.fDeps r1 _ e4) rfl rfl rfl (au (e _ _ rfl) (au (e _ _ rfl) aK)) ⟨sr,sr,trivial⟩ Tryz.call40 rfl q)) rfl ?_)
  refine dL (c5) rfl (dR 7 rfl ?_)
  refine dE rfl (nx 1 rfl ?_)
  exact eX _ (oi h1).symm (gE rfl rfl)
 refine bd h1 λ r6 e7 h1=>bd h1 λ r8 e9 h1=>mD [(2,.ptr 2 0),(3,.ptr 3 0)] rfl ⟨rfl,rfl,trivial⟩ rfl (dR 3 rfl ?_)
 refine dq (.p (eS r1)) [7] rfl (λ _ e _ q=>af rfl (aJ (gK _ b_1 _ e2) rfl rfl rfl (au (e _ _ rfl) aK) ⟨sr,trivial⟩ Tryz.call28 rfl q)) rfl (dq (.p (eB r3)) [6,8] rfl (λ _ e _ q=>af rfl (aJ (mM _ a_0.fDeps r1 _ e4) rfl rfl rfl (au (e _ _ rfl) (au (e _ _ rfl) aK)) ⟨sr,sr,trivial⟩ Tryz.call40 rfl q)) rfl ?_)
 refine dL (c5) rfl (dR 3 rfl ?_)
 refine dq (.p (eS r6)) [10,13] rfl (λ _ e _ q=>aA (aJ (gK _ b_1 _ e7) rfl rfl rfl (au (e _ _ rfl) aK) ⟨sr,trivial⟩ Tryz.call28 rfl q) rfl rfl (e _ _ rfl) (rfl)) rfl (dq (.p (eB r8)) [10,12,14] rfl (λ _ e _ q=>aA (aJ (mM _ a_0.fOldDeps r6 _ e9) rfl rfl rfl (au (e _ _ rfl) (au (e _ _ rfl) aK)) ⟨sr,sr,trivial⟩ Tryz.call40 rfl q) rfl rfl (e _ _ rfl) (rfl)) rfl ?_)
 refine dR 2 rfl (dE rfl ?_)
 exact nx 1 rfl (eX _ (oi h1).symm (gE rfl rfl))
def dY (n:Nat)(l_0:List aa)(i210:Int):Nat→Bool→Int→(List Bool)→Option (Bool×(List Bool))
 | 0,_,_,_=>none
 | m+1,more241,k242,l243 =>
 if k242 < (l_0.length:Int) then
  (
    (
      ck ((0:Int)≤i210∧i210 < (l_0.length:Int)) <|
      (jU (lat l_0 i210)).bind λ r246 =>
      if r246=true then
       ck ((0:Int)≤k242∧k242 < (l243.length:Int)) <|
       if (!(lat l243 k242))=true then
        ck ((0:Int)≤i210∧i210 < (l_0.length:Int)) <|
        ck ((0:Int)≤k242∧k242 < (l_0.length:Int)) <|
        (gY n (lat l_0 i210) (lat l_0 k242)).bind λ r253 =>
        some r253
       else
        some false
      else
       ck ((0:Int)≤i210∧i210 < (l243.length:Int)) <|
       if (lat l243 i210)=true then
        ck ((0:Int)≤k242∧k242 < (l243.length:Int)) <|
        if (!(lat l243 k242))=true then
         ck ((0:Int)≤i210∧i210 < (l_0.length:Int)) <|
         ck ((0:Int)≤k242∧k242 < (l_0.length:Int)) <|
         (gY n (lat l_0 i210) (lat l_0 k242)).bind λ r261 =>
         some r261
        else
         some false
       else
        some false
     : Option Bool).bind λ t263 =>
    if t263=true then
     ck ((0:Int)≤k242∧k242 < (l243.length:Int)) <|
     some (true,l243.set k242.toNat true)
    else
     some (more241,l243)
   : Option (Bool×(List Bool))).bind λ q288 =>
  ck (inR (k242+1)) <|
  dY n l_0 i210 m q288.1 (k242+1) q288.2
 else
  some (more241,l243)
def dX (n:Nat)(l_0:List aa):Nat→Bool→Int→(List Bool)→Option (Bool×(List Bool))
 | 0,_,_,_=>none
 | m+1,more209,i210,l211 =>
 if i210 < (l_0.length:Int) then
  (dY n l_0 i210 n more209 0 l211).bind λ q287 =>
  ck (inR (i210+1)) <|
  dX n l_0 m q287.1 (i210+1) q287.2
 else
  some (more209,l211)
def dS (n:Nat)(l_0:List aa):Nat→Int→(List Bool)→Option (List Bool)
 | 0,_,_=>none
 | m+1,round141,l142 =>
 if round141 < (l_0.length:Int) then
  (dX n l_0 n false 0 l142).bind λ q286 =>
  if (!q286.1)=true then
   some q286.2
  else
   ck (inR (round141+1)) <|
   dS n l_0 m (round141+1) q286.2
 else
  some l142
def ip (n:Nat)(l_0:List aa):Option (List Bool) :=
 ck ((0:Int)≤(l_0.length:Int)∧(l_0.length:Int)≤9223372036854775807∧(1:Int)*(l_0.length:Int)≤281474976710656) <|
 (dS n l_0 n 0 (List.replicate (l_0.length:Int).toNat (false:Bool))).bind λ l284 =>
 some l284
set_option maxHeartbeats 4000000 in
theorem qG (n:Nat)(l_0:List aa)(r:(List Bool))(h0:ip n l_0=some r):aB Tryz.prog 22 [eL ac l_0] (·=.p (eL eB r)):=by
 unfold ip at h0
 refine aU good Tryz.func22 rfl rfl rfl λ w0=>mP (λ v:(List Bool)=>.p (eL eB v)) ?_
 refine nx 7 rfl (oLl (f:=ac) rfl rfl ?_)
 refine cc' h0 λ hk1 h0=>mO rfl (sd eB (false:Bool) rfl rfl rfl rfl rfl rfl rfl rfl rfl rfl rfl hk1 ?_)
 refine nx 8 rfl (bd h0 λ o290 h1 h0=>?_)
 refine kE 0 o290 (λ v291=>⟨[(3,.arr 10 1 0 v291.length)],[(10,(v291.map eB).map .p)]⟩) ?_ ?_
 ·refine nx 6 rfl (mG (pk [2,3,63] (f:=eB) (l:=o290) rfl rfl rfl ⟨⟨_,rfl,rfl⟩,⟨_,rfl,rfl⟩,⟨_,rfl,rfl⟩,trivial⟩ (λ _=>⟨rfl,rfl⟩)) ?_)
  exact nx 1 rfl (mQ (oi h0) rfl (sr))
 refine lG (λ (q292:Int×(List Bool))=>⟨[(0,.p (eL ac l_0)),(3,.arr 10 1 0 q292.2.length),(4,.p (eI q292.1))],[(10,(q292.2.map eB).map .p)]⟩) (λ m (q292:Int×(List Bool))=>dS n l_0 m q292.1 q292.2) (λ _=>rfl) (0,List.replicate (l_0.length:Int).toNat (false:Bool)) h1 (aI (cb ⟨er rfl,⟨_,rfl,AV.sub_of_eq (by first | rfl | simp)⟩,er rfl,trivial⟩ ⟨⟨_,rfl,aG _⟩,trivial⟩)) ?_
 rintro m ⟨round141,l142⟩ h1
 replace h1:dS n l_0 (m+1) round141 l142=some o290:=h1
 rw [dS] at h1
 refine nx 5 rfl (oLl (f:=ac) rfl rfl ?_)
 refine nx 2 rfl (fD [14] h1 rfl (λ c143 h1=>?_) λ c143 h1=>?_)
 ·refine nx 14 rfl (bd h1 λ o293 h2 h1=>?_)
  refine kE 2 o293 (λ v294=>⟨[(0,.p (eL ac l_0)),(3,.arr 10 1 0 v294.2.length),(4,.p (eI round141)),(5,.p (eB v294.1))],[(10,(v294.2.map eB).map .p)]⟩) ?_ ?_
  ·refine nx 6 rfl (fB [62] h1 rfl (λ c280 h1=>?_) λ c280 h1=>?_)
   ·exact nx 2 rfl (eXi _ (oi h1).symm (aI (cb ⟨⟨_,rfl,AV.sub_of_eq (by first | rfl | simp)⟩,trivial⟩ ⟨⟨_,rfl,aG _⟩,trivial⟩)))
   refine nx 4 rfl (oA h1 rfl rfl λ hk281 h1=>?_)
   exact nx 2 rfl (eX (round141+1,o293.2) h1 (aI (cb ⟨er rfl,⟨_,rfl,AV.sub_of_eq (by first | rfl | simp)⟩,er rfl,trivial⟩ ⟨⟨_,rfl,aG _⟩,trivial⟩)))
  refine lG (λ (q295:Bool×Int×(List Bool))=>⟨[(0,.p (eL ac l_0)),(3,.arr 10 1 0 q295.2.2.length),(4,.p (eI round141)),(5,.p (eB q295.1)),(6,.p (eI q295.2.1))],[(10,(q295.2.2.map eB).map .p)]⟩) (λ m (q295:Bool×Int×(List Bool))=>dX n l_0 m q295.1 q295.2.1 q295.2.2) (λ _=>rfl) (false,0,l142) h2 (aI (cb ⟨er rfl,⟨_,rfl,AV.sub_of_eq (by first | rfl | simp)⟩,er rfl,er rfl,er rfl,trivial⟩ ⟨⟨_,rfl,aG _⟩,trivial⟩)) ?_
  rintro m ⟨more209,i210,l211⟩ h2
  replace h2:dX n l_0 (m+1) more209 i210 l211=some o293:=h2
  rw [dX] at h2
  refine nx 5 rfl (oLl (f:=ac) rfl rfl ?_)
  refine nx 2 rfl (fD [20] h2 rfl (λ c212 h2=>?_) λ c212 h2=>?_)
  ·refine nx 9 rfl (bd h2 λ o296 h3 h2=>?_)
   refine kE 4 o296 (λ v297=>⟨[(0,.p (eL ac l_0)),(3,.arr 10 1 0 v297.2.length),(4,.p (eI round141)),(5,.p (eB v297.1)),(6,.p (eI i210))],[(10,(v297.2.map eB).map .p)]⟩) ?_ ?_
   ·refine nx 3 rfl (oA h2 rfl rfl λ hk274 h2=>?_)
    exact nx 2 rfl (eX (o296.1,i210+1,o296.2) h2 (aI (cb ⟨er rfl,⟨_,rfl,AV.sub_of_eq (by first | rfl | simp)⟩,er rfl,er rfl,er rfl,trivial⟩ ⟨⟨_,rfl,aG _⟩,trivial⟩)))
   refine lG (λ (q298:Bool×Int×(List Bool))=>⟨[(0,.p (eL ac l_0)),(3,.arr 10 1 0 q298.2.2.length),(4,.p (eI round141)),(5,.p (eB q298.1)),(6,.p (eI i210)),(7,.p (eI q298.2.1))],[(10,(q298.2.2.map eB).map .p)]⟩) (λ m (q298:Bool×Int×(List Bool))=>dY n l_0 i210 m q298.1 q298.2.1 q298.2.2) (λ _=>rfl) (more209,0,l211) h3 (aI (cb ⟨er rfl,⟨_,rfl,AV.sub_of_eq (by first | rfl | simp)⟩,er rfl,er rfl,er rfl,er rfl,trivial⟩ ⟨⟨_,rfl,aG _⟩,trivial⟩)) ?_
   rintro m ⟨more241,k242,l243⟩ h3
   replace h3:dY n l_0 i210 (m+1) more241 k242 l243=some o296:=h3
   rw [dY] at h3
   refine nx 5 rfl (oLl (f:=ac) rfl rfl ?_)
   refine nx 2 rfl (fD [26] h3 rfl (λ c244 h3=>?_) λ c244 h3=>?_)
   ·refine nx 3 rfl (bd h3 λ o299 h4 h3=>?_)
    refine kN o299 (λ v300=>⟨[(0,.p (eL ac l_0)),(3,.arr 10 1 0 v300.2.length),(4,.p (eI round141)),(5,.p (eB v300.1)),(6,.p (eI i210)),(7,.p (eI k242))],[(10,(v300.2.map eB).map .p)]⟩) ?_ ?_
    ·refine nx 3 rfl (oA h3 rfl rfl λ hk268 h3=>?_)
     exact nx 2 rfl (eX (o299.1,k242+1,o299.2) h3 (aI (cb ⟨er rfl,⟨_,rfl,AV.sub_of_eq (by first | rfl | simp)⟩,er rfl,er rfl,er rfl,er rfl,trivial⟩ ⟨⟨_,rfl,aG _⟩,trivial⟩)))
    refine nx 2 rfl (bd h4 λ o301 h5 h4=>?_)
    refine kN o301 (λ v302=>⟨[(0,.p (eL ac l_0)),(3,.arr 10 1 0 l243.length),(4,.p (eI round141)),(5,.p (eB more241)),(6,.p (eI i210)),(7,.p (eI k242)),(57,.p (eB v302))],[(10,(l243.map eB).map .p)]⟩) ?_ ?_
    ·refine nx 1 rfl (fB [57] h4 rfl (λ c264 h4=>?_) λ c264 h4=>?_)
     ·refine nx 5 rfl (cc' h4 λ hk265 h4=>?_)
      refine mO rfl (bT rfl rfl rfl rfl rfl rfl rfl rfl rfl hk265 ?_)
      refine mO rfl (oN (f:=eB) (l:=l243) (b:=true) rfl rfl rfl rfl rfl rfl rfl rfl (by have:=hk265; omega) ?_)
      exact nx 4 rfl (eX _ (oi h4).symm (aI (cb ⟨er rfl,⟨_,rfl,AV.sub_of_eq (by first | rfl | simp)⟩,er rfl,er rfl,er rfl,er rfl,trivial⟩ ⟨⟨_,rfl,aG _⟩,trivial⟩)))
     exact nx 2 rfl (eX _ (oi h4).symm (aI (cb ⟨er rfl,⟨_,rfl,AV.sub_of_eq (by first | rfl | simp)⟩,er rfl,er rfl,er rfl,er rfl,trivial⟩ ⟨⟨_,rfl,aG _⟩,trivial⟩)))
    refine cc' h5 λ hk245 h5=>bd h5 λ r246 e247 h5=>fB (p:=r246) [] h5 rfl (λ c248 h5=>?_) λ c248 h5=>?_
    ·refine cc' h5 λ hk249 h5=>fB (p:=!(lat l243 k242)) [] h5 rfl (λ c250 h5=>?_) λ c250 h5=>?_
     ·refine cc' h5 λ hk251 h5=>cc' h5 λ hk252 h5=>bd h5 λ r253 e254 h5=>mD [(0,.p (eL ac l_0)),(3,.arr 10 1 0 l243.length),(4,.p (eI round141)),(5,.p (eB more241)),(6,.p (eI i210)),(7,.p (eI k242))] rfl ⟨rfl,rfl,rfl,rfl,rfl,rfl,trivial⟩ rfl (dR 2 rfl ?_)
      refine dq (.rptr (aa.cs (lat l_0 i210))) [29,30] rfl (λ _ e _ q=>af rfl (bf (f:=ac) (l:=l_0) aa.cs rfl rfl rfl rfl rfl rfl (e _ _ rfl) rfl (e _ _ rfl) hk245 aa.cells_eq (λ _=>rfl) q)) rfl (dR 1 rfl ?_)
      refine dq (.p (eB r246)) [32] rfl (λ _ e _ q=>af rfl (aJ (gZ (lat l_0 i210) _ e247) rfl rfl rfl (au (e _ _ rfl) aK) ⟨sr,trivial⟩ Tryz.call33 rfl q)) rfl (dL (c248) rfl ?_)
      refine dR 8 rfl (dq (.ptr 10 k242.toNat) [40,41,42] rfl (λ _ e _ q=>aA (bT rfl rfl rfl rfl rfl rfl (e _ _ rfl) (e _ _ rfl) rfl hk249 q) rfl rfl (e _ _ rfl) (rfl)) rfl ?_)
      refine dq (.p (eB (lat l243 k242))) [40,43] rfl (λ _ e _ q=>aA (ge (default:Bool) (f:=eB) (l:=l243) rfl rfl rfl rfl rfl (e _ _ rfl) rfl (by have:=hk249; omega) q) rfl rfl (e _ _ rfl) (rfl)) rfl (dL (c250) rfl ?_)
      refine dR 4 rfl (dq (.rptr (aa.cs (lat l_0 i210))) [47,48,49] rfl (λ _ e _ q=>aA (bf (f:=ac) (l:=l_0) aa.cs rfl rfl rfl rfl rfl rfl (e _ _ rfl) rfl (e _ _ rfl) hk251 aa.cells_eq (λ _=>rfl) q) rfl rfl (e _ _ rfl) (rfl)) rfl ?_)
      refine dR 3 rfl (dq (.rptr (aa.cs (lat l_0 k242))) [47,52,53] rfl (λ _ e _ q=>aA (bf (f:=ac) (l:=l_0) aa.cs rfl rfl rfl rfl rfl rfl (e _ _ rfl) rfl (e _ _ rfl) hk252 aa.cells_eq (λ _=>rfl) q) rfl rfl (e _ _ rfl) (rfl)) rfl ?_)
      refine dR 1 rfl (dq (.p (eB r253)) [47,51,55] rfl (λ _ e _ q=>aA (aJ (nD _ (lat l_0 i210) (lat l_0 k242) _ e254) rfl rfl rfl (au (e _ _ rfl) (au (e _ _ rfl) aK)) ⟨sr,sr,trivial⟩ Tryz.call34 rfl q) rfl rfl (e _ _ rfl) (rfl)) rfl ?_)
      refine dR 1 rfl (dE rfl ?_)
      exact nx 1 rfl (eX _ (oi h5).symm (gE rfl rfl))
     refine mD [(0,.p (eL ac l_0)),(3,.arr 10 1 0 l243.length),(4,.p (eI round141)),(5,.p (eB more241)),(6,.p (eI i210)),(7,.p (eI k242))] rfl ⟨rfl,rfl,rfl,rfl,rfl,rfl,trivial⟩ rfl (dR 2 rfl ?_)
     refine dq (.rptr (aa.cs (lat l_0 i210))) [29,30] rfl (λ _ e _ q=>af rfl (bf (f:=ac) (l:=l_0) aa.cs rfl rfl rfl rfl rfl rfl (e _ _ rfl) rfl (e _ _ rfl) hk245 aa.cells_eq (λ _=>rfl) q)) rfl (dR 1 rfl ?_)
     refine dq (.p (eB r246)) [32] rfl (λ _ e _ q=>af rfl (aJ (gZ (lat l_0 i210) _ e247) rfl rfl rfl (au (e _ _ rfl) aK) ⟨sr,trivial⟩ Tryz.call33 rfl q)) rfl (dL (c248) rfl ?_)
     refine dR 8 rfl (dq (.ptr 10 k242.toNat) [40,41,42] rfl (λ _ e _ q=>aA (bT rfl rfl rfl rfl rfl rfl (e _ _ rfl) (e _ _ rfl) rfl hk249 q) rfl rfl (e _ _ rfl) (rfl)) rfl ?_)
     refine dq (.p (eB (lat l243 k242))) [40,43] rfl (λ _ e _ q=>aA (ge (default:Bool) (f:=eB) (l:=l243) rfl rfl rfl rfl rfl (e _ _ rfl) rfl (by have:=hk249; omega) q) rfl rfl (e _ _ rfl) (rfl)) rfl (dL (c250) rfl ?_)
     refine dR 12 rfl (dE rfl ?_)
     exact nx 1 rfl (eX _ (oi h5).symm (gE rfl rfl))
    refine cc' h5 λ hk255 h5=>fB (p:=lat l243 i210) [] h5 rfl (λ c256 h5=>?_) λ c256 h5=>?_
    ·refine cc' h5 λ hk257 h5=>fB (p:=!(lat l243 k242)) [] h5 rfl (λ c258 h5=>?_) λ c258 h5=>?_
     ·refine cc' h5 λ hk259 h5=>cc' h5 λ hk260 h5=>bd h5 λ r261 e262 h5=>mD [(0,.p (eL ac l_0)),(3,.arr 10 1 0 l243.length),(4,.p (eI round141)),(5,.p (eB more241)),(6,.p (eI i210)),(7,.p (eI k242))] rfl ⟨rfl,rfl,rfl,rfl,rfl,rfl,trivial⟩ rfl (dR 2 rfl ?_)
      refine dq (.rptr (aa.cs (lat l_0 i210))) [29,30] rfl (λ _ e _ q=>af rfl (bf (f:=ac) (l:=l_0) aa.cs rfl rfl rfl rfl rfl rfl (e _ _ rfl) rfl (e _ _ rfl) hk245 aa.cells_eq (λ _=>rfl) q)) rfl (dR 1 rfl ?_)
      refine dq (.p (eB r246)) [32] rfl (λ _ e _ q=>af rfl (aJ (gZ (lat l_0 i210) _ e247) rfl rfl rfl (au (e _ _ rfl) aK) ⟨sr,trivial⟩ Tryz.call33 rfl q)) rfl (dL (c248) rfl ?_)
      refine dR 2 rfl (dq (.ptr 10 i210.toNat) [34,35,36] rfl (λ _ e _ q=>aA (bT rfl rfl rfl rfl rfl rfl (e _ _ rfl) (e _ _ rfl) rfl hk255 q) rfl rfl (e _ _ rfl) (rfl)) rfl ?_)
      refine dq (.p (eB (lat l243 i210))) [34,37] rfl (λ _ e _ q=>aA (ge (default:Bool) (f:=eB) (l:=l243) rfl rfl rfl rfl rfl (e _ _ rfl) rfl (by have:=hk255; omega) q) rfl rfl (e _ _ rfl) (rfl)) rfl (dL (c256) rfl ?_)
      refine dR 3 rfl (dq (.ptr 10 k242.toNat) [40,41,42] rfl (λ _ e _ q=>aA (bT rfl rfl rfl rfl rfl rfl (e _ _ rfl) (e _ _ rfl) rfl hk257 q) rfl rfl (e _ _ rfl) (rfl)) rfl ?_)
      refine dq (.p (eB (lat l243 k242))) [40,43] rfl (λ _ e _ q=>aA (ge (default:Bool) (f:=eB) (l:=l243) rfl rfl rfl rfl rfl (e _ _ rfl) rfl (by have:=hk257; omega) q) rfl rfl (e _ _ rfl) (rfl)) rfl (dL (c258) rfl ?_)
      refine dR 4 rfl (dq (.rptr (aa.cs (lat l_0 i210))) [47,48,49] rfl (λ _ e _ q=>aA (bf (f:=ac) (l:=l_0) aa.cs rfl rfl rfl rfl rfl rfl (e _ _ rfl) rfl (e _ _ rfl) hk259 aa.cells_eq (λ _=>rfl) q) rfl rfl (e _ _ rfl) (rfl)) rfl ?_)
      refine dR 3 rfl (dq (.rptr (aa.cs (lat l_0 k242))) [47,52,53] rfl (λ _ e _ q=>aA (bf (f:=ac) (l:=l_0) aa.cs rfl rfl rfl rfl rfl rfl (e _ _ rfl) rfl (e _ _ rfl) hk260 aa.cells_eq (λ _=>rfl) q) rfl rfl (e _ _ rfl) (rfl)) rfl ?_)
      refine dR 1 rfl (dq (.p (eB r261)) [47,51,55] rfl (λ _ e _ q=>aA (aJ (nD _ (lat l_0 i210) (lat l_0 k242) _ e262) rfl rfl rfl (au (e _ _ rfl) (au (e _ _ rfl) aK)) ⟨sr,sr,trivial⟩ Tryz.call34 rfl q) rfl rfl (e _ _ rfl) (rfl)) rfl ?_)
      refine dR 1 rfl (dE rfl ?_)
      exact nx 1 rfl (eX _ (oi h5).symm (gE rfl rfl))
     refine mD [(0,.p (eL ac l_0)),(3,.arr 10 1 0 l243.length),(4,.p (eI round141)),(5,.p (eB more241)),(6,.p (eI i210)),(7,.p (eI k242))] rfl ⟨rfl,rfl,rfl,rfl,rfl,rfl,trivial⟩ rfl (dR 2 rfl ?_)
     refine dq (.rptr (aa.cs (lat l_0 i210))) [29,30] rfl (λ _ e _ q=>af rfl (bf (f:=ac) (l:=l_0) aa.cs rfl rfl rfl rfl rfl rfl (e _ _ rfl) rfl (e _ _ rfl) hk245 aa.cells_eq (λ _=>rfl) q)) rfl (dR 1 rfl ?_)
     refine dq (.p (eB r246)) [32] rfl (λ _ e _ q=>af rfl (aJ (gZ (lat l_0 i210) _ e247) rfl rfl rfl (au (e _ _ rfl) aK) ⟨sr,trivial⟩ Tryz.call33 rfl q)) rfl (dL (c248) rfl ?_)
     refine dR 2 rfl (dq (.ptr 10 i210.toNat) [34,35,36] rfl (λ _ e _ q=>aA (bT rfl rfl rfl rfl rfl rfl (e _ _ rfl) (e _ _ rfl) rfl hk255 q) rfl rfl (e _ _ rfl) (rfl)) rfl ?_)
     refine dq (.p (eB (lat l243 i210))) [34,37] rfl (λ _ e _ q=>aA (ge (default:Bool) (f:=eB) (l:=l243) rfl rfl rfl rfl rfl (e _ _ rfl) rfl (by have:=hk255; omega) q) rfl rfl (e _ _ rfl) (rfl)) rfl (dL (c256) rfl ?_)
     refine dR 3 rfl (dq (.ptr 10 k242.toNat) [40,41,42] rfl (λ _ e _ q=>aA (bT rfl rfl rfl rfl rfl rfl (e _ _ rfl) (e _ _ rfl) rfl hk257 q) rfl rfl (e _ _ rfl) (rfl)) rfl ?_)
     refine dq (.p (eB (lat l243 k242))) [40,43] rfl (λ _ e _ q=>aA (ge (default:Bool) (f:=eB) (l:=l243) rfl rfl rfl rfl rfl (e _ _ rfl) rfl (by have:=hk257; omega) q) rfl rfl (e _ _ rfl) (rfl)) rfl (dL (c258) rfl ?_)
     refine dR 12 rfl (dE rfl ?_)
     exact nx 1 rfl (eX _ (oi h5).symm (gE rfl rfl))
    refine mD [(0,.p (eL ac l_0)),(3,.arr 10 1 0 l243.length),(4,.p (eI round141)),(5,.p (eB more241)),(6,.p (eI i210)),(7,.p (eI k242))] rfl ⟨rfl,rfl,rfl,rfl,rfl,rfl,trivial⟩ rfl (dR 2 rfl ?_)
    refine dq (.rptr (aa.cs (lat l_0 i210))) [29,30] rfl (λ _ e _ q=>af rfl (bf (f:=ac) (l:=l_0) aa.cs rfl rfl rfl rfl rfl rfl (e _ _ rfl) rfl (e _ _ rfl) hk245 aa.cells_eq (λ _=>rfl) q)) rfl (dR 1 rfl ?_)
    refine dq (.p (eB r246)) [32] rfl (λ _ e _ q=>af rfl (aJ (gZ (lat l_0 i210) _ e247) rfl rfl rfl (au (e _ _ rfl) aK) ⟨sr,trivial⟩ Tryz.call33 rfl q)) rfl (dL (c248) rfl ?_)
    refine dR 2 rfl (dq (.ptr 10 i210.toNat) [34,35,36] rfl (λ _ e _ q=>aA (bT rfl rfl rfl rfl rfl rfl (e _ _ rfl) (e _ _ rfl) rfl hk255 q) rfl rfl (e _ _ rfl) (rfl)) rfl ?_)
    refine dq (.p (eB (lat l243 i210))) [34,37] rfl (λ _ e _ q=>aA (ge (default:Bool) (f:=eB) (l:=l243) rfl rfl rfl rfl rfl (e _ _ rfl) rfl (by have:=hk255; omega) q) rfl rfl (e _ _ rfl) (rfl)) rfl (dL (c256) rfl ?_)
    refine dR 18 rfl (dE rfl ?_)
    exact nx 1 rfl (eX _ (oi h5).symm (gE rfl rfl))
   exact nx 2 rfl (eXi _ (oi h3).symm (aI (cb ⟨er rfl,⟨_,rfl,AV.sub_of_eq (by first | rfl | simp)⟩,er rfl,er rfl,er rfl,trivial⟩ ⟨⟨_,rfl,aG _⟩,trivial⟩)))
  exact nx 2 rfl (eXi _ (oi h2).symm (aI (cb ⟨er rfl,⟨_,rfl,AV.sub_of_eq (by first | rfl | simp)⟩,er rfl,er rfl,trivial⟩ ⟨⟨_,rfl,aG _⟩,trivial⟩)))
 exact nx 2 rfl (eXi _ (oi h1).symm (aI (cb ⟨⟨_,rfl,AV.sub_of_eq (by first | rfl | simp)⟩,trivial⟩ ⟨⟨_,rfl,aG _⟩,trivial⟩)))
def cG (l_0:List aa)(r1:(List Bool)):Nat→(List aa)→Int→Option (List aa)
 | 0,_,_=>none
 | m+1,out14,i15 =>
 if i15 < (l_0.length:Int) then
  ck ((0:Int)≤i15∧i15 < (l_0.length:Int)) <|
  (
    (
      ck ((0:Int)≤i15∧i15 < (r1.length:Int)) <|
      if (lat r1 i15)=true then
       some (decide ((lat l_0 i15).fAction=3))
      else
       some false
     : Option Bool).bind λ t20 =>
    if t20=true then
     some true
    else
     some ((lat l_0 i15).fCreateFirst)
   : Option Bool).bind λ f22 =>
  ck ((out14.length+[(aa.mk ((lat l_0 i15).fAddr) ((lat l_0 i15).fDeposed) ((lat l_0 i15).fType) ((lat l_0 i15).fAction) ((lat l_0 i15).fReason) ((lat l_0 i15).fBefore) ((lat l_0 i15).fAfter) ((lat l_0 i15).fID) ((lat l_0 i15).fReplace) f22 ((lat l_0 i15).fProtect) ((lat l_0 i15).fImport) ((lat l_0 i15).fDeps) ((lat l_0 i15).fOldDeps))].length)*320≤140737488355328) <|
  ck (inR (i15+1)) <|
  cG l_0 r1 m (out14++[(aa.mk ((lat l_0 i15).fAddr) ((lat l_0 i15).fDeposed) ((lat l_0 i15).fType) ((lat l_0 i15).fAction) ((lat l_0 i15).fReason) ((lat l_0 i15).fBefore) ((lat l_0 i15).fAfter) ((lat l_0 i15).fID) ((lat l_0 i15).fReplace) f22 ((lat l_0 i15).fProtect) ((lat l_0 i15).fImport) ((lat l_0 i15).fDeps) ((lat l_0 i15).fOldDeps))]) (i15+1)
 else
  some out14
def gu (n:Nat)(l_0:List aa):Option (List aa) :=
 (ip n l_0).bind λ r1 =>
 (cG l_0 r1 n [] 0).bind λ out27 =>
 some out27
set_option maxHeartbeats 4000000 in
theorem pB (n:Nat)(l_0:List aa)(r:(List aa))(h0:gu n l_0=some r):aB Tryz.prog 11 [eL ac l_0] (·=.p (eL ac r)):=by
 unfold gu at h0
 refine aU good Tryz.func11 rfl rfl rfl λ w0=>mP (λ v:(List aa)=>.p (eL ac v)) ?_
 refine nx 7 rfl (bd h0 λ r1 e2 h0=>?_)
 refine oK (qG _ l_0 _ e2) rfl ⟨sr,trivial⟩ Tryz.call22 rfl (nx 12 rfl ?_)
 refine bd h0 λ o31 h1 h0=>kE 0 o31 (λ v32=>⟨[(4,.vec 32 22 0 (v32.map ac))],[]⟩) ?_ ?_
 ·exact nx 7 rfl (mQ (oi h0) rfl (AV.sub_vec _ _ _ _))
 refine lG (λ (q33:(List aa)×Int)=>⟨[(0,.p (eL ac l_0)),(3,.p (eL eB r1)),(4,.vec 32 22 0 (q33.1.map ac)),(5,.p (eI q33.2))],[]⟩) (λ m (q33:(List aa)×Int)=>cG l_0 r1 m q33.1 q33.2) (λ _=>rfl) ([],0) h1 (aI (cb ⟨er rfl,er rfl,⟨_,rfl,AV.sub_nilvec _ _ _⟩,er rfl,trivial⟩ trivial)) ?_
 rintro m ⟨out14,i15⟩ h1
 replace h1:cG l_0 r1 (m+1) out14 i15=some o31:=h1
 rw [cG] at h1
 refine nx 5 rfl (oLl (f:=ac) rfl rfl ?_)
 refine nx 2 rfl (fD [12] h1 rfl (λ c16 h1=>?_) λ c16 h1=>?_)
 ·refine nx 8 rfl (oE h1 aa.cells_eq rfl rfl (λ _=>rfl) λ hk17 h1=>?_)
  refine nx 5 rfl (bd h1 λ o34 h2 h1=>?_)
  refine kN o34 (λ v35=>⟨[(0,.p (eL ac l_0)),(3,.p (eL eB r1)),(4,.vec 32 22 0 (out14.map ac)),(5,.p (eI i15)),(6,.ptr 6 0)],[(6,[.p (eS ((lat l_0 i15).fAddr)),.p (eS ((lat l_0 i15).fDeposed)),.p (eS ((lat l_0 i15).fType)),.p (eI ((lat l_0 i15).fAction)),.p (eI ((lat l_0 i15).fReason)),.p (eI (((lat l_0 i15).fBefore).fKind)),.p (eI (((lat l_0 i15).fBefore).fNum)),.p (eS (((lat l_0 i15).fBefore).fStr)),.p (eL aQ (((lat l_0 i15).fBefore).fItems)),.p (eL eS (((lat l_0 i15).fBefore).fKeys)),.p (eI (((lat l_0 i15).fAfter).fKind)),.p (eI (((lat l_0 i15).fAfter).fNum)),.p (eS (((lat l_0 i15).fAfter).fStr)),.p (eL aQ (((lat l_0 i15).fAfter).fItems)),.p (eL eS (((lat l_0 i15).fAfter).fKeys)),.p (eS ((lat l_0 i15).fID)),.p (eL eS ((lat l_0 i15).fReplace)),.p (eB v35),.p (eB ((lat l_0 i15).fProtect)),.p (eB ((lat l_0 i15).fImport)),.p (eL eS ((lat l_0 i15).fDeps)),.p (eL eS ((lat l_0 i15).fOldDeps))])]⟩) ?_ ?_
  ·refine nx 4 rfl (mO rfl (bS ac [(aa.mk ((lat l_0 i15).fAddr) ((lat l_0 i15).fDeposed) ((lat l_0 i15).fType) ((lat l_0 i15).fAction) ((lat l_0 i15).fReason) ((lat l_0 i15).fBefore) ((lat l_0 i15).fAfter) ((lat l_0 i15).fID) ((lat l_0 i15).fReplace) o34 ((lat l_0 i15).fProtect) ((lat l_0 i15).fImport) ((lat l_0 i15).fDeps) ((lat l_0 i15).fOldDeps))] rfl rfl rfl rfl rfl rfl rfl rfl rfl rfl rfl rfl rfl (by first | rfl | (simp only [List.map_cons,List.map_nil,aa.agg_eq]; done) | (simp only [List.map_cons,List.map_nil,aa.agg_eq]; rfl)) ?_))
   refine cc' h1 λ hk23 h1=>mO rfl (fp ac out14 [(aa.mk ((lat l_0 i15).fAddr) ((lat l_0 i15).fDeposed) ((lat l_0 i15).fType) ((lat l_0 i15).fAction) ((lat l_0 i15).fReason) ((lat l_0 i15).fBefore) ((lat l_0 i15).fAfter) ((lat l_0 i15).fID) ((lat l_0 i15).fReplace) o34 ((lat l_0 i15).fProtect) ((lat l_0 i15).fImport) ((lat l_0 i15).fDeps) ((lat l_0 i15).fOldDeps))] rfl rfl rfl rfl rfl rfl rfl rfl rfl rfl rfl rfl rfl (λ x=>congrArg List.length (aa.cells_eq x)) rfl rfl rfl rfl hk23 ?_)
   refine nx 4 rfl (oA h1 rfl rfl λ hk24 h1=>?_)
   exact nx 2 rfl (eX (out14++[(aa.mk ((lat l_0 i15).fAddr) ((lat l_0 i15).fDeposed) ((lat l_0 i15).fType) ((lat l_0 i15).fAction) ((lat l_0 i15).fReason) ((lat l_0 i15).fBefore) ((lat l_0 i15).fAfter) ((lat l_0 i15).fID) ((lat l_0 i15).fReplace) o34 ((lat l_0 i15).fProtect) ((lat l_0 i15).fImport) ((lat l_0 i15).fDeps) ((lat l_0 i15).fOldDeps))],i15+1) h1 (gE rfl rfl))
  refine nx 1 rfl (bd h2 λ o36 h3 h2=>?_)
  refine kN o36 (λ v37=>⟨[(0,.p (eL ac l_0)),(3,.p (eL eB r1)),(4,.vec 32 22 0 (out14.map ac)),(5,.p (eI i15)),(6,.ptr 6 0),(27,.p (eB v37))],[(6,(aa.cs (lat l_0 i15)).map .p)]⟩) ?_ ?_
  ·refine nx 1 rfl (fB [27] h2 rfl (λ c21 h2=>?_) λ c21 h2=>?_)
   ·exact nx 5 rfl (eX _ (oi h2).symm (gE rfl rfl))
   exact nx 2 rfl (eX _ (oi h2).symm (gE rfl rfl))
  refine nx 3 rfl (oE h3 (λ _=>rfl) rfl rfl (λ _=>rfl) λ hk18 h3=>?_)
  refine nx 2 rfl (fB [22,23] h3 rfl (λ c19 h3=>?_) λ c19 h3=>?_)
  ·exact nx 5 rfl (eX _ (oi h3).symm (gE rfl rfl))
  exact nx 5 rfl (eX _ (oi h3).symm (gE rfl rfl))
 exact nx 2 rfl (eXi _ (oi h1).symm (gE rfl rfl))
def d8 (a_0:ah)(b_1:ah):Nat→Int→Option (Unit⊕Bool)
 | 0,_=>none
 | m+1,i13 =>
 if i13 < (a_0.fKeys.length:Int) then
  ck ((0:Int)≤i13∧i13 < (a_0.fKeys.length:Int)) <|
  ck ((0:Int)≤i13∧i13 < (b_1.fKeys.length:Int)) <|
  if lat a_0.fKeys i13=lat b_1.fKeys i13 then
   ck (inR (i13+1)) <|
   d8 a_0 b_1 m (i13+1)
  else
   some (.inr false)
 else
  some (.inl ())
def ed (r_ref07_Equal:ah→ah→Option Bool)(a_0:ah)(b_1:ah):Nat→Int→Option (Unit⊕Bool)
 | 0,_=>none
 | m+1,i28 =>
 if i28 < (a_0.fItems.length:Int) then
  ck ((0:Int)≤i28∧i28 < (a_0.fItems.length:Int)) <|
  ck ((0:Int)≤i28∧i28 < (b_1.fItems.length:Int)) <|
  (r_ref07_Equal (lat a_0.fItems i28) (lat b_1.fItems i28)).bind λ r32 =>
  if (!r32)=true then
   some (.inr false)
  else
   ck (inR (i28+1)) <|
   ed r_ref07_Equal a_0 b_1 m (i28+1)
 else
  some (.inl ())
def ew:Nat→ah→ah→Option Bool
 | 0,_,_=>none
 | n+1,a_0,b_1 =>
 (
   if a_0.fKind=b_1.fKind then
    if a_0.fNum=b_1.fNum then
     if a_0.fStr=b_1.fStr then
      if (a_0.fItems.length:Int)=(b_1.fItems.length:Int) then
       some (!decide ((a_0.fKeys.length:Int)=(b_1.fKeys.length:Int)))
      else
       some true
     else
      some true
    else
     some true
   else
    some true
  : Option Bool).bind λ t5 =>
 if t5=true then
  some false
 else
  jn (d8 a_0 b_1 n 0) λ q38 =>
  jn (ed (ew n) a_0 b_1 n 0) λ q39 =>
  some true
set_option maxHeartbeats 4000000 in
theorem nP (n:Nat):∀ (a_0:ah) (b_1:ah) (r:Bool),ew n a_0 b_1=some r→aB Tryz.prog 23 [.agg (ah.cs a_0),.agg (ah.cs b_1)] (·=.p (eB r)):=by
 induction n with
 | zero=>intro a_0 b_1 r h0; cases h0
 | succ n ih =>
 have ih_ref07_Equal_ok:=ih
 intro a_0 b_1 r h0
 rw [ew] at h0
 refine aU good Tryz.func23 rfl rfl rfl λ w0=>mP (λ v:Bool=>.p (eB v)) ?_
 refine nx 8 rfl (bd h0 λ o40 h1 h0=>?_)
 refine kN o40 (λ v41=>⟨[(2,.ptr 2 0),(3,.ptr 3 0),(43,.p (eB v41))],[(2,(ah.cs a_0).map .p),(3,(ah.cs b_1).map .p)]⟩) ?_ ?_
 ·refine nx 1 rfl (fB [43] h0 rfl (λ c6 h0=>?_) λ c6 h0=>?_)
  ·exact nx 6 rfl (mQ (oi h0) rfl (sr))
  refine nx 8 rfl ?_
  obtain ⟨o42,h1,hL0,hR0⟩:=cU h0
  refine kEx 0 (λ v43:Unit=>o42=.inl v43) (λ v43=>⟨[(2,.ptr 2 0),(3,.ptr 3 0)],[(2,(ah.cs a_0).map .p),(3,(ah.cs b_1).map .p)]⟩) (λ v43 hv=>?_) ?_
  ·have h0:=hL0 _ hv
   refine nx 7 rfl ?_
   obtain ⟨o44,h1,hL0,hR0⟩:=cU h0
   refine kEx 2 (λ v45:Unit=>o44=.inl v45) (λ v45=>⟨[],[]⟩) (λ v45 hv=>?_) ?_
   ·have h0:=hL0 _ hv
    exact nx 6 rfl (mQ (oi h0) rfl (sr))
   refine lG (λ (q46:Int)=>⟨[(2,.ptr 2 0),(3,.ptr 3 0),(6,.p (eI q46))],[(2,(ah.cs a_0).map .p),(3,(ah.cs b_1).map .p)]⟩) (λ m (q46:Int)=>ed (ew n) a_0 b_1 m q46) (λ _=>rfl) 0 h1 (gE rfl rfl) ?_
   rintro m i28 h1
   replace h1:ed (ew n) a_0 b_1 (m+1) i28=some o44:=h1
   rw [ed] at h1
   refine nx 6 rfl (oLl (f:=aQ) rfl rfl ?_)
   refine nx 2 rfl (fD [66] h1 rfl (λ c29 h1=>?_) λ c29 h1=>?_)
   ·refine nx 5 rfl (cc' h1 λ hk30 h1=>?_)
    refine cc' h1 λ hk31 h1=>bd h1 λ r32 e33 h1=>mD [(2,.ptr 2 0),(3,.ptr 3 0),(6,.p (eI i28))] rfl ⟨rfl,rfl,rfl,trivial⟩ rfl (dR 3 rfl ?_)
    refine dq (.rptr (ah.cs (lat a_0.fItems i28))) [70,71] rfl (λ _ e _ q=>af rfl (bf (f:=aQ) (l:=a_0.fItems) ah.cs rfl rfl rfl rfl rfl rfl (e _ _ rfl) rfl (e _ _ rfl) hk30 ah.cells_eq (λ _=>rfl) q)) rfl (dR 4 rfl ?_)
    refine dq (.rptr (ah.cs (lat b_1.fItems i28))) [75,76] rfl (λ _ e _ q=>af rfl (bf (f:=aQ) (l:=b_1.fItems) ah.cs rfl rfl rfl rfl rfl rfl (e _ _ rfl) rfl (e _ _ rfl) hk31 ah.cells_eq (λ _=>rfl) q)) rfl (dR 1 rfl ?_)
    refine dq (.p (eB r32)) [73,78] rfl (λ _ e _ q=>af rfl (aJ (ih_ref07_Equal_ok (lat a_0.fItems i28) (lat b_1.fItems i28) _ e33) rfl rfl rfl (au (e _ _ rfl) (au (e _ _ rfl) aK)) ⟨sr,sr,trivial⟩ Tryz.call23 rfl q)) rfl (dR 1 rfl ?_)
    refine dE rfl (nx 1 rfl ?_)
    refine fB [80] h1 rfl (λ c34 h1=>?_) λ c34 h1=>?_
    ·exact nx 6 rfl (mQ (hR0 _ (oi h1).symm) rfl (sr))
    refine nx 4 rfl (oA h1 rfl rfl λ hk35 h1=>?_)
    exact nx 2 rfl (eX (i28+1) h1 (gE rfl rfl))
   exact nx 2 rfl (eXi _ (oi h1).symm (gE rfl rfl))
  refine lG (λ (q47:Int)=>⟨[(2,.ptr 2 0),(3,.ptr 3 0),(5,.p (eI q47))],[(2,(ah.cs a_0).map .p),(3,(ah.cs b_1).map .p)]⟩) (λ m (q47:Int)=>d8 a_0 b_1 m q47) (λ _=>rfl) 0 h1 (gE rfl rfl) ?_
  rintro m i13 h1
  replace h1:d8 a_0 b_1 (m+1) i13=some o42:=h1
  rw [d8] at h1
  refine nx 6 rfl (oLl (f:=eS) rfl rfl ?_)
  refine nx 2 rfl (fD [48] h1 rfl (λ c14 h1=>?_) λ c14 h1=>?_)
  ·refine nx 5 rfl (cc' h1 λ hk15 h1=>?_)
   refine cc' h1 λ hk16 h1=>mD [(2,.ptr 2 0),(3,.ptr 3 0),(5,.p (eI i13))] rfl ⟨rfl,rfl,rfl,trivial⟩ rfl (dR 3 rfl ?_)
   refine dq (.rptr [eS (lat a_0.fKeys i13)]) [52,53] rfl (λ _ e _ q=>af rfl (bf (f:=eS) (l:=a_0.fKeys) (λ x=>[eS x]) rfl rfl rfl rfl rfl rfl (e _ _ rfl) rfl (e _ _ rfl) hk15 (λ _=>rfl) (λ _=>rfl) q)) rfl (dR 4 rfl ?_)
   refine dq (.rptr [eS (lat b_1.fKeys i13)]) [57,58] rfl (λ _ e _ q=>af rfl (bf (f:=eS) (l:=b_1.fKeys) (λ x=>[eS x]) rfl rfl rfl rfl rfl rfl (e _ _ rfl) rfl (e _ _ rfl) hk16 (λ _=>rfl) (λ _=>rfl) q)) rfl (dR 1 rfl ?_)
   refine dq (.p (eB (!decide (lat a_0.fKeys i13=lat b_1.fKeys i13)))) [55,60] rfl (λ _ e _ q=>af rfl (ks rfl rfl rfl (e _ _ rfl) (e _ _ rfl) rfl q)) rfl (dE rfl ?_)
   refine nx 1 rfl (fN [61] h1 rfl (λ c17 h1=>?_) λ c17 h1=>?_)
   ·refine nx 4 rfl (oA h1 rfl rfl λ hk18 h1=>?_)
    exact nx 2 rfl (eX (i13+1) h1 (gE rfl rfl))
   exact nx 6 rfl (mQ (hR0 _ (oi h1).symm) rfl (sr))
  exact nx 2 rfl (eXi _ (oi h1).symm (gE rfl rfl))
 refine nx 7 rfl (fN [11,12] h1 rfl (λ c1 h1=>?_) λ c1 h1=>?_)
 ·refine nx 7 rfl (fN [17,18,19] h1 rfl (λ c2 h1=>?_) λ c2 h1=>?_)
  ·refine nx 4 rfl (oS rfl rfl ?_)
   refine nx 2 rfl (fN [24,25,26] h1 rfl (λ c3 h1=>?_) λ c3 h1=>?_)
   ·refine nx 2 rfl (oLl (f:=aQ) rfl rfl ?_)
    refine nx 2 rfl (oLl (f:=aQ) rfl rfl ?_)
    refine nx 3 rfl (fN [33,34,35] h1 rfl (λ c4 h1=>?_) λ c4 h1=>?_)
    ·refine nx 2 rfl (oLl (f:=eS) rfl rfl ?_)
     refine nx 2 rfl (oLl (f:=eS) rfl rfl ?_)
     exact nx 3 rfl (eX _ (oi h1).symm (gE rfl rfl))
    exact nx 9 rfl (eX _ (oi h1).symm (gE rfl rfl))
   exact nx 18 rfl (eX _ (oi h1).symm (gE rfl rfl))
  exact nx 25 rfl (eX _ (oi h1).symm (gE rfl rfl))
 exact nx 32 rfl (eX _ (oi h1).symm (gE rfl rfl))
def ep (a_0:List Bytes)(b_1:List Bytes):Nat→Int→Option (Unit⊕Bool)
 | 0,_=>none
 | m+1,i8 =>
 if i8 < (a_0.length:Int) then
  ck ((0:Int)≤i8∧i8 < (a_0.length:Int)) <|
  ck ((0:Int)≤i8∧i8 < (b_1.length:Int)) <|
  if lat a_0 i8=lat b_1 i8 then
   ck (inR (i8+1)) <|
   ep a_0 b_1 m (i8+1)
  else
   some (.inr false)
 else
  some (.inl ())
def iI (n:Nat)(a_0:List Bytes)(b_1:List Bytes):Option Bool :=
 if (a_0.length:Int)=(b_1.length:Int) then
  jn (ep a_0 b_1 n 0) λ q15 =>
  some true
 else
  some false
set_option maxHeartbeats 4000000 in
theorem lM (n:Nat)(a_0:List Bytes)(b_1:List Bytes)(r:Bool)(h0:iI n a_0 b_1=some r):aB Tryz.prog 24 [eL eS a_0,eL eS b_1] (·=.p (eB r)):=by
 unfold iI at h0
 refine aU good Tryz.func24 rfl rfl rfl λ w0=>mP (λ v:Bool=>.p (eB v)) ?_
 refine nx 8 rfl (oLl (f:=eS) rfl rfl ?_)
 refine nx 1 rfl (oLl (f:=eS) rfl rfl ?_)
 refine nx 2 rfl (fN [10] h0 rfl (λ c1 h0=>?_) λ c1 h0=>?_)
 ·refine nx 8 rfl ?_
  obtain ⟨o16,h1,hL0,hR0⟩:=cU h0
  refine kEx 0 (λ v17:Unit=>o16=.inl v17) (λ v17=>⟨[],[]⟩) (λ v17 hv=>?_) ?_
  ·have h0:=hL0 _ hv
   exact nx 6 rfl (mQ (oi h0) rfl (sr))
  refine lG (λ (q18:Int)=>⟨[(0,.p (eL eS a_0)),(1,.p (eL eS b_1)),(5,.p (eI q18))],[]⟩) (λ m (q18:Int)=>ep a_0 b_1 m q18) (λ _=>rfl) 0 h1 (gE rfl rfl) ?_
  rintro m i8 h1
  replace h1:ep a_0 b_1 (m+1) i8=some o16:=h1
  rw [ep] at h1
  refine nx 5 rfl (oLl (f:=eS) rfl rfl ?_)
  refine nx 2 rfl (fD [14] h1 rfl (λ c9 h1=>?_) λ c9 h1=>?_)
  ·refine nx 5 rfl (cc' h1 λ hk10 h1=>?_)
   refine cc' h1 λ hk11 h1=>mD [(0,.p (eL eS a_0)),(1,.p (eL eS b_1)),(5,.p (eI i8))] rfl ⟨rfl,rfl,rfl,trivial⟩ rfl (dR 2 rfl ?_)
   refine dq (.rptr [eS (lat a_0 i8)]) [17,18] rfl (λ _ e _ q=>af rfl (bf (f:=eS) (l:=a_0) (λ x=>[eS x]) rfl rfl rfl rfl rfl rfl (e _ _ rfl) rfl (e _ _ rfl) hk10 (λ _=>rfl) (λ _=>rfl) q)) rfl (dR 3 rfl ?_)
   refine dq (.rptr [eS (lat b_1 i8)]) [21,22] rfl (λ _ e _ q=>af rfl (bf (f:=eS) (l:=b_1) (λ x=>[eS x]) rfl rfl rfl rfl rfl rfl (e _ _ rfl) rfl (e _ _ rfl) hk11 (λ _=>rfl) (λ _=>rfl) q)) rfl (dR 1 rfl ?_)
   refine dq (.p (eB (!decide (lat a_0 i8=lat b_1 i8)))) [20,24] rfl (λ _ e _ q=>af rfl (ks rfl rfl rfl (e _ _ rfl) (e _ _ rfl) rfl q)) rfl (dE rfl ?_)
   refine nx 1 rfl (fN [25] h1 rfl (λ c12 h1=>?_) λ c12 h1=>?_)
   ·refine nx 4 rfl (oA h1 rfl rfl λ hk13 h1=>?_)
    exact nx 2 rfl (eX (i8+1) h1 (gE rfl rfl))
   exact nx 6 rfl (mQ (hR0 _ (oi h1).symm) rfl (sr))
  exact nx 2 rfl (eXi _ (oi h1).symm (gE rfl rfl))
 exact nx 6 rfl (mQ (oi h0) rfl (sr))
def gj (n:Nat)(a_0:aa)(b_1:aa):Option Bool :=
 (
   if a_0.fAddr=b_1.fAddr then
    if a_0.fDeposed=b_1.fDeposed then
     if a_0.fType=b_1.fType then
      if a_0.fAction=b_1.fAction then
       if a_0.fReason=b_1.fReason then
        (ew n a_0.fBefore b_1.fBefore).bind λ r6 =>
        if r6=true then
         (ew n a_0.fAfter b_1.fAfter).bind λ r9 =>
         if r9=true then
          if a_0.fID=b_1.fID then
           (iI n a_0.fReplace b_1.fReplace).bind λ r13 =>
           if r13=true then
            if (a_0.fCreateFirst == b_1.fCreateFirst)=true then
             if (a_0.fProtect == b_1.fProtect)=true then
              if (a_0.fImport == b_1.fImport)=true then
               (iI n a_0.fDeps b_1.fDeps).bind λ r19 =>
               if r19=true then
                (iI n a_0.fOldDeps b_1.fOldDeps).bind λ r22 =>
                some r22
               else
                some false
              else
               some false
             else
              some false
            else
             some false
           else
            some false
          else
           some false
         else
          some false
        else
         some false
       else
        some false
      else
       some false
     else
      some false
    else
     some false
   else
    some false
  : Option Bool).bind λ t24 =>
 some t24
set_option maxHeartbeats 4000000 in
theorem bi (n:Nat)(a_0:aa)(b_1:aa)(r:Bool)(h0:gj n a_0 b_1=some r):aB Tryz.prog 12 [.agg (aa.cs a_0),.agg (aa.cs b_1)] (·=.p (eB r)):=by
 unfold gj at h0
 refine aU good Tryz.func12 rfl rfl rfl λ w0=>mP (λ v:Bool=>.p (eB v)) ?_
 refine nx 7 rfl (bd h0 λ o26 h1 h0=>?_)
 refine kN o26 (λ v27=>⟨[(4,.p (eB v27))],[]⟩) ?_ ?_
 ·exact nx 2 rfl (mQ (oi h0) rfl (sr))
 refine nx 5 rfl (oS rfl rfl ?_)
 refine nx 1 rfl (fD [9,10] h1 rfl (λ c1 h1=>?_) λ c1 h1=>?_)
 ·refine nx 4 rfl (oS rfl rfl ?_)
  refine nx 2 rfl (fD [15,16,17] h1 rfl (λ c2 h1=>?_) λ c2 h1=>?_)
  ·refine nx 4 rfl (oS rfl rfl ?_)
   refine nx 2 rfl (fD [22,23,24] h1 rfl (λ c3 h1=>?_) λ c3 h1=>?_)
   ·refine nx 7 rfl (fD [29,30,31] h1 rfl (λ c4 h1=>?_) λ c4 h1=>?_)
    ·refine nx 7 rfl (fD [36,37,38] h1 rfl (λ c5 h1=>?_) λ c5 h1=>?_)
     ·refine nx 4 rfl (bd h1 λ r6 e7 h1=>?_)
      refine oK (nP _ a_0.fBefore b_1.fBefore _ e7) rfl ⟨sr,sr,trivial⟩ Tryz.call23 rfl (nx 2 rfl ?_)
      refine fB [43,44,45] h1 rfl (λ c8 h1=>?_) λ c8 h1=>?_
      ·refine nx 4 rfl (bd h1 λ r9 e10 h1=>?_)
       refine oK (nP _ a_0.fAfter b_1.fAfter _ e10) rfl ⟨sr,sr,trivial⟩ Tryz.call23 rfl (nx 2 rfl ?_)
       refine fB [50,51,52] h1 rfl (λ c11 h1=>?_) λ c11 h1=>?_
       ·refine nx 4 rfl (oS rfl rfl ?_)
        refine nx 2 rfl (fD [57,58,59] h1 rfl (λ c12 h1=>?_) λ c12 h1=>?_)
        ·refine nx 4 rfl (bd h1 λ r13 e14 h1=>?_)
         refine oK (lM _ a_0.fReplace b_1.fReplace _ e14) rfl ⟨sr,sr,trivial⟩ Tryz.call24 rfl (nx 2 rfl ?_)
         refine fB [64,65,66] h1 rfl (λ c15 h1=>?_) λ c15 h1=>?_
         ·refine nx 7 rfl (fB [71,72,73] h1 rfl (λ c16 h1=>?_) λ c16 h1=>?_)
          ·refine nx 7 rfl (fB [78,79,80] h1 rfl (λ c17 h1=>?_) λ c17 h1=>?_)
           ·refine nx 7 rfl (fB [85,86,87] h1 rfl (λ c18 h1=>?_) λ c18 h1=>?_)
            ·refine nx 4 rfl (bd h1 λ r19 e20 h1=>?_)
             refine oK (lM _ a_0.fDeps b_1.fDeps _ e20) rfl ⟨sr,sr,trivial⟩ Tryz.call24 rfl (nx 2 rfl ?_)
             refine fB [92,93,94] h1 rfl (λ c21 h1=>?_) λ c21 h1=>?_
             ·refine nx 4 rfl (bd h1 λ r22 e23 h1=>?_)
              refine oK (lM _ a_0.fOldDeps b_1.fOldDeps _ e23) rfl ⟨sr,sr,trivial⟩ Tryz.call24 rfl (nx 3 rfl ?_)
              exact eX _ (oi h1).symm (gE rfl rfl)
             exact nx 8 rfl (eX _ (oi h1).symm (gE rfl rfl))
            exact nx 15 rfl (eX _ (oi h1).symm (gE rfl rfl))
           exact nx 22 rfl (eX _ (oi h1).symm (gE rfl rfl))
          exact nx 29 rfl (eX _ (oi h1).symm (gE rfl rfl))
         exact nx 36 rfl (eX _ (oi h1).symm (gE rfl rfl))
        exact nx 43 rfl (eX _ (oi h1).symm (gE rfl rfl))
       exact nx 50 rfl (eX _ (oi h1).symm (gE rfl rfl))
      exact nx 57 rfl (eX _ (oi h1).symm (gE rfl rfl))
     exact nx 64 rfl (eX _ (oi h1).symm (gE rfl rfl))
    exact nx 71 rfl (eX _ (oi h1).symm (gE rfl rfl))
   exact nx 78 rfl (eX _ (oi h1).symm (gE rfl rfl))
  exact nx 85 rfl (eX _ (oi h1).symm (gE rfl rfl))
 exact nx 92 rfl (eX _ (oi h1).symm (gE rfl rfl))
def bj (n:Nat)(r6:(List aa))(r8:(List aa)):Nat→Int→Option (Unit⊕Bool)
 | 0,_=>none
 | m+1,i19 =>
 if i19 < (r6.length:Int) then
  ck ((0:Int)≤i19∧i19 < (r6.length:Int)) <|
  ck ((0:Int)≤i19∧i19 < (r8.length:Int)) <|
  (gj n (lat r6 i19) (lat r8 i19)).bind λ r23 =>
  if (!r23)=true then
   some (.inr false)
  else
   ck (inR (i19+1)) <|
   bj n r6 r8 m (i19+1)
 else
  some (.inl ())
def ei (n:Nat)(l_0:List aa):Option Bool :=
 (hH n l_0).bind λ r1 =>
 if (!r1)=true then
  (cF n).bind λ r4 =>
  some r4
 else
  (bo n l_0).bind λ r6 =>
  (gu n l_0).bind λ r8 =>
  if (r6.length:Int)=(r8.length:Int) then
   jn (bj n r6 r8 n 0) λ q30 =>
   (cF n).bind λ r28 =>
   some r28
  else
   some false
set_option maxHeartbeats 4000000 in
theorem kj (n:Nat)(l_0:List aa)(r:Bool)(h0:ei n l_0=some r):aB Tryz.prog 3 [eL ac l_0] (·=.p (eB r)):=by
 unfold ei at h0
 refine aU good Tryz.func3 rfl rfl rfl λ w0=>mP (λ v:Bool=>.p (eB v)) ?_
 refine nx 8 rfl (bd h0 λ r1 e2 h0=>?_)
 refine oK (ju _ l_0 _ e2) rfl ⟨sr,trivial⟩ Tryz.call8 rfl (nx 2 rfl ?_)
 refine fB [8] h0 rfl (λ c3 h0=>?_) λ c3 h0=>?_
 ·refine nx 3 rfl (bd h0 λ r4 e5 h0=>?_)
  refine oK (dG _  _ e5) rfl trivial Tryz.call9 rfl (nx 3 rfl ?_)
  exact mQ (oi h0) rfl (sr)
 refine nx 5 rfl (bd h0 λ r6 e7 h0=>?_)
 refine oK (cH _ l_0 _ e7) rfl ⟨sr,trivial⟩ Tryz.call10 rfl (nx 1 rfl ?_)
 refine bd h0 λ r8 e9 h0=>oK (pB _ l_0 _ e9) rfl ⟨sr,trivial⟩ Tryz.call11 rfl (nx 7 rfl ?_)
 refine oLl (f:=ac) rfl rfl (nx 1 rfl ?_)
 refine oLl (f:=ac) rfl rfl (nx 2 rfl ?_)
 refine fN [18] h0 rfl (λ c10 h0=>?_) λ c10 h0=>?_
 ·refine nx 8 rfl ?_
  obtain ⟨o31,h1,hL0,hR0⟩:=cU h0
  refine kEx 0 (λ v32:Unit=>o31=.inl v32) (λ v32=>⟨[],[]⟩) (λ v32 hv=>?_) ?_
  ·have h0:=hL0 _ hv
   refine nx 3 rfl (bd h0 λ r28 e29 h0=>?_)
   refine oK (dG _  _ e29) rfl trivial Tryz.call9 rfl (nx 3 rfl ?_)
   exact mQ (oi h0) rfl (sr)
  refine lG (λ (q33:Int)=>⟨[(3,.p (eL ac r6)),(4,.p (eL ac r8)),(5,.p (eI q33))],[]⟩) (λ m (q33:Int)=>bj n r6 r8 m q33) (λ _=>rfl) 0 h1 (gE rfl rfl) ?_
  rintro m i19 h1
  replace h1:bj n r6 r8 (m+1) i19=some o31:=h1
  rw [bj] at h1
  refine nx 5 rfl (oLl (f:=ac) rfl rfl ?_)
  refine nx 2 rfl (fD [22] h1 rfl (λ c20 h1=>?_) λ c20 h1=>?_)
  ·refine nx 5 rfl (cc' h1 λ hk21 h1=>?_)
   refine cc' h1 λ hk22 h1=>bd h1 λ r23 e24 h1=>mD [(3,.p (eL ac r6)),(4,.p (eL ac r8)),(5,.p (eI i19))] rfl ⟨rfl,rfl,rfl,trivial⟩ rfl (dR 2 rfl ?_)
   refine dq (.rptr (aa.cs (lat r6 i19))) [25,26] rfl (λ _ e _ q=>af rfl (bf (f:=ac) (l:=r6) aa.cs rfl rfl rfl rfl rfl rfl (e _ _ rfl) rfl (e _ _ rfl) hk21 aa.cells_eq (λ _=>rfl) q)) rfl (dR 3 rfl ?_)
   refine dq (.rptr (aa.cs (lat r8 i19))) [29,30] rfl (λ _ e _ q=>af rfl (bf (f:=ac) (l:=r8) aa.cs rfl rfl rfl rfl rfl rfl (e _ _ rfl) rfl (e _ _ rfl) hk22 aa.cells_eq (λ _=>rfl) q)) rfl (dR 1 rfl ?_)
   refine dq (.p (eB r23)) [28,32] rfl (λ _ e _ q=>af rfl (aJ (bi _ (lat r6 i19) (lat r8 i19) _ e24) rfl rfl rfl (au (e _ _ rfl) (au (e _ _ rfl) aK)) ⟨sr,sr,trivial⟩ Tryz.call12 rfl q)) rfl (dR 1 rfl ?_)
   refine dE rfl (nx 1 rfl ?_)
   refine fB [34] h1 rfl (λ c25 h1=>?_) λ c25 h1=>?_
   ·exact nx 6 rfl (mQ (hR0 _ (oi h1).symm) rfl (sr))
   refine nx 4 rfl (oA h1 rfl rfl λ hk26 h1=>?_)
   exact nx 2 rfl (eX (i19+1) h1 (gE rfl rfl))
  exact nx 2 rfl (eXi _ (oi h1).symm (gE rfl rfl))
 exact nx 6 rfl (mQ (oi h0) rfl (sr))
end Go.Ab.R06
end
section
set_option linter.unusedVariables false
set_option linter.unusedSimpArgs false
set_option linter.unnecessarySimpa false
namespace Go.Ab.R06
open Go.Ab
theorem lL {s_0:Bytes}:∀ (m m':Nat),m≤m'→∀ (y0:Int),Le (bE s_0 m y0) (bE s_0 m' y0):=by
 intro m
 induction m with
 | zero=>intro m' _ y0; exact d9 _
 | succ m ih =>
 intro m' hm y0
 cases m' with
 | zero=>omega
 | succ m' =>
 simp only [bE]
 repeat' (with_reducible (first | exact aw _ | apply ih | refine cO ?_ | refine b7 ?_ ?_ | refine bn ?_ (λ _=>?_) | refine cP ?_ (λ _=>?_) | omega | intro _))
theorem fq {n n':Nat}(hn:n≤n'){s_0:Bytes}:Le (ce n s_0) (ce n' s_0):=by
 simp only [ce]
 repeat' (with_reducible (first | exact aw _ | apply lL | refine cO ?_ | refine b7 ?_ ?_ | refine bn ?_ (λ _=>?_) | refine cP ?_ (λ _=>?_) | omega | intro _))
theorem ji {n n':Nat}(hn:n≤n'){r_0:av}:Le (ci n r_0) (ci n' r_0):=by
 simp only [ci]
 repeat' (with_reducible (first | exact aw _ | apply fq | refine cO ?_ | refine b7 ?_ ?_ | refine bn ?_ (λ _=>?_) | refine cP ?_ (λ _=>?_) | omega | intro _))
theorem lR {s_0:Bytes}:∀ (m m':Nat),m≤m'→∀ (y0:Int) (y1:Int),Le (bG s_0 m y0 y1) (bG s_0 m' y0 y1):=by
 intro m
 induction m with
 | zero=>intro m' _ y0 y1; exact d9 _
 | succ m ih =>
 intro m' hm y0 y1
 cases m' with
 | zero=>omega
 | succ m' =>
 simp only [bG]
 repeat' (with_reducible (first | exact aw _ | apply ih | refine cO ?_ | refine b7 ?_ ?_ | refine bn ?_ (λ _=>?_) | refine cP ?_ (λ _=>?_) | omega | intro _))
theorem nu {n n':Nat}(hn:n≤n'){s_0:Bytes}:Le (cJ n s_0) (cJ n' s_0):=by
 simp only [cJ]
 repeat' (with_reducible (first | exact aw _ | apply lR | refine cO ?_ | refine b7 ?_ ?_ | refine bn ?_ (λ _=>?_) | refine cP ?_ (λ _=>?_) | omega | intro _))
theorem qR {n n':Nat}(hn:n≤n'){s_0:Bytes}:Le (eV n s_0) (eV n' s_0):=by
 simp only [eV]
 repeat' (with_reducible (first | exact aw _ | apply nu | refine cO ?_ | refine b7 ?_ ?_ | refine bn ?_ (λ _=>?_) | refine cP ?_ (λ _=>?_) | omega | intro _))
theorem nz {n n':Nat}(hn:n≤n'){s_0:Bytes}:∀ (m m':Nat),m≤m'→∀ (y0:Int) (y1:List UInt8),Le (cB n s_0 m y0 y1) (cB n' s_0 m' y0 y1):=by
 intro m
 induction m with
 | zero=>intro m' _ y0 y1; exact d9 _
 | succ m ih =>
 intro m' hm y0 y1
 cases m' with
 | zero=>omega
 | succ m' =>
 simp only [cB]
 repeat' (with_reducible (first | exact aw _ | apply ih | apply qR | refine cO ?_ | refine b7 ?_ ?_ | refine bn ?_ (λ _=>?_) | refine cP ?_ (λ _=>?_) | omega | intro _))
theorem pQ {n n':Nat}(hn:n≤n'){s_0:Bytes}:Le (eC n s_0) (eC n' s_0):=by
 simp only [eC]
 repeat' (with_reducible (first | exact aw _ | apply nz | refine cO ?_ | refine b7 ?_ ?_ | refine bn ?_ (λ _=>?_) | refine cP ?_ (λ _=>?_) | omega | intro _))
theorem pp {s_0:Bytes}:∀ (m m':Nat),m≤m'→∀ (y0:Int) (y1:List UInt8),Le (cN s_0 m y0 y1) (cN s_0 m' y0 y1):=by
 intro m
 induction m with
 | zero=>intro m' _ y0 y1; exact d9 _
 | succ m ih =>
 intro m' hm y0 y1
 cases m' with
 | zero=>omega
 | succ m' =>
 simp only [cN]
 repeat' (with_reducible (first | exact aw _ | apply ih | refine cO ?_ | refine b7 ?_ ?_ | refine bn ?_ (λ _=>?_) | refine cP ?_ (λ _=>?_) | omega | intro _))
theorem nf {n n':Nat}(hn:n≤n'){s_0:Bytes}:Le (eQ n s_0) (eQ n' s_0):=by
 simp only [eQ]
 repeat' (with_reducible (first | exact aw _ | apply pp | refine cO ?_ | refine b7 ?_ ?_ | refine bn ?_ (λ _=>?_) | refine cP ?_ (λ _=>?_) | omega | intro _))
theorem mz {s7:Bytes}:∀ (m m':Nat),m≤m'→∀ (y0:Int),Le (bL s7 m y0) (bL s7 m' y0):=by
 intro m
 induction m with
 | zero=>intro m' _ y0; exact d9 _
 | succ m ih =>
 intro m' hm y0
 cases m' with
 | zero=>omega
 | succ m' =>
 simp only [bL]
 repeat' (with_reducible (first | exact aw _ | apply ih | refine cO ?_ | refine b7 ?_ ?_ | refine bn ?_ (λ _=>?_) | refine cP ?_ (λ _=>?_) | omega | intro _))
theorem oQ {n n':Nat}(hn:n≤n'){s_0:Bytes}:Le (dQ n s_0) (dQ n' s_0):=by
 simp only [dQ]
 repeat' (with_reducible (first | exact aw _ | apply mz | refine cO ?_ | refine b7 ?_ ?_ | refine bn ?_ (λ _=>?_) | refine cP ?_ (λ _=>?_) | omega | intro _))
theorem rV {n n':Nat}(hn:n≤n'){s_0:Bytes}:Le (fE n s_0) (fE n' s_0):=by
 simp only [fE]
 repeat' (with_reducible (first | exact aw _ | apply oQ | refine cO ?_ | refine b7 ?_ ?_ | refine bn ?_ (λ _=>?_) | refine cP ?_ (λ _=>?_) | omega | intro _))
theorem jA {n n':Nat}(hn:n≤n'){r_0:av}:Le (cI n r_0) (cI n' r_0):=by
 simp only [cI]
 repeat' (with_reducible (first | exact aw _ | apply pQ | apply nf | apply rV | refine cO ?_ | refine b7 ?_ ?_ | refine bn ?_ (λ _=>?_) | refine cP ?_ (λ _=>?_) | omega | intro _))
theorem mE {n n':Nat}(hn:n≤n'){r_0:av}:Le (cS n r_0) (cS n' r_0):=by
 simp only [cS]
 repeat' (with_reducible (first | exact aw _ | apply ji | apply jA | refine cO ?_ | refine b7 ?_ ?_ | refine bn ?_ (λ _=>?_) | refine cP ?_ (λ _=>?_) | omega | intro _))
theorem np {n n':Nat}(hn:n≤n'){s_0:Bytes}:Le (d6 n s_0) (d6 n' s_0):=by
 simp only [d6]
 repeat' (with_reducible (first | exact aw _ | apply fq | refine cO ?_ | refine b7 ?_ ?_ | refine bn ?_ (λ _=>?_) | refine cP ?_ (λ _=>?_) | omega | intro _))
theorem oX {n n':Nat}(hn:n≤n'):∀ (m m':Nat),m≤m'→∀ (y0:List ae) (y1:Bytes) (y2:Bool),Le (cR n m y0 y1 y2) (cR n' m' y0 y1 y2):=by
 intro m
 induction m with
 | zero=>intro m' _ y0 y1 y2; exact d9 _
 | succ m ih =>
 intro m' hm y0 y1 y2
 cases m' with
 | zero=>omega
 | succ m' =>
 simp only [cR]
 repeat' (with_reducible (first | exact aw _ | apply ih | apply mE | refine cO ?_ | refine b7 ?_ ?_ | refine bn ?_ (λ _=>?_) | refine cP ?_ (λ _=>?_) | omega | intro _))
theorem qx {n n':Nat}(hn:n≤n'){s_0:Bytes}:Le (eW n s_0) (eW n' s_0):=by
 simp only [eW]
 repeat' (with_reducible (first | exact aw _ | apply oX | apply ji | apply jA | apply np | refine cO ?_ | refine b7 ?_ ?_ | refine bn ?_ (λ _=>?_) | refine cP ?_ (λ _=>?_) | omega | intro _))
theorem oR {n n':Nat}(hn:n≤n'){a_0:ao}:∀ (m m':Nat),m≤m'→∀ (y0:Int),Le (cz n a_0 m y0) (cz n' a_0 m' y0):=by
 intro m
 induction m with
 | zero=>intro m' _ y0; exact d9 _
 | succ m ih =>
 intro m' hm y0
 cases m' with
 | zero=>omega
 | succ m' =>
 simp only [cz]
 repeat' (with_reducible (first | exact aw _ | apply ih | apply fq | refine cO ?_ | refine b7 ?_ ?_ | refine bn ?_ (λ _=>?_) | refine cP ?_ (λ _=>?_) | omega | intro _))
theorem qN {n n':Nat}(hn:n≤n'){a_0:ao}:Le (eZ n a_0) (eZ n' a_0):=by
 simp only [eZ]
 repeat' (with_reducible (first | exact aw _ | apply oR | apply np | apply fq | refine cO ?_ | refine b7 ?_ ?_ | refine bn ?_ (λ _=>?_) | refine cP ?_ (λ _=>?_) | omega | intro _))
theorem j8 {n n':Nat}(hn:n≤n'){k_0:bA}:Le (cW n k_0) (cW n' k_0):=by
 simp only [cW]
 repeat' (with_reducible (first | exact aw _ | apply nf | refine cO ?_ | refine b7 ?_ ?_ | refine bn ?_ (λ _=>?_) | refine cP ?_ (λ _=>?_) | omega | intro _))
theorem oa {n n':Nat}(hn:n≤n'){a_0:ao}:∀ (m m':Nat),m≤m'→∀ (y0:Int) (y1:List UInt8),Le (co n a_0 m y0 y1) (co n' a_0 m' y0 y1):=by
 intro m
 induction m with
 | zero=>intro m' _ y0 y1; exact d9 _
 | succ m ih =>
 intro m' hm y0 y1
 cases m' with
 | zero=>omega
 | succ m' =>
 simp only [co]
 repeat' (with_reducible (first | exact aw _ | apply ih | apply j8 | refine cO ?_ | refine b7 ?_ ?_ | refine bn ?_ (λ _=>?_) | refine cP ?_ (λ _=>?_) | omega | intro _))
theorem qn {n n':Nat}(hn:n≤n'){a_0:ao}:Le (eG n a_0) (eG n' a_0):=by
 simp only [eG]
 repeat' (with_reducible (first | exact aw _ | apply qN | apply oa | apply j8 | refine cO ?_ | refine b7 ?_ ?_ | refine bn ?_ (λ _=>?_) | refine cP ?_ (λ _=>?_) | omega | intro _))
theorem nv:∀ (m m':Nat),m≤m'→Le (dz m ) (dz m' ):=by
 intro m
 induction m with
 | zero=>intro m' _ ; exact d9 _
 | succ m ih =>
 intro m' hm 
 cases m' with
 | zero=>omega
 | succ m' =>
 simp only [dz]
 repeat' (with_reducible (first | exact aw _ | apply ih | refine cO ?_ | refine b7 ?_ ?_ | refine bn ?_ (λ _=>?_) | refine cP ?_ (λ _=>?_) | omega | intro _))
theorem nF {a_0:ao}:∀ (m m':Nat),m≤m'→∀ (y0:Int) (y1:List ae),Le (cp a_0 m y0 y1) (cp a_0 m' y0 y1):=by
 intro m
 induction m with
 | zero=>intro m' _ y0 y1; exact d9 _
 | succ m ih =>
 intro m' hm y0 y1
 cases m' with
 | zero=>omega
 | succ m' =>
 simp only [cp]
 repeat' (with_reducible (first | exact aw _ | apply ih | refine cO ?_ | refine b7 ?_ ?_ | refine bn ?_ (λ _=>?_) | refine cP ?_ (λ _=>?_) | omega | intro _))
theorem qq {n n':Nat}(hn:n≤n'){a_0:ao}:Le (eH n a_0) (eH n' a_0):=by
 simp only [eH]
 repeat' (with_reducible (first | exact aw _ | apply nv | apply nF | refine cO ?_ | refine b7 ?_ ?_ | refine bn ?_ (λ _=>?_) | refine cP ?_ (λ _=>?_) | omega | intro _))
theorem qe {n n':Nat}(hn:n≤n'){s_0:Bytes}:Le (ez n s_0) (ez n' s_0):=by
 simp only [ez]
 repeat' (with_reducible (first | exact aw _ | apply qx | apply qq | apply qn | refine cO ?_ | refine b7 ?_ ?_ | refine bn ?_ (λ _=>?_) | refine cP ?_ (λ _=>?_) | omega | intro _))
theorem jx {n n':Nat}(hn:n≤n'){c_0:aa}:Le (cq n c_0) (cq n' c_0):=by
 simp only [cq]
 repeat' (with_reducible (first | exact aw _ | apply qe | refine cO ?_ | refine b7 ?_ ?_ | refine bn ?_ (λ _=>?_) | refine cP ?_ (λ _=>?_) | omega | intro _))
theorem jb {slices_0:List (List Bytes)}:∀ (m m':Nat),m≤m'→∀ (y0:Int) (y1:Int),Le (aM slices_0 m y0 y1) (aM slices_0 m' y0 y1):=by
 intro m
 induction m with
 | zero=>intro m' _ y0 y1; exact d9 _
 | succ m ih =>
 intro m' hm y0 y1
 cases m' with
 | zero=>omega
 | succ m' =>
 simp only [aM]
 repeat' (with_reducible (first | exact aw _ | apply ih | refine cO ?_ | refine b7 ?_ ?_ | refine bn ?_ (λ _=>?_) | refine cP ?_ (λ _=>?_) | omega | intro _))
theorem iZ {slices_0:List (List Bytes)}:∀ (m m':Nat),m≤m'→∀ (y0:List Bytes) (y1:Int),Le (aN slices_0 m y0 y1) (aN slices_0 m' y0 y1):=by
 intro m
 induction m with
 | zero=>intro m' _ y0 y1; exact d9 _
 | succ m ih =>
 intro m' hm y0 y1
 cases m' with
 | zero=>omega
 | succ m' =>
 simp only [aN]
 repeat' (with_reducible (first | exact aw _ | apply ih | refine cO ?_ | refine b7 ?_ ?_ | refine bn ?_ (λ _=>?_) | refine cP ?_ (λ _=>?_) | omega | intro _))
theorem jH {n n':Nat}(hn:n≤n'){slices_0:List (List Bytes)}:Le (bH n slices_0) (bH n' slices_0):=by
 simp only [bH]
 repeat' (with_reducible (first | exact aw _ | apply jb | apply iZ | refine cO ?_ | refine b7 ?_ ?_ | refine bn ?_ (λ _=>?_) | refine cP ?_ (λ _=>?_) | omega | intro _))
theorem mB {n n':Nat}(hn:n≤n'){l_0:List aa}:∀ (m m':Nat),m≤m'→∀ (y0:List (Bytes×List Int)) (y1:List Int) (y2:Int),Le (bK n l_0 m y0 y1 y2) (bK n' l_0 m' y0 y1 y2):=by
 intro m
 induction m with
 | zero=>intro m' _ y0 y1 y2; exact d9 _
 | succ m ih =>
 intro m' hm y0 y1 y2
 cases m' with
 | zero=>omega
 | succ m' =>
 simp only [bK]
 repeat' (with_reducible (first | exact aw _ | apply ih | apply jx | refine cO ?_ | refine b7 ?_ ?_ | refine bn ?_ (λ _=>?_) | refine cP ?_ (λ _=>?_) | omega | intro _))
theorem na {at36:List (Bytes×List Int)}{r136:(List Bytes)}{t176:Int}:∀ (m m':Nat),m≤m'→∀ (y0:List Int) (y1:Int) (y2:List Bool),Le (bM at36 r136 t176 m y0 y1 y2) (bM at36 r136 t176 m' y0 y1 y2):=by
 intro m
 induction m with
 | zero=>intro m' _ y0 y1 y2; exact d9 _
 | succ m ih =>
 intro m' hm y0 y1 y2
 cases m' with
 | zero=>omega
 | succ m' =>
 simp only [bM]
 repeat' (with_reducible (first | exact aw _ | apply ih | refine cO ?_ | refine b7 ?_ ?_ | refine bn ?_ (λ _=>?_) | refine cP ?_ (λ _=>?_) | omega | intro _))
theorem mN {n n':Nat}(hn:n≤n'){at36:List (Bytes×List Int)}{r136:(List Bytes)}:∀ (m m':Nat),m≤m'→∀ (y0:List Int) (y1:Int) (y2:List Bool),Le (bN n at36 r136 m y0 y1 y2) (bN n' at36 r136 m' y0 y1 y2):=by
 intro m
 induction m with
 | zero=>intro m' _ y0 y1 y2; exact d9 _
 | succ m ih =>
 intro m' hm y0 y1 y2
 cases m' with
 | zero=>omega
 | succ m' =>
 simp only [bN]
 repeat' (with_reducible (first | exact aw _ | apply ih | apply na | refine cO ?_ | refine b7 ?_ ?_ | refine bn ?_ (λ _=>?_) | refine cP ?_ (λ _=>?_) | omega | intro _))
theorem mZ {n n':Nat}(hn:n≤n'){l_0:List aa}{at36:List (Bytes×List Int)}:∀ (m m':Nat),m≤m'→∀ (y0:List Int) (y1:List Bool),Le (bP n l_0 at36 m y0 y1) (bP n' l_0 at36 m' y0 y1):=by
 intro m
 induction m with
 | zero=>intro m' _ y0 y1; exact d9 _
 | succ m ih =>
 intro m' hm y0 y1
 cases m' with
 | zero=>omega
 | succ m' =>
 simp only [bP]
 repeat' (with_reducible (first | exact aw _ | apply ih | apply jH | apply mN | refine cO ?_ | refine b7 ?_ ?_ | refine bn ?_ (λ _=>?_) | refine cP ?_ (λ _=>?_) | omega | intro _))
theorem pd {n n':Nat}(hn:n≤n'){l_0:List aa}:Le (dV n l_0) (dV n' l_0):=by
 simp only [dV]
 repeat' (with_reducible (first | exact aw _ | apply mB | apply mZ | refine cO ?_ | refine b7 ?_ ?_ | refine bn ?_ (λ _=>?_) | refine cP ?_ (λ _=>?_) | omega | intro _))
theorem mA {r_lifecycle_copied r_lifecycle_copied':ah→Option ah}(h_lifecycle_copied:∀ x0,Le (r_lifecycle_copied x0) (r_lifecycle_copied' x0)):∀ (m m':Nat),m≤m'→Le (cx r_lifecycle_copied m ) (cx r_lifecycle_copied' m' ):=by
 intro m
 induction m with
 | zero=>intro m' _ ; exact d9 _
 | succ m ih =>
 intro m' hm 
 cases m' with
 | zero=>omega
 | succ m' =>
 simp only [cx]
 repeat' (with_reducible (first | exact aw _ | apply ih | apply h_lifecycle_copied | refine cO ?_ | refine b7 ?_ ?_ | refine bn ?_ (λ _=>?_) | refine cP ?_ (λ _=>?_) | omega | intro _))
theorem mJ {r_lifecycle_copied r_lifecycle_copied':ah→Option ah}(h_lifecycle_copied:∀ x0,Le (r_lifecycle_copied x0) (r_lifecycle_copied' x0)){v_0:ah}:∀ (m m':Nat),m≤m'→∀ (y0:Int) (y1:List ah),Le (bO r_lifecycle_copied v_0 m y0 y1) (bO r_lifecycle_copied' v_0 m' y0 y1):=by
 intro m
 induction m with
 | zero=>intro m' _ y0 y1; exact d9 _
 | succ m ih =>
 intro m' hm y0 y1
 cases m' with
 | zero=>omega
 | succ m' =>
 simp only [bO]
 repeat' (with_reducible (first | exact aw _ | apply ih | apply h_lifecycle_copied | refine cO ?_ | refine b7 ?_ ?_ | refine bn ?_ (λ _=>?_) | refine cP ?_ (λ _=>?_) | omega | intro _))
theorem nY (n:Nat):∀ n':Nat,n≤n'→(∀ (v_0:ah),Le (a8 n v_0) (a8 n' v_0)):=by
 induction n with
 | zero=>exact λ n' _=>(by intro v_0; exact d9 _)
 | succ n ih =>
 intro n' hn
 cases n' with
 | zero=>omega
 | succ n' =>
 have hn':n≤n':=by omega
 have ih_lifecycle_copied_le:=ih n' hn'
 intro v_0
 simp only [a8]
 repeat' (with_reducible (first | exact aw _ | apply ih_lifecycle_copied_le | apply mA | apply mJ | refine cO ?_ | refine b7 ?_ ?_ | refine bn ?_ (λ _=>?_) | refine cP ?_ (λ _=>?_) | omega | intro _))
theorem oY {n n':Nat}(hn:n≤n'):∀ (v_0:ah),Le (a8 n v_0) (a8 n' v_0):=(nY n n' hn)
theorem oT {n n':Nat}(hn:n≤n'){c_0:aa}:Le (dT n c_0) (dT n' c_0):=by
 simp only [dT]
 repeat' (with_reducible (first | exact aw _ | apply oY | refine cO ?_ | refine b7 ?_ ?_ | refine bn ?_ (λ _=>?_) | refine cP ?_ (λ _=>?_) | omega | intro _))
theorem lq {n n':Nat}(hn:n≤n'){l_0:List aa}{r1:(List Bool)}:∀ (m m':Nat),m≤m'→∀ (y0:List aa) (y1:Int),Le (bm n l_0 r1 m y0 y1) (bm n' l_0 r1 m' y0 y1):=by
 intro m
 induction m with
 | zero=>intro m' _ y0 y1; exact d9 _
 | succ m ih =>
 intro m' hm y0 y1
 cases m' with
 | zero=>omega
 | succ m' =>
 simp only [bm]
 repeat' (with_reducible (first | exact aw _ | apply ih | apply oT | refine cO ?_ | refine b7 ?_ ?_ | refine bn ?_ (λ _=>?_) | refine cP ?_ (λ _=>?_) | omega | intro _))
theorem m7 {n n':Nat}(hn:n≤n'){l_0:List aa}:Le (bo n l_0) (bo n' l_0):=by
 simp only [bo]
 repeat' (with_reducible (first | exact aw _ | apply pd | apply lq | refine cO ?_ | refine b7 ?_ ?_ | refine bn ?_ (λ _=>?_) | refine cP ?_ (λ _=>?_) | omega | intro _))
theorem lm {l_0:List aa}:∀ (m m':Nat),m≤m'→∀ (y0:Int),Le (bv l_0 m y0) (bv l_0 m' y0):=by
 intro m
 induction m with
 | zero=>intro m' _ y0; exact d9 _
 | succ m ih =>
 intro m' hm y0
 cases m' with
 | zero=>omega
 | succ m' =>
 simp only [bv]
 repeat' (with_reducible (first | exact aw _ | apply ih | refine cO ?_ | refine b7 ?_ ?_ | refine bn ?_ (λ _=>?_) | refine cP ?_ (λ _=>?_) | omega | intro _))
theorem mV {n n':Nat}(hn:n≤n'){l_0:List aa}:Le (cj n l_0) (cj n' l_0):=by
 simp only [cj]
 repeat' (with_reducible (first | exact aw _ | apply lm | refine cO ?_ | refine b7 ?_ ?_ | refine bn ?_ (λ _=>?_) | refine cP ?_ (λ _=>?_) | omega | intro _))
theorem gf {s_0:List aa}{f_1 f_1':aa→Option Bool}(h_f_1:∀ x0,Le (f_1 x0) (f_1' x0)):∀ (m m':Nat),m≤m'→∀ (y0:Int),Le (aD s_0 f_1 m y0) (aD s_0 f_1' m' y0):=by
 intro m
 induction m with
 | zero=>intro m' _ y0; exact d9 _
 | succ m ih =>
 intro m' hm y0
 cases m' with
 | zero=>omega
 | succ m' =>
 simp only [aD]
 repeat' (with_reducible (first | exact aw _ | apply ih | apply h_f_1 | refine cO ?_ | refine b7 ?_ ?_ | refine bn ?_ (λ _=>?_) | refine cP ?_ (λ _=>?_) | omega | intro _))
theorem gC {n n':Nat}(hn:n≤n'){s_0:List aa}{f_1 f_1':aa→Option Bool}(h_f_1:∀ x0,Le (f_1 x0) (f_1' x0)):Le (ba n s_0 f_1) (ba n' s_0 f_1'):=by
 simp only [ba]
 repeat' (with_reducible (first | exact aw _ | apply h_f_1 | apply gf | refine cO ?_ | refine b7 ?_ ?_ | refine bn ?_ (λ _=>?_) | refine cP ?_ (λ _=>?_) | omega | intro _))
theorem gb {n n':Nat}(hn:n≤n'){s_0:List aa}{f_1 f_1':aa→Option Bool}(h_f_1:∀ x0,Le (f_1 x0) (f_1' x0)):Le (aS n s_0 f_1) (aS n' s_0 f_1'):=by
 simp only [aS]
 repeat' (with_reducible (first | exact aw _ | apply h_f_1 | apply gC | refine cO ?_ | refine b7 ?_ ?_ | refine bn ?_ (λ _=>?_) | refine cP ?_ (λ _=>?_) | omega | intro _))
theorem lQ {n n':Nat}(hn:n≤n'){c_0:aa}{cap_0:List Bytes}{cap_1:Int}:Le (bq n c_0 cap_0 cap_1) (bq n' c_0 cap_0 cap_1):=by
 simp only [bq]
 repeat' (with_reducible (first | exact aw _ | apply jx | refine cO ?_ | refine b7 ?_ ?_ | refine bn ?_ (λ _=>?_) | refine cP ?_ (λ _=>?_) | omega | intro _))
theorem ll {n n':Nat}(hn:n≤n'){triggers_0:List fH}{statics_1:List Bytes}{l_2:List aa}:∀ (m m':Nat),m≤m'→∀ (y0:Int),Le (bb n triggers_0 statics_1 l_2 m y0) (bb n' triggers_0 statics_1 l_2 m' y0):=by
 intro m
 induction m with
 | zero=>intro m' _ y0; exact d9 _
 | succ m ih =>
 intro m' hm y0
 cases m' with
 | zero=>omega
 | succ m' =>
 simp only [bb]
 repeat' (with_reducible (first | exact aw _ | apply ih | apply gb | apply lQ | refine cO ?_ | refine b7 ?_ ?_ | refine bn ?_ (λ _=>?_) | refine cP ?_ (λ _=>?_) | omega | intro _))
theorem my {n n':Nat}(hn:n≤n'){triggers_0:List fH}{statics_1:List Bytes}{l_2:List aa}:Le (cg n triggers_0 statics_1 l_2) (cg n' triggers_0 statics_1 l_2):=by
 simp only [cg]
 repeat' (with_reducible (first | exact aw _ | apply ll | refine cO ?_ | refine b7 ?_ ?_ | refine bn ?_ (λ _=>?_) | refine cP ?_ (λ _=>?_) | omega | intro _))
theorem sH {n n':Nat}(hn:n≤n'):Le (cF n) (cF n'):=by
 simp only [cF]
 repeat' (with_reducible (first | exact aw _ | apply m7 | apply mV | apply my | refine cO ?_ | refine b7 ?_ ?_ | refine bn ?_ (λ _=>?_) | refine cP ?_ (λ _=>?_) | omega | intro _))
theorem xq:cF 40=some true:=by decide +kernel
theorem iu:Ev2 (λ n _=>cF n) (·=true):=CH 40 xq (λ n hn=>sH hn) rfl
end Go.Ab.R06
end
section
set_option linter.unusedVariables false
set_option linter.unusedSimpArgs false
set_option linter.unnecessarySimpa false
namespace Go.Ab
set_option autoImplicit false
theorem iP {α:Type}{tt:List (Nat×TI)}{n t s b:Nat}{cs:List PV}{z:List Value}(f:α→PV)(Q:α→Prop){e:Nat}(hl:look tt t=some ⟨.slice e,s,b,z⟩)(h:WTf tt n t cs)
  (he:∀ m x,m < n→WTf tt m e x.cells→x=mkE (((look tt e).map (·.k.isAgg)).getD false) x.cells→∃ y,x=f y∧Q y):∃ l:List α,cs=[eL f l]∧l.length*(((look tt e).map (·.bytes)).getD 0)≤da∧∀ y∈l,Q y:=by
 cases n with
 | zero=>exact h.elim
 | succ n =>
  obtain ⟨l,h1,h2,h3⟩:=Bf f Q hl h (λ x k1 k2=>he n x (by omega) k1 k2)
  exact ⟨l,h1,h2.2,h3⟩
inductive ah.Bd:ah→Prop where
 | mk {x:ah} (bKind:inR x.fKind) (bNum:inR x.fNum) (bStr:x.fStr.length≤da) (bItems:x.fItems.length*80≤da) (eItems:∀ y∈x.fItems,ah.Bd y) (bKeys:x.fKeys.length*16≤da) (eKeys:∀ y∈x.fKeys,y.length≤da):ah.Bd x
theorem ah.Bd.bItems {x:ah}(h:ah.Bd x):x.fItems.length*80≤da:=by cases h; assumption
theorem ah.Bd.eItems {x:ah}(h:ah.Bd x):∀ y∈x.fItems,ah.Bd y:=by cases h; assumption
theorem ah.Bd.bKeys {x:ah}(h:ah.Bd x):x.fKeys.length*16≤da:=by cases h; assumption
theorem ah.dec (n:Nat):(∀ cs,WTf tt n 33 cs→∃ x:ah,cs=ah.cs x∧ah.Bd x):=by
 induction n using Nat.strongRecOn with
 | _ n ih =>
 have ih_TValue:∀ m,m < n→(∀ cs,WTf tt m 33 cs→∃ x:ah,cs=ah.cs x∧ah.Bd x):=λ m hm=>(ih m hm)
 intro cs h
 cases n with
 | zero=>exact h.elim
 | succ n =>
 have h0:=pE rfl h
 obtain ⟨c0,q0,rfl,k0,h0⟩:=de h0
 obtain ⟨c1,q1,rfl,k1,h0⟩:=de h0
 obtain ⟨c2,q2,rfl,k2,h0⟩:=de h0
 obtain ⟨c3,q3,rfl,k3,h0⟩:=de h0
 obtain ⟨c4,q4,rfl,k4,h0⟩:=de h0
 have e:q4=[]:=h0
 subst e
 obtain ⟨x1,rfl,b2⟩:=oD rfl k0
 obtain ⟨x3,rfl,b4⟩:=oD rfl k1
 obtain ⟨x5,rfl,b6⟩:=gL rfl k2
 obtain ⟨x7,rfl,b8⟩:=iP aQ (λ y=>ah.Bd y) rfl k3 (λ m9 y10 hm11 k12 k13=>by
  obtain ⟨x14,e16,b15⟩:=ih_TValue _ (by omega) _ k12
  exact ⟨x14,(xz e16 k13).trans (ah.agg_eq _).symm,b15⟩
  )
 obtain ⟨x17,rfl,b18⟩:=iP eS (λ y=>y.length≤da) rfl k4 (λ m19 y20 hm21 k22 k23=>by
  obtain ⟨x24,e26,b25⟩:=gL rfl k22
  exact ⟨x24,mx e26 k23,b25⟩
  )
 exact ⟨ah.mk x1 x3 x5 x7 x17,rfl,.mk b2 b4 b6 b8.1 b8.2 b18.1 b18.2⟩
inductive aa.Bd:aa→Prop where
 | mk {x:aa} (bAddr:x.fAddr.length≤da) (bDeposed:x.fDeposed.length≤da) (bType:x.fType.length≤da) (bAction:inR x.fAction) (bReason:inR x.fReason) (bBefore:ah.Bd x.fBefore) (bAfter:ah.Bd x.fAfter) (bID:x.fID.length≤da) (bReplace:x.fReplace.length*16≤da) (eReplace:∀ y∈x.fReplace,y.length≤da) (bDeps:x.fDeps.length*16≤da) (eDeps:∀ y∈x.fDeps,y.length≤da) (bOldDeps:x.fOldDeps.length*16≤da) (eOldDeps:∀ y∈x.fOldDeps,y.length≤da):aa.Bd x
theorem aa.Bd.bAddr {x:aa}(h:aa.Bd x):x.fAddr.length≤da:=by cases h; assumption
theorem aa.Bd.bBefore {x:aa}(h:aa.Bd x):ah.Bd x.fBefore:=by cases h; assumption
theorem aa.Bd.bAfter {x:aa}(h:aa.Bd x):ah.Bd x.fAfter:=by cases h; assumption
theorem aa.Bd.bReplace {x:aa}(h:aa.Bd x):x.fReplace.length*16≤da:=by cases h; assumption
theorem aa.Bd.bDeps {x:aa}(h:aa.Bd x):x.fDeps.length*16≤da:=by cases h; assumption
theorem aa.Bd.bOldDeps {x:aa}(h:aa.Bd x):x.fOldDeps.length*16≤da:=by cases h; assumption
theorem aa.dec (n:Nat):(∀ cs,WTf tt n 35 cs→∃ x:aa,cs=aa.cs x∧aa.Bd x):=by
 induction n using Nat.strongRecOn with
 | _ n ih =>
 have ih_TChange:∀ m,m < n→(∀ cs,WTf tt m 35 cs→∃ x:aa,cs=aa.cs x∧aa.Bd x):=λ m hm=>(ih m hm)
 intro cs h
 cases n with
 | zero=>exact h.elim
 | succ n =>
 have h0:=pE rfl h
 obtain ⟨c0,q0,rfl,k0,h0⟩:=de h0
 obtain ⟨c1,q1,rfl,k1,h0⟩:=de h0
 obtain ⟨c2,q2,rfl,k2,h0⟩:=de h0
 obtain ⟨c3,q3,rfl,k3,h0⟩:=de h0
 obtain ⟨c4,q4,rfl,k4,h0⟩:=de h0
 obtain ⟨c5,q5,rfl,k5,h0⟩:=de h0
 obtain ⟨c6,q6,rfl,k6,h0⟩:=de h0
 obtain ⟨c7,q7,rfl,k7,h0⟩:=de h0
 obtain ⟨c8,q8,rfl,k8,h0⟩:=de h0
 obtain ⟨c9,q9,rfl,k9,h0⟩:=de h0
 obtain ⟨c10,q10,rfl,k10,h0⟩:=de h0
 obtain ⟨c11,q11,rfl,k11,h0⟩:=de h0
 obtain ⟨c12,q12,rfl,k12,h0⟩:=de h0
 obtain ⟨c13,q13,rfl,k13,h0⟩:=de h0
 have e:q13=[]:=h0
 subst e
 obtain ⟨x27,rfl,b28⟩:=gL rfl k0
 obtain ⟨x29,rfl,b30⟩:=gL rfl k1
 obtain ⟨x31,rfl,b32⟩:=gL rfl k2
 obtain ⟨x33,rfl,b34⟩:=oD rfl k3
 obtain ⟨x35,rfl,b36⟩:=oD rfl k4
 obtain ⟨x37,rfl,b38⟩:=ah.dec _ _ k5
 obtain ⟨x39,rfl,b40⟩:=ah.dec _ _ k6
 obtain ⟨x41,rfl,b42⟩:=gL rfl k7
 obtain ⟨x43,rfl,b44⟩:=iP eS (λ y=>y.length≤da) rfl k8 (λ m45 y46 hm47 k48 k49=>by
  obtain ⟨x50,e52,b51⟩:=gL rfl k48
  exact ⟨x50,mx e52 k49,b51⟩
  )
 obtain ⟨x53,rfl⟩:=sO rfl k9
 obtain ⟨x55,rfl⟩:=sO rfl k10
 obtain ⟨x57,rfl⟩:=sO rfl k11
 obtain ⟨x59,rfl,b60⟩:=iP eS (λ y=>y.length≤da) rfl k12 (λ m61 y62 hm63 k64 k65=>by
  obtain ⟨x66,e68,b67⟩:=gL rfl k64
  exact ⟨x66,mx e68 k65,b67⟩
  )
 obtain ⟨x69,rfl,b70⟩:=iP eS (λ y=>y.length≤da) rfl k13 (λ m71 y72 hm73 k74 k75=>by
  obtain ⟨x76,e78,b77⟩:=gL rfl k74
  exact ⟨x76,mx e78 k75,b77⟩
  )
 exact ⟨aa.mk x27 x29 x31 x33 x35 x37 x39 x41 x43 x53 x55 x57 x59 x69,rfl,.mk b28 b30 b32 b34 b36 b38 b40 b42 b44.1 b44.2 b60.1 b60.2 b70.1 b70.2⟩
inductive fH.Bd:fH→Prop where
 | mk {x:fH} (bKind:inR x.fKind) (bType:x.fType.length≤da) (bName:x.fName.length≤da) (bAt:inR x.fAt):fH.Bd x
theorem fH.dec (n:Nat):(∀ cs,WTf tt n 46 cs→∃ x:fH,cs=fH.cs x∧fH.Bd x):=by
 induction n using Nat.strongRecOn with
 | _ n ih =>
 have ih_TRef:∀ m,m < n→(∀ cs,WTf tt m 46 cs→∃ x:fH,cs=fH.cs x∧fH.Bd x):=λ m hm=>(ih m hm)
 intro cs h
 cases n with
 | zero=>exact h.elim
 | succ n =>
 have h0:=pE rfl h
 obtain ⟨c0,q0,rfl,k0,h0⟩:=de h0
 obtain ⟨c1,q1,rfl,k1,h0⟩:=de h0
 obtain ⟨c2,q2,rfl,k2,h0⟩:=de h0
 obtain ⟨c3,q3,rfl,k3,h0⟩:=de h0
 have e:q3=[]:=h0
 subst e
 obtain ⟨x79,rfl,b80⟩:=oD rfl k0
 obtain ⟨x81,rfl,b82⟩:=gL rfl k1
 obtain ⟨x83,rfl,b84⟩:=gL rfl k2
 obtain ⟨x85,rfl,b86⟩:=oD rfl k3
 exact ⟨fH.mk x79 x81 x83 x85,rfl,.mk b80 b82 b84 b86⟩
inductive bA.Bd:bA→Prop where
 | mk {x:bA} (bKind:inR x.fKind) (bNum:inR x.fNum) (bStr:x.fStr.length≤da):bA.Bd x
inductive ae.Bd:ae→Prop where
 | mk {x:ae} (bName:x.fName.length≤da) (bKey:bA.Bd x.fKey):ae.Bd x
inductive ao.Bd:ao→Prop where
 | mk {x:ao} (bModule:x.fModule.length*48≤da) (eModule:∀ y∈x.fModule,ae.Bd y) (bType:x.fType.length≤da) (bName:x.fName.length≤da) (bKey:bA.Bd x.fKey):ao.Bd x
inductive av.Bd:av→Prop where
 | mk {x:av} (brest:x.frest.length≤da):av.Bd x
inductive d5.Bd:d5→Prop where
 | mk {x:d5} (bAddr:ao.Bd x.fAddr):d5.Bd x
end Go.Ab
end
section
set_option linter.unusedVariables false
set_option linter.unusedSimpArgs false
set_option linter.unnecessarySimpa false
namespace Go.Ab.R06
open Go.Ab Go.Ab.RB Go.Lib
theorem fF:da≤600000000:=by decide
def ln (c:aa):Bytes:=if (om c.fAddr).2=0 then (om c.fAddr).1 else c.fAddr
theorem nU (c:aa)(hb:c.fAddr.length≤da):Ev2 (λ n _=>cq n c) (·=ln c):=by
 simp only [cq]
 unfold ln
 have:=fF
 exact ai _ (yW c.fAddr (by omega)) (xR (λ _=>ab rfl) (λ _=>ab rfl))
theorem m6 (c:aa)(hb:c.fAddr.length≤da):Ev2 (λ n _=>fe n c) (·=ln c):=by
 simp only [fe]
 unfold ln
 have:=fF
 exact ai _ (sR c.fAddr (by omega)) (xR (λ _=>ab rfl) (λ _=>ab rfl))
theorem vl (c:aa)(hb:c.fAddr.length≤da):Ev2 (λ n _=>gV n c) (·=ln c):=by
 simp only [gV]
 unfold ln
 have:=fF
 exact ai _ (sR c.fAddr (by omega)) (xR (λ _=>ab rfl) (λ _=>ab rfl))
def nW (c:aa):Bool:=decide (c.fAction=3)&&c.fCreateFirst
theorem zp (c:aa):jU c=some (nW c):=by
 unfold jU nW
 by_cases h:c.fAction=3 <;> simp [h]
theorem uz (c:aa):iW c=some (nW c):=by
 unfold iW nW
 by_cases h:c.fAction=3 <;> simp [h]
theorem DL (l:List Bytes)(s:Bytes)(hb:l.length≤da):∀ (k i:Nat),i+k=l.length→Ev2 (λ _ m=>fI l s m (i:Int)) (·=if s∈l.drop i then .inr true else .inl ()):=by
 have hW:=fF
 intro k
 induction k with
 | zero =>
  intro i hi
  refine ap ?_
  simp only [fI]
  exact am (by omega) (ab (by rw [List.drop_of_length_le (by omega)]; simp))
 | succ k ih =>
  intro i hi
  have h1:i < l.length:=by omega
  refine ap ?_
  simp only [fI]
  refine al (by omega) (ag (by omega) ?_)
  rw [d7 _ _ h1,List.drop_eq_getElem_cons h1]
  refine ar (λ h=>ab (by rw [if_pos (by simp [h])])) (λ h=>ag (aF (by omega) (by omega)) ?_)
  have:=ih (i+1) (by omega)
  rw [Int.natCast_add,Int.natCast_one] at this
  refine dZ this λ r hr=>?_
  rw [hr]
  have hm:s∈l[i]::l.drop (i+1)↔s∈l.drop (i+1):=by
   rw [List.mem_cons]; exact ⟨λ q=>q.resolve_left λ e=>h e.symm,.inr⟩
  simp only [hm]
theorem Bn (l:List Bytes)(s:Bytes)(hb:l.length≤da):Ev2 (λ n _=>kF n l s) (·=decide (s∈l)):=by
 simp only [kF]
 have l1:=DL l s hb l.length 0 (by omega)
 rw [List.drop_zero] at l1
 by_cases h:s∈l
 ·rw [if_pos h] at l1
  exact fW true (aH l1) (by simp [h])
 ·rw [if_neg h] at l1
  exact dF () (aH l1) (ab (by simp [h]))
theorem EA (a:aa)(s:Bytes)(hb:a.fDeps.length≤da):∀ (k i:Nat),i+k=a.fDeps.length→Ev2 (λ _ m=>dU a s m (i:Int)) (·=if s∈a.fDeps.drop i then .inr true else .inl ()):=by
 have hW:=fF
 intro k
 induction k with
 | zero =>
  intro i hi
  refine ap ?_
  simp only [dU]
  exact am (by omega) (ab (by rw [List.drop_of_length_le (by omega)]; simp))
 | succ k ih =>
  intro i hi
  have h1:i < a.fDeps.length:=by omega
  refine ap ?_
  simp only [dU]
  refine al (by omega) (ag (by omega) ?_)
  rw [d7 _ _ h1,List.drop_eq_getElem_cons h1]
  refine ar (λ h=>ab (by rw [if_pos (by simp [h])])) (λ h=>ag (aF (by omega) (by omega)) ?_)
  have:=ih (i+1) (by omega)
  rw [Int.natCast_add,Int.natCast_one] at this
  refine dZ this λ r hr=>?_
  rw [hr]
  have hm:s∈a.fDeps[i]::a.fDeps.drop (i+1)↔s∈a.fDeps.drop (i+1):=by
   rw [List.mem_cons]; exact ⟨λ q=>q.resolve_left λ e=>h e.symm,.inr⟩
  simp only [hm]
theorem Eo (a:aa)(s:Bytes)(hb:a.fOldDeps.length≤da):∀ (k i:Nat),i+k=a.fOldDeps.length→Ev2 (λ _ m=>dW a s m (i:Int)) (·=if s∈a.fOldDeps.drop i then .inr true else .inl ()):=by
 have hW:=fF
 intro k
 induction k with
 | zero =>
  intro i hi
  refine ap ?_
  simp only [dW]
  exact am (by omega) (ab (by rw [List.drop_of_length_le (by omega)]; simp))
 | succ k ih =>
  intro i hi
  have h1:i < a.fOldDeps.length:=by omega
  refine ap ?_
  simp only [dW]
  refine al (by omega) (ag (by omega) ?_)
  rw [d7 _ _ h1,List.drop_eq_getElem_cons h1]
  refine ar (λ h=>ab (by rw [if_pos (by simp [h])])) (λ h=>ag (aF (by omega) (by omega)) ?_)
  have:=ih (i+1) (by omega)
  rw [Int.natCast_add,Int.natCast_one] at this
  refine dZ this λ r hr=>?_
  rw [hr]
  have hm:s∈a.fOldDeps[i]::a.fOldDeps.drop (i+1)↔s∈a.fOldDeps.drop (i+1):=by
   rw [List.mem_cons]; exact ⟨λ q=>q.resolve_left λ e=>h e.symm,.inr⟩
  simp only [hm]
def nd (a b:aa):Bool:=decide (ln b∈a.fDeps)||decide (ln b∈a.fOldDeps)
theorem _root_.Go.Ab.aa.Bd.lens {c:aa}(h:aa.Bd c):c.fAddr.length≤da∧c.fDeps.length≤da∧c.fOldDeps.length≤da∧c.fReplace.length≤da:=by
 have h1:=h.bDeps; have h2:=h.bOldDeps; have h3:=h.bReplace
 exact ⟨h.bAddr,by omega,by omega,by omega⟩
theorem yT (a b:aa)(ha:aa.Bd a)(hb:aa.Bd b):Ev2 (λ n _=>gY n a b) (·=nd a b):=by
 simp only [gY]
 refine dw (·=nd a b) ?_ (λ t ht=>ab ht)
 refine ai _ (m6 b hb.lens.1) (ai _ (Bn _ _ ha.lens.2.1) ?_)
 unfold nd
 refine ar (λ h=>ab (by rw [h]; rfl)) (λ h=>?_)
 rw [Bool.not_eq_true] at h
 refine ai _ (m6 b hb.lens.1) (ai _ (Bn _ _ ha.lens.2.2.1) (ab ?_))
 rw [h]; rfl
theorem tl (a b:aa)(ha:aa.Bd a)(hb:aa.Bd b):Ev2 (λ n _=>fQ n a b) (·=nd a b):=by
 simp only [fQ]
 refine ai _ (vl b hb.lens.1) ?_
 have l1:=EA a (ln b) ha.lens.2.1 _ 0 (Nat.zero_add _)
 have l2:=Eo a (ln b) ha.lens.2.2.1 _ 0 (Nat.zero_add _)
 rw [List.drop_zero] at l1 l2
 unfold nd
 by_cases h:ln b∈a.fDeps
 ·rw [if_pos h] at l1
  exact fW true (aH l1) (by simp [h])
 ·rw [if_neg h] at l1
  refine dF () (aH l1) ?_
  by_cases h':ln b∈a.fOldDeps
  ·rw [if_pos h'] at l2
   exact fW true (aH l2) (by simp [h'])
  ·rw [if_neg h'] at l2
   exact dF () (aH l2) (ab (by simp [h,h']))
theorem ye {v y:ah}(h:y∈v.fItems):SizeOf.sizeOf y < SizeOf.sizeOf v:=by
 cases v
 simp only [ah.fItems] at h
 have:=List.sizeOf_lt_of_mem h
 simp only [ah.mk.sizeOf_spec]
 omega
theorem Ac {α:Type} [Inhabited α] (l:List α)(i:Nat)(h:i < l.length):l.set i l[i]=l:=by
 apply List.ext_getElem (by simp)
 intro j h1 h2
 rw [List.getElem_set]
 split
 ·rename_i e; subst e; rfl
 ·rfl
theorem uQ:∀ (N:Nat) (v:ah),SizeOf.sizeOf v < N→ah.Bd v→Ev2 (λ n _=>a8 n v) (·=v):=by
 have hW:=fF
 intro N
 induction N with
 | zero=>intro v h; omega
 | succ N ih =>
  intro v hv hb
  have h1:=hb.bKeys; have h2:=hb.bItems
  refine mY ?_
  simp only [a8]
  refine ag (by omega) (ar (λ h=>?_) (λ h=>ag (by omega) ?_))
  ·have he:v.fItems=[]:=by simpa using h
   refine ai () ?_ (ab (by cases v; simp only [ah.fItems] at he; subst he; rfl))
   refine aH (f:=λ n m=>cx (a8 n) m) (ap ?_)
   simp only [cx]
   exact am (by simp) (ab (by trivial))
  ·have loop:∀ (k i:Nat),i+k=v.fItems.length→Ev2 (λ n m=>bO (a8 n) v m (i:Int) v.fItems) (·=v.fItems):=by
    intro k
    induction k with
    | zero =>
     intro i hi
     refine ap ?_
     simp only [bO]
     exact am (by omega) (ab rfl)
    | succ k ihk =>
     intro i hi
     have hil:i < v.fItems.length:=by omega
     refine ap ?_
     simp only [bO]
     refine al (by omega) (ag (by omega) ?_)
     rw [d7 _ _ hil]
     have hmem:=List.getElem_mem hil
     refine ai _ (ih _ (by have:=ye hmem; omega) (hb.eItems _ hmem)) (ag (by omega) (ag (aF (by omega) (by omega)) ?_))
     rw [Int.toNat_natCast,Ac _ _ hil]
     have:=ihk (i+1) (by omega)
     rw [Int.natCast_add,Int.natCast_one] at this
     exact this
   exact ai _ (aH (f:=λ n m=>bO (a8 n) v m 0 v.fItems) (loop _ 0 (Nat.zero_add _))) (ab (ah.eta v))
theorem z1 (c:aa)(hb:aa.Bd c):Ev2 (λ n _=>dT n c) (·=c):=by
 have hW:=fF
 simp only [dT]
 have h1:=hb.bReplace; have h2:=hb.bDeps; have h3:=hb.bOldDeps
 exact ai _ (uQ _ _ (Nat.lt_succ_self _) hb.bBefore) (ai _ (uQ _ _ (Nat.lt_succ_self _) hb.bAfter) (ag (by omega) (ag (by omega) (ag (by omega) (ab rfl)))))
theorem Al (v:ah)(hb:ah.Bd v):∀ (k i:Nat),i+k=v.fKeys.length→Ev2 (λ _ m=>d8 v v m (i:Int)) (·=.inl ()):=by
 have hW:=fF
 have h1:=hb.bKeys
 intro k
 induction k with
 | zero =>
  intro i hi
  refine ap ?_
  simp only [d8]
  exact am (by omega) (ab rfl)
 | succ k ih =>
  intro i hi
  refine ap ?_
  simp only [d8]
  refine al (by omega) (ag (by omega) (ag (by omega) (al (by trivial) (ag (aF (by omega) (by omega)) ?_))))
  have:=ih (i+1) (by omega)
  rw [Int.natCast_add,Int.natCast_one] at this
  exact this
theorem wG:∀ (N:Nat) (v:ah),SizeOf.sizeOf v < N→ah.Bd v→Ev2 (λ n _=>ew n v v) (·=true):=by
 have hW:=fF
 intro N
 induction N with
 | zero=>intro v h; omega
 | succ N ih =>
  intro v hv hb
  have h1:=hb.bKeys; have h2:=hb.bItems
  refine mY ?_
  simp only [ew]
  refine ai false (al (by trivial) (al (by trivial) (al (by trivial) (al (by trivial) (ab (by simp)))))) (am (by simp) ?_)
  refine dF () (aH (f:=λ _ m=>d8 v v m 0) (Al v hb _ 0 (Nat.zero_add _))) ?_
  have loop:∀ (k i:Nat),i+k=v.fItems.length→Ev2 (λ n m=>ed (ew n) v v m (i:Int)) (·=.inl ()):=by
   intro k
   induction k with
   | zero =>
    intro i hi
    refine ap ?_
    simp only [ed]
    exact am (by omega) (ab rfl)
   | succ k ihk =>
    intro i hi
    have hil:i < v.fItems.length:=by omega
    refine ap ?_
    simp only [ed]
    refine al (by omega) (ag (by omega) (ag (by omega) ?_))
    rw [d7 _ _ hil]
    have hmem:=List.getElem_mem hil
    refine ai true (ih _ (by have:=ye hmem; omega) (hb.eItems _ hmem)) (am (by simp) (ag (aF (by omega) (by omega)) ?_))
    have:=ihk (i+1) (by omega)
    rw [Int.natCast_add,Int.natCast_one] at this
    exact this
  exact dF () (aH (f:=λ n m=>ed (ew n) v v m 0) (loop _ 0 (Nat.zero_add _))) (ab rfl)
theorem CR (a:List Bytes)(hb:a.length≤da):∀ (k i:Nat),i+k=a.length→Ev2 (λ _ m=>ep a a m (i:Int)) (·=.inl ()):=by
 have hW:=fF
 intro k
 induction k with
 | zero =>
  intro i hi
  refine ap ?_
  simp only [ep]
  exact am (by omega) (ab rfl)
 | succ k ih =>
  intro i hi
  refine ap ?_
  simp only [ep]
  refine al (by omega) (ag (by omega) (ag (by omega) (al (by trivial) (ag (aF (by omega) (by omega)) ?_))))
  have:=ih (i+1) (by omega)
  rw [Int.natCast_add,Int.natCast_one] at this
  exact this
theorem tE (a:List Bytes)(hb:a.length≤da):Ev2 (λ n _=>iI n a a) (·=true):=by
 simp only [iI]
 exact al (by trivial) (dF () (aH (f:=λ _ m=>ep a a m 0) (CR a hb _ 0 (Nat.zero_add _))) (ab rfl))
theorem oM (c:aa)(hb:aa.Bd c):Ev2 (λ n _=>gj n c c) (·=true):=by
 simp only [gj]
 obtain ⟨h1,h2,h3,h4⟩:=hb.lens
 refine ai true ?_ (ab rfl)
 refine al (by trivial) (al (by trivial) (al (by trivial) (al (by trivial) (al (by trivial) ?_))))
 refine ai true (wG _ _ (Nat.lt_succ_self _) hb.bBefore) (al rfl (ai true (wG _ _ (Nat.lt_succ_self _) hb.bAfter) (al rfl (al (by trivial) (ai true (tE _ h4) (al rfl ?_))))))
 exact al (by simp) (al (by simp) (al (by simp) (ai true (tE _ h2) (al rfl (ai true (tE _ h3) (ab rfl))))))
theorem EC (l:List aa)(hl:l.length≤da):∀ (k i:Nat),i+k=l.length→Ev2 (λ _ m=>eP l m (i:Int)) (λ r=>∀ b,r=.inr b→b=false):=by
 have hW:=fF
 intro k
 induction k with
 | zero =>
  intro i hi
  refine ap ?_
  simp only [eP]
  exact ai false (am (by omega) (ab rfl)) (am (by simp) (ab (by intro b h; cases h)))
 | succ k ih =>
  intro i hi
  refine ap ?_
  simp only [eP]
  refine dw (λ _=>True) (ar (λ _=>ab trivial) (λ _=>ab trivial)) (λ t _=>?_)
  refine ar (λ _=>?_) (λ _=>ab (by intro b h; cases h))
  refine dw (λ _=>True) (ag (by omega) (ar (λ _=>ab trivial) (λ _=>ag (by omega) (ar (λ _=>ab trivial) (λ _=>ag (by omega) (ab trivial)))))) (λ t _=>?_)
  refine ar (λ _=>ab (by intro b h; cases h; rfl)) (λ _=>ag (aF (by omega) (by omega)) ?_)
  have:=ih (i+1) (by omega)
  rw [Int.natCast_add,Int.natCast_one] at this
  exact this
theorem sZ (l:List aa)(hl:l.length≤da):Ev2 (λ n _=>hH n l) (λ r=>r=true→l.length≤30):=by
 simp only [hH]
 refine ls (dZ (aH (f:=λ _ m=>eP l m 0) (EC l hl _ 0 (Nat.zero_add _))) λ s hs=>?_)
 cases s with
 | inl u=>exact ab λ h=>by have:=of_decide_eq_true h; omega
 | inr b=>intro h; have:=hs b rfl; rw [this] at h; cases h
end Go.Ab.R06
end
section
set_option linter.unusedVariables false
set_option linter.unusedSimpArgs false
set_option linter.unnecessarySimpa false
namespace Go.Ab
inductive Rch (first:Nat→Prop)(needs:Nat→Nat→Prop):Nat→Prop where
 | one {i k:Nat} (h:first i) (hk:needs i k):Rch first needs k
 | more {i k:Nat} (h:Rch first needs i) (hk:needs i k):Rch first needs k
theorem Rch.least {first:Nat→Prop}{needs:Nat→Nat→Prop}{S:Nat→Prop}(h1:∀ i k,first i→needs i k→S k)(h2:∀ i k,S i→needs i k→S k):∀ {k},Rch first needs k→S k:=by
 intro k h
 induction h with
 | one h hk=>exact h1 _ _ h hk
 | more _ hk ih=>exact h2 _ _ ih hk
structure DfsInv (n:Nat)(first:Nat→Prop)(needs:Nat→Nat→Prop)(seen:Nat→Prop)(todo:List Nat):Prop where
 sound:∀ k,seen k→Rch first needs k
 work:∀ i∈todo,i < n∧(first i∨seen i)
 done:∀ i,i < n→(first i∨seen i)→i∈todo∨∀ k,k < n→needs i k→seen k
theorem lI {n:Nat}{first:Nat→Prop}{needs:Nat→Nat→Prop}{on:Nat→Prop}(hn:∀ i k,needs i k→i < n∧k < n)(hs:∀ k,on k→Rch first needs k)(hc:∀ i k,i < n→k < n→(first i∨on i)→needs i k→on k):∀ k,on k↔Rch first needs k :=
 λ k=>⟨hs k,λ hr=>Rch.least (S:=on) (λ i k hf hk=>hc i k (hn i k hk).1 (hn i k hk).2 (.inl hf) hk) (λ i k h hk=>hc i k (hn i k hk).1 (hn i k hk).2 (.inr h) hk) hr⟩
end Go.Ab
end
section
set_option linter.unusedVariables false
set_option linter.unusedSimpArgs false
set_option linter.unnecessarySimpa false
namespace Go.Ab.R06
open Go.Ab Go.Ab.RB Go.Lib
def cat (l:List aa)(i:Nat):aa:=l.getD i default
theorem fo (l:List aa)(i:Nat):lat l (i:Int)=cat l i:=rfl
def fi (l:List aa)(i:Nat):Prop:=i < l.length∧nW (cat l i)=true
def ne (l:List aa)(i k:Nat):Prop:=i < l.length∧k < l.length∧nd (cat l i) (cat l k)=true
def Rc (l:List aa)(k:Nat):Prop:=Rch (fi l) (ne l) k
theorem Rc.lt {l:List aa}{k:Nat}(h:Rc l k):k < l.length:=by
 cases h with
 | one _ hk=>exact hk.2.1
 | more _ hk=>exact hk.2.1
theorem Ay {l:List aa}(i k:Nat)(h:ne l i k):i < l.length∧k < l.length:=⟨h.1,h.2.1⟩
open Classical in
noncomputable def rcB (l:List aa):List Bool:=(List.range l.length).map λ k=>decide (Rc l k)
def on (S:List Bool)(k:Nat):Prop:=S.getD k false=true
theorem DJ {S:List Bool}{k:Nat}(h:on S k):k < S.length:=by
 unfold on at h
 rw [List.getD_eq_getElem?_getD] at h
 by_cases hk:k < S.length
 ·exact hk
 ·rw [List.getElem?_eq_none (by omega)] at h; cases h
theorem vB (n k:Nat):¬ on (List.replicate n false) k:=by
 unfold on
 rw [List.getD_eq_getElem?_getD,List.getElem?_replicate]
 split <;> simp
theorem jM {S:List Bool}{i k:Nat}(hi:i < S.length):on (S.set i true) k↔k=i∨on S k:=by
 unfold on
 rw [List.getD_eq_getElem?_getD,List.getD_eq_getElem?_getD,List.getElem?_set]
 by_cases e:i=k
 ·subst e; simp [hi]
 ·rw [if_neg e]; simp [show k≠i from λ q=>e q.symm]
theorem sw {l:List aa}{S:List Bool}(hl:S.length=l.length)(h:∀ k,on S k↔Rc l k):S=rcB l:=by
 unfold rcB
 apply List.ext_getElem (by simp [hl])
 intro k h1 h2
 rw [List.getElem_map,List.getElem_range]
 have:=h k
 unfold on at this
 rw [List.getD_eq_getElem?_getD,List.getElem?_eq_getElem h1,Option.getD_some] at this
 by_cases hr:Rc l k
 ·rw [this.2 hr]; simp [hr]
 ·cases hs:S[k] with
  | true=>exact absurd (this.1 hs) hr
  | false=>simp [hr]
theorem oL (l:List aa):(rcB l).length=l.length:=by simp [rcB]
open Classical in
theorem u4 (l:List aa)(k:Nat)(h:k < l.length):(rcB l).getD k false=decide (Rc l k):=by
 rw [List.getD_eq_getElem?_getD,List.getElem?_eq_getElem (by rw [oL]; exact h)]
 simp [rcB]
theorem Cc {S:List Bool}{k:Nat}:¬ on S k↔S.getD k false=false:=by unfold on; cases S.getD k false <;> simp
theorem BN:∀ (S S':List Bool),S.length=S'.length→(∀ k,on S k→on S' k)→S.count true≤S'.count true
 | [],[],_,_=>Nat.le_refl _
 | [],_::_,h,_=>by simp at h
 | _::_,[],h,_=>by simp at h
 | b::S,b'::S',h,hu=>by
  have h1:=BN S S' (by simpa using h) (λ k hk=>by have:=hu (k+1); simp only [on,List.getD_cons_succ] at this ⊢; exact this hk)
  have h0:=hu 0
  simp only [on,List.getD_cons_zero] at h0
  simp only [List.count_cons]
  cases b <;> cases b' <;> simp at h0 ⊢ <;> omega
theorem cnt_lt:∀ (S S':List Bool),S.length=S'.length→(∀ k,on S k→on S' k)→(∃ k,on S' k∧¬ on S k)→S.count true < S'.count true
 | [],[],_,_,⟨k,h,_⟩=>absurd (DJ h) (Nat.not_lt_zero _)
 | [],_::_,h,_,_=>by simp at h
 | _::_,[],h,_,_=>by simp at h
 | b::S,b'::S',h,hu,⟨k,hk,hn⟩=>by
  have hl:S.length=S'.length:=by simpa using h
  have hu':∀ k,on S k→on S' k:=λ k hk=>by have:=hu (k+1); simp only [on,List.getD_cons_succ] at this ⊢; exact this hk
  have h0:=hu 0
  simp only [on,List.getD_cons_zero] at h0
  simp only [List.count_cons]
  cases k with
  | zero =>
   simp only [on,List.getD_cons_zero] at hk hn
   have h1:=BN S S' hl hu'
   subst hk
   simp at hn
   subst hn
   simp; omega
  | succ k =>
   simp only [on,List.getD_cons_succ] at hk hn
   have h1:=cnt_lt S S' hl hu' ⟨k,hk,hn⟩
   cases b <;> cases b' <;> simp at h0 ⊢ <;> omega
theorem Di {S:List Bool}(h:S.length≤S.count true){k:Nat}(hk:k < S.length):on S k:=by
 have h1:S.count true=S.length:=Nat.le_antisymm (List.count_le_length ..) h
 have h2:=List.count_eq_length.1 h1 S[k] (List.getElem_mem hk)
 unfold on
 rw [List.getD_eq_getElem?_getD,List.getElem?_eq_getElem hk,Option.getD_some]; exact h2.symm
structure Stp (l:List aa)(A:Nat→Nat→Prop)(S S':List Bool):Prop where
 len:S'.length=l.length
 up:∀ k,on S k→on S' k
 all:∀ i k,A i k→(fi l i∨on S i)→ne l i k→on S' k
 snd:(∀ k,on S k→Rc l k)→∀ k,on S' k→Rc l k
theorem Stp.then {l:List aa}{A B:Nat→Nat→Prop}{S S' S'':List Bool}(h:Stp l A S S')(k:Stp l B S' S''):Stp l (λ i j=>A i j∨B i j) S S'' :=
 ⟨k.len,λ j hj=>k.up j (h.up j hj),λ i j hab hf hn=>hab.elim (λ a=>k.up j (h.all i j a hf hn)) (λ b=>k.all i j b (hf.imp id (h.up i)) hn),λ hs=>k.snd (h.snd hs)⟩
theorem Stp.mono {l:List aa}{A B:Nat→Nat→Prop}{S S':List Bool}(h:Stp l A S S')(hb:∀ i k,B i k→ne l i k→A i k):Stp l B S S' :=
 ⟨h.len,h.up,λ i k b hf hn=>h.all i k (hb i k b hn) hf hn,h.snd⟩
theorem Stp.refl {l:List aa}{S:List Bool}(hl:S.length=l.length):Stp l (λ _ _=>False) S S:=⟨hl,λ _ h=>h,λ _ _ h=>h.elim,λ h=>h⟩
def xm (l:List aa)(r:Nat)(S:List Bool):Prop:=(∀ k,Rc l k→on S k)∨r≤S.count true
theorem xm.next {l:List aa}{r:Nat}{S S':List Bool}(hl:S.length=l.length)(h:xm l r S)(hs:∀ k,on S k→Rc l k)(k:Stp l (λ _ _=>True) S S'):xm l (r+1) S':=by
 by_cases hc:∀ i k,i < l.length→k < l.length→(fi l i∨on S i)→ne l i k→on S k
 ·exact .inl λ j hj=>k.up j ((lI Ay hs hc j).2 hj)
 ·rcases h with h | h
  ·exact .inl λ j hj=>k.up j (h j hj)
  ·have hex:∃ j,on S' j∧¬ on S j:=by
    apply Classical.byContradiction
    intro hno
    apply hc
    intro i j _ _ hf hn
    exact Classical.byContradiction λ hj=>hno ⟨j,k.all i j trivial hf hn,hj⟩
   have:=cnt_lt S S' (hl.trans k.len.symm) k.up hex
   exact .inr (by omega)
theorem xm.fin {l:List aa}{S:List Bool}(hl:S.length=l.length)(h:xm l l.length S):∀ k,Rc l k→on S k:=by
 intro k hk
 rcases h with h | h
 ·exact h k hk
 ·exact Di (by omega) (by rw [hl]; exact hk.lt)
variable {l:List aa} (hb:∀ c∈l,aa.Bd c) (hl:l.length≤30)
theorem ly {l:List aa}{i:Nat}(h:i < l.length):cat l i∈l:=by
 unfold cat
 rw [List.getD_eq_getElem?_getD,List.getElem?_eq_getElem h]; exact List.getElem_mem h
theorem kK {S:List Bool}{k:Nat}(hk:k < S.length):lat S (k:Int)=true↔on S k:=by
 rw [d7 _ _ hk]; unfold on
 rw [List.getD_eq_getElem?_getD,List.getElem?_eq_getElem hk,Option.getD_some]
theorem A6 (hb:∀ c∈l,aa.Bd c)(hl:l.length≤30)(i:Nat)(hi:i < l.length):∀ (j k:Nat) (b:Bool) (S:List Bool),k+j=l.length→S.length=l.length →
  Ev2 (λ n m=>dY n l (i:Int) m b (k:Int) S) (λ r=>Stp l (λ i' k'=>i'=i∧k≤k') S r.2∧(r.1=false→r.2=S∧b=false)):=by
 intro j
 induction j with
 | zero =>
  intro k b S hk hS
  refine ap ?_
  simp only [dY]
  exact am (by omega) (ab ⟨(Stp.refl hS).mono λ i' k' h hn=>by have:=hn.2.1; omega,λ h=>⟨rfl,h⟩⟩)
 | succ j ih =>
  intro k b S hk hS
  have hkl:k < l.length:=by omega
  have hkS:k < S.length:=by omega
  refine ap ?_
  simp only [dY]
  refine al (by omega) ?_
  have hce:∀ t:Bool,t=true→Ev2 (λ n m=>gY n (lat l (i:Int)) (lat l (k:Int))) (·=nd (cat l i) (cat l k)):=λ _ _=>yT _ _ (hb _ (ly hi)) (hb _ (ly hkl))
  refine dw (λ q=>(q=(b,S)∧((fi l i∨on S i)→ne l i k→on S k))∨(q=(true,S.set k true)∧¬ on S k∧(fi l i∨on S i)∧ne l i k)) ?_ (λ q hq=>?_)
  ·refine dw (λ t=>(t=true→(fi l i∨on S i)∧¬ on S k∧ne l i k)∧(t=false→(fi l i∨on S i)→ne l i k→on S k)) ?_ (λ t ht=>?_)
   ·refine ag (by omega) ?_
    rw [fo l i]
    refine ai (nW (cat l i)) (aR (zp _) rfl) ?_
    refine ar (λ hf=>?_) (λ hf=>?_)
    ·refine ag (by omega) (ar (λ hs=>?_) (λ hs=>ab ⟨λ h=>(by cases h),λ _ _ _=>?_⟩))
     ·refine ag (by omega) (ag (by omega) (ai _ (hce _ hf) (ab ⟨λ h=>⟨.inl ⟨hi,hf⟩,λ h'=>?_,hi,hkl,h⟩,λ h _ hn=>?_⟩)))
      ·rw [(kK hkS).2 h'] at hs; cases hs
      ·rw [hn.2.2] at h; cases h
     ·exact (kK hkS).1 (by simpa using hs)
    ·have hnf:¬ fi l i:=λ h=>hf h.2
     refine ag (by omega) (ar (λ hs=>?_) (λ hs=>ab ⟨λ h=>(by cases h),λ _ h=>?_⟩))
     ·refine ag (by omega) (ar (λ hs2=>?_) (λ hs2=>ab ⟨λ h=>(by cases h),λ _ _ _=>?_⟩))
      ·refine ag (by omega) (ag (by omega) (ai _ (hce _ hs) (ab ⟨λ h=>⟨.inr ((kK (by omega)).1 hs),λ h'=>?_,hi,hkl,h⟩,λ h _ hn=>?_⟩)))
       ·rw [(kK hkS).2 h'] at hs2; cases hs2
       ·rw [hn.2.2] at h; cases h
      ·exact (kK hkS).1 (by simpa using hs2)
     ·rcases h with h | h
      ·exact absurd h hnf
      ·exact absurd ((kK (by omega)).2 h) hs
   ·refine ar (λ h=>ag (by omega) (ab (.inr ⟨by rw [Int.toNat_natCast],(ht.1 h).2.1,(ht.1 h).1,(ht.1 h).2.2⟩))) (λ h=>ab (.inl ⟨rfl,ht.2 (by simpa using h)⟩))
  ·refine ag (aF (by omega) (by omega)) ?_
   have hstep:∀ (b':Bool) (S':List Bool),q=(b',S')→Stp l (λ i' k'=>i'=i∧k'=k) S S'∧(b'=false→S'=S∧b=false):=by
    intro b' S' e
    rcases hq with ⟨rfl,h⟩ | ⟨rfl,h1,h2,h3⟩
    ·cases e
     refine ⟨⟨hS,λ _ h=>h,λ i' k' h' hf hn=>?_,λ h=>h⟩,λ h=>⟨rfl,h⟩⟩
     obtain ⟨rfl,rfl⟩:=h'
     exact h hf hn
    ·cases e
     refine ⟨⟨by simp [hS],λ j hj=>(jM hkS).2 (.inr hj),λ i' k' h' hf hn=>?_,λ hs j hj=>?_⟩,λ h=>by cases h⟩
     ·obtain ⟨rfl,rfl⟩:=h'
      exact (jM hkS).2 (.inl rfl)
     ·rcases (jM hkS).1 hj with rfl | hj
      ·rcases h2 with h2 | h2
       ·exact .one h2 h3
       ·exact .more (hs _ h2) h3
      ·exact hs j hj
   obtain ⟨b',S'⟩:=q
   obtain ⟨s1,s2⟩:=hstep b' S' rfl
   have:=ih (k+1) b' S' (by omega) s1.len
   rw [Int.natCast_add,Int.natCast_one] at this
   refine dZ this λ r hr=>⟨(s1.then hr.1).mono λ i' k' h _=>?_,λ h=>?_⟩
   ·obtain ⟨rfl,h⟩:=h
    by_cases e:k'=k
    ·exact .inl ⟨rfl,e⟩
    ·exact .inr ⟨rfl,by omega⟩
   ·obtain ⟨h1,h2⟩:=hr.2 h
    obtain ⟨h3,h4⟩:=s2 h2
    exact ⟨h1.trans h3,h4⟩
theorem Ci (hb:∀ c∈l,aa.Bd c)(hl:l.length≤30):∀ (j i:Nat) (b:Bool) (S:List Bool),i+j=l.length→S.length=l.length →
  Ev2 (λ n m=>dX n l m b (i:Int) S) (λ r=>Stp l (λ i' _=>i≤i') S r.2∧(r.1=false→r.2=S∧b=false)):=by
 intro j
 induction j with
 | zero =>
  intro i b S hi hS
  refine ap ?_
  simp only [dX]
  exact am (by omega) (ab ⟨(Stp.refl hS).mono λ i' k' h hn=>by have:=hn.1; omega,λ h=>⟨rfl,h⟩⟩)
 | succ j ih =>
  intro i b S hi hS
  refine ap ?_
  simp only [dX]
  refine al (by omega) (dw _ (aH (A6 hb hl i (by omega) l.length 0 b S (by omega) hS)) (λ q hq=>ag (aF (by omega) (by omega)) ?_))
  have:=ih (i+1) q.1 q.2 (by omega) hq.1.len
  rw [Int.natCast_add,Int.natCast_one] at this
  refine dZ this λ r hr=>⟨(hq.1.then hr.1).mono λ i' k' h _=>?_,λ h=>?_⟩
  ·by_cases e:i'=i
   ·exact .inl ⟨e,Nat.zero_le _⟩
   ·exact .inr (by omega)
  ·obtain ⟨h1,h2⟩:=hr.2 h
   obtain ⟨h3,h4⟩:=hq.2 h2
   exact ⟨h1.trans h3,h4⟩
theorem AM (hb:∀ c∈l,aa.Bd c)(hl:l.length≤30):∀ (j r:Nat) (S:List Bool),r+j=l.length→S.length=l.length→(∀ k,on S k→Rc l k)→xm l r S→Ev2 (λ n m=>dS n l m (r:Int) S) (·=rcB l):=by
 intro j
 induction j with
 | zero =>
  intro r S hr hS hs hd
  refine ap ?_
  simp only [dS]
  obtain rfl:r=l.length:=by omega
  exact am (by omega) (ab (sw hS λ k=>⟨hs k,hd.fin hS k⟩))
 | succ j ih =>
  intro r S hr hS hs hd
  refine ap ?_
  simp only [dS]
  refine al (by omega) (dw _ (aH (Ci hb hl l.length 0 false S (by omega) hS)) (λ q hq=>?_))
  have hst:Stp l (λ _ _=>True) S q.2:=hq.1.mono λ _ _ _ _=>Nat.zero_le _
  refine ar (λ h=>ab ?_) (λ h=>ag (aF (by omega) (by omega)) ?_)
  ·obtain ⟨h1,_⟩:=hq.2 (by simpa using h)
   refine sw hst.len λ k=>?_
   rw [h1]
   exact lI Ay hs (λ i k _ _ hf hn=>by have:=hst.all i k trivial hf hn; rw [h1] at this; exact this) k
  ·have:=ih (r+1) q.2 (by omega) hst.len (hst.snd hs) (hd.next hS hs hst)
   rw [Int.natCast_add,Int.natCast_one] at this
   exact this
theorem xS (hb:∀ c∈l,aa.Bd c)(hl:l.length≤30):Ev2 (λ n _=>ip n l) (·=rcB l):=by
 simp only [ip]
 refine ag (by omega) ?_
 rw [Int.toNat_natCast]
 exact ai _ (aH (AM hb hl l.length 0 _ (by omega) (by simp) (λ k h=>absurd h (vB _ _)) (.inr (Nat.zero_le _)))) (ab rfl)
end Go.Ab.R06
end
section
set_option linter.unusedVariables false
set_option linter.unusedSimpArgs false
set_option linter.unnecessarySimpa false
namespace Go.Ab.R06
open Go.Ab Go.Ab.RB Go.Lib
theorem uI {α:Type}:∀ (L:List (Bytes×α)) (k:Bytes) (v:α) (k':Bytes),dC (mH L k v) k'=if k=k' then some v else dC L k'
 | [],k,v,k'=>by simp [mH,dC]
 | (j,u)::r,k,v,k'=>by
  simp only [mH]
  by_cases e:j=k
  ·subst e; rw [if_pos rfl]; simp only [dC]
   by_cases e2:j=k' <;> simp [e2]
  ·rw [if_neg e]; simp only [dC]
   rw [uI r k v k']
   by_cases e2:j=k'
   ·subst e2; simp [show ¬ k=j from λ q=>e q.symm]
   ·simp [e2]
theorem cntF:∀ (S:List Bool) (k:Nat),k < S.length→S.getD k false=false→(S.set k true).count false+1=S.count false
 | [],k,h,_=>by simp at h
 | b::S,0,_,h=>by
  simp only [List.getD_cons_zero] at h
  subst h; simp
 | b::S,k+1,h,h2=>by
  simp only [List.getD_cons_succ] at h2
  have:=cntF S k (by simpa using h) h2
  simp only [List.set_cons_succ,List.count_cons]
  omega
abbrev ints (T:List Nat):List Int:=T.map λ i:Nat=>(i:Int)
theorem zc (a b:List Bytes)(ha:a.length*16≤da)(hb:b.length*16≤da):Ev2 (λ n _=>bH n [a,b]) (·=a++b):=by
 have hW:=fF
 simp only [bH]
 have e0:lat [a,b] 0=a:=rfl
 have e1:lat [a,b] (0+1)=b:=rfl
 have hl:(([a,b]:List (List Bytes)).length:Int)=2:=rfl
 have l1:Ev2 (λ _ m=>aM [a,b] m 0 0) (·=(a.length:Int)+(b.length:Int)):=by
  refine ap ?_
  simp only [aM,hl,e0]
  refine al (by omega) (ag (by omega) (ag (aF (by omega) (by omega)) (am (by omega) (ag (aF (by omega) (by omega)) ?_))))
  refine ap ?_
  simp only [aM,hl,e1]
  refine al (by omega) (ag (by omega) (ag (aF (by omega) (by omega)) (am (by omega) (ag (aF (by omega) (by omega)) ?_))))
  refine ap ?_
  simp only [aM,hl]
  exact am (by omega) (ab (by omega))
 refine ai _ (aH l1) ?_
 refine ai [] ?_ ?_
 ·simp only [eh]
  refine am (by omega) (ai [] ?_ (ab rfl))
  refine ag (aF (by omega) (by omega)) (ag (aF (by omega) (by omega)) (ar (λ h=>?_) (λ h=>ab rfl)))
  exact ag (by omega) (ag ⟨h,by omega⟩ (ag (by omega) (ab rfl)))
 ·have l2:Ev2 (λ _ m=>aN [a,b] m [] 0) (·=a++b):=by
   refine ap ?_
   simp only [aN,hl,e0]
   refine al (by omega) (ag (by omega) (ag (by simp only [List.length_nil]; omega) (ag (aF (by omega) (by omega)) ?_)))
   refine ap ?_
   simp only [aN,hl,e1]
   refine al (by omega) (ag (by omega) (ag (by simp only [List.nil_append]; omega) (ag (aF (by omega) (by omega)) ?_)))
   refine ap ?_
   simp only [aN,hl]
   exact am (by omega) (ab rfl)
  exact ai _ (aH l2) (ab rfl)
def ixs (l:List aa)(r:Bytes)(t:Nat):List Nat:=(List.range t).filter λ i=>decide (ln (cat l i)=r)
def fis (l:List aa)(t:Nat):List Nat:=(List.range t).filter λ i=>nW (cat l i)
theorem yc (l:List aa)(r:Bytes)(t:Nat):(ixs l r t).length≤t:=by
 unfold ixs
 exact Nat.le_trans (List.length_filter_le ..) (by simp)
theorem yp (l:List aa)(t:Nat):(fis l t).length≤t:=by
 unfold fis
 exact Nat.le_trans (List.length_filter_le ..) (by simp)
theorem Bb (l:List aa)(r:Bytes)(t:Nat):ixs l r (t+1)=if ln (cat l t)=r then ixs l r t++[t] else ixs l r t:=by
 unfold ixs
 rw [List.range_succ,List.filter_append]
 by_cases h:ln (cat l t)=r <;> simp [h]
theorem AQ (l:List aa)(t:Nat):fis l (t+1)=if nW (cat l t)=true then fis l t++[t] else fis l t:=by
 unfold fis
 rw [List.range_succ,List.filter_append]
 by_cases h:nW (cat l t)=true <;> simp [h]
def sA (l:List aa)(A:List (Bytes×List Int))(t:Nat):Prop:=∀ r,(dC A r).getD []=ints (ixs l r t)
structure Mid (l:List aa)(c K:Nat)(T:List Nat)(S:List Bool):Prop where
 len:S.length=l.length
 sound:∀ k,on S k→Rc l k
 work:∀ i∈T,i < l.length∧(fi l i∨on S i)
 done:∀ i,i < l.length→(fi l i∨on S i)→i∈T∨i=c∨∀ k,ne l i k→on S k
 meas:T.length+S.count false=K
section
variable {l:List aa} (hb:∀ c∈l,aa.Bd c) (hl:l.length≤30)
theorem CY (hl:l.length≤30){c:Nat}(hc:c < l.length){r:Bytes}(hr:r∈(cat l c).fDeps∨r∈(cat l c).fOldDeps){A:List (Bytes×List Int)}(hA:sA l A l.length){D:List Bytes}{p:Nat}(hp:lat D (p:Int)=r){K:Nat}(hK:K≤1000) :
  ∀ (j t:Nat) (T:List Nat) (S:List Bool),t+j=(ixs l r l.length).length→Mid l c K T S→(fi l c∨on S c) →
   Ev2 (λ _ m=>bM A D (p:Int) m (ints T) (t:Int) S) (λ q=>∃ T',q.1=ints T'∧Mid l c K T' q.2∧(∀ k,on S k→on q.2 k)∧∀ k∈(ixs l r l.length).drop t,on q.2 k):=by
 have hix:=yc l r l.length
 intro j
 induction j with
 | zero =>
  intro t T S ht hm _
  refine ap ?_
  simp only [bM,hp,hA r,ints,List.length_map]
  exact am (by omega) (ab ⟨T,rfl,hm,λ _ h=>h,λ k hk=>by rw [List.drop_of_length_le (by omega)] at hk; cases hk⟩)
 | succ j ih =>
  intro t T S ht hm hcf
  have htl:t < (ixs l r l.length).length:=by omega
  obtain ⟨k,hk⟩:∃ k,k=(ixs l r l.length)[t]:=⟨_,rfl⟩
  have hkm:k∈ixs l r l.length:=by rw [hk]; exact List.getElem_mem htl
  have hkl:k < l.length∧ln (cat l k)=r:=by
   unfold ixs at hkm
   have:=List.mem_filter.1 hkm
   exact ⟨List.mem_range.1 this.1,of_decide_eq_true this.2⟩
  have hkS:k < S.length:=by rw [hm.len]; exact hkl.1
  have hlat:lat (ints (ixs l r l.length)) (t:Int)=(k:Int):=by
   rw [d7 _ _ (by simpa [ints] using htl),hk]; simp [ints]
  have hne:ne l c k:=⟨hc,hkl.1,by unfold nd; rw [hkl.2]; rcases hr with h | h <;> simp [h]⟩
  refine ap ?_
  simp only [bM,hp,hA r,hlat]
  simp only [ints,List.length_map]
  refine al (by omega) (dw (λ q=>∃ T',q.1=ints T'∧Mid l c K T' q.2∧(∀ k,on S k→on q.2 k)∧on q.2 k) ?_ (λ q hq=>?_))
  ·refine ag (by omega) (ag (by have:=hm.len; omega) (ar (λ h=>?_) (λ h=>ab ⟨T,rfl,hm,λ _ h=>h,(kK hkS).1 (by simpa using h)⟩)))
   have hnot:¬ on S k:=λ q=>by rw [(kK hkS).2 q] at h; cases h
   have hcnt:=cntF S k hkS (Cc.1 hnot)
   have hmm:=hm.meas
   refine ag (by have:=hm.len; omega) (ag (by simp only [List.length_cons,List.length_nil]; omega) (ab ⟨T++[k],by simp [ints],?_,λ j hj=>?_,?_⟩))
   ·rw [Int.toNat_natCast]
    refine ⟨by simp [hm.len],λ j hj=>?_,λ i hi=>?_,λ i hi hf=>?_,by simp; omega⟩
    ·rcases (jM hkS).1 hj with rfl | hj
     ·rcases hcf with h | h
      ·exact .one h hne
      ·exact .more (hm.sound _ h) hne
     ·exact hm.sound _ hj
    ·rcases List.mem_append.1 hi with hi | hi
     ·exact ⟨(hm.work i hi).1,(hm.work i hi).2.imp id λ h=>(jM hkS).2 (.inr h)⟩
     ·simp only [List.mem_singleton] at hi
      subst hi
      exact ⟨hkl.1,.inr ((jM hkS).2 (.inl rfl))⟩
    ·by_cases e:i=k
     ·exact .inl (by simp [e])
     ·have hf':fi l i∨on S i:=hf.imp id λ h=>((jM hkS).1 h).resolve_left e
      rcases hm.done i hi hf' with h | h | h
      ·exact .inl (List.mem_append_left _ h)
      ·exact .inr (.inl h)
      ·exact .inr (.inr λ j hj=>(jM hkS).2 (.inr (h j hj)))
   ·rw [Int.toNat_natCast]; exact (jM hkS).2 (.inr hj)
   ·rw [Int.toNat_natCast]; exact (jM hkS).2 (.inl rfl)
  ·obtain ⟨q1,S'⟩:=q
   obtain ⟨T',rfl,hm',hup,hon⟩:=hq
   refine ag (aF (by omega) (by omega)) ?_
   have:=ih (t+1) T' S' (by omega) hm' (hcf.imp id (hup c))
   rw [Int.natCast_add,Int.natCast_one] at this
   refine dZ this λ z hz=>?_
   obtain ⟨T'',h1,h2,h3,h4⟩:=hz
   refine ⟨T'',h1,h2,λ j hj=>h3 j (hup j hj),λ j hj=>?_⟩
   rw [List.drop_eq_getElem_cons htl] at hj
   rcases List.mem_cons.1 hj with rfl | hj
   ·rw [← hk]; exact h3 k hon
   ·exact h4 j hj
theorem Cz (hl:l.length≤30){c:Nat}(hc:c < l.length){A:List (Bytes×List Int)}(hA:sA l A l.length){D:List Bytes}(hD:∀ r∈D,r∈(cat l c).fDeps∨r∈(cat l c).fOldDeps)(hDl:D.length≤2*da){K:Nat}(hK:K≤1000) :
  ∀ (j p:Nat) (T:List Nat) (S:List Bool),p+j=D.length→Mid l c K T S→(fi l c∨on S c) →
   Ev2 (λ n m=>bN n A D m (ints T) (p:Int) S) (λ q=>∃ T',q.1=ints T'∧Mid l c K T' q.2∧(∀ k,on S k→on q.2 k)∧∀ r∈D.drop p,∀ k∈ixs l r l.length,on q.2 k):=by
 have hW:=fF
 intro j
 induction j with
 | zero =>
  intro p T S hp hm _
  refine ap ?_
  simp only [bN]
  exact am (by omega) (ab ⟨T,rfl,hm,λ _ h=>h,λ r hr=>by rw [List.drop_of_length_le (by omega)] at hr; cases hr⟩)
 | succ j ih =>
  intro p T S hp hm hcf
  have hpl:p < D.length:=by omega
  refine ap ?_
  simp only [bN]
  have hr:=hD _ (List.getElem_mem hpl)
  have l6:=CY hl hc hr hA (d7 D p hpl) hK _ 0 T S (Nat.zero_add _) hm hcf
  refine al (by omega) (ag (by omega) (dw _ (aH (f:=λ _ m=>bM A D (p:Int) m (ints T) 0 S) l6) (λ q hq=>?_)))
  obtain ⟨q1,S'⟩:=q
  obtain ⟨T',rfl,hm',hup,hon⟩:=hq
  refine ag (aF (by omega) (by omega)) ?_
  have:=ih (p+1) T' S' (by omega) hm' (hcf.imp id (hup c))
  rw [Int.natCast_add,Int.natCast_one] at this
  refine dZ this λ z hz=>?_
  obtain ⟨T'',h1,h2,h3,h4⟩:=hz
  refine ⟨T'',h1,h2,λ j hj=>h3 j (hup j hj),λ r hr k hk=>?_⟩
  rw [List.drop_eq_getElem_cons hpl] at hr
  rcases List.mem_cons.1 hr with rfl | hr
  ·exact h3 k (hon k (by rw [List.drop_zero]; exact hk))
  ·exact h4 r hr k hk
structure Top (l:List aa)(K:Nat)(T:List Nat)(S:List Bool):Prop where
 len:S.length=l.length
 sound:∀ k,on S k→Rc l k
 work:∀ i∈T,i < l.length∧(fi l i∨on S i)
 done:∀ i,i < l.length→(fi l i∨on S i)→i∈T∨∀ k,ne l i k→on S k
 meas:T.length+S.count false=K
theorem CV (hb:∀ c∈l,aa.Bd c)(hl:l.length≤30){A:List (Bytes×List Int)}(hA:sA l A l.length):∀ (K:Nat) (T:List Nat) (S:List Bool),K≤1000→Top l K T S→Ev2 (λ n m=>bP n l A m (ints T) S) (·=rcB l):=by
 have hW:=fF
 have fin:∀ {K:Nat} {S:List Bool},Top l K [] S→S=rcB l:=λ h=>sw h.len λ k=>lI Ay h.sound (λ i k hi _ hf hn=>(h.done i hi hf).resolve_left (by simp) k hn) k
 intro K
 induction K with
 | zero =>
  intro T S _ hm
  have h1:=hm.meas
  obtain rfl:T=[]:=List.eq_nil_of_length_eq_zero (by omega)
  refine ap ?_
  simp only [bP,ints,List.map_nil]
  exact am (by simp) (ab (fin hm))
 | succ K ih =>
  intro T S hK hm
  rcases List.eq_nil_or_concat T with rfl | ⟨T0,c,rfl⟩
  ·refine ap ?_
   simp only [bP,ints,List.map_nil]
   exact am (by simp) (ab (fin hm))
  ·have h1:=hm.meas
   simp only [List.concat_eq_append,List.length_append,List.length_cons,List.length_nil] at h1
   have hw:=hm.work c (by simp)
   have hlen:((ints (T0++[c])).length:Int) - 1=(T0.length:Int):=by simp [ints]
   have hlat:lat (ints (T0++[c])) (T0.length:Int)=(c:Int):=by
    have:=yq (ints T0) (c:Int) []
    simpa [ints] using this
   have htake:(ints (T0++[c])).take T0.length=ints T0:=by simp [ints,List.take_append]
   have hcl:((ints (T0++[c])).length:Int)=(T0.length:Int)+1:=by simp [ints]
   have hbd:=hb _ (ly hw.1)
   have hd1:=hbd.bDeps
   have hd2:=hbd.bOldDeps
   refine ap ?_
   simp only [bP,List.concat_eq_append,hlen,hlat,Int.toNat_natCast,htake]
   rw [hcl]
   refine al (by omega) (ag (aF (by omega) (by omega)) (ag (by omega) (ag (by omega) (ag (aF (by omega) (by omega)) (ag (by omega) ?_)))))
   rw [fo l c]
   refine ai _ (zc _ _ hd1 hd2) ?_
   have hmid:Mid l c K T0 S:=by
    refine ⟨hm.len,hm.sound,λ i hi=>hm.work i (by simp [hi]),λ i hi hf=>?_,by omega⟩
    rcases hm.done i hi hf with h | h
    ·rcases List.mem_append.1 (by simpa using h:i∈T0++[c]) with h | h
     ·exact .inl h
     ·exact .inr (.inl (by simpa using h))
    ·exact .inr (.inr h)
   have l7:=Cz hl hw.1 hA (D:=(cat l c).fDeps++(cat l c).fOldDeps) (λ r hr=>List.mem_append.1 hr) (by rw [List.length_append]; omega) (K:=K) (by omega) _ 0 T0 S (Nat.zero_add _) hmid hw.2
   refine dw _ (aH (f:=λ n m=>bN n A ((cat l c).fDeps++(cat l c).fOldDeps) m (ints T0) 0 S) l7) (λ q hq=>?_)
   obtain ⟨q1,S'⟩:=q
   obtain ⟨T',rfl,hm',hup,hon⟩:=hq
   refine ih T' S' (by omega) ⟨hm'.len,hm'.sound,hm'.work,λ i hi hf=>?_,hm'.meas⟩
   rcases hm'.done i hi hf with h | h | h
   ·exact .inl h
   ·subst h
    refine .inr λ k hn=>?_
    have hn3:=hn.2.2
    unfold nd at hn3
    rw [Bool.or_eq_true,decide_eq_true_iff,decide_eq_true_iff] at hn3
    exact hon (ln (cat l k)) (by rw [List.drop_zero]; exact List.mem_append.2 hn3) k (by unfold ixs; exact List.mem_filter.2 ⟨List.mem_range.2 hn.2.1,by simp⟩)
   ·exact .inr h
theorem CF (hb:∀ c∈l,aa.Bd c)(hl:l.length≤30):∀ (j t:Nat) (A:List (Bytes×List Int)),t+j=l.length→sA l A t→Ev2 (λ n m=>bK n l m A (ints (fis l t)) (t:Int)) (λ q=>sA l q.1 l.length∧q.2=ints (fis l l.length)):=by
 intro j
 induction j with
 | zero =>
  intro t A ht hA
  obtain rfl:t=l.length:=by omega
  refine ap ?_
  simp only [bK]
  exact am (by omega) (ab ⟨hA,rfl⟩)
 | succ j ih =>
  intro t A ht hA
  have htl:t < l.length:=by omega
  refine ap ?_
  simp only [bK]
  have hbd:=hb _ (ly htl)
  have hi1:=yc l (ln (cat l t)) t
  have hi2:=yp l t
  have hA':sA l (mH A (ln (cat l t)) (((dC A (ln (cat l t))).getD [])++[(t:Int)])) (t+1):=by
   intro r
   rw [uI,Bb]
   by_cases e:ln (cat l t)=r
   ·subst e
    rw [if_pos rfl,if_pos rfl,Option.getD_some,hA]
    simp [ints]
   ·rw [if_neg e,if_neg e]; exact hA r
  refine al (by omega) (dw (λ q=>sA l q.1 (t+1)∧q.2=ints (fis l (t+1))) ?_ (λ q hq=>?_))
  ·refine ag (by omega) ?_
   rw [fo l t]
   refine ai _ (nU _ hbd.lens.1) (ag (by rw [hA]; simp only [ints,List.length_map,List.length_cons,List.length_nil]; omega) ?_)
   refine ai (nW (cat l t)) ?_ ?_
   ·unfold nW
    exact ar (λ h=>ab (by simp [h])) (λ h=>ab (by simp [h]))
   ·rw [AQ]
    refine ar (λ h=>ag (by simp only [ints,List.length_map,List.length_cons,List.length_nil]; omega) (ab ⟨hA',?_⟩)) (λ h=>ab ⟨hA',by rw [if_neg h]⟩)
    rw [if_pos h]; simp [ints]
  ·obtain ⟨A',q2⟩:=q
   obtain ⟨h1,rfl⟩:=hq
   refine ag (aF (by omega) (by omega)) ?_
   have:=ih (t+1) A' (by omega) h1
   rw [Int.natCast_add,Int.natCast_one] at this
   exact this
theorem zP (hb:∀ c∈l,aa.Bd c)(hl:l.length≤30):Ev2 (λ n _=>dV n l) (·=rcB l):=by
 simp only [dV]
 have l1:=CF hb hl l.length 0 [] (by omega) (λ r=>rfl)
 refine dw _ (aH (f:=λ n m=>bK n l m [] [] 0) l1) (λ q hq=>ag (by omega) ?_)
 obtain ⟨A,q2⟩:=q
 obtain ⟨h1,rfl⟩:=hq
 rw [Int.toNat_natCast]
 have hf:=yp l l.length
 have l8:=CV hb hl h1 ((fis l l.length).length+l.length) (fis l l.length) (List.replicate l.length false) (by omega) ⟨by simp,λ k h=>absurd h (vB _ _),λ i hi=>?_,λ i hi hfi=>.inl ?_,by simp⟩
 ·exact ai _ (aH l8) (ab rfl)
 ·unfold fis at hi
  have:=List.mem_filter.1 hi
  exact ⟨List.mem_range.1 this.1,.inl ⟨List.mem_range.1 this.1,this.2⟩⟩
 ·rcases hfi with h | h
  ·unfold fis; exact List.mem_filter.2 ⟨List.mem_range.2 hi,h.2⟩
  ·exact absurd h (vB _ _)
end
end Go.Ab.R06
end
section
set_option linter.unusedVariables false
set_option linter.unusedSimpArgs false
set_option linter.unnecessarySimpa false
namespace Go.Ab.R06
open Go.Ab Go.Ab.RB Go.Lib
def upF (c:aa)(b:Bool):Bool:=if (b&&decide (c.fAction=3))=true then true else c.fCreateFirst
def upd (c:aa)(b:Bool):aa:=aa.mk c.fAddr c.fDeposed c.fType c.fAction c.fReason c.fBefore c.fAfter c.fID c.fReplace (upF c b) c.fProtect c.fImport c.fDeps c.fOldDeps
theorem DX {c:aa}(h:aa.Bd c)(b:Bool):aa.Bd (upd c b):=by
 cases h with
 | mk h1 h2 h3 h4 h5 h6 h7 h8 h9 h10 h11 h12 h13 h14=>exact .mk h1 h2 h3 h4 h5 h6 h7 h8 h9 h10 h11 h12 h13 h14
noncomputable def cY (l:List aa):List aa:=(List.range l.length).map λ i=>upd (cat l i) ((rcB l).getD i false)
theorem dm (l:List aa):(cY l).length=l.length:=by simp [cY]
theorem ou (l:List aa)(i:Nat)(h:i < l.length):(cY l)[i]'(by rw [dm]; exact h)=upd (cat l i) ((rcB l).getD i false):=by simp [cY]
theorem fy (l:List aa)(i:Nat)(h:i < l.length):cat (cY l) i=upd (cat l i) ((rcB l).getD i false):=by
 rw [← ou l i h]
 unfold cat
 rw [List.getD_eq_getElem?_getD,List.getElem?_eq_getElem (by rw [dm]; exact h)]; rfl
theorem sV (l:List aa)(i:Nat)(h:i < l.length):(cY l).take (i+1)=(cY l).take i++[upd (cat l i) ((rcB l).getD i false)]:=by
 rw [List.take_add_one,List.getElem?_eq_getElem (by rw [dm]; exact h),ou l i h]; rfl
theorem pT {l:List aa}(hb:∀ c∈l,aa.Bd c):∀ c∈cY l,aa.Bd c:=by
 intro c hc
 unfold cY at hc
 obtain ⟨i,hi,rfl⟩:=List.mem_map.1 hc
 exact DX (hb _ (ly (List.mem_range.1 hi))) _
section
variable {l:List aa} (hb:∀ c∈l,aa.Bd c) (hl:l.length≤30)
theorem Co (hb:∀ c∈l,aa.Bd c)(hl:l.length≤30):∀ (j t:Nat),t+j=l.length→Ev2 (λ n m=>bm n l (rcB l) m ((cY l).take t) (t:Int)) (·=cY l):=by
 have hpl:=dm l
 intro j
 induction j with
 | zero =>
  intro t ht
  refine ap ?_
  simp only [bm]
  exact am (by omega) (ab (List.take_of_length_le (by omega)))
 | succ j ih =>
  intro t ht
  have htl:t < l.length:=by omega
  have hrl:=oL l
  refine ap ?_
  simp only [bm]
  rw [fo l t]
  refine al (by omega) (ag (by omega) (ai _ (z1 _ (hb _ (ly htl))) (ai (upF (cat l t) ((rcB l).getD t false)) ?_ ?_)))
  ·refine ai ((rcB l).getD t false&&decide ((cat l t).fAction=3)) (ag (by omega) ?_) ?_
   ·rw [sc (rcB l) t]
    refine ar (λ h=>ab ?_) (λ h=>ab ?_)
    ·have h':(rcB l).getD t false=true:=h
     rw [h']; rfl
    ·have h':(rcB l).getD t false=false:=by
      have:(rcB l).getD t false≠true:=h
      simpa using this
     rw [h']; rfl
   ·unfold upF
    exact ar (λ h=>ab (by rw [if_pos h])) (λ h=>ab (by rw [if_neg h]))
  ·refine ag (by simp only [List.length_take,List.length_cons,List.length_nil]; omega) (ag (aF (by omega) (by omega)) ?_)
   have:=ih (t+1) (by omega)
   rw [Int.natCast_add,Int.natCast_one,sV l t htl] at this
   exact this
theorem hQ (hb:∀ c∈l,aa.Bd c)(hl:l.length≤30):Ev2 (λ n _=>bo n l) (·=cY l):=by
 simp only [bo]
 have l1:=Co hb hl l.length 0 (by omega)
 rw [List.take_zero] at l1
 exact ai _ (zP hb hl) (ai _ (aH (f:=λ n m=>bm n l (rcB l) m [] 0) l1) (ab rfl))
theorem AU (hl:l.length≤30):∀ (j t:Nat),t+j=l.length→Ev2 (λ _ m=>cG l (rcB l) m ((cY l).take t) (t:Int)) (·=cY l):=by
 have hpl:=dm l
 intro j
 induction j with
 | zero =>
  intro t ht
  refine ap ?_
  simp only [cG]
  exact am (by omega) (ab (List.take_of_length_le (by omega)))
 | succ j ih =>
  intro t ht
  have htl:t < l.length:=by omega
  have hrl:=oL l
  refine ap ?_
  simp only [cG]
  rw [fo l t]
  refine al (by omega) (ag (by omega) (ai (upF (cat l t) ((rcB l).getD t false)) ?_ ?_))
  ·refine ai ((rcB l).getD t false&&decide ((cat l t).fAction=3)) (ag (by omega) ?_) ?_
   ·rw [sc (rcB l) t]
    refine ar (λ h=>ab ?_) (λ h=>ab ?_)
    ·have h':(rcB l).getD t false=true:=h
     rw [h']; rfl
    ·have h':(rcB l).getD t false=false:=by
      have:(rcB l).getD t false≠true:=h
      simpa using this
     rw [h']; rfl
   ·unfold upF
    exact ar (λ h=>ab (by rw [if_pos h])) (λ h=>ab (by rw [if_neg h]))
  ·refine ag (by simp only [List.length_take,List.length_cons,List.length_nil]; omega) (ag (aF (by omega) (by omega)) ?_)
   have:=ih (t+1) (by omega)
   rw [Int.natCast_add,Int.natCast_one,sV l t htl] at this
   exact this
theorem ug (hb:∀ c∈l,aa.Bd c)(hl:l.length≤30):Ev2 (λ n _=>gu n l) (·=cY l):=by
 simp only [gu]
 have l1:=AU hl l.length 0 (by omega)
 rw [List.take_zero] at l1
 exact ai _ (xS hb hl) (ai _ (aH (f:=λ _ m=>cG l (rcB l) m [] 0) l1) (ab rfl))
end
theorem pA {l:List aa}(hb:∀ c∈l,aa.Bd c){i:Nat}(h:i < l.length):aa.Bd (cat l i):=hb _ (ly h)
theorem C5 (p:List aa)(hb:∀ c∈p,aa.Bd c)(hl:p.length≤30):∀ (j i:Nat),i+j=p.length→Ev2 (λ n m=>bj n p p m (i:Int)) (·=.inl ()):=by
 intro j
 induction j with
 | zero =>
  intro i hi
  refine ap ?_
  simp only [bj]
  exact am (by omega) (ab rfl)
 | succ j ih =>
  intro i hi
  refine ap ?_
  simp only [bj]
  refine al (by omega) (ag (by omega) (ag (by omega) ?_))
  rw [fo]
  refine ai true (oM _ (pA hb (by omega))) (am (by simp) (ag (aF (by omega) (by omega)) ?_))
  have:=ih (i+1) (by omega)
  rw [Int.natCast_add,Int.natCast_one] at this
  exact this
theorem tT {l:List aa}(hb:∀ c∈l,aa.Bd c)(hw:l.length≤da):Ev2 (λ n _=>ei n l) (·=true):=by
 simp only [ei]
 refine dw _ (sZ l hw) (λ t ht=>ar (λ h=>ai true iu (ab rfl)) (λ h=>?_))
 have hl:=ht (by simpa using h)
 refine ai _ (hQ hb hl) (ai _ (ug hb hl) (al (by trivial) ?_))
 exact dF () (aH (f:=λ n m=>bj n (cY l) (cY l) m 0) (C5 _ (pT hb) (by rw [dm]; exact hl) _ 0 (Nat.zero_add _))) (ai true iu (ab rfl))
end Go.Ab.R06
end
section
set_option linter.unusedVariables false
set_option linter.unusedSimpArgs false
set_option linter.unnecessarySimpa false
namespace Go.Ab.R06
open Go.Proofs Go.Ab Go.Ab.RB
theorem jW {n:Nat}{a:PV}(h1:WTf tt n 22 a.cells)(h2:a=mkE (((look tt 22).map (·.k.isAgg)).getD false) a.cells):∃ l:List aa,a=eL ac l∧l.length≤da∧∀ c∈l,aa.Bd c:=by
 obtain ⟨l,e1,b1,b2⟩:=iP ac (λ y=>aa.Bd y) rfl h1 (λ m x hm k1 k2=>by
  obtain ⟨y,e,b⟩:=aa.dec m _ k1
  exact ⟨y,xz e k2,b⟩)
 have b1:l.length*320≤da:=b1
 exact ⟨l,mx e1 h2,by omega,b2⟩
theorem sP (qs:List PV)(h:WTa tt [22] qs):aB Tryz.prog 3 qs (·=.p (.val (.bool true))):=by
 match qs,h with
 | [a],⟨⟨n,h1,h2⟩,_⟩ =>
  obtain ⟨l,rfl,b1,b2⟩:=jW h1 h2
  obtain ⟨n,r,hr,rfl⟩:=tc (tT b2 b1)
  exact kj n l true hr
end Go.Ab.R06
end
