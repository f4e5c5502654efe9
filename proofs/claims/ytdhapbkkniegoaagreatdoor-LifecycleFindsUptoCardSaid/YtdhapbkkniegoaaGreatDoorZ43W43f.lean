/- The statement LifecycleFinds is proved, and its tied card: for all inputs that are Go values of the law's parameters' types, the law returns true and never panics, where what it reads is of bulk at most 1048576 (the second form). No further condition. -/
import Derived.Test.YtdhapbkkniegoaaGreatDoorCards
import Derived.Test.YtdhapbkkniegoaaGreatDoorTie
import Derived.WalkKit
import Derived.SizedLaws
import Derived.ProofKit
import Derived.OpenShut
import Derived.ShutString
import Derived.LaidMore
import Derived.Stop.Joined
import Derived.Deep.DeepHandedRow
import Derived.Deep.DeepWitnessRowRef
import Derived.Test.YtdhapbkkniegoaaGreatDoorZ43a
import Derived.Test.YtdhapbkkniegoaaGreatDoorZ43b
import Derived.Test.YtdhapbkkniegoaaGreatDoorZ43c
import Derived.Test.YtdhapbkkniegoaaGreatDoorZ43d
import Derived.Test.YtdhapbkkniegoaaGreatDoorZ43e
import Derived.Test.YtdhapbkkniegoaaGreatDoorZ43f
section
set_option linter.unusedVariables false
set_option linter.unusedSimpArgs false
set_option linter.unnecessarySimpa false
namespace Go.Ab.R06
open Go.Proofs Go.Ab Go.Ab.RB
attribute [local irreducible] awp gO aY aB cD AV.sub M dh
def dd (l_0:List aa):Nat→Int→Option (Unit⊕(Bytes×Bool))
 | 0,_=>none
 | m+1,i12 =>
 if i12 < (l_0.length:Int) then
  (
    ck ((0:Int)≤i12∧i12 < (l_0.length:Int)) <|
    if ((lat l_0 i12).fProtect)=true then
     ck ((0:Int)≤i12∧i12 < (l_0.length:Int)) <|
     if (lat l_0 i12).fAction=3 then
      some true
     else
      ck ((0:Int)≤i12∧i12 < (l_0.length:Int)) <|
      some (decide ((lat l_0 i12).fAction=4))
    else
     some false
   : Option Bool).bind λ t19 =>
  if t19=true then
   ck ((0:Int)≤i12∧i12 < (l_0.length:Int)) <|
   some (.inr ((lat l_0 i12).fAddr,true))
  else
   ck (inR (i12+1)) <|
   dd l_0 m (i12+1)
 else
  some (.inl ())
def gB (n:Nat)(l_0:List aa):Option (Bytes×Bool) :=
 jn (dd l_0 n 0) λ q24 =>
 some (([]:Bytes),false)
set_option maxHeartbeats 4000000 in
theorem pt (n:Nat)(l_0:List aa)(r:Bytes×Bool)(h0:gB n l_0=some r):aB Tryz.prog 14 [eL ac l_0] (·=.tuple [.p (eS r.1),.p (eB r.2)]):=by
 unfold gB at h0
 refine aU good Tryz.func14 rfl rfl rfl λ w0=>mP (λ v:Bytes×Bool=>.tuple [.p (eS v.1),.p (eB v.2)]) ?_
 refine nx 11 rfl ?_
 obtain ⟨o26,h1,hL0,hR0⟩:=cU h0
 refine kEx 0 (λ v27:Unit=>o26=.inl v27) (λ v27=>⟨[],[]⟩) (λ v27 hv=>?_) ?_
 ·have h0:=hL0 _ hv
  exact nx 7 rfl (mQ (oi h0) rfl (az ⟨sr,sr,trivial⟩))
 refine lG (λ (q28:Int)=>⟨[(0,.p (eL ac l_0)),(4,.p (eI q28))],[]⟩) (λ m (q28:Int)=>dd l_0 m q28) (λ _=>rfl) 0 h1 (gE rfl rfl) ?_
 rintro m i12 h1
 replace h1:dd l_0 (m+1) i12=some o26:=h1
 rw [dd] at h1
 refine nx 5 rfl (oLl (f:=ac) rfl rfl ?_)
 refine nx 2 rfl (fD [8] h1 rfl (λ c13 h1=>?_) λ c13 h1=>?_)
 ·refine nx 5 rfl (bd h1 λ o29 h2 h1=>?_)
  refine kN o29 (λ v30=>⟨[(0,.p (eL ac l_0)),(4,.p (eI i12)),(31,.p (eB v30))],[]⟩) ?_ ?_
  ·refine nx 1 rfl (fB [31] h1 rfl (λ c20 h1=>?_) λ c20 h1=>?_)
   ·refine nx 5 rfl (oE h1 aa.cells_eq rfl rfl (λ _=>rfl) λ hk21 h1=>?_)
    exact nx 6 rfl (mQ (hR0 _ (oi h1).symm) rfl (az ⟨sr,sr,trivial⟩))
   refine nx 4 rfl (oA h1 rfl rfl λ hk22 h1=>?_)
   exact nx 2 rfl (eX (i12+1) h1 (gE rfl rfl))
  refine nx 3 rfl (oE h2 aa.cells_eq rfl rfl (λ _=>rfl) λ hk14 h2=>?_)
  refine nx 3 rfl (fB [15,16] h2 rfl (λ c15 h2=>?_) λ c15 h2=>?_)
  ·refine nx 2 rfl (oE h2 aa.cells_eq rfl rfl (λ _=>rfl) λ hk16 h2=>?_)
   refine nx 4 rfl (fD [22,23] h2 rfl (λ c17 h2=>?_) λ c17 h2=>?_)
   ·exact nx 9 rfl (eX _ (oi h2).symm (gE rfl rfl))
   refine nx 2 rfl (oE h2 aa.cells_eq rfl rfl (λ _=>rfl) λ hk18 h2=>?_)
   exact nx 6 rfl (eX _ (oi h2).symm (gE rfl rfl))
  exact nx 16 rfl (eX _ (oi h2).symm (gE rfl rfl))
 exact nx 2 rfl (eXi _ (oi h1).symm (gE rfl rfl))
def ct (n:Nat)(triggers_0:List fH)(statics_1:List Bytes)(l_2:List aa)(i41:Int):Nat→Int→Option (Unit⊕(Unit⊕Bool))
 | 0,_=>none
 | m+1,k62 =>
 (
   if k62 < (l_2.length:Int) then
    ck ((0:Int)≤i41∧i41 < (triggers_0.length:Int)) <|
    some (decide ((lat triggers_0 i41).fKind=3))
   else
    some false
  : Option Bool).bind λ t65 =>
 if t65=true then
  (
    ck ((0:Int)≤k62∧k62 < (l_2.length:Int)) <|
    if (lat l_2 k62).fAction=2 then
     some true
    else
     ck ((0:Int)≤k62∧k62 < (l_2.length:Int)) <|
     some (decide ((lat l_2 k62).fAction=3))
   : Option Bool).bind λ changes70 =>
  (
    if changes70=true then
     ck ((0:Int)≤k62∧k62 < (l_2.length:Int)) <|
     (fe n (lat l_2 k62)).bind λ r73 =>
     ck ((0:Int)≤i41∧i41 < (statics_1.length:Int)) <|
     some (decide (r73=lat statics_1 i41))
    else
     some false
   : Option Bool).bind λ t76 =>
  if t76=true then
   some (.inr (.inr true))
  else
   ck (inR (k62+1)) <|
   ct n triggers_0 statics_1 l_2 i41 m (k62+1)
 else
  some (.inl ())
def cu (n:Nat)(triggers_0:List fH)(statics_1:List Bytes)(l_2:List aa):Nat→Int→Option (Unit⊕Bool)
 | 0,_=>none
 | m+1,i41 =>
 (
   if i41 < (triggers_0.length:Int) then
    some (decide (i41 < (statics_1.length:Int)))
   else
    some false
  : Option Bool).bind λ t43 =>
 if t43=true then
  jn (ct n triggers_0 statics_1 l_2 i41 n 0) λ q84 =>
  ck (inR (i41+1)) <|
  cu n triggers_0 statics_1 l_2 m (i41+1)
 else
  some (.inl ())
def gw (n:Nat)(triggers_0:List fH)(statics_1:List Bytes)(l_2:List aa):Option Bool :=
 jn (cu n triggers_0 statics_1 l_2 n 0) λ q82 =>
 some false
set_option maxHeartbeats 4000000 in
theorem pu (n:Nat)(triggers_0:List fH)(statics_1:List Bytes)(l_2:List aa)(r:Bool)(h0:gw n triggers_0 statics_1 l_2=some r):aB Tryz.prog 16 [eL ic triggers_0,eL eS statics_1,eL ac l_2] (·=.p (eB r)):=by
 unfold gw at h0
 refine aU good Tryz.func16 rfl rfl rfl λ w0=>mP (λ v:Bool=>.p (eB v)) ?_
 refine nx 10 rfl ?_
 obtain ⟨o88,h1,hL0,hR0⟩:=cU h0
 refine kEx 0 (λ v89:Unit=>o88=.inl v89) (λ v89=>⟨[],[]⟩) (λ v89 hv=>?_) ?_
 ·have h0:=hL0 _ hv
  exact nx 6 rfl (mQ (oi h0) rfl (sr))
 refine lG (λ (q90:Int)=>⟨[(0,.p (eL ic triggers_0)),(1,.p (eL eS statics_1)),(2,.p (eL ac l_2)),(7,.p (eI q90))],[]⟩) (λ m (q90:Int)=>cu n triggers_0 statics_1 l_2 m q90) (λ _=>rfl) 0 h1 (gE rfl rfl) ?_
 rintro m i41 h1
 replace h1:cu n triggers_0 statics_1 l_2 (m+1) i41=some o88:=h1
 rw [cu] at h1
 refine nx 2 rfl (bd h1 λ o91 h2 h1=>?_)
 refine kN o91 (λ v92=>⟨[(0,.p (eL ic triggers_0)),(1,.p (eL eS statics_1)),(2,.p (eL ac l_2)),(7,.p (eI i41)),(19,.p (eB v92))],[]⟩) ?_ ?_
 ·refine nx 1 rfl (fB [19] h1 rfl (λ c44 h1=>?_) λ c44 h1=>?_)
  ·refine nx 9 rfl ?_
   obtain ⟨o93,h2,hL1,hR1⟩:=cU h1
   refine kEx 2 (λ v94:Unit=>o93=.inl v94) (λ v94=>⟨[(0,.p (eL ic triggers_0)),(1,.p (eL eS statics_1)),(2,.p (eL ac l_2)),(7,.p (eI i41))],[]⟩) (λ v94 hv=>?_) ?_
   ·have h1:=hL1 _ hv
    refine nx 3 rfl (oA h1 rfl rfl λ hk80 h1=>?_)
    exact nx 2 rfl (eX (i41+1) h1 (gE rfl rfl))
   refine lG (λ (q95:Int)=>⟨[(0,.p (eL ic triggers_0)),(1,.p (eL eS statics_1)),(2,.p (eL ac l_2)),(7,.p (eI i41)),(8,.p (eI q95))],[]⟩) (λ m (q95:Int)=>ct n triggers_0 statics_1 l_2 i41 m q95) (λ _=>rfl) 0 h2 (gE rfl rfl) ?_
   rintro m k62 h2
   replace h2:ct n triggers_0 statics_1 l_2 i41 (m+1) k62=some o93:=h2
   rw [ct] at h2
   refine nx 2 rfl (bd h2 λ o96 h3 h2=>?_)
   refine kN o96 (λ v97=>⟨[(0,.p (eL ic triggers_0)),(1,.p (eL eS statics_1)),(2,.p (eL ac l_2)),(7,.p (eI i41)),(8,.p (eI k62)),(33,.p (eB v97))],[]⟩) ?_ ?_
   ·refine nx 1 rfl (fB [33] h2 rfl (λ c66 h2=>?_) λ c66 h2=>?_)
    ·refine nx 5 rfl (bd h2 λ o98 h3 h2=>?_)
     refine kN o98 (λ v99=>⟨[(0,.p (eL ic triggers_0)),(1,.p (eL eS statics_1)),(2,.p (eL ac l_2)),(7,.p (eI i41)),(8,.p (eI k62)),(9,.p (eB v99))],[]⟩) ?_ ?_
     ·refine nx 2 rfl (bd h2 λ o100 h3 h2=>?_)
      refine kN o100 (λ v101=>⟨[(0,.p (eL ic triggers_0)),(1,.p (eL eS statics_1)),(2,.p (eL ac l_2)),(7,.p (eI i41)),(8,.p (eI k62)),(62,.p (eB v101))],[]⟩) ?_ ?_
      ·refine nx 1 rfl (fB [62] h2 rfl (λ c77 h2=>?_) λ c77 h2=>?_)
       ·exact nx 6 rfl (mQ (hR0 _ (hR1 _ (oi h2).symm).symm) rfl (sr))
       refine nx 4 rfl (oA h2 rfl rfl λ hk78 h2=>?_)
       exact nx 2 rfl (eX (k62+1) h2 (gE rfl rfl))
      refine fB [9] h3 rfl (λ c71 h3=>?_) λ c71 h3=>?_
      ·refine cc' h3 λ hk72 h3=>bd h3 λ r73 e74 h3=>cc' h3 λ hk75 h3=>mD [(0,.p (eL ic triggers_0)),(1,.p (eL eS statics_1)),(2,.p (eL ac l_2)),(7,.p (eI i41)),(8,.p (eI k62)),(9,.p (eB true))] rfl ⟨rfl,rfl,rfl,rfl,rfl,rfl,trivial⟩ rfl (dR 4 rfl ?_)
       refine dq (.rptr (aa.cs (lat l_2 k62))) [51,52,53] rfl (λ _ e _ q=>aA (bf (f:=ac) (l:=l_2) aa.cs rfl rfl rfl rfl rfl rfl (e _ _ rfl) rfl (e _ _ rfl) hk72 aa.cells_eq (λ _=>rfl) q) rfl rfl (e _ _ rfl) (rfl)) rfl (dR 1 rfl ?_)
       refine dq (.p (eS r73)) [51,55] rfl (λ _ e _ q=>aA (aJ (gK _ (lat l_2 k62) _ e74) rfl rfl rfl (au (e _ _ rfl) aK) ⟨sr,trivial⟩ Tryz.call28 rfl q) rfl rfl (e _ _ rfl) (rfl)) rfl (dR 2 rfl ?_)
       refine dq (.rptr [eS (lat statics_1 i41)]) [51,57,58] rfl (λ _ e _ q=>aA (bf (f:=eS) (l:=statics_1) (λ x=>[eS x]) rfl rfl rfl rfl rfl rfl (e _ _ rfl) rfl (e _ _ rfl) hk75 (λ _=>rfl) (λ _=>rfl) q) rfl rfl (e _ _ rfl) (rfl)) rfl (dR 1 rfl ?_)
       refine dq (.p (eB (decide (r73=lat statics_1 i41)))) [51,56,60] rfl (λ _ e _ q=>aA (ks rfl rfl rfl (e _ _ rfl) (e _ _ rfl) rfl q) rfl rfl (e _ _ rfl) (rfl)) rfl (dR 1 rfl ?_)
       refine dE rfl (nx 1 rfl ?_)
       exact eX _ (oi h3).symm (gE rfl rfl)
      refine mD [(0,.p (eL ic triggers_0)),(1,.p (eL eS statics_1)),(2,.p (eL ac l_2)),(7,.p (eI i41)),(8,.p (eI k62)),(9,.p (eB false))] rfl ⟨rfl,rfl,rfl,rfl,rfl,rfl,trivial⟩ rfl (dR 13 rfl ?_)
      refine dE rfl (nx 1 rfl ?_)
      exact eX _ (oi h3).symm (gE rfl rfl)
     refine nx 3 rfl (oE h3 aa.cells_eq rfl rfl (λ _=>rfl) λ hk67 h3=>?_)
     refine nx 4 rfl (fD [41,42] h3 rfl (λ c68 h3=>?_) λ c68 h3=>?_)
     ·exact nx 9 rfl (eX _ (oi h3).symm (gE rfl rfl))
     refine nx 2 rfl (oE h3 aa.cells_eq rfl rfl (λ _=>rfl) λ hk69 h3=>?_)
     exact nx 6 rfl (eX _ (oi h3).symm (gE rfl rfl))
    exact nx 2 rfl (eXi _ (oi h2).symm (gE rfl rfl))
   refine nx 3 rfl (oLl (f:=ac) rfl rfl ?_)
   refine nx 2 rfl (fD [25,26] h3 rfl (λ c63 h3=>?_) λ c63 h3=>?_)
   ·refine nx 2 rfl (oE h3 fH.cells_eq rfl rfl (λ _=>rfl) λ hk64 h3=>?_)
    exact nx 5 rfl (eX _ (oi h3).symm (gE rfl rfl))
   exact nx 8 rfl (eX _ (oi h3).symm (gE rfl rfl))
  exact nx 2 rfl (eXi _ (oi h1).symm (gE rfl rfl))
 refine nx 3 rfl (oLl (f:=ic) rfl rfl ?_)
 refine nx 2 rfl (fD [13,14] h2 rfl (λ c42 h2=>?_) λ c42 h2=>?_)
 ·refine nx 2 rfl (oLl (f:=eS) rfl rfl ?_)
  exact nx 3 rfl (eX _ (oi h2).symm (gE rfl rfl))
 exact nx 6 rfl (eX _ (oi h2).symm (gE rfl rfl))
def fK (n:Nat)(l_0:List aa)(triggers_1:List fH)(statics_2:List Bytes):Option Bool :=
 (
   (hH n l_0).bind λ r1 =>
   if (!r1)=true then
    some true
   else
    if 30 < (triggers_1.length:Int) then
     some true
    else
     some (decide (30 < (statics_2.length:Int)))
  : Option Bool).bind λ t5 =>
 if t5=true then
  (cF n).bind λ r7 =>
  some r7
 else
  (cj n l_0).bind λ r9 =>
  (gB n l_0).bind λ r11 =>
  (
    if r9.1=r11.1 then
     if (r9.2 == r11.2)=true then
      (cg n triggers_1 statics_2 l_0).bind λ r15 =>
      (gw n triggers_1 statics_2 l_0).bind λ r17 =>
      if (r15 == r17)=true then
       (cF n).bind λ r20 =>
       some r20
      else
       some false
     else
      some false
    else
     some false
   : Option Bool).bind λ t22 =>
  some t22
set_option maxHeartbeats 4000000 in
theorem lY (n:Nat)(l_0:List aa)(triggers_1:List fH)(statics_2:List Bytes)(r:Bool)(h0:fK n l_0 triggers_1 statics_2=some r):aB Tryz.prog 4 [eL ac l_0,eL ic triggers_1,eL eS statics_2] (·=.p (eB r)):=by
 unfold fK at h0
 refine aU good Tryz.func4 rfl rfl rfl λ w0=>mP (λ v:Bool=>.p (eB v)) ?_
 refine nx 6 rfl (bd h0 λ o25 h1 h0=>?_)
 refine kN o25 (λ v26=>⟨[(0,.p (eL ac l_0)),(1,.p (eL ic triggers_1)),(2,.p (eL eS statics_2)),(23,.p (eB v26))],[]⟩) ?_ ?_
 ·refine nx 1 rfl (fB [23] h0 rfl (λ c6 h0=>?_) λ c6 h0=>?_)
  ·refine nx 3 rfl (bd h0 λ r7 e8 h0=>?_)
   refine oK (dG _  _ e8) rfl trivial Tryz.call9 rfl (nx 3 rfl ?_)
   exact mQ (oi h0) rfl (sr)
  refine nx 5 rfl (bd h0 λ r9 e10 h0=>?_)
  refine oK (gt _ l_0 _ e10) rfl ⟨sr,trivial⟩ Tryz.call13 rfl (nx 9 rfl ?_)
  refine bd h0 λ r11 e12 h0=>oK (pt _ l_0 _ e12) rfl ⟨sr,trivial⟩ Tryz.call14 rfl (nx 7 rfl ?_)
  refine bd h0 λ o27 h1 h0=>kN o27 (λ v28=>⟨[(6,.p (eB v28))],[]⟩) ?_ ?_
  ·exact nx 2 rfl (mQ (oi h0) rfl (sr))
  refine nx 3 rfl (oS rfl rfl ?_)
  refine nx 1 rfl (fD [37,38] h1 rfl (λ c13 h1=>?_) λ c13 h1=>?_)
  ·refine nx 5 rfl (fB [41,42,43] h1 rfl (λ c14 h1=>?_) λ c14 h1=>?_)
   ·refine nx 3 rfl (bd h1 λ r15 e16 h1=>?_)
    refine oK (gn _ triggers_1 statics_2 l_0 _ e16) rfl ⟨sr,sr,sr,trivial⟩ Tryz.call15 rfl (nx 3 rfl ?_)
    refine bd h1 λ r17 e18 h1=>oK (pu _ triggers_1 statics_2 l_0 _ e18) rfl ⟨sr,sr,sr,trivial⟩ Tryz.call16 rfl (nx 3 rfl ?_)
    refine fB [52,53,54] h1 rfl (λ c19 h1=>?_) λ c19 h1=>?_
    ·refine bd h1 λ r20 e21 h1=>oK (dG _  _ e21) rfl trivial Tryz.call9 rfl (nx 3 rfl ?_)
     exact eX _ (oi h1).symm (gE rfl rfl)
    exact nx 4 rfl (eX _ (oi h1).symm (gE rfl rfl))
   exact nx 15 rfl (eX _ (oi h1).symm (gE rfl rfl))
  exact nx 20 rfl (eX _ (oi h1).symm (gE rfl rfl))
 refine nx 2 rfl (bd h1 λ r1 e2 h1=>?_)
 refine oK (ju _ l_0 _ e2) rfl ⟨sr,trivial⟩ Tryz.call8 rfl (nx 2 rfl ?_)
 refine fB [13,14] h1 rfl (λ c3 h1=>?_) λ c3 h1=>?_
 ·exact nx 10 rfl (eX _ (oi h1).symm (gE rfl rfl))
 refine nx 1 rfl (oLl (f:=ic) rfl rfl ?_)
 refine nx 3 rfl (fD [17,18,19] h1 rfl (λ c4 h1=>?_) λ c4 h1=>?_)
 ·exact nx 5 rfl (eX _ (oi h1).symm (gE rfl rfl))
 refine nx 1 rfl (oLl (f:=eS) rfl rfl ?_)
 exact nx 3 rfl (eX _ (oi h1).symm (gE rfl rfl))
end Go.Ab.R06
end
section
set_option linter.unusedVariables false
set_option linter.unusedSimpArgs false
set_option linter.unnecessarySimpa false
namespace Go.Ab.R06
open Go.Ab Go.Ab.RB Go.Lib
def vO (c:aa):Bool:=c.fProtect&&(decide (c.fAction=3)||decide (c.fAction=4))
def pP:List aa→Option Bytes
 | []=>none
 | c::r=>if vO c=true then some c.fAddr else pP r
def Dz (o:Option Bytes):Unit⊕(Bytes×Bool):=match o with | some a=>.inr (a,true) | none=>.inl ()
theorem CO (l:List aa)(hl:l.length≤da):∀ (j i:Nat),i+j=l.length→Ev2 (λ _ m=>bv l m (i:Int)) (·=Dz (pP (l.drop i))):=by
 have hW:=fF
 intro j
 induction j with
 | zero =>
  intro i hi
  refine ap ?_
  simp only [bv]
  exact am (by omega) (ab (by rw [List.drop_of_length_le (by omega)]; rfl))
 | succ j ih =>
  intro i hi
  have h1:i < l.length:=by omega
  refine ap ?_
  simp only [bv]
  rw [d7 _ _ h1,List.drop_eq_getElem_cons h1]
  refine al (by omega) (ag (by omega) (ai (vO l[i]) ?_ ?_))
  ·unfold vO
   exact ar (λ h=>ar (λ h2=>ab (by simp [h,h2])) (λ h2=>ab (by simp [h,h2]))) (λ h=>ab (by simp at h; simp [h]))
  ·unfold pP
   refine ar (λ h=>ab (by rw [if_pos h]; rfl)) (λ h=>ag (aF (by omega) (by omega)) ?_)
   rw [if_neg h]
   have:=ih (i+1) (by omega)
   rw [Int.natCast_add,Int.natCast_one] at this
   exact this
theorem AY (l:List aa)(hl:l.length≤da):∀ (j i:Nat),i+j=l.length→Ev2 (λ _ m=>dd l m (i:Int)) (·=Dz (pP (l.drop i))):=by
 have hW:=fF
 intro j
 induction j with
 | zero =>
  intro i hi
  refine ap ?_
  simp only [dd]
  exact am (by omega) (ab (by rw [List.drop_of_length_le (by omega)]; rfl))
 | succ j ih =>
  intro i hi
  have h1:i < l.length:=by omega
  refine ap ?_
  simp only [dd]
  rw [d7 _ _ h1,List.drop_eq_getElem_cons h1]
  refine al (by omega) (ai (vO l[i]) (ag (by omega) ?_) ?_)
  ·unfold vO
   exact ar (λ h=>ag (by omega) (ar (λ h2=>ab (by simp [h,h2])) (λ h2=>ag (by omega) (ab (by simp [h,h2]))))) (λ h=>ab (by simp at h; simp [h]))
  ·unfold pP
   refine ar (λ h=>ag (by omega) (ab (by rw [if_pos h]; rfl))) (λ h=>ag (aF (by omega) (by omega)) ?_)
   rw [if_neg h]
   have:=ih (i+1) (by omega)
   rw [Int.natCast_add,Int.natCast_one] at this
   exact this
def DG (o:Option Bytes):Bytes×Bool:=match o with | some a=>(a,true) | none=>([],false)
theorem CG (l:List aa)(hl:l.length≤da):Ev2 (λ n _=>cj n l) (·=DG (pP l)):=by
 simp only [cj]
 have l1:=CO l hl l.length 0 (by omega)
 rw [List.drop_zero] at l1
 cases h:pP l with
 | none=>rw [h] at l1; exact dF () (aH l1) (ab rfl)
 | some a=>rw [h] at l1; exact fW (a,true) (aH l1) rfl
theorem Aa (l:List aa)(hl:l.length≤da):Ev2 (λ n _=>gB n l) (·=DG (pP l)):=by
 simp only [gB]
 have l1:=AY l hl l.length 0 (by omega)
 rw [List.drop_zero] at l1
 cases h:pP l with
 | none=>rw [h] at l1; exact dF () (aH l1) (ab rfl)
 | some a=>rw [h] at l1; exact fW (a,true) (aH l1) rfl
def nq (s:Bytes)(c:aa):Bool:=(decide (c.fAction=2)||decide (c.fAction=3))&&decide (ln c=s)
def trR (b:Bool):Unit⊕Bool:=match b with | true=>.inr true | false=>.inl ()
def pN (l:List aa):List (fH×Bytes)→Bool
 | []=>false
 | (t,s)::r=>(decide (t.fKind=3)&&l.any (nq s))||pN l r
section
variable {l:List aa} (hb:∀ c∈l,aa.Bd c) (hl:l.length≤30) {st:List Bytes} {tr:List fH}
theorem AJ {c:aa}(hc:aa.Bd c){i:Nat}(hi:i < st.length):Ev2 (λ n _=>bq n c st (i:Int)) (·=nq st[i] c):=by
 simp only [bq]
 rw [d7 _ _ hi]
 unfold nq
 refine dw (·=_) ?_ (λ t ht=>ab ht)
 refine ar (λ h=>ai _ (nU c hc.lens.1) (ag (by omega) (ab (by simp [h])))) (λ h=>?_)
 exact ar (λ h2=>ai _ (nU c hc.lens.1) (ag (by omega) (ab (by simp [h2])))) (λ h2=>ab (by simp [h,h2]))
theorem Bp (hb:∀ c∈l,aa.Bd c)(hl:l.length≤30){i:Nat}(hi:i < st.length):∀ (j k:Nat),k+j=l.length→Ev2 (λ n m=>aD l (λ x0=>bq n x0 st (i:Int)) m (k:Int)) (λ r=>(r=.inl ()∧(l.drop k).any (nq st[i])=false)∨(∃ q:Nat,r=.inr (q:Int))∧(l.drop k).any (nq st[i])=true):=by
 intro j
 induction j with
 | zero =>
  intro k hk
  refine ap ?_
  simp only [aD]
  exact am (by omega) (ab (.inl ⟨rfl,by rw [List.drop_of_length_le (by omega)]; rfl⟩))
 | succ j ih =>
  intro k hk
  have h1:k < l.length:=by omega
  refine ap ?_
  simp only [aD]
  rw [d7 _ _ h1,List.drop_eq_getElem_cons h1,List.any_cons]
  refine al (by omega) (ag (by omega) (ai _ (AJ (hb _ (List.getElem_mem h1)) hi) ?_))
  refine ar (λ h=>ab (.inr ⟨⟨k,rfl⟩,by rw [h]; rfl⟩)) (λ h=>ag (aF (by omega) (by omega)) ?_)
  rw [Bool.not_eq_true] at h
  rw [h,Bool.false_or]
  have:=ih (k+1) (by omega)
  rw [Int.natCast_add,Int.natCast_one] at this
  exact this
theorem rA (hb:∀ c∈l,aa.Bd c)(hl:l.length≤30){i:Nat}(hi:i < st.length):Ev2 (λ n _=>aS n l (λ x0=>bq n x0 st (i:Int))) (·=l.any (nq st[i])):=by
 simp only [aS,ba]
 have l1:=Bp hb hl hi l.length 0 (by omega)
 rw [List.drop_zero] at l1
 refine dw (λ r:Int=>decide (0≤r)=l.any (nq st[i])) ?_ (λ t ht=>ab ht)
 refine ls (dZ (aH (f:=λ n m=>aD l (λ x0=>bq n x0 st (i:Int)) m 0) l1) λ r hr=>?_)
 rcases hr with ⟨rfl,h⟩ | ⟨⟨q,rfl⟩,h⟩
 ·exact ab (by rw [h]; rfl)
 ·show decide ((0:Int)≤(q:Int))=_
  rw [h,decide_eq_true_iff]; omega
theorem C3 (hb:∀ c∈l,aa.Bd c)(hl:l.length≤30)(ht:tr.length≤30)(hs:st.length≤30):∀ (j i:Nat),i+j=tr.length→Ev2 (λ n m=>bb n tr st l m (i:Int)) (·=trR (pN l ((tr.drop i).zip (st.drop i)))):=by
 intro j
 induction j with
 | zero =>
  intro i hi
  refine ap ?_
  simp only [bb]
  exact am (by omega) (ab (by rw [List.drop_of_length_le (by omega)]; rfl))
 | succ j ih =>
  intro i hi
  have h1:i < tr.length:=by omega
  have hn:=ih (i+1) (by omega)
  rw [Int.natCast_add,Int.natCast_one] at hn
  refine ap ?_
  simp only [bb]
  rw [d7 _ _ h1,List.drop_eq_getElem_cons h1]
  refine al (by omega) ?_
  by_cases h2:i < st.length
  ·rw [List.drop_eq_getElem_cons h2,List.zip_cons_cons]
   simp only [pN]
   by_cases h3:tr[i].fKind=3
   ·by_cases h4:l.any (nq st[i])=true
    ·refine fW (.inr true) (ag (by omega) (ai false (am (by omega) (ab (by simp [h3]))) (am (by simp) ?_))) (by simp [h3,h4,trR])
     exact ai true (by have:=rA hb hl h2; rw [h4] at this; exact this) (al rfl (ab rfl))
    ·rw [Bool.not_eq_true] at h4
     refine dF () (ag (by omega) (ai false (am (by omega) (ab (by simp [h3]))) (am (by simp) ?_))) (ag (aF (by omega) (by omega)) ?_)
     ·exact ai false (by have:=rA hb hl h2; rw [h4] at this; exact this) (am (by simp) (ab rfl))
     ·rw [h4,Bool.and_false,Bool.false_or]; exact hn
   ·refine dF () (ag (by omega) (ai true (am (by omega) (ab (by simp [h3]))) (al rfl (ab rfl)))) (ag (aF (by omega) (by omega)) ?_)
    rw [show decide (tr[i].fKind=3)=false by simp [h3],Bool.false_and,Bool.false_or]; exact hn
  ·rw [List.drop_of_length_le (show st.length≤i by omega),List.zip_nil_right]
   rw [List.drop_of_length_le (show st.length≤i+1 by omega),List.zip_nil_right] at hn
   exact dF () (ag (by omega) (ai true (al (by omega) (ab rfl)) (al rfl (ab rfl)))) (ag (aF (by omega) (by omega)) hn)
theorem CU (hb:∀ c∈l,aa.Bd c)(hl:l.length≤30)(ht:tr.length≤30)(hs:st.length≤30):Ev2 (λ n _=>cg n tr st l) (·=pN l (tr.zip st)):=by
 simp only [cg]
 have l1:=C3 hb hl ht hs tr.length 0 (by omega)
 rw [List.drop_zero,List.drop_zero] at l1
 cases h:pN l (tr.zip st) with
 | true=>rw [h] at l1; exact fW true (aH (f:=λ n m=>bb n tr st l m 0) l1) rfl
 | false=>rw [h] at l1; exact dF () (aH (f:=λ n m=>bb n tr st l m 0) l1) (ab rfl)
theorem AC (hb:∀ c∈l,aa.Bd c)(hl:l.length≤30){i:Nat}(h1:i < tr.length)(h2:i < st.length):∀ (j k:Nat),k+j=l.length→Ev2 (λ n m=>ct n tr st l (i:Int) m (k:Int)) (·=if (decide (tr[i].fKind=3)&&(l.drop k).any (nq st[i]))=true then .inr (.inr true) else .inl ()):=by
 intro j
 induction j with
 | zero =>
  intro k hk
  refine ap ?_
  simp only [ct]
  refine ai false (am (by omega) (ab rfl)) (am (by simp) (ab ?_))
  rw [List.drop_of_length_le (by omega)]; simp
 | succ j ih =>
  intro k hk
  have h3:k < l.length:=by omega
  have hn:=ih (k+1) (by omega)
  rw [Int.natCast_add,Int.natCast_one] at hn
  refine ap ?_
  simp only [ct]
  rw [d7 _ _ h1,d7 _ _ h2,d7 _ _ h3,List.drop_eq_getElem_cons h3,List.any_cons]
  refine ai (decide (tr[i].fKind=3)) (al (by omega) (ag (by omega) (ab rfl))) ?_
  refine ar (λ h=>?_) (λ h=>ab (by rw [Bool.not_eq_true] at h; rw [h]; rfl))
  rw [h,Bool.true_and]
  rw [h,Bool.true_and] at hn
  refine ai (decide (l[k].fAction=2)||decide (l[k].fAction=3)) (ag (by omega) (ar (λ h=>ab (by simp [h])) (λ h=>ag (by omega) (ab (by simp [h]))))) ?_
  refine ai (nq st[i] l[k]) ?_ ?_
  ·unfold nq
   refine ar (λ h=>ag (by omega) (ai _ (m6 _ (hb _ (List.getElem_mem h3)).lens.1) (ag (by omega) (ab (by rw [h,Bool.true_and]))))) (λ h=>ab (by rw [Bool.not_eq_true] at h; rw [h]; rfl))
  ·refine ar (λ h=>ab (by rw [h]; rfl)) (λ h=>ag (aF (by omega) (by omega)) ?_)
   rw [Bool.not_eq_true] at h
   rw [h,Bool.false_or]; exact hn
theorem BK (hb:∀ c∈l,aa.Bd c)(hl:l.length≤30)(ht:tr.length≤30)(hs:st.length≤30):∀ (j i:Nat),i+j=tr.length→Ev2 (λ n m=>cu n tr st l m (i:Int)) (·=trR (pN l ((tr.drop i).zip (st.drop i)))):=by
 intro j
 induction j with
 | zero =>
  intro i hi
  refine ap ?_
  simp only [cu]
  refine ai false (am (by omega) (ab rfl)) (am (by simp) (ab ?_))
  rw [List.drop_of_length_le (by omega)]; rfl
 | succ j ih =>
  intro i hi
  have h1:i < tr.length:=by omega
  have hn:=ih (i+1) (by omega)
  rw [Int.natCast_add,Int.natCast_one] at hn
  refine ap ?_
  simp only [cu]
  refine ai (decide (i < st.length)) (al (by omega) (ab (by congr 1; exact propext ⟨λ h=>by omega,λ h=>by omega⟩))) ?_
  by_cases h2:i < st.length
  ·refine al (by simp [h2]) ?_
   rw [List.drop_eq_getElem_cons h1,List.drop_eq_getElem_cons h2,List.zip_cons_cons]
   simp only [pN]
   have l2:=AC hb hl h1 h2 l.length 0 (by omega)
   rw [List.drop_zero] at l2
   cases h:(decide (tr[i].fKind=3)&&l.any (nq st[i])) with
   | true=>rw [h] at l2; exact fW (.inr true) (aH (f:=λ n m=>ct n tr st l (i:Int) m 0) l2) (by simp [trR])
   | false =>
    rw [h] at l2
    refine dF () (aH (f:=λ n m=>ct n tr st l (i:Int) m 0) l2) (ag (aF (by omega) (by omega)) ?_)
    rw [Bool.false_or]; exact hn
  ·refine am (by simp [h2]) (ab ?_)
   rw [List.drop_of_length_le (show st.length≤i by omega),List.zip_nil_right]; rfl
theorem Bi (hb:∀ c∈l,aa.Bd c)(hl:l.length≤30)(ht:tr.length≤30)(hs:st.length≤30):Ev2 (λ n _=>gw n tr st l) (·=pN l (tr.zip st)):=by
 simp only [gw]
 have l1:=BK hb hl ht hs tr.length 0 (by omega)
 rw [List.drop_zero,List.drop_zero] at l1
 cases h:pN l (tr.zip st) with
 | true=>rw [h] at l1; exact fW true (aH (f:=λ n m=>cu n tr st l m 0) l1) rfl
 | false=>rw [h] at l1; exact dF () (aH (f:=λ n m=>cu n tr st l m 0) l1) (ab rfl)
end
theorem yX {l:List aa}(hb:∀ c∈l,aa.Bd c)(hw:l.length≤da){tr:List fH}{st:List Bytes}:Ev2 (λ n _=>fK n l tr st) (·=true):=by
 simp only [fK]
 refine dw (λ t=>t=false→l.length≤30∧tr.length≤30∧st.length≤30) ?_ (λ t ht=>ar (λ h=>ai true iu (ab rfl)) (λ h=>?_))
 ·refine dw _ (sZ l hw) (λ t ht=>ar (λ h=>ab (by simp)) (λ h=>ar (λ h=>ab (by simp)) (λ h2=>ab λ h3=>?_)))
  have h3:=of_decide_eq_false h3
  exact ⟨ht (by simpa using h),by omega,by omega⟩
 ·obtain ⟨h1,h2,h3⟩:=ht (by simpa using h)
  refine ai _ (CG l hw) (ai _ (Aa l hw) (ai true (al (by trivial) (al (by simp) ?_)) (ab rfl)))
  exact ai _ (CU hb h1 h2 h3) (ai _ (Bi hb h1 h2 h3) (al (by simp) (ai true iu (ab rfl))))
end Go.Ab.R06
end
section
set_option linter.unusedVariables false
set_option linter.unusedSimpArgs false
set_option linter.unnecessarySimpa false
namespace Go.Ab.R06
open Go.Proofs Go.Ab Go.Ab.RB
theorem yP (qs:List PV)(h:WTa tt [22,36,31] qs):aB Tryz.prog 4 qs (·=.p (.val (.bool true))):=by
 match qs,h with
 | [a,b,c],⟨⟨n,h1,h2⟩,⟨m,k1,k2⟩,⟨j,l1,l2⟩,_⟩ =>
  obtain ⟨l,rfl,b1,b2⟩:=jW h1 h2
  obtain ⟨tr,e1,_,_⟩:=iP ic (λ y=>fH.Bd y) rfl k1 (λ m x hm k1 k2=>by
   obtain ⟨y,e,b⟩:=fH.dec m _ k1
   exact ⟨y,xz e k2,b⟩)
  obtain rfl:=mx e1 k2
  obtain ⟨st,e2,_,_⟩:=iP eS (λ y=>y.length≤da) rfl l1 (λ m x hm k1 k2=>by
   cases m with
   | zero=>exact k1.elim
   | succ m =>
    obtain ⟨y,e,b⟩:=Go.Ab.gL rfl k1
    exact ⟨y,mx e k2,b⟩)
  obtain rfl:=mx e2 l2
  obtain ⟨n,r,hr,rfl⟩:=tc (yX b2 b1 (tr:=tr) (st:=st))
  exact lY n l tr st true hr
end Go.Ab.R06
end
section
set_option linter.unusedSimpArgs false
set_option linter.unnecessarySimpa false
namespace Go.Proofs.YtdhapbkkniegoaaGreatDoor.lifecycleFinds
open Go.ChangeShapes Go.WideShapes Go.ChangeAt Go.RowKit
set_option linter.unusedVariables false
theorem own:ownKnob Tryz.prog.godebug=none:=by kernel_rfl
theorem laid:laidOutB Tryz.prog=true:=by kernel_rfl
theorem mapped:mapsRowed Tryz.prog=true:=by kernel_rfl
theorem full:((List.range Tryz.prog.types.size).all λ t=>match Tryz.prog.underlying t with | some (.slice e)=>decide (0 < Tryz.prog.cellsOf e) | _=>true)=true:=by kernel_rfl
theorem rowed:(([22,36,31]:List Nat).all λ t=>decide (t < Tryz.prog.types.size))=true:=by kernel_rfl
theorem plain:([22,35,9,27,28,33,29,3,30,31,4,36,46,44]:List Nat).all (Go.Ab.iG Go.Ab.tt [22,35,9,27,28,33,29,3,30,31,4,36,46,44])=true:=by kernel_rfl
theorem closed:([22,35,9,27,28,33,29,3,30,31,4,36,46,44]:List Nat).all (elB Tryz.prog 512 [22,35,9,27,28,33,29,3,30,31,4,36,46,44])=true:=by kernel_rfl
theorem globs:Go.Ab.oO Tryz.prog Rows.lifecycleFindsUptoRow.laid=true:=by kernel_rfl
noncomputable def laidW0 (os:Os):World :=
  { World.doorLaid Tryz.prog 72 os with heap:=(World.doorLaid Tryz.prog 72 os).heap.modify 1 fun
      | .cells _ t frozen=>.cells (Go.Ab.sM.map Go.Ab.GC.val).toArray t frozen
      | o=>o }
noncomputable def laidW (os:Os):World:=laidW0 os
theorem laid_met (os:Os):laidMetH Tryz.prog Rows.lifecycleFindsUptoRow.laid ((laidW os).forCall (λ _ _=>0) ⟨#[],#[.slice none 0 0,.slice none 0 0,.slice none 0 0],[]⟩).memory :=
  laidMetH_of_parts3 (fuel:=8) (laidMet_of_run' 8 (by kernel_rfl) (by kernel_rfl)) (by kernel_rfl) (by kernel_rfl)
theorem reads (os:Os){H:Type}(enc:TypeId×Value→H):(DataW.whole enc Tryz.prog ((laidW os).forCall (λ _ _=>0) ⟨#[],#[.slice none 0 0,.slice none 0 0,.slice none 0 0],[]⟩).memory Tryz.f4.params.toList Rows.lifecycleFindsSpec.vars false #[.slice none 0 0,.slice none 0 0,.slice none 0 0].toList 8).isSome=true:=by kernel_rfl
set_option maxRecDepth 100000 in
theorem small (os:Os){H:Type}(enc:TypeId×Value→H):(DataW.whole enc Tryz.prog ((laidW os).forCall (λ _ _=>0) ⟨#[],#[.slice none 0 0,.slice none 0 0,.slice none 0 0],[]⟩).memory Tryz.f4.params.toList Rows.lifecycleFindsSpec.vars false #[.slice none 0 0,.slice none 0 0,.slice none 0 0].toList 8).map (λ x=>Rows.uptoSmall H (x.1++x.2.1))=some true:=by kernel_rfl
set_option maxRecDepth 100000 in
theorem lifted (os:Os)(started:os.Started)(H:Type)(enc:TypeId×Value→H)(F:Stop.Interp) :
    ReturnsInHanded {} Tryz.checked os 4 .any ((Rows.OpenSpec.upto Rows.lifecycleFindsSpec).preRow enc Tryz.prog Tryz.f4 Rows.lifecycleFindsUptoRow.domain false Rows.lifecycleFindsUptoRow.laid) (((Rows.OpenSpec.upto Rows.lifecycleFindsSpec).at F).post enc Tryz.prog Tryz.f4 false true false false):=by
  obtain ⟨x,hx⟩:=Option.isSome_iff_exists.1 (reads os enc)
  refine returnsInHanded_of_row (C:=Tryz.checked) (s:=Rows.OpenSpec.upto Rows.lifecycleFindsSpec) own started (by kernel_rfl) Tryz.func4
    (witness_row_atRef (enc:=enc) (C:=Tryz.checked) false (laidW os) #[.slice none 0 0,.slice none 0 0,.slice none 0 0] rfl (by kernel_rfl) (by kernel_rfl) (by kernel_rfl)
      (OpenSpec.preRow_of_cond 8 hx rfl (λ k hk=>by cases hk; have q:=small os (H:=H) enc; rw [hx] at q; exact Option.some.inj q) (by kernel_rfl) (laid_met os))) ?_
  intro W base args ds gs before hval0 hW _ hcond hsz0 hL hsh _
  have hk:Rows.uptoSmall H (ds++gs)=true:=hcond _ rfl
  rw [MakeChecks.laidMetH_plain _ _ _ (by kernel_rfl)] at hL
  have hgl:=Go.Ab.p6 globs hL hsh
  have hval:∀ (j:Nat) t v,Tryz.f4.params[j]? = some t→args[j]? = some v→Value.okWide Tryz.prog W .any base t v:=hval0
  have hW':=hW
  obtain ⟨p,q,hA0,hV,rfl,hfz,hnd⟩:=hW
  have hA:DataW.TrodAll enc Tryz.prog W 0 (λ _=>true) true Tryz.f4.params.toList args.toList ds p:=hA0
  have hsz:(DataW.weightsEach Tryz.prog (Tryz.f4.params.toList++Rows.lifecycleFindsSpec.plain.varTypes Tryz.prog) (ds++gs)).all (·≤reachBytes)=true:=hsz0
  rw [Tryz.params4] at hA hval hsz
  obtain ⟨rfl,rfl⟩:=trodVars_none hV
  rw [List.append_nil] at hk
  clear hA0 hval0 hV hsz0
  rw [List.append_nil] at hsz
  have hA2:DataW.TrodAll enc Tryz.prog W 0 (λ _=>true) true [22,36,31] args.toList ds p:=hA
  have hlt:∀ x∈p,x.block < W.heap.size:=λ x hx=>hW'.lt x (List.mem_append_left _ hx)
  obtain ⟨qs,g1,g2,g3⟩:=Go.Ab.kD Go.Ab.good plain (by decide) (λ j t v hj hv=>hval j t v (by simpa using hj) (by simpa using hv)) hA2 (λ w hw=>upto_w closed (ts:=[22,36,31]) (by decide) hk hw)
  have hds:∃ d0 d1 d2,ds=[d0,d1,d2]:=by
    obtain ⟨v0,vs0,d0,ds0,p0,q0,_,e0,_,_,r0⟩:=trodAll_cons hA2
    obtain ⟨v1,vs1,d1,ds1,p1,q1,_,e1,_,_,r1⟩:=trodAll_cons r0
    obtain ⟨v2,vs2,d2,ds2,p2,q2,_,e2,_,_,r2⟩:=trodAll_cons r1
    obtain ⟨_,z,_⟩:=trodAll_nil r2
    exact ⟨d0,d1,d2,by rw [e0,e1,e2,z]⟩
  obtain ⟨d0,d1,d2,rfl⟩:=hds
  refine (Go.Ab.grown_of (Go.Ab.R06.yP qs g3) W hgl (by simpa using g1.symm) (λ i c v hc hv=>g2 i c v hc (by simpa using hv))).mono λ e W' ⟨he,hg⟩=>?_
  subst he
  exact ⟨_,rfl,Go.Ab.ml (pa:=p) (pv:=[]) hW' (λ _ _ _=>(trodAll_cons_mk (shut_bool Tryz.underlying4 _) trodAll_mk0)) (λ sp hsp=>Go.Ab.mh laid mapped full hg rowed hlt hA2 sp (λ x hx=>hsp x (List.mem_append_left _ hx))) (λ _ _=>rfl) rfl
    hg (ok_one (by kernel_rfl) rfl (okWide_bool_mk Tryz.underlying4 _))⟩
theorem said:Rows.LifecycleFindsUptoSaid :=
  OpenClaim.holds_of_cond 4 Tryz.f4 rfl rfl rfl rfl rfl rfl rfl ⟨rfl,rfl,rfl,rfl,rfl⟩ rfl rfl rfl rfl rfl (by kernel_rfl) Tryz.func4 (by kernel_rfl)
    (of_decide_eq_true (by kernel_rfl)) (by unfold Func.isWrapper; first | (rw [if_pos (by decide +kernel)]; kernel_rfl) | (rw [if_neg (by decide +kernel)]; exact ⟨rfl,rfl⟩))
    (λ os started H enc _ F=>by rw [OpenClaim.pre_eq_preRow]; exact lifted os started H enc F)
theorem plainly (f:FuncId)(fn:Func)(hf:Tryz.pinned.checked.prog.funcNamed "provision/provisionlaw43.LifecycleFinds" = some f) (hfn:Tryz.pinned.checked.prog.funcs[f]? = some fn) :
    true=Tryz.pinned.checked.prog.looks []∧∀ (j:Nat) t,fn.params[j]? = some t→Tryz.pinned.checked.prog.wantsStandIn t=false:=by
  obtain rfl:f=4:=Option.some.inj ((show Tryz.prog.funcNamed "provision/provisionlaw43.LifecycleFinds" = some 4 by kernel_rfl).symm.trans hf) |>.symm
  obtain rfl:fn=Tryz.f4:=(Option.some.inj (Tryz.func4.symm.trans hfn)).symm
  refine ⟨by kernel_rfl,λ j t ht=>?_⟩
  rw [Tryz.params4] at ht
  have hm:t∈([22,36,31]:List Nat):=by have:=Array.mem_of_getElem? ht; first | (simp at this ⊢; omega) | simpa using this
  have hall:(([22,36,31]:List Nat).all λ u=>!Tryz.prog.wantsStandIn u)=true:=by kernel_rfl
  exact (show Tryz.prog.wantsStandIn t=false by simpa using List.all_eq_true.1 hall t hm)
theorem proved:Rows.LifecycleFindsUptoCardSaid :=
  Claim7.holds_tied_plain_at .later [] _ _ _ _ said (λ _ h=>by cases h) (by kernel_rfl) (λ _ h=>by cases h) lifecycleFindsUpto_row_tie rfl ⟨rfl,rfl⟩ (by kernel_rfl) rfl plainly (by kernel_rfl)
#print axioms proved
end Go.Proofs.YtdhapbkkniegoaaGreatDoor.lifecycleFinds
end
