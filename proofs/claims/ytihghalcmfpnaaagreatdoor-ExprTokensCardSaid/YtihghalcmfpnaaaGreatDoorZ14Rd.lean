/- Texts of the proof, one behind the other. No statement is proved here. -/
import Derived.Test.YtihghalcmfpnaaaGreatDoorZ14Ra
import Derived.Test.YtihghalcmfpnaaaGreatDoorZ14Rb
import Derived.Test.YtihghalcmfpnaaaGreatDoorZ14Rc
set_option maxHeartbeats 4000000
section
namespace Go.Ab.R06
open Go.Proofs Go.Ab Go.Ab.RB
attribute [local irreducible] awp fT bn bF cv AV.sub M cT
abbrev ib:List AV:=[.p (eI 0),.p (eS ([]:Bytes)),.p (eI 0)]
abbrev kr:List AV:=[.p (eI 0),.p (eI 0),.p (eS ([]:Bytes))]
def bM (x_0:aa):Option (Bool×aa) :=
 some (decide (x_0.fat < (x_0.fs.length:Int)),x_0)
instance ux (x_0:aa):∀ (r:Bool×aa),HO (bM x_0=some r) Tryz.prog 53 [.ptr 1000000 0] [(1000000,(aa.cs x_0).map .p)] (.p (eB r.1)) ([(1000000,(aa.cs r.2).map .p)]):=by
 refine hO good [] [1000000] Tryz.func53 Z Z λ r h0 _ w0 F=>?_
 unfold bM at h0
 refine nx 5 Z (mD [(0,.ptr 1000000 0)] Z ⟨Z,trivial⟩ Z ?_)
 refine dR 3 Z (dq (.p (eI x_0.fat)) [5] Z (λ _ e _ q=>ap Z (aX Z Z Z Z Z (e _ _ Z) Z (aa.g_at _) q)) Z ?_)
 refine dR 3 Z (dq (.p (eS x_0.fs)) [9] Z (λ _ e _ q=>ap Z (aX Z Z Z Z Z (e _ _ Z) Z (aa.g_s _) q)) Z ?_)
 refine dq (.p (eI (x_0.fs.length:Int))) [10] Z (λ _ e _ q=>ap Z (oa Z Z Z Z Z (e _ _ Z) q)) Z (dR 2 Z ?_)
 refine dE Z (nx 2 Z ?_)
 exact mQo (oi h0) (au _) Z Z Z (ar Z (aw _) Z) (sr) ⟨⟨_,Z,aE _⟩,trivial⟩
def aT:Nat→aa→Option (aa⊕aa)
 | 0,_=>none
 | m+1,x20 =>
 (bM x20).bind λ r21 =>
 if r21.1=true then
  ck ((0:Int)≤r21.2.fat∧r21.2.fat < (r21.2.fs.length:Int)) <|
  ck ((0:Int)≤byt r21.2.fs r21.2.fat∧byt r21.2.fs r21.2.fat < 256) <|
  jn (
    if ((lat gU (byt r21.2.fs r21.2.fat)).toNat:Int)=1 then
     ck (inR (r21.2.fat+1)) <|
     some (.inl (aa.mk r21.2.fs (r21.2.fat+1) r21.2.fouter r21.2.fbad))
    else
     (
       if ((lat gU (byt r21.2.fs r21.2.fat)).toNat:Int)=7 then
        some (decide (r21.2.fouter < 0))
       else
        some false
      : Option Bool).bind λ t29 =>
     if t29=true then
      ck ((0:Int)≤r21.2.fat∧r21.2.fat≤(r21.2.fs.length:Int)∧(r21.2.fs.length:Int)≤(r21.2.fs.length:Int)) <|
      (strings_IndexByte (sub r21.2.fs r21.2.fat (r21.2.fs.length:Int)) 10).bind λ r32 =>
      (
        if r32 < 0 then
         ck (inR ((r21.2.fs.length:Int) - r21.2.fat)) <|
         some ((r21.2.fs.length:Int) - r21.2.fat)
        else
         some r32
       : Option Int).bind λ n36 =>
      ck (inR (r21.2.fat+n36)) <|
      some (.inl (aa.mk r21.2.fs (r21.2.fat+n36) r21.2.fouter r21.2.fbad))
     else
      some (.inr (.inr r21.2))
   : Option (aa⊕(aa⊕aa))) λ x38 =>
  aT m x38
 else
  some (.inl r21.2)
def cI (n:Nat)(x_0:aa):Option aa :=
 jn (aT n x_0) λ x40 =>
 some x40
instance ut (n:Nat) (x_0:aa):∀ (r:aa),HO (cI n x_0=some r) Tryz.prog 52 [.ptr 1000000 0] [(1000000,(aa.cs x_0).map .p)] (.tuple []) ([(1000000,(aa.cs r).map .p)]):=by
 refine hO good [] [1000000] Tryz.func52 Z Z λ r h0 _ w0 F=>?_
 unfold cI at h0
 refine nx 1 Z ?_
 obtain ⟨o45,h1,hL0,hR0⟩:=dj h0
 refine kEx 0 (λ v46:aa=>o45=.inl v46) (λ v46=>⟨[],[(1000000,(aa.cs v46).map .p)]⟩) (λ v46 hv=>?_) ?_
 ·have h0:=hL0 _ hv
  exact nx 1 Z (rZ (oi h0) (au _) Z Z Z (ar Z (aw _) Z) (sr) ⟨⟨_,Z,aE _⟩,trivial⟩)
 refine lG (λ (q47:aa)=>⟨[(0,.ptr 1000000 0)],[(1000000,(aa.cs q47).map .p)]⟩) (λ m (q47:aa)=>aT m q47) Y x_0 h1 (gE Z Z) ?_
 rintro m x20 h1
 replace h1:aT (m+1) x20=some o45:=h1
 rw [aT] at h1
 refine nx 4 Z (bd h1 λ r21 e22 h1=>?_)
 refine mO Z (bq [1000000] [] 102000 102000 (HO.c e22) Z Z Z Z Z ⟨sr,trivial⟩ Z (ar Z (aw _) Z) ⟨⟨_,Z,aE _⟩,trivial⟩ Z Z Z Z Z Z Z Z Tryz.call53 Z (ar Z (aw _) Z) ?_)
 refine nx 1 Z (fB [5] h1 Z (λ c23 h1=>?_) λ c23 h1=>?_)
 ·refine nx 4 Z (cc' h1 λ hk24 h1=>?_)
  refine cc' h1 λ hk25 h1=>mD [(0,.ptr 1000000 0)] Z ⟨Z,trivial⟩ Z (dR 4 Z ?_)
  refine dq (.p (eS r21.2.fs)) [9] Z (λ _ e _ q=>ap Z (aX Z Z Z Z Z (e _ _ Z) Z (aa.g_s _) q)) Z (dR 3 Z ?_)
  refine dq (.p (eI r21.2.fat)) [13] Z (λ _ e _ q=>ap Z (aX Z Z Z Z Z (e _ _ Z) Z (aa.g_at _) q)) Z (dq (.p (eK .u8 (byt r21.2.fs r21.2.fat))) [10,14] Z (λ _ e _ q=>ap Z (jb Z Z Z Z Z (e _ _ Z) (e _ _ Z) hk24 q)) Z ?_)
  refine dR 2 Z (dq (.ptr 1000000 (2+(byt r21.2.fs r21.2.fat).toNat*1)) [15,17] Z (λ _ e _ q=>ap Z (fh Z Z Z Z Z Z (e _ _ Z) (e _ _ Z) hk25 q)) Z ?_)
  refine dq (.p (eK .u8 ((lat gU (byt r21.2.fs r21.2.fat)).toNat:Int))) [18] Z (λ _ e _ q=>ap Z (aX Z Z Z Z Z (e _ _ Z) Z (aa.g_class _ hk25) q)) Z (dR 1 Z ?_)
  refine dE Z (nx 1 Z ?_)
  obtain ⟨o48,h2,hL1,hR1⟩:=dj h1
  refine kX (λ v49:aa=>o48=.inl v49) (λ v49=>⟨[(0,.ptr 1000000 0)],[(1000000,(aa.cs v49).map .p)]⟩) (λ v49 hv=>?_) ?_
  ·have h1:=hL1 _ hv
   exact nx 1 Z (eX v49 h1 (gE Z Z))
  refine nx 7 Z (fD [20,22] h2 Z (λ c26 h2=>?_) λ c26 h2=>?_)
  ·refine nx 5 Z (mO Z (aX Z Z Z Z Z Z Z (aa.g_at _) ?_))
   refine oA h2 Z Z λ hk27 h2=>nx 2 Z (mO Z (eh Z Z Z Z Z Z Z Z (aa.b_at _) (aa.u_at _) ?_))
   exact nx 1 Z (eX _ (oi h2).symm (gE Z Z))
  refine nx 2 Z (bd h2 λ o50 h3 h2=>?_)
  refine kN o50 (λ v51=>⟨[(0,.ptr 1000000 0),(30,.p (eB v51))],[(1000000,(aa.cs r21.2).map .p)]⟩) ?_ ?_
  ·refine nx 1 Z (fB [30] h2 Z (λ c30 h2=>?_) λ c30 h2=>?_)
   ·refine nx 2 Z (cc' h2 λ hk31 h2=>?_)
    refine bd h2 λ r32 e33 h2=>mD [(0,.ptr 1000000 0)] Z ⟨Z,trivial⟩ Z (dR 3 Z ?_)
    refine dq (.p (eS r21.2.fs)) [42] Z (λ _ e _ q=>ap Z (aX Z Z Z Z Z (e _ _ Z) Z (aa.g_s _) q)) Z (dR 3 Z ?_)
    refine dq (.p (eI r21.2.fat)) [46] Z (λ _ e _ q=>ap Z (aX Z Z Z Z Z (e _ _ Z) Z (aa.g_at _) q)) Z (dq (.p (eS (sub r21.2.fs r21.2.fat (r21.2.fs.length:Int)))) [43,47] Z (λ _ e _ q=>ap Z (dy (a:=r21.2.fs) (l:=r21.2.fat) (h:=(r21.2.fs.length:Int)) Z Z Z Z Z (e _ _ Z) (fK (e _ _ Z)) Z hk31 q)) Z ?_)
    refine dq (.p (eI r32)) [48] Z (λ _ e _ q=>ap Z (ed (fv (sub r21.2.fs r21.2.fat (r21.2.fs.length:Int)) 10 _ e33) Z Z Z (aN (e _ _ Z) (aN Z cx)) ⟨sr,sr,trivial⟩ Tryz.call85 Z q)) Z (dR 1 Z ?_)
    refine dE Z (nx 2 Z ?_)
    refine bd h2 λ o52 h3 h2=>kN o52 (λ v53=>⟨[(0,.ptr 1000000 0),(3,.p (eI v53))],[(1000000,(aa.cs r21.2).map .p)]⟩) ?_ ?_
    ·refine nx 5 Z (mO Z (aX Z Z Z Z Z Z Z (aa.g_at _) ?_))
     refine nx 1 Z (oA h2 Z Z λ hk37 h2=>?_)
     refine nx 2 Z (mO Z (eh Z Z Z Z Z Z Z Z (aa.b_at _) (aa.u_at _) ?_))
     exact nx 1 Z (eX _ (oi h2).symm (gE Z Z))
    refine nx 5 Z (fD [51] h3 Z (λ c34 h3=>?_) λ c34 h3=>?_)
    ·refine nx 1 Z (cc' h3 λ hk35 h3=>?_)
     refine mD [(0,.ptr 1000000 0)] Z ⟨Z,trivial⟩ Z (dR 3 Z ?_)
     refine dq (.p (eS r21.2.fs)) [54] Z (λ _ e _ q=>ap Z (aX Z Z Z Z Z (e _ _ Z) Z (aa.g_s _) q)) Z (dq (.p (eI (r21.2.fs.length:Int))) [55] Z (λ _ e _ q=>ap Z (oa Z Z Z Z Z (e _ _ Z) q)) Z ?_)
     refine dR 3 Z (dq (.p (eI r21.2.fat)) [59] Z (λ _ e _ q=>ap Z (aX Z Z Z Z Z (e _ _ Z) Z (aa.g_at _) q)) Z ?_)
     refine dq (.p (eI ((r21.2.fs.length:Int) - r21.2.fat))) [56,60] Z (λ _ e _ q=>ap Z (ew Z Z Z (e _ _ Z) (e _ _ Z) Z hk35 q)) Z (dR 1 Z ?_)
     refine dE Z (nx 1 Z ?_)
     exact eX _ (oi h3).symm (gE Z Z)
    exact nx 2 Z (eX _ (oi h3).symm (gE Z Z))
   exact nx 2 Z (mQo (hR0 _ (hR1 _ (oi h2).symm).symm) (au _) Z Z Z (ar Z (aw _) Z) (sr) ⟨⟨_,Z,aE _⟩,trivial⟩)
  refine nx 4 Z (fD [32,33] h3 Z (λ c28 h3=>?_) λ c28 h3=>?_)
  ·refine nx 3 Z (mO Z (aX Z Z Z Z Z Z Z (aa.g_outer _) ?_))
   exact nx 4 Z (eX _ (oi h3).symm (gE Z Z))
  exact nx 8 Z (eX _ (oi h3).symm (gE Z Z))
 exact nx 2 Z (eXi _ (oi h1).symm (gE Z Z))
def cA (s_0:Bytes):Nat→Int→Option (Unit⊕Bytes)
 | 0,_=>none
 | m+1,t8 =>
 if t8 < 7 then
  ck ((0:Int)≤t8∧t8 < 7) <|
  (strings_HasPrefix s_0 (lat ([([61,62]:Bytes),([61,61]:Bytes),([33,61]:Bytes),([60,61]:Bytes),([62,61]:Bytes),([38,38]:Bytes),([124,124]:Bytes)]:List Bytes) t8)).bind λ r11 =>
  if r11=true then
   some (.inr (lat ([([61,62]:Bytes),([61,61]:Bytes),([33,61]:Bytes),([60,61]:Bytes),([62,61]:Bytes),([38,38]:Bytes),([124,124]:Bytes)]:List Bytes) t8))
  else
   ck (inR (t8+1)) <|
   cA s_0 m (t8+1)
 else
  some (.inl ())
def eP (n:Nat)(s_0:Bytes):Option Bytes :=
 jn (cA s_0 n 0) λ q23 =>
 (
   if s_0=([]:Bytes) then
    some true
   else
    ck ((0:Int)≤0∧0 < (s_0.length:Int)) <|
    (strings_IndexByte ([123,125,91,93,40,41,44,61,60,62,43,45,42,47,37,33,63,58,46]:Bytes) (byt s_0 0)).bind λ r18 =>
    some (decide (r18 < 0))
  : Option Bool).bind λ t20 =>
 if t20=true then
  some ([]:Bytes)
 else
  ck ((0:Int)≤0∧(0:Int)≤1∧(1:Int)≤(s_0.length:Int)) <|
  some (sub s_0 0 1)
instance zF (n:Nat) (s_0:Bytes):∀ (r:Bytes),HP (eP n s_0=some r) Tryz.prog 86 [eS s_0] (.p (eS r)):=by
 refine hP good Tryz.func86 Z Z λ r h0 _ w0=>?_
 unfold eP at h0
 refine nx 11 Z ?_
 obtain ⟨o25,h1,hL0,hR0⟩:=dj h0
 refine kEx 0 (λ v26:Unit=>o25=.inl v26) (λ v26=>⟨[(0,.p (eS s_0))],[]⟩) (λ v26 hv=>?_) ?_
 ·have h0:=hL0 _ hv
  refine nx 3 Z (bd h0 λ o27 h1 h0=>?_)
  refine kN o27 (λ v28=>⟨[(0,.p (eS s_0)),(21,.p (eB v28))],[]⟩) ?_ ?_
  ·refine nx 1 Z (fB [21] h0 Z (λ c21 h0=>?_) λ c21 h0=>?_)
   ·exact nx 6 Z (mQ (oi h0) Z (sr))
   refine nx 5 Z (oP h0 Z Z Z λ hk22 h0=>?_)
   exact nx 3 Z (mQ (oi h0) Z (sr))
  refine nx 2 Z (oS Z Z ?_)
  refine nx 1 Z (fD [15,16] h1 Z (λ c16 h1=>?_) λ c16 h1=>?_)
  ·exact nx 6 Z (eX _ (oi h1).symm (gE Z Z))
  refine nx 1 Z (oI h1 Z λ hk17 h1=>?_)
  refine bd h1 λ r18 e19 h1=>oK (fv ([123,125,91,93,40,41,44,61,60,62,43,45,42,47,37,33,63,58,46]:Bytes) (byt s_0 0) _ e19) Z ⟨sr,sr,trivial⟩ Tryz.call85 Z (nx 3 Z ?_)
  exact eX _ (oi h1).symm (gE Z Z)
 refine lG (λ (q29:Int)=>⟨[(0,.p (eS s_0)),(5,.p (.agg [eS ([61,62]:Bytes),eS ([61,61]:Bytes),eS ([33,61]:Bytes),eS ([60,61]:Bytes),eS ([62,61]:Bytes),eS ([38,38]:Bytes),eS ([124,124]:Bytes)])),(6,.p (eI q29))],[]⟩) (λ m (q29:Int)=>cA s_0 m q29) Y 0 h1 (gE Z Z) ?_
 rintro m t8 h1
 replace h1:cA s_0 (m+1) t8=some o25:=h1
 rw [cA] at h1
 refine nx 5 Z (fD [7] h1 Z (λ c9 h1=>?_) λ c9 h1=>?_)
 ·refine nx 6 Z (cc' h1 λ hk10 h1=>?_)
  refine mO Z (ss eS ([([61,62]:Bytes),([61,61]:Bytes),([33,61]:Bytes),([60,61]:Bytes),([62,61]:Bytes),([38,38]:Bytes),([124,124]:Bytes)]:List Bytes) Z Z Z Z Z Z Z Z Z Z Z (by have:=hk10; simp only [List.length_cons,List.length_nil]; omega) ?_)
  refine nx 6 Z (bd h1 λ r11 e12 h1=>?_)
  refine oK (bY s_0 (lat ([([61,62]:Bytes),([61,61]:Bytes),([33,61]:Bytes),([60,61]:Bytes),([62,61]:Bytes),([38,38]:Bytes),([124,124]:Bytes)]:List Bytes) t8) _ e12) Z ⟨sr,sr,trivial⟩ Tryz.call75 Z (nx 1 Z ?_)
  refine fB [11] h1 Z (λ c13 h1=>?_) λ c13 h1=>?_
  ·exact nx 7 Z (mQ (hR0 _ (oi h1).symm) Z (sr))
  refine nx 3 Z (oA h1 Z Z λ hk14 h1=>?_)
  exact nx 2 Z (eX (t8+1) h1 (gE Z Z))
 exact nx 2 Z (eXi _ (oi h1).symm (gE Z Z))
def cu (n:Nat)(x_0:aa):Option (Bool×aa) :=
 ck ((0:Int)≤x_0.fat∧x_0.fat < (x_0.fs.length:Int)) <|
 ck ((0:Int)≤byt x_0.fs x_0.fat∧byt x_0.fs x_0.fat < 256) <|
 (
   if ((lat gU (byt x_0.fs x_0.fat)).toNat:Int)=2 then
    some true
   else
    if ((lat gU (byt x_0.fs x_0.fat)).toNat:Int)=3 then
     some true
    else
     if ((lat gU (byt x_0.fs x_0.fat)).toNat:Int)=5 then
      some true
     else
      some (decide (((lat gU (byt x_0.fs x_0.fat)).toNat:Int)=6))
  : Option Bool).bind λ t6 =>
 if t6=true then
  some (true,x_0)
 else
  ck ((0:Int)≤x_0.fat∧x_0.fat≤(x_0.fs.length:Int)∧(x_0.fs.length:Int)≤(x_0.fs.length:Int)) <|
  (eP n (sub x_0.fs x_0.fat (x_0.fs.length:Int))).bind λ r9 =>
  some (!decide (r9=([]:Bytes)),x_0)
instance sP (n:Nat) (x_0:aa):∀ (r:Bool×aa),HO (cu n x_0=some r) Tryz.prog 54 [.ptr 1000000 0] [(1000000,(aa.cs x_0).map .p)] (.p (eB r.1)) ([(1000000,(aa.cs r.2).map .p)]):=by
 refine hO good [] [1000000] Tryz.func54 Z Z λ r h0 _ w0 F=>?_
 unfold cu at h0
 refine nx 6 Z (cc' h0 λ hk1 h0=>?_)
 refine cc' h0 λ hk2 h0=>mD [(0,.ptr 1000000 0)] Z ⟨Z,trivial⟩ Z (dR 4 Z ?_)
 refine dq (.p (eS x_0.fs)) [6] Z (λ _ e _ q=>ap Z (aX Z Z Z Z Z (e _ _ Z) Z (aa.g_s _) q)) Z (dR 3 Z ?_)
 refine dq (.p (eI x_0.fat)) [10] Z (λ _ e _ q=>ap Z (aX Z Z Z Z Z (e _ _ Z) Z (aa.g_at _) q)) Z (dq (.p (eK .u8 (byt x_0.fs x_0.fat))) [7,11] Z (λ _ e _ q=>ap Z (jb Z Z Z Z Z (e _ _ Z) (e _ _ Z) hk1 q)) Z ?_)
 refine dR 2 Z (dq (.ptr 1000000 (2+(byt x_0.fs x_0.fat).toNat*1)) [12,14] Z (λ _ e _ q=>ap Z (fh Z Z Z Z Z Z (e _ _ Z) (e _ _ Z) hk2 q)) Z ?_)
 refine dq (.p (eK .u8 ((lat gU (byt x_0.fs x_0.fat)).toNat:Int))) [15] Z (λ _ e _ q=>ap Z (aX Z Z Z Z Z (e _ _ Z) Z (aa.g_class _ hk2) q)) Z (dE Z ?_)
 refine nx 3 Z (bd h0 λ o12 h1 h0=>?_)
 refine kN o12 (λ v13=>⟨[(0,.ptr 1000000 0),(17,.p (eB v13))],[(1000000,(aa.cs x_0).map .p)]⟩) ?_ ?_
 ·refine nx 1 Z (fB [17] h0 Z (λ c7 h0=>?_) λ c7 h0=>?_)
  ·exact nx 6 Z (mQo (oi h0) (au _) Z Z Z (ar Z (aw _) Z) (sr) ⟨⟨_,Z,aE _⟩,trivial⟩)
  refine nx 3 Z (cc' h0 λ hk8 h0=>?_)
  refine bd h0 λ r9 e10 h0=>mD [(0,.ptr 1000000 0)] Z ⟨Z,trivial⟩ Z (dR 3 Z ?_)
  refine dq (.p (eS x_0.fs)) [24] Z (λ _ e _ q=>ap Z (aX Z Z Z Z Z (e _ _ Z) Z (aa.g_s _) q)) Z (dR 3 Z ?_)
  refine dq (.p (eI x_0.fat)) [28] Z (λ _ e _ q=>ap Z (aX Z Z Z Z Z (e _ _ Z) Z (aa.g_at _) q)) Z (dq (.p (eS (sub x_0.fs x_0.fat (x_0.fs.length:Int)))) [25,29] Z (λ _ e _ q=>ap Z (dy (a:=x_0.fs) (l:=x_0.fat) (h:=(x_0.fs.length:Int)) Z Z Z Z Z (e _ _ Z) (fK (e _ _ Z)) Z hk8 q)) Z ?_)
  refine dq (.p (eS r9)) [30] Z (λ _ e _ q=>ap Z (ed (HP.c e10) Z Z Z (aN (e _ _ Z) cx) ⟨sr,trivial⟩ Tryz.call86 Z q)) Z (dq (.p (eB (!decide (r9=([]:Bytes))))) [31] Z (λ _ e _ q=>ap Z (qu Z Z Z (e _ _ Z) Z Z q)) Z ?_)
  refine dR 1 Z (dE Z ?_)
  exact nx 2 Z (mQo (oi h0) (au _) Z Z Z (ar Z (aw _) Z) (sr) ⟨⟨_,Z,aE _⟩,trivial⟩)
 refine nx 5 Z (fD [17,18] h1 Z (λ c3 h1=>?_) λ c3 h1=>?_)
 ·exact nx 2 Z (eX _ (oi h1).symm (gE Z Z))
 refine nx 6 Z (fD [17,19] h1 Z (λ c4 h1=>?_) λ c4 h1=>?_)
 ·exact nx 2 Z (eX _ (oi h1).symm (gE Z Z))
 refine nx 6 Z (fD [17,20] h1 Z (λ c5 h1=>?_) λ c5 h1=>?_)
 ·exact nx 2 Z (eX _ (oi h1).symm (gE Z Z))
 exact nx 5 Z (eX _ (oi h1).symm (gE Z Z))
def bE (a_1:Int)(b_2:Int):Nat→aa→Option aa
 | 0,_=>none
 | m+1,x14 =>
 (
   (bM x14).bind λ r15 =>
   if r15.1=true then
    ck ((0:Int)≤r15.2.fat∧r15.2.fat < (r15.2.fs.length:Int)) <|
    ck ((0:Int)≤byt r15.2.fs r15.2.fat∧byt r15.2.fs r15.2.fat < 256) <|
    if ((lat gU (byt r15.2.fs r15.2.fat)).toNat:Int)=a_1 then
     some (true,r15.2)
    else
     ck ((0:Int)≤r15.2.fat∧r15.2.fat < (r15.2.fs.length:Int)) <|
     ck ((0:Int)≤byt r15.2.fs r15.2.fat∧byt r15.2.fs r15.2.fat < 256) <|
     some (decide (((lat gU (byt r15.2.fs r15.2.fat)).toNat:Int)=b_2),r15.2)
   else
    some (false,r15.2)
  : Option (Bool×aa)).bind λ q31 =>
 if q31.1=true then
  ck (inR (q31.2.fat+1)) <|
  bE a_1 b_2 m (aa.mk q31.2.fs (q31.2.fat+1) q31.2.fouter q31.2.fbad)
 else
  some q31.2
def cU (n:Nat)(x_0:aa)(a_1:Int)(b_2:Int):Option (Bytes×aa) :=
 (bE a_1 b_2 n x_0).bind λ x28 =>
 ck ((0:Int)≤x_0.fat∧x_0.fat≤x28.fat∧x28.fat≤(x28.fs.length:Int)) <|
 some (sub x28.fs x_0.fat x28.fat,x28)
instance uH (n:Nat) (x_0:aa) (a_1:Int) (b_2:Int):∀ (r:Bytes×aa),HO (cU n x_0 a_1 b_2=some r) Tryz.prog 87 [.ptr 1000000 0,.p (eK .u8 a_1),.p (eK .u8 b_2)] [(1000000,(aa.cs x_0).map .p)] (.p (eS r.1)) ([(1000000,(aa.cs r.2).map .p)]):=by
 refine hO good [] [1000000] Tryz.func87 Z Z λ r h0 _ w0 F=>?_
 unfold cU at h0
 refine nx 9 Z (mO Z (aX Z Z Z Z Z Z Z (aa.g_at _) ?_))
 refine nx 4 Z (bd h0 λ o32 h1 h0=>?_)
 refine kE 0 o32 (λ v33=>⟨[(0,.ptr 1000000 0),(7,.p (eI x_0.fat))],[(1000000,(aa.cs v33).map .p)]⟩) ?_ ?_
 ·refine nx 2 Z (cc' h0 λ hk29 h0=>?_)
  refine mD [(0,.ptr 1000000 0),(7,.p (eI x_0.fat))] Z ⟨Z,Z,trivial⟩ Z (dR 3 Z ?_)
  refine dq (.p (eS o32.fs)) [59] Z (λ _ e _ q=>ap Z (aX Z Z Z Z Z (e _ _ Z) Z (aa.g_s _) q)) Z (dR 4 Z ?_)
  refine dq (.p (eI o32.fat)) [64] Z (λ _ e _ q=>ap Z (aX Z Z Z Z Z (e _ _ Z) Z (aa.g_at _) q)) Z (dq (.p (eS (sub o32.fs x_0.fat o32.fat))) [60,61,65] Z (λ _ e _ q=>ap Z (dy (a:=o32.fs) (l:=x_0.fat) (h:=o32.fat) Z Z Z Z Z (e _ _ Z) (fK (e _ _ Z)) (jL (e _ _ Z)) hk29 q)) Z ?_)
  refine dR 1 Z (dE Z ?_)
  exact nx 2 Z (mQo (oi h0) (au _) Z Z Z (ar Z (aw _) Z) (sr) ⟨⟨_,Z,aE _⟩,trivial⟩)
 refine lG (λ (q34:aa)=>⟨[(0,.ptr 1000000 0),(1,.p (eK .u8 a_1)),(2,.p (eK .u8 b_2)),(7,.p (eI x_0.fat))],[(1000000,(aa.cs q34).map .p)]⟩) (λ m (q34:aa)=>bE a_1 b_2 m q34) Y x_0 h1 (gE Z Z) ?_
 rintro m x14 h1
 replace h1:bE a_1 b_2 (m+1) x14=some o32:=h1
 rw [bE] at h1
 refine nx 2 Z (bd h1 λ o35 h2 h1=>?_)
 refine kN o35 (λ v36=>⟨[(0,.ptr 1000000 0),(1,.p (eK .u8 a_1)),(2,.p (eK .u8 b_2)),(7,.p (eI x_0.fat)),(49,.p (eB v36.1))],[(1000000,(aa.cs v36.2).map .p)]⟩) ?_ ?_
 ·refine nx 1 Z (fB [49] h1 Z (λ c25 h1=>?_) λ c25 h1=>?_)
  ·refine nx 7 Z (mO Z (aX Z Z Z Z Z Z Z (aa.g_at _) ?_))
   refine oA h1 Z Z λ hk26 h1=>nx 2 Z (mO Z (eh Z Z Z Z Z Z Z Z (aa.b_at _) (aa.u_at _) ?_))
   exact nx 1 Z (eX (aa.mk o35.2.fs (o35.2.fat+1) o35.2.fouter o35.2.fbad) h1 (gE Z Z))
  exact nx 2 Z (eXi _ (oi h1).symm (gE Z Z))
 refine bd h2 λ r15 e16 h2=>fB (p:=r15.1) [] h2 Z (λ c17 h2=>?_) λ c17 h2=>?_
 ·refine cc' h2 λ hk18 h2=>cc' h2 λ hk19 h2=>fD (p:=((lat gU (byt r15.2.fs r15.2.fat)).toNat:Int)=a_1) [] h2 Z (λ c20 h2=>?_) λ c20 h2=>?_
  ·refine mG (gE (t:=⟨[(0,.ptr 1000000 0),(1,.p (eK .u8 a_1)),(2,.p (eK .u8 b_2)),(7,.p (eI x_0.fat))],[(1000000,(aa.cs x14).map .p)]⟩) Z Z) (mSq ⟨1,[1],(by2 (.some (cK [] 108000 108000)) .none),(λ _=>[(0,.ptr 1000000 0),(1,.p (eK .u8 a_1)),(2,.p (eK .u8 b_2)),(7,.p (eI x_0.fat))]),(by2 [(1000000,(aa.cs x14).map .p)] [(1000000,(aa.cs r15.2).map .p)])⟩ Z ?_)
   refine dPc (.ptr 1000000 0) Z (eQ (λ _=>.p (eB r15.1)) [(12,_)] Z ⟨.inr ⟨0,_,Z,Z,Z⟩,trivial⟩ Z Z Y (lt1 (λ h=>absurd h (by decide))) (λ sl hsl K hK=>ap Z (bq [1000000] [] 108000 108000 (HO.c e16) Z Z Z (aN (hsl _ _ Z) cx) Z ⟨sr,trivial⟩ Z (ar Z (aw _) Z) ⟨⟨_,Z,aE _⟩,trivial⟩ Z Z Z Z Z Z Z Z Tryz.call53 Z (ar Z (aw _) Z) hK)) ?_)
   refine dPc (.p (eB r15.1)) Z (dPy (λ _=>.ptr 1000000 0) (c17) Z ?_)
   refine dPy (λ _=>.ptr 1000000 0) (c17) Z (dPy (λ _=>.ptr 1000000 0) (c17) Z ?_)
   refine dPy (λ _=>.ptr 1000000 0) (c17) Z (dPy (λ _=>.p (eS r15.2.fs)) (c17) Z ?_)
   refine dPy (λ _=>.ptr 1000000 0) (c17) Z (dPy (λ _=>.ptr 1000000 0) (c17) Z ?_)
   refine dPy (λ _=>.ptr 1000000 1) (c17) Z (dPy (λ _=>.p (eI r15.2.fat)) (c17) Z ?_)
   refine aR (λ _=>.p (eK .u8 (byt r15.2.fs r15.2.fat))) Z Z Z (gw Z Y) (lt1 Z) (aB [(14,_),(19,_),(23,_)] ⟨.inr ⟨2,_,Z,Z,Z⟩,.inr ⟨7,_,Z,Z,Z⟩,.inr ⟨11,_,Z,Z,Z⟩,trivial⟩ (λ sl hsl K hK=>fw (jb Z Z Z Z Z (hsl _ _ Z) (hsl _ _ Z) hk18 hK) Z Z (hsl _ _ Z) (c17)) (az Z aS)) (dPy (λ _=>.ptr 1000000 0) (c17) Z ?_)
   refine dPy (λ _=>.ptr 1000000 2) (c17) Z (aR (λ _=>.ptr 1000000 (2+(byt r15.2.fs r15.2.fat).toNat*1)) Z Z Z (gw Z Y) (lt1 Z) (aB [(14,_),(24,_),(26,_)] ⟨.inr ⟨2,_,Z,Z,Z⟩,.inr ⟨12,_,Z,Z,Z⟩,.inr ⟨14,_,Z,Z,Z⟩,trivial⟩ (λ sl hsl K hK=>fw (fh Z Z Z Z Z Z (hsl _ _ Z) (hsl _ _ Z) hk19 hK) Z Z (hsl _ _ Z) (c17)) (az Z aS)) ?_)
   refine aR (λ _=>.p (eK .u8 ((lat gU (byt r15.2.fs r15.2.fat)).toNat:Int))) Z Z Z (gw Z Y) (lt1 Z) (aB [(14,_),(27,_)] ⟨.inr ⟨2,_,Z,Z,Z⟩,.inr ⟨15,_,Z,Z,Z⟩,trivial⟩ (λ sl hsl K hK=>fw (aX Z Z Z Z Z (hsl _ _ Z) Z (aa.g_class _ hk19) hK) Z Z (hsl _ _ Z) (c17)) (az Z aS)) (dPy (λ _=>.p (eK .u8 a_1)) (c17) Z ?_)
   refine dPy (λ _=>.p (eB (decide (((lat gU (byt r15.2.fs r15.2.fat)).toNat:Int)=a_1)))) (c17) Z (dPy (λ _=>.p (eB (decide (((lat gU (byt r15.2.fs r15.2.fat)).toNat:Int)=a_1)))) (c17) Z ?_)
   refine dPn (dt c20) Z (dPn (dt c20) Z ?_)
   refine dPn (dt c20) Z (dPn (dt c20) Z ?_)
   refine dPn (dt c20) Z (dPn (dt c20) Z ?_)
   refine dPn (dt c20) Z (dPn (dt c20) Z ?_)
   refine dPn (dt c20) Z (dPn (dt c20) Z ?_)
   refine dPn (dt c20) Z (dPn (dt c20) Z ?_)
   refine dPn (dt c20) Z (dPn (dt c20) Z ?_)
   refine dPn (dt c20) Z (dPn (dt c20) Z ?_)
   refine aR (λ _=>.p (eB true)) Z Z Z (gw Z Y) (lt1 Z) (aB [(14,_),(31,_),(47,_)] ⟨.inr ⟨2,_,Z,Z,Z⟩,.inr ⟨19,_,Z,Z,Z⟩,.inr ⟨35,_,Z,Z,Z⟩,trivial⟩ (λ sl hsl K hK=>fw (jO Z Z Z (hsl _ _ Z) (dt c20) Z hK) Z Z (hsl _ _ Z) (c17)) (az Z aS)) (aR (λ _=>.p (eB true)) Z Z Z (gw Z Y) (lt1 Z) (aB [(14,_),(48,_)] ⟨.inr ⟨2,_,Z,Z,Z⟩,.inr ⟨36,_,Z,Z,Z⟩,trivial⟩ (λ sl hsl K hK=>ap Z (jO Z Z Z (hsl _ _ Z) (c17) (hsl _ _ Z) hK)) (az Z aS)) ?_)
   refine cY (nx 1 Z ?_)
   exact eX _ (oi h2).symm (gE Z Z)
  refine cc' h2 λ hk21 h2=>cc' h2 λ hk22 h2=>mG (gE (t:=⟨[(0,.ptr 1000000 0),(1,.p (eK .u8 a_1)),(2,.p (eK .u8 b_2)),(7,.p (eI x_0.fat))],[(1000000,(aa.cs x14).map .p)]⟩) Z Z) (mSq ⟨1,[1],(by2 (.some (cK [] 109000 109000)) .none),(λ _=>[(0,.ptr 1000000 0),(1,.p (eK .u8 a_1)),(2,.p (eK .u8 b_2)),(7,.p (eI x_0.fat))]),(by2 [(1000000,(aa.cs x14).map .p)] [(1000000,(aa.cs r15.2).map .p)])⟩ Z ?_)
  refine dPc (.ptr 1000000 0) Z (eQ (λ _=>.p (eB r15.1)) [(12,_)] Z ⟨.inr ⟨0,_,Z,Z,Z⟩,trivial⟩ Z Z Y (lt1 (λ h=>absurd h (by decide))) (λ sl hsl K hK=>ap Z (bq [1000000] [] 109000 109000 (HO.c e16) Z Z Z (aN (hsl _ _ Z) cx) Z ⟨sr,trivial⟩ Z (ar Z (aw _) Z) ⟨⟨_,Z,aE _⟩,trivial⟩ Z Z Z Z Z Z Z Z Tryz.call53 Z (ar Z (aw _) Z) hK)) ?_)
  refine dPc (.p (eB r15.1)) Z (dPy (λ _=>.ptr 1000000 0) (c17) Z ?_)
  refine dPy (λ _=>.ptr 1000000 0) (c17) Z (dPy (λ _=>.ptr 1000000 0) (c17) Z ?_)
  refine dPy (λ _=>.ptr 1000000 0) (c17) Z (dPy (λ _=>.p (eS r15.2.fs)) (c17) Z ?_)
  refine dPy (λ _=>.ptr 1000000 0) (c17) Z (dPy (λ _=>.ptr 1000000 0) (c17) Z ?_)
  refine dPy (λ _=>.ptr 1000000 1) (c17) Z (dPy (λ _=>.p (eI r15.2.fat)) (c17) Z ?_)
  refine aR (λ _=>.p (eK .u8 (byt r15.2.fs r15.2.fat))) Z Z Z (gw Z Y) (lt1 Z) (aB [(14,_),(19,_),(23,_)] ⟨.inr ⟨2,_,Z,Z,Z⟩,.inr ⟨7,_,Z,Z,Z⟩,.inr ⟨11,_,Z,Z,Z⟩,trivial⟩ (λ sl hsl K hK=>fw (jb Z Z Z Z Z (hsl _ _ Z) (hsl _ _ Z) hk18 hK) Z Z (hsl _ _ Z) (c17)) (az Z aS)) (dPy (λ _=>.ptr 1000000 0) (c17) Z ?_)
  refine dPy (λ _=>.ptr 1000000 2) (c17) Z (aR (λ _=>.ptr 1000000 (2+(byt r15.2.fs r15.2.fat).toNat*1)) Z Z Z (gw Z Y) (lt1 Z) (aB [(14,_),(24,_),(26,_)] ⟨.inr ⟨2,_,Z,Z,Z⟩,.inr ⟨12,_,Z,Z,Z⟩,.inr ⟨14,_,Z,Z,Z⟩,trivial⟩ (λ sl hsl K hK=>fw (fh Z Z Z Z Z Z (hsl _ _ Z) (hsl _ _ Z) hk19 hK) Z Z (hsl _ _ Z) (c17)) (az Z aS)) ?_)
  refine aR (λ _=>.p (eK .u8 ((lat gU (byt r15.2.fs r15.2.fat)).toNat:Int))) Z Z Z (gw Z Y) (lt1 Z) (aB [(14,_),(27,_)] ⟨.inr ⟨2,_,Z,Z,Z⟩,.inr ⟨15,_,Z,Z,Z⟩,trivial⟩ (λ sl hsl K hK=>fw (aX Z Z Z Z Z (hsl _ _ Z) Z (aa.g_class _ hk19) hK) Z Z (hsl _ _ Z) (c17)) (az Z aS)) (dPy (λ _=>.p (eK .u8 a_1)) (c17) Z ?_)
  refine dPy (λ _=>.p (eB (decide (((lat gU (byt r15.2.fs r15.2.fat)).toNat:Int)=a_1)))) (c17) Z (dPy (λ _=>.p (eB (decide (((lat gU (byt r15.2.fs r15.2.fat)).toNat:Int)=a_1)))) (c17) Z ?_)
  refine dPy (λ _=>.ptr 1000000 0) (df c20) Z (dPy (λ _=>.ptr 1000000 0) (df c20) Z ?_)
  refine dPy (λ _=>.ptr 1000000 0) (df c20) Z (dPy (λ _=>.ptr 1000000 0) (df c20) Z ?_)
  refine dPy (λ _=>.p (eS r15.2.fs)) (df c20) Z (dPy (λ _=>.ptr 1000000 0) (df c20) Z ?_)
  refine dPy (λ _=>.ptr 1000000 0) (df c20) Z (dPy (λ _=>.ptr 1000000 1) (df c20) Z ?_)
  refine dPy (λ _=>.p (eI r15.2.fat)) (df c20) Z (aR (λ _=>.p (eK .u8 (byt r15.2.fs r15.2.fat))) Z Z Z (gw Z Y) (lt1 Z) (aB [(31,_),(36,_),(40,_)] ⟨.inr ⟨19,_,Z,Z,Z⟩,.inr ⟨24,_,Z,Z,Z⟩,.inr ⟨28,_,Z,Z,Z⟩,trivial⟩ (λ sl hsl K hK=>fw (jb Z Z Z Z Z (hsl _ _ Z) (hsl _ _ Z) hk21 hK) Z Z (hsl _ _ Z) (df c20)) (az Z aS)) ?_)
  refine dPy (λ _=>.ptr 1000000 0) (df c20) Z (dPy (λ _=>.ptr 1000000 2) (df c20) Z ?_)
  refine aR (λ _=>.ptr 1000000 (2+(byt r15.2.fs r15.2.fat).toNat*1)) Z Z Z (gw Z Y) (lt1 Z) (aB [(31,_),(41,_),(43,_)] ⟨.inr ⟨19,_,Z,Z,Z⟩,.inr ⟨29,_,Z,Z,Z⟩,.inr ⟨31,_,Z,Z,Z⟩,trivial⟩ (λ sl hsl K hK=>fw (fh Z Z Z Z Z Z (hsl _ _ Z) (hsl _ _ Z) hk22 hK) Z Z (hsl _ _ Z) (df c20)) (az Z aS)) (aR (λ _=>.p (eK .u8 ((lat gU (byt r15.2.fs r15.2.fat)).toNat:Int))) Z Z Z (gw Z Y) (lt1 Z) (aB [(31,_),(44,_)] ⟨.inr ⟨19,_,Z,Z,Z⟩,.inr ⟨32,_,Z,Z,Z⟩,trivial⟩ (λ sl hsl K hK=>fw (aX Z Z Z Z Z (hsl _ _ Z) Z (aa.g_class _ hk22) hK) Z Z (hsl _ _ Z) (df c20)) (az Z aS)) ?_)
  refine dPy (λ _=>.p (eK .u8 b_2)) (df c20) Z (dPy (λ _=>.p (eB (decide (((lat gU (byt r15.2.fs r15.2.fat)).toNat:Int)=b_2)))) (df c20) Z ?_)
  refine aR (λ _=>.p (eB (decide (((lat gU (byt r15.2.fs r15.2.fat)).toNat:Int)=b_2)))) Z Z Z (gw Z Y) (lt1 Z) (aB [(14,_),(31,_),(47,_)] ⟨.inr ⟨2,_,Z,Z,Z⟩,.inr ⟨19,_,Z,Z,Z⟩,.inr ⟨35,_,Z,Z,Z⟩,trivial⟩ (λ sl hsl K hK=>fw (kI Z Z Z (hsl _ _ Z) (df c20) (hsl _ _ Z) hK) Z Z (hsl _ _ Z) (c17)) (az Z aS)) (aR (λ _=>.p (eB (decide (((lat gU (byt r15.2.fs r15.2.fat)).toNat:Int)=b_2)))) Z Z Z (gw Z Y) (lt1 Z) (aB [(14,_),(48,_)] ⟨.inr ⟨2,_,Z,Z,Z⟩,.inr ⟨36,_,Z,Z,Z⟩,trivial⟩ (λ sl hsl K hK=>ap Z (jO Z Z Z (hsl _ _ Z) (c17) (hsl _ _ Z) hK)) (az Z aS)) ?_)
  refine cY (nx 1 Z ?_)
  exact eX _ (oi h2).symm (gE Z Z)
 refine mG (gE (t:=⟨[(0,.ptr 1000000 0),(1,.p (eK .u8 a_1)),(2,.p (eK .u8 b_2)),(7,.p (eI x_0.fat))],[(1000000,(aa.cs x14).map .p)]⟩) Z Z) (mSq ⟨1,[1],(by2 (.some (cK [] 110000 110000)) .none),(λ _=>[(0,.ptr 1000000 0),(1,.p (eK .u8 a_1)),(2,.p (eK .u8 b_2)),(7,.p (eI x_0.fat))]),(by2 [(1000000,(aa.cs x14).map .p)] [(1000000,(aa.cs r15.2).map .p)])⟩ Z ?_)
 refine dPc (.ptr 1000000 0) Z (eQ (λ _=>.p (eB r15.1)) [(12,_)] Z ⟨.inr ⟨0,_,Z,Z,Z⟩,trivial⟩ Z Z Y (lt1 (λ h=>absurd h (by decide))) (λ sl hsl K hK=>ap Z (bq [1000000] [] 110000 110000 (HO.c e16) Z Z Z (aN (hsl _ _ Z) cx) Z ⟨sr,trivial⟩ Z (ar Z (aw _) Z) ⟨⟨_,Z,aE _⟩,trivial⟩ Z Z Z Z Z Z Z Z Tryz.call53 Z (ar Z (aw _) Z) hK)) ?_)
 refine dPc (.p (eB r15.1)) Z (dPn (c17) Z ?_)
 refine dPn (c17) Z (dPn (c17) Z ?_)
 refine dPn (c17) Z (dPn (c17) Z ?_)
 refine dPn (c17) Z (dPn (c17) Z ?_)
 refine dPn (c17) Z (dPn (c17) Z ?_)
 refine dPn (c17) Z (dPn (c17) Z ?_)
 refine dPn (c17) Z (dPn (c17) Z ?_)
 refine dPn (c17) Z (dPn (c17) Z ?_)
 refine dPn (c17) Z (dPn (c17) Z ?_)
 refine dPx Z (dPx Z ?_)
 refine dPx Z (dPx Z ?_)
 refine dPx Z (dPx Z ?_)
 refine dPx Z (dPx Z ?_)
 refine dPx Z (dPx Z ?_)
 refine dPx Z (dPx Z ?_)
 refine dPx Z (dPx Z ?_)
 refine dPx Z (dPx Z ?_)
 refine dPn (c17) Z (aR (λ _=>.p (eB false)) Z Z Z (gw Z Y) (lt1 Z) (aB [(14,_),(48,_)] ⟨.inr ⟨2,_,Z,Z,Z⟩,.inr ⟨36,_,Z,Z,Z⟩,trivial⟩ (λ sl hsl K hK=>ap Z (kI Z Z Z (hsl _ _ Z) (c17) Z hK)) (az Z aS)) ?_)
 refine cY (nx 1 Z ?_)
 exact eX _ (oi h2).symm (gE Z Z)
def cH (x_0:aa)(k_1:Int)(at_2:Int):Option (Bool×aa) :=
 some (false,(aa.mk x_0.fs x_0.fat x_0.fouter (ax.mk k_1 at_2 ([]:Bytes))))
instance us (x_0:aa) (k_1:Int) (at_2:Int):∀ (r:Bool×aa),HO (cH x_0 k_1 at_2=some r) Tryz.prog 88 [.ptr 1000000 0,.p (eI k_1),.p (eI at_2)] [(1000000,(aa.cs x_0).map .p)] (.p (eB r.1)) ([(1000000,(aa.cs r.2).map .p)]):=by
 refine hO good [] [1000000] Tryz.func88 Z Z λ r h0 _ w0 F=>?_
 unfold cH at h0
 refine nx 12 Z (mO Z (eh Z Z Z Z Z Z Z Z (aa.b_bad _) (aa.u_bad _) ?_))
 exact nx 6 Z (mQo (oi h0) (au _) Z Z Z (ar Z (aw _) Z) (sr) ⟨⟨_,Z,aE _⟩,trivial⟩)
def dK (x_0:aa):Option (Bool×aa) :=
 ck ((0:Int)≤x_0.fat∧x_0.fat≤(x_0.fs.length:Int)∧(x_0.fs.length:Int)≤(x_0.fs.length:Int)) <|
 (aW (sub x_0.fs x_0.fat (x_0.fs.length:Int))).bind λ r2 =>
 (
   if r2.1=65533 then
    if r2.2=1 then
     some true
    else
     if r2.1 < 32 then
      some true
     else
      some (decide (r2.1=127))
   else
    if r2.1 < 32 then
     some true
    else
     some (decide (r2.1=127))
  : Option Bool).bind λ t8 =>
 if t8=true then
  some (false,x_0)
 else
  ck (inR (x_0.fat+r2.2)) <|
  some (true,(aa.mk x_0.fs (x_0.fat+r2.2) x_0.fouter x_0.fbad))
instance qX (x_0:aa):∀ (r:Bool×aa),HO (dK x_0=some r) Tryz.prog 134 [.ptr 1000000 0] [(1000000,(aa.cs x_0).map .p)] (.p (eB r.1)) ([(1000000,(aa.cs r.2).map .p)]):=by
 refine hO good [] [1000000] Tryz.func134 Z Z λ r h0 _ w0 F=>?_
 unfold dK at h0
 refine nx 5 Z (cc' h0 λ hk1 h0=>?_)
 refine bd h0 λ r2 e3 h0=>mD [(0,.ptr 1000000 0)] Z ⟨Z,trivial⟩ Z (dR 3 Z ?_)
 refine dq (.p (eS x_0.fs)) [8] Z (λ _ e _ q=>ap Z (aX Z Z Z Z Z (e _ _ Z) Z (aa.g_s _) q)) Z (dR 3 Z ?_)
 refine dq (.p (eI x_0.fat)) [12] Z (λ _ e _ q=>ap Z (aX Z Z Z Z Z (e _ _ Z) Z (aa.g_at _) q)) Z (dq (.p (eS (sub x_0.fs x_0.fat (x_0.fs.length:Int)))) [9,13] Z (λ _ e _ q=>ap Z (dy (a:=x_0.fs) (l:=x_0.fat) (h:=(x_0.fs.length:Int)) Z Z Z Z Z (e _ _ Z) (fK (e _ _ Z)) Z hk1 q)) Z ?_)
 refine dq (.tuple [.p (eK .i32 r2.1),.p (eI r2.2)]) [14] Z (λ _ e _ q=>ap Z (ed (dF (sub x_0.fs x_0.fat (x_0.fs.length:Int)) _ e3) Z Z Z (aN (e _ _ Z) cx) ⟨sr,trivial⟩ Tryz.call126 Z q)) Z (dR 5 Z ?_)
 refine dE Z (nx 3 Z ?_)
 refine bd h0 λ o12 h1 h0=>kN o12 (λ v13=>⟨[(0,.ptr 1000000 0),(4,.p (eI r2.2)),(31,.p (eB v13))],[(1000000,(aa.cs x_0).map .p)]⟩) ?_ ?_
 ·refine nx 1 Z (fB [31] h0 Z (λ c9 h0=>?_) λ c9 h0=>?_)
  ·exact nx 6 Z (mQo (oi h0) (au _) Z Z Z (ar Z (aw _) Z) (sr) ⟨⟨_,Z,aE _⟩,trivial⟩)
  refine nx 7 Z (mO Z (aX Z Z Z Z Z Z Z (aa.g_at _) ?_))
  refine nx 1 Z (oA h0 Z Z λ hk10 h0=>?_)
  refine nx 2 Z (mO Z (eh Z Z Z Z Z Z Z Z (aa.b_at _) (aa.u_at _) ?_))
  exact nx 6 Z (mQo (oi h0) (au _) Z Z Z (ar Z (aw _) Z) (sr) ⟨⟨_,Z,aE _⟩,trivial⟩)
 refine nx 4 Z (fD [19,20] h1 Z (λ c4 h1=>?_) λ c4 h1=>?_)
 ·refine nx 4 Z (fD [22,23,24] h1 Z (λ c5 h1=>?_) λ c5 h1=>?_)
  ·exact nx 8 Z (eX _ (oi h1).symm (gE Z Z))
  refine nx 4 Z (fD [26,27,28] h1 Z (λ c6 h1=>?_) λ c6 h1=>?_)
  ·exact nx 4 Z (eX _ (oi h1).symm (gE Z Z))
  exact nx 4 Z (eX _ (oi h1).symm (gE Z Z))
 refine nx 8 Z (fD [26,27,28] h1 Z (λ c7 h1=>?_) λ c7 h1=>?_)
 ·exact nx 4 Z (eX _ (oi h1).symm (gE Z Z))
 exact nx 4 Z (eX _ (oi h1).symm (gE Z Z))
def aG (r_token_scanner_interpolation:aa→Int→Option (Bool×aa))(depth_1:Int):Nat→aa→Option (aa⊕(Bool×aa))
 | 0,_=>none
 | m+1,x33 =>
 (bM x33).bind λ r34 =>
 if r34.1=true then
  ck ((0:Int)≤r34.2.fat∧r34.2.fat≤(r34.2.fs.length:Int)∧(r34.2.fs.length:Int)≤(r34.2.fs.length:Int)) <|
  jn (
    ck ((0:Int)≤0∧0 < ((sub r34.2.fs r34.2.fat (r34.2.fs.length:Int)).length:Int)) <|
    if byt (sub r34.2.fs r34.2.fat (r34.2.fs.length:Int)) 0=34 then
     ck (inR (r34.2.fat+1)) <|
     some (.inr (.inr (true,(aa.mk r34.2.fs (r34.2.fat+1) r34.2.fouter r34.2.fbad))))
    else
     (strings_HasPrefix (sub r34.2.fs r34.2.fat (r34.2.fs.length:Int)) ([36,36,123]:Bytes)).bind λ r41 =>
     if r41=true then
      ck (inR (r34.2.fat+3)) <|
      some (.inl (aa.mk r34.2.fs (r34.2.fat+3) r34.2.fouter r34.2.fbad))
     else
      (strings_HasPrefix (sub r34.2.fs r34.2.fat (r34.2.fs.length:Int)) ([36,123]:Bytes)).bind λ r45 =>
      if r45=true then
       (r_token_scanner_interpolation r34.2 depth_1).bind λ r48 =>
       if (!r48.1)=true then
        some (.inr (.inr (false,r48.2)))
       else
        some (.inl r48.2)
      else
       (
         ck ((0:Int)≤0∧0 < ((sub r34.2.fs r34.2.fat (r34.2.fs.length:Int)).length:Int)) <|
         if byt (sub r34.2.fs r34.2.fat (r34.2.fs.length:Int)) 0=92 then
          ck (inR (r34.2.fat+1)) <|
          some (aa.mk r34.2.fs (r34.2.fat+1) r34.2.fouter r34.2.fbad)
         else
          some r34.2
        : Option aa).bind λ x54 =>
       (bM x54).bind λ r55 =>
       if (!r55.1)=true then
        some (.inl r55.2)
       else
        (dK r55.2).bind λ r58 =>
        if (!r58.1)=true then
         (cH r58.2 2 r58.2.fat).bind λ r61 =>
         some (.inr (.inr (r61.1,r61.2)))
        else
         some (.inl r58.2)
   : Option (aa⊕(aa⊕(Bool×aa)))) λ x63 =>
  aG r_token_scanner_interpolation depth_1 m x63
 else
  some (.inl r34.2)
def aD (n:Nat)(r_token_scanner_token:aa→Int→Option (ad×Bool×aa))(depth_1:Int):Nat→Int→aa→Option (aa⊕(Bool×aa))
 | 0,_,_=>none
 | m+1,open35,x36 =>
 if 0 < open35 then
  jn (
    (cI n x36).bind λ r38 =>
    (bM r38).bind λ r40 =>
    if (!r40.1)=true then
     (cH r40.2 40 r40.2.fouter).bind λ r43 =>
     some (.inr (.inr (r43.1,r43.2)))
    else
     (cu n r40.2).bind λ r45 =>
     if (!r45.1)=true then
      (cH r45.2 2 r45.2.fat).bind λ r48 =>
      some (.inr (.inr (r48.1,r48.2)))
     else
      ck (inR (depth_1+1)) <|
      (r_token_scanner_token r45.2 (depth_1+1)).bind λ r51 =>
      if (!r51.2.1)=true then
       some (.inr (.inr (false,r51.2.2)))
      else
       (
         (
           if r51.1.fKind=4 then
            some (decide (r51.1.fText=([123]:Bytes)))
           else
            some false
          : Option Bool).bind λ t55 =>
         if t55=true then
          ck (inR (open35+1)) <|
          some (open35+1)
         else
          some open35
        : Option Int).bind λ open58 =>
       (
         if r51.1.fKind=4 then
          some (decide (r51.1.fText=([125]:Bytes)))
         else
          some false
        : Option Bool).bind λ t60 =>
       if t60=true then
        ck (inR (open58 - 1)) <|
        some (.inl (open58 - 1,r51.2.2))
       else
        some (.inl (open58,r51.2.2))
   : Option ((Int×aa)⊕(aa⊕(Bool×aa)))) λ q69 =>
  aD n r_token_scanner_token depth_1 m q69.1 q69.2
 else
  some (.inl x36)
mutual
def aM:Nat→aa→Int→Option (ad×Bool×aa)
 | 0,_,_=>none
 | n+1,x_0,depth_1 =>
 ck ((0:Int)≤x_0.fat∧x_0.fat < (x_0.fs.length:Int)) <|
 ck ((0:Int)≤byt x_0.fs x_0.fat∧byt x_0.fs x_0.fat < 256) <|
 jn (
   if ((lat gU (byt x_0.fs x_0.fat)).toNat:Int)=2 then
    (cU n x_0 2 3).bind λ r4 =>
    if 64 < (r4.1.length:Int) then
     (cH r4.2 7 x_0.fat).bind λ r7 =>
     some (.inr ((ad.mk 1 r4.1 x_0.fat),r7.1,r7.2))
    else
     some (.inl (1,r4.1,r4.2))
   else
    if ((lat gU (byt x_0.fs x_0.fat)).toNat:Int)=3 then
     (cU n x_0 3 3).bind λ r10 =>
     some (.inl (2,r10.1,r10.2))
    else
     if ((lat gU (byt x_0.fs x_0.fat)).toNat:Int)=6 then
      ck (inR (x_0.fat+1)) <|
      some (.inl (5,([10]:Bytes),(aa.mk x_0.fs (x_0.fat+1) x_0.fouter x_0.fbad)))
     else
      if ((lat gU (byt x_0.fs x_0.fat)).toNat:Int)=5 then
       ((bP n) x_0 depth_1).bind λ r15 =>
       if (!r15.1)=true then
        some (.inr ((ad.mk 3 ([]:Bytes) x_0.fat),false,r15.2))
       else
        ck (inR (x_0.fat+1)) <|
        ck (inR (r15.2.fat - 1)) <|
        ck ((0:Int)≤x_0.fat+1∧x_0.fat+1≤r15.2.fat - 1∧r15.2.fat - 1≤(r15.2.fs.length:Int)) <|
        some (.inl (3,sub r15.2.fs (x_0.fat+1) (r15.2.fat - 1),r15.2))
      else
       ck ((0:Int)≤x_0.fat∧x_0.fat≤(x_0.fs.length:Int)∧(x_0.fs.length:Int)≤(x_0.fs.length:Int)) <|
       (eP n (sub x_0.fs x_0.fat (x_0.fs.length:Int))).bind λ r22 =>
       ck (inR (x_0.fat+(r22.length:Int))) <|
       some (.inl (4,r22,(aa.mk x_0.fs (x_0.fat+(r22.length:Int)) x_0.fouter x_0.fbad)))
  : Option ((Int×Bytes×aa)⊕(ad×Bool×aa))) λ q28 =>
 some ((ad.mk q28.1 q28.2.1 x_0.fat),true,q28.2.2)
def bX:Nat→aa→Int→Option (Bool×aa)
 | 0,_,_=>none
 | n+1,x_0,depth_1 =>
 ck (inR (x_0.fat+1)) <|
 jn (aG (aA n) depth_1 n (aa.mk x_0.fs (x_0.fat+1) x_0.fouter x_0.fbad)) λ x65 =>
 (cH x65 40 x65.fouter).bind λ r66 =>
 some (r66.1,r66.2)
def bP:Nat→aa→Int→Option (Bool×aa)
 | 0,_,_=>none
 | n+1,x_0,depth_1 =>
 if x_0.fouter < 0 then
  ((bX n) (aa.mk x_0.fs x_0.fat x_0.fat x_0.fbad) depth_1).bind λ r1 =>
  some (r1.1,aa.mk r1.2.fs r1.2.fat (-1) r1.2.fbad)
 else (bX n) x_0 depth_1
def aA:Nat→aa→Int→Option (Bool×aa)
 | 0,_,_=>none
 | n+1,x_0,depth_1 =>
 if 32≤depth_1 then
  (cH x_0 4 x_0.fat).bind λ r2 =>
  some (r2.1,r2.2)
 else
  ck (inR (x_0.fat+2)) <|
  jn (aD n (aM n) depth_1 n 1 (aa.mk x_0.fs (x_0.fat+2) x_0.fouter x_0.fbad)) λ x67 =>
  some (true,x67)
end
theorem kZ (n:Nat):(∀ (x_0:aa) (depth_1:Int) (r:ad×Bool×aa),HO (aM n x_0 depth_1=some r) Tryz.prog 55 [.ptr 1000000 0,.p (eI depth_1)] [(1000000,(aa.cs x_0).map .p)] (.tuple [.p (.agg (ad.cs r.1)),.p (eB r.2.1)]) ([(1000000,(aa.cs r.2.2).map .p)]))∧(∀ (x_0:aa) (depth_1:Int) (r:Bool×aa),bX n x_0 depth_1=some r→zN Tryz.prog Tryz.f89 (FE Tryz.f89.body) [(1,.p (eI depth_1)),(2,.ptr 1000001 0)] [(1000000,(aa.cs x_0).map .p),(1000001,[.ptr 1000000 0])] (λ x y=>x.sub (.p (eB r.1))∧leO y [(1000000,(aa.cs r.2).map .p),(1000001,[.ptr 1000000 0])]))∧(∀ (x_0:aa) (depth_1:Int) (r:Bool×aa),HO (bP n x_0 depth_1=some r) Tryz.prog 89 [.ptr 1000000 0,.p (eI depth_1)] [(1000000,(aa.cs x_0).map .p)] (.p (eB r.1)) ([(1000000,(aa.cs r.2).map .p)]))∧(∀ (x_0:aa) (depth_1:Int) (r:Bool×aa),HO (aA n x_0 depth_1=some r) Tryz.prog 133 [.ptr 1000000 0,.p (eI depth_1)] [(1000000,(aa.cs x_0).map .p)] (.p (eB r.1)) ([(1000000,(aa.cs r.2).map .p)])):=by
 induction n with
 | zero=>exact ⟨by intros; exact ⟨λ h=>by cases h⟩,(by intro x_0 depth_1 r h0; cases h0),by intros; exact ⟨λ h=>by cases h⟩,by intros; exact ⟨λ h=>by cases h⟩⟩
 | succ n ih =>
 obtain ⟨ih_token_scanner_token_ok,ih_token_scanner_source_b_ok,ih_token_scanner_source_ok,ih_token_scanner_interpolation_ok⟩:=ih
 refine ⟨?_,?_,?_,?_⟩
 ·skip
  refine λ x_0 depth_1=>hO good [] [1000000] Tryz.func55 Z Z λ r h0 _ w0 F=>?_
  rw [aM] at h0
  refine nx 2 Z (mO Z (gJ Z Z Z Z Z ?_))
  refine mG (lh (show jH _ _=_ from (by repeat (first | exact i6 _ | apply il Z | apply d4 Z (kA _ _) | apply d4 Z Z)))) (nx 7 Z ?_)
  refine mO Z (aX Z Z Z Z Z Z Z (aa.g_at _) ?_)
  refine nx 1 Z (mO Z (gJ Z Z Z Z Z ?_))
  refine mG (lh (show jH _ _=_ from (by repeat (first | exact i6 _ | apply il Z | apply d4 Z (kA _ _) | apply d4 Z Z)))) (nx 4 Z ?_)
  refine cc' h0 λ hk1 h0=>cc' h0 λ hk2 h0=>mD [(0,.ptr 1000000 0),(1,.p (eI depth_1)),(4,.ptr 4 0),(6,.ptr 6 0)] Z ⟨Z,Z,Z,Z,trivial⟩ Z (dR 4 Z ?_)
  refine dq (.p (eS x_0.fs)) [15] Z (λ _ e _ q=>ap Z (aX Z Z Z Z Z (e _ _ Z) Z (aa.g_s _) q)) Z (dR 3 Z ?_)
  refine dq (.p (eI x_0.fat)) [19] Z (λ _ e _ q=>ap Z (aX Z Z Z Z Z (e _ _ Z) Z (aa.g_at _) q)) Z (dq (.p (eK .u8 (byt x_0.fs x_0.fat))) [16,20] Z (λ _ e _ q=>ap Z (jb Z Z Z Z Z (e _ _ Z) (e _ _ Z) hk1 q)) Z ?_)
  refine dR 2 Z (dq (.ptr 1000000 (2+(byt x_0.fs x_0.fat).toNat*1)) [21,23] Z (λ _ e _ q=>ap Z (fh Z Z Z Z Z Z (e _ _ Z) (e _ _ Z) hk2 q)) Z ?_)
  refine dq (.p (eK .u8 ((lat gU (byt x_0.fs x_0.fat)).toNat:Int))) [24] Z (λ _ e _ q=>ap Z (aX Z Z Z Z Z (e _ _ Z) Z (aa.g_class _ hk2) q)) Z (dE Z ?_)
  refine nx 1 Z ?_
  obtain ⟨o29,h1,hL0,hR0⟩:=dj h0
  refine kX (λ v30:Int×Bytes×aa=>o29=.inl v30) (λ v30=>⟨[(4,.ptr 4 0),(6,.ptr 6 0)],[(4,ib),(6,[.p (eI v30.1),.p (eS v30.2.1),.p (eI x_0.fat)]),(1000000,(aa.cs v30.2.2).map .p)]⟩) (λ v30 hv=>?_) ?_
  ·have h0:=hL0 _ hv
   exact nx 8 Z (mQo (oi h0) (au _) Z Z Z (ar Z (aw _) Z) (bz ⟨sr,sr,trivial⟩) ⟨⟨_,Z,aE _⟩,trivial⟩)
  refine nx 6 Z (fD [48,49] h1 Z (λ c3 h1=>?_) λ c3 h1=>?_)
  ·refine nx 4 Z (bd h1 λ r4 e5 h1=>?_)
   refine mO Z (bq [1000000] [] 101000 101000 (HO.c e5) Z Z Z Z Z ⟨sr,sr,sr,trivial⟩ Z (ar Z (aw _) Z) ⟨⟨_,Z,aE _⟩,trivial⟩ Z Z Z Z Z Z Z Z Tryz.call87 Z (ar Z (aw _) Z) ?_)
   refine nx 9 Z (oLs Z ?_)
   refine nx 2 Z (fD [57] h1 Z (λ c6 h1=>?_) λ c6 h1=>?_)
   ·refine nx 2 Z (bd h1 λ r7 e8 h1=>?_)
    refine mG (gE (t:=⟨[(0,.ptr 1000000 0),(4,.ptr 4 0),(6,.ptr 6 0)],[(4,ib),(6,[.p (eI 1),.p (eS r4.1),.p (eI x_0.fat)]),(1000000,(aa.cs r4.2).map .p)]⟩) Z Z) (mSq ⟨2,[4,5],(by3 (.some (cK [] 102000 102000)) .none .none),(λ _=>[(0,.ptr 1000000 0),(4,.ptr 4 0),(6,.ptr 6 0)]),(by3 ([(4,ib),(6,[.p (eI 1),.p (eS r4.1),.p (eI x_0.fat)]),(1000000,(aa.cs r4.2).map .p)]) ([(1000000,(aa.cs r7.2).map .p),(4,ib),(6,[.p (eI 1),.p (eS r4.1),.p (eI x_0.fat)])]) ([(4,[.p (eI 1),.p (eS r4.1),.p (eI x_0.fat)]),(1000000,(aa.cs r7.2).map .p),(4,ib),(6,[.p (eI 1),.p (eS r4.1),.p (eI x_0.fat)])]))⟩ Z ?_)
    refine dPc (.p (.agg [eI 1,eS r4.1,eI x_0.fat])) Z (dPc (.ptr 1000000 0) Z ?_)
    refine dPc (.ptr 6 2) Z (dPc (.p (eI x_0.fat)) Z ?_)
    refine eQ (λ _=>.p (eB r7.1)) [(59,_),(61,_)] Z ⟨.inr ⟨1,_,Z,Z,Z⟩,.inr ⟨3,_,Z,Z,Z⟩,trivial⟩ Z Z (gw Z Y) (lt2 (λ h=>absurd h (by decide)) Y) (λ sl hsl K hK=>ap Z (bq [1000000] [] 102000 102000 (HO.c e8) Z Z Z (aN (hsl _ _ Z) (aN Z (aN (hsl _ _ Z) cx))) Z ⟨sr,sr,sr,trivial⟩ Z (ar Z (aw _) Z) ⟨⟨_,Z,aE _⟩,trivial⟩ Z Z Z Z Z Z Z Z Tryz.call88 Z (ar Z (aw _) Z) hK)) (dS Z ?_)
    refine dPc (.p (eB r7.1)) Z (cY ?_)
    exact nx 2 Z (mQo (hR0 _ (oi h1).symm) (au _) Z Z Z (ar Z (aw _) Z) (bz ⟨sr,sr,trivial⟩) ⟨⟨_,Z,aE _⟩,trivial⟩)
   exact nx 2 Z (eX _ (oi h1).symm (gE Z Z))
  refine nx 6 Z (fD [63,64] h1 Z (λ c9 h1=>?_) λ c9 h1=>?_)
  ·refine nx 3 Z (bd h1 λ r10 e11 h1=>?_)
   refine mO Z (bq [1000000] [] 103000 103000 (HO.c e11) Z Z Z Z Z ⟨sr,sr,sr,trivial⟩ Z (ar Z (aw _) Z) ⟨⟨_,Z,aE _⟩,trivial⟩ Z Z Z Z Z Z Z Z Tryz.call87 Z (ar Z (aw _) Z) ?_)
   exact nx 5 Z (eX _ (oi h1).symm (gE Z Z))
  refine nx 6 Z (fD [69,70] h1 Z (λ c12 h1=>?_) λ c12 h1=>?_)
  ·refine nx 12 Z (mO Z (aX Z Z Z Z Z Z Z (aa.g_at _) ?_))
   refine oA h1 Z Z λ hk13 h1=>nx 2 Z (mO Z (eh Z Z Z Z Z Z Z Z (aa.b_at _) (aa.u_at _) ?_))
   exact nx 1 Z (eX _ (oi h1).symm (gE Z Z))
  refine nx 6 Z (fD [80,81] h1 Z (λ c14 h1=>?_) λ c14 h1=>?_)
  ·refine nx 11 Z (bd h1 λ r15 e16 h1=>?_)
   refine mO Z (bq [1000000] [] 104000 104000 (HO.c e16) Z Z Z Z Z ⟨sr,sr,trivial⟩ Z (ar Z (aw _) Z) ⟨⟨_,Z,aE _⟩,trivial⟩ Z Z Z Z Z Z Z Z Tryz.call89 Z (ar Z (aw _) Z) ?_)
   refine nx 2 Z (mG (gE (t:=⟨[(0,.ptr 1000000 0),(4,.ptr 4 0),(6,.ptr 6 0),(86,.p (eB (!r15.1)))],[(4,ib),(6,[.p (eI 3),.p (eS ([]:Bytes)),.p (eI x_0.fat)]),(1000000,(aa.cs r15.2).map .p)]⟩) Z Z) ?_)
   refine fB [86] h1 Z (λ c17 h1=>?_) λ c17 h1=>?_
   ·exact nx 8 Z (mQo (hR0 _ (oi h1).symm) (au _) Z Z Z (ar Z (aw _) Z) (bz ⟨sr,sr,trivial⟩) ⟨⟨_,Z,aE _⟩,trivial⟩)
   refine nx 2 Z (cc' h1 λ hk18 h1=>?_)
   refine cc' h1 λ hk19 h1=>cc' h1 λ hk20 h1=>mG (gE (t:=⟨[(0,.ptr 1000000 0),(4,.ptr 4 0),(6,.ptr 6 0)],[(4,ib),(6,[.p (eI 3),.p (eS ([]:Bytes)),.p (eI x_0.fat)]),(1000000,(aa.cs r15.2).map .p)]⟩) Z Z) (mSq ⟨1,[14],(λ _=>.none),(λ _=>[(0,.ptr 1000000 0),(4,.ptr 4 0),(6,.ptr 6 0)]),(ob2 ([(4,ib),(6,[.p (eI 3),.p (eS ([]:Bytes)),.p (eI x_0.fat)]),(1000000,(aa.cs r15.2).map .p)]) (6,[.p (eI 3),.p (eS (sub r15.2.fs (x_0.fat+1) (r15.2.fat - 1))),.p (eI x_0.fat)]))⟩ Z ?_)
   refine dPc (.ptr 1000000 0) Z (dPc (.ptr 1000000 0) Z ?_)
   refine dPc (.ptr 1000000 0) Z (dPc (.p (eS r15.2.fs)) Z ?_)
   refine dPc (.ptr 6 2) Z (dPc (.p (eI x_0.fat)) Z ?_)
   refine aR (λ _=>.p (eI (x_0.fat+1))) Z Z Z (gw Z Y) (lt1 Z) (az Z (aB [(93,_)] ⟨.inr ⟨5,_,Z,Z,Z⟩,trivial⟩ (λ sl hsl K hK=>ap Z (ew Z Z Z (hsl _ _ Z) Z Z hk18 hK)) aS)) (dPc (.ptr 1000000 0) Z ?_)
   refine dPc (.ptr 1000000 0) Z (dPc (.ptr 1000000 1) Z ?_)
   refine dPc (.p (eI r15.2.fat)) Z (aR (λ _=>.p (eI (r15.2.fat - 1))) Z Z Z (gw Z Y) (lt1 Z) (az Z (aB [(98,_)] ⟨.inr ⟨10,_,Z,Z,Z⟩,trivial⟩ (λ sl hsl K hK=>ap Z (ew Z Z Z (hsl _ _ Z) Z Z hk19 hK)) aS)) ?_)
   refine aR (λ _=>.p (eS (sub r15.2.fs (x_0.fat+1) (r15.2.fat - 1)))) Z Z Z (gw Z Y) (lt1 Z) (az Z (aB [(91,_),(94,_),(99,_)] ⟨.inr ⟨3,_,Z,Z,Z⟩,.inr ⟨6,_,Z,Z,Z⟩,.inr ⟨11,_,Z,Z,Z⟩,trivial⟩ (λ sl hsl K hK=>ap Z (dy (a:=r15.2.fs) (l:=x_0.fat+1) (h:=r15.2.fat - 1) Z Z Z Z Z (hsl _ _ Z) (fK (hsl _ _ Z)) (jL (hsl _ _ Z)) hk20 hK)) aS)) (dPc (.ptr 6 1) Z ?_)
   refine dS Z (cY ?_)
   exact nx 1 Z (eX _ (oi h1).symm (gE Z Z))
  refine nx 2 Z (cc' h1 λ hk21 h1=>?_)
  refine bd h1 λ r22 e23 h1=>mG (gE (t:=⟨[(0,.ptr 1000000 0),(4,.ptr 4 0),(6,.ptr 6 0)],[(4,ib),(6,[.p (eI 0),.p (eS ([]:Bytes)),.p (eI x_0.fat)]),(1000000,(aa.cs x_0).map .p)]⟩) Z Z) (mSq ⟨2,[11,13],(λ _=>.none),(λ _=>[(0,.ptr 1000000 0),(4,.ptr 4 0),(6,.ptr 6 0)]),(ob3 ([(4,ib),(6,[.p (eI 0),.p (eS ([]:Bytes)),.p (eI x_0.fat)]),(1000000,(aa.cs x_0).map .p)]) (6,[.p (eI 4),.p (eS ([]:Bytes)),.p (eI x_0.fat)]) (6,[.p (eI 4),.p (eS r22),.p (eI x_0.fat)]))⟩ Z ?_)
  refine dPc (.ptr 1000000 0) Z (dPc (.ptr 1000000 0) Z ?_)
  refine dPc (.ptr 1000000 0) Z (dPc (.p (eS x_0.fs)) Z ?_)
  refine dPc (.ptr 1000000 0) Z (dPc (.ptr 1000000 0) Z ?_)
  refine dPc (.ptr 1000000 1) Z (dPc (.p (eI x_0.fat)) Z ?_)
  refine aR (λ _=>.p (eS (sub x_0.fs x_0.fat (x_0.fs.length:Int)))) Z Z Z (nC Z Z Y) (lt2 Z Z) (az Z (aB [(29,_),(33,_)] ⟨.inr ⟨3,_,Z,Z,Z⟩,.inr ⟨7,_,Z,Z,Z⟩,trivial⟩ (λ sl hsl K hK=>ap Z (dy (a:=x_0.fs) (l:=x_0.fat) (h:=(x_0.fs.length:Int)) Z Z Z Z Z (hsl _ _ Z) (fK (hsl _ _ Z)) Z hk21 hK)) (aB [(29,_),(33,_)] ⟨.inr ⟨3,_,Z,Z,Z⟩,.inr ⟨7,_,Z,Z,Z⟩,trivial⟩ (λ sl hsl K hK=>ap Z (dy (a:=x_0.fs) (l:=x_0.fat) (h:=(x_0.fs.length:Int)) Z Z Z Z Z (hsl _ _ Z) (fK (hsl _ _ Z)) Z hk21 hK)) aS))) (aR (λ _=>.p (eS r22)) Z Z Z (nC Z Z Y) (lt2 Z Z) (az Z (az Z (aB [(34,_)] ⟨.inr ⟨8,_,Z,Z,Z⟩,trivial⟩ (λ sl hsl K hK=>ap Z (ed (HP.c e23) Z Z Z (aN (hsl _ _ Z) cx) ⟨sr,trivial⟩ Tryz.call86 Z hK)) aS))) ?_)
  refine dPc (.ptr 6 0) Z (jy [(36,_)] Z ⟨.inr ⟨10,_,Z,Z,Z⟩,trivial⟩ Z (λ sl hsl K hK=>ap Z (lg Z Z Z (hsl _ _ Z) Z Z Z Z (Nat.le_of_ble_eq_true Z) hK)) ?_)
  refine dPc (.ptr 6 1) Z (dS Z ?_)
  refine cY (nx 1 Z ?_)
  refine cc' h1 λ hk24 h1=>mG (gE (t:=⟨[(0,.ptr 1000000 0),(4,.ptr 4 0),(6,.ptr 6 0)],[(4,ib),(6,[.p (eI 4),.p (eS r22),.p (eI x_0.fat)]),(1000000,(aa.cs x_0).map .p)]⟩) Z Z) (mSq ⟨1,[10],(λ _=>.none),(λ _=>[(0,.ptr 1000000 0),(4,.ptr 4 0),(6,.ptr 6 0)]),(ob2 ([(4,ib),(6,[.p (eI 4),.p (eS r22),.p (eI x_0.fat)]),(1000000,(aa.cs x_0).map .p)]) (1000000,(aa.cs (aa.mk x_0.fs (x_0.fat+(r22.length:Int)) x_0.fouter x_0.fbad)).map .p))⟩ Z ?_)
  refine dPc (.ptr 1000000 0) Z (dPc (.ptr 1000000 0) Z ?_)
  refine dPc (.ptr 1000000 1) Z (dPc (.p (eI x_0.fat)) Z ?_)
  refine dPc (.ptr 6 1) Z (dPc (.p (eS r22)) Z ?_)
  refine aR (λ _=>.p (eI (r22.length:Int))) Z Z Z (gw Z Y) (lt1 Z) (az Z (aB [(43,_)] ⟨.inr ⟨5,_,Z,Z,Z⟩,trivial⟩ (λ sl hsl K hK=>ap Z (oa Z Z Z Z Z (hsl _ _ Z) hK)) aS)) (aR (λ _=>.p (eI (x_0.fat+(r22.length:Int)))) Z Z Z (gw Z Y) (lt1 Z) (az Z (aB [(41,_),(44,_)] ⟨.inr ⟨3,_,Z,Z,Z⟩,.inr ⟨6,_,Z,Z,Z⟩,trivial⟩ (λ sl hsl K hK=>ap Z (ew Z Z Z (hsl _ _ Z) (hsl _ _ Z) Z hk24 hK)) aS)) ?_)
  refine dPc (.ptr 1000000 0) Z (dPc (.ptr 1000000 1) Z ?_)
  refine jy [(45,_),(47,_)] Z ⟨.inr ⟨7,_,Z,Z,Z⟩,.inr ⟨9,_,Z,Z,Z⟩,trivial⟩ Z (λ sl hsl K hK=>ap Z (eh Z Z Z (hsl _ _ Z) (hsl _ _ Z) Z Z Z (aa.b_at _) (aa.u_at _) hK)) (cY ?_)
  exact nx 1 Z (eX _ (oi h1).symm (gE Z Z))
 ·skip
  intro x_0 depth_1 r h0
  rw [bX] at h0
  refine Bz good (t:=4) [1000000,1000001] Z Z λ w0 F=>mPo (λ v:Bool×aa=>.p (eB v.1)) (λ v=>[(1000000,(aa.cs v.2).map .p),(1000001,[.ptr 1000000 0])]) ?_
  refine nx 5 Z (mO Z (aX Z Z Z Z Z Z Z (aa.g_at _) ?_))
  refine oA h0 Z Z λ hk1 h0=>nx 2 Z (mO Z (eh Z Z Z Z Z Z Z Z (aa.b_at _) (aa.u_at _) ?_))
  refine nx 3 Z ?_
  obtain ⟨o71,h1,hL0,hR0⟩:=dj h0
  refine kEx 0 (λ v72:aa=>o71=.inl v72) (λ v72=>⟨[(2,.ptr 1000001 0)],[(1000000,(aa.cs v72).map .p),(1000001,[.ptr 1000000 0])]⟩) (λ v72 hv=>?_) ?_
  ·have h0:=hL0 _ hv
   refine nx 2 Z (bd h0 λ r66 e67 h0=>?_)
   refine mG (gE (t:=⟨[(2,.ptr 1000001 0)],[(1000000,(aa.cs v72).map .p),(1000001,[.ptr 1000000 0])]⟩) Z Z) (mSq ⟨1,[5],(by2 (.some (cK [] 111000 111000)) .none),(λ _=>[(2,.ptr 1000001 0)]),(by2 ([(1000000,(aa.cs v72).map .p),(1000001,[.ptr 1000000 0])]) ([(1000000,(aa.cs r66.2).map .p),(1000001,[.ptr 1000000 0])]))⟩ Z ?_)
   refine dPc (.ptr 1000000 0) Z (dPc (.ptr 1000000 0) Z ?_)
   refine dPc (.ptr 1000000 0) Z (dPc (.ptr 1000000 258) Z ?_)
   refine dPc (.p (eI v72.fouter)) Z (eQ (λ _=>.p (eB r66.1)) [(87,_),(91,_)] Z ⟨.inr ⟨0,_,Z,Z,Z⟩,.inr ⟨4,_,Z,Z,Z⟩,trivial⟩ Z Z Y (lt1 (λ h=>absurd h (by decide))) (λ sl hsl K hK=>ap Z (bq [1000000] [] 111000 111000 (HO.c e67) Z Z Z (aN (hsl _ _ Z) (aN Z (aN (hsl _ _ Z) cx))) Z ⟨sr,sr,sr,trivial⟩ Z (ar Z (aw _) Z) ⟨⟨_,Z,aE _⟩,trivial⟩ Z Z Z Z Z Z Z Z Tryz.call88 Z (ar Z (aw _) Z) hK)) ?_)
   refine dPc (.p (eB r66.1)) Z (cY ?_)
   exact nx 2 Z (mQo (oi h0) (au _) Z Z Z (ar Z (aw _) (ar Z Z Z)) (sr) ⟨⟨_,Z,aE _⟩,⟨_,Z,⟨sr,trivial⟩⟩,trivial⟩)
  refine lG (λ (q73:aa)=>⟨[(1,.p (eI depth_1)),(2,.ptr 1000001 0)],[(1000000,(aa.cs q73).map .p),(1000001,[.ptr 1000000 0])]⟩) (λ m (q73:aa)=>aG (aA n) depth_1 m q73) Y (aa.mk x_0.fs (x_0.fat+1) x_0.fouter x_0.fbad) h1 (gE Z Z) ?_
  rintro m x33 h1
  replace h1:aG (aA n) depth_1 (m+1) x33=some o71:=h1
  rw [aG] at h1
  refine nx 4 Z (bd h1 λ r34 e35 h1=>?_)
  refine mO Z (bq [1000000] [] 106000 106000 (HO.c e35) Z Z Z Z Z ⟨sr,trivial⟩ Z (ar Z (aw _) Z) ⟨⟨_,Z,aE _⟩,trivial⟩ Z Z Z Z Z Z Z Z Tryz.call53 Z (ar Z (aw _) Z) ?_)
  refine nx 1 Z (fB [27] h1 Z (λ c36 h1=>?_) λ c36 h1=>?_)
  ·refine nx 4 Z (cc' h1 λ hk37 h1=>?_)
   refine mD [(1,.p (eI depth_1)),(2,.ptr 1000001 0)] Z ⟨Z,Z,trivial⟩ Z (dR 3 Z ?_)
   refine dq (.p (eS r34.2.fs)) [30] Z (λ _ e _ q=>ap Z (aX Z Z Z Z Z (e _ _ Z) Z (aa.g_s _) q)) Z (dR 3 Z ?_)
   refine dq (.p (eI r34.2.fat)) [34] Z (λ _ e _ q=>ap Z (aX Z Z Z Z Z (e _ _ Z) Z (aa.g_at _) q)) Z (dq (.p (eS (sub r34.2.fs r34.2.fat (r34.2.fs.length:Int)))) [31,35] Z (λ _ e _ q=>ap Z (dy (a:=r34.2.fs) (l:=r34.2.fat) (h:=(r34.2.fs.length:Int)) Z Z Z Z Z (e _ _ Z) (fK (e _ _ Z)) Z hk37 q)) Z ?_)
   refine dR 1 Z (dE Z ?_)
   refine nx 1 Z ?_
   obtain ⟨o74,h2,hL1,hR1⟩:=dj h1
   refine kX (λ v75:aa=>o74=.inl v75) (λ v75=>⟨[(1,.p (eI depth_1)),(2,.ptr 1000001 0)],[(1000000,(aa.cs v75).map .p),(1000001,[.ptr 1000000 0])]⟩) (λ v75 hv=>?_) ?_
   ·have h1:=hL1 _ hv
    exact nx 1 Z (eX v75 h1 (gE Z Z))
   refine nx 4 Z (oI h2 Z λ hk38 h2=>?_)
   refine nx 3 Z (fD [59,62] h2 Z (λ c39 h2=>?_) λ c39 h2=>?_)
   ·refine nx 6 Z (mO Z (aX Z Z Z Z Z Z Z (aa.g_at _) ?_))
    refine oA h2 Z Z λ hk40 h2=>nx 2 Z (mO Z (eh Z Z Z Z Z Z Z Z (aa.b_at _) (aa.u_at _) ?_))
    exact nx 6 Z (mQo (hR0 _ (hR1 _ (oi h2).symm).symm) (au _) Z Z Z (ar Z (aw _) (ar Z Z Z)) (sr) ⟨⟨_,Z,aE _⟩,⟨_,Z,⟨sr,trivial⟩⟩,trivial⟩)
   refine nx 4 Z (bd h2 λ r41 e42 h2=>?_)
   refine oK (bY (sub r34.2.fs r34.2.fat (r34.2.fs.length:Int)) ([36,36,123]:Bytes) _ e42) Z ⟨sr,sr,trivial⟩ Tryz.call75 Z (nx 2 Z ?_)
   refine fB [70,72] h2 Z (λ c43 h2=>?_) λ c43 h2=>?_
   ·refine nx 5 Z (mO Z (aX Z Z Z Z Z Z Z (aa.g_at _) ?_))
    refine oA h2 Z Z λ hk44 h2=>nx 2 Z (mO Z (eh Z Z Z Z Z Z Z Z (aa.b_at _) (aa.u_at _) ?_))
    exact nx 1 Z (eX _ (oi h2).symm (gE Z Z))
   refine nx 4 Z (bd h2 λ r45 e46 h2=>?_)
   refine oK (bY (sub r34.2.fs r34.2.fat (r34.2.fs.length:Int)) ([36,123]:Bytes) _ e46) Z ⟨sr,sr,trivial⟩ Tryz.call75 Z (nx 2 Z ?_)
   refine fB [80,82] h2 Z (λ c47 h2=>?_) λ c47 h2=>?_
   ·refine nx 5 Z (bd h2 λ r48 e49 h2=>?_)
    refine mO Z (bq [1000000] [] 107000 107000 (HO.c e49) Z Z Z Z Z ⟨sr,sr,trivial⟩ Z (ar Z (aw _) Z) ⟨⟨_,Z,aE _⟩,trivial⟩ Z Z Z Z Z Z Z Z Tryz.call133 Z (ar Z (aw _) Z) ?_)
    refine nx 2 Z (fB [86] h2 Z (λ c50 h2=>?_) λ c50 h2=>?_)
    ·refine nx 5 Z (mG (gE (t:=⟨[(4,.p (eB false))],[(1000000,(aa.cs r48.2).map .p),(1000001,[.ptr 1000000 0])]⟩) Z Z) ?_)
     exact nx 1 Z (mQo (hR0 _ (hR1 _ (oi h2).symm).symm) (au _) Z Z Z (ar Z (aw _) (ar Z Z Z)) (sr) ⟨⟨_,Z,aE _⟩,⟨_,Z,⟨sr,trivial⟩⟩,trivial⟩)
    exact nx 2 Z (eX _ (oi h2).symm (gE Z Z))
   refine nx 2 Z (bd h2 λ o76 h3 h2=>?_)
   refine kN o76 (λ v77=>⟨[(1,.p (eI depth_1)),(2,.ptr 1000001 0)],[(1000000,(aa.cs v77).map .p),(1000001,[.ptr 1000000 0])]⟩) ?_ ?_
   ·refine nx 5 Z (bd h2 λ r55 e56 h2=>?_)
    refine mO Z (bq [1000000] [] 108000 108000 (HO.c e56) Z Z Z Z Z ⟨sr,trivial⟩ Z (ar Z (aw _) Z) ⟨⟨_,Z,aE _⟩,trivial⟩ Z Z Z Z Z Z Z Z Tryz.call53 Z (ar Z (aw _) Z) ?_)
    refine nx 2 Z (fB [49] h2 Z (λ c57 h2=>?_) λ c57 h2=>?_)
    ·exact nx 2 Z (eX _ (oi h2).symm (gE Z Z))
    refine nx 5 Z (bd h2 λ r58 e59 h2=>?_)
    refine mO Z (bq [1000000] [] 109000 109000 (HO.c e59) Z Z Z Z Z ⟨sr,trivial⟩ Z (ar Z (aw _) Z) ⟨⟨_,Z,aE _⟩,trivial⟩ Z Z Z Z Z Z Z Z Tryz.call134 Z (ar Z (aw _) Z) ?_)
    refine nx 2 Z (fB [52] h2 Z (λ c60 h2=>?_) λ c60 h2=>?_)
    ·refine nx 2 Z (bd h2 λ r61 e62 h2=>?_)
     refine mG (gE (t:=⟨[(2,.ptr 1000001 0)],[(1000000,(aa.cs r58.2).map .p),(1000001,[.ptr 1000000 0])]⟩) Z Z) (mSq ⟨1,[5],(by2 (.some (cK [] 110000 110000)) .none),(λ _=>[(2,.ptr 1000001 0)]),(by2 ([(1000000,(aa.cs r58.2).map .p),(1000001,[.ptr 1000000 0])]) ([(1000000,(aa.cs r61.2).map .p),(1000001,[.ptr 1000000 0])]))⟩ Z ?_)
     refine dPc (.ptr 1000000 0) Z (dPc (.ptr 1000000 0) Z ?_)
     refine dPc (.ptr 1000000 0) Z (dPc (.ptr 1000000 1) Z ?_)
     refine dPc (.p (eI r58.2.fat)) Z (eQ (λ _=>.p (eB r61.1)) [(53,_),(57,_)] Z ⟨.inr ⟨0,_,Z,Z,Z⟩,.inr ⟨4,_,Z,Z,Z⟩,trivial⟩ Z Z Y (lt1 (λ h=>absurd h (by decide))) (λ sl hsl K hK=>ap Z (bq [1000000] [] 110000 110000 (HO.c e62) Z Z Z (aN (hsl _ _ Z) (aN Z (aN (hsl _ _ Z) cx))) Z ⟨sr,sr,sr,trivial⟩ Z (ar Z (aw _) Z) ⟨⟨_,Z,aE _⟩,trivial⟩ Z Z Z Z Z Z Z Z Tryz.call88 Z (ar Z (aw _) Z) hK)) ?_)
     refine dPc (.p (eB r61.1)) Z (cY ?_)
     exact nx 2 Z (mQo (hR0 _ (hR1 _ (oi h2).symm).symm) (au _) Z Z Z (ar Z (aw _) (ar Z Z Z)) (sr) ⟨⟨_,Z,aE _⟩,⟨_,Z,⟨sr,trivial⟩⟩,trivial⟩)
    exact nx 2 Z (eX _ (oi h2).symm (gE Z Z))
   refine nx 3 Z (oI h3 Z λ hk51 h3=>?_)
   refine nx 2 Z (fD [39] h3 Z (λ c52 h3=>?_) λ c52 h3=>?_)
   ·refine nx 5 Z (mO Z (aX Z Z Z Z Z Z Z (aa.g_at _) ?_))
    refine oA h3 Z Z λ hk53 h3=>nx 2 Z (mO Z (eh Z Z Z Z Z Z Z Z (aa.b_at _) (aa.u_at _) ?_))
    exact nx 1 Z (eX _ (oi h3).symm (gE Z Z))
   exact nx 2 Z (eX _ (oi h3).symm (gE Z Z))
  exact nx 2 Z (eXi _ (oi h1).symm (gE Z Z))
 ·skip
  refine λ x_0 depth_1 r=>⟨λ h0=>?_⟩
  rw [bP] at h0
  refine Dz good (k:=132) (j:=2) (q:=18) (b:=decide (x_0.fouter < 0)) (s0:=⟨[(1,.p (eI depth_1)),(2,.ptr 2 0)],[(2,[.ptr 1000000 0]),(1000000,(aa.cs x_0).map .p)]⟩) (s1:=⟨[(1,.p (eI depth_1)),(2,.ptr 2 0),(10,.p (eB (decide (x_0.fouter < 0))))],[(2,[.ptr 1000000 0]),(1000000,(aa.cs x_0).map .p)]⟩) (s2:=⟨[(1,.p (eI depth_1)),(2,.ptr 2 0)],[(2,[.ptr 1000000 0]),(1000000,(aa.cs (aa.mk x_0.fs x_0.fat x_0.fat x_0.fbad)).map .p)]⟩) [1000000] Tryz.func89 Z Z Z (λ w0 F=>mR ?_) (λ w0 F=>mR ?_) Z (λ hb=>?_) (λ hb=>?_)
  refine nx 1 Z (mO Z (wH Z Z Z Z Z ?_))
  refine mG (lh (show jH _ _=_ from (by repeat (first | exact i6 _ | apply il Z | apply d4 Z (kA _ _) | apply d4 Z Z)))) (nx 3 Z ?_)
  exact mE (gE Z Z)
  refine nx 4 Z (mO Z (aX Z Z Z Z Z Z Z (aa.g_outer _) ?_))
  exact nx 3 Z (mE (gE Z Z))
  rw [if_neg (of_decide_eq_false hb)] at h0
  refine ⟨⟨[(1,.p (eI depth_1)),(2,.ptr 2 0),(10,.p (eB (decide (x_0.fouter < 0))))],[(1000000,(aa.cs r.2).map .p),(2,[.ptr 1000000 0])]⟩,_,_,Z,(ar Z (aw _) Z),⟨⟨_,Z,aE _⟩,trivial⟩,λ w0 F g a a2 w hs ht=>?_⟩
  exact AD (C:=⟨Tryz.prog,tt,good,_,Z,w0,F⟩) (sl:=[(1,.p (eI depth_1)),(2,.ptr 2 0),(10,.p (eB (decide (x_0.fouter < 0))))]) (ob:=[(2,[.ptr 1000000 0]),(1000000,(aa.cs x_0).map .p)]) [1000000,2] [] 100000 100000 [1,2] Z (ih_token_scanner_source_b_ok x_0 depth_1 _ h0) Z Z Z (ar Z (aw _) Z) ⟨⟨_,Z,aE _⟩,⟨_,Z,⟨sr,trivial⟩⟩,trivial⟩ Z Z Z Z Z Z Z Z Z (ar Z (aw _) Z) hs ht
  rw [if_pos (of_decide_eq_true hb)] at h0
  refine bd h0 λ r1 e1 h0=>?_
  cases h0
  refine ⟨λ w0 F=>mR ?_,⟨Z,Z,Z,Z,Z,Z,Z,Z⟩,Tryz.call132,⟨[(18,.func (.func 132) [.ptr 2 0]),(1,.p (eI depth_1)),(2,.ptr 2 0)],[(1000000,(aa.cs r1.2).map .p),(2,[.ptr 1000000 0])]⟩,⟨[(18,.func (.func 132) [.ptr 2 0]),(1,.p (eI depth_1)),(2,.ptr 2 0)],[(2,[.ptr 1000000 0]),(1000000,(aa.cs (aa.mk r1.2.fs r1.2.fat (-1) r1.2.fbad)).map .p)]⟩,_,_,.ptr 2 0,Z,Z,(ar Z (aw _) Z),⟨⟨_,Z,aE _⟩,trivial⟩,λ w0 F g a a2 w hs ht=>?_,λ w0 F g a w u hs=>?_⟩
  ·refine mG (gE (t:=⟨[(1,.p (eI depth_1)),(2,.ptr 2 0)],[(2,[.ptr 1000000 0]),(1000000,(aa.cs x_0).map .p)]⟩) Z Z) (mSq ⟨1,[7],(λ _=>.none),(λ _=>[(1,.p (eI depth_1)),(2,.ptr 2 0)]),(ob2 ([(2,[.ptr 1000000 0]),(1000000,(aa.cs x_0).map .p)]) (1000000,(aa.cs (aa.mk x_0.fs x_0.fat x_0.fat x_0.fbad)).map .p))⟩ Z ?_)
   refine dPc (.ptr 1000000 0) Z (dPc (.ptr 1000000 0) Z ?_)
   refine dPc (.ptr 1000000 0) Z (dPc (.ptr 1000000 1) Z ?_)
   refine dPc (.p (eI x_0.fat)) Z (dPc (.ptr 1000000 0) Z ?_)
   refine dPc (.ptr 1000000 258) Z (jy [(15,_),(17,_)] Z ⟨.inr ⟨4,_,Z,Z,Z⟩,.inr ⟨6,_,Z,Z,Z⟩,trivial⟩ Z (λ sl hsl K hK=>ap Z (eh Z Z Z (hsl _ _ Z) (hsl _ _ Z) Z Z Z (aa.b_outer _) (aa.u_outer _) hK)) ?_)
   refine cY (nx 2 Z ?_)
   exact mE (gE Z Z)
  ·exact AD (C:=⟨Tryz.prog,tt,good,_,Z,w0,F⟩) (sl:=[(18,.func (.func 132) [.ptr 2 0]),(1,.p (eI depth_1)),(2,.ptr 2 0)]) (ob:=[(2,[.ptr 1000000 0]),(1000000,(aa.cs (aa.mk x_0.fs x_0.fat x_0.fat x_0.fbad)).map .p)]) [1000000,2] [] 100000 100000 [1,2] Z (ih_token_scanner_source_b_ok (aa.mk x_0.fs x_0.fat x_0.fat x_0.fbad) depth_1 _ e1) Z Z Z (ar Z (aw _) Z) ⟨⟨_,Z,aE _⟩,⟨_,Z,⟨sr,trivial⟩⟩,trivial⟩ Z Z Z Z Z Z Z Z Z (ar Z (aw _) Z) hs ht
  exact Fp (C:=⟨Tryz.prog,tt,good,_,Z,w0,F⟩) (sl:=[(18,.func (.func 132) [.ptr 2 0]),(1,.p (eI depth_1)),(2,.ptr 2 0)]) (ob:=[(1000000,(aa.cs r1.2).map .p),(2,[.ptr 1000000 0])]) [2,1000000] [] 100000 100000 2 (kl r1.2) Z Z Z (ar Z Z (ar Z (aw _) Z)) ⟨⟨_,Z,⟨sr,trivial⟩⟩,⟨_,Z,aE _⟩,trivial⟩ Z Z Z Z Z Z Z Z Z (ar Z Z (ar Z (aw _) Z)) hs
 ·skip
  refine λ x_0 depth_1=>hO good [] [1000000] Tryz.func133 Z Z λ r h0 _ w0 F=>?_
  rw [aA] at h0
  refine nx 10 Z (fD [9] h0 Z (λ c1 h0=>?_) λ c1 h0=>?_)
  ·refine nx 7 Z (mO Z (aX Z Z Z Z Z Z Z (aa.g_at _) ?_))
   refine bd h0 λ r2 e3 h0=>mO Z (bq [1000000] [] 101000 101000 (HO.c e3) Z Z Z Z Z ⟨sr,sr,sr,trivial⟩ Z (ar Z (aw _) Z) ⟨⟨_,Z,aE _⟩,trivial⟩ Z Z Z Z Z Z Z Z Tryz.call88 Z (ar Z (aw _) Z) ?_)
   exact nx 3 Z (mQo (oi h0) (au _) Z Z Z (ar Z (aw _) Z) (sr) ⟨⟨_,Z,aE _⟩,trivial⟩)
  refine nx 7 Z (mO Z (aX Z Z Z Z Z Z Z (aa.g_at _) ?_))
  refine oA h0 Z Z λ hk4 h0=>nx 2 Z (mO Z (eh Z Z Z Z Z Z Z Z (aa.b_at _) (aa.u_at _) ?_))
  refine nx 7 Z ?_
  obtain ⟨o73,h1,hL0,hR0⟩:=dj h0
  refine kEx 0 (λ v74:aa=>o73=.inl v74) (λ v74=>⟨[],[(1000000,(aa.cs v74).map .p)]⟩) (λ v74 hv=>?_) ?_
  ·have h0:=hL0 _ hv
   exact nx 6 Z (mQo (oi h0) (au _) Z Z Z (ar Z (aw _) Z) (sr) ⟨⟨_,Z,aE _⟩,trivial⟩)
  refine lG (λ (q75:Int×aa)=>⟨[(0,.ptr 1000000 0),(1,.p (eI depth_1)),(5,.p (eI q75.1))],[(1000000,(aa.cs q75.2).map .p)]⟩) (λ m (q75:Int×aa)=>aD n (aM n) depth_1 m q75.1 q75.2) Y (1,(aa.mk x_0.fs (x_0.fat+2) x_0.fouter x_0.fbad)) h1 (gE Z Z) ?_
  rintro m ⟨open35,x36⟩ h1
  replace h1:aD n (aM n) depth_1 (m+1) open35 x36=some o73:=h1
  rw [aD] at h1
  refine nx 6 Z (fD [24] h1 Z (λ c37 h1=>?_) λ c37 h1=>?_)
  ·refine nx 2 Z ?_
   obtain ⟨o76,h2,hL1,hR1⟩:=dj h1
   refine kX (λ v77:Int×aa=>o76=.inl v77) (λ v77=>⟨[(0,.ptr 1000000 0),(1,.p (eI depth_1)),(5,.p (eI v77.1))],[(1000000,(aa.cs v77.2).map .p)]⟩) (λ v77 hv=>?_) ?_
   ·have h1:=hL1 _ hv
    exact nx 1 Z (eX (v77.1,v77.2) h1 (gE Z Z))
   refine nx 4 Z (bd h2 λ r38 e39 h2=>?_)
   refine mO Z (bq [1000000] [] 108000 108000 (HO.c e39) Z Z Z Z Z ⟨sr,trivial⟩ Z (ar Z (aw _) Z) ⟨⟨_,Z,aE _⟩,trivial⟩ Z Z Z Z Z Z Z Z Tryz.call52 Z (ar Z (aw _) Z) ?_)
   refine nx 5 Z (bd h2 λ r40 e41 h2=>?_)
   refine mO Z (bq [1000000] [] 109000 109000 (HO.c e41) Z Z Z Z Z ⟨sr,trivial⟩ Z (ar Z (aw _) Z) ⟨⟨_,Z,aE _⟩,trivial⟩ Z Z Z Z Z Z Z Z Tryz.call53 Z (ar Z (aw _) Z) ?_)
   refine nx 2 Z (fB [29] h2 Z (λ c42 h2=>?_) λ c42 h2=>?_)
   ·refine nx 7 Z (mO Z (aX Z Z Z Z Z Z Z (aa.g_outer _) ?_))
    refine bd h2 λ r43 e44 h2=>mO Z (bq [1000000] [] 110000 110000 (HO.c e44) Z Z Z Z Z ⟨sr,sr,sr,trivial⟩ Z (ar Z (aw _) Z) ⟨⟨_,Z,aE _⟩,trivial⟩ Z Z Z Z Z Z Z Z Tryz.call88 Z (ar Z (aw _) Z) ?_)
    exact nx 3 Z (mQo (hR0 _ (hR1 _ (oi h2).symm).symm) (au _) Z Z Z (ar Z (aw _) Z) (sr) ⟨⟨_,Z,aE _⟩,trivial⟩)
   refine nx 6 Z (bd h2 λ r45 e46 h2=>?_)
   refine mO Z (bq [1000000] [] 111000 111000 (HO.c e46) Z Z Z Z Z ⟨sr,trivial⟩ Z (ar Z (aw _) Z) ⟨⟨_,Z,aE _⟩,trivial⟩ Z Z Z Z Z Z Z Z Tryz.call54 Z (ar Z (aw _) Z) ?_)
   refine nx 2 Z (fB [38] h2 Z (λ c47 h2=>?_) λ c47 h2=>?_)
   ·refine nx 7 Z (mO Z (aX Z Z Z Z Z Z Z (aa.g_at _) ?_))
    refine bd h2 λ r48 e49 h2=>mO Z (bq [1000000] [] 112000 112000 (HO.c e49) Z Z Z Z Z ⟨sr,sr,sr,trivial⟩ Z (ar Z (aw _) Z) ⟨⟨_,Z,aE _⟩,trivial⟩ Z Z Z Z Z Z Z Z Tryz.call88 Z (ar Z (aw _) Z) ?_)
    exact nx 3 Z (mQo (hR0 _ (hR1 _ (oi h2).symm).symm) (au _) Z Z Z (ar Z (aw _) Z) (sr) ⟨⟨_,Z,aE _⟩,trivial⟩)
   refine nx 6 Z (oA h2 Z Z λ hk50 h2=>?_)
   refine bd h2 λ r51 e52 h2=>mO Z (bq [1000000] [] 113000 113000 (HO.c e52) Z Z Z Z Z ⟨sr,sr,trivial⟩ Z (ar Z (aw _) Z) ⟨⟨_,Z,aE _⟩,trivial⟩ Z Z Z Z Z Z Z Z Tryz.call55 Z (ar Z (aw _) Z) ?_)
   refine nx 3 Z (mO Z (gJ Z Z Z Z Z ?_))
   refine mG (lh (show jH _ _=_ from (by repeat (first | exact i6 _ | apply il Z | apply d4 Z (kA _ _) | apply d4 Z Z)))) (nx 9 Z ?_)
   refine fB [53] h2 Z (λ c53 h2=>?_) λ c53 h2=>?_
   ·exact nx 6 Z (mQo (hR0 _ (hR1 _ (oi h2).symm).symm) (au _) Z Z Z (ar Z (aw _) Z) (sr) ⟨⟨_,Z,aE _⟩,trivial⟩)
   refine nx 3 Z (bd h2 λ o78 h3 h2=>?_)
   refine kN o78 (λ v79=>⟨[(0,.ptr 1000000 0),(1,.p (eI depth_1)),(5,.p (eI v79)),(6,.ptr 6 0)],[(6,(ad.cs r51.1).map .p),(1000000,(aa.cs r51.2.2).map .p)]⟩) ?_ ?_
   ·refine nx 2 Z (bd h2 λ o80 h3 h2=>?_)
    refine kN o80 (λ v81=>⟨[(0,.ptr 1000000 0),(1,.p (eI depth_1)),(5,.p (eI o78)),(71,.p (eB v81))],[(1000000,(aa.cs r51.2.2).map .p)]⟩) ?_ ?_
    ·refine nx 1 Z (fB [71] h2 Z (λ c61 h2=>?_) λ c61 h2=>?_)
     ·refine nx 3 Z (oA h2 Z Z λ hk62 h2=>?_)
      exact nx 2 Z (eX _ (oi h2).symm (gE Z Z))
     exact nx 2 Z (eX _ (oi h2).symm (gE Z Z))
    refine nx 5 Z (fD [66,67] h3 Z (λ c59 h3=>?_) λ c59 h3=>?_)
    ·refine nx 2 Z (oS Z Z ?_)
     exact nx 2 Z (eX _ (oi h3).symm (gE Z Z))
    exact nx 5 Z (eX _ (oi h3).symm (gE Z Z))
   refine nx 1 Z (bd h3 λ o82 h4 h3=>?_)
   refine kN o82 (λ v83=>⟨[(0,.ptr 1000000 0),(1,.p (eI depth_1)),(5,.p (eI open35)),(6,.ptr 6 0),(61,.p (eB v83))],[(6,(ad.cs r51.1).map .p),(1000000,(aa.cs r51.2.2).map .p)]⟩) ?_ ?_
   ·refine nx 1 Z (fB [61] h3 Z (λ c56 h3=>?_) λ c56 h3=>?_)
    ·refine nx 3 Z (oA h3 Z Z λ hk57 h3=>?_)
     exact nx 2 Z (eX _ (oi h3).symm (gE Z Z))
    exact nx 2 Z (eX _ (oi h3).symm (gE Z Z))
   refine nx 5 Z (fD [56,57] h4 Z (λ c54 h4=>?_) λ c54 h4=>?_)
   ·refine nx 2 Z (oS Z Z ?_)
    exact nx 2 Z (eX _ (oi h4).symm (gE Z Z))
   exact nx 5 Z (eX _ (oi h4).symm (gE Z Z))
  exact nx 2 Z (eXi _ (oi h1).symm (gE Z Z))
instance ua (n:Nat):∀ (x_0:aa) (depth_1:Int) (r:ad×Bool×aa),HO (aM n x_0 depth_1=some r) Tryz.prog 55 [.ptr 1000000 0,.p (eI depth_1)] [(1000000,(aa.cs x_0).map .p)] (.tuple [.p (.agg (ad.cs r.1)),.p (eB r.2.1)]) ([(1000000,(aa.cs r.2.2).map .p)]):=(kZ n).1
def dA (n:Nat):Nat→(List ad)→aa→Option (Unit⊕((List ad)×ax))
 | 0,_,_=>none
 | m+1,out25,x26 =>
 (cI n x26).bind λ r27 =>
 (
   (bM r27).bind λ r29 =>
   if r29.1=true then
    (cu n r29.2).bind λ r32 =>
    some (!r32.1,r32.2)
   else
    some (false,r29.2)
  : Option (Bool×aa)).bind λ q49 =>
 if q49.1=true then
  some (.inr ([],(ax.mk 2 q49.2.fat ([]:Bytes))))
 else
  if (out25.length:Int)=16384 then
   some (.inr ([],(ax.mk 14 q49.2.fat ([]:Bytes))))
  else
   (bM q49.2).bind λ r38 =>
   if (!r38.1)=true then
    ck ((out25.length+([(ad.mk 6 ([]:Bytes) r38.2.fat)]).length)*32≤140737488355328) <|
    some (.inr (out25++([(ad.mk 6 ([]:Bytes) r38.2.fat)]),(ax.mk 0 0 ([]:Bytes))))
   else
    (aM n r38.2 0).bind λ r42 =>
    if (!r42.2.1)=true then
     some (.inr ([],r42.2.2.fbad))
    else
     ck ((out25.length+[r42.1].length)*32≤140737488355328) <|
     dA n m (out25++[r42.1]) r42.2.2
def gm (n:Nat)(s_0:Bytes):Option ((List ad)×ax) :=
 if 65536 < (s_0.length:Int) then
  some ([],(ax.mk 3 0 ([]:Bytes)))
 else
  (iZ s_0).bind λ r2 =>
  jn (dA n n [] r2) λ q48 =>
  none
instance Ci (n:Nat) (s_0:Bytes):∀ (r:(List ad)×ax),HP (gm n s_0=some r) Tryz.prog 25 [eS s_0] (.tuple [.p (eL aU r.1),.p (.agg (ax.cs r.2))]):=by
 refine hP good Tryz.func25 Z Z λ r h0 _ w0=>?_
 unfold gm at h0
 refine nx 9 Z (oLs Z ?_)
 refine nx 2 Z (fD [10] h0 Z (λ c1 h0=>?_) λ c1 h0=>?_)
 ·exact nx 8 Z (mQ (oi h0) Z (bz ⟨fQ _,sr,trivial⟩))
 refine nx 5 Z (bd h0 λ r2 e3 h0=>?_)
 refine mO Z (bq [] [] 101000 101001 (nr s_0 _ e3) Z Z Z Z Z ⟨sr,trivial⟩ Z Z trivial Z Z Z Z Z Z Z Z Tryz.call51 Z (ar Z (aw _) Z) ?_)
 refine nx 7 Z ?_
 obtain ⟨o50,h1,hL0,hR0⟩:=dj h0
 refine kEx 0 (λ v51:Unit=>o50=.inl v51) (λ v51=>⟨[],[]⟩) (λ v51 hv=>?_) ?_
 ·have h0:=hL0 _ hv
  refine nx 1 Z ?_
  cases h0
 refine lG (λ (q52:(List ad)×aa)=>⟨[(3,.ptr 3 0),(4,.ptr 101000 0),(5,.vec 62 3 0 (q52.1.map aU))],[(3,kr),(101000,(aa.cs q52.2).map .p)]⟩) (λ m (q52:(List ad)×aa)=>dA n m q52.1 q52.2) Y ([],r2) h1 (dZ (jK ⟨er Z,er Z,⟨_,Z,AV.sub_nilvec _ _ _⟩,trivial⟩ ⟨⟨_,Z,⟨sr,sr,sr,trivial⟩⟩,⟨_,Z,aE _⟩,trivial⟩)) ?_
 rintro m ⟨out25,x26⟩ h1
 replace h1:dA n (m+1) out25 x26=some o50:=h1
 rw [dA] at h1
 refine nx 4 Z (bd h1 λ r27 e28 h1=>?_)
 refine mO Z (bq [101000] [] 107000 107000 (HO.c e28) Z Z Z Z Z ⟨sr,trivial⟩ Z (ar Z (aw _) Z) ⟨⟨_,Z,aE _⟩,trivial⟩ Z Z Z Z Z Z Z Z Tryz.call52 Z (ar Z (aw _) Z) ?_)
 refine nx 3 Z (bd h1 λ o53 h2 h1=>?_)
 refine kN o53 (λ v54=>⟨[(3,.ptr 3 0),(4,.ptr 101000 0),(5,.vec 62 3 0 (out25.map aU)),(22,.p (eB v54.1))],[(3,kr),(101000,(aa.cs v54.2).map .p)]⟩) ?_ ?_
 ·refine nx 1 Z (fB [22] h1 Z (λ c36 h1=>?_) λ c36 h1=>?_)
  ·refine nx 2 Z (mG (gE (t:=⟨[(3,.ptr 3 0),(4,.ptr 101000 0)],[(3,kr),(101000,(aa.cs o53.2).map .p)]⟩) Z Z) ?_)
   refine mSq ⟨1,[6],(λ _=>.none),(λ _=>[(3,.ptr 3 0),(4,.ptr 101000 0)]),(ob2 ([(3,kr),(101000,(aa.cs o53.2).map .p)]) (3,[.p (eI 2),.p (eI o53.2.fat),.p (eS ([]:Bytes))]))⟩ Z (dPc (.ptr 101000 0) Z ?_)
   refine dPc (.ptr 101000 0) Z (dPc (.ptr 101000 1) Z ?_)
   refine dPc (.p (eI o53.2.fat)) Z (dPc (.p (.agg [eI 2,eI o53.2.fat,eS ([]:Bytes)])) Z ?_)
   refine dPc (.p (.val (.slice none 0 0))) Z (dS Z ?_)
   refine cY (nx 2 Z ?_)
   exact mQ (hR0 _ (oi h1).symm) Z (bz ⟨fQ _,sr,trivial⟩)
  refine nx 6 Z (oLl (f:=aU) Z Z ?_)
  refine nx 2 Z (fD [30] h1 Z (λ c37 h1=>?_) λ c37 h1=>?_)
  ·refine nx 2 Z (mG (gE (t:=⟨[(3,.ptr 3 0),(4,.ptr 101000 0)],[(3,kr),(101000,(aa.cs o53.2).map .p)]⟩) Z Z) ?_)
   refine mSq ⟨1,[6],(λ _=>.none),(λ _=>[(3,.ptr 3 0),(4,.ptr 101000 0)]),(ob2 ([(3,kr),(101000,(aa.cs o53.2).map .p)]) (3,[.p (eI 14),.p (eI o53.2.fat),.p (eS ([]:Bytes))]))⟩ Z (dPc (.ptr 101000 0) Z ?_)
   refine dPc (.ptr 101000 0) Z (dPc (.ptr 101000 1) Z ?_)
   refine dPc (.p (eI o53.2.fat)) Z (dPc (.p (.agg [eI 14,eI o53.2.fat,eS ([]:Bytes)])) Z ?_)
   refine dPc (.p (.val (.slice none 0 0))) Z (dS Z ?_)
   refine cY (nx 2 Z ?_)
   exact mQ (hR0 _ (oi h1).symm) Z (bz ⟨fQ _,sr,trivial⟩)
  refine nx 6 Z (bd h1 λ r38 e39 h1=>?_)
  refine mO Z (bq [101000] [] 110000 110000 (HO.c e39) Z Z Z Z Z ⟨sr,trivial⟩ Z (ar Z (aw _) Z) ⟨⟨_,Z,aE _⟩,trivial⟩ Z Z Z Z Z Z Z Z Tryz.call53 Z (ar Z (aw _) Z) ?_)
  refine nx 2 Z (fB [38] h1 Z (λ c40 h1=>?_) λ c40 h1=>?_)
  ·refine nx 7 Z (mO Z (aX Z Z Z Z Z Z Z (aa.g_at _) ?_))
   refine nx 1 Z (mO Z (bO aU [(ad.mk 6 ([]:Bytes) r38.2.fat)] Z Z Z Z Z Z Z Z Z Z Z Z Z (by first | rfl | (simp only [List.map_cons,List.map_nil,ad.agg_eq]; done) | (simp only [List.map_cons,List.map_nil,ad.agg_eq]; rfl)) ?_))
   refine cc' h1 λ hk41 h1=>mO Z (gv aU out25 ([(ad.mk 6 ([]:Bytes) r38.2.fat)]) Z Z Z Z Z Z Z Z Z Z Z Z Z (λ x=>congrArg List.length (ad.cells_eq x)) Z Z Z Z hk41 ?_)
   refine mG (vz (show jH _ _=_ from (by repeat (first | exact i6 _ | apply il Z | apply d4 Z (kA _ _) | apply d4 Z Z)))) (nx 5 Z ?_)
   exact mQ (hR0 _ (oi h1).symm) Z (bz ⟨AV.sub_vec _ _ _ _,sr,trivial⟩)
  refine nx 5 Z (bd h1 λ r42 e43 h1=>?_)
  refine mO Z (bq [101000] [] 111000 111000 (HO.c e43) Z Z Z Z Z ⟨sr,sr,trivial⟩ Z (ar Z (aw _) Z) ⟨⟨_,Z,aE _⟩,trivial⟩ Z Z Z Z Z Z Z Z Tryz.call55 Z (ar Z (aw _) Z) ?_)
  refine nx 3 Z (mO Z (gJ Z Z Z Z Z ?_))
  refine mG (lh (show jH _ _=_ from (by repeat (first | exact i6 _ | apply il Z | apply d4 Z (kA _ _) | apply d4 Z Z)))) (nx 9 Z ?_)
  refine fB [54] h1 Z (λ c44 h1=>?_) λ c44 h1=>?_
  ·refine nx 2 Z (mG (gE (t:=⟨[(3,.ptr 3 0),(4,.ptr 101000 0)],[(3,kr),(101000,(aa.cs r42.2.2).map .p)]⟩) Z Z) ?_)
   refine mSq ⟨1,[5],(λ _=>.none),(λ _=>[(3,.ptr 3 0),(4,.ptr 101000 0)]),(ob2 ([(3,kr),(101000,(aa.cs r42.2.2).map .p)]) (3,((ax.cs r42.2.2.fbad).map .p)))⟩ Z (dPc (.ptr 101000 0) Z ?_)
   refine dPc (.ptr 101000 0) Z (dPc (.ptr 101000 259) Z ?_)
   refine aR (λ _=>.p (.agg (ax.cs r42.2.2.fbad))) Z Z Z (gw Z Y) (lt1 Z) (az Z (aB [(57,_)] ⟨.inr ⟨2,_,Z,Z,Z⟩,trivial⟩ (λ sl hsl K hK=>ap Z (yB Z Z Z Z Z (hsl _ _ Z) Z (aa.l_bad _) (aa.g_bad _) hK)) aS)) (dPc (.p (.val (.slice none 0 0))) Z ?_)
   refine dS Z (cY ?_)
   exact nx 2 Z (mQ (hR0 _ (oi h1).symm) Z (bz ⟨fQ _,sr,trivial⟩))
  refine nx 5 Z (mO Z (bO aU [r42.1] Z Z Z Z Z Z Z Z Z Z Z Z Z (by first | rfl | (simp only [List.map_cons,List.map_nil,ad.agg_eq]; done) | (simp only [List.map_cons,List.map_nil,ad.agg_eq]; rfl)) ?_))
  refine cc' h1 λ hk45 h1=>mO Z (gv aU out25 [r42.1] Z Z Z Z Z Z Z Z Z Z Z Z Z (λ x=>congrArg List.length (ad.cells_eq x)) Z Z Z Z hk45 ?_)
  refine mG (vz (show jH _ _=_ from (by repeat (first | exact i6 _ | apply il Z | apply d4 Z (kA _ _) | apply d4 Z Z)))) (nx 2 Z ?_)
  exact eX (out25++[r42.1],r42.2.2) h1 (gE Z Z)
 refine nx 2 Z (bd h2 λ r29 e30 h2=>?_)
 refine mO Z (bq [101000] [] 108000 108000 (HO.c e30) Z Z Z Z Z ⟨sr,trivial⟩ Z (ar Z (aw _) Z) ⟨⟨_,Z,aE _⟩,trivial⟩ Z Z Z Z Z Z Z Z Tryz.call53 Z (ar Z (aw _) Z) ?_)
 refine nx 1 Z (fB [17,18] h2 Z (λ c31 h2=>?_) λ c31 h2=>?_)
 ·refine nx 1 Z (bd h2 λ r32 e33 h2=>?_)
  refine mO Z (bq [101000] [] 109000 109000 (HO.c e33) Z Z Z Z Z ⟨sr,trivial⟩ Z (ar Z (aw _) Z) ⟨⟨_,Z,aE _⟩,trivial⟩ Z Z Z Z Z Z Z Z Tryz.call54 Z (ar Z (aw _) Z) ?_)
  exact nx 3 Z (eX _ (oi h2).symm (gE Z Z))
 exact nx 5 Z (eX _ (oi h2).symm (gE Z Z))
def d8 (a_0:ad)(b_1:ad):Option Bool :=
 if a_0.fKind=1 then
  (
    if b_1.fKind=1 then
     some true
    else
     some (decide (b_1.fKind=2))
   : Option Bool).bind λ t3 =>
  some t3
 else
  if a_0.fKind=2 then
   some (decide (b_1.fKind=2))
  else
   (
     if a_0.fKind=4 then
      some (!decide (b_1.fKind=4))
     else
      some true
    : Option Bool).bind λ t6 =>
   if t6=true then
    some false
   else
    (strings_HasPrefix b_1.fText ([61]:Bytes)).bind λ r8 =>
    if r8=true then
     (
       if (a_0.fText.length:Int)=1 then
        (strings_Contains ([61,33,60,62]:Bytes) a_0.fText).bind λ r12 =>
        some r12
       else
        some false
      : Option Bool).bind λ t14 =>
     some t14
    else
     (
       if a_0.fText=([61]:Bytes) then
        (strings_HasPrefix b_1.fText ([62]:Bytes)).bind λ r16 =>
        some r16
       else
        some false
      : Option Bool).bind λ t18 =>
     some t18
instance BV (a_0:ad) (b_1:ad):∀ (r:Bool),HP (d8 a_0 b_1=some r) Tryz.prog 56 [.agg (ad.cs a_0),.agg (ad.cs b_1)] (.p (eB r)):=by
 refine hP good Tryz.func56 Z Z λ r h0 _ w0=>?_
 unfold d8 at h0
 refine nx 15 Z (fD [5,8] h0 Z (λ c1 h0=>?_) λ c1 h0=>?_)
 ·refine nx 2 Z (bd h0 λ o23 h1 h0=>?_)
  refine kN o23 (λ v24=>⟨[(4,.p (eB v24))],[]⟩) ?_ ?_
  ·exact nx 2 Z (mQ (oi h0) Z (sr))
  refine nx 5 Z (fD [11,12] h1 Z (λ c2 h1=>?_) λ c2 h1=>?_)
  ·exact nx 6 Z (eX _ (oi h1).symm (gE Z Z))
  exact nx 6 Z (eX _ (oi h1).symm (gE Z Z))
 refine nx 8 Z (fD [17,20] h0 Z (λ c4 h0=>?_) λ c4 h0=>?_)
 ·exact nx 9 Z (mQ (oi h0) Z (sr))
 refine nx 2 Z (bd h0 λ o25 h1 h0=>?_)
 refine kN o25 (λ v26=>⟨[(2,.ptr 2 0),(3,.ptr 3 0),(24,.p (eB v26))],[(2,(ad.cs a_0).map .p),(3,(ad.cs b_1).map .p)]⟩) ?_ ?_
 ·refine nx 1 Z (fB [24] h0 Z (λ c7 h0=>?_) λ c7 h0=>?_)
  ·exact nx 6 Z (mQ (oi h0) Z (sr))
  refine nx 5 Z (bd h0 λ r8 e9 h0=>?_)
  refine oK (bY b_1.fText ([61]:Bytes) _ e9) Z ⟨sr,sr,trivial⟩ Tryz.call75 Z (nx 2 Z ?_)
  refine fB [33,36] h0 Z (λ c10 h0=>?_) λ c10 h0=>?_
  ·refine nx 2 Z (bd h0 λ o27 h1 h0=>?_)
   refine kN o27 (λ v28=>⟨[(4,.p (eB v28))],[]⟩) ?_ ?_
   ·exact nx 2 Z (mQ (oi h0) Z (sr))
   refine nx 3 Z (oLs Z ?_)
   refine nx 2 Z (fD [40,41] h1 Z (λ c11 h1=>?_) λ c11 h1=>?_)
   ·refine nx 2 Z (bd h1 λ r12 e13 h1=>?_)
    refine oK (nc ([61,33,60,62]:Bytes) a_0.fText _ e13) Z ⟨sr,sr,trivial⟩ Tryz.call90 Z (nx 3 Z ?_)
    exact eX _ (oi h1).symm (gE Z Z)
   exact nx 6 Z (eX _ (oi h1).symm (gE Z Z))
  refine nx 3 Z (bd h0 λ o29 h1 h0=>?_)
  refine kN o29 (λ v30=>⟨[(4,.p (eB v30))],[]⟩) ?_ ?_
  ·exact nx 2 Z (mQ (oi h0) Z (sr))
  refine nx 3 Z (oS Z Z ?_)
  refine nx 1 Z (fD [48,49] h1 Z (λ c15 h1=>?_) λ c15 h1=>?_)
  ·refine nx 2 Z (bd h1 λ r16 e17 h1=>?_)
   refine oK (bY b_1.fText ([62]:Bytes) _ e17) Z ⟨sr,sr,trivial⟩ Tryz.call75 Z (nx 3 Z ?_)
   exact eX _ (oi h1).symm (gE Z Z)
  exact nx 6 Z (eX _ (oi h1).symm (gE Z Z))
 refine nx 5 Z (fN [27,28] h1 Z (λ c5 h1=>?_) λ c5 h1=>?_)
 ·exact nx 6 Z (eX _ (oi h1).symm (gE Z Z))
 exact nx 6 Z (eX _ (oi h1).symm (gE Z Z))
def dd (l_0:List ad):Nat→Int→(List UInt8)→Option (List UInt8)
 | 0,_,_=>none
 | m+1,t24,f25 =>
 if t24 < (l_0.length:Int) then
  (
    ck ((0:Int)≤t24∧t24 < (l_0.length:Int)) <|
    (
      (
        if 0 < t24 then
         ck (inR (t24 - 1)) <|
         ck ((0:Int)≤t24 - 1∧t24 - 1 < (l_0.length:Int)) <|
         (d8 (lat l_0 (t24 - 1)) (lat l_0 t24)).bind λ r31 =>
         some r31
        else
         some false
       : Option Bool).bind λ t33 =>
      if t33=true then
       (dp (aJ.mk f25) 32).bind λ r35 =>
       some r35.2.fbuf
      else
       some f25
     : Option (List UInt8)).bind λ f37 =>
    if (lat l_0 t24).fKind=3 then
     ck (([34]:Bytes).length+((lat l_0 t24).fText).length≤9223372036854775807) <|
     ck ((([34]:Bytes)++((lat l_0 t24).fText)).length+([34]:Bytes).length≤9223372036854775807) <|
     (bJ (aJ.mk f37) ((([34]:Bytes)++((lat l_0 t24).fText))++([34]:Bytes))).bind λ r41 =>
     some r41.2.2.fbuf
    else
     (bJ (aJ.mk f37) ((lat l_0 t24).fText)).bind λ r43 =>
     some r43.2.2.fbuf
   : Option (List UInt8)).bind λ f45 =>
  ck (inR (t24+1)) <|
  dd l_0 m (t24+1) f45
 else
  some f25
def iE (n:Nat)(l_0:List ad):Option Bytes :=
 (dd l_0 n 0 []).bind λ f49 =>
 (d3 (aJ.mk f49)).bind λ r50 =>
 some r50.1
instance zE (n:Nat) (l_0:List ad):∀ (r:Bytes),HP (iE n l_0=some r) Tryz.prog 26 [eL aU l_0] (.p (eS r)):=by
 refine hP good Tryz.func26 Z Z λ r h0 _ w0=>?_
 unfold iE at h0
 refine nx 6 Z (mO Z (tg Z Z Z Z Z Z Z ?_))
 refine nx 5 Z (oLl (f:=aU) Z Z ?_)
 refine nx 3 Z (bd h0 λ o56 h1 h0=>?_)
 refine kE 0 o56 (λ v57=>⟨[(3,.ptr 3 0)],[(3,[.bptr 93 2 3,.vec 103000 1 (5+1) (v57.map eU)])]⟩) ?_ ?_
 ·refine nx 3 Z (bd h0 λ r50 e51 h0=>?_)
  refine mO Z (cVq [3] [103000] 107000 107000 (gW (aJ.mk o56) _ e51) Tryz.call59 Z ?_)
  exact nx 3 Z (mQ (oi h0) Z (sr))
 refine lG (λ (q58:Int×(List UInt8))=>⟨[(0,.p (eL aU l_0)),(3,.ptr 3 0),(6,.p (eL aU l_0)),(7,.p (eI (l_0.length:Int))),(8,.p (eI q58.1))],[(3,[.bptr 93 2 3,.vec 103000 1 (5+1) (q58.2.map eU)])]⟩) (λ m (q58:Int×(List UInt8))=>dd l_0 m q58.1 q58.2) Y (0,[]) h1 (dZ (jK ⟨er Z,er Z,er Z,er Z,er Z,trivial⟩ ⟨⟨_,Z,⟨sr,AV.sub_nilvec _ _ _,trivial⟩⟩,trivial⟩)) ?_
 rintro m ⟨t24,f25⟩ h1
 replace h1:dd l_0 (m+1) t24 f25=some o56:=h1
 rw [dd] at h1
 refine nx 5 Z (fD [9] h1 Z (λ c26 h1=>?_) λ c26 h1=>?_)
 ·refine nx 3 Z (bd h1 λ o59 h2 h1=>?_)
  refine kN o59 (λ v60=>⟨[(0,.p (eL aU l_0)),(3,.ptr 3 0),(6,.p (eL aU l_0)),(7,.p (eI (l_0.length:Int))),(8,.p (eI t24))],[(3,[.bptr 93 2 3,.vec 106000 1 (5+1) (v60.map eU)])]⟩) ?_ ?_
  ·refine nx 2 Z (oA h1 Z Z λ hk46 h1=>?_)
   exact nx 2 Z (eX (t24+1,o59) h1 (aY (bK 106000 103000 Z Z Z Z Z) (gE Z Z)))
  refine nx 4 Z (oE h2 ad.cells_eq Z Z Y λ hk27 h2=>?_)
  refine nx 6 Z (bd h2 λ o61 h3 h2=>?_)
  refine kN o61 (λ v62=>⟨[(0,.p (eL aU l_0)),(3,.ptr 3 0),(5,.ptr 5 0),(6,.p (eL aU l_0)),(7,.p (eI (l_0.length:Int))),(8,.p (eI t24))],[(3,[.bptr 93 2 3,.vec 104000 1 (5+1) (v62.map eU)]),(5,(ad.cs (lat l_0 t24)).map .p)]⟩) ?_ ?_
  ·refine nx 7 Z (fD [27] h2 Z (λ c38 h2=>?_) λ c38 h2=>?_)
   ·refine nx 4 Z (oC h2 Z λ hk39 h2=>?_)
    refine oC h2 Z λ hk40 h2=>bd h2 λ r41 e42 h2=>mO Z (cVq [3] [104000] 105000 105001 (gb (aJ.mk o61) ((([34]:Bytes)++((lat l_0 t24).fText))++([34]:Bytes)) _ e42) Tryz.call58 Z ?_)
    exact nx 1 Z (eX _ (oi h2).symm (aY (bK 105000 106000 Z Z Z Z Z) (gE Z Z)))
   refine nx 4 Z (bd h2 λ r43 e44 h2=>?_)
   refine mO Z (cVq [3] [104000] 106000 106001 (gb (aJ.mk o61) ((lat l_0 t24).fText) _ e44) Tryz.call58 Z ?_)
   exact nx 1 Z (eX _ (oi h2).symm (gE Z Z))
  refine nx 1 Z (bd h3 λ o63 h4 h3=>?_)
  refine kN o63 (λ v64=>⟨[(0,.p (eL aU l_0)),(3,.ptr 3 0),(5,.ptr 5 0),(6,.p (eL aU l_0)),(7,.p (eI (l_0.length:Int))),(8,.p (eI t24)),(23,.p (eB v64))],[(3,[.bptr 93 2 3,.vec 103000 1 (5+1) (f25.map eU)]),(5,(ad.cs (lat l_0 t24)).map .p)]⟩) ?_ ?_
  ·refine nx 1 Z (fB [23] h3 Z (λ c34 h3=>?_) λ c34 h3=>?_)
   ·refine nx 2 Z (bd h3 λ r35 e36 h3=>?_)
    refine mO Z (cVq [3] [103000] 104000 104001 (jD (aJ.mk f25) 32 _ e36) Tryz.call57 Z ?_)
    exact nx 1 Z (eX _ (oi h3).symm (gE Z Z))
   exact nx 2 Z (eX _ (oi h3).symm (aY (bK 103000 104000 Z Z Z Z Z) (gE Z Z)))
  refine fD (p:=0 < t24) [] h4 Z (λ c28 h4=>?_) λ c28 h4=>?_
  ·refine cc' h4 λ hk29 h4=>cc' h4 λ hk30 h4=>bd h4 λ r31 e32 h4=>mD [(0,.p (eL aU l_0)),(3,.ptr 3 0),(4,.p (eI t24)),(5,.ptr 5 0),(6,.p (eL aU l_0)),(7,.p (eI (l_0.length:Int))),(8,.p (eI t24))] Z ⟨Z,Z,Z,Z,Z,Z,Z,trivial⟩ Z (dR 1 Z ?_)
   refine dL (dt c28) Z (dR 3 Z ?_)
   refine dq (.p (eI (t24 - 1))) [15,17] Z (λ _ e _ q=>fw (ew Z Z Z (e _ _ Z) Z Z hk29 q) Z Z (e _ _ Z) (rfl)) Z (dq (.rptr (ad.cs (lat l_0 (t24 - 1)))) [15,16,18] Z (λ _ e _ q=>fw (mg (f:=aU) (l:=l_0) ad.cs Z Z Z Z Z Z (e _ _ Z) Z (e _ _ Z) hk30 ad.cells_eq Y q) Z Z (e _ _ Z) (rfl)) Z ?_)
   refine dR 2 Z (dq (.p (eB r31)) [15,20,21] Z (λ _ e _ q=>fw (ed (HP.c e32) Z Z Z (aN (e _ _ Z) (aN (e _ _ Z) cx)) ⟨sr,sr,trivial⟩ Tryz.call56 Z q) Z Z (e _ _ Z) (rfl)) Z ?_)
   refine dR 1 Z (dE Z ?_)
   exact nx 1 Z (eX _ (oi h4).symm (gE Z Z))
  refine mD [(0,.p (eL aU l_0)),(3,.ptr 3 0),(4,.p (eI t24)),(5,.ptr 5 0),(6,.p (eL aU l_0)),(7,.p (eI (l_0.length:Int))),(8,.p (eI t24))] Z ⟨Z,Z,Z,Z,Z,Z,Z,trivial⟩ Z (dR 1 Z ?_)
  refine dL (df c28) Z (dR 9 Z ?_)
  refine dE Z (nx 1 Z ?_)
  exact eX _ (oi h4).symm (gE Z Z)
 exact nx 2 Z (eXi _ (oi h1).symm (gE Z Z))
instance FH:HE Tryz.prog 188:=⟨Tryz.call188⟩
instance FZ:HE Tryz.prog 172:=⟨Tryz.call172⟩
def iP (v_0:ah):Option Bool :=
 (
   if v_0.fKind < 0 then
    some true
   else
    some (decide (6 < v_0.fKind))
  : Option Bool).bind λ t2 =>
 if t2=true then
  some false
 else
  jn (
    if v_0.fKind=1 then
     (
       if v_0.fNum=0 then
        some false
       else
        some (!decide (v_0.fNum=1))
      : Option Bool).bind λ t6 =>
     if t6=true then
      some (.inr false)
     else
      some (.inl ())
    else
     if v_0.fKind=2 then
      some (.inl ())
     else
      if v_0.fNum=0 then
       some (.inl ())
      else
       some (.inr false)
   : Option (Unit⊕Bool)) λ q20 =>
  (
    if v_0.fKind=3 then
     if v_0.fKind=4 then
      some false
     else
      if v_0.fKind=5 then
       some false
      else
       some (decide (0 < (v_0.fItems.length:Int)))
    else
     if v_0.fStr=([]:Bytes) then
      if v_0.fKind=4 then
       some false
      else
       if v_0.fKind=5 then
        some false
       else
        some (decide (0 < (v_0.fItems.length:Int)))
     else
      some true
   : Option Bool).bind λ t16 =>
  if t16=true then
   some false
  else
   if v_0.fKind=5 then
    some (decide ((v_0.fKeys.length:Int)=(v_0.fItems.length:Int)))
   else
    some (decide ((v_0.fKeys.length:Int)=0))
instance zC (v_0:ah):∀ (r:Bool),HP (iP v_0=some r) Tryz.prog 170 [.agg (ah.cs v_0)] (.p (eB r)):=by
 refine hP good Tryz.func170 Z Z λ r h0 _ w0=>?_
 unfold iP at h0
 refine nx 7 Z (bd h0 λ o23 h1 h0=>?_)
 refine kN o23 (λ v24=>⟨[(1,.ptr 1 0),(10,.p (eB v24))],[(1,(ah.cs v_0).map .p)]⟩) ?_ ?_
 ·refine nx 1 Z (fB [10] h0 Z (λ c3 h0=>?_) λ c3 h0=>?_)
  ·exact A0
  refine nx 8 Z ?_
  obtain ⟨o25,h1,hL0,hR0⟩:=dj h0
  refine kX (λ v26:Unit=>o25=.inl v26) (λ v26=>⟨[(1,.ptr 1 0)],[(1,(ah.cs v_0).map .p)]⟩) (λ v26 hv=>?_) ?_
  ·have h0:=hL0 _ hv
   refine nx 3 Z (bd h0 λ o27 h1 h0=>?_)
   refine kN o27 (λ v28=>⟨[(1,.ptr 1 0),(51,.p (eB v28))],[(1,(ah.cs v_0).map .p)]⟩) ?_ ?_
   ·exact A0
   exact A1
  refine nx 6 Z (fD [16,17] h1 Z (λ c4 h1=>?_) λ c4 h1=>?_)
  ·refine nx 2 Z (bd h1 λ o29 h2 h1=>?_)
   refine kN o29 (λ v30=>⟨[(1,.ptr 1 0),(25,.p (eB v30))],[(1,(ah.cs v_0).map .p)]⟩) ?_ ?_
   ·exact A1
   exact A2
  exact A1
 exact A1
def ja (s_0:Bytes):Option Int :=
 if 4096 < (s_0.length:Int) then
  some 3
 else
  (iM s_0).bind λ r2 =>
  if (!r2)=true then
   some 1
  else
   some 0
instance Cc (s_0:Bytes):∀ (r:Int),HP (ja s_0=some r) Tryz.prog 172 [eS s_0] (.p (eI r)):=by
 refine hP good Tryz.func172 Z Z λ r h0 _ w0=>?_
 unfold ja at h0
 exact A0
def fb (v_0:ah):Nat→Int→Option (Unit⊕(Unit⊕Int))
 | 0,_=>none
 | m+1,t24 =>
 if t24 < (v_0.fKeys.length:Int) then
  ck ((0:Int)≤t24∧t24 < (v_0.fKeys.length:Int)) <|
  (ja (lat v_0.fKeys t24)).bind λ r27 =>
  if r27=0 then
   (
     if 0 < t24 then
      ck (inR (t24 - 1)) <|
      ck ((0:Int)≤t24 - 1∧t24 - 1 < (v_0.fKeys.length:Int)) <|
      some (Op.bytesLess (lat v_0.fKeys t24) (lat v_0.fKeys (t24 - 1))||decide (lat v_0.fKeys t24=lat v_0.fKeys (t24 - 1)))
     else
      some false
    : Option Bool).bind λ t33 =>
   if t33=true then
    some (.inr (.inr 1))
   else
    ck (inR (t24+1)) <|
    fb v_0 m (t24+1)
  else
   some (.inr (.inr r27))
 else
  some (.inl ())
def gx (n:Nat)(v_0:ah):Option Int :=
 (iP v_0).bind λ r1 =>
 if (!r1)=true then
  some 1
 else
  jn (
    if v_0.fKind=2 then
     (gS v_0.fNum).bind λ r5 =>
     if (!r5)=true then
      some (.inr 5)
     else
      some (.inl ())
    else
     if v_0.fKind=3 then
      (ja v_0.fStr).bind λ r9 =>
      some (.inr r9)
     else
      if v_0.fKind=5 then
       jn (fb v_0 n 0) λ q38 =>
       some (.inl ())
      else
       some (.inl ())
   : Option (Unit⊕Int)) λ q37 =>
  some 0
instance Cb (n:Nat) (v_0:ah):∀ (r:Int),HP (gx n v_0=some r) Tryz.prog 150 [.agg (ah.cs v_0)] (.p (eI r)):=by
 refine hP good Tryz.func150 Z Z λ r h0 _ w0=>?_
 unfold gx at h0
 refine nx 9 Z (bd h0 λ r1 e2 h0=>?_)
 refine oK (HP.c e2) Z ⟨sr,trivial⟩ Tryz.call170 Z (nx 2 Z ?_)
 refine fB [8] h0 Z (λ c3 h0=>?_) λ c3 h0=>?_
 ·exact A0
 refine nx 8 Z ?_
 obtain ⟨o40,h1,hL0,hR0⟩:=dj h0
 refine kX (λ v41:Unit=>o40=.inl v41) (λ v41=>⟨[],[]⟩) (λ v41 hv=>?_) ?_
 ·have h0:=hL0 _ hv
  exact A0
 refine nx 6 Z (fD [11,12] h1 Z (λ c4 h1=>?_) λ c4 h1=>?_)
 ·exact A1
 refine nx 6 Z (fD [17,18] h1 Z (λ c8 h1=>?_) λ c8 h1=>?_)
 ·exact A1
 refine nx 6 Z (fD [22,23] h1 Z (λ c11 h1=>?_) λ c11 h1=>?_)
 ·refine nx 5 Z (oLl (f:=eS) Z Z ?_)
  refine nx 3 Z ?_
  obtain ⟨o42,h2,hL1,hR1⟩:=dj h1
  refine kEx 1 (λ v43:Unit=>o42=.inl v43) (λ v43=>⟨[],[]⟩) (λ v43 hv=>?_) ?_
  ·have h1:=hL1 _ hv
   exact A1
  refine lG (λ (q44:Int)=>⟨[(1,.ptr 1 0),(25,.p (eL eS v_0.fKeys)),(26,.p (eI (v_0.fKeys.length:Int))),(27,.p (eI q44))],[(1,(ah.cs v_0).map .p)]⟩) (λ m (q44:Int)=>fb v_0 m q44) Y 0 h2 (gE Z Z) ?_
  rintro m t24 h2
  replace h2:fb v_0 (m+1) t24=some o42:=h2
  rw [fb] at h2
  refine nx 5 Z (fD [28] h2 Z (λ c25 h2=>?_) λ c25 h2=>?_)
  ·refine nx 7 Z (oE h2 Y Z Z Y λ hk26 h2=>?_)
   refine nx 8 Z (bd h2 λ r27 e28 h2=>?_)
   refine oK (HP.c e28) Z ⟨sr,trivial⟩ Tryz.call172 Z (nx 7 Z ?_)
   refine fN [35] h2 Z (λ c29 h2=>?_) λ c29 h2=>?_
   ·refine nx 3 Z (bd h2 λ o45 h3 h2=>?_)
    refine kN o45 (λ v46=>⟨[(1,.ptr 1 0),(25,.p (eL eS v_0.fKeys)),(26,.p (eI (v_0.fKeys.length:Int))),(27,.p (eI t24)),(48,.p (eB v46))],[(1,(ah.cs v_0).map .p)]⟩) ?_ ?_
    ·exact A2
    refine nx 4 Z (fD [38,39] h3 Z (λ c30 h3=>?_) λ c30 h3=>?_)
    ·refine nx 4 Z (oA h3 Z Z λ hk31 h3=>?_)
     refine oE h3 Y Z Z Y λ hk32 h3=>nx 1 Z (oS Z Z ?_)
     exact nx 2 Z (eX _ (oi h3).symm (gE Z Z))
    exact nx 10 Z (eX _ (oi h3).symm (gE Z Z))
   exact A2
  exact A2
 exact A1
def cQ (r_value_Check_1:ah→Int→Int→Option (Int×Int))(v_0:ah)(level_1:Int):Nat→Int→Int→Option (Int⊕(Int×Int))
 | 0,_,_=>none
 | m+1,t16,f17 =>
 if t16 < (v_0.fItems.length:Int) then
  ck ((0:Int)≤t16∧t16 < (v_0.fItems.length:Int)) <|
  ck (inR (level_1+1)) <|
  (r_value_Check_1 (lat v_0.fItems t16) (level_1+1) f17).bind λ r21 =>
  if r21.1=0 then
   ck (inR (t16+1)) <|
   cQ r_value_Check_1 v_0 level_1 m (t16+1) r21.2
  else
   some (.inr (r21.1,r21.2))
 else
  some (.inl f17)
def cO:Nat→ah→Int→Int→Option (Int×Int)
 | 0,_,_,_=>none
 | n+1,v_0,level_1,cap_0 =>
 if 32 < level_1 then
  some (4,cap_0)
 else
  if 4096≤cap_0 then
   some (14,cap_0)
  else
   ck (inR (cap_0+1)) <|
   (gx n v_0).bind λ r4 =>
   if r4=0 then
    jn (cQ (cO n) v_0 level_1 n 0 (cap_0+1)) λ f27 =>
    some (0,f27)
   else
    some (r4,cap_0+1)
instance yH (n:Nat):∀ (v_0:ah) (level_1:Int) (cap_0:Int) (r:Int×Int),HO (cO n v_0 level_1 cap_0=some r) Tryz.prog 149 [.p (.agg (ah.cs v_0)),.p (eI level_1),.ptr 1000000 0,.ptr 1000001 0] [(1000000,[.p (eI cap_0)]),(1000001,[.func (.func 149) [.ptr 1000000 0,.ptr 1000001 0]])] (.p (eI r.1)) ([(1000000,[.p (eI r.2)]),(1000001,[.func (.func 149) [.ptr 1000000 0,.ptr 1000001 0]])]):=by
 induction n with
 | zero=>intros; exact ⟨λ h=>by cases h⟩
 | succ n ih =>
 have ih_value_Check_1_ok:=ih
 refine λ v_0 level_1 cap_0=>hO good [] [1000000,1000001] Tryz.func149 Z Z λ r h0 _ w0 F=>?_
 rw [cO] at h0
 refine nx 11 Z (fD [12] h0 Z (λ c1 h0=>?_) λ c1 h0=>?_)
 ·exact A0
 refine nx 8 Z (fD [14] h0 Z (λ c2 h0=>?_) λ c2 h0=>?_)
 ·exact A0
 refine nx 5 Z (oA h0 Z Z λ hk3 h0=>?_)
 refine nx 6 Z (bd h0 λ r4 e5 h0=>?_)
 refine oK (HP.c e5) Z ⟨sr,trivial⟩ Tryz.call150 Z (nx 7 Z ?_)
 refine fN [20] h0 Z (λ c6 h0=>?_) λ c6 h0=>?_
 ·refine nx 7 Z (oLl (f:=eO) Z Z ?_)
  refine nx 3 Z ?_
  obtain ⟨o29,h1,hL0,hR0⟩:=dj h0
  refine kEx 0 (λ v30:Int=>o29=.inl v30) (λ v30=>⟨[],[(1000000,[.p (eI v30)]),(1000001,[.func (.func 149) [.ptr 1000000 0,.ptr 1000001 0]])]⟩) (λ v30 hv=>?_) ?_
  ·have h0:=hL0 _ hv
   exact A0
  refine lG (λ (q31:Int×Int)=>⟨[(1,.p (eI level_1)),(3,.ptr 1000001 0),(23,.p (eL eO v_0.fItems)),(24,.p (eI (v_0.fItems.length:Int))),(25,.p (eI q31.1))],[(1000000,[.p (eI q31.2)]),(1000001,[.func (.func 149) [.ptr 1000000 0,.ptr 1000001 0]])]⟩) (λ m (q31:Int×Int)=>cQ (cO n) v_0 level_1 m q31.1 q31.2) Y (0,cap_0+1) h1 (gE Z Z) ?_
  rintro m ⟨t16,f17⟩ h1
  replace h1:cQ (cO n) v_0 level_1 (m+1) t16 f17=some o29:=h1
  rw [cQ] at h1
  refine nx 5 Z (fD [26] h1 Z (λ c18 h1=>?_) λ c18 h1=>?_)
  ·refine nx 6 Z (oE h1 ah.cells_eq Z Z Y λ hk19 h1=>?_)
   refine nx 9 Z (oA h1 Z Z λ hk20 h1=>?_)
   refine bd h1 λ r21 e22 h1=>mO Z (sM [1000000,1000001] [] 102000 102000 (HO.c e22) Z Z Z Z Z Z ⟨sr,sr,sr,sr,trivial⟩ Z Z ⟨⟨_,Z,⟨sr,trivial⟩⟩,⟨_,Z,⟨sr,trivial⟩⟩,trivial⟩ Z Z Z Z Z Z Z Z Tryz.call149 Z Z ?_)
   exact A1
  exact A1
 exact A0
def gf (n:Nat)(v_0:ah):Option Int :=
 (cO n v_0 1 0).bind λ r1 =>
 some r1.1
instance BZ (n:Nat) (v_0:ah):∀ (r:Int),HP (gf n v_0=some r) Tryz.prog 111 [.agg (ah.cs v_0)] (.p (eI r)):=by
 refine hP good Tryz.func111 Z Z λ r h0 _ w0=>?_
 unfold gf at h0
 refine nx 16 Z (mO Z (vF Z Z Z Z ?_))
 refine nx 6 Z (bd h0 λ r1 e2 h0=>?_)
 refine mO Z (sM [3,4] [] 101000 101000 (HO.c e2) Z Z Z Z Z Z ⟨sr,sr,sr,sr,trivial⟩ Z Z ⟨⟨_,Z,⟨sr,trivial⟩⟩,⟨_,Z,⟨sr,trivial⟩⟩,trivial⟩ Z Z Z Z Z Z Z Z Tryz.call149 Z Z ?_)
 exact A0
end Go.Ab.R06
end
section
namespace Go.Ab.R06
open Go.Proofs Go.Ab Go.Ab.RB
set_option maxRecDepth 4000
attribute [local irreducible] awp fT bn bF cv AV.sub M cT
abbrev j5:List AV:=[.p (eI 0),.p (eI 0),.p (eS ([]:Bytes)),.p (eS ([]:Bytes)),.p (eI 0),.p (eI 0),.p (eS ([]:Bytes)),.p (.val (.slice none 0 0)),.p (.val (.slice none 0 0)),.p (.val (.slice none 0 0)),.p (eI 0)]
abbrev lc:List PV:=[eI 0,eI 0,eS ([]:Bytes),eS ([]:Bytes),eI 0,eI 0,eS ([]:Bytes),.val (.slice none 0 0),.val (.slice none 0 0),.val (.slice none 0 0),eI 0]
abbrev iH:List AV:=[.p (eI 0),.p (eS ([]:Bytes)),.p (eI 0)]
abbrev ff:List AV:=[.p (eI 0),.p (eI 0),.p (eS ([]:Bytes))]
def iY (k_0:Int):Option Bool :=
 (
   if k_0=12 then
    some true
   else
    some (decide (k_0=13))
  : Option Bool).bind λ t2 =>
 some t2
instance Dj (k_0:Int):∀ (r:Bool),HP (iY k_0=some r) Tryz.prog 146 [eI k_0] (.p (eB r)):=by
 refine hP good Tryz.func146 Z Z λ r h0 _ w0=>?_
 unfold iY at h0
 refine nx 5 Z (bd h0 λ o4 h1 h0=>?_)
 refine kN o4 (λ v5=>⟨[(2,.p (eB v5))],[]⟩) ?_ ?_
 ·exact nx 2 Z (mQ (oi h0) Z (sr))
 refine nx 4 Z (fD [4,5] h1 Z (λ c1 h1=>?_) λ c1 h1=>?_)
 ·exact nx 5 Z (eX _ (oi h1).symm (gE Z Z))
 exact nx 5 Z (eX _ (oi h1).symm (gE Z Z))
def ik (k_0:Int):Option Bool :=
 (
   if k_0=3 then
    some true
   else
    if k_0=4 then
     some true
    else
     if k_0=9 then
      some true
     else
      (iY k_0).bind λ r4 =>
      some r4
  : Option Bool).bind λ t6 =>
 some t6
instance Cd (k_0:Int):∀ (r:Bool),HP (ik k_0=some r) Tryz.prog 112 [eI k_0] (.p (eB r)):=by
 refine hP good Tryz.func112 Z Z λ r h0 _ w0=>?_
 unfold ik at h0
 refine nx 5 Z (bd h0 λ o8 h1 h0=>?_)
 refine kN o8 (λ v9=>⟨[(2,.p (eB v9))],[]⟩) ?_ ?_
 ·exact nx 2 Z (mQ (oi h0) Z (sr))
 refine nx 4 Z (fD [4,5] h1 Z (λ c1 h1=>?_) λ c1 h1=>?_)
 ·exact nx 13 Z (eX _ (oi h1).symm (gE Z Z))
 refine nx 4 Z (fD [7,8,9] h1 Z (λ c2 h1=>?_) λ c2 h1=>?_)
 ·exact nx 9 Z (eX _ (oi h1).symm (gE Z Z))
 refine nx 4 Z (fD [11,12,13] h1 Z (λ c3 h1=>?_) λ c3 h1=>?_)
 ·exact nx 5 Z (eX _ (oi h1).symm (gE Z Z))
 refine nx 1 Z (bd h1 λ r4 e5 h1=>?_)
 refine oK (HP.c e5) Z ⟨sr,trivial⟩ Tryz.call146 Z (nx 3 Z ?_)
 exact eX _ (oi h1).symm (gE Z Z)
def hZ (e_0:ac):Option Bool :=
 if e_0.fKind=6 then
  (
    if e_0.fOp=1 then
     some true
    else
     some (decide (e_0.fOp=2))
   : Option Bool).bind λ t3 =>
  some t3
 else
  if e_0.fKind=7 then
   (
     if 3≤e_0.fOp then
      some (decide (e_0.fOp≤15))
     else
      some false
    : Option Bool).bind λ t6 =>
   some t6
  else
   some (decide (e_0.fOp=0))
instance yP (e_0:ac):∀ (r:Bool),HP (hZ e_0=some r) Tryz.prog 145 [.agg (ac.cs e_0)] (.p (eB r)):=by
 refine hP good Tryz.func145 Z Z λ r h0 _ w0=>?_
 unfold hZ at h0
 refine nx 17 Z (fD [5,6] h0 Z (λ c1 h0=>?_) λ c1 h0=>?_)
 ·refine nx 2 Z (bd h0 λ o9 h1 h0=>?_)
  refine kN o9 (λ v10=>⟨[(2,.p (eB v10))],[]⟩) ?_ ?_
  ·exact nx 2 Z (mQ (oi h0) Z (sr))
  refine nx 5 Z (fD [9,10] h1 Z (λ c2 h1=>?_) λ c2 h1=>?_)
  ·exact nx 6 Z (eX _ (oi h1).symm (gE Z Z))
  exact nx 6 Z (eX _ (oi h1).symm (gE Z Z))
 refine nx 6 Z (fD [15,16] h0 Z (λ c4 h0=>?_) λ c4 h0=>?_)
 ·refine nx 2 Z (bd h0 λ o11 h1 h0=>?_)
  refine kN o11 (λ v12=>⟨[(2,.p (eB v12))],[]⟩) ?_ ?_
  ·exact nx 2 Z (mQ (oi h0) Z (sr))
  refine nx 5 Z (fD [19,20] h1 Z (λ c5 h1=>?_) λ c5 h1=>?_)
  ·exact nx 6 Z (eX _ (oi h1).symm (gE Z Z))
  exact nx 6 Z (eX _ (oi h1).symm (gE Z Z))
 exact nx 10 Z (mQ (oi h0) Z (sr))
def iy (v_0:ah):Option Bool :=
 (
   if v_0.fKind=0 then
    if v_0.fNum=0 then
     if v_0.fStr=([]:Bytes) then
      ck (inR ((v_0.fItems.length:Int)+(v_0.fKeys.length:Int))) <|
      some (decide ((v_0.fItems.length:Int)+(v_0.fKeys.length:Int)=0))
     else
      some false
    else
     some false
   else
    some false
  : Option Bool).bind λ t5 =>
 some t5
instance CX (v_0:ah):∀ (r:Bool),HP (iy v_0=some r) Tryz.prog 147 [.agg (ah.cs v_0)] (.p (eB r)):=by
 refine hP good Tryz.func147 Z Z λ r h0 _ w0=>?_
 unfold iy at h0
 refine nx 6 Z (bd h0 λ o7 h1 h0=>?_)
 refine kN o7 (λ v8=>⟨[(2,.p (eB v8))],[]⟩) ?_ ?_
 ·exact nx 2 Z (mQ (oi h0) Z (sr))
 refine nx 5 Z (fD [5,6] h1 Z (λ c1 h1=>?_) λ c1 h1=>?_)
 ·refine nx 5 Z (fD [9,10,11] h1 Z (λ c2 h1=>?_) λ c2 h1=>?_)
  ·refine nx 2 Z (oS Z Z ?_)
   refine nx 2 Z (fD [14,15,16] h1 Z (λ c3 h1=>?_) λ c3 h1=>?_)
   ·refine nx 2 Z (oLl (f:=eO) Z Z ?_)
    refine nx 2 Z (oLl (f:=eS) Z Z ?_)
    exact oA h1 Z Z λ hk4 h1=>nx 4 Z (eX _ (oi h1).symm (gE Z Z))
   exact nx 11 Z (eX _ (oi h1).symm (gE Z Z))
  exact nx 16 Z (eX _ (oi h1).symm (gE Z Z))
 exact nx 21 Z (eX _ (oi h1).symm (gE Z Z))
def mX (k_0:Int):Option (Int×Int×Bool) :=
 (
   if k_0=1 then
    some true
   else
    some (decide (k_0=3))
  : Option Bool).bind λ t2 =>
 if t2=true then
  some (0,0,false)
 else
  (
    if k_0=4 then
     some true
    else
     some (decide (k_0=6))
   : Option Bool).bind λ t5 =>
  if t5=true then
   some (1,1,false)
  else
   (
     if k_0=5 then
      some true
     else
      some (decide (k_0=7))
    : Option Bool).bind λ t8 =>
   if t8=true then
    some (2,2,false)
   else
    if k_0=8 then
     some (3,3,false)
    else
     if k_0=2 then
      some (1,4096,false)
     else
      if k_0=12 then
       some (2,3,false)
      else
       if k_0=13 then
        some (3,4,false)
       else
        if k_0=11 then
         some (0,4096,true)
        else
         some (0,4096,false)
instance Dt (k_0:Int):∀ (r:Int×Int×Bool),HP (mX k_0=some r) Tryz.prog 148 [eI k_0] (.tuple [.p (eI r.1),.p (eI r.2.1),.p (eB r.2.2)]):=by
 refine hP good Tryz.func148 Z Z λ r h0 _ w0=>?_
 unfold mX at h0
 refine nx 13 Z (bd h0 λ o18 h1 h0=>?_)
 refine kN o18 (λ v19=>⟨[(5,.p (eI k_0)),(6,.p (eB v19))],[]⟩) ?_ ?_
 ·refine nx 1 Z (fB [6] h0 Z (λ c3 h0=>?_) λ c3 h0=>?_)
  ·exact nx 8 Z (mQ (oi h0) Z (bz ⟨sr,sr,sr,trivial⟩))
  refine nx 2 Z (bd h0 λ o20 h1 h0=>?_)
  refine kN o20 (λ v21=>⟨[(5,.p (eI k_0)),(9,.p (eB v21))],[]⟩) ?_ ?_
  ·refine nx 1 Z (fB [9] h0 Z (λ c6 h0=>?_) λ c6 h0=>?_)
   ·exact nx 8 Z (mQ (oi h0) Z (bz ⟨sr,sr,sr,trivial⟩))
   refine nx 2 Z (bd h0 λ o22 h1 h0=>?_)
   refine kN o22 (λ v23=>⟨[(5,.p (eI k_0)),(12,.p (eB v23))],[]⟩) ?_ ?_
   ·refine nx 1 Z (fB [12] h0 Z (λ c9 h0=>?_) λ c9 h0=>?_)
    ·exact nx 8 Z (mQ (oi h0) Z (bz ⟨sr,sr,sr,trivial⟩))
    refine nx 6 Z (fD [15,16] h0 Z (λ c10 h0=>?_) λ c10 h0=>?_)
    ·exact nx 8 Z (mQ (oi h0) Z (bz ⟨sr,sr,sr,trivial⟩))
    refine nx 6 Z (fD [17,18] h0 Z (λ c11 h0=>?_) λ c11 h0=>?_)
    ·exact nx 8 Z (mQ (oi h0) Z (bz ⟨sr,sr,sr,trivial⟩))
    refine nx 6 Z (fD [19,20] h0 Z (λ c12 h0=>?_) λ c12 h0=>?_)
    ·exact nx 8 Z (mQ (oi h0) Z (bz ⟨sr,sr,sr,trivial⟩))
    refine nx 6 Z (fD [21,22] h0 Z (λ c13 h0=>?_) λ c13 h0=>?_)
    ·exact nx 8 Z (mQ (oi h0) Z (bz ⟨sr,sr,sr,trivial⟩))
    refine nx 6 Z (fD [23,24] h0 Z (λ c14 h0=>?_) λ c14 h0=>?_)
    ·exact nx 8 Z (mQ (oi h0) Z (bz ⟨sr,sr,sr,trivial⟩))
    exact nx 9 Z (mQ (oi h0) Z (bz ⟨sr,sr,sr,trivial⟩))
   refine nx 5 Z (fD [12,13] h1 Z (λ c7 h1=>?_) λ c7 h1=>?_)
   ·exact nx 2 Z (eX _ (oi h1).symm (gE Z Z))
   exact nx 5 Z (eX _ (oi h1).symm (gE Z Z))
  refine nx 5 Z (fD [9,10] h1 Z (λ c4 h1=>?_) λ c4 h1=>?_)
  ·exact nx 2 Z (eX _ (oi h1).symm (gE Z Z))
  exact nx 5 Z (eX _ (oi h1).symm (gE Z Z))
 refine nx 5 Z (fD [6,7] h1 Z (λ c1 h1=>?_) λ c1 h1=>?_)
 ·exact nx 2 Z (eX _ (oi h1).symm (gE Z Z))
 exact nx 5 Z (eX _ (oi h1).symm (gE Z Z))
def gh (e_0:ac):Option Bool :=
 (
   if e_0.fKind < 1 then
    some true
   else
    if 13 < e_0.fKind then
     some true
    else
     (hZ e_0).bind λ r3 =>
     some (!r3)
  : Option Bool).bind λ t5 =>
 if t5=true then
  some false
 else
  (
    (ik e_0.fKind).bind λ r7 =>
    if (!r7)=true then
     if e_0.fName=([]:Bytes) then
      (iY e_0.fKind).bind λ r11 =>
      if (!r11)=true then
       if e_0.fKey=([]:Bytes) then
        if e_0.fKind=1 then
         some false
        else
         (iy e_0.fValue).bind λ r16 =>
         some (!r16)
       else
        some true
      else
       if e_0.fKind=1 then
        some false
       else
        (iy e_0.fValue).bind λ r19 =>
        some (!r19)
     else
      some true
    else
     (iY e_0.fKind).bind λ r21 =>
     if (!r21)=true then
      if e_0.fKey=([]:Bytes) then
       if e_0.fKind=1 then
        some false
       else
        (iy e_0.fValue).bind λ r26 =>
        some (!r26)
      else
       some true
     else
      if e_0.fKind=1 then
       some false
      else
       (iy e_0.fValue).bind λ r29 =>
       some (!r29)
   : Option Bool).bind λ t31 =>
  if t31=true then
   some false
  else
   (mX e_0.fKind).bind λ r33 =>
   (
     if (e_0.fKids.length:Int) < r33.1 then
      some true
     else
      if r33.2.1 < (e_0.fKids.length:Int) then
       if r33.2.1 < 4096 then
        some true
       else
        if r33.2.2=true then
         ck ((2:Int)≠0) <|
         some (decide ((e_0.fKids.length:Int).tmod 2=1))
        else
         some false
      else
       if r33.2.2=true then
        ck ((2:Int)≠0) <|
        some (decide ((e_0.fKids.length:Int).tmod 2=1))
       else
        some false
    : Option Bool).bind λ t42 =>
   if t42=true then
    some false
   else
    if e_0.fKind=1 then
     (
       if 0≤e_0.fValue.fKind then
        if e_0.fValue.fKind≤3 then
         if e_0.fValue.fKind=2 then
          some (decide (0≤e_0.fValue.fNum))
         else
          some true
        else
         some false
       else
        some false
      : Option Bool).bind λ t48 =>
     some t48
    else
     some true
instance BS (e_0:ac):∀ (r:Bool),HP (gh e_0=some r) Tryz.prog 110 [.agg (ac.cs e_0)] (.p (eB r)):=by
 refine hP good Tryz.func110 Z Z λ r h0 _ w0=>?_
 unfold gh at h0
 refine nx 7 Z (bd h0 λ o53 h1 h0=>?_)
 refine kN o53 (λ v54=>⟨[(1,.ptr 1 0),(19,.p (eB v54))],[(1,(ac.cs e_0).map .p)]⟩) ?_ ?_
 ·refine nx 1 Z (fB [19] h0 Z (λ c6 h0=>?_) λ c6 h0=>?_)
  ·exact nx 6 Z (mQ (oi h0) Z (sr))
  refine nx 4 Z (bd h0 λ o55 h1 h0=>?_)
  refine kN o55 (λ v56=>⟨[(1,.ptr 1 0),(50,.p (eB v56))],[(1,(ac.cs e_0).map .p)]⟩) ?_ ?_
  ·refine nx 1 Z (fB [50] h0 Z (λ c32 h0=>?_) λ c32 h0=>?_)
   ·exact nx 6 Z (mQ (oi h0) Z (sr))
   refine nx 6 Z (bd h0 λ r33 e34 h0=>?_)
   refine oK (HP.c e34) Z ⟨sr,trivial⟩ Tryz.call148 Z (nx 10 Z ?_)
   refine bd h0 λ o57 h1 h0=>kN o57 (λ v58=>⟨[(1,.ptr 1 0),(83,.p (eB v58))],[(1,(ac.cs e_0).map .p)]⟩) ?_ ?_
   ·refine nx 1 Z (fB [83] h0 Z (λ c43 h0=>?_) λ c43 h0=>?_)
    ·exact nx 6 Z (mQ (oi h0) Z (sr))
    refine nx 9 Z (fN [86] h0 Z (λ c44 h0=>?_) λ c44 h0=>?_)
    ·refine nx 10 Z (bd h0 λ o59 h1 h0=>?_)
     refine kN o59 (λ v60=>⟨[(2,.p (eB v60))],[]⟩) ?_ ?_
     ·exact nx 2 Z (mQ (oi h0) Z (sr))
     refine nx 5 Z (fD [91,92] h1 Z (λ c45 h1=>?_) λ c45 h1=>?_)
     ·refine nx 5 Z (fD [95,96,97] h1 Z (λ c46 h1=>?_) λ c46 h1=>?_)
      ·refine nx 4 Z (fN [100,101] h1 Z (λ c47 h1=>?_) λ c47 h1=>?_)
       ·exact nx 7 Z (eX _ (oi h1).symm (gE Z Z))
       exact nx 7 Z (eX _ (oi h1).symm (gE Z Z))
      exact nx 11 Z (eX _ (oi h1).symm (gE Z Z))
     exact nx 16 Z (eX _ (oi h1).symm (gE Z Z))
    exact nx 6 Z (mQ (oi h0) Z (sr))
   refine nx 3 Z (oLl (f:=aj) Z Z ?_)
   refine nx 3 Z (fD [62,63] h1 Z (λ c35 h1=>?_) λ c35 h1=>?_)
   ·exact nx 21 Z (eX _ (oi h1).symm (gE Z Z))
   refine nx 2 Z (oLl (f:=aj) Z Z ?_)
   refine nx 3 Z (fD [68,69] h1 Z (λ c36 h1=>?_) λ c36 h1=>?_)
   ·refine nx 5 Z (fD [71,72,73,74] h1 Z (λ c37 h1=>?_) λ c37 h1=>?_)
    ·exact nx 10 Z (eX _ (oi h1).symm (gE Z Z))
    refine nx 2 Z (fB [5,57,75,76] h1 Z (λ c38 h1=>?_) λ c38 h1=>?_)
    ·refine nx 2 Z (oLl (f:=aj) Z Z ?_)
     refine cc' h1 λ hk39 h1=>mO Z (D9 Z Z Z Z Z Z hk39 ?_)
     exact nx 4 Z (eX _ (oi h1).symm (gE Z Z))
    exact nx 8 Z (eX _ (oi h1).symm (gE Z Z))
   refine nx 7 Z (fB [5,57,75,76] h1 Z (λ c40 h1=>?_) λ c40 h1=>?_)
   ·refine nx 2 Z (oLl (f:=aj) Z Z ?_)
    refine cc' h1 λ hk41 h1=>mO Z (D9 Z Z Z Z Z Z hk41 ?_)
    exact nx 4 Z (eX _ (oi h1).symm (gE Z Z))
   exact nx 8 Z (eX _ (oi h1).symm (gE Z Z))
  refine nx 3 Z (bd h1 λ r7 e8 h1=>?_)
  refine oK (HP.c e8) Z ⟨sr,trivial⟩ Tryz.call112 Z (nx 2 Z ?_)
  refine fB [23,24] h1 Z (λ c9 h1=>?_) λ c9 h1=>?_
  ·refine nx 2 Z (oS Z Z ?_)
   refine nx 2 Z (fN [27,28,29] h1 Z (λ c10 h1=>?_) λ c10 h1=>?_)
   ·refine nx 2 Z (bd h1 λ r11 e12 h1=>?_)
    refine oK (HP.c e12) Z ⟨sr,trivial⟩ Tryz.call146 Z (nx 2 Z ?_)
    refine fB [33,34] h1 Z (λ c13 h1=>?_) λ c13 h1=>?_
    ·refine nx 2 Z (oS Z Z ?_)
     refine nx 3 Z (fN [37,38,39,40] h1 Z (λ c14 h1=>?_) λ c14 h1=>?_)
     ·refine nx 4 Z (fN [43,44] h1 Z (λ c15 h1=>?_) λ c15 h1=>?_)
      ·exact nx 7 Z (eX _ (oi h1).symm (gE Z Z))
      refine nx 2 Z (bd h1 λ r16 e17 h1=>?_)
      refine oK (HP.c e17) Z ⟨sr,trivial⟩ Tryz.call147 Z (nx 4 Z ?_)
      exact eX _ (oi h1).symm (gE Z Z)
     exact nx 11 Z (eX _ (oi h1).symm (gE Z Z))
    refine nx 10 Z (fN [43,44] h1 Z (λ c18 h1=>?_) λ c18 h1=>?_)
    ·exact nx 7 Z (eX _ (oi h1).symm (gE Z Z))
    refine nx 2 Z (bd h1 λ r19 e20 h1=>?_)
    refine oK (HP.c e20) Z ⟨sr,trivial⟩ Tryz.call147 Z (nx 4 Z ?_)
    exact eX _ (oi h1).symm (gE Z Z)
   exact nx 22 Z (eX _ (oi h1).symm (gE Z Z))
  refine nx 7 Z (bd h1 λ r21 e22 h1=>?_)
  refine oK (HP.c e22) Z ⟨sr,trivial⟩ Tryz.call146 Z (nx 2 Z ?_)
  refine fB [33,34] h1 Z (λ c23 h1=>?_) λ c23 h1=>?_
  ·refine nx 2 Z (oS Z Z ?_)
   refine nx 3 Z (fN [37,38,39,40] h1 Z (λ c24 h1=>?_) λ c24 h1=>?_)
   ·refine nx 4 Z (fN [43,44] h1 Z (λ c25 h1=>?_) λ c25 h1=>?_)
    ·exact nx 7 Z (eX _ (oi h1).symm (gE Z Z))
    refine nx 2 Z (bd h1 λ r26 e27 h1=>?_)
    refine oK (HP.c e27) Z ⟨sr,trivial⟩ Tryz.call147 Z (nx 4 Z ?_)
    exact eX _ (oi h1).symm (gE Z Z)
   exact nx 11 Z (eX _ (oi h1).symm (gE Z Z))
  refine nx 10 Z (fN [43,44] h1 Z (λ c28 h1=>?_) λ c28 h1=>?_)
  ·exact nx 7 Z (eX _ (oi h1).symm (gE Z Z))
  refine nx 2 Z (bd h1 λ r29 e30 h1=>?_)
  refine oK (HP.c e30) Z ⟨sr,trivial⟩ Tryz.call147 Z (nx 4 Z ?_)
  exact eX _ (oi h1).symm (gE Z Z)
 refine nx 5 Z (fD [9,10] h1 Z (λ c1 h1=>?_) λ c1 h1=>?_)
 ·exact nx 10 Z (eX _ (oi h1).symm (gE Z Z))
 refine nx 5 Z (fD [13,14,15] h1 Z (λ c2 h1=>?_) λ c2 h1=>?_)
 ·exact nx 5 Z (eX _ (oi h1).symm (gE Z Z))
 refine nx 1 Z (bd h1 λ r3 e4 h1=>?_)
 refine oK (HP.c e4) Z ⟨sr,trivial⟩ Tryz.call145 Z (nx 3 Z ?_)
 exact eX _ (oi h1).symm (gE Z Z)
def ca (s_0:Bytes):Nat→Int→Option (Unit⊕Bool)
 | 0,_=>none
 | m+1,t19 =>
 if t19 < (s_0.length:Int) then
  ck ((0:Int)≤t19∧t19 < (s_0.length:Int)) <|
  (
    ck ((0:Int)≤t19∧t19 < (s_0.length:Int)) <|
    if byt s_0 t19=95 then
     some false
    else
     if iOr .u8 (byt s_0 t19) 32 < 97 then
      if t19=0 then
       some true
      else
       ck ((0:Int)≤t19∧t19 < (s_0.length:Int)) <|
       if byt s_0 t19 < 48 then
        some true
       else
        ck ((0:Int)≤t19∧t19 < (s_0.length:Int)) <|
        some (decide (57 < byt s_0 t19))
     else
      if 122 < iOr .u8 (byt s_0 t19) 32 then
       if t19=0 then
        some true
       else
        ck ((0:Int)≤t19∧t19 < (s_0.length:Int)) <|
        if byt s_0 t19 < 48 then
         some true
        else
         ck ((0:Int)≤t19∧t19 < (s_0.length:Int)) <|
         some (decide (57 < byt s_0 t19))
      else
       some false
   : Option Bool).bind λ t34 =>
  if t34=true then
   some (.inr false)
  else
   ck (inR (t19+1)) <|
   ca s_0 m (t19+1)
 else
  some (.inl ())
def dB (n:Nat)(s_0:Bytes):Option Bool :=
 jn (ca s_0 n 0) λ q40 =>
 (
   if s_0=([]:Bytes) then
    some false
   else
    some (decide ((s_0.length:Int)≤64))
  : Option Bool).bind λ t39 =>
 some t39
instance wO (n:Nat) (s_0:Bytes):∀ (r:Bool),HP (dB n s_0=some r) Tryz.prog 113 [eS s_0] (.p (eB r)):=by
 refine hP good Tryz.func113 Z Z λ r h0 _ w0=>?_
 unfold dB at h0
 refine nx 8 Z (oLs Z ?_)
 refine nx 3 Z ?_
 obtain ⟨o43,h1,hL0,hR0⟩:=dj h0
 refine kEx 0 (λ v44:Unit=>o43=.inl v44) (λ v44=>⟨[(0,.p (eS s_0))],[]⟩) (λ v44 hv=>?_) ?_
 ·have h0:=hL0 _ hv
  refine nx 2 Z (bd h0 λ o45 h1 h0=>?_)
  refine kN o45 (λ v46=>⟨[(2,.p (eB v46))],[]⟩) ?_ ?_
  ·exact nx 2 Z (mQ (oi h0) Z (sr))
  refine nx 2 Z (oS Z Z ?_)
  refine nx 1 Z (fN [44,45] h1 Z (λ c38 h1=>?_) λ c38 h1=>?_)
  ·exact nx 6 Z (eX _ (oi h1).symm (gE Z Z))
  refine nx 1 Z (oLs Z ?_)
  exact nx 4 Z (eX _ (oi h1).symm (gE Z Z))
 refine lG (λ (q47:Int)=>⟨[(0,.p (eS s_0)),(6,.p (eI (s_0.length:Int))),(7,.p (eI q47))],[]⟩) (λ m (q47:Int)=>ca s_0 m q47) Y 0 h1 (gE Z Z) ?_
 rintro m t19 h1
 replace h1:ca s_0 (m+1) t19=some o43:=h1
 rw [ca] at h1
 refine nx 5 Z (fD [8] h1 Z (λ c20 h1=>?_) λ c20 h1=>?_)
 ·refine nx 13 Z (oI h1 Z λ hk21 h1=>?_)
  refine nx 4 Z (bd h1 λ o48 h2 h1=>?_)
  refine kN o48 (λ v49=>⟨[(0,.p (eS s_0)),(6,.p (eI (s_0.length:Int))),(7,.p (eI t19)),(41,.p (eB v49))],[]⟩) ?_ ?_
  ·refine nx 1 Z (fB [41] h1 Z (λ c35 h1=>?_) λ c35 h1=>?_)
   ·exact nx 6 Z (mQ (hR0 _ (oi h1).symm) Z (sr))
   refine nx 3 Z (oA h1 Z Z λ hk36 h1=>?_)
   exact nx 2 Z (eX (t19+1) h1 (gE Z Z))
  refine nx 3 Z (oI h2 Z λ hk22 h2=>?_)
  refine nx 2 Z (fN [17,18] h2 Z (λ c23 h2=>?_) λ c23 h2=>?_)
  ·exact nx 24 Z (eX _ (oi h2).symm (gE Z Z))
  refine nx 3 Z (fD [20,21] h2 Z (λ c24 h2=>?_) λ c24 h2=>?_)
  ·refine nx 8 Z (fD [28,29] h2 Z (λ c25 h2=>?_) λ c25 h2=>?_)
   ·exact nx 13 Z (eX _ (oi h2).symm (gE Z Z))
   refine nx 2 Z (oI h2 Z λ hk26 h2=>?_)
   refine nx 3 Z (fD [33,34,35] h2 Z (λ c27 h2=>?_) λ c27 h2=>?_)
   ·exact nx 7 Z (eX _ (oi h2).symm (gE Z Z))
   refine nx 2 Z (oI h2 Z λ hk28 h2=>?_)
   exact nx 4 Z (eX _ (oi h2).symm (gE Z Z))
  refine nx 5 Z (fD [23,24,25,26] h2 Z (λ c29 h2=>?_) λ c29 h2=>?_)
  ·refine nx 3 Z (fD [28,29] h2 Z (λ c30 h2=>?_) λ c30 h2=>?_)
   ·exact nx 13 Z (eX _ (oi h2).symm (gE Z Z))
   refine nx 2 Z (oI h2 Z λ hk31 h2=>?_)
   refine nx 3 Z (fD [33,34,35] h2 Z (λ c32 h2=>?_) λ c32 h2=>?_)
   ·exact nx 7 Z (eX _ (oi h2).symm (gE Z Z))
   refine nx 2 Z (oI h2 Z λ hk33 h2=>?_)
   exact nx 4 Z (eX _ (oi h2).symm (gE Z Z))
  exact nx 16 Z (eX _ (oi h2).symm (gE Z Z))
 exact nx 2 Z (eXi _ (oi h1).symm (gE Z Z))
def eT (s_0:Bytes):Option Bool :=
 (
   if s_0=([110,117,108,108]:Bytes) then
    some true
   else
    if s_0=([116,114,117,101]:Bytes) then
     some true
    else
     if s_0=([102,97,108,115,101]:Bytes) then
      some true
     else
      if s_0=([102,111,114]:Bytes) then
       some true
      else
       if s_0=([105,110]:Bytes) then
        some true
       else
        some (decide (s_0=([105,102]:Bytes)))
  : Option Bool).bind λ t6 =>
 if t6=true then
  some true
 else
  some false
instance yt (s_0:Bytes):∀ (r:Bool),HP (eT s_0=some r) Tryz.prog 114 [eS s_0] (.p (eB r)):=by
 refine hP good Tryz.func114 Z Z λ r h0 _ w0=>?_
 unfold eT at h0
 refine nx 11 Z (bd h0 λ o9 h1 h0=>?_)
 refine kN o9 (λ v10=>⟨[(4,.p (eB v10))],[]⟩) ?_ ?_
 ·refine nx 1 Z (fB [4] h0 Z (λ c7 h0=>?_) λ c7 h0=>?_)
  ·exact nx 6 Z (mQ (oi h0) Z (sr))
  exact nx 7 Z (mQ (oi h0) Z (sr))
 refine nx 2 Z (oS Z Z ?_)
 refine nx 2 Z (fD [4,5] h1 Z (λ c1 h1=>?_) λ c1 h1=>?_)
 ·exact nx 2 Z (eX _ (oi h1).symm (gE Z Z))
 refine nx 3 Z (oS Z Z ?_)
 refine nx 2 Z (fD [4,6] h1 Z (λ c2 h1=>?_) λ c2 h1=>?_)
 ·exact nx 2 Z (eX _ (oi h1).symm (gE Z Z))
 refine nx 3 Z (oS Z Z ?_)
 refine nx 2 Z (fD [4,7] h1 Z (λ c3 h1=>?_) λ c3 h1=>?_)
 ·exact nx 2 Z (eX _ (oi h1).symm (gE Z Z))
 refine nx 3 Z (oS Z Z ?_)
 refine nx 2 Z (fD [4,8] h1 Z (λ c4 h1=>?_) λ c4 h1=>?_)
 ·exact nx 2 Z (eX _ (oi h1).symm (gE Z Z))
 refine nx 3 Z (oS Z Z ?_)
 refine nx 2 Z (fD [4,9] h1 Z (λ c5 h1=>?_) λ c5 h1=>?_)
 ·exact nx 2 Z (eX _ (oi h1).symm (gE Z Z))
 refine nx 2 Z (oS Z Z ?_)
 exact nx 2 Z (eX _ (oi h1).symm (gE Z Z))
def iz (n:Nat)(e_0:ac):Option Int :=
 (gh e_0).bind λ r1 =>
 if (!r1)=true then
  some 1
 else
  if e_0.fKind=1 then
   (gf n e_0.fValue).bind λ r5 =>
   some r5
  else
   (
     (ik e_0.fKind).bind λ r7 =>
     if r7=true then
      (dB n e_0.fName).bind λ r10 =>
      if (!r10)=true then
       some true
      else
       if e_0.fKind=4 then
        some false
       else
        (eT e_0.fName).bind λ r14 =>
        some r14
     else
      some false
    : Option Bool).bind λ t16 =>
   if t16=true then
    some 7
   else
    (
      if e_0.fKey=([]:Bytes) then
       some false
      else
       (dB n e_0.fKey).bind λ r19 =>
       if (!r19)=true then
        some true
       else
        (eT e_0.fKey).bind λ r22 =>
        some r22
     : Option Bool).bind λ t24 =>
    if t24=true then
     some 7
    else
     some 0
instance DK (n:Nat) (e_0:ac):∀ (r:Int),HP (iz n e_0=some r) Tryz.prog 68 [.agg (ac.cs e_0)] (.p (eI r)):=by
 refine hP good Tryz.func68 Z Z λ r h0 _ w0=>?_
 unfold iz at h0
 refine nx 9 Z (bd h0 λ r1 e2 h0=>?_)
 refine oK (HP.c e2) Z ⟨sr,trivial⟩ Tryz.call110 Z (nx 2 Z ?_)
 refine fB [5] h0 Z (λ c3 h0=>?_) λ c3 h0=>?_
 ·exact nx 6 Z (mQ (oi h0) Z (sr))
 refine nx 9 Z (fD [8] h0 Z (λ c4 h0=>?_) λ c4 h0=>?_)
 ·refine nx 5 Z (bd h0 λ r5 e6 h0=>?_)
  refine oK (HP.c e6) Z ⟨sr,trivial⟩ Tryz.call111 Z (nx 3 Z ?_)
  exact mQ (oi h0) Z (sr)
 refine nx 4 Z (bd h0 λ o28 h1 h0=>?_)
 refine kN o28 (λ v29=>⟨[(1,.ptr 1 0),(30,.p (eB v29))],[(1,(ac.cs e_0).map .p)]⟩) ?_ ?_
 ·refine nx 1 Z (fB [30] h0 Z (λ c17 h0=>?_) λ c17 h0=>?_)
  ·exact nx 6 Z (mQ (oi h0) Z (sr))
  refine nx 4 Z (bd h0 λ o30 h1 h0=>?_)
  refine kN o30 (λ v31=>⟨[(44,.p (eB v31))],[]⟩) ?_ ?_
  ·refine nx 1 Z (fB [44] h0 Z (λ c25 h0=>?_) λ c25 h0=>?_)
   ·exact nx 6 Z (mQ (oi h0) Z (sr))
   exact nx 7 Z (mQ (oi h0) Z (sr))
  refine nx 3 Z (oS Z Z ?_)
  refine nx 1 Z (fN [33,34] h1 Z (λ c18 h1=>?_) λ c18 h1=>?_)
  ·exact nx 11 Z (eX _ (oi h1).symm (gE Z Z))
  refine nx 2 Z (bd h1 λ r19 e20 h1=>?_)
  refine oK (HP.c e20) Z ⟨sr,trivial⟩ Tryz.call113 Z (nx 2 Z ?_)
  refine fB [38,39] h1 Z (λ c21 h1=>?_) λ c21 h1=>?_
  ·exact nx 6 Z (eX _ (oi h1).symm (gE Z Z))
  refine nx 2 Z (bd h1 λ r22 e23 h1=>?_)
  refine oK (HP.c e23) Z ⟨sr,trivial⟩ Tryz.call114 Z (nx 3 Z ?_)
  exact eX _ (oi h1).symm (gE Z Z)
 refine nx 3 Z (bd h1 λ r7 e8 h1=>?_)
 refine oK (HP.c e8) Z ⟨sr,trivial⟩ Tryz.call112 Z (nx 1 Z ?_)
 refine fB [14,15] h1 Z (λ c9 h1=>?_) λ c9 h1=>?_
 ·refine nx 2 Z (bd h1 λ r10 e11 h1=>?_)
  refine oK (HP.c e11) Z ⟨sr,trivial⟩ Tryz.call113 Z (nx 2 Z ?_)
  refine fB [19,20] h1 Z (λ c12 h1=>?_) λ c12 h1=>?_
  ·exact nx 11 Z (eX _ (oi h1).symm (gE Z Z))
  refine nx 4 Z (fN [23,24] h1 Z (λ c13 h1=>?_) λ c13 h1=>?_)
  ·exact nx 7 Z (eX _ (oi h1).symm (gE Z Z))
  refine nx 2 Z (bd h1 λ r14 e15 h1=>?_)
  refine oK (HP.c e15) Z ⟨sr,trivial⟩ Tryz.call114 Z (nx 4 Z ?_)
  exact eX _ (oi h1).symm (gE Z Z)
 exact nx 16 Z (eX _ (oi h1).symm (gE Z Z))
def bp (r_expr_checker_visit:bQ→ac→Int→Option (Int×bQ))(e_1:ac)(level_2:Int):Nat→Int→Int→Option (Int⊕(Int×bQ))
 | 0,_,_=>none
 | m+1,t16,f17 =>
 if t16 < (e_1.fKids.length:Int) then
  ck ((0:Int)≤t16∧t16 < (e_1.fKids.length:Int)) <|
  ck (inR (level_2+1)) <|
  (r_expr_checker_visit (bQ.mk f17) (lat e_1.fKids t16) (level_2+1)).bind λ r21 =>
  if r21.1=0 then
   ck (inR (t16+1)) <|
   bp r_expr_checker_visit e_1 level_2 m (t16+1) r21.2.fcount
  else
   some (.inr (r21.1,r21.2))
 else
  some (.inl f17)
def bj:Nat→bQ→ac→Int→Option (Int×bQ)
 | 0,_,_,_=>none
 | n+1,c_0,e_1,level_2 =>
 if 32 < level_2 then
  some (4,c_0)
 else
  if 4096≤c_0.fcount then
   some (14,c_0)
  else
   ck (inR (c_0.fcount+1)) <|
   (iz n e_1).bind λ r4 =>
   if r4=0 then
    jn (bp (bj n) e_1 level_2 n 0 (c_0.fcount+1)) λ f27 =>
    some (0,(bQ.mk f27))
   else
    some (r4,(bQ.mk (c_0.fcount+1)))
instance uy (n:Nat):∀ (c_0:bQ) (e_1:ac) (level_2:Int) (r:Int×bQ),HO (bj n c_0 e_1 level_2=some r) Tryz.prog 31 [.ptr 1000000 0,.p (.agg (ac.cs e_1)),.p (eI level_2)] [(1000000,[.p (eI c_0.fcount)])] (.p (eI r.1)) ([(1000000,[.p (eI r.2.fcount)])]):=by
 induction n with
 | zero=>intros; exact ⟨λ h=>by cases h⟩
 | succ n ih =>
 have ih_expr_checker_visit_ok:=ih
 refine λ c_0 e_1 level_2=>hO good [] [1000000] Tryz.func31 Z Z λ r h0 _ w0 F=>?_
 rw [bj] at h0
 refine nx 11 Z (fD [12] h0 Z (λ c1 h0=>?_) λ c1 h0=>?_)
 ·exact nx 6 Z (fC h0 Z)
 refine nx 11 Z (fD [17] h0 Z (λ c2 h0=>?_) λ c2 h0=>?_)
 ·exact nx 6 Z (fC h0 Z)
 refine nx 8 Z (oA h0 Z Z λ hk3 h0=>?_)
 refine nx 8 Z (bd h0 λ r4 e5 h0=>?_)
 refine oK (HP.c e5) Z ⟨sr,trivial⟩ Tryz.call68 Z (nx 7 Z ?_)
 refine fN [28] h0 Z (λ c6 h0=>?_) λ c6 h0=>?_
 ·refine nx 7 Z (oLl (f:=aj) Z Z ?_)
  refine nx 3 Z ?_
  obtain ⟨o29,h1,hL0,hR0⟩:=dj h0
  refine kEx 0 (λ v30:Int=>o29=.inl v30) (λ v30=>⟨[],[(1000000,[.p (eI v30)])]⟩) (λ v30 hv=>?_) ?_
  ·have h0:=hL0 _ hv
   exact nx 6 Z (fC h0 Z)
  refine lG (λ (q31:Int×Int)=>⟨[(0,.ptr 1000000 0),(2,.p (eI level_2)),(31,.p (eL aj e_1.fKids)),(32,.p (eI (e_1.fKids.length:Int))),(33,.p (eI q31.1))],[(1000000,[.p (eI q31.2)])]⟩) (λ m (q31:Int×Int)=>bp (bj n) e_1 level_2 m q31.1 q31.2) Y (0,c_0.fcount+1) h1 (gE Z Z) ?_
  rintro m ⟨t16,f17⟩ h1
  replace h1:bp (bj n) e_1 level_2 (m+1) t16 f17=some o29:=h1
  rw [bp] at h1
  refine nx 5 Z (fD [34] h1 Z (λ c18 h1=>?_) λ c18 h1=>?_)
  ·refine nx 6 Z (oE h1 ac.cells_eq Z Z Y λ hk19 h1=>?_)
   refine nx 9 Z (oA h1 Z Z λ hk20 h1=>?_)
   refine bd h1 λ r21 e22 h1=>mO Z (cVq [1000000] [] 102000 102000 (HO.c e22) Tryz.call31 Z ?_)
   refine nx 7 Z (fN [43] h1 Z (λ c23 h1=>?_) λ c23 h1=>?_)
   ·refine nx 3 Z (oA h1 Z Z λ hk24 h1=>?_)
    exact nx 2 Z (eX (t16+1,r21.2.fcount) h1 (gE Z Z))
   exact nx 7 Z (mQo (hR0 _ (oi h1).symm) (au _) Z Z Z Z (sr) ⟨⟨_,Z,⟨sr,trivial⟩⟩,trivial⟩)
  exact nx 2 Z (eXi _ (oi h1).symm (gE Z Z))
 exact nx 7 Z (fC h0 Z)
def gD (n:Nat)(e_0:ac):Option Int :=
 (bj n (bQ.mk 0) e_0 1).bind λ r1 =>
 some r1.1
instance Cg (n:Nat) (e_0:ac):∀ (r:Int),HP (gD n e_0=some r) Tryz.prog 12 [.agg (ac.cs e_0)] (.p (eI r)):=by
 refine hP good Tryz.func12 Z Z λ r h0 _ w0=>?_
 unfold gD at h0
 refine nx 15 Z (bd h0 λ r1 e2 h0=>?_)
 refine mO Z (cVq [5] [] 101000 101000 (HO.c e2) Tryz.call31 Z ?_)
 exact nx 3 Z (mQ (oi h0) Z (sr))
def bU (p_0:ae):Nat→Int→Option Int
 | 0,_=>none
 | m+1,f7 =>
 (
   if 0 < p_0.fnest then
    ck ((0:Int)≤f7∧f7 < (p_0.fl.length:Int)) <|
    some (decide ((lat p_0.fl f7).fKind=5))
   else
    some false
  : Option Bool).bind λ t10 =>
 if t10=true then
  ck (inR (f7+1)) <|
  bU p_0 m (f7+1)
 else
  some f7
def bb (n:Nat)(p_0:ae):Option (ad×ae) :=
 (bU p_0 n p_0.fat).bind λ f14 =>
 ck ((0:Int)≤f14∧f14 < (p_0.fl.length:Int)) <|
 ck (inR (((lat p_0.fl f14).fAt)+p_0.fbase)) <|
 some ((ad.mk ((lat p_0.fl f14).fKind) ((lat p_0.fl f14).fText) (((lat p_0.fl f14).fAt)+p_0.fbase)),(ae.mk p_0.fl f14 p_0.fnest p_0.fbase p_0.fbad))
instance wc (n:Nat) (p_0:ae):∀ (r:ad×ae),HO (bb n p_0=some r) Tryz.prog 70 [.ptr 1000000 0] [(1000000,((ae.cs p_0).map .p))] (.p (.agg (ad.cs r.1))) ([(1000000,((ae.cs r.2).map .p))]):=by
 refine hO good [] [1000000] Tryz.func70 Z Z λ r h0 _ w0 F=>?_
 unfold bb at h0
 refine nx 6 Z (bd h0 λ o19 h1 h0=>?_)
 refine kE 0 o19 (λ v20=>⟨[(0,.ptr 1000000 0),(2,.ptr 2 0)],[(2,iH),(1000000,[.p (eL aU p_0.fl),.p (eI v20),.p (eI p_0.fnest),.p (eI p_0.fbase),.p (eI p_0.fbad.fKind),.p (eI p_0.fbad.fAt),.p (eS p_0.fbad.fName)])]⟩) ?_ ?_
 ·refine nx 2 Z (cc' h0 λ hk15 h0=>?_)
  refine mG (gE (t:=⟨[(0,.ptr 1000000 0),(2,.ptr 2 0)],[(2,iH),(1000000,[.p (eL aU p_0.fl),.p (eI o19),.p (eI p_0.fnest),.p (eI p_0.fbase),.p (eI p_0.fbad.fKind),.p (eI p_0.fbad.fAt),.p (eS p_0.fbad.fName)])]⟩) Z Z) (mSq ⟨2,[10,11],(by3 (.some λ i=>Nat.beq i 3) .none .none),(λ _=>[(0,.ptr 1000000 0),(2,.ptr 2 0)]),(ob3 ([(2,iH),(1000000,[.p (eL aU p_0.fl),.p (eI o19),.p (eI p_0.fnest),.p (eI p_0.fbase),.p (eI p_0.fbad.fKind),.p (eI p_0.fbad.fAt),.p (eS p_0.fbad.fName)])]) (3,iH) (3,[.p (eI ((lat p_0.fl o19).fKind)),.p (eS ((lat p_0.fl o19).fText)),.p (eI ((lat p_0.fl o19).fAt))]))⟩ Z ?_)
  refine dPc (.ptr 1000000 0) Z (dPc (.ptr 1000000 0) Z ?_)
  refine dPc (.ptr 1000000 0) Z (dPc (.p (eL aU p_0.fl)) Z ?_)
  refine dPc (.ptr 1000000 0) Z (dPc (.ptr 1000000 0) Z ?_)
  refine dPc (.ptr 1000000 1) Z (dPc (.p (eI o19)) Z ?_)
  refine aR (λ _=>.rptr (ad.cs (lat p_0.fl o19))) Z Z Z (nC Z Z Y) (lt2 Z Z) (az Z (aB [(33,_),(37,_)] ⟨.inr ⟨3,_,Z,Z,Z⟩,.inr ⟨7,_,Z,Z,Z⟩,trivial⟩ (λ sl hsl K hK=>ap Z (mg (f:=aU) (l:=p_0.fl) ad.cs Z Z Z Z Z Z (hsl _ _ Z) Z (hsl _ _ Z) hk15 ad.cells_eq Y hK)) (aB [(33,_),(37,_)] ⟨.inr ⟨3,_,Z,Z,Z⟩,.inr ⟨7,_,Z,Z,Z⟩,trivial⟩ (λ sl hsl K hK=>ap Z (mg (f:=aU) (l:=p_0.fl) ad.cs Z Z Z Z Z Z (hsl _ _ Z) Z (hsl _ _ Z) hk15 ad.cells_eq Y hK)) aS))) (dPc (.p (.agg (ad.cs (lat p_0.fl o19)))) Z ?_)
  refine eQ (λ _=>.ptr 3 0) [] Z trivial Z Z (gw Z Y) (lt2 (λ h=>absurd h (by decide)) Y) (λ sl hsl K hK=>ap Z (gJ Z Z Z Z Z hK)) (dS Z ?_)
  refine cY (nx 2 Z ?_)
  refine cc' h0 λ hk16 h0=>mG (gE (t:=⟨[(0,.ptr 1000000 0),(2,.ptr 2 0),(3,.ptr 3 0)],[(2,iH),(3,(ad.cs (lat p_0.fl o19)).map .p),(1000000,[.p (eL aU p_0.fl),.p (eI o19),.p (eI p_0.fnest),.p (eI p_0.fbase),.p (eI p_0.fbad.fKind),.p (eI p_0.fbad.fAt),.p (eS p_0.fbad.fName)])]⟩) Z Z) (mSq ⟨1,[8],(λ _=>.none),(λ _=>[(0,.ptr 1000000 0),(2,.ptr 2 0),(3,.ptr 3 0)]),(ob2 ([(2,iH),(3,[.p (eI ((lat p_0.fl o19).fKind)),.p (eS ((lat p_0.fl o19).fText)),.p (eI ((lat p_0.fl o19).fAt))]),(1000000,[.p (eL aU p_0.fl),.p (eI o19),.p (eI p_0.fnest),.p (eI p_0.fbase),.p (eI p_0.fbad.fKind),.p (eI p_0.fbad.fAt),.p (eS p_0.fbad.fName)])]) (3,[.p (eI ((lat p_0.fl o19).fKind)),.p (eS ((lat p_0.fl o19).fText)),.p (eI (((lat p_0.fl o19).fAt)+p_0.fbase))]))⟩ Z ?_)
  refine dPc (.ptr 3 2) Z (dPc (.p (eI ((lat p_0.fl o19).fAt))) Z ?_)
  refine dPc (.ptr 1000000 0) Z (dPc (.ptr 1000000 0) Z ?_)
  refine dPc (.ptr 1000000 3) Z (dPc (.p (eI p_0.fbase)) Z ?_)
  refine aR (λ _=>.p (eI (((lat p_0.fl o19).fAt)+p_0.fbase))) Z Z Z (gw Z Y) (lt1 Z) (az Z (aB [(41,_),(45,_)] ⟨.inr ⟨1,_,Z,Z,Z⟩,.inr ⟨5,_,Z,Z,Z⟩,trivial⟩ (λ sl hsl K hK=>ap Z (ew Z Z Z (hsl _ _ Z) (hsl _ _ Z) Z hk16 hK)) aS)) (dPc (.ptr 3 2) Z ?_)
  refine dS Z (cY ?_)
  exact nx 7 Z (fC h0 Z)
 refine lG (λ (q21:Int)=>⟨[(0,.ptr 1000000 0),(2,.ptr 2 0)],[(2,iH),(1000000,[.p (eL aU p_0.fl),.p (eI q21),.p (eI p_0.fnest),.p (eI p_0.fbase),.p (eI p_0.fbad.fKind),.p (eI p_0.fbad.fAt),.p (eS p_0.fbad.fName)])]⟩) (λ m (q21:Int)=>bU p_0 m q21) Y p_0.fat h1 (gE Z Z) ?_
 rintro m f7 h1
 replace h1:bU p_0 (m+1) f7=some o19:=h1
 rw [bU] at h1
 refine nx 2 Z (bd h1 λ o22 h2 h1=>?_)
 refine kN o22 (λ v23=>⟨[(0,.ptr 1000000 0),(2,.ptr 2 0),(22,.p (eB v23))],[(2,iH),(1000000,[.p (eL aU p_0.fl),.p (eI f7),.p (eI p_0.fnest),.p (eI p_0.fbase),.p (eI p_0.fbad.fKind),.p (eI p_0.fbad.fAt),.p (eS p_0.fbad.fName)])]⟩) ?_ ?_
 ·refine nx 1 Z (fB [22] h1 Z (λ c11 h1=>?_) λ c11 h1=>?_)
  ·refine nx 8 Z (oA h1 Z Z λ hk12 h1=>?_)
   exact nx 4 Z (eX (f7+1) h1 (gE Z Z))
  exact nx 2 Z (eXi _ (oi h1).symm (gE Z Z))
 refine fD (p:=0 < p_0.fnest) [] h2 Z (λ c8 h2=>?_) λ c8 h2=>?_
 ·refine cc' h2 λ hk9 h2=>mD [(0,.ptr 1000000 0),(2,.ptr 2 0)] Z ⟨Z,Z,trivial⟩ Z (dR 4 Z ?_)
  refine dL (dt c8) Z (dR 9 Z ?_)
  refine dq (.rptr (ad.cs (lat p_0.fl f7))) [9,13,17] Z (λ _ e _ q=>fw (mg (f:=aU) (l:=p_0.fl) ad.cs Z Z Z Z Z Z (e _ _ Z) Z (e _ _ Z) hk9 ad.cells_eq Y q) Z Z (e _ _ Z) (rfl)) Z (dR 4 Z ?_)
  refine dE Z (nx 1 Z ?_)
  exact eX _ (oi h2).symm (gE Z Z)
 refine mD [(0,.ptr 1000000 0),(2,.ptr 2 0)] Z ⟨Z,Z,trivial⟩ Z (dR 4 Z ?_)
 refine dL (df c8) Z (dR 14 Z ?_)
 refine dE Z (nx 1 Z ?_)
 exact eX _ (oi h2).symm (gE Z Z)
def aH (n:Nat)(p_0:ae):Option (ad×ae) :=
 (bb n p_0).bind λ r1 =>
 (
   if r1.1.fKind=6 then
    some r1.2.fat
   else
    ck (inR (r1.2.fat+1)) <|
    some (r1.2.fat+1)
  : Option Int).bind λ f5 =>
 some (r1.1,(ae.mk r1.2.fl f5 r1.2.fnest r1.2.fbase r1.2.fbad))
instance vY (n:Nat) (p_0:ae):∀ (r:ad×ae),HO (aH n p_0=some r) Tryz.prog 102 [.ptr 1000000 0] [(1000000,((ae.cs p_0).map .p))] (.p (.agg (ad.cs r.1))) ([(1000000,((ae.cs r.2).map .p))]):=by
 refine hO good [] [1000000] Tryz.func102 Z Z λ r h0 _ w0 F=>?_
 unfold aH at h0
 refine nx 7 Z (bd h0 λ r1 e2 h0=>?_)
 refine mO Z (cVq [1000000] [] 101000 101000 (HO.c e2) Tryz.call70 Z ?_)
 refine nx 4 Z (bd h0 λ o7 h1 h0=>?_)
 refine kN o7 (λ v8=>⟨[(2,.ptr 2 0),(3,.ptr 3 0)],[(2,iH),(3,(ad.cs r1.1).map .p),(1000000,[.p (eL aU r1.2.fl),.p (eI v8),.p (eI r1.2.fnest),.p (eI r1.2.fbase),.p (eI r1.2.fbad.fKind),.p (eI r1.2.fbad.fAt),.p (eS r1.2.fbad.fName)])]⟩) ?_ ?_
 ·exact nx 7 Z (fC h0 Z)
 refine nx 6 Z (fN [8] h1 Z (λ c3 h1=>?_) λ c3 h1=>?_)
 ·exact nx 2 Z (eX _ (oi h1).symm (gE Z Z))
 refine nx 6 Z (oA h1 Z Z λ hk4 h1=>?_)
 exact nx 4 Z (eX _ (oi h1).symm (gE Z Z))
def aV (p_0:ae):Option (Bool×ae) :=
 some (!decide (p_0.fbad.fKind=0),p_0)
instance uv (p_0:ae):∀ (r:Bool×ae),HO (aV p_0=some r) Tryz.prog 121 [.ptr 1000000 0] [(1000000,((ae.cs p_0).map .p))] (.p (eB r.1)) ([(1000000,((ae.cs r.2).map .p))]):=by
 refine hO good [] [1000000] Tryz.func121 Z Z λ r h0 _ w0 F=>?_
 unfold aV at h0
 exact nx 15 Z (fC h0 Z)
def aP (n:Nat)(p_0:ae)(s_1:Bytes):Option (Bool×ae) :=
 (bb n p_0).bind λ r1 =>
 (
   (aV r1.2).bind λ r3 =>
   if (!r3.1)=true then
    if r1.1.fKind=4 then
     some (decide (r1.1.fText=s_1),r3.2.fl,r3.2.fat,r3.2.fnest,r3.2.fbase,r3.2.fbad.fKind,r3.2.fbad.fAt,r3.2.fbad.fName)
    else
     some (false,r3.2.fl,r3.2.fat,r3.2.fnest,r3.2.fbase,r3.2.fbad.fKind,r3.2.fbad.fAt,r3.2.fbad.fName)
   else
    some (false,r3.2.fl,r3.2.fat,r3.2.fnest,r3.2.fbase,r3.2.fbad.fKind,r3.2.fbad.fAt,r3.2.fbad.fName)
  : Option (Bool×(List ad)×Int×Int×Int×Int×Int×Bytes)).bind λ q15 =>
 some (q15.1,(ae.mk q15.2.1 q15.2.2.1 q15.2.2.2.1 q15.2.2.2.2.1 (ax.mk q15.2.2.2.2.2.1 q15.2.2.2.2.2.2.1 q15.2.2.2.2.2.2.2)))
instance wa (n:Nat) (p_0:ae) (s_1:Bytes):∀ (r:Bool×ae),HO (aP n p_0 s_1=some r) Tryz.prog 101 [.ptr 1000000 0,.p (eS s_1)] [(1000000,((ae.cs p_0).map .p))] (.p (eB r.1)) ([(1000000,((ae.cs r.2).map .p))]):=by
 refine hO good [] [1000000] Tryz.func101 Z Z λ r h0 _ w0 F=>?_
 unfold aP at h0
 refine nx 7 Z (bd h0 λ r1 e2 h0=>?_)
 refine mO Z (cVq [1000000] [] 101000 101000 (HO.c e2) Tryz.call70 Z ?_)
 refine nx 4 Z (bd h0 λ o16 h1 h0=>?_)
 refine kN o16 (λ v17=>⟨[(4,.p (eB v17.1))],[(1000000,[.p (eL aU v17.2.1),.p (eI v17.2.2.1),.p (eI v17.2.2.2.1),.p (eI v17.2.2.2.2.1),.p (eI v17.2.2.2.2.2.1),.p (eI v17.2.2.2.2.2.2.1),.p (eS v17.2.2.2.2.2.2.2)])]⟩) ?_ ?_
 ·exact nx 2 Z (fC h0 Z)
 refine nx 2 Z (bd h1 λ r3 e4 h1=>?_)
 refine mO Z (cVq [1000000] [] 102000 102000 (HO.c e4) Tryz.call121 Z ?_)
 refine nx 2 Z (fB [10,11] h1 Z (λ c5 h1=>?_) λ c5 h1=>?_)
 ·refine nx 5 Z (fD [14,15,16] h1 Z (λ c6 h1=>?_) λ c6 h1=>?_)
  ·refine nx 3 Z (oS Z Z ?_)
   exact nx 3 Z (eX _ (oi h1).symm (gE Z Z))
  exact nx 7 Z (eX _ (oi h1).symm (gE Z Z))
 exact nx 12 Z (eX _ (oi h1).symm (gE Z Z))
def bu (p_0:ae)(k_1:Int)(at_2:Int):Option (ac×ae) :=
 (
   (aV p_0).bind λ r1 =>
   if (!r1.1)=true then
    some (r1.2.fl,r1.2.fat,r1.2.fnest,r1.2.fbase,k_1,at_2,([]:Bytes))
   else
    some (r1.2.fl,r1.2.fat,r1.2.fnest,r1.2.fbase,r1.2.fbad.fKind,r1.2.fbad.fAt,r1.2.fbad.fName)
  : Option ((List ad)×Int×Int×Int×Int×Int×Bytes)).bind λ q11 =>
 some ((ac.mk 0 0 ([]:Bytes) ([]:Bytes) (ah.mk 0 0 ([]:Bytes) [] []) [] 0),(ae.mk q11.1 q11.2.1 q11.2.2.1 q11.2.2.2.1 (ax.mk q11.2.2.2.2.1 q11.2.2.2.2.2.1 q11.2.2.2.2.2.2)))
instance vU (p_0:ae) (k_1:Int) (at_2:Int):∀ (r:ac×ae),HO (bu p_0 k_1 at_2=some r) Tryz.prog 71 [.ptr 1000000 0,.p (eI k_1),.p (eI at_2)] [(1000000,((ae.cs p_0).map .p))] (.p (.agg (ac.cs r.1))) ([(1000000,((ae.cs r.2).map .p))]):=by
 refine hO good [] [1000000] Tryz.func71 Z Z λ r h0 _ w0 F=>?_
 unfold bu at h0
 refine nx 5 Z (bd h0 λ o12 h1 h0=>?_)
 refine kN o12 (λ v13=>⟨[(6,.ptr 6 0)],[(6,j5),(1000000,[.p (eL aU v13.1),.p (eI v13.2.1),.p (eI v13.2.2.1),.p (eI v13.2.2.2.1),.p (eI v13.2.2.2.2.1),.p (eI v13.2.2.2.2.2.1),.p (eS v13.2.2.2.2.2.2)])]⟩) ?_ ?_
 ·exact nx 7 Z (mQo (oi h0) (au _) Z Z Z Z (cR ⟨.inl Z,.inl Z,.inl Z,.inl Z,.inl Z,.inl Z,.inl Z,.inr ⟨Z,Z⟩,.inr ⟨Z,Z⟩,.inr ⟨Z,Z⟩,.inl Z,trivial⟩) ⟨⟨_,Z,⟨sr,sr,sr,sr,sr,sr,sr,trivial⟩⟩,trivial⟩)
 refine nx 3 Z (bd h1 λ r1 e2 h1=>?_)
 refine mO Z (cVq [1000000] [] 101000 101000 (HO.c e2) Tryz.call121 Z ?_)
 refine nx 2 Z (fB [9] h1 Z (λ c3 h1=>?_) λ c3 h1=>?_)
 ·exact nx 10 Z (eX _ (oi h1).symm (gE Z Z))
 exact nx 2 Z (eX _ (oi h1).symm (gE Z Z))
def fx (v_0:ah)(at_1:Int):Option ac :=
 some (ac.mk 1 0 ([]:Bytes) ([]:Bytes) v_0 [] at_1)
instance zI (v_0:ah) (at_1:Int):∀ (r:ac),HP (fx v_0 at_1=some r) Tryz.prog 39 [.agg (ah.cs v_0),eI at_1] (.p (.agg (ac.cs r))):=by
 refine hP good Tryz.func39 Z Z λ r h0 _ w0=>?_
 unfold fx at h0
 exact nx 13 Z (mQ (oi h0) Z (cR ⟨.inl Z,.inl Z,.inl Z,.inl Z,.inl Z,.inl Z,.inl Z,.inl Z,.inl Z,.inr ⟨Z,Z⟩,.inl Z,trivial⟩))
def eW (n:Nat)(e_0:ac)(d_1:ax):Option (ac×ax) :=
 if d_1.fKind=0 then
  (gD n e_0).bind λ r2 =>
  if r2=0 then
   some (e_0,(ax.mk 0 0 ([]:Bytes)))
  else
   some ((ac.mk 0 0 ([]:Bytes) ([]:Bytes) (ah.mk 0 0 ([]:Bytes) [] []) [] 0),(ax.mk r2 e_0.fAt ([]:Bytes)))
 else
  some ((ac.mk 0 0 ([]:Bytes) ([]:Bytes) (ah.mk 0 0 ([]:Bytes) [] []) [] 0),d_1)
instance AE (n:Nat) (e_0:ac) (d_1:ax):∀ (r:ac×ax),HP (eW n e_0 d_1=some r) Tryz.prog 34 [.agg (ac.cs e_0),.agg (ax.cs d_1)] (.tuple [.p (.agg (ac.cs r.1)),.p (.agg (ax.cs r.2))]):=by
 refine hP good Tryz.func34 Z Z λ r h0 _ w0=>?_
 unfold eW at h0
 refine nx 14 Z (fN [9] h0 Z (λ c1 h0=>?_) λ c1 h0=>?_)
 ·refine nx 6 Z (bd h0 λ r2 e3 h0=>?_)
  refine oK (HP.c e3) Z ⟨sr,trivial⟩ Tryz.call12 Z (nx 7 Z ?_)
  refine fN [15] h0 Z (λ c4 h0=>?_) λ c4 h0=>?_
  ·exact nx 10 Z (mQ (oi h0) Z (bz ⟨sr,sr,trivial⟩))
  refine nx 2 Z (mG (gE (t:=⟨[(2,.ptr 2 0),(4,.ptr 4 0),(5,.ptr 5 0),(6,.p (eI r2))],[(2,(ac.cs e_0).map .p),(4,j5),(5,ff)]⟩) Z Z) ?_)
  refine mSq ⟨2,[5,6],(λ _=>.none),(λ _=>[(2,.ptr 2 0),(4,.ptr 4 0),(5,.ptr 5 0),(6,.p (eI r2))]),(ob3 ([(2,((ac.cs e_0).map .p)),(4,j5),(5,ff)]) (4,j5) (5,[.p (eI r2),.p (eI e_0.fAt),.p (eS ([]:Bytes))]))⟩ Z (dPc (.p (.agg lc)) Z ?_)
  refine dPc (.p (eI r2)) Z (dPc (.ptr 2 10) Z ?_)
  refine dPc (.p (eI e_0.fAt)) Z (dPc (.p (.agg [eI r2,eI e_0.fAt,eS ([]:Bytes)])) Z ?_)
  refine dS Z (dS Z ?_)
  refine cY (nx 2 Z ?_)
  exact mQ (oi h0) Z (bz ⟨cR ⟨.inl Z,.inl Z,.inl Z,.inl Z,.inl Z,.inl Z,.inl Z,.inr ⟨Z,Z⟩,.inr ⟨Z,Z⟩,.inr ⟨Z,Z⟩,.inl Z,trivial⟩,sr,trivial⟩)
 refine nx 2 Z (mG (gE (t:=⟨[(3,.ptr 3 0),(4,.ptr 4 0),(5,.ptr 5 0)],[(3,(ax.cs d_1).map .p),(4,j5),(5,ff)]⟩) Z Z) ?_)
 refine mSq ⟨2,[2,3],(λ _=>.none),(λ _=>[(3,.ptr 3 0),(4,.ptr 4 0),(5,.ptr 5 0)]),(ob3 ([(3,((ax.cs d_1).map .p)),(4,j5),(5,ff)]) (4,j5) (5,((ax.cs d_1).map .p)))⟩ Z (dPc (.p (.agg lc)) Z ?_)
 refine dPc (.p (.agg (ax.cs d_1))) Z (dS Z ?_)
 refine dS Z (cY ?_)
 exact nx 2 Z (mQ (oi h0) Z (bz ⟨cR ⟨.inl Z,.inl Z,.inl Z,.inl Z,.inl Z,.inl Z,.inl Z,.inr ⟨Z,Z⟩,.inr ⟨Z,Z⟩,.inr ⟨Z,Z⟩,.inl Z,trivial⟩,sr,trivial⟩))
def dC (t_0:al):Option (ax×al) :=
 if 4096 < (t_0.ftext.length:Int) then
  ck (inR (t_0.fat+t_0.ffrom)) <|
  some ((ax.mk 3 (t_0.fat+t_0.ffrom) ([]:Bytes)),(al.mk t_0.fs t_0.fat t_0.fi t_0.ffrom t_0.ftext t_0.fparts t_0.fopen))
 else
  some ((ax.mk 0 0 ([]:Bytes)),(al.mk t_0.fs t_0.fat t_0.fi t_0.ffrom t_0.ftext t_0.fparts t_0.fopen))
instance uz (t_0:al):∀ (r:ax×al),HO (dC t_0=some r) Tryz.prog 76 [.ptr 1000000 0] [(1000000,[.p (eS t_0.fs),.p (eI t_0.fat),.p (eI t_0.fi),.p (eI t_0.ffrom),.p (eS t_0.ftext),.vec 900000 11 0 (t_0.fparts.map aj),.p (eB t_0.fopen)])] (.p (.agg (ax.cs r.1))) ([(1000000,[.p (eS r.2.fs),.p (eI r.2.fat),.p (eI r.2.fi),.p (eI r.2.ffrom),.p (eS r.2.ftext),.vec 2000000 11 0 (r.2.fparts.map aj),.p (eB r.2.fopen)])]):=by
 refine hO good [800000] [1000000] Tryz.func76 Z Z λ r h0 _ w0 F=>?_
 unfold dC at h0
 refine nx 11 Z (oLs Z ?_)
 refine nx 2 Z (fD [8] h0 Z (λ c1 h0=>?_) λ c1 h0=>?_)
 ·refine nx 2 Z (cc' h0 λ hk2 h0=>?_)
  refine mG (gE (t:=⟨[(0,.ptr 1000000 0),(2,.ptr 2 0)],[(2,ff),(1000000,[.p (eS t_0.fs),.p (eI t_0.fat),.p (eI t_0.fi),.p (eI t_0.ffrom),.p (eS t_0.ftext),.vec 900000 11 0 (t_0.fparts.map aj),.p (eB t_0.fopen)])]⟩) Z Z) (mSq ⟨1,[10],(λ _=>.none),(λ _=>[(0,.ptr 1000000 0),(2,.ptr 2 0)]),(ob2 ([(2,ff),(1000000,[.p (eS t_0.fs),.p (eI t_0.fat),.p (eI t_0.fi),.p (eI t_0.ffrom),.p (eS t_0.ftext),.vec 900000 11 0 (t_0.fparts.map aj),.p (eB t_0.fopen)])]) (2,[.p (eI 3),.p (eI (t_0.fat+t_0.ffrom)),.p (eS ([]:Bytes))]))⟩ Z ?_)
  refine dPc (.ptr 1000000 0) Z (dPc (.ptr 1000000 0) Z ?_)
  refine dPc (.ptr 1000000 1) Z (dPc (.p (eI t_0.fat)) Z ?_)
  refine dPc (.ptr 1000000 0) Z (dPc (.ptr 1000000 0) Z ?_)
  refine dPc (.ptr 1000000 3) Z (dPc (.p (eI t_0.ffrom)) Z ?_)
  refine aR (λ _=>.p (eI (t_0.fat+t_0.ffrom))) Z Z Z (gw Z Y) (lt1 Z) (az Z (aB [(12,_),(16,_)] ⟨.inr ⟨3,_,Z,Z,Z⟩,.inr ⟨7,_,Z,Z,Z⟩,trivial⟩ (λ sl hsl K hK=>ap Z (ew Z Z Z (hsl _ _ Z) (hsl _ _ Z) Z hk2 hK)) aS)) (dPc (.p (.agg [eI 3,eI (t_0.fat+t_0.ffrom),eS ([]:Bytes)])) Z ?_)
  refine dS Z (cY ?_)
  exact nx 2 Z (mQo (oi h0) (aY (bK 900000 800000 Z Z Z Z Z) (au _)) Z Z Z Z (sr) ⟨⟨_,Z,⟨sr,sr,sr,sr,sr,sr,sr,trivial⟩⟩,trivial⟩)
 exact nx 8 Z (mQo (oi h0) (aY (bK 900000 800000 Z Z Z Z Z) (au _)) Z Z Z Z (sr) ⟨⟨_,Z,⟨sr,sr,sr,sr,sr,sr,sr,trivial⟩⟩,trivial⟩)
def d6 (t_0:al):Option al :=
 (
   if t_0.ffrom < t_0.fi then
    ck (inR (t_0.fat+t_0.ffrom)) <|
    (fx (ah.mk 3 0 t_0.ftext [] []) (t_0.fat+t_0.ffrom)).bind λ r3 =>
    ck ((t_0.fparts.length+1)*160≤140737488355328) <|
    some (t_0.fparts++[r3])
   else
    some t_0.fparts
  : Option (List ac)).bind λ f6 =>
 some (al.mk t_0.fs t_0.fat t_0.fi t_0.ffrom ([]:Bytes) f6 t_0.fopen)
instance tA (t_0:al):∀ (r:al),HO (d6 t_0=some r) Tryz.prog 40 [.ptr 1000000 0] [(1000000,[.p (eS t_0.fs),.p (eI t_0.fat),.p (eI t_0.fi),.p (eI t_0.ffrom),.p (eS t_0.ftext),.vec 900000 11 0 (t_0.fparts.map aj),.p (eB t_0.fopen)])] (.tuple []) ([(1000000,[.p (eS r.fs),.p (eI r.fat),.p (eI r.fi),.p (eI r.ffrom),.p (eS r.ftext),.vec 2000000 11 0 (r.fparts.map aj),.p (eB r.fopen)])]):=by
 refine hO good [800000] [1000000] Tryz.func40 Z Z λ r h0 _ w0 F=>?_
 unfold d6 at h0
 refine nx 1 Z (bd h0 λ o8 h1 h0=>?_)
 refine kN o8 (λ v9=>⟨[(0,.ptr 1000000 0)],[(1000000,[.p (eS t_0.fs),.p (eI t_0.fat),.p (eI t_0.fi),.p (eI t_0.ffrom),.p (eS t_0.ftext),.vec 900000 11 0 (v9.map aj),.p (eB t_0.fopen)])]⟩) ?_ ?_
 ·exact nx 7 Z (rZ (oi h0) (aY (bK 900000 800000 Z Z Z Z Z) (au _)) Z Z Z Z (sr) ⟨⟨_,Z,⟨sr,sr,sr,sr,sr,sr,sr,trivial⟩⟩,trivial⟩)
 refine nx 1 Z (mD [(0,.ptr 1000000 0)] Z ⟨Z,trivial⟩ Z ?_)
 refine dR 9 Z (dE Z ?_)
 refine nx 1 Z (fD [10] h1 Z (λ c1 h1=>?_) λ c1 h1=>?_)
 ·refine nx 1 Z (cc' h1 λ hk2 h1=>?_)
  refine bd h1 λ r3 e4 h1=>cc' h1 λ hk5 h1=>mG (gE (t:=⟨[(0,.ptr 1000000 0)],[(1000000,[.p (eS t_0.fs),.p (eI t_0.fat),.p (eI t_0.fi),.p (eI t_0.ffrom),.p (eS t_0.ftext),.vec 900000 11 0 (t_0.fparts.map aj),.p (eB t_0.fopen)])]⟩) Z Z) (mSP ⟨3,[21,23,26],(by4 (.some λ i=>Nat.beq i 900000||Nat.beq i 32) (.fn (upP 32 11 (.agg (ac.cs r3)))) .none .none),(λ _=>[(0,.ptr 1000000 0)]),(by4 ([(1000000,[.p (eS t_0.fs),.p (eI t_0.fat),.p (eI t_0.fi),.p (eI t_0.ffrom),.p (eS t_0.ftext),.vec 900000 11 0 (t_0.fparts.map aj),.p (eB t_0.fopen)])]) ([(1000000,((al.cs t_0).map .p))]) ([(1000000,((al.cs t_0).map .p))]) ([(1000000,[.p (eS t_0.fs),.p (eI t_0.fat),.p (eI t_0.fi),.p (eI t_0.ffrom),.p (eS t_0.ftext),.vec 32 11 0 (t_0.fparts.map aj++[.agg (ac.cs r3)]),.p (eB t_0.fopen)]),(1000000,((al.cs t_0).map .p))]))⟩ ⟨3,[21,26,23],(by4 (.some λ i=>Nat.beq i 900000||Nat.beq i 32) .none (.fn (upP 32 11 (.agg (ac.cs r3)))) .none),(λ _=>[(0,.ptr 1000000 0)]),(by4 ([(1000000,[.p (eS t_0.fs),.p (eI t_0.fat),.p (eI t_0.fi),.p (eI t_0.ffrom),.p (eS t_0.ftext),.vec 900000 11 0 (t_0.fparts.map aj),.p (eB t_0.fopen)])]) ([(1000000,((al.cs t_0).map .p))]) ([(1000000,[.p (eS t_0.fs),.p (eI t_0.fat),.p (eI t_0.fi),.p (eI t_0.ffrom),.p (eS t_0.ftext),.vecp 32 11 0 (t_0.fparts.map aj),.p (eB t_0.fopen)]),(1000000,((al.cs t_0).map .p))]) ([(1000000,[.p (eS t_0.fs),.p (eI t_0.fat),.p (eI t_0.fi),.p (eI t_0.ffrom),.p (eS t_0.ftext),.vec 32 11 0 (t_0.fparts.map aj++[.agg (ac.cs r3)]),.p (eB t_0.fopen)]),(1000000,((al.cs t_0).map .p))]))⟩ Z Z Z Z Z Z Z ⟨Z,trivial⟩ Z (lt3 ⟨Z,trivial⟩ ⟨Z,trivial⟩ ⟨Z,trivial⟩) (lt3 ⟨Z,trivial⟩ ⟨Z,trivial⟩ ⟨Z,trivial⟩) Z Z Z Z Z ?_)
  refine dPc (.ptr 1000000 0) Z (dPc (.ptr 1000000 0) Z ?_)
  refine dPc (.ptr 1000000 5) Z (dP (by4 (.vec 900000 11 0 (t_0.fparts.map aj)) (.p (eL aj t_0.fparts)) (.p (eL aj t_0.fparts)) (.p (eL aj t_0.fparts))) Z ?_)
  refine dPc (.ptr 1000000 0) Z (dPc (.ptr 1000000 0) Z ?_)
  refine dPc (.ptr 1000000 4) Z (dPc (.p (eS t_0.ftext)) Z ?_)
  refine dPc (.p (.agg [eI 3,eI 0,eS t_0.ftext,.val (.slice none 0 0),.val (.slice none 0 0)])) Z (dPc (.ptr 1000000 0) Z ?_)
  refine dPc (.ptr 1000000 0) Z (dPc (.ptr 1000000 1) Z ?_)
  refine dPc (.p (eI t_0.fat)) Z (dPc (.ptr 1000000 0) Z ?_)
  refine dPc (.ptr 1000000 0) Z (dPc (.ptr 1000000 3) Z ?_)
  refine dPc (.p (eI t_0.ffrom)) Z (aR (λ _=>.p (eI (t_0.fat+t_0.ffrom))) Z Z Z (ki Z Z Z Y) (lt3 Z Z Z) (az Z (az Z (az Z (aB [(23,_),(27,_)] ⟨.inr ⟨12,_,Z,Z,Z⟩,.inr ⟨16,_,Z,Z,Z⟩,trivial⟩ (λ sl hsl K hK=>ap Z (ew Z Z Z (hsl _ _ Z) (hsl _ _ Z) Z hk2 hK)) aS)))) ?_)
  refine aR (λ _=>.p (.agg (ac.cs r3))) Z Z Z (ki Z Z Z Y) (lt3 Z Z Z) (az Z (az Z (az Z (aB [(19,_),(28,_)] ⟨.inr ⟨8,_,Z,Z,Z⟩,.inr ⟨17,_,Z,Z,Z⟩,trivial⟩ (λ sl hsl K hK=>ap Z (ed (HP.c e4) Z Z Z (aN (hsl _ _ Z) (aN (hsl _ _ Z) cx)) ⟨cR ⟨.inl Z,.inl Z,.inl Z,.inr ⟨Z,Z⟩,.inr ⟨Z,Z⟩,trivial⟩,sr,trivial⟩ Tryz.call39 Z hK)) aS)))) (aR (λ _=>.p (eI (t_0.fparts.length:Int))) Z Z Z (ki Z Z Z Y) (lt3 Z Z Z) (az Z (az Z (az Z (aB [(14,_)] ⟨.inr ⟨3,_,Z,Z,Z⟩,trivial⟩ (λ sl hsl K hK=>ap Z (oM (f:=aj) (l:=t_0.fparts) Z Z Z Z Z (hsl _ _ Z) Z hK)) aS)))) ?_)
  refine aR (λ _=>.p (eL (λ x:PV=>x) [.agg lc])) Z Z Z (ki Z Z Z Y) (lt3 Z Z Z) (az Z (az Z (az Z (aB [] trivial (λ sl hsl K hK=>ap Z (bO (λ x:PV=>x) [.agg lc] Z Z Z Z Z Z (fj Z Z gq) Z Z Z Z Z Z Z hK)) aS)))) (eQ (by4 (.vecp 32 11 0 (t_0.fparts.map aj)) (.vecp 32 11 0 (t_0.fparts.map aj)) (.vec 32 11 0 (t_0.fparts.map aj++[.agg (ac.cs r3)])) (.vec 32 11 0 (t_0.fparts.map aj++[.agg (ac.cs r3)]))) [(14,_),(31,_)] Z ⟨.inr ⟨3,_,Z,Z,Z⟩,.inr ⟨20,_,Z,Z,Z⟩,trivial⟩ Z Z (nC Z Z Y) (lt3 (λ h=>absurd h (by decide)) Y Y) (λ sl hsl K hK=>ap Z (om aj t_0.fparts Z Z Z Z Z Z Z Z (hsl _ _ Z) Z Z (hsl _ _ Z) Z Z Z Z Z hk5 hK)) ?_)
  refine nU (by4 (.elp 32 11) (.elp 32 11) .undef .undef) Z Z Z (ki Z Z Z Y) (lt3 (nl Z) Y Y) (az Z (az Z (aB [(30,_),(32,_)] ⟨.inr ⟨19,_,Z,Z,Z⟩,.inr ⟨21,_,Z,Z,Z⟩,trivial⟩ (λ sl hsl K hK=>ap Z (mW Z Z Z Z Z Z Z (hsl _ _ Z) (hsl _ _ Z) (by rw [List.length_map]) hK)) (az Z aS)))) (jy [(29,_),(33,_)] Z ⟨.inr ⟨18,_,Z,Z,Z⟩,.inr ⟨22,_,Z,Z,Z⟩,trivial⟩ Z (λ sl hsl K hK=>ap Z (tU (z:=.agg (ac.cs r3)) Z Z Z Z (hsl _ _ Z) (hsl _ _ Z) Z Z Z Z Z hK)) ?_)
  refine dPc (.ptr 1000000 0) Z (dPc (.ptr 1000000 5) Z ?_)
  refine dS Z (xg (dPc (.ptr 1000000 0) Z (dPc (.ptr 1000000 0) Z (dPc (.ptr 1000000 5) Z (dP (by4 (.vec 900000 11 0 (t_0.fparts.map aj)) (.p (eL aj t_0.fparts)) (.p (eL aj t_0.fparts)) (.p (eL aj t_0.fparts))) Z (dPc (.ptr 1000000 0) Z (dPc (.ptr 1000000 0) Z (dPc (.ptr 1000000 4) Z (dPc (.p (eS t_0.ftext)) Z (dPc (.p (.agg [eI 3,eI 0,eS t_0.ftext,.val (.slice none 0 0),.val (.slice none 0 0)])) Z (dPc (.ptr 1000000 0) Z (dPc (.ptr 1000000 0) Z (dPc (.ptr 1000000 1) Z (dPc (.p (eI t_0.fat)) Z (dPc (.ptr 1000000 0) Z (dPc (.ptr 1000000 0) Z (dPc (.ptr 1000000 3) Z (dPc (.p (eI t_0.ffrom)) Z (aR (λ _=>.p (eI (t_0.fat+t_0.ffrom))) Z Z Z (ki Z Z Z Y) (lt3 Z Z Z) (az Z (az Z (az Z (aB [(23,_),(27,_)] ⟨.inr ⟨12,_,Z,Z,Z⟩,.inr ⟨16,_,Z,Z,Z⟩,trivial⟩ (λ sl hsl K hK=>ap Z (ew Z Z Z (hsl _ _ Z) (hsl _ _ Z) Z hk2 hK)) aS)))) (aR (λ _=>.p (.agg (ac.cs r3))) Z Z Z (ki Z Z Z Y) (lt3 Z Z Z) (az Z (az Z (az Z (aB [(19,_),(28,_)] ⟨.inr ⟨8,_,Z,Z,Z⟩,.inr ⟨17,_,Z,Z,Z⟩,trivial⟩ (λ sl hsl K hK=>ap Z (ed (HP.c e4) Z Z Z (aN (hsl _ _ Z) (aN (hsl _ _ Z) cx)) ⟨cR ⟨.inl Z,.inl Z,.inl Z,.inr ⟨Z,Z⟩,.inr ⟨Z,Z⟩,trivial⟩,sr,trivial⟩ Tryz.call39 Z hK)) aS)))) (aR (λ _=>.p (eI (t_0.fparts.length:Int))) Z Z Z (ki Z Z Z Y) (lt3 Z Z Z) (az Z (az Z (az Z (aB [(14,_)] ⟨.inr ⟨3,_,Z,Z,Z⟩,trivial⟩ (λ sl hsl K hK=>ap Z (oM (f:=aj) (l:=t_0.fparts) Z Z Z Z Z (hsl _ _ Z) Z hK)) aS)))) (aR (λ _=>.p (eL (λ x:PV=>x) [.agg lc])) Z Z Z (ki Z Z Z Y) (lt3 Z Z Z) (az Z (az Z (az Z (aB [] trivial (λ sl hsl K hK=>ap Z (bO (λ x:PV=>x) [.agg lc] Z Z Z Z Z Z (fj Z Z gq) Z Z Z Z Z Z Z hK)) aS)))) (eQ (by4 (.vecp 32 11 0 (t_0.fparts.map aj)) (.vecp 32 11 0 (t_0.fparts.map aj)) (.vecp 32 11 0 (t_0.fparts.map aj)) (.vec 32 11 0 (t_0.fparts.map aj++[.agg (ac.cs r3)]))) [(14,_),(31,_)] Z ⟨.inr ⟨3,_,Z,Z,Z⟩,.inr ⟨20,_,Z,Z,Z⟩,trivial⟩ Z Z (nC Z Z Y) (lt3 (λ h=>absurd h (by decide)) Y Y) (λ sl hsl K hK=>ap Z (om aj t_0.fparts Z Z Z Z Z Z Z Z (hsl _ _ Z) Z Z (hsl _ _ Z) Z Z Z Z Z hk5 hK)) (nU (by4 (.elp 32 11) (.elp 32 11) (.elp 32 11) .undef) Z Z Z (ki Z Z Z Y) (lt3 (nl Z) Y Y) (az Z (aB [(30,_),(32,_)] ⟨.inr ⟨19,_,Z,Z,Z⟩,.inr ⟨21,_,Z,Z,Z⟩,trivial⟩ (λ sl hsl K hK=>ap Z (mW Z Z Z Z Z Z Z (hsl _ _ Z) (hsl _ _ Z) (by rw [List.length_map]) hK)) (aB [(30,_),(32,_)] ⟨.inr ⟨19,_,Z,Z,Z⟩,.inr ⟨21,_,Z,Z,Z⟩,trivial⟩ (λ sl hsl K hK=>ap Z (mW Z Z Z Z Z Z Z (hsl _ _ Z) (hsl _ _ Z) (by rw [List.length_map]) hK)) (az Z aS)))) (jy [(29,_),(33,_)] Z ⟨.inr ⟨18,_,Z,Z,Z⟩,.inr ⟨22,_,Z,Z,Z⟩,trivial⟩ Z (λ sl hsl K hK=>ap Z (tU (z:=.agg (ac.cs r3)) Z Z Z Z (hsl _ _ Z) (hsl _ _ Z) Z Z Z Z Z hK)) (dPc (.ptr 1000000 0) Z (dPc (.ptr 1000000 5) Z (dS Z (xS Z ⟨Z,Z,trivial⟩ ⟨⟨Z,Z,.inr Z⟩,⟨⟨Z,Z,.inr Z⟩,⟨⟨Z,Z,.inr Z⟩,⟨⟨Z,Z,.inr Z⟩,⟨⟨Z,Z,.inr Z⟩,⟨⟨Z,Z,.inr Z⟩,⟨⟨Z,Z,.inr Z⟩,⟨⟨Z,Z,.inr Z⟩,⟨⟨Z,Z,.inr Z⟩,⟨⟨Z,Z,.inr Z⟩,⟨⟨Z,Z,.inr Z⟩,⟨⟨Z,Z,.inr Z⟩,⟨⟨Z,Z,.inr Z⟩,⟨⟨Z,Z,.inr Z⟩,⟨⟨Z,Z,.inr Z⟩,⟨⟨Z,Z,.inr Z⟩,⟨⟨Z,Z,.inr Z⟩,⟨⟨Z,Z,.inr Z⟩,⟨⟨Z,Z,.inr Z⟩,⟨⟨Z,Z,.inr Z⟩,⟨⟨Z,Z,.inr Z⟩,⟨⟨Z,Z,.inr Z⟩,⟨⟨Z,Z,.inr Z⟩,⟨⟨Z,Z,.inr Z⟩,⟨⟨Z,Z,.inr Z⟩,trivial⟩⟩⟩⟩⟩⟩⟩⟩⟩⟩⟩⟩⟩⟩⟩⟩⟩⟩⟩⟩⟩⟩⟩⟩⟩)))))))))))))))))))))))))))) ?_)
  refine mG (dZ (t:=⟨[(0,.ptr 1000000 0)],[(1000000,[.p (eS t_0.fs),.p (eI t_0.fat),.p (eI t_0.fi),.p (eI t_0.ffrom),.p (eS t_0.ftext),.vec 32 11 0 ((t_0.fparts++[r3]).map aj),.p (eB t_0.fopen)])]⟩) (jK ⟨er Z,trivial⟩ ⟨⟨_,Z,⟨sr,sr,sr,sr,sr,AV.sub_of_eq (by first | (simp only [List.map_append,List.map_cons,List.map_nil,ac.agg_eq]; done) | (simp only [List.map_append,List.map_cons,List.map_nil,ac.agg_eq]; rfl)),sr,trivial⟩⟩,trivial⟩)) (nx 1 Z ?_)
  exact eX _ (oi h1).symm (aY (bK 32 900000 Z Z Z Z Z) (gE Z Z))
 exact nx 2 Z (eX _ (oi h1).symm (gE Z Z))
def cz (r_expr_quoted:Bytes→Int→Option Int)(s_0:Bytes):Nat→Int→Int→Option (Unit⊕Int)
 | 0,_,_=>none
 | m+1,i18,depth19 =>
 if i18 < (s_0.length:Int) then
  ck ((0:Int)≤i18∧i18 < (s_0.length:Int)) <|
  jn (
    if byt s_0 i18=123 then
     ck (inR (depth19+1)) <|
     some (.inl (i18,depth19+1))
    else
     if byt s_0 i18=125 then
      ck (inR (depth19 - 1)) <|
      if depth19 - 1=0 then
       some (.inr (.inr i18))
      else
       some (.inl (i18,depth19 - 1))
     else
      if byt s_0 i18=34 then
       ck (inR (i18+1)) <|
       (r_expr_quoted s_0 (i18+1)).bind λ r29 =>
       if r29 < 0 then
        some (.inr (.inr (-1)))
       else
        some (.inl (r29,depth19))
      else
       some (.inl (i18,depth19))
   : Option ((Int×Int)⊕(Unit⊕Int))) λ q38 =>
  ck (inR (q38.1+1)) <|
  cz r_expr_quoted s_0 m (q38.1+1) q38.2
 else
  some (.inl ())
def cJ (r_expr_closing:Bytes→Int→Option Int)(s_0:Bytes):Nat→Int→Option (Unit⊕Int)
 | 0,_=>none
 | m+1,i23 =>
 if i23 < (s_0.length:Int) then
  jn (
    ck ((0:Int)≤i23∧i23 < (s_0.length:Int)) <|
    if byt s_0 i23=34 then
     some (.inr (.inr i23))
    else
     ck ((0:Int)≤i23∧i23 < (s_0.length:Int)) <|
     if byt s_0 i23=92 then
      ck (inR (i23+1)) <|
      some (.inl (i23+1))
     else
      ck ((0:Int)≤i23∧i23≤(s_0.length:Int)∧(s_0.length:Int)≤(s_0.length:Int)) <|
      (strings_HasPrefix (sub s_0 i23 (s_0.length:Int)) ([36,36,123]:Bytes)).bind λ r31 =>
      if r31=true then
       ck (inR (i23+2)) <|
       some (.inl (i23+2))
      else
       ck ((0:Int)≤i23∧i23≤(s_0.length:Int)∧(s_0.length:Int)≤(s_0.length:Int)) <|
       (strings_HasPrefix (sub s_0 i23 (s_0.length:Int)) ([36,123]:Bytes)).bind λ r36 =>
       if r36=true then
        ck (inR (i23+2)) <|
        (r_expr_closing s_0 (i23+2)).bind λ r40 =>
        if r40 < 0 then
         some (.inr (.inr (-1)))
        else
         some (.inl r40)
       else
        some (.inl i23)
   : Option (Int⊕(Unit⊕Int))) λ i43 =>
  ck (inR (i43+1)) <|
  cJ r_expr_closing s_0 m (i43+1)
 else
  some (.inl ())
mutual
def cr:Nat→Bytes→Int→Option Int
 | 0,_,_=>none
 | n+1,s_0,i_1 =>
 jn (cz (dM n) s_0 n i_1 1) λ q37 =>
 some (-1)
def dM:Nat→Bytes→Int→Option Int
 | 0,_,_=>none
 | n+1,s_0,i_1 =>
 jn (cJ (cr n) s_0 n i_1) λ q46 =>
 some (-1)
end
theorem pi (n:Nat):(∀ (s_0:Bytes) (i_1:Int) (r:Int),HP (cr n s_0 i_1=some r) Tryz.prog 124 [eS s_0,eI i_1] (.p (eI r)))∧(∀ (s_0:Bytes) (i_1:Int) (r:Int),HP (dM n s_0 i_1=some r) Tryz.prog 156 [eS s_0,eI i_1] (.p (eI r))):=by
 induction n with
 | zero=>exact ⟨by intros; exact ⟨λ h=>by cases h⟩,by intros; exact ⟨λ h=>by cases h⟩⟩
 | succ n ih =>
 obtain ⟨ih_expr_closing_ok,ih_expr_quoted_ok⟩:=ih
 refine ⟨?_,?_⟩
 ·skip
  refine λ s_0 i_1=>hP good Tryz.func124 Z Z λ r h0 _ w0=>?_
  rw [cr] at h0
  refine nx 10 Z ?_
  obtain ⟨o39,h1,hL0,hR0⟩:=dj h0
  refine kEx 0 (λ v40:Unit=>o39=.inl v40) (λ v40=>⟨[],[]⟩) (λ v40 hv=>?_) ?_
  ·have h0:=hL0 _ hv
   exact nx 6 Z (mQ (oi h0) Z (sr))
  refine lG (λ (q41:Int×Int)=>⟨[(0,.p (eS s_0)),(1,.p (eI q41.1)),(5,.p (eI q41.2))],[]⟩) (λ m (q41:Int×Int)=>cz (dM n) s_0 m q41.1 q41.2) Y (i_1,1) h1 (gE Z Z) ?_
  rintro m ⟨i18,depth19⟩ h1
  replace h1:cz (dM n) s_0 (m+1) i18 depth19=some o39:=h1
  rw [cz] at h1
  refine nx 5 Z (oLs Z ?_)
  refine nx 2 Z (fD [9] h1 Z (λ c20 h1=>?_) λ c20 h1=>?_)
  ·refine nx 8 Z (oI h1 Z λ hk21 h1=>?_)
   refine nx 1 Z ?_
   obtain ⟨o42,h2,hL1,hR1⟩:=dj h1
   refine kX (λ v43:Int×Int=>o42=.inl v43) (λ v43=>⟨[(0,.p (eS s_0)),(1,.p (eI v43.1)),(5,.p (eI v43.2))],[]⟩) (λ v43 hv=>?_) ?_
   ·have h1:=hL1 _ hv
    refine nx 3 Z (oA h1 Z Z λ hk34 h1=>?_)
    exact nx 2 Z (eX (v43.1+1,v43.2) h1 (gE Z Z))
   refine nx 6 Z (fD [15,16] h2 Z (λ c22 h2=>?_) λ c22 h2=>?_)
   ·refine nx 3 Z (oA h2 Z Z λ hk23 h2=>?_)
    exact nx 2 Z (eX _ (oi h2).symm (gE Z Z))
   refine nx 6 Z (fD [19,20] h2 Z (λ c24 h2=>?_) λ c24 h2=>?_)
   ·refine nx 4 Z (oA h2 Z Z λ hk25 h2=>?_)
    refine nx 7 Z (fD [24] h2 Z (λ c26 h2=>?_) λ c26 h2=>?_)
    ·exact nx 7 Z (mQ (hR0 _ (hR1 _ (oi h2).symm).symm) Z (sr))
    exact nx 2 Z (eX _ (oi h2).symm (gE Z Z))
   refine nx 6 Z (fD [26,27] h2 Z (λ c27 h2=>?_) λ c27 h2=>?_)
   ·refine nx 5 Z (oA h2 Z Z λ hk28 h2=>?_)
    refine bd h2 λ r29 e30 h2=>oK (HP.c e30) Z ⟨sr,sr,trivial⟩ Tryz.call156 Z (nx 7 Z ?_)
    refine fD [33] h2 Z (λ c31 h2=>?_) λ c31 h2=>?_
    ·exact nx 6 Z (mQ (hR0 _ (hR1 _ (oi h2).symm).symm) Z (sr))
    exact nx 2 Z (eX _ (oi h2).symm (gE Z Z))
   exact nx 2 Z (eX _ (oi h2).symm (gE Z Z))
  exact nx 2 Z (eXi _ (oi h1).symm (gE Z Z))
 ·skip
  refine λ s_0 i_1=>hP good Tryz.func156 Z Z λ r h0 _ w0=>?_
  rw [dM] at h0
  refine nx 6 Z ?_
  obtain ⟨o48,h1,hL0,hR0⟩:=dj h0
  refine kEx 0 (λ v49:Unit=>o48=.inl v49) (λ v49=>⟨[],[]⟩) (λ v49 hv=>?_) ?_
  ·have h0:=hL0 _ hv
   exact nx 6 Z (mQ (oi h0) Z (sr))
  refine lG (λ (q50:Int)=>⟨[(0,.p (eS s_0)),(1,.p (eI q50))],[]⟩) (λ m (q50:Int)=>cJ (cr n) s_0 m q50) Y i_1 h1 (gE Z Z) ?_
  rintro m i23 h1
  replace h1:cJ (cr n) s_0 (m+1) i23=some o48:=h1
  rw [cJ] at h1
  refine nx 5 Z (oLs Z ?_)
  refine nx 2 Z (fD [8] h1 Z (λ c24 h1=>?_) λ c24 h1=>?_)
  ·refine nx 4 Z ?_
   obtain ⟨o51,h2,hL1,hR1⟩:=dj h1
   refine kX (λ v52:Int=>o51=.inl v52) (λ v52=>⟨[(0,.p (eS s_0)),(1,.p (eI v52))],[]⟩) (λ v52 hv=>?_) ?_
   ·have h1:=hL1 _ hv
    refine nx 3 Z (oA h1 Z Z λ hk44 h1=>?_)
    exact nx 2 Z (eX (v52+1) h1 (gE Z Z))
   refine nx 5 Z (oI h2 Z λ hk25 h2=>?_)
   refine nx 3 Z (fD [11,15] h2 Z (λ c26 h2=>?_) λ c26 h2=>?_)
   ·exact nx 7 Z (mQ (hR0 _ (hR1 _ (oi h2).symm).symm) Z (sr))
   refine nx 5 Z (oI h2 Z λ hk27 h2=>?_)
   refine nx 3 Z (fD [17,21] h2 Z (λ c28 h2=>?_) λ c28 h2=>?_)
   ·refine nx 3 Z (oA h2 Z Z λ hk29 h2=>?_)
    exact nx 2 Z (eX _ (oi h2).symm (gE Z Z))
   refine nx 5 Z (oP h2 Z Z Z λ hk30 h2=>?_)
   refine bd h2 λ r31 e32 h2=>oK (bY (sub s_0 i23 (s_0.length:Int)) ([36,36,123]:Bytes) _ e32) Z ⟨sr,sr,trivial⟩ Tryz.call75 Z (nx 2 Z ?_)
   refine fB [24,28] h2 Z (λ c33 h2=>?_) λ c33 h2=>?_
   ·refine nx 3 Z (oA h2 Z Z λ hk34 h2=>?_)
    exact nx 2 Z (eX _ (oi h2).symm (gE Z Z))
   refine nx 5 Z (oP h2 Z Z Z λ hk35 h2=>?_)
   refine bd h2 λ r36 e37 h2=>oK (bY (sub s_0 i23 (s_0.length:Int)) ([36,123]:Bytes) _ e37) Z ⟨sr,sr,trivial⟩ Tryz.call75 Z (nx 2 Z ?_)
   refine fB [31,35] h2 Z (λ c38 h2=>?_) λ c38 h2=>?_
   ·refine nx 5 Z (oA h2 Z Z λ hk39 h2=>?_)
    refine bd h2 λ r40 e41 h2=>oK (HP.c e41) Z ⟨sr,sr,trivial⟩ Tryz.call124 Z (nx 2 Z ?_)
    refine mG (gE (t:=⟨[(0,.p (eS s_0)),(1,.p (eI r40))],[]⟩) Z Z) (nx 5 Z ?_)
    refine fD [41] h2 Z (λ c42 h2=>?_) λ c42 h2=>?_
    ·exact nx 6 Z (mQ (hR0 _ (hR1 _ (oi h2).symm).symm) Z (sr))
    exact nx 2 Z (eX _ (oi h2).symm (gE Z Z))
   exact nx 2 Z (eX _ (oi h2).symm (gE Z Z))
  exact nx 2 Z (eXi _ (oi h1).symm (gE Z Z))
instance zG (n:Nat):∀ (s_0:Bytes) (i_1:Int) (r:Int),HP (cr n s_0 i_1=some r) Tryz.prog 124 [eS s_0,eI i_1] (.p (eI r)):=(pi n).1
def bC (s_0:Bytes):Nat→Int→Option Int
 | 0,_=>none
 | m+1,n10 =>
 (
   if n10 < (s_0.length:Int) then
    if n10 < 6 then
     ck ((0:Int)≤n10∧n10 < (s_0.length:Int)) <|
     (strings_IndexByte ([48,49,50,51,52,53,54,55,56,57,97,98,99,100,101,102]:Bytes) (byt s_0 n10)).bind λ r14 =>
     some (decide (0≤r14))
    else
     some false
   else
    some false
  : Option Bool).bind λ t16 =>
 if t16=true then
  ck (inR (n10+1)) <|
  bC s_0 m (n10+1)
 else
  some n10
def dJ (n:Nat)(s_0:Bytes):Option Int :=
 (bC s_0 n 0).bind λ n20 =>
 some n20
instance wb (n:Nat) (s_0:Bytes):∀ (r:Int),HP (dJ n s_0=some r) Tryz.prog 157 [eS s_0] (.p (eI r)):=by
 refine hP good Tryz.func157 Z Z λ r h0 _ w0=>?_
 unfold dJ at h0
 refine nx 10 Z (bd h0 λ o23 h1 h0=>?_)
 refine kE 0 o23 (λ v24=>⟨[(3,.p (eI v24))],[]⟩) ?_ ?_
 ·exact nx 7 Z (mQ (oi h0) Z (sr))
 refine lG (λ (q25:Int)=>⟨[(0,.p (eS s_0)),(3,.p (eI q25))],[]⟩) (λ m (q25:Int)=>bC s_0 m q25) Y 0 h1 (gE Z Z) ?_
 rintro m n10 h1
 replace h1:bC s_0 (m+1) n10=some o23:=h1
 rw [bC] at h1
 refine nx 2 Z (bd h1 λ o26 h2 h1=>?_)
 refine kN o26 (λ v27=>⟨[(0,.p (eS s_0)),(3,.p (eI n10)),(18,.p (eB v27))],[]⟩) ?_ ?_
 ·refine nx 1 Z (fB [18] h1 Z (λ c17 h1=>?_) λ c17 h1=>?_)
  ·refine nx 5 Z (oA h1 Z Z λ hk18 h1=>?_)
   exact nx 2 Z (eX (n10+1) h1 (gE Z Z))
  exact nx 2 Z (eXi _ (oi h1).symm (gE Z Z))
 refine nx 3 Z (oLs Z ?_)
 refine nx 2 Z (fD [7,8] h2 Z (λ c11 h2=>?_) λ c11 h2=>?_)
 ·refine nx 4 Z (fD [10,11,12] h2 Z (λ c12 h2=>?_) λ c12 h2=>?_)
  ·refine nx 2 Z (oI h2 Z λ hk13 h2=>?_)
   refine bd h2 λ r14 e15 h2=>oK (fv ([48,49,50,51,52,53,54,55,56,57,97,98,99,100,101,102]:Bytes) (byt s_0 n10) _ e15) Z ⟨sr,sr,trivial⟩ Tryz.call85 Z (nx 3 Z ?_)
   exact eX _ (oi h2).symm (gE Z Z)
  exact nx 7 Z (eX _ (oi h2).symm (gE Z Z))
 exact nx 11 Z (eX _ (oi h2).symm (gE Z Z))
def ge (n:Nat)(s_0:Bytes):Option (Bytes×Int×Int) :=
 jn (
   (strings_HasPrefix s_0 ([92,117]:Bytes)).bind λ r1 =>
   if r1=true then
    (
      if 2 < (s_0.length:Int) then
       ck ((0:Int)≤2∧2 < (s_0.length:Int)) <|
       some (!decide (byt s_0 2=123))
      else
       some false
     : Option Bool).bind λ t6 =>
    if t6=true then
     some (.inr (([]:Bytes),0,2))
    else
     if 3 < (s_0.length:Int) then
      ck ((0:Int)≤3∧3≤(s_0.length:Int)∧(s_0.length:Int)≤(s_0.length:Int)) <|
      (dJ n (sub s_0 3 (s_0.length:Int))).bind λ r10 =>
      ck (inR (4+r10)) <|
      some (.inl (4+r10))
     else
      some (.inl 4)
   else
    some (.inl 2)
  : Option (Int⊕(Bytes×Int×Int))) λ n13 =>
 if (s_0.length:Int) < n13 then
  some (([]:Bytes),0,40)
 else
  ck ((0:Int)≤0∧0≤n13∧n13≤(s_0.length:Int)) <|
  ck (([34]:Bytes).length+(sub s_0 0 n13).length≤9223372036854775807) <|
  ck ((([34]:Bytes)++(sub s_0 0 n13)).length+([34]:Bytes).length≤9223372036854775807) <|
  (dT n ((([34]:Bytes)++(sub s_0 0 n13))++([34]:Bytes))).bind λ r18 =>
  if r18.2.2=0 then
   some (r18.1,n13,0)
  else
   some (([]:Bytes),0,2)
instance Bt (n:Nat) (s_0:Bytes):∀ (r:Bytes×Int×Int),HP (ge n s_0=some r) Tryz.prog 125 [eS s_0] (.tuple [.p (eS r.1),.p (eI r.2.1),.p (eI r.2.2)]):=by
 refine hP good Tryz.func125 Z Z λ r h0 _ w0=>?_
 unfold ge at h0
 refine nx 11 Z ?_
 obtain ⟨o23,h1,hL0,hR0⟩:=dj h0
 refine kX (λ v24:Int=>o23=.inl v24) (λ v24=>⟨[(0,.p (eS s_0)),(5,.p (eI v24))],[]⟩) (λ v24 hv=>?_) ?_
 ·have h0:=hL0 _ hv
  refine nx 6 Z (oLs Z ?_)
  refine nx 2 Z (fD [29] h0 Z (λ c14 h0=>?_) λ c14 h0=>?_)
  ·exact nx 8 Z (mQ (oi h0) Z (bz ⟨sr,sr,sr,trivial⟩))
  refine nx 6 Z (oP h0 Z Z Z λ hk15 h0=>?_)
  refine oC h0 Z λ hk16 h0=>oC h0 Z λ hk17 h0=>bd h0 λ r18 e19 h0=>oK (HP.c e19) Z ⟨sr,trivial⟩ Tryz.call158 Z (nx 14 Z ?_)
  refine fN [41] h0 Z (λ c20 h0=>?_) λ c20 h0=>?_
  ·exact nx 11 Z (mQ (oi h0) Z (bz ⟨sr,sr,sr,trivial⟩))
  exact nx 8 Z (mQ (oi h0) Z (bz ⟨sr,sr,sr,trivial⟩))
 refine nx 3 Z (bd h1 λ r1 e2 h1=>?_)
 refine oK (bY s_0 ([92,117]:Bytes) _ e2) Z ⟨sr,sr,trivial⟩ Tryz.call75 Z (nx 1 Z ?_)
 refine fB [10] h1 Z (λ c3 h1=>?_) λ c3 h1=>?_
 ·refine nx 3 Z (bd h1 λ o25 h2 h1=>?_)
  refine kN o25 (λ v26=>⟨[(0,.p (eS s_0)),(18,.p (eB v26))],[]⟩) ?_ ?_
  ·refine nx 1 Z (fB [18] h1 Z (λ c7 h1=>?_) λ c7 h1=>?_)
   ·exact nx 8 Z (mQ (hR0 _ (oi h1).symm) Z (bz ⟨sr,sr,sr,trivial⟩))
   refine nx 9 Z (oLs Z ?_)
   refine nx 2 Z (fD [21] h1 Z (λ c8 h1=>?_) λ c8 h1=>?_)
   ·refine nx 3 Z (oP h1 Z Z Z λ hk9 h1=>?_)
    refine bd h1 λ r10 e11 h1=>oK (HP.c e11) Z ⟨sr,trivial⟩ Tryz.call157 Z (oA h1 Z Z λ hk12 h1=>?_)
    exact nx 2 Z (eX _ (oi h1).symm (gE Z Z))
   exact nx 4 Z (eX _ (oi h1).symm (gE Z Z))
  refine nx 2 Z (oLs Z ?_)
  refine nx 2 Z (fD [13,14] h2 Z (λ c4 h2=>?_) λ c4 h2=>?_)
  ·refine nx 1 Z (oI h2 Z λ hk5 h2=>?_)
   exact nx 3 Z (eX _ (oi h2).symm (gE Z Z))
  exact nx 5 Z (eX _ (oi h2).symm (gE Z Z))
 exact nx 2 Z (eX _ (oi h1).symm (gE Z Z))
def dc (n:Nat)(t_0:al):Option (ax×al) :=
 ck ((0:Int)≤t_0.fi∧t_0.fi≤(t_0.fs.length:Int)∧(t_0.fs.length:Int)≤(t_0.fs.length:Int)) <|
 jn (
   ck ((0:Int)≤0∧0 < ((sub t_0.fs t_0.fi (t_0.fs.length:Int)).length:Int)) <|
   if byt (sub t_0.fs t_0.fi (t_0.fs.length:Int)) 0=92 then
    (ge n (sub t_0.fs t_0.fi (t_0.fs.length:Int))).bind λ r4 =>
    if r4.2.2=0 then
     ck (t_0.ftext.length+r4.1.length≤9223372036854775807) <|
     ck (inR (t_0.fi+r4.2.1)) <|
     some (.inl (t_0.fi+r4.2.1,t_0.ftext++r4.1))
    else
     ck (inR (t_0.fat+t_0.fi)) <|
     some (.inr ((ax.mk r4.2.2 (t_0.fat+t_0.fi) ([]:Bytes)),(al.mk t_0.fs t_0.fat t_0.fi t_0.ffrom t_0.ftext t_0.fparts t_0.fopen)))
   else
    (aW (sub t_0.fs t_0.fi (t_0.fs.length:Int))).bind λ r10 =>
    (
      if r10.1=65533 then
       if r10.2=1 then
        some true
       else
        if r10.1 < 32 then
         some true
        else
         if r10.1=127 then
          some true
         else
          some (decide (r10.1=34))
      else
       if r10.1 < 32 then
        some true
       else
        if r10.1=127 then
         some true
        else
         some (decide (r10.1=34))
     : Option Bool).bind λ t18 =>
    if t18=true then
     ck (inR (t_0.fat+t_0.fi)) <|
     some (.inr ((ax.mk 2 (t_0.fat+t_0.fi) ([]:Bytes)),(al.mk t_0.fs t_0.fat t_0.fi t_0.ffrom t_0.ftext t_0.fparts t_0.fopen)))
    else
     ck ((0:Int)≤0∧0≤r10.2∧r10.2≤((sub t_0.fs t_0.fi (t_0.fs.length:Int)).length:Int)) <|
     ck (t_0.ftext.length+(sub (sub t_0.fs t_0.fi (t_0.fs.length:Int)) 0 r10.2).length≤9223372036854775807) <|
     ck (inR (t_0.fi+r10.2)) <|
     some (.inl (t_0.fi+r10.2,t_0.ftext++(sub (sub t_0.fs t_0.fi (t_0.fs.length:Int)) 0 r10.2)))
  : Option ((Int×Bytes)⊕(ax×al))) λ q28 =>
 (dC (al.mk t_0.fs t_0.fat q28.1 t_0.ffrom q28.2 t_0.fparts t_0.fopen)).bind λ r26 =>
 some (r26.1,(al.mk r26.2.fs r26.2.fat r26.2.fi r26.2.ffrom r26.2.ftext r26.2.fparts r26.2.fopen))
instance uu (n:Nat) (t_0:al):∀ (r:ax×al),HO (dc n t_0=some r) Tryz.prog 78 [.ptr 1000000 0] [(1000000,[.p (eS t_0.fs),.p (eI t_0.fat),.p (eI t_0.fi),.p (eI t_0.ffrom),.p (eS t_0.ftext),.vec 900000 11 0 (t_0.fparts.map aj),.p (eB t_0.fopen)])] (.p (.agg (ax.cs r.1))) ([(1000000,[.p (eS r.2.fs),.p (eI r.2.fat),.p (eI r.2.fi),.p (eI r.2.ffrom),.p (eS r.2.ftext),.vec 2000000 11 0 (r.2.fparts.map aj),.p (eB r.2.fopen)])]):=by
 refine hO good [800000] [1000000] Tryz.func78 Z Z λ r h0 _ w0 F=>?_
 unfold dc at h0
 refine nx 5 Z (cc' h0 λ hk1 h0=>?_)
 refine mD [(0,.ptr 1000000 0),(2,.ptr 2 0)] Z ⟨Z,Z,trivial⟩ Z (dR 8 Z ?_)
 refine dq (.p (eS (sub t_0.fs t_0.fi (t_0.fs.length:Int)))) [12,16] Z (λ _ e _ q=>ap Z (dy (a:=t_0.fs) (l:=t_0.fi) (h:=(t_0.fs.length:Int)) Z Z Z Z Z (e _ _ Z) (fK (e _ _ Z)) Z hk1 q)) Z (dR 1 Z ?_)
 refine dE Z (nx 2 Z ?_)
 obtain ⟨o30,h1,hL0,hR0⟩:=dj h0
 refine kX (λ v31:Int×Bytes=>o30=.inl v31) (λ v31=>⟨[(0,.ptr 1000000 0),(2,.ptr 2 0)],[(2,ff),(1000000,[.p (eS t_0.fs),.p (eI t_0.fat),.p (eI v31.1),.p (eI t_0.ffrom),.p (eS v31.2),.vec 900000 11 0 (t_0.fparts.map aj),.p (eB t_0.fopen)])]⟩) (λ v31 hv=>?_) ?_
 ·have h0:=hL0 _ hv
  refine nx 4 Z (bd h0 λ r26 e27 h0=>?_)
  refine mO Z (cVq [1000000] [900000] 101000 101001 (HO.c e27) Tryz.call76 Z ?_)
  exact nx 3 Z (mQo (oi h0) (aY (bK 101000 800000 Z Z Z Z Z) (au _)) Z Z Z Z (sr) ⟨⟨_,Z,⟨sr,sr,sr,sr,sr,sr,sr,trivial⟩⟩,trivial⟩)
 refine nx 3 Z (oI h1 Z λ hk2 h1=>?_)
 refine nx 2 Z (fD [20] h1 Z (λ c3 h1=>?_) λ c3 h1=>?_)
 ·refine nx 4 Z (bd h1 λ r4 e5 h1=>?_)
  refine oK (HP.c e5) Z ⟨sr,trivial⟩ Tryz.call125 Z (nx 14 Z ?_)
  refine fN [28] h1 Z (λ c6 h1=>?_) λ c6 h1=>?_
  ·refine nx 9 Z (oC h1 Z λ hk8 h1=>?_)
   refine nx 4 Z (mG (gE (t:=⟨[(0,.ptr 1000000 0),(2,.ptr 2 0),(5,.p (eI r4.2.1))],[(2,ff),(1000000,[.p (eS t_0.fs),.p (eI t_0.fat),.p (eI t_0.fi),.p (eI t_0.ffrom),.p (eS (t_0.ftext++r4.1)),.vec 900000 11 0 (t_0.fparts.map aj),.p (eB t_0.fopen)])]⟩) Z Z) ?_)
   refine nx 6 Z (oA h1 Z Z λ hk9 h1=>?_)
   exact nx 4 Z (eX _ (oi h1).symm (gE Z Z))
  refine nx 2 Z (cc' h1 λ hk7 h1=>?_)
  refine mG (gE (t:=⟨[(0,.ptr 1000000 0),(2,.ptr 2 0),(6,.p (eI r4.2.2))],[(2,ff),(1000000,[.p (eS t_0.fs),.p (eI t_0.fat),.p (eI t_0.fi),.p (eI t_0.ffrom),.p (eS t_0.ftext),.vec 900000 11 0 (t_0.fparts.map aj),.p (eB t_0.fopen)])]⟩) Z Z) (mSq ⟨1,[11],(λ _=>.none),(λ _=>[(0,.ptr 1000000 0),(2,.ptr 2 0),(6,.p (eI r4.2.2))]),(ob2 ([(2,ff),(1000000,[.p (eS t_0.fs),.p (eI t_0.fat),.p (eI t_0.fi),.p (eI t_0.ffrom),.p (eS t_0.ftext),.vec 900000 11 0 (t_0.fparts.map aj),.p (eB t_0.fopen)])]) (2,[.p (eI r4.2.2),.p (eI (t_0.fat+t_0.fi)),.p (eS ([]:Bytes))]))⟩ Z ?_)
  refine dPc (.p (eI r4.2.2)) Z (dPc (.ptr 1000000 0) Z ?_)
  refine dPc (.ptr 1000000 0) Z (dPc (.ptr 1000000 1) Z ?_)
  refine dPc (.p (eI t_0.fat)) Z (dPc (.ptr 1000000 0) Z ?_)
  refine dPc (.ptr 1000000 0) Z (dPc (.ptr 1000000 2) Z ?_)
  refine dPc (.p (eI t_0.fi)) Z (aR (λ _=>.p (eI (t_0.fat+t_0.fi))) Z Z Z (gw Z Y) (lt1 Z) (az Z (aB [(33,_),(37,_)] ⟨.inr ⟨4,_,Z,Z,Z⟩,.inr ⟨8,_,Z,Z,Z⟩,trivial⟩ (λ sl hsl K hK=>ap Z (ew Z Z Z (hsl _ _ Z) (hsl _ _ Z) Z hk7 hK)) aS)) ?_)
  refine dPc (.p (.agg [eI r4.2.2,eI (t_0.fat+t_0.fi),eS ([]:Bytes)])) Z (dS Z ?_)
  refine cY (nx 2 Z ?_)
  exact mQo (hR0 _ (oi h1).symm) (aY (bK 900000 800000 Z Z Z Z Z) (au _)) Z Z Z Z (sr) ⟨⟨_,Z,⟨sr,sr,sr,sr,sr,sr,sr,trivial⟩⟩,trivial⟩
 refine nx 4 Z (bd h1 λ r10 e11 h1=>?_)
 refine oK (dF (sub t_0.fs t_0.fi (t_0.fs.length:Int)) _ e11) Z ⟨sr,trivial⟩ Tryz.call126 Z (nx 8 Z ?_)
 refine bd h1 λ o32 h2 h1=>kN o32 (λ v33=>⟨[(0,.ptr 1000000 0),(2,.ptr 2 0),(3,.p (eS (sub t_0.fs t_0.fi (t_0.fs.length:Int)))),(8,.p (eI r10.2)),(78,.p (eB v33))],[(2,ff),(1000000,[.p (eS t_0.fs),.p (eI t_0.fat),.p (eI t_0.fi),.p (eI t_0.ffrom),.p (eS t_0.ftext),.vec 900000 11 0 (t_0.fparts.map aj),.p (eB t_0.fopen)])]⟩) ?_ ?_
 ·refine nx 1 Z (fB [78] h1 Z (λ c19 h1=>?_) λ c19 h1=>?_)
  ·refine nx 2 Z (cc' h1 λ hk20 h1=>?_)
   refine mG (gE (t:=⟨[(0,.ptr 1000000 0),(2,.ptr 2 0)],[(2,ff),(1000000,[.p (eS t_0.fs),.p (eI t_0.fat),.p (eI t_0.fi),.p (eI t_0.ffrom),.p (eS t_0.ftext),.vec 900000 11 0 (t_0.fparts.map aj),.p (eB t_0.fopen)])]⟩) Z Z) (mSq ⟨1,[10],(λ _=>.none),(λ _=>[(0,.ptr 1000000 0),(2,.ptr 2 0)]),(ob2 ([(2,ff),(1000000,[.p (eS t_0.fs),.p (eI t_0.fat),.p (eI t_0.fi),.p (eI t_0.ffrom),.p (eS t_0.ftext),.vec 900000 11 0 (t_0.fparts.map aj),.p (eB t_0.fopen)])]) (2,[.p (eI 2),.p (eI (t_0.fat+t_0.fi)),.p (eS ([]:Bytes))]))⟩ Z ?_)
   refine dPc (.ptr 1000000 0) Z (dPc (.ptr 1000000 0) Z ?_)
   refine dPc (.ptr 1000000 1) Z (dPc (.p (eI t_0.fat)) Z ?_)
   refine dPc (.ptr 1000000 0) Z (dPc (.ptr 1000000 0) Z ?_)
   refine dPc (.ptr 1000000 2) Z (dPc (.p (eI t_0.fi)) Z ?_)
   refine aR (λ _=>.p (eI (t_0.fat+t_0.fi))) Z Z Z (gw Z Y) (lt1 Z) (az Z (aB [(82,_),(86,_)] ⟨.inr ⟨3,_,Z,Z,Z⟩,.inr ⟨7,_,Z,Z,Z⟩,trivial⟩ (λ sl hsl K hK=>ap Z (ew Z Z Z (hsl _ _ Z) (hsl _ _ Z) Z hk20 hK)) aS)) (dPc (.p (.agg [eI 2,eI (t_0.fat+t_0.fi),eS ([]:Bytes)])) Z ?_)
   refine dS Z (cY ?_)
   exact nx 2 Z (mQo (hR0 _ (oi h1).symm) (aY (bK 900000 800000 Z Z Z Z Z) (au _)) Z Z Z Z (sr) ⟨⟨_,Z,⟨sr,sr,sr,sr,sr,sr,sr,trivial⟩⟩,trivial⟩)
  refine nx 3 Z (cc' h1 λ hk21 h1=>?_)
  refine cc' h1 λ hk22 h1=>mG (gE (t:=⟨[(0,.ptr 1000000 0),(2,.ptr 2 0),(3,.p (eS (sub t_0.fs t_0.fi (t_0.fs.length:Int)))),(8,.p (eI r10.2))],[(2,ff),(1000000,[.p (eS t_0.fs),.p (eI t_0.fat),.p (eI t_0.fi),.p (eI t_0.ffrom),.p (eS t_0.ftext),.vec 900000 11 0 (t_0.fparts.map aj),.p (eB t_0.fopen)])]⟩) Z Z) (mSq ⟨1,[10],(λ _=>.none),(λ _=>[(0,.ptr 1000000 0),(2,.ptr 2 0),(3,.p (eS (sub t_0.fs t_0.fi (t_0.fs.length:Int)))),(8,.p (eI r10.2))]),(ob2 ([(2,ff),(1000000,[.p (eS t_0.fs),.p (eI t_0.fat),.p (eI t_0.fi),.p (eI t_0.ffrom),.p (eS t_0.ftext),.vec 900000 11 0 (t_0.fparts.map aj),.p (eB t_0.fopen)])]) (1000000,[.p (eS t_0.fs),.p (eI t_0.fat),.p (eI t_0.fi),.p (eI t_0.ffrom),.p (eS (t_0.ftext++(sub (sub t_0.fs t_0.fi (t_0.fs.length:Int)) 0 r10.2))),.vec 900000 11 0 (t_0.fparts.map aj),.p (eB t_0.fopen)]))⟩ Z ?_)
  refine dPc (.ptr 1000000 0) Z (dPc (.ptr 1000000 0) Z ?_)
  refine dPc (.ptr 1000000 4) Z (dPc (.p (eS t_0.ftext)) Z ?_)
  refine dPc (.p (eS (sub t_0.fs t_0.fi (t_0.fs.length:Int)))) Z (dPc (.p (eI r10.2)) Z ?_)
  refine aR (λ _=>.p (eS (sub (sub t_0.fs t_0.fi (t_0.fs.length:Int)) 0 r10.2))) Z Z Z (gw Z Y) (lt1 Z) (az Z (aB [(93,_),(94,_)] ⟨.inr ⟨4,_,Z,Z,Z⟩,.inr ⟨5,_,Z,Z,Z⟩,trivial⟩ (λ sl hsl K hK=>ap Z (dy (a:=sub t_0.fs t_0.fi (t_0.fs.length:Int)) (l:=0) (h:=r10.2) Z Z Z Z Z (hsl _ _ Z) Z (jL (hsl _ _ Z)) hk21 hK)) aS)) (aR (λ _=>.p (eS (t_0.ftext++(sub (sub t_0.fs t_0.fi (t_0.fs.length:Int)) 0 r10.2)))) Z Z Z (gw Z Y) (lt1 Z) (az Z (aB [(92,_),(95,_)] ⟨.inr ⟨3,_,Z,Z,Z⟩,.inr ⟨6,_,Z,Z,Z⟩,trivial⟩ (λ sl hsl K hK=>ap Z (pL Z Z Z (hsl _ _ Z) (hsl _ _ Z) hk22 hK)) aS)) ?_)
  refine dPc (.ptr 1000000 0) Z (dPc (.ptr 1000000 4) Z ?_)
  refine dS Z (cY ?_)
  refine nx 7 Z (oA h1 Z Z λ hk23 h1=>?_)
  exact nx 4 Z (eX _ (oi h1).symm (gE Z Z))
 refine nx 4 Z (fD [62,63] h2 Z (λ c12 h2=>?_) λ c12 h2=>?_)
 ·refine nx 4 Z (fD [65,66,67] h2 Z (λ c13 h2=>?_) λ c13 h2=>?_)
  ·exact nx 12 Z (eX _ (oi h2).symm (gE Z Z))
  refine nx 4 Z (fD [69,70,71] h2 Z (λ c14 h2=>?_) λ c14 h2=>?_)
  ·exact nx 8 Z (eX _ (oi h2).symm (gE Z Z))
  refine nx 4 Z (fD [73,74,75] h2 Z (λ c15 h2=>?_) λ c15 h2=>?_)
  ·exact nx 4 Z (eX _ (oi h2).symm (gE Z Z))
  exact nx 4 Z (eX _ (oi h2).symm (gE Z Z))
 refine nx 8 Z (fD [69,70,71] h2 Z (λ c16 h2=>?_) λ c16 h2=>?_)
 ·exact nx 8 Z (eX _ (oi h2).symm (gE Z Z))
 refine nx 4 Z (fD [73,74,75] h2 Z (λ c17 h2=>?_) λ c17 h2=>?_)
 ·exact nx 4 Z (eX _ (oi h2).symm (gE Z Z))
 exact nx 4 Z (eX _ (oi h2).symm (gE Z Z))
def b6 (n:Nat)(p_0:ae):Option ae :=
 (aH n p_0).bind λ r1 =>
 ck (inR (r1.2.fnest+1)) <|
 some (ae.mk r1.2.fl r1.2.fat (r1.2.fnest+1) r1.2.fbase r1.2.fbad)
instance vV (n:Nat) (p_0:ae):∀ (r:ae),HO (b6 n p_0=some r) Tryz.prog 185 [.ptr 1000000 0] [(1000000,((ae.cs p_0).map .p))] (.tuple []) ([(1000000,((ae.cs r).map .p))]):=by
 refine hO good [] [1000000] Tryz.func185 Z Z λ r h0 _ w0 F=>?_
 unfold b6 at h0
 refine nx 3 Z (bd h0 λ r1 e2 h0=>?_)
 refine mO Z (cVq [1000000] [] 101000 101000 (HO.c e2) Tryz.call102 Z ?_)
 refine nx 6 Z (oA h0 Z Z λ hk3 h0=>?_)
 exact nx 4 Z (rZ (oi h0) (au _) Z Z Z Z (sr) ⟨⟨_,Z,⟨sr,sr,sr,sr,sr,sr,sr,trivial⟩⟩,trivial⟩)
def bR (n:Nat)(p_0:ae)(s_1:Bytes):Option ae :=
 (aP n p_0 s_1).bind λ r1 =>
 if (!r1.1)=true then
  (bb n r1.2).bind λ r4 =>
  (bu r4.2 2 r4.1.fAt).bind λ r6 =>
  some r6.2
 else
  (aH n r1.2).bind λ r8 =>
  some r8.2
instance vX (n:Nat) (p_0:ae) (s_1:Bytes):∀ (r:ae),HO (bR n p_0 s_1=some r) Tryz.prog 103 [.ptr 1000000 0,.p (eS s_1)] [(1000000,((ae.cs p_0).map .p))] (.tuple []) ([(1000000,((ae.cs r).map .p))]):=by
 refine hO good [] [1000000] Tryz.func103 Z Z λ r h0 _ w0 F=>?_
 unfold bR at h0
 refine nx 5 Z (bd h0 λ r1 e2 h0=>?_)
 refine mO Z (cVq [1000000] [] 101000 101000 (HO.c e2) Tryz.call101 Z ?_)
 refine nx 2 Z (fB [7] h0 Z (λ c3 h0=>?_) λ c3 h0=>?_)
 ·refine nx 5 Z (bd h0 λ r4 e5 h0=>?_)
  refine mO Z (cVq [1000000] [] 102000 102000 (HO.c e5) Tryz.call70 Z ?_)
  refine nx 1 Z (bd h0 λ r6 e7 h0=>?_)
  refine mO Z (cVq [1000000] [] 103000 103000 (HO.c e7) Tryz.call71 Z ?_)
  exact nx 2 Z (fC h0 Z)
 refine nx 4 Z (bd h0 λ r8 e9 h0=>?_)
 refine mO Z (cVq [1000000] [] 104000 104000 (HO.c e9) Tryz.call102 Z ?_)
 exact nx 1 Z (rZ (oi h0) (au _) Z Z Z Z (sr) ⟨⟨_,Z,⟨sr,sr,sr,sr,sr,sr,sr,trivial⟩⟩,trivial⟩)
def bf (n:Nat)(p_0:ae)(s_1:Bytes):Option ae :=
 (bR n p_0 s_1).bind λ r1 =>
 ck (inR (r1.fnest - 1)) <|
 some (ae.mk r1.fl r1.fat (r1.fnest - 1) r1.fbase r1.fbad)
instance u5 (n:Nat) (p_0:ae) (s_1:Bytes):∀ (r:ae),HO (bf n p_0 s_1=some r) Tryz.prog 186 [.ptr 1000000 0,.p (eS s_1)] [(1000000,((ae.cs p_0).map .p))] (.tuple []) ([(1000000,((ae.cs r).map .p))]):=by
 refine hO good [] [1000000] Tryz.func186 Z Z λ r h0 _ w0 F=>?_
 unfold bf at h0
 refine nx 4 Z (bd h0 λ r1 e2 h0=>?_)
 refine mO Z (cVq [1000000] [] 101000 101000 (HO.c e2) Tryz.call103 Z ?_)
 refine nx 6 Z (oA h0 Z Z λ hk3 h0=>?_)
 exact nx 4 Z (rZ (oi h0) (au _) Z Z Z Z (sr) ⟨⟨_,Z,⟨sr,sr,sr,sr,sr,sr,sr,trivial⟩⟩,trivial⟩)
def bZ (n:Nat)(p_0:ae)(s_1:Bytes):Option (Bool×ae) :=
 (bb n p_0).bind λ r1 =>
 (
   (aV r1.2).bind λ r3 =>
   if (!r3.1)=true then
    if r1.1.fKind=1 then
     some (decide (r1.1.fText=s_1),r3.2.fl,r3.2.fat,r3.2.fnest,r3.2.fbase,r3.2.fbad.fKind,r3.2.fbad.fAt,r3.2.fbad.fName)
    else
     some (false,r3.2.fl,r3.2.fat,r3.2.fnest,r3.2.fbase,r3.2.fbad.fKind,r3.2.fbad.fAt,r3.2.fbad.fName)
   else
    some (false,r3.2.fl,r3.2.fat,r3.2.fnest,r3.2.fbase,r3.2.fbad.fKind,r3.2.fbad.fAt,r3.2.fbad.fName)
  : Option (Bool×(List ad)×Int×Int×Int×Int×Int×Bytes)).bind λ q15 =>
 some (q15.1,(ae.mk q15.2.1 q15.2.2.1 q15.2.2.2.1 q15.2.2.2.2.1 (ax.mk q15.2.2.2.2.2.1 q15.2.2.2.2.2.2.1 q15.2.2.2.2.2.2.2)))
instance vZ (n:Nat) (p_0:ae) (s_1:Bytes):∀ (r:Bool×ae),HO (bZ n p_0 s_1=some r) Tryz.prog 211 [.ptr 1000000 0,.p (eS s_1)] [(1000000,((ae.cs p_0).map .p))] (.p (eB r.1)) ([(1000000,((ae.cs r.2).map .p))]):=by
 refine hO good [] [1000000] Tryz.func211 Z Z λ r h0 _ w0 F=>?_
 unfold bZ at h0
 refine nx 7 Z (bd h0 λ r1 e2 h0=>?_)
 refine mO Z (cVq [1000000] [] 101000 101000 (HO.c e2) Tryz.call70 Z ?_)
 refine nx 4 Z (bd h0 λ o16 h1 h0=>?_)
 refine kN o16 (λ v17=>⟨[(4,.p (eB v17.1))],[(1000000,[.p (eL aU v17.2.1),.p (eI v17.2.2.1),.p (eI v17.2.2.2.1),.p (eI v17.2.2.2.2.1),.p (eI v17.2.2.2.2.2.1),.p (eI v17.2.2.2.2.2.2.1),.p (eS v17.2.2.2.2.2.2.2)])]⟩) ?_ ?_
 ·exact nx 2 Z (fC h0 Z)
 refine nx 2 Z (bd h1 λ r3 e4 h1=>?_)
 refine mO Z (cVq [1000000] [] 102000 102000 (HO.c e4) Tryz.call121 Z ?_)
 refine nx 2 Z (fB [10,11] h1 Z (λ c5 h1=>?_) λ c5 h1=>?_)
 ·refine nx 5 Z (fD [14,15,16] h1 Z (λ c6 h1=>?_) λ c6 h1=>?_)
  ·refine nx 3 Z (oS Z Z ?_)
   exact nx 3 Z (eX _ (oi h1).symm (gE Z Z))
  exact nx 7 Z (eX _ (oi h1).symm (gE Z Z))
 exact nx 12 Z (eX _ (oi h1).symm (gE Z Z))
def ct (n:Nat)(p_0:ae):Option (Bytes×ae) :=
 (bb n p_0).bind λ r1 =>
 (
   (aV r1.2).bind λ r3 =>
   if r3.1=true then
    some (true,r3.2.fl,r3.2.fat,r3.2.fnest,r3.2.fbase,r3.2.fbad.fKind,r3.2.fbad.fAt,r3.2.fbad.fName)
   else
    if r1.1.fKind=1 then
     (eT r1.1.fText).bind λ r7 =>
     some (r7,r3.2.fl,r3.2.fat,r3.2.fnest,r3.2.fbase,r3.2.fbad.fKind,r3.2.fbad.fAt,r3.2.fbad.fName)
    else
     some (true,r3.2.fl,r3.2.fat,r3.2.fnest,r3.2.fbase,r3.2.fbad.fKind,r3.2.fbad.fAt,r3.2.fbad.fName)
  : Option (Bool×(List ad)×Int×Int×Int×Int×Int×Bytes)).bind λ q22 =>
 if q22.1=true then
  (bu (ae.mk q22.2.1 q22.2.2.1 q22.2.2.2.1 q22.2.2.2.2.1 (ax.mk q22.2.2.2.2.2.1 q22.2.2.2.2.2.2.1 q22.2.2.2.2.2.2.2)) 2 r1.1.fAt).bind λ r18 =>
  some (([]:Bytes),r18.2)
 else
  (aH n (ae.mk q22.2.1 q22.2.2.1 q22.2.2.2.1 q22.2.2.2.2.1 (ax.mk q22.2.2.2.2.2.1 q22.2.2.2.2.2.2.1 q22.2.2.2.2.2.2.2))).bind λ r20 =>
  some (r1.1.fText,r20.2)
instance td (n:Nat) (p_0:ae):∀ (r:Bytes×ae),HO (ct n p_0=some r) Tryz.prog 223 [.ptr 1000000 0] [(1000000,((ae.cs p_0).map .p))] (.p (eS r.1)) ([(1000000,((ae.cs r.2).map .p))]):=by
 refine hO good [] [1000000] Tryz.func223 Z Z λ r h0 _ w0 F=>?_
 unfold ct at h0
 refine nx 7 Z (bd h0 λ r1 e2 h0=>?_)
 refine mO Z (cVq [1000000] [] 101000 101000 (HO.c e2) Tryz.call70 Z ?_)
 refine nx 5 Z (bd h0 λ o23 h1 h0=>?_)
 refine kN o23 (λ v24=>⟨[(0,.ptr 1000000 0),(3,.ptr 3 0),(17,.p (eB v24.1))],[(3,(ad.cs r1.1).map .p),(1000000,[.p (eL aU v24.2.1),.p (eI v24.2.2.1),.p (eI v24.2.2.2.1),.p (eI v24.2.2.2.2.1),.p (eI v24.2.2.2.2.2.1),.p (eI v24.2.2.2.2.2.2.1),.p (eS v24.2.2.2.2.2.2.2)])]⟩) ?_ ?_
 ·refine nx 1 Z (fB [17] h0 Z (λ c17 h0=>?_) λ c17 h0=>?_)
  ·refine nx 6 Z (bd h0 λ r18 e19 h0=>?_)
   refine mO Z (cVq [1000000] [] 103000 103000 (HO.c e19) Tryz.call71 Z ?_)
   exact nx 6 Z (fC h0 Z)
  refine nx 5 Z (bd h0 λ r20 e21 h0=>?_)
  refine mO Z (cVq [1000000] [] 104000 104000 (HO.c e21) Tryz.call102 Z ?_)
  exact nx 8 Z (fC h0 Z)
 refine nx 2 Z (bd h1 λ r3 e4 h1=>?_)
 refine mO Z (cVq [1000000] [] 102000 102000 (HO.c e4) Tryz.call121 Z ?_)
 refine nx 1 Z (fB [7,8] h1 Z (λ c5 h1=>?_) λ c5 h1=>?_)
 ·exact nx 10 Z (eX _ (oi h1).symm (gE Z Z))
 refine nx 5 Z (fN [11,12,13] h1 Z (λ c6 h1=>?_) λ c6 h1=>?_)
 ·refine nx 2 Z (bd h1 λ r7 e8 h1=>?_)
  refine oK (HP.c e8) Z ⟨sr,trivial⟩ Tryz.call114 Z (nx 2 Z ?_)
  exact eX _ (oi h1).symm (gE Z Z)
 exact nx 5 Z (eX _ (oi h1).symm (gE Z Z))
def ce (n:Nat)(p_0:ae)(s_1:Bytes):Option ae :=
 (bZ n p_0 s_1).bind λ r1 =>
 if (!r1.1)=true then
  (bb n r1.2).bind λ r4 =>
  (bu r4.2 2 r4.1.fAt).bind λ r6 =>
  some r6.2
 else
  (aH n r1.2).bind λ r8 =>
  some r8.2
instance uh (n:Nat) (p_0:ae) (s_1:Bytes):∀ (r:ae),HO (ce n p_0 s_1=some r) Tryz.prog 224 [.ptr 1000000 0,.p (eS s_1)] [(1000000,((ae.cs p_0).map .p))] (.tuple []) ([(1000000,((ae.cs r).map .p))]):=by
 refine hO good [] [1000000] Tryz.func224 Z Z λ r h0 _ w0 F=>?_
 unfold ce at h0
 refine nx 5 Z (bd h0 λ r1 e2 h0=>?_)
 refine mO Z (cVq [1000000] [] 101000 101000 (HO.c e2) Tryz.call211 Z ?_)
 refine nx 2 Z (fB [7] h0 Z (λ c3 h0=>?_) λ c3 h0=>?_)
 ·refine nx 5 Z (bd h0 λ r4 e5 h0=>?_)
  refine mO Z (cVq [1000000] [] 102000 102000 (HO.c e5) Tryz.call70 Z ?_)
  refine nx 1 Z (bd h0 λ r6 e7 h0=>?_)
  refine mO Z (cVq [1000000] [] 103000 103000 (HO.c e7) Tryz.call71 Z ?_)
  exact nx 2 Z (fC h0 Z)
 refine nx 4 Z (bd h0 λ r8 e9 h0=>?_)
 refine mO Z (cVq [1000000] [] 104000 104000 (HO.c e9) Tryz.call102 Z ?_)
 exact nx 1 Z (rZ (oi h0) (au _) Z Z Z Z (sr) ⟨⟨_,Z,⟨sr,sr,sr,sr,sr,sr,sr,trivial⟩⟩,trivial⟩)
def a8 (n:Nat)(l_1:List Bytes):Nat→Int→(List ad)→Int→Int→Int→Int→Int→Bytes→Option (((List ad)×Int×Int×Int×Int×Int×Bytes)⊕(Bytes×Bool×ae))
 | 0,_,_,_,_,_,_,_,_=>none
 | m+1,t15,f16,f17,f18,f19,f20,f21,f22 =>
 if t15 < (l_1.length:Int) then
  ck ((0:Int)≤t15∧t15 < (l_1.length:Int)) <|
  (aP n (ae.mk f16 f17 f18 f19 (ax.mk f20 f21 f22)) (lat l_1 t15)).bind λ r25 =>
  if r25.1=true then
   some (.inr (lat l_1 t15,true,r25.2))
  else
   ck (inR (t15+1)) <|
   a8 n l_1 m (t15+1) r25.2.fl r25.2.fat r25.2.fnest r25.2.fbase r25.2.fbad.fKind r25.2.fbad.fAt r25.2.fbad.fName
 else
  some (.inl (f16,f17,f18,f19,f20,f21,f22))
def cD (n:Nat)(p_0:ae)(l_1:List Bytes):Option (Bytes×Bool×ae) :=
 jn (a8 n l_1 n 0 p_0.fl p_0.fat p_0.fnest p_0.fbase p_0.fbad.fKind p_0.fbad.fAt p_0.fbad.fName) λ q44 =>
 some (([]:Bytes),false,(ae.mk q44.1 q44.2.1 q44.2.2.1 q44.2.2.2.1 (ax.mk q44.2.2.2.2.1 q44.2.2.2.2.2.1 q44.2.2.2.2.2.2)))
instance vS (n:Nat) (p_0:ae) (l_1:List Bytes):∀ (r:Bytes×Bool×ae),HO (cD n p_0 l_1=some r) Tryz.prog 140 [.ptr 1000000 0,.p (eL eS l_1)] [(1000000,((ae.cs p_0).map .p))] (.tuple [.p (eS r.1),.p (eB r.2.1)]) ([(1000000,((ae.cs r.2.2).map .p))]):=by
 refine hO good [] [1000000] Tryz.func140 Z Z λ r h0 _ w0 F=>?_
 unfold cD at h0
 refine nx 9 Z (oLl (f:=eS) Z Z ?_)
 refine nx 3 Z ?_
 obtain ⟨o45,h1,hL0,hR0⟩:=dj h0
 refine kEx 0 (λ v46:(List ad)×Int×Int×Int×Int×Int×Bytes=>o45=.inl v46) (λ v46=>⟨[],[(1000000,[.p (eL aU v46.1),.p (eI v46.2.1),.p (eI v46.2.2.1),.p (eI v46.2.2.2.1),.p (eI v46.2.2.2.2.1),.p (eI v46.2.2.2.2.2.1),.p (eS v46.2.2.2.2.2.2)])]⟩) (λ v46 hv=>?_) ?_
 ·have h0:=hL0 _ hv
  exact nx 7 Z (mQo (oi h0) (au _) Z Z Z Z (bz ⟨sr,sr,trivial⟩) ⟨⟨_,Z,⟨sr,sr,sr,sr,sr,sr,sr,trivial⟩⟩,trivial⟩)
 refine lG (λ (q47:Int×(List ad)×Int×Int×Int×Int×Int×Bytes)=>⟨[(0,.ptr 1000000 0),(8,.p (eL eS l_1)),(9,.p (eI (l_1.length:Int))),(10,.p (eI q47.1))],[(1000000,[.p (eL aU q47.2.1),.p (eI q47.2.2.1),.p (eI q47.2.2.2.1),.p (eI q47.2.2.2.2.1),.p (eI q47.2.2.2.2.2.1),.p (eI q47.2.2.2.2.2.2.1),.p (eS q47.2.2.2.2.2.2.2)])]⟩) (λ m (q47:Int×(List ad)×Int×Int×Int×Int×Int×Bytes)=>a8 n l_1 m q47.1 q47.2.1 q47.2.2.1 q47.2.2.2.1 q47.2.2.2.2.1 q47.2.2.2.2.2.1 q47.2.2.2.2.2.2.1 q47.2.2.2.2.2.2.2) Y (0,p_0.fl,p_0.fat,p_0.fnest,p_0.fbase,p_0.fbad.fKind,p_0.fbad.fAt,p_0.fbad.fName) h1 (gE Z Z) ?_
 rintro m ⟨t15,f16,f17,f18,f19,f20,f21,f22⟩ h1
 replace h1:a8 n l_1 (m+1) t15 f16 f17 f18 f19 f20 f21 f22=some o45:=h1
 rw [a8] at h1
 refine nx 5 Z (fD [11] h1 Z (λ c23 h1=>?_) λ c23 h1=>?_)
 ·refine nx 6 Z (oE h1 Y Z Z Y λ hk24 h1=>?_)
  refine nx 7 Z (bd h1 λ r25 e26 h1=>?_)
  refine mO Z (cVq [1000000] [] 102000 102000 (HO.c e26) Tryz.call101 Z ?_)
  refine nx 1 Z (fB [16] h1 Z (λ c27 h1=>?_) λ c27 h1=>?_)
  ·exact nx 8 Z (mQo (hR0 _ (oi h1).symm) (au _) Z Z Z Z (bz ⟨sr,sr,trivial⟩) ⟨⟨_,Z,⟨sr,sr,sr,sr,sr,sr,sr,trivial⟩⟩,trivial⟩)
  refine nx 3 Z (oA h1 Z Z λ hk28 h1=>?_)
  exact nx 2 Z (eX (t15+1,r25.2.fl,r25.2.fat,r25.2.fnest,r25.2.fbase,r25.2.fbad.fKind,r25.2.fbad.fAt,r25.2.fbad.fName) h1 (gE Z Z))
 exact nx 2 Z (eXi _ (oi h1).symm (gE Z Z))
def iR (level_0:Int):Option (List Bytes) :=
 if level_0=0 then
  some ([([124,124]:Bytes)])
 else
  if level_0=1 then
   some ([([38,38]:Bytes)])
  else
   if level_0=2 then
    some ([([61,61]:Bytes),([33,61]:Bytes)])
   else
    if level_0=3 then
     some ([([60]:Bytes),([60,61]:Bytes),([62]:Bytes),([62,61]:Bytes)])
    else
     if level_0=4 then
      some ([([43]:Bytes),([45]:Bytes)])
     else
      some ([([42]:Bytes),([47]:Bytes),([37]:Bytes)])
instance yc (level_0:Int):∀ (r:(List Bytes)),HP (iR level_0=some r) Tryz.prog 141 [eI level_0] (.p (eL eS r)):=by
 refine hP good Tryz.func141 Z Z λ r h0 _ w0=>?_
 unfold iR at h0
 refine nx 15 Z (fD [4,5] h0 Z (λ c1 h0=>?_) λ c1 h0=>?_)
 ·refine nx 3 Z (mO Z (bO eS [([124,124]:Bytes)] Z Z Z Z Z Z Z Z Z Z Z Z Z Z ?_))
  exact nx 3 Z (mQ (oi h0) Z (sr))
 refine nx 6 Z (fD [7,8] h0 Z (λ c2 h0=>?_) λ c2 h0=>?_)
 ·refine nx 3 Z (mO Z (bO eS [([38,38]:Bytes)] Z Z Z Z Z Z Z Z Z Z Z Z Z Z ?_))
  exact nx 3 Z (mQ (oi h0) Z (sr))
 refine nx 6 Z (fD [10,11] h0 Z (λ c3 h0=>?_) λ c3 h0=>?_)
 ·refine nx 3 Z (mO Z (bO eS [([61,61]:Bytes),([33,61]:Bytes)] Z Z Z Z Z Z Z Z Z Z Z Z Z Z ?_))
  exact nx 3 Z (mQ (oi h0) Z (sr))
 refine nx 6 Z (fD [13,14] h0 Z (λ c4 h0=>?_) λ c4 h0=>?_)
 ·refine nx 3 Z (mO Z (bO eS [([60]:Bytes),([60,61]:Bytes),([62]:Bytes),([62,61]:Bytes)] Z Z Z Z Z Z Z Z Z Z Z Z Z Z ?_))
  exact nx 3 Z (mQ (oi h0) Z (sr))
 refine nx 6 Z (fD [16,17] h0 Z (λ c5 h0=>?_) λ c5 h0=>?_)
 ·refine nx 3 Z (mO Z (bO eS [([43]:Bytes),([45]:Bytes)] Z Z Z Z Z Z Z Z Z Z Z Z Z Z ?_))
  exact nx 3 Z (mQ (oi h0) Z (sr))
 refine nx 4 Z (mO Z (bO eS [([42]:Bytes),([47]:Bytes),([37]:Bytes)] Z Z Z Z Z Z Z Z Z Z Z Z Z Z ?_))
 exact nx 3 Z (mQ (oi h0) Z (sr))
def eM (s_0:Bytes):Nat→Int→Option (Unit⊕Int)
 | 0,_=>none
 | m+1,t7 =>
 if t7 < 13 then
  ck ((0:Int)≤t7∧t7 < 13) <|
  if lat ([([124,124]:Bytes),([38,38]:Bytes),([61,61]:Bytes),([33,61]:Bytes),([60]:Bytes),([60,61]:Bytes),([62]:Bytes),([62,61]:Bytes),([43]:Bytes),([45]:Bytes),([42]:Bytes),([47]:Bytes),([37]:Bytes)]:List Bytes) t7=s_0 then
   ck (inR (3+t7)) <|
   some (.inr (3+t7))
  else
   ck (inR (t7+1)) <|
   eM s_0 m (t7+1)
 else
  some (.inl ())
def kx (n:Nat)(s_0:Bytes):Option Int :=
 jn (eM s_0 n 0) λ q14 =>
 some 0
instance Fh (n:Nat) (s_0:Bytes):∀ (r:Int),HP (kx n s_0=some r) Tryz.prog 142 [eS s_0] (.p (eI r)):=by
 refine hP good Tryz.func142 Z Z λ r h0 _ w0=>?_
 unfold kx at h0
 refine nx 11 Z ?_
 obtain ⟨o15,h1,hL0,hR0⟩:=dj h0
 refine kEx 0 (λ v16:Unit=>o15=.inl v16) (λ v16=>⟨[],[]⟩) (λ v16 hv=>?_) ?_
 ·have h0:=hL0 _ hv
  exact nx 6 Z (mQ (oi h0) Z (sr))
 refine lG (λ (q17:Int)=>⟨[(0,.p (eS s_0)),(5,.p (.agg [eS ([124,124]:Bytes),eS ([38,38]:Bytes),eS ([61,61]:Bytes),eS ([33,61]:Bytes),eS ([60]:Bytes),eS ([60,61]:Bytes),eS ([62]:Bytes),eS ([62,61]:Bytes),eS ([43]:Bytes),eS ([45]:Bytes),eS ([42]:Bytes),eS ([47]:Bytes),eS ([37]:Bytes)])),(6,.p (eI q17))],[]⟩) (λ m (q17:Int)=>eM s_0 m q17) Y 0 h1 (gE Z Z) ?_
 rintro m t7 h1
 replace h1:eM s_0 (m+1) t7=some o15:=h1
 rw [eM] at h1
 refine nx 5 Z (fD [7] h1 Z (λ c8 h1=>?_) λ c8 h1=>?_)
 ·refine nx 7 Z (cc' h1 λ hk9 h1=>?_)
  refine mO Z (ss eS ([([124,124]:Bytes),([38,38]:Bytes),([61,61]:Bytes),([33,61]:Bytes),([60]:Bytes),([60,61]:Bytes),([62]:Bytes),([62,61]:Bytes),([43]:Bytes),([45]:Bytes),([42]:Bytes),([47]:Bytes),([37]:Bytes)]:List Bytes) Z Z Z Z Z Z Z Z Z Z Z (by have:=hk9; simp only [List.length_cons,List.length_nil]; omega) ?_)
  refine nx 7 Z (oS Z Z ?_)
  refine nx 1 Z (fD [12] h1 Z (λ c10 h1=>?_) λ c10 h1=>?_)
  ·refine nx 4 Z (oA h1 Z Z λ hk11 h1=>?_)
   exact nx 3 Z (mQ (hR0 _ (oi h1).symm) Z (sr))
  refine nx 3 Z (oA h1 Z Z λ hk12 h1=>?_)
  exact nx 2 Z (eX (t7+1) h1 (gE Z Z))
 exact nx 2 Z (eXi _ (oi h1).symm (gE Z Z))
end Go.Ab.R06
end
