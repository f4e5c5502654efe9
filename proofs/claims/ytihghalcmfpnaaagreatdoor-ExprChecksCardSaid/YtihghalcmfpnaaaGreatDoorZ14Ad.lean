/- Texts of the proof, one behind the other. No statement is proved here. -/
import Derived.Test.YtihghalcmfpnaaaGreatDoorZ14Aa
import Derived.Test.YtihghalcmfpnaaaGreatDoorZ14Ab
import Derived.Test.YtihghalcmfpnaaaGreatDoorZ14Ac
section
set_option linter.unusedVariables false
set_option linter.unusedSimpArgs false
set_option linter.unnecessarySimpa false
namespace Go.Ab.R06
open Go.Proofs Go.Ab Go.Ab.RB
attribute [local irreducible] awp fk aS au aF AV.sub M cB
abbrev gk:List AV:=[.p (eI 0),.p (eS ([]:Bytes)),.p (eI 0)]
abbrev jp:List AV:=[.p (eI 0),.p (eI 0),.p (eS ([]:Bytes))]
def bY (x_0:aa):Option (Bool×aa) :=
 some (decide (x_0.fat < (x_0.fs.length:Int)),x_0)
set_option maxHeartbeats 4000000 in
theorem bw (x_0:aa)(r:Bool×aa)(h0:bY x_0=some r):aF Tryz.prog 53 [.ptr 1000000 0] [(1000000,(aa.cs x_0).map .p)] (λ x y=>x=.p (eB r.1)∧y=[(1000000,(aa.cs r.2).map .p)]):=by
 unfold bY at h0
 refine bF good [] [1000000] Tryz.func53 rfl rfl rfl rfl rfl λ w0 F=>mPo (λ v:Bool×aa=>.p (eB v.1)) (λ v=>[(1000000,(aa.cs v.2).map .p)]) ?_
 refine nx 5 rfl (mD [(0,.ptr 1000000 0)] rfl ⟨rfl,trivial⟩ rfl ?_)
 refine dR 3 rfl (dq (.p (eI x_0.fat)) [5] rfl (λ _ e _ q=>ag rfl (aG rfl rfl rfl rfl rfl (e _ _ rfl) rfl (aa.g_at _) q)) rfl ?_)
 refine dR 3 rfl (dq (.p (eS x_0.fs)) [9] rfl (λ _ e _ q=>ag rfl (aG rfl rfl rfl rfl rfl (e _ _ rfl) rfl (aa.g_s _) q)) rfl ?_)
 refine dq (.p (eI (x_0.fs.length:Int))) [10] rfl (λ _ e _ q=>ag rfl (mq rfl rfl rfl rfl rfl (e _ _ rfl) q)) rfl (dR 2 rfl ?_)
 refine dE rfl (nx 2 rfl ?_)
 exact mQo (oi h0) (al _) rfl rfl rfl (ah rfl (ak _) rfl) (sr) ⟨⟨_,rfl,aw _⟩,trivial⟩
def bN:Nat→aa→Option (aa⊕aa)
 | 0,_=>none
 | m+1,x20 =>
 (bY x20).bind λ r21 =>
 if r21.1=true then
  ck ((0:Int)≤r21.2.fat∧r21.2.fat < (r21.2.fs.length:Int)) <|
  ck ((0:Int)≤byt r21.2.fs r21.2.fat∧byt r21.2.fs r21.2.fat < 256) <|
  jn (
    if ((lat gq (byt r21.2.fs r21.2.fat)).toNat:Int)=1 then
     ck (inR (r21.2.fat+1)) <|
     some (.inl (aa.mk r21.2.fs (r21.2.fat+1) r21.2.fouter r21.2.fbad))
    else
     (
       if ((lat gq (byt r21.2.fs r21.2.fat)).toNat:Int)=7 then
        some (decide (r21.2.fouter < 0))
       else
        some false
      : Option Bool).bind λ t29 =>
     if t29=true then
      ck ((0:Int)≤r21.2.fat∧r21.2.fat≤(r21.2.fs.length:Int)∧(r21.2.fs.length:Int)≤(r21.2.fs.length:Int)) <|
      (strings_IndexByte (sub r21.2.fs r21.2.fat (r21.2.fs.length:Int)) 10).bind λ r32 =>
      (
        if r32 < 0 then
         ck (inR ((r21.2.fs.length:Int) - r21.2.fat)) <|
         some ((r21.2.fs.length:Int) - r21.2.fat)
        else
         some r32
       : Option Int).bind λ n36 =>
      ck (inR (r21.2.fat+n36)) <|
      some (.inl (aa.mk r21.2.fs (r21.2.fat+n36) r21.2.fouter r21.2.fbad))
     else
      some (.inr (.inr r21.2))
   : Option (aa⊕(aa⊕aa))) λ x38 =>
  bN m x38
 else
  some (.inl r21.2)
def cQ (n:Nat)(x_0:aa):Option aa :=
 jn (bN n x_0) λ x40 =>
 some x40
set_option maxHeartbeats 4000000 in
theorem gU (n:Nat)(x_0:aa)(r:aa)(h0:cQ n x_0=some r):aF Tryz.prog 52 [.ptr 1000000 0] [(1000000,(aa.cs x_0).map .p)] (λ x y=>x=.tuple []∧y=[(1000000,(aa.cs r).map .p)]):=by
 unfold cQ at h0
 refine bF good [] [1000000] Tryz.func52 rfl rfl rfl rfl rfl λ w0 F=>mPo (λ v:aa=>.tuple []) (λ v=>[(1000000,(aa.cs v).map .p)]) ?_
 refine nx 1 rfl ?_
 obtain ⟨o45,h1,hL0,hR0⟩:=cz h0
 refine kEx 0 (λ v46:aa=>o45=.inl v46) (λ v46=>⟨[],[(1000000,(aa.cs v46).map .p)]⟩) (λ v46 hv=>?_) ?_
 ·have h0:=hL0 _ hv
  exact nx 1 rfl (sc (oi h0) (al _) rfl rfl rfl (ah rfl (ak _) rfl) (sr) ⟨⟨_,rfl,aw _⟩,trivial⟩)
 refine lG (λ (q47:aa)=>⟨[(0,.ptr 1000000 0)],[(1000000,(aa.cs q47).map .p)]⟩) (λ m (q47:aa)=>bN m q47) (λ _=>rfl) x_0 h1 (gE rfl rfl) ?_
 rintro m x20 h1
 replace h1:bN (m+1) x20=some o45:=h1
 rw [bN] at h1
 refine nx 4 rfl (bd h1 λ r21 e22 h1=>?_)
 refine mO rfl (aZ [1000000] [] 102000 102000 (bw x20 _ e22) rfl rfl rfl rfl rfl ⟨sr,trivial⟩ rfl (ah rfl (ak _) rfl) ⟨⟨_,rfl,aw _⟩,trivial⟩ rfl rfl rfl rfl rfl rfl rfl rfl Tryz.call53 rfl (ah rfl (ak _) rfl) ?_)
 refine nx 1 rfl (fB [5] h1 rfl (λ c23 h1=>?_) λ c23 h1=>?_)
 ·refine nx 4 rfl (cc' h1 λ hk24 h1=>?_)
  refine cc' h1 λ hk25 h1=>mD [(0,.ptr 1000000 0)] rfl ⟨rfl,trivial⟩ rfl (dR 4 rfl ?_)
  refine dq (.p (eS r21.2.fs)) [9] rfl (λ _ e _ q=>ag rfl (aG rfl rfl rfl rfl rfl (e _ _ rfl) rfl (aa.g_s _) q)) rfl (dR 3 rfl ?_)
  refine dq (.p (eI r21.2.fat)) [13] rfl (λ _ e _ q=>ag rfl (aG rfl rfl rfl rfl rfl (e _ _ rfl) rfl (aa.g_at _) q)) rfl (dq (.p (eK .u8 (byt r21.2.fs r21.2.fat))) [10,14] rfl (λ _ e _ q=>ag rfl (ei rfl rfl rfl rfl rfl (e _ _ rfl) (e _ _ rfl) hk24 q)) rfl ?_)
  refine dR 2 rfl (dq (.ptr 1000000 (2+(byt r21.2.fs r21.2.fat).toNat*1)) [15,17] rfl (λ _ e _ q=>ag rfl (ec rfl rfl rfl rfl rfl rfl (e _ _ rfl) (e _ _ rfl) hk25 q)) rfl ?_)
  refine dq (.p (eK .u8 ((lat gq (byt r21.2.fs r21.2.fat)).toNat:Int))) [18] rfl (λ _ e _ q=>ag rfl (aG rfl rfl rfl rfl rfl (e _ _ rfl) rfl (aa.g_class _ hk25) q)) rfl (dR 1 rfl ?_)
  refine dE rfl (nx 1 rfl ?_)
  obtain ⟨o48,h2,hL1,hR1⟩:=cz h1
  refine kX (λ v49:aa=>o48=.inl v49) (λ v49=>⟨[(0,.ptr 1000000 0)],[(1000000,(aa.cs v49).map .p)]⟩) (λ v49 hv=>?_) ?_
  ·have h1:=hL1 _ hv
   exact nx 1 rfl (eX v49 h1 (gE rfl rfl))
  refine nx 7 rfl (fD [20,22] h2 rfl (λ c26 h2=>?_) λ c26 h2=>?_)
  ·refine nx 5 rfl (mO rfl (aG rfl rfl rfl rfl rfl rfl rfl (aa.g_at _) ?_))
   refine oA h2 rfl rfl λ hk27 h2=>nx 2 rfl (mO rfl (dx rfl rfl rfl rfl rfl rfl rfl rfl (aa.b_at _) (aa.u_at _) ?_))
   exact nx 1 rfl (eX _ (oi h2).symm (gE rfl rfl))
  refine nx 2 rfl (bd h2 λ o50 h3 h2=>?_)
  refine kN o50 (λ v51=>⟨[(0,.ptr 1000000 0),(30,.p (eB v51))],[(1000000,(aa.cs r21.2).map .p)]⟩) ?_ ?_
  ·refine nx 1 rfl (fB [30] h2 rfl (λ c30 h2=>?_) λ c30 h2=>?_)
   ·refine nx 2 rfl (cc' h2 λ hk31 h2=>?_)
    refine bd h2 λ r32 e33 h2=>mD [(0,.ptr 1000000 0)] rfl ⟨rfl,trivial⟩ rfl (dR 3 rfl ?_)
    refine dq (.p (eS r21.2.fs)) [42] rfl (λ _ e _ q=>ag rfl (aG rfl rfl rfl rfl rfl (e _ _ rfl) rfl (aa.g_s _) q)) rfl (dR 3 rfl ?_)
    refine dq (.p (eI r21.2.fat)) [46] rfl (λ _ e _ q=>ag rfl (aG rfl rfl rfl rfl rfl (e _ _ rfl) rfl (aa.g_at _) q)) rfl (dq (.p (eS (sub r21.2.fs r21.2.fat (r21.2.fs.length:Int)))) [43,47] rfl (λ _ e _ q=>ag rfl (cF (a:=r21.2.fs) (l:=r21.2.fat) (h:=(r21.2.fs.length:Int)) rfl rfl rfl rfl rfl (e _ _ rfl) (ew (e _ _ rfl)) rfl hk31 q)) rfl ?_)
    refine dq (.p (eI r32)) [48] rfl (λ _ e _ q=>ag rfl (bS (ek (sub r21.2.fs r21.2.fat (r21.2.fs.length:Int)) 10 _ e33) rfl rfl rfl (az (e _ _ rfl) (az rfl bc)) ⟨sr,sr,trivial⟩ Tryz.call85 rfl q)) rfl (dR 1 rfl ?_)
    refine dE rfl (nx 2 rfl ?_)
    refine bd h2 λ o52 h3 h2=>kN o52 (λ v53=>⟨[(0,.ptr 1000000 0),(3,.p (eI v53))],[(1000000,(aa.cs r21.2).map .p)]⟩) ?_ ?_
    ·refine nx 5 rfl (mO rfl (aG rfl rfl rfl rfl rfl rfl rfl (aa.g_at _) ?_))
     refine nx 1 rfl (oA h2 rfl rfl λ hk37 h2=>?_)
     refine nx 2 rfl (mO rfl (dx rfl rfl rfl rfl rfl rfl rfl rfl (aa.b_at _) (aa.u_at _) ?_))
     exact nx 1 rfl (eX _ (oi h2).symm (gE rfl rfl))
    refine nx 5 rfl (fD [51] h3 rfl (λ c34 h3=>?_) λ c34 h3=>?_)
    ·refine nx 1 rfl (cc' h3 λ hk35 h3=>?_)
     refine mD [(0,.ptr 1000000 0)] rfl ⟨rfl,trivial⟩ rfl (dR 3 rfl ?_)
     refine dq (.p (eS r21.2.fs)) [54] rfl (λ _ e _ q=>ag rfl (aG rfl rfl rfl rfl rfl (e _ _ rfl) rfl (aa.g_s _) q)) rfl (dq (.p (eI (r21.2.fs.length:Int))) [55] rfl (λ _ e _ q=>ag rfl (mq rfl rfl rfl rfl rfl (e _ _ rfl) q)) rfl ?_)
     refine dR 3 rfl (dq (.p (eI r21.2.fat)) [59] rfl (λ _ e _ q=>ag rfl (aG rfl rfl rfl rfl rfl (e _ _ rfl) rfl (aa.g_at _) q)) rfl ?_)
     refine dq (.p (eI ((r21.2.fs.length:Int) - r21.2.fat))) [56,60] rfl (λ _ e _ q=>ag rfl (de rfl rfl rfl (e _ _ rfl) (e _ _ rfl) rfl hk35 q)) rfl (dR 1 rfl ?_)
     refine dE rfl (nx 1 rfl ?_)
     exact eX _ (oi h3).symm (gE rfl rfl)
    exact nx 2 rfl (eX _ (oi h3).symm (gE rfl rfl))
   exact nx 2 rfl (mQo (hR0 _ (hR1 _ (oi h2).symm).symm) (al _) rfl rfl rfl (ah rfl (ak _) rfl) (sr) ⟨⟨_,rfl,aw _⟩,trivial⟩)
  refine nx 4 rfl (fD [32,33] h3 rfl (λ c28 h3=>?_) λ c28 h3=>?_)
  ·refine nx 3 rfl (mO rfl (aG rfl rfl rfl rfl rfl rfl rfl (aa.g_outer _) ?_))
   exact nx 4 rfl (eX _ (oi h3).symm (gE rfl rfl))
  exact nx 8 rfl (eX _ (oi h3).symm (gE rfl rfl))
 exact nx 2 rfl (eXi _ (oi h1).symm (gE rfl rfl))
def dr (s_0:Bytes):Nat→Int→Option (Unit⊕Bytes)
 | 0,_=>none
 | m+1,t8 =>
 if t8 < 7 then
  ck ((0:Int)≤t8∧t8 < 7) <|
  (strings_HasPrefix s_0 (lat ([([61,62]:Bytes),([61,61]:Bytes),([33,61]:Bytes),([60,61]:Bytes),([62,61]:Bytes),([38,38]:Bytes),([124,124]:Bytes)]:List Bytes) t8)).bind λ r11 =>
  if r11=true then
   some (.inr (lat ([([61,62]:Bytes),([61,61]:Bytes),([33,61]:Bytes),([60,61]:Bytes),([62,61]:Bytes),([38,38]:Bytes),([124,124]:Bytes)]:List Bytes) t8))
  else
   ck (inR (t8+1)) <|
   dr s_0 m (t8+1)
 else
  some (.inl ())
def ff (n:Nat)(s_0:Bytes):Option Bytes :=
 jn (dr s_0 n 0) λ q23 =>
 (
   if s_0=([]:Bytes) then
    some true
   else
    ck ((0:Int)≤0∧0 < (s_0.length:Int)) <|
    (strings_IndexByte ([123,125,91,93,40,41,44,61,60,62,43,45,42,47,37,33,63,58,46]:Bytes) (byt s_0 0)).bind λ r18 =>
    some (decide (r18 < 0))
  : Option Bool).bind λ t20 =>
 if t20=true then
  some ([]:Bytes)
 else
  ck ((0:Int)≤0∧(0:Int)≤1∧(1:Int)≤(s_0.length:Int)) <|
  some (sub s_0 0 1)
set_option maxHeartbeats 4000000 in
theorem kp (n:Nat)(s_0:Bytes)(r:Bytes)(h0:ff n s_0=some r):au Tryz.prog 86 [eS s_0] (·=.p (eS r)):=by
 unfold ff at h0
 refine aW good Tryz.func86 rfl rfl rfl λ w0=>mP (λ v:Bytes=>.p (eS v)) ?_
 refine nx 11 rfl ?_
 obtain ⟨o25,h1,hL0,hR0⟩:=cz h0
 refine kEx 0 (λ v26:Unit=>o25=.inl v26) (λ v26=>⟨[(0,.p (eS s_0))],[]⟩) (λ v26 hv=>?_) ?_
 ·have h0:=hL0 _ hv
  refine nx 3 rfl (bd h0 λ o27 h1 h0=>?_)
  refine kN o27 (λ v28=>⟨[(0,.p (eS s_0)),(21,.p (eB v28))],[]⟩) ?_ ?_
  ·refine nx 1 rfl (fB [21] h0 rfl (λ c21 h0=>?_) λ c21 h0=>?_)
   ·exact nx 6 rfl (mQ (oi h0) rfl (sr))
   refine nx 5 rfl (oP h0 rfl rfl rfl λ hk22 h0=>?_)
   exact nx 3 rfl (mQ (oi h0) rfl (sr))
  refine nx 2 rfl (oS rfl rfl ?_)
  refine nx 1 rfl (fD [15,16] h1 rfl (λ c16 h1=>?_) λ c16 h1=>?_)
  ·exact nx 6 rfl (eX _ (oi h1).symm (gE rfl rfl))
  refine nx 1 rfl (oI h1 rfl λ hk17 h1=>?_)
  refine bd h1 λ r18 e19 h1=>oK (ek ([123,125,91,93,40,41,44,61,60,62,43,45,42,47,37,33,63,58,46]:Bytes) (byt s_0 0) _ e19) rfl ⟨sr,sr,trivial⟩ Tryz.call85 rfl (nx 3 rfl ?_)
  exact eX _ (oi h1).symm (gE rfl rfl)
 refine lG (λ (q29:Int)=>⟨[(0,.p (eS s_0)),(5,.p (.agg [eS ([61,62]:Bytes),eS ([61,61]:Bytes),eS ([33,61]:Bytes),eS ([60,61]:Bytes),eS ([62,61]:Bytes),eS ([38,38]:Bytes),eS ([124,124]:Bytes)])),(6,.p (eI q29))],[]⟩) (λ m (q29:Int)=>dr s_0 m q29) (λ _=>rfl) 0 h1 (gE rfl rfl) ?_
 rintro m t8 h1
 replace h1:dr s_0 (m+1) t8=some o25:=h1
 rw [dr] at h1
 refine nx 5 rfl (fD [7] h1 rfl (λ c9 h1=>?_) λ c9 h1=>?_)
 ·refine nx 6 rfl (cc' h1 λ hk10 h1=>?_)
  refine mO rfl (p9 eS ([([61,62]:Bytes),([61,61]:Bytes),([33,61]:Bytes),([60,61]:Bytes),([62,61]:Bytes),([38,38]:Bytes),([124,124]:Bytes)]:List Bytes) rfl rfl rfl rfl rfl rfl rfl rfl rfl rfl rfl (by have:=hk10; simp only [List.length_cons,List.length_nil]; omega) ?_)
  refine nx 6 rfl (bd h1 λ r11 e12 h1=>?_)
  refine oK (bU s_0 (lat ([([61,62]:Bytes),([61,61]:Bytes),([33,61]:Bytes),([60,61]:Bytes),([62,61]:Bytes),([38,38]:Bytes),([124,124]:Bytes)]:List Bytes) t8) _ e12) rfl ⟨sr,sr,trivial⟩ Tryz.call75 rfl (nx 1 rfl ?_)
  refine fB [11] h1 rfl (λ c13 h1=>?_) λ c13 h1=>?_
  ·exact nx 7 rfl (mQ (hR0 _ (oi h1).symm) rfl (sr))
  refine nx 3 rfl (oA h1 rfl rfl λ hk14 h1=>?_)
  exact nx 2 rfl (eX (t8+1) h1 (gE rfl rfl))
 exact nx 2 rfl (eXi _ (oi h1).symm (gE rfl rfl))
def cv (n:Nat)(x_0:aa):Option (Bool×aa) :=
 ck ((0:Int)≤x_0.fat∧x_0.fat < (x_0.fs.length:Int)) <|
 ck ((0:Int)≤byt x_0.fs x_0.fat∧byt x_0.fs x_0.fat < 256) <|
 (
   if ((lat gq (byt x_0.fs x_0.fat)).toNat:Int)=2 then
    some true
   else
    if ((lat gq (byt x_0.fs x_0.fat)).toNat:Int)=3 then
     some true
    else
     if ((lat gq (byt x_0.fs x_0.fat)).toNat:Int)=5 then
      some true
     else
      some (decide (((lat gq (byt x_0.fs x_0.fat)).toNat:Int)=6))
  : Option Bool).bind λ t6 =>
 if t6=true then
  some (true,x_0)
 else
  ck ((0:Int)≤x_0.fat∧x_0.fat≤(x_0.fs.length:Int)∧(x_0.fs.length:Int)≤(x_0.fs.length:Int)) <|
  (ff n (sub x_0.fs x_0.fat (x_0.fs.length:Int))).bind λ r9 =>
  some (!decide (r9=([]:Bytes)),x_0)
set_option maxHeartbeats 4000000 in
theorem gz (n:Nat)(x_0:aa)(r:Bool×aa)(h0:cv n x_0=some r):aF Tryz.prog 54 [.ptr 1000000 0] [(1000000,(aa.cs x_0).map .p)] (λ x y=>x=.p (eB r.1)∧y=[(1000000,(aa.cs r.2).map .p)]):=by
 unfold cv at h0
 refine bF good [] [1000000] Tryz.func54 rfl rfl rfl rfl rfl λ w0 F=>mPo (λ v:Bool×aa=>.p (eB v.1)) (λ v=>[(1000000,(aa.cs v.2).map .p)]) ?_
 refine nx 6 rfl (cc' h0 λ hk1 h0=>?_)
 refine cc' h0 λ hk2 h0=>mD [(0,.ptr 1000000 0)] rfl ⟨rfl,trivial⟩ rfl (dR 4 rfl ?_)
 refine dq (.p (eS x_0.fs)) [6] rfl (λ _ e _ q=>ag rfl (aG rfl rfl rfl rfl rfl (e _ _ rfl) rfl (aa.g_s _) q)) rfl (dR 3 rfl ?_)
 refine dq (.p (eI x_0.fat)) [10] rfl (λ _ e _ q=>ag rfl (aG rfl rfl rfl rfl rfl (e _ _ rfl) rfl (aa.g_at _) q)) rfl (dq (.p (eK .u8 (byt x_0.fs x_0.fat))) [7,11] rfl (λ _ e _ q=>ag rfl (ei rfl rfl rfl rfl rfl (e _ _ rfl) (e _ _ rfl) hk1 q)) rfl ?_)
 refine dR 2 rfl (dq (.ptr 1000000 (2+(byt x_0.fs x_0.fat).toNat*1)) [12,14] rfl (λ _ e _ q=>ag rfl (ec rfl rfl rfl rfl rfl rfl (e _ _ rfl) (e _ _ rfl) hk2 q)) rfl ?_)
 refine dq (.p (eK .u8 ((lat gq (byt x_0.fs x_0.fat)).toNat:Int))) [15] rfl (λ _ e _ q=>ag rfl (aG rfl rfl rfl rfl rfl (e _ _ rfl) rfl (aa.g_class _ hk2) q)) rfl (dE rfl ?_)
 refine nx 3 rfl (bd h0 λ o12 h1 h0=>?_)
 refine kN o12 (λ v13=>⟨[(0,.ptr 1000000 0),(17,.p (eB v13))],[(1000000,(aa.cs x_0).map .p)]⟩) ?_ ?_
 ·refine nx 1 rfl (fB [17] h0 rfl (λ c7 h0=>?_) λ c7 h0=>?_)
  ·exact nx 6 rfl (mQo (oi h0) (al _) rfl rfl rfl (ah rfl (ak _) rfl) (sr) ⟨⟨_,rfl,aw _⟩,trivial⟩)
  refine nx 3 rfl (cc' h0 λ hk8 h0=>?_)
  refine bd h0 λ r9 e10 h0=>mD [(0,.ptr 1000000 0)] rfl ⟨rfl,trivial⟩ rfl (dR 3 rfl ?_)
  refine dq (.p (eS x_0.fs)) [24] rfl (λ _ e _ q=>ag rfl (aG rfl rfl rfl rfl rfl (e _ _ rfl) rfl (aa.g_s _) q)) rfl (dR 3 rfl ?_)
  refine dq (.p (eI x_0.fat)) [28] rfl (λ _ e _ q=>ag rfl (aG rfl rfl rfl rfl rfl (e _ _ rfl) rfl (aa.g_at _) q)) rfl (dq (.p (eS (sub x_0.fs x_0.fat (x_0.fs.length:Int)))) [25,29] rfl (λ _ e _ q=>ag rfl (cF (a:=x_0.fs) (l:=x_0.fat) (h:=(x_0.fs.length:Int)) rfl rfl rfl rfl rfl (e _ _ rfl) (ew (e _ _ rfl)) rfl hk8 q)) rfl ?_)
  refine dq (.p (eS r9)) [30] rfl (λ _ e _ q=>ag rfl (bS (kp _ (sub x_0.fs x_0.fat (x_0.fs.length:Int)) _ e10) rfl rfl rfl (az (e _ _ rfl) bc) ⟨sr,trivial⟩ Tryz.call86 rfl q)) rfl (dq (.p (eB (!decide (r9=([]:Bytes))))) [31] rfl (λ _ e _ q=>ag rfl (oh rfl rfl rfl (e _ _ rfl) rfl rfl q)) rfl ?_)
  refine dR 1 rfl (dE rfl ?_)
  exact nx 2 rfl (mQo (oi h0) (al _) rfl rfl rfl (ah rfl (ak _) rfl) (sr) ⟨⟨_,rfl,aw _⟩,trivial⟩)
 refine nx 5 rfl (fD [17,18] h1 rfl (λ c3 h1=>?_) λ c3 h1=>?_)
 ·exact nx 2 rfl (eX _ (oi h1).symm (gE rfl rfl))
 refine nx 6 rfl (fD [17,19] h1 rfl (λ c4 h1=>?_) λ c4 h1=>?_)
 ·exact nx 2 rfl (eX _ (oi h1).symm (gE rfl rfl))
 refine nx 6 rfl (fD [17,20] h1 rfl (λ c5 h1=>?_) λ c5 h1=>?_)
 ·exact nx 2 rfl (eX _ (oi h1).symm (gE rfl rfl))
 exact nx 5 rfl (eX _ (oi h1).symm (gE rfl rfl))
def bW (a_1:Int)(b_2:Int):Nat→aa→Option aa
 | 0,_=>none
 | m+1,x14 =>
 (
   (bY x14).bind λ r15 =>
   if r15.1=true then
    ck ((0:Int)≤r15.2.fat∧r15.2.fat < (r15.2.fs.length:Int)) <|
    ck ((0:Int)≤byt r15.2.fs r15.2.fat∧byt r15.2.fs r15.2.fat < 256) <|
    if ((lat gq (byt r15.2.fs r15.2.fat)).toNat:Int)=a_1 then
     some (true,r15.2)
    else
     ck ((0:Int)≤r15.2.fat∧r15.2.fat < (r15.2.fs.length:Int)) <|
     ck ((0:Int)≤byt r15.2.fs r15.2.fat∧byt r15.2.fs r15.2.fat < 256) <|
     some (decide (((lat gq (byt r15.2.fs r15.2.fat)).toNat:Int)=b_2),r15.2)
   else
    some (false,r15.2)
  : Option (Bool×aa)).bind λ q31 =>
 if q31.1=true then
  ck (inR (q31.2.fat+1)) <|
  bW a_1 b_2 m (aa.mk q31.2.fs (q31.2.fat+1) q31.2.fouter q31.2.fbad)
 else
  some q31.2
def cZ (n:Nat)(x_0:aa)(a_1:Int)(b_2:Int):Option (Bytes×aa) :=
 (bW a_1 b_2 n x_0).bind λ x28 =>
 ck ((0:Int)≤x_0.fat∧x_0.fat≤x28.fat∧x28.fat≤(x28.fs.length:Int)) <|
 some (sub x28.fs x_0.fat x28.fat,x28)
set_option maxHeartbeats 4000000 in
theorem ij (n:Nat)(x_0:aa)(a_1:Int)(b_2:Int)(r:Bytes×aa)(h0:cZ n x_0 a_1 b_2=some r):aF Tryz.prog 87 [.ptr 1000000 0,.p (eK .u8 a_1),.p (eK .u8 b_2)] [(1000000,(aa.cs x_0).map .p)] (λ x y=>x=.p (eS r.1)∧y=[(1000000,(aa.cs r.2).map .p)]):=by
 unfold cZ at h0
 refine bF good [] [1000000] Tryz.func87 rfl rfl rfl rfl rfl λ w0 F=>mPo (λ v:Bytes×aa=>.p (eS v.1)) (λ v=>[(1000000,(aa.cs v.2).map .p)]) ?_
 refine nx 9 rfl (mO rfl (aG rfl rfl rfl rfl rfl rfl rfl (aa.g_at _) ?_))
 refine nx 4 rfl (bd h0 λ o32 h1 h0=>?_)
 refine kE 0 o32 (λ v33=>⟨[(0,.ptr 1000000 0),(7,.p (eI x_0.fat))],[(1000000,(aa.cs v33).map .p)]⟩) ?_ ?_
 ·refine nx 2 rfl (cc' h0 λ hk29 h0=>?_)
  refine mD [(0,.ptr 1000000 0),(7,.p (eI x_0.fat))] rfl ⟨rfl,rfl,trivial⟩ rfl (dR 3 rfl ?_)
  refine dq (.p (eS o32.fs)) [59] rfl (λ _ e _ q=>ag rfl (aG rfl rfl rfl rfl rfl (e _ _ rfl) rfl (aa.g_s _) q)) rfl (dR 4 rfl ?_)
  refine dq (.p (eI o32.fat)) [64] rfl (λ _ e _ q=>ag rfl (aG rfl rfl rfl rfl rfl (e _ _ rfl) rfl (aa.g_at _) q)) rfl (dq (.p (eS (sub o32.fs x_0.fat o32.fat))) [60,61,65] rfl (λ _ e _ q=>ag rfl (cF (a:=o32.fs) (l:=x_0.fat) (h:=o32.fat) rfl rfl rfl rfl rfl (e _ _ rfl) (ew (e _ _ rfl)) (iD (e _ _ rfl)) hk29 q)) rfl ?_)
  refine dR 1 rfl (dE rfl ?_)
  exact nx 2 rfl (mQo (oi h0) (al _) rfl rfl rfl (ah rfl (ak _) rfl) (sr) ⟨⟨_,rfl,aw _⟩,trivial⟩)
 refine lG (λ (q34:aa)=>⟨[(0,.ptr 1000000 0),(1,.p (eK .u8 a_1)),(2,.p (eK .u8 b_2)),(7,.p (eI x_0.fat))],[(1000000,(aa.cs q34).map .p)]⟩) (λ m (q34:aa)=>bW a_1 b_2 m q34) (λ _=>rfl) x_0 h1 (gE rfl rfl) ?_
 rintro m x14 h1
 replace h1:bW a_1 b_2 (m+1) x14=some o32:=h1
 rw [bW] at h1
 refine nx 2 rfl (bd h1 λ o35 h2 h1=>?_)
 refine kN o35 (λ v36=>⟨[(0,.ptr 1000000 0),(1,.p (eK .u8 a_1)),(2,.p (eK .u8 b_2)),(7,.p (eI x_0.fat)),(49,.p (eB v36.1))],[(1000000,(aa.cs v36.2).map .p)]⟩) ?_ ?_
 ·refine nx 1 rfl (fB [49] h1 rfl (λ c25 h1=>?_) λ c25 h1=>?_)
  ·refine nx 7 rfl (mO rfl (aG rfl rfl rfl rfl rfl rfl rfl (aa.g_at _) ?_))
   refine oA h1 rfl rfl λ hk26 h1=>nx 2 rfl (mO rfl (dx rfl rfl rfl rfl rfl rfl rfl rfl (aa.b_at _) (aa.u_at _) ?_))
   exact nx 1 rfl (eX (aa.mk o35.2.fs (o35.2.fat+1) o35.2.fouter o35.2.fbad) h1 (gE rfl rfl))
  exact nx 2 rfl (eXi _ (oi h1).symm (gE rfl rfl))
 refine bd h2 λ r15 e16 h2=>fB (p:=r15.1) [] h2 rfl (λ c17 h2=>?_) λ c17 h2=>?_
 ·refine cc' h2 λ hk18 h2=>cc' h2 λ hk19 h2=>fD (p:=((lat gq (byt r15.2.fs r15.2.fat)).toNat:Int)=a_1) [] h2 rfl (λ c20 h2=>?_) λ c20 h2=>?_
  ·refine mG (gE (t:=⟨[(0,.ptr 1000000 0),(1,.p (eK .u8 a_1)),(2,.p (eK .u8 b_2)),(7,.p (eI x_0.fat))],[(1000000,(aa.cs x14).map .p)]⟩) rfl rfl) (mSq ⟨1,[1],(by2 (.some (cq [] 108000 108000)) .none),(λ _=>[(0,.ptr 1000000 0),(1,.p (eK .u8 a_1)),(2,.p (eK .u8 b_2)),(7,.p (eI x_0.fat))]),(by2 [(1000000,(aa.cs x14).map .p)] [(1000000,(aa.cs r15.2).map .p)])⟩ rfl ?_)
   refine dPc (.ptr 1000000 0) rfl (dT (λ _=>.p (eB r15.1)) [(12,_)] rfl ⟨.inr ⟨0,_,rfl,rfl,rfl⟩,trivial⟩ rfl rfl (λ _=>rfl) (lt1 (λ h=>absurd h (by decide))) (λ sl hsl K hK=>ag rfl (aZ [1000000] [] 108000 108000 (bw x14 _ e16) rfl rfl rfl (az (hsl _ _ rfl) bc) rfl ⟨sr,trivial⟩ rfl (ah rfl (ak _) rfl) ⟨⟨_,rfl,aw _⟩,trivial⟩ rfl rfl rfl rfl rfl rfl rfl rfl Tryz.call53 rfl (ah rfl (ak _) rfl) hK)) ?_)
   refine dPc (.p (eB r15.1)) rfl (dPy (λ _=>.ptr 1000000 0) (c17) rfl ?_)
   refine dPy (λ _=>.ptr 1000000 0) (c17) rfl (dPy (λ _=>.ptr 1000000 0) (c17) rfl ?_)
   refine dPy (λ _=>.ptr 1000000 0) (c17) rfl (dPy (λ _=>.p (eS r15.2.fs)) (c17) rfl ?_)
   refine dPy (λ _=>.ptr 1000000 0) (c17) rfl (dPy (λ _=>.ptr 1000000 0) (c17) rfl ?_)
   refine dPy (λ _=>.ptr 1000000 1) (c17) rfl (dPy (λ _=>.p (eI r15.2.fat)) (c17) rfl ?_)
   refine aD (λ _=>.p (eK .u8 (byt r15.2.fs r15.2.fat))) rfl rfl rfl (fF rfl (λ _=>rfl)) (lt1 rfl) (av [(14,_),(19,_),(23,_)] ⟨.inr ⟨2,_,rfl,rfl,rfl⟩,.inr ⟨7,_,rfl,rfl,rfl⟩,.inr ⟨11,_,rfl,rfl,rfl⟩,trivial⟩ (λ sl hsl K hK=>cX (ei rfl rfl rfl rfl rfl (hsl _ _ rfl) (hsl _ _ rfl) hk18 hK) rfl rfl (hsl _ _ rfl) (c17)) (ar rfl aE)) (dPy (λ _=>.ptr 1000000 0) (c17) rfl ?_)
   refine dPy (λ _=>.ptr 1000000 2) (c17) rfl (aD (λ _=>.ptr 1000000 (2+(byt r15.2.fs r15.2.fat).toNat*1)) rfl rfl rfl (fF rfl (λ _=>rfl)) (lt1 rfl) (av [(14,_),(24,_),(26,_)] ⟨.inr ⟨2,_,rfl,rfl,rfl⟩,.inr ⟨12,_,rfl,rfl,rfl⟩,.inr ⟨14,_,rfl,rfl,rfl⟩,trivial⟩ (λ sl hsl K hK=>cX (ec rfl rfl rfl rfl rfl rfl (hsl _ _ rfl) (hsl _ _ rfl) hk19 hK) rfl rfl (hsl _ _ rfl) (c17)) (ar rfl aE)) ?_)
   refine aD (λ _=>.p (eK .u8 ((lat gq (byt r15.2.fs r15.2.fat)).toNat:Int))) rfl rfl rfl (fF rfl (λ _=>rfl)) (lt1 rfl) (av [(14,_),(27,_)] ⟨.inr ⟨2,_,rfl,rfl,rfl⟩,.inr ⟨15,_,rfl,rfl,rfl⟩,trivial⟩ (λ sl hsl K hK=>cX (aG rfl rfl rfl rfl rfl (hsl _ _ rfl) rfl (aa.g_class _ hk19) hK) rfl rfl (hsl _ _ rfl) (c17)) (ar rfl aE)) (dPy (λ _=>.p (eK .u8 a_1)) (c17) rfl ?_)
   refine dPy (λ _=>.p (eB (decide (((lat gq (byt r15.2.fs r15.2.fat)).toNat:Int)=a_1)))) (c17) rfl (dPy (λ _=>.p (eB (decide (((lat gq (byt r15.2.fs r15.2.fat)).toNat:Int)=a_1)))) (c17) rfl ?_)
   refine dPn (dt c20) rfl (dPn (dt c20) rfl ?_)
   refine dPn (dt c20) rfl (dPn (dt c20) rfl ?_)
   refine dPn (dt c20) rfl (dPn (dt c20) rfl ?_)
   refine dPn (dt c20) rfl (dPn (dt c20) rfl ?_)
   refine dPn (dt c20) rfl (dPn (dt c20) rfl ?_)
   refine dPn (dt c20) rfl (dPn (dt c20) rfl ?_)
   refine dPn (dt c20) rfl (dPn (dt c20) rfl ?_)
   refine dPn (dt c20) rfl (dPn (dt c20) rfl ?_)
   refine aD (λ _=>.p (eB true)) rfl rfl rfl (fF rfl (λ _=>rfl)) (lt1 rfl) (av [(14,_),(31,_),(47,_)] ⟨.inr ⟨2,_,rfl,rfl,rfl⟩,.inr ⟨19,_,rfl,rfl,rfl⟩,.inr ⟨35,_,rfl,rfl,rfl⟩,trivial⟩ (λ sl hsl K hK=>cX (iF rfl rfl rfl (hsl _ _ rfl) (dt c20) rfl hK) rfl rfl (hsl _ _ rfl) (c17)) (ar rfl aE)) (aD (λ _=>.p (eB true)) rfl rfl rfl (fF rfl (λ _=>rfl)) (lt1 rfl) (av [(14,_),(48,_)] ⟨.inr ⟨2,_,rfl,rfl,rfl⟩,.inr ⟨36,_,rfl,rfl,rfl⟩,trivial⟩ (λ sl hsl K hK=>ag rfl (iF rfl rfl rfl (hsl _ _ rfl) (c17) (hsl _ _ rfl) hK)) (ar rfl aE)) ?_)
   refine cP (nx 1 rfl ?_)
   exact eX _ (oi h2).symm (gE rfl rfl)
  refine cc' h2 λ hk21 h2=>cc' h2 λ hk22 h2=>mG (gE (t:=⟨[(0,.ptr 1000000 0),(1,.p (eK .u8 a_1)),(2,.p (eK .u8 b_2)),(7,.p (eI x_0.fat))],[(1000000,(aa.cs x14).map .p)]⟩) rfl rfl) (mSq ⟨1,[1],(by2 (.some (cq [] 109000 109000)) .none),(λ _=>[(0,.ptr 1000000 0),(1,.p (eK .u8 a_1)),(2,.p (eK .u8 b_2)),(7,.p (eI x_0.fat))]),(by2 [(1000000,(aa.cs x14).map .p)] [(1000000,(aa.cs r15.2).map .p)])⟩ rfl ?_)
  refine dPc (.ptr 1000000 0) rfl (dT (λ _=>.p (eB r15.1)) [(12,_)] rfl ⟨.inr ⟨0,_,rfl,rfl,rfl⟩,trivial⟩ rfl rfl (λ _=>rfl) (lt1 (λ h=>absurd h (by decide))) (λ sl hsl K hK=>ag rfl (aZ [1000000] [] 109000 109000 (bw x14 _ e16) rfl rfl rfl (az (hsl _ _ rfl) bc) rfl ⟨sr,trivial⟩ rfl (ah rfl (ak _) rfl) ⟨⟨_,rfl,aw _⟩,trivial⟩ rfl rfl rfl rfl rfl rfl rfl rfl Tryz.call53 rfl (ah rfl (ak _) rfl) hK)) ?_)
  refine dPc (.p (eB r15.1)) rfl (dPy (λ _=>.ptr 1000000 0) (c17) rfl ?_)
  refine dPy (λ _=>.ptr 1000000 0) (c17) rfl (dPy (λ _=>.ptr 1000000 0) (c17) rfl ?_)
  refine dPy (λ _=>.ptr 1000000 0) (c17) rfl (dPy (λ _=>.p (eS r15.2.fs)) (c17) rfl ?_)
  refine dPy (λ _=>.ptr 1000000 0) (c17) rfl (dPy (λ _=>.ptr 1000000 0) (c17) rfl ?_)
  refine dPy (λ _=>.ptr 1000000 1) (c17) rfl (dPy (λ _=>.p (eI r15.2.fat)) (c17) rfl ?_)
  refine aD (λ _=>.p (eK .u8 (byt r15.2.fs r15.2.fat))) rfl rfl rfl (fF rfl (λ _=>rfl)) (lt1 rfl) (av [(14,_),(19,_),(23,_)] ⟨.inr ⟨2,_,rfl,rfl,rfl⟩,.inr ⟨7,_,rfl,rfl,rfl⟩,.inr ⟨11,_,rfl,rfl,rfl⟩,trivial⟩ (λ sl hsl K hK=>cX (ei rfl rfl rfl rfl rfl (hsl _ _ rfl) (hsl _ _ rfl) hk18 hK) rfl rfl (hsl _ _ rfl) (c17)) (ar rfl aE)) (dPy (λ _=>.ptr 1000000 0) (c17) rfl ?_)
  refine dPy (λ _=>.ptr 1000000 2) (c17) rfl (aD (λ _=>.ptr 1000000 (2+(byt r15.2.fs r15.2.fat).toNat*1)) rfl rfl rfl (fF rfl (λ _=>rfl)) (lt1 rfl) (av [(14,_),(24,_),(26,_)] ⟨.inr ⟨2,_,rfl,rfl,rfl⟩,.inr ⟨12,_,rfl,rfl,rfl⟩,.inr ⟨14,_,rfl,rfl,rfl⟩,trivial⟩ (λ sl hsl K hK=>cX (ec rfl rfl rfl rfl rfl rfl (hsl _ _ rfl) (hsl _ _ rfl) hk19 hK) rfl rfl (hsl _ _ rfl) (c17)) (ar rfl aE)) ?_)
  refine aD (λ _=>.p (eK .u8 ((lat gq (byt r15.2.fs r15.2.fat)).toNat:Int))) rfl rfl rfl (fF rfl (λ _=>rfl)) (lt1 rfl) (av [(14,_),(27,_)] ⟨.inr ⟨2,_,rfl,rfl,rfl⟩,.inr ⟨15,_,rfl,rfl,rfl⟩,trivial⟩ (λ sl hsl K hK=>cX (aG rfl rfl rfl rfl rfl (hsl _ _ rfl) rfl (aa.g_class _ hk19) hK) rfl rfl (hsl _ _ rfl) (c17)) (ar rfl aE)) (dPy (λ _=>.p (eK .u8 a_1)) (c17) rfl ?_)
  refine dPy (λ _=>.p (eB (decide (((lat gq (byt r15.2.fs r15.2.fat)).toNat:Int)=a_1)))) (c17) rfl (dPy (λ _=>.p (eB (decide (((lat gq (byt r15.2.fs r15.2.fat)).toNat:Int)=a_1)))) (c17) rfl ?_)
  refine dPy (λ _=>.ptr 1000000 0) (df c20) rfl (dPy (λ _=>.ptr 1000000 0) (df c20) rfl ?_)
  refine dPy (λ _=>.ptr 1000000 0) (df c20) rfl (dPy (λ _=>.ptr 1000000 0) (df c20) rfl ?_)
  refine dPy (λ _=>.p (eS r15.2.fs)) (df c20) rfl (dPy (λ _=>.ptr 1000000 0) (df c20) rfl ?_)
  refine dPy (λ _=>.ptr 1000000 0) (df c20) rfl (dPy (λ _=>.ptr 1000000 1) (df c20) rfl ?_)
  refine dPy (λ _=>.p (eI r15.2.fat)) (df c20) rfl (aD (λ _=>.p (eK .u8 (byt r15.2.fs r15.2.fat))) rfl rfl rfl (fF rfl (λ _=>rfl)) (lt1 rfl) (av [(31,_),(36,_),(40,_)] ⟨.inr ⟨19,_,rfl,rfl,rfl⟩,.inr ⟨24,_,rfl,rfl,rfl⟩,.inr ⟨28,_,rfl,rfl,rfl⟩,trivial⟩ (λ sl hsl K hK=>cX (ei rfl rfl rfl rfl rfl (hsl _ _ rfl) (hsl _ _ rfl) hk21 hK) rfl rfl (hsl _ _ rfl) (df c20)) (ar rfl aE)) ?_)
  refine dPy (λ _=>.ptr 1000000 0) (df c20) rfl (dPy (λ _=>.ptr 1000000 2) (df c20) rfl ?_)
  refine aD (λ _=>.ptr 1000000 (2+(byt r15.2.fs r15.2.fat).toNat*1)) rfl rfl rfl (fF rfl (λ _=>rfl)) (lt1 rfl) (av [(31,_),(41,_),(43,_)] ⟨.inr ⟨19,_,rfl,rfl,rfl⟩,.inr ⟨29,_,rfl,rfl,rfl⟩,.inr ⟨31,_,rfl,rfl,rfl⟩,trivial⟩ (λ sl hsl K hK=>cX (ec rfl rfl rfl rfl rfl rfl (hsl _ _ rfl) (hsl _ _ rfl) hk22 hK) rfl rfl (hsl _ _ rfl) (df c20)) (ar rfl aE)) (aD (λ _=>.p (eK .u8 ((lat gq (byt r15.2.fs r15.2.fat)).toNat:Int))) rfl rfl rfl (fF rfl (λ _=>rfl)) (lt1 rfl) (av [(31,_),(44,_)] ⟨.inr ⟨19,_,rfl,rfl,rfl⟩,.inr ⟨32,_,rfl,rfl,rfl⟩,trivial⟩ (λ sl hsl K hK=>cX (aG rfl rfl rfl rfl rfl (hsl _ _ rfl) rfl (aa.g_class _ hk22) hK) rfl rfl (hsl _ _ rfl) (df c20)) (ar rfl aE)) ?_)
  refine dPy (λ _=>.p (eK .u8 b_2)) (df c20) rfl (dPy (λ _=>.p (eB (decide (((lat gq (byt r15.2.fs r15.2.fat)).toNat:Int)=b_2)))) (df c20) rfl ?_)
  refine aD (λ _=>.p (eB (decide (((lat gq (byt r15.2.fs r15.2.fat)).toNat:Int)=b_2)))) rfl rfl rfl (fF rfl (λ _=>rfl)) (lt1 rfl) (av [(14,_),(31,_),(47,_)] ⟨.inr ⟨2,_,rfl,rfl,rfl⟩,.inr ⟨19,_,rfl,rfl,rfl⟩,.inr ⟨35,_,rfl,rfl,rfl⟩,trivial⟩ (λ sl hsl K hK=>cX (jA rfl rfl rfl (hsl _ _ rfl) (df c20) (hsl _ _ rfl) hK) rfl rfl (hsl _ _ rfl) (c17)) (ar rfl aE)) (aD (λ _=>.p (eB (decide (((lat gq (byt r15.2.fs r15.2.fat)).toNat:Int)=b_2)))) rfl rfl rfl (fF rfl (λ _=>rfl)) (lt1 rfl) (av [(14,_),(48,_)] ⟨.inr ⟨2,_,rfl,rfl,rfl⟩,.inr ⟨36,_,rfl,rfl,rfl⟩,trivial⟩ (λ sl hsl K hK=>ag rfl (iF rfl rfl rfl (hsl _ _ rfl) (c17) (hsl _ _ rfl) hK)) (ar rfl aE)) ?_)
  refine cP (nx 1 rfl ?_)
  exact eX _ (oi h2).symm (gE rfl rfl)
 refine mG (gE (t:=⟨[(0,.ptr 1000000 0),(1,.p (eK .u8 a_1)),(2,.p (eK .u8 b_2)),(7,.p (eI x_0.fat))],[(1000000,(aa.cs x14).map .p)]⟩) rfl rfl) (mSq ⟨1,[1],(by2 (.some (cq [] 110000 110000)) .none),(λ _=>[(0,.ptr 1000000 0),(1,.p (eK .u8 a_1)),(2,.p (eK .u8 b_2)),(7,.p (eI x_0.fat))]),(by2 [(1000000,(aa.cs x14).map .p)] [(1000000,(aa.cs r15.2).map .p)])⟩ rfl ?_)
 refine dPc (.ptr 1000000 0) rfl (dT (λ _=>.p (eB r15.1)) [(12,_)] rfl ⟨.inr ⟨0,_,rfl,rfl,rfl⟩,trivial⟩ rfl rfl (λ _=>rfl) (lt1 (λ h=>absurd h (by decide))) (λ sl hsl K hK=>ag rfl (aZ [1000000] [] 110000 110000 (bw x14 _ e16) rfl rfl rfl (az (hsl _ _ rfl) bc) rfl ⟨sr,trivial⟩ rfl (ah rfl (ak _) rfl) ⟨⟨_,rfl,aw _⟩,trivial⟩ rfl rfl rfl rfl rfl rfl rfl rfl Tryz.call53 rfl (ah rfl (ak _) rfl) hK)) ?_)
 refine dPc (.p (eB r15.1)) rfl (dPn (c17) rfl ?_)
 refine dPn (c17) rfl (dPn (c17) rfl ?_)
 refine dPn (c17) rfl (dPn (c17) rfl ?_)
 refine dPn (c17) rfl (dPn (c17) rfl ?_)
 refine dPn (c17) rfl (dPn (c17) rfl ?_)
 refine dPn (c17) rfl (dPn (c17) rfl ?_)
 refine dPn (c17) rfl (dPn (c17) rfl ?_)
 refine dPn (c17) rfl (dPn (c17) rfl ?_)
 refine dPn (c17) rfl (dPn (c17) rfl ?_)
 refine dPx rfl (dPx rfl ?_)
 refine dPx rfl (dPx rfl ?_)
 refine dPx rfl (dPx rfl ?_)
 refine dPx rfl (dPx rfl ?_)
 refine dPx rfl (dPx rfl ?_)
 refine dPx rfl (dPx rfl ?_)
 refine dPx rfl (dPx rfl ?_)
 refine dPx rfl (dPx rfl ?_)
 refine dPn (c17) rfl (aD (λ _=>.p (eB false)) rfl rfl rfl (fF rfl (λ _=>rfl)) (lt1 rfl) (av [(14,_),(48,_)] ⟨.inr ⟨2,_,rfl,rfl,rfl⟩,.inr ⟨36,_,rfl,rfl,rfl⟩,trivial⟩ (λ sl hsl K hK=>ag rfl (jA rfl rfl rfl (hsl _ _ rfl) (c17) rfl hK)) (ar rfl aE)) ?_)
 refine cP (nx 1 rfl ?_)
 exact eX _ (oi h2).symm (gE rfl rfl)
def cy (x_0:aa)(k_1:Int)(at_2:Int):Option (Bool×aa) :=
 some (false,(aa.mk x_0.fs x_0.fat x_0.fouter (ao.mk k_1 at_2 ([]:Bytes))))
set_option maxHeartbeats 4000000 in
theorem cG (x_0:aa)(k_1:Int)(at_2:Int)(r:Bool×aa)(h0:cy x_0 k_1 at_2=some r):aF Tryz.prog 88 [.ptr 1000000 0,.p (eI k_1),.p (eI at_2)] [(1000000,(aa.cs x_0).map .p)] (λ x y=>x=.p (eB r.1)∧y=[(1000000,(aa.cs r.2).map .p)]):=by
 unfold cy at h0
 refine bF good [] [1000000] Tryz.func88 rfl rfl rfl rfl rfl λ w0 F=>mPo (λ v:Bool×aa=>.p (eB v.1)) (λ v=>[(1000000,(aa.cs v.2).map .p)]) ?_
 refine nx 12 rfl (mO rfl (dx rfl rfl rfl rfl rfl rfl rfl rfl (aa.b_bad _) (aa.u_bad _) ?_))
 exact nx 6 rfl (mQo (oi h0) (al _) rfl rfl rfl (ah rfl (ak _) rfl) (sr) ⟨⟨_,rfl,aw _⟩,trivial⟩)
def eJ (x_0:aa):Option (Bool×aa) :=
 ck ((0:Int)≤x_0.fat∧x_0.fat≤(x_0.fs.length:Int)∧(x_0.fs.length:Int)≤(x_0.fs.length:Int)) <|
 (ct (sub x_0.fs x_0.fat (x_0.fs.length:Int))).bind λ r2 =>
 (
   if r2.1=65533 then
    if r2.2=1 then
     some true
    else
     if r2.1 < 32 then
      some true
     else
      some (decide (r2.1=127))
   else
    if r2.1 < 32 then
     some true
    else
     some (decide (r2.1=127))
  : Option Bool).bind λ t8 =>
 if t8=true then
  some (false,x_0)
 else
  ck (inR (x_0.fat+r2.2)) <|
  some (true,(aa.mk x_0.fs (x_0.fat+r2.2) x_0.fouter x_0.fbad))
set_option maxHeartbeats 4000000 in
theorem iX (x_0:aa)(r:Bool×aa)(h0:eJ x_0=some r):aF Tryz.prog 134 [.ptr 1000000 0] [(1000000,(aa.cs x_0).map .p)] (λ x y=>x=.p (eB r.1)∧y=[(1000000,(aa.cs r.2).map .p)]):=by
 unfold eJ at h0
 refine bF good [] [1000000] Tryz.func134 rfl rfl rfl rfl rfl λ w0 F=>mPo (λ v:Bool×aa=>.p (eB v.1)) (λ v=>[(1000000,(aa.cs v.2).map .p)]) ?_
 refine nx 5 rfl (cc' h0 λ hk1 h0=>?_)
 refine bd h0 λ r2 e3 h0=>mD [(0,.ptr 1000000 0)] rfl ⟨rfl,trivial⟩ rfl (dR 3 rfl ?_)
 refine dq (.p (eS x_0.fs)) [8] rfl (λ _ e _ q=>ag rfl (aG rfl rfl rfl rfl rfl (e _ _ rfl) rfl (aa.g_s _) q)) rfl (dR 3 rfl ?_)
 refine dq (.p (eI x_0.fat)) [12] rfl (λ _ e _ q=>ag rfl (aG rfl rfl rfl rfl rfl (e _ _ rfl) rfl (aa.g_at _) q)) rfl (dq (.p (eS (sub x_0.fs x_0.fat (x_0.fs.length:Int)))) [9,13] rfl (λ _ e _ q=>ag rfl (cF (a:=x_0.fs) (l:=x_0.fat) (h:=(x_0.fs.length:Int)) rfl rfl rfl rfl rfl (e _ _ rfl) (ew (e _ _ rfl)) rfl hk1 q)) rfl ?_)
 refine dq (.tuple [.p (eK .i32 r2.1),.p (eI r2.2)]) [14] rfl (λ _ e _ q=>ag rfl (bS (cN (sub x_0.fs x_0.fat (x_0.fs.length:Int)) _ e3) rfl rfl rfl (az (e _ _ rfl) bc) ⟨sr,trivial⟩ Tryz.call126 rfl q)) rfl (dR 5 rfl ?_)
 refine dE rfl (nx 3 rfl ?_)
 refine bd h0 λ o12 h1 h0=>kN o12 (λ v13=>⟨[(0,.ptr 1000000 0),(4,.p (eI r2.2)),(31,.p (eB v13))],[(1000000,(aa.cs x_0).map .p)]⟩) ?_ ?_
 ·refine nx 1 rfl (fB [31] h0 rfl (λ c9 h0=>?_) λ c9 h0=>?_)
  ·exact nx 6 rfl (mQo (oi h0) (al _) rfl rfl rfl (ah rfl (ak _) rfl) (sr) ⟨⟨_,rfl,aw _⟩,trivial⟩)
  refine nx 7 rfl (mO rfl (aG rfl rfl rfl rfl rfl rfl rfl (aa.g_at _) ?_))
  refine nx 1 rfl (oA h0 rfl rfl λ hk10 h0=>?_)
  refine nx 2 rfl (mO rfl (dx rfl rfl rfl rfl rfl rfl rfl rfl (aa.b_at _) (aa.u_at _) ?_))
  exact nx 6 rfl (mQo (oi h0) (al _) rfl rfl rfl (ah rfl (ak _) rfl) (sr) ⟨⟨_,rfl,aw _⟩,trivial⟩)
 refine nx 4 rfl (fD [19,20] h1 rfl (λ c4 h1=>?_) λ c4 h1=>?_)
 ·refine nx 4 rfl (fD [22,23,24] h1 rfl (λ c5 h1=>?_) λ c5 h1=>?_)
  ·exact nx 8 rfl (eX _ (oi h1).symm (gE rfl rfl))
  refine nx 4 rfl (fD [26,27,28] h1 rfl (λ c6 h1=>?_) λ c6 h1=>?_)
  ·exact nx 4 rfl (eX _ (oi h1).symm (gE rfl rfl))
  exact nx 4 rfl (eX _ (oi h1).symm (gE rfl rfl))
 refine nx 8 rfl (fD [26,27,28] h1 rfl (λ c7 h1=>?_) λ c7 h1=>?_)
 ·exact nx 4 rfl (eX _ (oi h1).symm (gE rfl rfl))
 exact nx 4 rfl (eX _ (oi h1).symm (gE rfl rfl))
def bj (r_token_scanner_interpolation:aa→Int→Option (Bool×aa))(depth_1:Int):Nat→aa→Option (aa⊕(Bool×aa))
 | 0,_=>none
 | m+1,x33 =>
 (bY x33).bind λ r34 =>
 if r34.1=true then
  ck ((0:Int)≤r34.2.fat∧r34.2.fat≤(r34.2.fs.length:Int)∧(r34.2.fs.length:Int)≤(r34.2.fs.length:Int)) <|
  jn (
    ck ((0:Int)≤0∧0 < ((sub r34.2.fs r34.2.fat (r34.2.fs.length:Int)).length:Int)) <|
    if byt (sub r34.2.fs r34.2.fat (r34.2.fs.length:Int)) 0=34 then
     ck (inR (r34.2.fat+1)) <|
     some (.inr (.inr (true,(aa.mk r34.2.fs (r34.2.fat+1) r34.2.fouter r34.2.fbad))))
    else
     (strings_HasPrefix (sub r34.2.fs r34.2.fat (r34.2.fs.length:Int)) ([36,36,123]:Bytes)).bind λ r41 =>
     if r41=true then
      ck (inR (r34.2.fat+3)) <|
      some (.inl (aa.mk r34.2.fs (r34.2.fat+3) r34.2.fouter r34.2.fbad))
     else
      (strings_HasPrefix (sub r34.2.fs r34.2.fat (r34.2.fs.length:Int)) ([36,123]:Bytes)).bind λ r45 =>
      if r45=true then
       (r_token_scanner_interpolation r34.2 depth_1).bind λ r48 =>
       if (!r48.1)=true then
        some (.inr (.inr (false,r48.2)))
       else
        some (.inl r48.2)
      else
       (
         ck ((0:Int)≤0∧0 < ((sub r34.2.fs r34.2.fat (r34.2.fs.length:Int)).length:Int)) <|
         if byt (sub r34.2.fs r34.2.fat (r34.2.fs.length:Int)) 0=92 then
          ck (inR (r34.2.fat+1)) <|
          some (aa.mk r34.2.fs (r34.2.fat+1) r34.2.fouter r34.2.fbad)
         else
          some r34.2
        : Option aa).bind λ x54 =>
       (bY x54).bind λ r55 =>
       if (!r55.1)=true then
        some (.inl r55.2)
       else
        (eJ r55.2).bind λ r58 =>
        if (!r58.1)=true then
         (cy r58.2 2 r58.2.fat).bind λ r61 =>
         some (.inr (.inr (r61.1,r61.2)))
        else
         some (.inl r58.2)
   : Option (aa⊕(aa⊕(Bool×aa)))) λ x63 =>
  bj r_token_scanner_interpolation depth_1 m x63
 else
  some (.inl r34.2)
def aV (n:Nat)(r_token_scanner_token:aa→Int→Option (ai×Bool×aa))(depth_1:Int):Nat→Int→aa→Option (aa⊕(Bool×aa))
 | 0,_,_=>none
 | m+1,open35,x36 =>
 if 0 < open35 then
  jn (
    (cQ n x36).bind λ r38 =>
    (bY r38).bind λ r40 =>
    if (!r40.1)=true then
     (cy r40.2 40 r40.2.fouter).bind λ r43 =>
     some (.inr (.inr (r43.1,r43.2)))
    else
     (cv n r40.2).bind λ r45 =>
     if (!r45.1)=true then
      (cy r45.2 2 r45.2.fat).bind λ r48 =>
      some (.inr (.inr (r48.1,r48.2)))
     else
      ck (inR (depth_1+1)) <|
      (r_token_scanner_token r45.2 (depth_1+1)).bind λ r51 =>
      if (!r51.2.1)=true then
       some (.inr (.inr (false,r51.2.2)))
      else
       (
         (
           if r51.1.fKind=4 then
            some (decide (r51.1.fText=([123]:Bytes)))
           else
            some false
          : Option Bool).bind λ t55 =>
         if t55=true then
          ck (inR (open35+1)) <|
          some (open35+1)
         else
          some open35
        : Option Int).bind λ open58 =>
       (
         if r51.1.fKind=4 then
          some (decide (r51.1.fText=([125]:Bytes)))
         else
          some false
        : Option Bool).bind λ t60 =>
       if t60=true then
        ck (inR (open58 - 1)) <|
        some (.inl (open58 - 1,r51.2.2))
       else
        some (.inl (open58,r51.2.2))
   : Option ((Int×aa)⊕(aa⊕(Bool×aa)))) λ q69 =>
  aV n r_token_scanner_token depth_1 m q69.1 q69.2
 else
  some (.inl x36)
mutual
def bf:Nat→aa→Int→Option (ai×Bool×aa)
 | 0,_,_=>none
 | n+1,x_0,depth_1 =>
 ck ((0:Int)≤x_0.fat∧x_0.fat < (x_0.fs.length:Int)) <|
 ck ((0:Int)≤byt x_0.fs x_0.fat∧byt x_0.fs x_0.fat < 256) <|
 jn (
   if ((lat gq (byt x_0.fs x_0.fat)).toNat:Int)=2 then
    (cZ n x_0 2 3).bind λ r4 =>
    if 64 < (r4.1.length:Int) then
     (cy r4.2 7 x_0.fat).bind λ r7 =>
     some (.inr ((ai.mk 1 r4.1 x_0.fat),r7.1,r7.2))
    else
     some (.inl (1,r4.1,r4.2))
   else
    if ((lat gq (byt x_0.fs x_0.fat)).toNat:Int)=3 then
     (cZ n x_0 3 3).bind λ r10 =>
     some (.inl (2,r10.1,r10.2))
    else
     if ((lat gq (byt x_0.fs x_0.fat)).toNat:Int)=6 then
      ck (inR (x_0.fat+1)) <|
      some (.inl (5,([10]:Bytes),(aa.mk x_0.fs (x_0.fat+1) x_0.fouter x_0.fbad)))
     else
      if ((lat gq (byt x_0.fs x_0.fat)).toNat:Int)=5 then
       ((cS n) x_0 depth_1).bind λ r15 =>
       if (!r15.1)=true then
        some (.inr ((ai.mk 3 ([]:Bytes) x_0.fat),false,r15.2))
       else
        ck (inR (x_0.fat+1)) <|
        ck (inR (r15.2.fat - 1)) <|
        ck ((0:Int)≤x_0.fat+1∧x_0.fat+1≤r15.2.fat - 1∧r15.2.fat - 1≤(r15.2.fs.length:Int)) <|
        some (.inl (3,sub r15.2.fs (x_0.fat+1) (r15.2.fat - 1),r15.2))
      else
       ck ((0:Int)≤x_0.fat∧x_0.fat≤(x_0.fs.length:Int)∧(x_0.fs.length:Int)≤(x_0.fs.length:Int)) <|
       (ff n (sub x_0.fs x_0.fat (x_0.fs.length:Int))).bind λ r22 =>
       ck (inR (x_0.fat+(r22.length:Int))) <|
       some (.inl (4,r22,(aa.mk x_0.fs (x_0.fat+(r22.length:Int)) x_0.fouter x_0.fbad)))
  : Option ((Int×Bytes×aa)⊕(ai×Bool×aa))) λ q28 =>
 some ((ai.mk q28.1 q28.2.1 x_0.fat),true,q28.2.2)
def bX:Nat→aa→Int→Option (Bool×aa)
 | 0,_,_=>none
 | n+1,x_0,depth_1 =>
 ck (inR (x_0.fat+1)) <|
 jn (bj (ba n) depth_1 n (aa.mk x_0.fs (x_0.fat+1) x_0.fouter x_0.fbad)) λ x65 =>
 (cy x65 40 x65.fouter).bind λ r66 =>
 some (r66.1,r66.2)
def cS:Nat→aa→Int→Option (Bool×aa)
 | 0,_,_=>none
 | n+1,x_0,depth_1 =>
 if x_0.fouter < 0 then
  ((bX n) (aa.mk x_0.fs x_0.fat x_0.fat x_0.fbad) depth_1).bind λ r1 =>
  some (r1.1,aa.mk r1.2.fs r1.2.fat (-1) r1.2.fbad)
 else (bX n) x_0 depth_1
def ba:Nat→aa→Int→Option (Bool×aa)
 | 0,_,_=>none
 | n+1,x_0,depth_1 =>
 if 32≤depth_1 then
  (cy x_0 4 x_0.fat).bind λ r2 =>
  some (r2.1,r2.2)
 else
  ck (inR (x_0.fat+2)) <|
  jn (aV n (bf n) depth_1 n 1 (aa.mk x_0.fs (x_0.fat+2) x_0.fouter x_0.fbad)) λ x67 =>
  some (true,x67)
end
set_option maxHeartbeats 4000000 in
theorem jI (n:Nat):(∀ (x_0:aa) (depth_1:Int) (r:ai×Bool×aa),bf n x_0 depth_1=some r→aF Tryz.prog 55 [.ptr 1000000 0,.p (eI depth_1)] [(1000000,(aa.cs x_0).map .p)] (λ x y=>x=.tuple [.p (.agg (ai.cs r.1)),.p (eB r.2.1)]∧y=[(1000000,(aa.cs r.2.2).map .p)]))∧(∀ (x_0:aa) (depth_1:Int) (r:Bool×aa),bX n x_0 depth_1=some r→vK Tryz.prog Tryz.f89 (yb Tryz.f89.body) [(1,.p (eI depth_1)),(2,.ptr 1000001 0)] [(1000000,(aa.cs x_0).map .p),(1000001,[.ptr 1000000 0])] (λ x y=>x.sub (.p (eB r.1))∧leO y [(1000000,(aa.cs r.2).map .p),(1000001,[.ptr 1000000 0])]))∧(∀ (x_0:aa) (depth_1:Int) (r:Bool×aa),cS n x_0 depth_1=some r→aF Tryz.prog 89 [.ptr 1000000 0,.p (eI depth_1)] [(1000000,(aa.cs x_0).map .p)] (λ x y=>x=.p (eB r.1)∧y=[(1000000,(aa.cs r.2).map .p)]))∧(∀ (x_0:aa) (depth_1:Int) (r:Bool×aa),ba n x_0 depth_1=some r→aF Tryz.prog 133 [.ptr 1000000 0,.p (eI depth_1)] [(1000000,(aa.cs x_0).map .p)] (λ x y=>x=.p (eB r.1)∧y=[(1000000,(aa.cs r.2).map .p)])):=by
 induction n with
 | zero=>exact ⟨(by intro x_0 depth_1 r h0; cases h0),(by intro x_0 depth_1 r h0; cases h0),(by intro x_0 depth_1 r h0; cases h0),(by intro x_0 depth_1 r h0; cases h0)⟩
 | succ n ih =>
 obtain ⟨ih_token_scanner_token_ok,ih_token_scanner_source_b_ok,ih_token_scanner_source_ok,ih_token_scanner_interpolation_ok⟩:=ih
 refine ⟨?_,?_,?_,?_⟩
 ·skip
  intro x_0 depth_1 r h0
  rw [bf] at h0
  refine bF good [] [1000000] Tryz.func55 rfl rfl rfl rfl rfl λ w0 F=>mPo (λ v:ai×Bool×aa=>.tuple [.p (.agg (ai.cs v.1)),.p (eB v.2.1)]) (λ v=>[(1000000,(aa.cs v.2.2).map .p)]) ?_
  refine nx 2 rfl (mO rfl (fM rfl rfl rfl rfl rfl ?_))
  refine mG (jU (show iz _ _=_ from (by repeat (first | exact g9 _ | apply gp rfl | apply da rfl (jx _ _) | apply da rfl rfl)))) (nx 7 rfl ?_)
  refine mO rfl (aG rfl rfl rfl rfl rfl rfl rfl (aa.g_at _) ?_)
  refine nx 1 rfl (mO rfl (fM rfl rfl rfl rfl rfl ?_))
  refine mG (jU (show iz _ _=_ from (by repeat (first | exact g9 _ | apply gp rfl | apply da rfl (jx _ _) | apply da rfl rfl)))) (nx 4 rfl ?_)
  refine cc' h0 λ hk1 h0=>cc' h0 λ hk2 h0=>mD [(0,.ptr 1000000 0),(1,.p (eI depth_1)),(4,.ptr 4 0),(6,.ptr 6 0)] rfl ⟨rfl,rfl,rfl,rfl,trivial⟩ rfl (dR 4 rfl ?_)
  refine dq (.p (eS x_0.fs)) [15] rfl (λ _ e _ q=>ag rfl (aG rfl rfl rfl rfl rfl (e _ _ rfl) rfl (aa.g_s _) q)) rfl (dR 3 rfl ?_)
  refine dq (.p (eI x_0.fat)) [19] rfl (λ _ e _ q=>ag rfl (aG rfl rfl rfl rfl rfl (e _ _ rfl) rfl (aa.g_at _) q)) rfl (dq (.p (eK .u8 (byt x_0.fs x_0.fat))) [16,20] rfl (λ _ e _ q=>ag rfl (ei rfl rfl rfl rfl rfl (e _ _ rfl) (e _ _ rfl) hk1 q)) rfl ?_)
  refine dR 2 rfl (dq (.ptr 1000000 (2+(byt x_0.fs x_0.fat).toNat*1)) [21,23] rfl (λ _ e _ q=>ag rfl (ec rfl rfl rfl rfl rfl rfl (e _ _ rfl) (e _ _ rfl) hk2 q)) rfl ?_)
  refine dq (.p (eK .u8 ((lat gq (byt x_0.fs x_0.fat)).toNat:Int))) [24] rfl (λ _ e _ q=>ag rfl (aG rfl rfl rfl rfl rfl (e _ _ rfl) rfl (aa.g_class _ hk2) q)) rfl (dE rfl ?_)
  refine nx 1 rfl ?_
  obtain ⟨o29,h1,hL0,hR0⟩:=cz h0
  refine kX (λ v30:Int×Bytes×aa=>o29=.inl v30) (λ v30=>⟨[(4,.ptr 4 0),(6,.ptr 6 0)],[(4,gk),(6,[.p (eI v30.1),.p (eS v30.2.1),.p (eI x_0.fat)]),(1000000,(aa.cs v30.2.2).map .p)]⟩) (λ v30 hv=>?_) ?_
  ·have h0:=hL0 _ hv
   exact nx 8 rfl (mQo (oi h0) (al _) rfl rfl rfl (ah rfl (ak _) rfl) (ap ⟨sr,sr,trivial⟩) ⟨⟨_,rfl,aw _⟩,trivial⟩)
  refine nx 6 rfl (fD [48,49] h1 rfl (λ c3 h1=>?_) λ c3 h1=>?_)
  ·refine nx 4 rfl (bd h1 λ r4 e5 h1=>?_)
   refine mO rfl (aZ [1000000] [] 101000 101000 (ij _ x_0 2 3 _ e5) rfl rfl rfl rfl rfl ⟨sr,sr,sr,trivial⟩ rfl (ah rfl (ak _) rfl) ⟨⟨_,rfl,aw _⟩,trivial⟩ rfl rfl rfl rfl rfl rfl rfl rfl Tryz.call87 rfl (ah rfl (ak _) rfl) ?_)
   refine nx 9 rfl (oLs rfl ?_)
   refine nx 2 rfl (fD [57] h1 rfl (λ c6 h1=>?_) λ c6 h1=>?_)
   ·refine nx 2 rfl (bd h1 λ r7 e8 h1=>?_)
    refine mG (gE (t:=⟨[(0,.ptr 1000000 0),(4,.ptr 4 0),(6,.ptr 6 0)],[(4,gk),(6,[.p (eI 1),.p (eS r4.1),.p (eI x_0.fat)]),(1000000,(aa.cs r4.2).map .p)]⟩) rfl rfl) (mSq ⟨2,[4,5],(by3 (.some (cq [] 102000 102000)) .none .none),(λ _=>[(0,.ptr 1000000 0),(4,.ptr 4 0),(6,.ptr 6 0)]),(by3 ([(4,gk),(6,[.p (eI 1),.p (eS r4.1),.p (eI x_0.fat)]),(1000000,(aa.cs r4.2).map .p)]) ([(1000000,(aa.cs r7.2).map .p),(4,gk),(6,[.p (eI 1),.p (eS r4.1),.p (eI x_0.fat)])]) ([(4,[.p (eI 1),.p (eS r4.1),.p (eI x_0.fat)]),(1000000,(aa.cs r7.2).map .p),(4,gk),(6,[.p (eI 1),.p (eS r4.1),.p (eI x_0.fat)])]))⟩ rfl ?_)
    refine dPc (.p (.agg [eI 1,eS r4.1,eI x_0.fat])) rfl (dPc (.ptr 1000000 0) rfl ?_)
    refine dPc (.ptr 6 2) rfl (dPc (.p (eI x_0.fat)) rfl ?_)
    refine dT (λ _=>.p (eB r7.1)) [(59,_),(61,_)] rfl ⟨.inr ⟨1,_,rfl,rfl,rfl⟩,.inr ⟨3,_,rfl,rfl,rfl⟩,trivial⟩ rfl rfl (fF rfl (λ _=>rfl)) (lt2 (λ h=>absurd h (by decide)) (λ _=>rfl)) (λ sl hsl K hK=>ag rfl (aZ [1000000] [] 102000 102000 (cG r4.2 7 x_0.fat _ e8) rfl rfl rfl (az (hsl _ _ rfl) (az rfl (az (hsl _ _ rfl) bc))) rfl ⟨sr,sr,sr,trivial⟩ rfl (ah rfl (ak _) rfl) ⟨⟨_,rfl,aw _⟩,trivial⟩ rfl rfl rfl rfl rfl rfl rfl rfl Tryz.call88 rfl (ah rfl (ak _) rfl) hK)) (dS rfl ?_)
    refine dPc (.p (eB r7.1)) rfl (cP ?_)
    exact nx 2 rfl (mQo (hR0 _ (oi h1).symm) (al _) rfl rfl rfl (ah rfl (ak _) rfl) (ap ⟨sr,sr,trivial⟩) ⟨⟨_,rfl,aw _⟩,trivial⟩)
   exact nx 2 rfl (eX _ (oi h1).symm (gE rfl rfl))
  refine nx 6 rfl (fD [63,64] h1 rfl (λ c9 h1=>?_) λ c9 h1=>?_)
  ·refine nx 3 rfl (bd h1 λ r10 e11 h1=>?_)
   refine mO rfl (aZ [1000000] [] 103000 103000 (ij _ x_0 3 3 _ e11) rfl rfl rfl rfl rfl ⟨sr,sr,sr,trivial⟩ rfl (ah rfl (ak _) rfl) ⟨⟨_,rfl,aw _⟩,trivial⟩ rfl rfl rfl rfl rfl rfl rfl rfl Tryz.call87 rfl (ah rfl (ak _) rfl) ?_)
   exact nx 5 rfl (eX _ (oi h1).symm (gE rfl rfl))
  refine nx 6 rfl (fD [69,70] h1 rfl (λ c12 h1=>?_) λ c12 h1=>?_)
  ·refine nx 12 rfl (mO rfl (aG rfl rfl rfl rfl rfl rfl rfl (aa.g_at _) ?_))
   refine oA h1 rfl rfl λ hk13 h1=>nx 2 rfl (mO rfl (dx rfl rfl rfl rfl rfl rfl rfl rfl (aa.b_at _) (aa.u_at _) ?_))
   exact nx 1 rfl (eX _ (oi h1).symm (gE rfl rfl))
  refine nx 6 rfl (fD [80,81] h1 rfl (λ c14 h1=>?_) λ c14 h1=>?_)
  ·refine nx 11 rfl (bd h1 λ r15 e16 h1=>?_)
   refine mO rfl (aZ [1000000] [] 104000 104000 (ih_token_scanner_source_ok x_0 depth_1 _ e16) rfl rfl rfl rfl rfl ⟨sr,sr,trivial⟩ rfl (ah rfl (ak _) rfl) ⟨⟨_,rfl,aw _⟩,trivial⟩ rfl rfl rfl rfl rfl rfl rfl rfl Tryz.call89 rfl (ah rfl (ak _) rfl) ?_)
   refine nx 2 rfl (mG (gE (t:=⟨[(0,.ptr 1000000 0),(4,.ptr 4 0),(6,.ptr 6 0),(86,.p (eB (!r15.1)))],[(4,gk),(6,[.p (eI 3),.p (eS ([]:Bytes)),.p (eI x_0.fat)]),(1000000,(aa.cs r15.2).map .p)]⟩) rfl rfl) ?_)
   refine fB [86] h1 rfl (λ c17 h1=>?_) λ c17 h1=>?_
   ·exact nx 8 rfl (mQo (hR0 _ (oi h1).symm) (al _) rfl rfl rfl (ah rfl (ak _) rfl) (ap ⟨sr,sr,trivial⟩) ⟨⟨_,rfl,aw _⟩,trivial⟩)
   refine nx 2 rfl (cc' h1 λ hk18 h1=>?_)
   refine cc' h1 λ hk19 h1=>cc' h1 λ hk20 h1=>mG (gE (t:=⟨[(0,.ptr 1000000 0),(4,.ptr 4 0),(6,.ptr 6 0)],[(4,gk),(6,[.p (eI 3),.p (eS ([]:Bytes)),.p (eI x_0.fat)]),(1000000,(aa.cs r15.2).map .p)]⟩) rfl rfl) (mSq ⟨1,[14],(λ _=>.none),(λ _=>[(0,.ptr 1000000 0),(4,.ptr 4 0),(6,.ptr 6 0)]),(ob2 ([(4,gk),(6,[.p (eI 3),.p (eS ([]:Bytes)),.p (eI x_0.fat)]),(1000000,(aa.cs r15.2).map .p)]) (6,[.p (eI 3),.p (eS (sub r15.2.fs (x_0.fat+1) (r15.2.fat - 1))),.p (eI x_0.fat)]))⟩ rfl ?_)
   refine dPc (.ptr 1000000 0) rfl (dPc (.ptr 1000000 0) rfl ?_)
   refine dPc (.ptr 1000000 0) rfl (dPc (.p (eS r15.2.fs)) rfl ?_)
   refine dPc (.ptr 6 2) rfl (dPc (.p (eI x_0.fat)) rfl ?_)
   refine aD (λ _=>.p (eI (x_0.fat+1))) rfl rfl rfl (fF rfl (λ _=>rfl)) (lt1 rfl) (ar rfl (av [(93,_)] ⟨.inr ⟨5,_,rfl,rfl,rfl⟩,trivial⟩ (λ sl hsl K hK=>ag rfl (de rfl rfl rfl (hsl _ _ rfl) rfl rfl hk18 hK)) aE)) (dPc (.ptr 1000000 0) rfl ?_)
   refine dPc (.ptr 1000000 0) rfl (dPc (.ptr 1000000 1) rfl ?_)
   refine dPc (.p (eI r15.2.fat)) rfl (aD (λ _=>.p (eI (r15.2.fat - 1))) rfl rfl rfl (fF rfl (λ _=>rfl)) (lt1 rfl) (ar rfl (av [(98,_)] ⟨.inr ⟨10,_,rfl,rfl,rfl⟩,trivial⟩ (λ sl hsl K hK=>ag rfl (de rfl rfl rfl (hsl _ _ rfl) rfl rfl hk19 hK)) aE)) ?_)
   refine aD (λ _=>.p (eS (sub r15.2.fs (x_0.fat+1) (r15.2.fat - 1)))) rfl rfl rfl (fF rfl (λ _=>rfl)) (lt1 rfl) (ar rfl (av [(91,_),(94,_),(99,_)] ⟨.inr ⟨3,_,rfl,rfl,rfl⟩,.inr ⟨6,_,rfl,rfl,rfl⟩,.inr ⟨11,_,rfl,rfl,rfl⟩,trivial⟩ (λ sl hsl K hK=>ag rfl (cF (a:=r15.2.fs) (l:=x_0.fat+1) (h:=r15.2.fat - 1) rfl rfl rfl rfl rfl (hsl _ _ rfl) (ew (hsl _ _ rfl)) (iD (hsl _ _ rfl)) hk20 hK)) aE)) (dPc (.ptr 6 1) rfl ?_)
   refine dS rfl (cP ?_)
   exact nx 1 rfl (eX _ (oi h1).symm (gE rfl rfl))
  refine nx 2 rfl (cc' h1 λ hk21 h1=>?_)
  refine bd h1 λ r22 e23 h1=>mG (gE (t:=⟨[(0,.ptr 1000000 0),(4,.ptr 4 0),(6,.ptr 6 0)],[(4,gk),(6,[.p (eI 0),.p (eS ([]:Bytes)),.p (eI x_0.fat)]),(1000000,(aa.cs x_0).map .p)]⟩) rfl rfl) (mSq ⟨2,[11,13],(λ _=>.none),(λ _=>[(0,.ptr 1000000 0),(4,.ptr 4 0),(6,.ptr 6 0)]),(ob3 ([(4,gk),(6,[.p (eI 0),.p (eS ([]:Bytes)),.p (eI x_0.fat)]),(1000000,(aa.cs x_0).map .p)]) (6,[.p (eI 4),.p (eS ([]:Bytes)),.p (eI x_0.fat)]) (6,[.p (eI 4),.p (eS r22),.p (eI x_0.fat)]))⟩ rfl ?_)
  refine dPc (.ptr 1000000 0) rfl (dPc (.ptr 1000000 0) rfl ?_)
  refine dPc (.ptr 1000000 0) rfl (dPc (.p (eS x_0.fs)) rfl ?_)
  refine dPc (.ptr 1000000 0) rfl (dPc (.ptr 1000000 0) rfl ?_)
  refine dPc (.ptr 1000000 1) rfl (dPc (.p (eI x_0.fat)) rfl ?_)
  refine aD (λ _=>.p (eS (sub x_0.fs x_0.fat (x_0.fs.length:Int)))) rfl rfl rfl (l4 rfl rfl (λ _=>rfl)) (lt2 rfl rfl) (ar rfl (av [(29,_),(33,_)] ⟨.inr ⟨3,_,rfl,rfl,rfl⟩,.inr ⟨7,_,rfl,rfl,rfl⟩,trivial⟩ (λ sl hsl K hK=>ag rfl (cF (a:=x_0.fs) (l:=x_0.fat) (h:=(x_0.fs.length:Int)) rfl rfl rfl rfl rfl (hsl _ _ rfl) (ew (hsl _ _ rfl)) rfl hk21 hK)) (av [(29,_),(33,_)] ⟨.inr ⟨3,_,rfl,rfl,rfl⟩,.inr ⟨7,_,rfl,rfl,rfl⟩,trivial⟩ (λ sl hsl K hK=>ag rfl (cF (a:=x_0.fs) (l:=x_0.fat) (h:=(x_0.fs.length:Int)) rfl rfl rfl rfl rfl (hsl _ _ rfl) (ew (hsl _ _ rfl)) rfl hk21 hK)) aE))) (aD (λ _=>.p (eS r22)) rfl rfl rfl (l4 rfl rfl (λ _=>rfl)) (lt2 rfl rfl) (ar rfl (ar rfl (av [(34,_)] ⟨.inr ⟨8,_,rfl,rfl,rfl⟩,trivial⟩ (λ sl hsl K hK=>ag rfl (bS (kp _ (sub x_0.fs x_0.fat (x_0.fs.length:Int)) _ e23) rfl rfl rfl (az (hsl _ _ rfl) bc) ⟨sr,trivial⟩ Tryz.call86 rfl hK)) aE))) ?_)
  refine dPc (.ptr 6 0) rfl (ik [(36,_)] rfl ⟨.inr ⟨10,_,rfl,rfl,rfl⟩,trivial⟩ rfl (λ sl hsl K hK=>ag rfl (jL rfl rfl rfl (hsl _ _ rfl) rfl rfl rfl rfl (Nat.le_of_ble_eq_true rfl) hK)) ?_)
  refine dPc (.ptr 6 1) rfl (dS rfl ?_)
  refine cP (nx 1 rfl ?_)
  refine cc' h1 λ hk24 h1=>mG (gE (t:=⟨[(0,.ptr 1000000 0),(4,.ptr 4 0),(6,.ptr 6 0)],[(4,gk),(6,[.p (eI 4),.p (eS r22),.p (eI x_0.fat)]),(1000000,(aa.cs x_0).map .p)]⟩) rfl rfl) (mSq ⟨1,[10],(λ _=>.none),(λ _=>[(0,.ptr 1000000 0),(4,.ptr 4 0),(6,.ptr 6 0)]),(ob2 ([(4,gk),(6,[.p (eI 4),.p (eS r22),.p (eI x_0.fat)]),(1000000,(aa.cs x_0).map .p)]) (1000000,(aa.cs (aa.mk x_0.fs (x_0.fat+(r22.length:Int)) x_0.fouter x_0.fbad)).map .p))⟩ rfl ?_)
  refine dPc (.ptr 1000000 0) rfl (dPc (.ptr 1000000 0) rfl ?_)
  refine dPc (.ptr 1000000 1) rfl (dPc (.p (eI x_0.fat)) rfl ?_)
  refine dPc (.ptr 6 1) rfl (dPc (.p (eS r22)) rfl ?_)
  refine aD (λ _=>.p (eI (r22.length:Int))) rfl rfl rfl (fF rfl (λ _=>rfl)) (lt1 rfl) (ar rfl (av [(43,_)] ⟨.inr ⟨5,_,rfl,rfl,rfl⟩,trivial⟩ (λ sl hsl K hK=>ag rfl (mq rfl rfl rfl rfl rfl (hsl _ _ rfl) hK)) aE)) (aD (λ _=>.p (eI (x_0.fat+(r22.length:Int)))) rfl rfl rfl (fF rfl (λ _=>rfl)) (lt1 rfl) (ar rfl (av [(41,_),(44,_)] ⟨.inr ⟨3,_,rfl,rfl,rfl⟩,.inr ⟨6,_,rfl,rfl,rfl⟩,trivial⟩ (λ sl hsl K hK=>ag rfl (de rfl rfl rfl (hsl _ _ rfl) (hsl _ _ rfl) rfl hk24 hK)) aE)) ?_)
  refine dPc (.ptr 1000000 0) rfl (dPc (.ptr 1000000 1) rfl ?_)
  refine ik [(45,_),(47,_)] rfl ⟨.inr ⟨7,_,rfl,rfl,rfl⟩,.inr ⟨9,_,rfl,rfl,rfl⟩,trivial⟩ rfl (λ sl hsl K hK=>ag rfl (dx rfl rfl rfl (hsl _ _ rfl) (hsl _ _ rfl) rfl rfl rfl (aa.b_at _) (aa.u_at _) hK)) (cP ?_)
  exact nx 1 rfl (eX _ (oi h1).symm (gE rfl rfl))
 ·skip
  intro x_0 depth_1 r h0
  rw [bX] at h0
  refine vm good (t:=4) [1000000,1000001] rfl rfl λ w0 F=>mPo (λ v:Bool×aa=>.p (eB v.1)) (λ v=>[(1000000,(aa.cs v.2).map .p),(1000001,[.ptr 1000000 0])]) ?_
  refine nx 5 rfl (mO rfl (aG rfl rfl rfl rfl rfl rfl rfl (aa.g_at _) ?_))
  refine oA h0 rfl rfl λ hk1 h0=>nx 2 rfl (mO rfl (dx rfl rfl rfl rfl rfl rfl rfl rfl (aa.b_at _) (aa.u_at _) ?_))
  refine nx 3 rfl ?_
  obtain ⟨o71,h1,hL0,hR0⟩:=cz h0
  refine kEx 0 (λ v72:aa=>o71=.inl v72) (λ v72=>⟨[(2,.ptr 1000001 0)],[(1000000,(aa.cs v72).map .p),(1000001,[.ptr 1000000 0])]⟩) (λ v72 hv=>?_) ?_
  ·have h0:=hL0 _ hv
   refine nx 2 rfl (bd h0 λ r66 e67 h0=>?_)
   refine mG (gE (t:=⟨[(2,.ptr 1000001 0)],[(1000000,(aa.cs v72).map .p),(1000001,[.ptr 1000000 0])]⟩) rfl rfl) (mSq ⟨1,[5],(by2 (.some (cq [] 111000 111000)) .none),(λ _=>[(2,.ptr 1000001 0)]),(by2 ([(1000000,(aa.cs v72).map .p),(1000001,[.ptr 1000000 0])]) ([(1000000,(aa.cs r66.2).map .p),(1000001,[.ptr 1000000 0])]))⟩ rfl ?_)
   refine dPc (.ptr 1000000 0) rfl (dPc (.ptr 1000000 0) rfl ?_)
   refine dPc (.ptr 1000000 0) rfl (dPc (.ptr 1000000 258) rfl ?_)
   refine dPc (.p (eI v72.fouter)) rfl (dT (λ _=>.p (eB r66.1)) [(87,_),(91,_)] rfl ⟨.inr ⟨0,_,rfl,rfl,rfl⟩,.inr ⟨4,_,rfl,rfl,rfl⟩,trivial⟩ rfl rfl (λ _=>rfl) (lt1 (λ h=>absurd h (by decide))) (λ sl hsl K hK=>ag rfl (aZ [1000000] [] 111000 111000 (cG v72 40 v72.fouter _ e67) rfl rfl rfl (az (hsl _ _ rfl) (az rfl (az (hsl _ _ rfl) bc))) rfl ⟨sr,sr,sr,trivial⟩ rfl (ah rfl (ak _) rfl) ⟨⟨_,rfl,aw _⟩,trivial⟩ rfl rfl rfl rfl rfl rfl rfl rfl Tryz.call88 rfl (ah rfl (ak _) rfl) hK)) ?_)
   refine dPc (.p (eB r66.1)) rfl (cP ?_)
   exact nx 2 rfl (mQo (oi h0) (al _) rfl rfl rfl (ah rfl (ak _) (ah rfl rfl rfl)) (sr) ⟨⟨_,rfl,aw _⟩,⟨_,rfl,⟨sr,trivial⟩⟩,trivial⟩)
  refine lG (λ (q73:aa)=>⟨[(1,.p (eI depth_1)),(2,.ptr 1000001 0)],[(1000000,(aa.cs q73).map .p),(1000001,[.ptr 1000000 0])]⟩) (λ m (q73:aa)=>bj (ba n) depth_1 m q73) (λ _=>rfl) (aa.mk x_0.fs (x_0.fat+1) x_0.fouter x_0.fbad) h1 (gE rfl rfl) ?_
  rintro m x33 h1
  replace h1:bj (ba n) depth_1 (m+1) x33=some o71:=h1
  rw [bj] at h1
  refine nx 4 rfl (bd h1 λ r34 e35 h1=>?_)
  refine mO rfl (aZ [1000000] [] 106000 106000 (bw x33 _ e35) rfl rfl rfl rfl rfl ⟨sr,trivial⟩ rfl (ah rfl (ak _) rfl) ⟨⟨_,rfl,aw _⟩,trivial⟩ rfl rfl rfl rfl rfl rfl rfl rfl Tryz.call53 rfl (ah rfl (ak _) rfl) ?_)
  refine nx 1 rfl (fB [27] h1 rfl (λ c36 h1=>?_) λ c36 h1=>?_)
  ·refine nx 4 rfl (cc' h1 λ hk37 h1=>?_)
   refine mD [(1,.p (eI depth_1)),(2,.ptr 1000001 0)] rfl ⟨rfl,rfl,trivial⟩ rfl (dR 3 rfl ?_)
   refine dq (.p (eS r34.2.fs)) [30] rfl (λ _ e _ q=>ag rfl (aG rfl rfl rfl rfl rfl (e _ _ rfl) rfl (aa.g_s _) q)) rfl (dR 3 rfl ?_)
   refine dq (.p (eI r34.2.fat)) [34] rfl (λ _ e _ q=>ag rfl (aG rfl rfl rfl rfl rfl (e _ _ rfl) rfl (aa.g_at _) q)) rfl (dq (.p (eS (sub r34.2.fs r34.2.fat (r34.2.fs.length:Int)))) [31,35] rfl (λ _ e _ q=>ag rfl (cF (a:=r34.2.fs) (l:=r34.2.fat) (h:=(r34.2.fs.length:Int)) rfl rfl rfl rfl rfl (e _ _ rfl) (ew (e _ _ rfl)) rfl hk37 q)) rfl ?_)
   refine dR 1 rfl (dE rfl ?_)
   refine nx 1 rfl ?_
   obtain ⟨o74,h2,hL1,hR1⟩:=cz h1
   refine kX (λ v75:aa=>o74=.inl v75) (λ v75=>⟨[(1,.p (eI depth_1)),(2,.ptr 1000001 0)],[(1000000,(aa.cs v75).map .p),(1000001,[.ptr 1000000 0])]⟩) (λ v75 hv=>?_) ?_
   ·have h1:=hL1 _ hv
    exact nx 1 rfl (eX v75 h1 (gE rfl rfl))
   refine nx 4 rfl (oI h2 rfl λ hk38 h2=>?_)
   refine nx 3 rfl (fD [59,62] h2 rfl (λ c39 h2=>?_) λ c39 h2=>?_)
   ·refine nx 6 rfl (mO rfl (aG rfl rfl rfl rfl rfl rfl rfl (aa.g_at _) ?_))
    refine oA h2 rfl rfl λ hk40 h2=>nx 2 rfl (mO rfl (dx rfl rfl rfl rfl rfl rfl rfl rfl (aa.b_at _) (aa.u_at _) ?_))
    exact nx 6 rfl (mQo (hR0 _ (hR1 _ (oi h2).symm).symm) (al _) rfl rfl rfl (ah rfl (ak _) (ah rfl rfl rfl)) (sr) ⟨⟨_,rfl,aw _⟩,⟨_,rfl,⟨sr,trivial⟩⟩,trivial⟩)
   refine nx 4 rfl (bd h2 λ r41 e42 h2=>?_)
   refine oK (bU (sub r34.2.fs r34.2.fat (r34.2.fs.length:Int)) ([36,36,123]:Bytes) _ e42) rfl ⟨sr,sr,trivial⟩ Tryz.call75 rfl (nx 2 rfl ?_)
   refine fB [70,72] h2 rfl (λ c43 h2=>?_) λ c43 h2=>?_
   ·refine nx 5 rfl (mO rfl (aG rfl rfl rfl rfl rfl rfl rfl (aa.g_at _) ?_))
    refine oA h2 rfl rfl λ hk44 h2=>nx 2 rfl (mO rfl (dx rfl rfl rfl rfl rfl rfl rfl rfl (aa.b_at _) (aa.u_at _) ?_))
    exact nx 1 rfl (eX _ (oi h2).symm (gE rfl rfl))
   refine nx 4 rfl (bd h2 λ r45 e46 h2=>?_)
   refine oK (bU (sub r34.2.fs r34.2.fat (r34.2.fs.length:Int)) ([36,123]:Bytes) _ e46) rfl ⟨sr,sr,trivial⟩ Tryz.call75 rfl (nx 2 rfl ?_)
   refine fB [80,82] h2 rfl (λ c47 h2=>?_) λ c47 h2=>?_
   ·refine nx 5 rfl (bd h2 λ r48 e49 h2=>?_)
    refine mO rfl (aZ [1000000] [] 107000 107000 (ih_token_scanner_interpolation_ok r34.2 depth_1 _ e49) rfl rfl rfl rfl rfl ⟨sr,sr,trivial⟩ rfl (ah rfl (ak _) rfl) ⟨⟨_,rfl,aw _⟩,trivial⟩ rfl rfl rfl rfl rfl rfl rfl rfl Tryz.call133 rfl (ah rfl (ak _) rfl) ?_)
    refine nx 2 rfl (fB [86] h2 rfl (λ c50 h2=>?_) λ c50 h2=>?_)
    ·refine nx 5 rfl (mG (gE (t:=⟨[(4,.p (eB false))],[(1000000,(aa.cs r48.2).map .p),(1000001,[.ptr 1000000 0])]⟩) rfl rfl) ?_)
     exact nx 1 rfl (mQo (hR0 _ (hR1 _ (oi h2).symm).symm) (al _) rfl rfl rfl (ah rfl (ak _) (ah rfl rfl rfl)) (sr) ⟨⟨_,rfl,aw _⟩,⟨_,rfl,⟨sr,trivial⟩⟩,trivial⟩)
    exact nx 2 rfl (eX _ (oi h2).symm (gE rfl rfl))
   refine nx 2 rfl (bd h2 λ o76 h3 h2=>?_)
   refine kN o76 (λ v77=>⟨[(1,.p (eI depth_1)),(2,.ptr 1000001 0)],[(1000000,(aa.cs v77).map .p),(1000001,[.ptr 1000000 0])]⟩) ?_ ?_
   ·refine nx 5 rfl (bd h2 λ r55 e56 h2=>?_)
    refine mO rfl (aZ [1000000] [] 108000 108000 (bw o76 _ e56) rfl rfl rfl rfl rfl ⟨sr,trivial⟩ rfl (ah rfl (ak _) rfl) ⟨⟨_,rfl,aw _⟩,trivial⟩ rfl rfl rfl rfl rfl rfl rfl rfl Tryz.call53 rfl (ah rfl (ak _) rfl) ?_)
    refine nx 2 rfl (fB [49] h2 rfl (λ c57 h2=>?_) λ c57 h2=>?_)
    ·exact nx 2 rfl (eX _ (oi h2).symm (gE rfl rfl))
    refine nx 5 rfl (bd h2 λ r58 e59 h2=>?_)
    refine mO rfl (aZ [1000000] [] 109000 109000 (iX r55.2 _ e59) rfl rfl rfl rfl rfl ⟨sr,trivial⟩ rfl (ah rfl (ak _) rfl) ⟨⟨_,rfl,aw _⟩,trivial⟩ rfl rfl rfl rfl rfl rfl rfl rfl Tryz.call134 rfl (ah rfl (ak _) rfl) ?_)
    refine nx 2 rfl (fB [52] h2 rfl (λ c60 h2=>?_) λ c60 h2=>?_)
    ·refine nx 2 rfl (bd h2 λ r61 e62 h2=>?_)
     refine mG (gE (t:=⟨[(2,.ptr 1000001 0)],[(1000000,(aa.cs r58.2).map .p),(1000001,[.ptr 1000000 0])]⟩) rfl rfl) (mSq ⟨1,[5],(by2 (.some (cq [] 110000 110000)) .none),(λ _=>[(2,.ptr 1000001 0)]),(by2 ([(1000000,(aa.cs r58.2).map .p),(1000001,[.ptr 1000000 0])]) ([(1000000,(aa.cs r61.2).map .p),(1000001,[.ptr 1000000 0])]))⟩ rfl ?_)
     refine dPc (.ptr 1000000 0) rfl (dPc (.ptr 1000000 0) rfl ?_)
     refine dPc (.ptr 1000000 0) rfl (dPc (.ptr 1000000 1) rfl ?_)
     refine dPc (.p (eI r58.2.fat)) rfl (dT (λ _=>.p (eB r61.1)) [(53,_),(57,_)] rfl ⟨.inr ⟨0,_,rfl,rfl,rfl⟩,.inr ⟨4,_,rfl,rfl,rfl⟩,trivial⟩ rfl rfl (λ _=>rfl) (lt1 (λ h=>absurd h (by decide))) (λ sl hsl K hK=>ag rfl (aZ [1000000] [] 110000 110000 (cG r58.2 2 r58.2.fat _ e62) rfl rfl rfl (az (hsl _ _ rfl) (az rfl (az (hsl _ _ rfl) bc))) rfl ⟨sr,sr,sr,trivial⟩ rfl (ah rfl (ak _) rfl) ⟨⟨_,rfl,aw _⟩,trivial⟩ rfl rfl rfl rfl rfl rfl rfl rfl Tryz.call88 rfl (ah rfl (ak _) rfl) hK)) ?_)
     refine dPc (.p (eB r61.1)) rfl (cP ?_)
     exact nx 2 rfl (mQo (hR0 _ (hR1 _ (oi h2).symm).symm) (al _) rfl rfl rfl (ah rfl (ak _) (ah rfl rfl rfl)) (sr) ⟨⟨_,rfl,aw _⟩,⟨_,rfl,⟨sr,trivial⟩⟩,trivial⟩)
    exact nx 2 rfl (eX _ (oi h2).symm (gE rfl rfl))
   refine nx 3 rfl (oI h3 rfl λ hk51 h3=>?_)
   refine nx 2 rfl (fD [39] h3 rfl (λ c52 h3=>?_) λ c52 h3=>?_)
   ·refine nx 5 rfl (mO rfl (aG rfl rfl rfl rfl rfl rfl rfl (aa.g_at _) ?_))
    refine oA h3 rfl rfl λ hk53 h3=>nx 2 rfl (mO rfl (dx rfl rfl rfl rfl rfl rfl rfl rfl (aa.b_at _) (aa.u_at _) ?_))
    exact nx 1 rfl (eX _ (oi h3).symm (gE rfl rfl))
   exact nx 2 rfl (eX _ (oi h3).symm (gE rfl rfl))
  exact nx 2 rfl (eXi _ (oi h1).symm (gE rfl rfl))
 ·skip
  intro x_0 depth_1 r h0
  rw [cS] at h0
  refine wb good (k:=132) (j:=2) (q:=18) (b:=decide (x_0.fouter < 0)) (s0:=⟨[(1,.p (eI depth_1)),(2,.ptr 2 0)],[(2,[.ptr 1000000 0]),(1000000,(aa.cs x_0).map .p)]⟩) (s1:=⟨[(1,.p (eI depth_1)),(2,.ptr 2 0),(10,.p (eB (decide (x_0.fouter < 0))))],[(2,[.ptr 1000000 0]),(1000000,(aa.cs x_0).map .p)]⟩) (s2:=⟨[(1,.p (eI depth_1)),(2,.ptr 2 0)],[(2,[.ptr 1000000 0]),(1000000,(aa.cs (aa.mk x_0.fs x_0.fat x_0.fat x_0.fbad)).map .p)]⟩) [1000000] Tryz.func89 rfl rfl rfl (λ w0 F=>mR ?_) (λ w0 F=>mR ?_) rfl (λ hb=>?_) (λ hb=>?_)
  refine nx 1 rfl (mO rfl (sX rfl rfl rfl rfl rfl ?_))
  refine mG (jU (show iz _ _=_ from (by repeat (first | exact g9 _ | apply gp rfl | apply da rfl (jx _ _) | apply da rfl rfl)))) (nx 3 rfl ?_)
  exact mE (gE rfl rfl)
  refine nx 4 rfl (mO rfl (aG rfl rfl rfl rfl rfl rfl rfl (aa.g_outer _) ?_))
  exact nx 3 rfl (mE (gE rfl rfl))
  rw [if_neg (of_decide_eq_false hb)] at h0
  refine ⟨⟨[(1,.p (eI depth_1)),(2,.ptr 2 0),(10,.p (eB (decide (x_0.fouter < 0))))],[(1000000,(aa.cs r.2).map .p),(2,[.ptr 1000000 0])]⟩,_,_,rfl,(ah rfl (ak _) rfl),⟨⟨_,rfl,aw _⟩,trivial⟩,λ w0 F g a a2 w hs ht=>?_⟩
  exact vV (C:=⟨Tryz.prog,tt,good,_,rfl,w0,F⟩) (sl:=[(1,.p (eI depth_1)),(2,.ptr 2 0),(10,.p (eB (decide (x_0.fouter < 0))))]) (ob:=[(2,[.ptr 1000000 0]),(1000000,(aa.cs x_0).map .p)]) [1000000,2] [] 100000 100000 [1,2] rfl (ih_token_scanner_source_b_ok x_0 depth_1 _ h0) rfl rfl rfl (ah rfl (ak _) rfl) ⟨⟨_,rfl,aw _⟩,⟨_,rfl,⟨sr,trivial⟩⟩,trivial⟩ rfl rfl rfl rfl rfl rfl rfl rfl rfl (ah rfl (ak _) rfl) hs ht
  rw [if_pos (of_decide_eq_true hb)] at h0
  refine bd h0 λ r1 e1 h0=>?_
  cases h0
  refine ⟨λ w0 F=>mR ?_,⟨rfl,rfl,rfl,rfl,rfl,rfl,rfl,rfl⟩,Tryz.call132,⟨[(18,.func (.func 132) [.ptr 2 0]),(1,.p (eI depth_1)),(2,.ptr 2 0)],[(1000000,(aa.cs r1.2).map .p),(2,[.ptr 1000000 0])]⟩,⟨[(18,.func (.func 132) [.ptr 2 0]),(1,.p (eI depth_1)),(2,.ptr 2 0)],[(2,[.ptr 1000000 0]),(1000000,(aa.cs (aa.mk r1.2.fs r1.2.fat (-1) r1.2.fbad)).map .p)]⟩,_,_,.ptr 2 0,rfl,rfl,(ah rfl (ak _) rfl),⟨⟨_,rfl,aw _⟩,trivial⟩,λ w0 F g a a2 w hs ht=>?_,λ w0 F g a w u hs=>?_⟩
  ·refine mG (gE (t:=⟨[(1,.p (eI depth_1)),(2,.ptr 2 0)],[(2,[.ptr 1000000 0]),(1000000,(aa.cs x_0).map .p)]⟩) rfl rfl) (mSq ⟨1,[7],(λ _=>.none),(λ _=>[(1,.p (eI depth_1)),(2,.ptr 2 0)]),(ob2 ([(2,[.ptr 1000000 0]),(1000000,(aa.cs x_0).map .p)]) (1000000,(aa.cs (aa.mk x_0.fs x_0.fat x_0.fat x_0.fbad)).map .p))⟩ rfl ?_)
   refine dPc (.ptr 1000000 0) rfl (dPc (.ptr 1000000 0) rfl ?_)
   refine dPc (.ptr 1000000 0) rfl (dPc (.ptr 1000000 1) rfl ?_)
   refine dPc (.p (eI x_0.fat)) rfl (dPc (.ptr 1000000 0) rfl ?_)
   refine dPc (.ptr 1000000 258) rfl (ik [(15,_),(17,_)] rfl ⟨.inr ⟨4,_,rfl,rfl,rfl⟩,.inr ⟨6,_,rfl,rfl,rfl⟩,trivial⟩ rfl (λ sl hsl K hK=>ag rfl (dx rfl rfl rfl (hsl _ _ rfl) (hsl _ _ rfl) rfl rfl rfl (aa.b_outer _) (aa.u_outer _) hK)) ?_)
   refine cP (nx 2 rfl ?_)
   exact mE (gE rfl rfl)
  ·exact vV (C:=⟨Tryz.prog,tt,good,_,rfl,w0,F⟩) (sl:=[(18,.func (.func 132) [.ptr 2 0]),(1,.p (eI depth_1)),(2,.ptr 2 0)]) (ob:=[(2,[.ptr 1000000 0]),(1000000,(aa.cs (aa.mk x_0.fs x_0.fat x_0.fat x_0.fbad)).map .p)]) [1000000,2] [] 100000 100000 [1,2] rfl (ih_token_scanner_source_b_ok (aa.mk x_0.fs x_0.fat x_0.fat x_0.fbad) depth_1 _ e1) rfl rfl rfl (ah rfl (ak _) rfl) ⟨⟨_,rfl,aw _⟩,⟨_,rfl,⟨sr,trivial⟩⟩,trivial⟩ rfl rfl rfl rfl rfl rfl rfl rfl rfl (ah rfl (ak _) rfl) hs ht
  exact xN (C:=⟨Tryz.prog,tt,good,_,rfl,w0,F⟩) (sl:=[(18,.func (.func 132) [.ptr 2 0]),(1,.p (eI depth_1)),(2,.ptr 2 0)]) (ob:=[(1000000,(aa.cs r1.2).map .p),(2,[.ptr 1000000 0])]) [2,1000000] [] 100000 100000 2 (jj r1.2) rfl rfl rfl (ah rfl rfl (ah rfl (ak _) rfl)) ⟨⟨_,rfl,⟨sr,trivial⟩⟩,⟨_,rfl,aw _⟩,trivial⟩ rfl rfl rfl rfl rfl rfl rfl rfl rfl (ah rfl rfl (ah rfl (ak _) rfl)) hs
 ·skip
  intro x_0 depth_1 r h0
  rw [ba] at h0
  refine bF good [] [1000000] Tryz.func133 rfl rfl rfl rfl rfl λ w0 F=>mPo (λ v:Bool×aa=>.p (eB v.1)) (λ v=>[(1000000,(aa.cs v.2).map .p)]) ?_
  refine nx 10 rfl (fD [9] h0 rfl (λ c1 h0=>?_) λ c1 h0=>?_)
  ·refine nx 7 rfl (mO rfl (aG rfl rfl rfl rfl rfl rfl rfl (aa.g_at _) ?_))
   refine bd h0 λ r2 e3 h0=>mO rfl (aZ [1000000] [] 101000 101000 (cG x_0 4 x_0.fat _ e3) rfl rfl rfl rfl rfl ⟨sr,sr,sr,trivial⟩ rfl (ah rfl (ak _) rfl) ⟨⟨_,rfl,aw _⟩,trivial⟩ rfl rfl rfl rfl rfl rfl rfl rfl Tryz.call88 rfl (ah rfl (ak _) rfl) ?_)
   exact nx 3 rfl (mQo (oi h0) (al _) rfl rfl rfl (ah rfl (ak _) rfl) (sr) ⟨⟨_,rfl,aw _⟩,trivial⟩)
  refine nx 7 rfl (mO rfl (aG rfl rfl rfl rfl rfl rfl rfl (aa.g_at _) ?_))
  refine oA h0 rfl rfl λ hk4 h0=>nx 2 rfl (mO rfl (dx rfl rfl rfl rfl rfl rfl rfl rfl (aa.b_at _) (aa.u_at _) ?_))
  refine nx 7 rfl ?_
  obtain ⟨o73,h1,hL0,hR0⟩:=cz h0
  refine kEx 0 (λ v74:aa=>o73=.inl v74) (λ v74=>⟨[],[(1000000,(aa.cs v74).map .p)]⟩) (λ v74 hv=>?_) ?_
  ·have h0:=hL0 _ hv
   exact nx 6 rfl (mQo (oi h0) (al _) rfl rfl rfl (ah rfl (ak _) rfl) (sr) ⟨⟨_,rfl,aw _⟩,trivial⟩)
  refine lG (λ (q75:Int×aa)=>⟨[(0,.ptr 1000000 0),(1,.p (eI depth_1)),(5,.p (eI q75.1))],[(1000000,(aa.cs q75.2).map .p)]⟩) (λ m (q75:Int×aa)=>aV n (bf n) depth_1 m q75.1 q75.2) (λ _=>rfl) (1,(aa.mk x_0.fs (x_0.fat+2) x_0.fouter x_0.fbad)) h1 (gE rfl rfl) ?_
  rintro m ⟨open35,x36⟩ h1
  replace h1:aV n (bf n) depth_1 (m+1) open35 x36=some o73:=h1
  rw [aV] at h1
  refine nx 6 rfl (fD [24] h1 rfl (λ c37 h1=>?_) λ c37 h1=>?_)
  ·refine nx 2 rfl ?_
   obtain ⟨o76,h2,hL1,hR1⟩:=cz h1
   refine kX (λ v77:Int×aa=>o76=.inl v77) (λ v77=>⟨[(0,.ptr 1000000 0),(1,.p (eI depth_1)),(5,.p (eI v77.1))],[(1000000,(aa.cs v77.2).map .p)]⟩) (λ v77 hv=>?_) ?_
   ·have h1:=hL1 _ hv
    exact nx 1 rfl (eX (v77.1,v77.2) h1 (gE rfl rfl))
   refine nx 4 rfl (bd h2 λ r38 e39 h2=>?_)
   refine mO rfl (aZ [1000000] [] 108000 108000 (gU _ x36 _ e39) rfl rfl rfl rfl rfl ⟨sr,trivial⟩ rfl (ah rfl (ak _) rfl) ⟨⟨_,rfl,aw _⟩,trivial⟩ rfl rfl rfl rfl rfl rfl rfl rfl Tryz.call52 rfl (ah rfl (ak _) rfl) ?_)
   refine nx 5 rfl (bd h2 λ r40 e41 h2=>?_)
   refine mO rfl (aZ [1000000] [] 109000 109000 (bw r38 _ e41) rfl rfl rfl rfl rfl ⟨sr,trivial⟩ rfl (ah rfl (ak _) rfl) ⟨⟨_,rfl,aw _⟩,trivial⟩ rfl rfl rfl rfl rfl rfl rfl rfl Tryz.call53 rfl (ah rfl (ak _) rfl) ?_)
   refine nx 2 rfl (fB [29] h2 rfl (λ c42 h2=>?_) λ c42 h2=>?_)
   ·refine nx 7 rfl (mO rfl (aG rfl rfl rfl rfl rfl rfl rfl (aa.g_outer _) ?_))
    refine bd h2 λ r43 e44 h2=>mO rfl (aZ [1000000] [] 110000 110000 (cG r40.2 40 r40.2.fouter _ e44) rfl rfl rfl rfl rfl ⟨sr,sr,sr,trivial⟩ rfl (ah rfl (ak _) rfl) ⟨⟨_,rfl,aw _⟩,trivial⟩ rfl rfl rfl rfl rfl rfl rfl rfl Tryz.call88 rfl (ah rfl (ak _) rfl) ?_)
    exact nx 3 rfl (mQo (hR0 _ (hR1 _ (oi h2).symm).symm) (al _) rfl rfl rfl (ah rfl (ak _) rfl) (sr) ⟨⟨_,rfl,aw _⟩,trivial⟩)
   refine nx 6 rfl (bd h2 λ r45 e46 h2=>?_)
   refine mO rfl (aZ [1000000] [] 111000 111000 (gz _ r40.2 _ e46) rfl rfl rfl rfl rfl ⟨sr,trivial⟩ rfl (ah rfl (ak _) rfl) ⟨⟨_,rfl,aw _⟩,trivial⟩ rfl rfl rfl rfl rfl rfl rfl rfl Tryz.call54 rfl (ah rfl (ak _) rfl) ?_)
   refine nx 2 rfl (fB [38] h2 rfl (λ c47 h2=>?_) λ c47 h2=>?_)
   ·refine nx 7 rfl (mO rfl (aG rfl rfl rfl rfl rfl rfl rfl (aa.g_at _) ?_))
    refine bd h2 λ r48 e49 h2=>mO rfl (aZ [1000000] [] 112000 112000 (cG r45.2 2 r45.2.fat _ e49) rfl rfl rfl rfl rfl ⟨sr,sr,sr,trivial⟩ rfl (ah rfl (ak _) rfl) ⟨⟨_,rfl,aw _⟩,trivial⟩ rfl rfl rfl rfl rfl rfl rfl rfl Tryz.call88 rfl (ah rfl (ak _) rfl) ?_)
    exact nx 3 rfl (mQo (hR0 _ (hR1 _ (oi h2).symm).symm) (al _) rfl rfl rfl (ah rfl (ak _) rfl) (sr) ⟨⟨_,rfl,aw _⟩,trivial⟩)
   refine nx 6 rfl (oA h2 rfl rfl λ hk50 h2=>?_)
   refine bd h2 λ r51 e52 h2=>mO rfl (aZ [1000000] [] 113000 113000 (ih_token_scanner_token_ok r45.2 (depth_1+1) _ e52) rfl rfl rfl rfl rfl ⟨sr,sr,trivial⟩ rfl (ah rfl (ak _) rfl) ⟨⟨_,rfl,aw _⟩,trivial⟩ rfl rfl rfl rfl rfl rfl rfl rfl Tryz.call55 rfl (ah rfl (ak _) rfl) ?_)
   refine nx 3 rfl (mO rfl (fM rfl rfl rfl rfl rfl ?_))
   refine mG (jU (show iz _ _=_ from (by repeat (first | exact g9 _ | apply gp rfl | apply da rfl (jx _ _) | apply da rfl rfl)))) (nx 9 rfl ?_)
   refine fB [53] h2 rfl (λ c53 h2=>?_) λ c53 h2=>?_
   ·exact nx 6 rfl (mQo (hR0 _ (hR1 _ (oi h2).symm).symm) (al _) rfl rfl rfl (ah rfl (ak _) rfl) (sr) ⟨⟨_,rfl,aw _⟩,trivial⟩)
   refine nx 3 rfl (bd h2 λ o78 h3 h2=>?_)
   refine kN o78 (λ v79=>⟨[(0,.ptr 1000000 0),(1,.p (eI depth_1)),(5,.p (eI v79)),(6,.ptr 6 0)],[(6,(ai.cs r51.1).map .p),(1000000,(aa.cs r51.2.2).map .p)]⟩) ?_ ?_
   ·refine nx 2 rfl (bd h2 λ o80 h3 h2=>?_)
    refine kN o80 (λ v81=>⟨[(0,.ptr 1000000 0),(1,.p (eI depth_1)),(5,.p (eI o78)),(71,.p (eB v81))],[(1000000,(aa.cs r51.2.2).map .p)]⟩) ?_ ?_
    ·refine nx 1 rfl (fB [71] h2 rfl (λ c61 h2=>?_) λ c61 h2=>?_)
     ·refine nx 3 rfl (oA h2 rfl rfl λ hk62 h2=>?_)
      exact nx 2 rfl (eX _ (oi h2).symm (gE rfl rfl))
     exact nx 2 rfl (eX _ (oi h2).symm (gE rfl rfl))
    refine nx 5 rfl (fD [66,67] h3 rfl (λ c59 h3=>?_) λ c59 h3=>?_)
    ·refine nx 2 rfl (oS rfl rfl ?_)
     exact nx 2 rfl (eX _ (oi h3).symm (gE rfl rfl))
    exact nx 5 rfl (eX _ (oi h3).symm (gE rfl rfl))
   refine nx 1 rfl (bd h3 λ o82 h4 h3=>?_)
   refine kN o82 (λ v83=>⟨[(0,.ptr 1000000 0),(1,.p (eI depth_1)),(5,.p (eI open35)),(6,.ptr 6 0),(61,.p (eB v83))],[(6,(ai.cs r51.1).map .p),(1000000,(aa.cs r51.2.2).map .p)]⟩) ?_ ?_
   ·refine nx 1 rfl (fB [61] h3 rfl (λ c56 h3=>?_) λ c56 h3=>?_)
    ·refine nx 3 rfl (oA h3 rfl rfl λ hk57 h3=>?_)
     exact nx 2 rfl (eX _ (oi h3).symm (gE rfl rfl))
    exact nx 2 rfl (eX _ (oi h3).symm (gE rfl rfl))
   refine nx 5 rfl (fD [56,57] h4 rfl (λ c54 h4=>?_) λ c54 h4=>?_)
   ·refine nx 2 rfl (oS rfl rfl ?_)
    exact nx 2 rfl (eX _ (oi h4).symm (gE rfl rfl))
   exact nx 5 rfl (eX _ (oi h4).symm (gE rfl rfl))
  exact nx 2 rfl (eXi _ (oi h1).symm (gE rfl rfl))
theorem j9 (n:Nat):∀ (x_0:aa) (depth_1:Int) (r:ai×Bool×aa),bf n x_0 depth_1=some r→aF Tryz.prog 55 [.ptr 1000000 0,.p (eI depth_1)] [(1000000,(aa.cs x_0).map .p)] (λ x y=>x=.tuple [.p (.agg (ai.cs r.1)),.p (eB r.2.1)]∧y=[(1000000,(aa.cs r.2.2).map .p)]):=(jI n).1
def dY (n:Nat):Nat→(List ai)→aa→Option (Unit⊕((List ai)×ao))
 | 0,_,_=>none
 | m+1,out25,x26 =>
 (cQ n x26).bind λ r27 =>
 (
   (bY r27).bind λ r29 =>
   if r29.1=true then
    (cv n r29.2).bind λ r32 =>
    some (!r32.1,r32.2)
   else
    some (false,r29.2)
  : Option (Bool×aa)).bind λ q49 =>
 if q49.1=true then
  some (.inr ([],(ao.mk 2 q49.2.fat ([]:Bytes))))
 else
  if (out25.length:Int)=16384 then
   some (.inr ([],(ao.mk 14 q49.2.fat ([]:Bytes))))
  else
   (bY q49.2).bind λ r38 =>
   if (!r38.1)=true then
    ck ((out25.length+([(ai.mk 6 ([]:Bytes) r38.2.fat)]).length)*32≤140737488355328) <|
    some (.inr (out25++([(ai.mk 6 ([]:Bytes) r38.2.fat)]),(ao.mk 0 0 ([]:Bytes))))
   else
    (bf n r38.2 0).bind λ r42 =>
    if (!r42.2.1)=true then
     some (.inr ([],r42.2.2.fbad))
    else
     ck ((out25.length+[r42.1].length)*32≤140737488355328) <|
     dY n m (out25++[r42.1]) r42.2.2
def g5 (n:Nat)(s_0:Bytes):Option ((List ai)×ao) :=
 if 65536 < (s_0.length:Int) then
  some ([],(ao.mk 3 0 ([]:Bytes)))
 else
  (gZ s_0).bind λ r2 =>
  jn (dY n n [] r2) λ q48 =>
  none
set_option maxHeartbeats 4000000 in
theorem p7 (n:Nat)(s_0:Bytes)(r:(List ai)×ao)(h0:g5 n s_0=some r):au Tryz.prog 25 [eS s_0] (·=.tuple [.p (eL aR r.1),.p (.agg (ao.cs r.2))]):=by
 unfold g5 at h0
 refine aW good Tryz.func25 rfl rfl rfl λ w0=>mP (λ v:(List ai)×ao=>.tuple [.p (eL aR v.1),.p (.agg (ao.cs v.2))]) ?_
 refine nx 9 rfl (oLs rfl ?_)
 refine nx 2 rfl (fD [10] h0 rfl (λ c1 h0=>?_) λ c1 h0=>?_)
 ·exact nx 8 rfl (mQ (oi h0) rfl (ap ⟨fp _,sr,trivial⟩))
 refine nx 5 rfl (bd h0 λ r2 e3 h0=>?_)
 refine mO rfl (aZ [] [] 101000 101001 (lA s_0 _ e3) rfl rfl rfl rfl rfl ⟨sr,trivial⟩ rfl rfl trivial rfl rfl rfl rfl rfl rfl rfl rfl Tryz.call51 rfl (ah rfl (ak _) rfl) ?_)
 refine nx 7 rfl ?_
 obtain ⟨o50,h1,hL0,hR0⟩:=cz h0
 refine kEx 0 (λ v51:Unit=>o50=.inl v51) (λ v51=>⟨[],[]⟩) (λ v51 hv=>?_) ?_
 ·have h0:=hL0 _ hv
  refine nx 1 rfl ?_
  cases h0
 refine lG (λ (q52:(List ai)×aa)=>⟨[(3,.ptr 3 0),(4,.ptr 101000 0),(5,.vec 62 3 0 (q52.1.map aR))],[(3,jp),(101000,(aa.cs q52.2).map .p)]⟩) (λ m (q52:(List ai)×aa)=>dY n m q52.1 q52.2) (λ _=>rfl) ([],r2) h1 (fm (mb ⟨er rfl,er rfl,⟨_,rfl,AV.sub_nilvec _ _ _⟩,trivial⟩ ⟨⟨_,rfl,⟨sr,sr,sr,trivial⟩⟩,⟨_,rfl,aw _⟩,trivial⟩)) ?_
 rintro m ⟨out25,x26⟩ h1
 replace h1:dY n (m+1) out25 x26=some o50:=h1
 rw [dY] at h1
 refine nx 4 rfl (bd h1 λ r27 e28 h1=>?_)
 refine mO rfl (aZ [101000] [] 107000 107000 (gU _ x26 _ e28) rfl rfl rfl rfl rfl ⟨sr,trivial⟩ rfl (ah rfl (ak _) rfl) ⟨⟨_,rfl,aw _⟩,trivial⟩ rfl rfl rfl rfl rfl rfl rfl rfl Tryz.call52 rfl (ah rfl (ak _) rfl) ?_)
 refine nx 3 rfl (bd h1 λ o53 h2 h1=>?_)
 refine kN o53 (λ v54=>⟨[(3,.ptr 3 0),(4,.ptr 101000 0),(5,.vec 62 3 0 (out25.map aR)),(22,.p (eB v54.1))],[(3,jp),(101000,(aa.cs v54.2).map .p)]⟩) ?_ ?_
 ·refine nx 1 rfl (fB [22] h1 rfl (λ c36 h1=>?_) λ c36 h1=>?_)
  ·refine nx 2 rfl (mG (gE (t:=⟨[(3,.ptr 3 0),(4,.ptr 101000 0)],[(3,jp),(101000,(aa.cs o53.2).map .p)]⟩) rfl rfl) ?_)
   refine mSq ⟨1,[6],(λ _=>.none),(λ _=>[(3,.ptr 3 0),(4,.ptr 101000 0)]),(ob2 ([(3,jp),(101000,(aa.cs o53.2).map .p)]) (3,[.p (eI 2),.p (eI o53.2.fat),.p (eS ([]:Bytes))]))⟩ rfl (dPc (.ptr 101000 0) rfl ?_)
   refine dPc (.ptr 101000 0) rfl (dPc (.ptr 101000 1) rfl ?_)
   refine dPc (.p (eI o53.2.fat)) rfl (dPc (.p (.agg [eI 2,eI o53.2.fat,eS ([]:Bytes)])) rfl ?_)
   refine dPc (.p (.val (.slice none 0 0))) rfl (dS rfl ?_)
   refine cP (nx 2 rfl ?_)
   exact mQ (hR0 _ (oi h1).symm) rfl (ap ⟨fp _,sr,trivial⟩)
  refine nx 6 rfl (oLl (f:=aR) rfl rfl ?_)
  refine nx 2 rfl (fD [30] h1 rfl (λ c37 h1=>?_) λ c37 h1=>?_)
  ·refine nx 2 rfl (mG (gE (t:=⟨[(3,.ptr 3 0),(4,.ptr 101000 0)],[(3,jp),(101000,(aa.cs o53.2).map .p)]⟩) rfl rfl) ?_)
   refine mSq ⟨1,[6],(λ _=>.none),(λ _=>[(3,.ptr 3 0),(4,.ptr 101000 0)]),(ob2 ([(3,jp),(101000,(aa.cs o53.2).map .p)]) (3,[.p (eI 14),.p (eI o53.2.fat),.p (eS ([]:Bytes))]))⟩ rfl (dPc (.ptr 101000 0) rfl ?_)
   refine dPc (.ptr 101000 0) rfl (dPc (.ptr 101000 1) rfl ?_)
   refine dPc (.p (eI o53.2.fat)) rfl (dPc (.p (.agg [eI 14,eI o53.2.fat,eS ([]:Bytes)])) rfl ?_)
   refine dPc (.p (.val (.slice none 0 0))) rfl (dS rfl ?_)
   refine cP (nx 2 rfl ?_)
   exact mQ (hR0 _ (oi h1).symm) rfl (ap ⟨fp _,sr,trivial⟩)
  refine nx 6 rfl (bd h1 λ r38 e39 h1=>?_)
  refine mO rfl (aZ [101000] [] 110000 110000 (bw o53.2 _ e39) rfl rfl rfl rfl rfl ⟨sr,trivial⟩ rfl (ah rfl (ak _) rfl) ⟨⟨_,rfl,aw _⟩,trivial⟩ rfl rfl rfl rfl rfl rfl rfl rfl Tryz.call53 rfl (ah rfl (ak _) rfl) ?_)
  refine nx 2 rfl (fB [38] h1 rfl (λ c40 h1=>?_) λ c40 h1=>?_)
  ·refine nx 7 rfl (mO rfl (aG rfl rfl rfl rfl rfl rfl rfl (aa.g_at _) ?_))
   refine nx 1 rfl (mO rfl (bh aR [(ai.mk 6 ([]:Bytes) r38.2.fat)] rfl rfl rfl rfl rfl rfl rfl rfl rfl rfl rfl rfl rfl (by first | rfl | (simp only [List.map_cons,List.map_nil,ai.agg_eq]; done) | (simp only [List.map_cons,List.map_nil,ai.agg_eq]; rfl)) ?_))
   refine cc' h1 λ hk41 h1=>mO rfl (fW aR out25 ([(ai.mk 6 ([]:Bytes) r38.2.fat)]) rfl rfl rfl rfl rfl rfl rfl rfl rfl rfl rfl rfl rfl (λ x=>congrArg List.length (ai.cells_eq x)) rfl rfl rfl rfl hk41 ?_)
   refine mG (rR (show iz _ _=_ from (by repeat (first | exact g9 _ | apply gp rfl | apply da rfl (jx _ _) | apply da rfl rfl)))) (nx 5 rfl ?_)
   exact mQ (hR0 _ (oi h1).symm) rfl (ap ⟨AV.sub_vec _ _ _ _,sr,trivial⟩)
  refine nx 5 rfl (bd h1 λ r42 e43 h1=>?_)
  refine mO rfl (aZ [101000] [] 111000 111000 (j9 _ r38.2 0 _ e43) rfl rfl rfl rfl rfl ⟨sr,sr,trivial⟩ rfl (ah rfl (ak _) rfl) ⟨⟨_,rfl,aw _⟩,trivial⟩ rfl rfl rfl rfl rfl rfl rfl rfl Tryz.call55 rfl (ah rfl (ak _) rfl) ?_)
  refine nx 3 rfl (mO rfl (fM rfl rfl rfl rfl rfl ?_))
  refine mG (jU (show iz _ _=_ from (by repeat (first | exact g9 _ | apply gp rfl | apply da rfl (jx _ _) | apply da rfl rfl)))) (nx 9 rfl ?_)
  refine fB [54] h1 rfl (λ c44 h1=>?_) λ c44 h1=>?_
  ·refine nx 2 rfl (mG (gE (t:=⟨[(3,.ptr 3 0),(4,.ptr 101000 0)],[(3,jp),(101000,(aa.cs r42.2.2).map .p)]⟩) rfl rfl) ?_)
   refine mSq ⟨1,[5],(λ _=>.none),(λ _=>[(3,.ptr 3 0),(4,.ptr 101000 0)]),(ob2 ([(3,jp),(101000,(aa.cs r42.2.2).map .p)]) (3,((ao.cs r42.2.2.fbad).map .p)))⟩ rfl (dPc (.ptr 101000 0) rfl ?_)
   refine dPc (.ptr 101000 0) rfl (dPc (.ptr 101000 259) rfl ?_)
   refine aD (λ _=>.p (.agg (ao.cs r42.2.2.fbad))) rfl rfl rfl (fF rfl (λ _=>rfl)) (lt1 rfl) (ar rfl (av [(57,_)] ⟨.inr ⟨2,_,rfl,rfl,rfl⟩,trivial⟩ (λ sl hsl K hK=>ag rfl (ud rfl rfl rfl rfl rfl (hsl _ _ rfl) rfl (aa.l_bad _) (aa.g_bad _) hK)) aE)) (dPc (.p (.val (.slice none 0 0))) rfl ?_)
   refine dS rfl (cP ?_)
   exact nx 2 rfl (mQ (hR0 _ (oi h1).symm) rfl (ap ⟨fp _,sr,trivial⟩))
  refine nx 5 rfl (mO rfl (bh aR [r42.1] rfl rfl rfl rfl rfl rfl rfl rfl rfl rfl rfl rfl rfl (by first | rfl | (simp only [List.map_cons,List.map_nil,ai.agg_eq]; done) | (simp only [List.map_cons,List.map_nil,ai.agg_eq]; rfl)) ?_))
  refine cc' h1 λ hk45 h1=>mO rfl (fW aR out25 [r42.1] rfl rfl rfl rfl rfl rfl rfl rfl rfl rfl rfl rfl rfl (λ x=>congrArg List.length (ai.cells_eq x)) rfl rfl rfl rfl hk45 ?_)
  refine mG (rR (show iz _ _=_ from (by repeat (first | exact g9 _ | apply gp rfl | apply da rfl (jx _ _) | apply da rfl rfl)))) (nx 2 rfl ?_)
  exact eX (out25++[r42.1],r42.2.2) h1 (gE rfl rfl)
 refine nx 2 rfl (bd h2 λ r29 e30 h2=>?_)
 refine mO rfl (aZ [101000] [] 108000 108000 (bw r27 _ e30) rfl rfl rfl rfl rfl ⟨sr,trivial⟩ rfl (ah rfl (ak _) rfl) ⟨⟨_,rfl,aw _⟩,trivial⟩ rfl rfl rfl rfl rfl rfl rfl rfl Tryz.call53 rfl (ah rfl (ak _) rfl) ?_)
 refine nx 1 rfl (fB [17,18] h2 rfl (λ c31 h2=>?_) λ c31 h2=>?_)
 ·refine nx 1 rfl (bd h2 λ r32 e33 h2=>?_)
  refine mO rfl (aZ [101000] [] 109000 109000 (gz _ r29.2 _ e33) rfl rfl rfl rfl rfl ⟨sr,trivial⟩ rfl (ah rfl (ak _) rfl) ⟨⟨_,rfl,aw _⟩,trivial⟩ rfl rfl rfl rfl rfl rfl rfl rfl Tryz.call54 rfl (ah rfl (ak _) rfl) ?_)
  exact nx 3 rfl (eX _ (oi h2).symm (gE rfl rfl))
 exact nx 5 rfl (eX _ (oi h2).symm (gE rfl rfl))
end Go.Ab.R06
end
section
set_option linter.unusedVariables false
set_option linter.unusedSimpArgs false
set_option linter.unnecessarySimpa false
namespace Go.Ab.R06
open Go.Proofs Go.Ab Go.Ab.RB
attribute [local irreducible] awp fk aS au aF AV.sub M cB
def gN (v_0:ad):Option Bool :=
 (
   if v_0.fKind < 0 then
    some true
   else
    some (decide (6 < v_0.fKind))
  : Option Bool).bind λ t2 =>
 if t2=true then
  some false
 else
  jn (
    if v_0.fKind=1 then
     (
       if v_0.fNum=0 then
        some false
       else
        some (!decide (v_0.fNum=1))
      : Option Bool).bind λ t6 =>
     if t6=true then
      some (.inr false)
     else
      some (.inl ())
    else
     if v_0.fKind=2 then
      some (.inl ())
     else
      if v_0.fNum=0 then
       some (.inl ())
      else
       some (.inr false)
   : Option (Unit⊕Bool)) λ q20 =>
  (
    if v_0.fKind=3 then
     if v_0.fKind=4 then
      some false
     else
      if v_0.fKind=5 then
       some false
      else
       some (decide (0 < (v_0.fItems.length:Int)))
    else
     if v_0.fStr=([]:Bytes) then
      if v_0.fKind=4 then
       some false
      else
       if v_0.fKind=5 then
        some false
       else
        some (decide (0 < (v_0.fItems.length:Int)))
     else
      some true
   : Option Bool).bind λ t16 =>
  if t16=true then
   some false
  else
   if v_0.fKind=5 then
    some (decide ((v_0.fKeys.length:Int)=(v_0.fItems.length:Int)))
   else
    some (decide ((v_0.fKeys.length:Int)=0))
set_option maxHeartbeats 4000000 in
theorem nR (v_0:ad)(r:Bool)(h0:gN v_0=some r):au Tryz.prog 170 [.agg (ad.cs v_0)] (·=.p (eB r)):=by
 unfold gN at h0
 refine aW good Tryz.func170 rfl rfl rfl λ w0=>mP (λ v:Bool=>.p (eB v)) ?_
 refine nx 7 rfl (bd h0 λ o23 h1 h0=>?_)
 refine kN o23 (λ v24=>⟨[(1,.ptr 1 0),(10,.p (eB v24))],[(1,(ad.cs v_0).map .p)]⟩) ?_ ?_
 ·refine nx 1 rfl (fB [10] h0 rfl (λ c3 h0=>?_) λ c3 h0=>?_)
  ·exact nx 6 rfl (mQ (oi h0) rfl (sr))
  refine nx 8 rfl ?_
  obtain ⟨o25,h1,hL0,hR0⟩:=cz h0
  refine kX (λ v26:Unit=>o25=.inl v26) (λ v26=>⟨[(1,.ptr 1 0)],[(1,(ad.cs v_0).map .p)]⟩) (λ v26 hv=>?_) ?_
  ·have h0:=hL0 _ hv
   refine nx 3 rfl (bd h0 λ o27 h1 h0=>?_)
   refine kN o27 (λ v28=>⟨[(1,.ptr 1 0),(51,.p (eB v28))],[(1,(ad.cs v_0).map .p)]⟩) ?_ ?_
   ·refine nx 1 rfl (fB [51] h0 rfl (λ c17 h0=>?_) λ c17 h0=>?_)
    ·exact nx 6 rfl (mQ (oi h0) rfl (sr))
    refine nx 9 rfl (fD [54] h0 rfl (λ c18 h0=>?_) λ c18 h0=>?_)
    ·refine nx 5 rfl (oLl (f:=eS) rfl rfl ?_)
     refine nx 2 rfl (oLl (f:=cU) rfl rfl ?_)
     exact nx 4 rfl (mQ (oi h0) rfl (sr))
    refine nx 6 rfl (oLl (f:=eS) rfl rfl ?_)
    exact nx 4 rfl (mQ (oi h0) rfl (sr))
   refine nx 5 rfl (fN [30,31] h1 rfl (λ c10 h1=>?_) λ c10 h1=>?_)
   ·refine nx 9 rfl (fN [39,40] h1 rfl (λ c11 h1=>?_) λ c11 h1=>?_)
    ·exact nx 12 rfl (eX _ (oi h1).symm (gE rfl rfl))
    refine nx 5 rfl (fN [43,44,45] h1 rfl (λ c12 h1=>?_) λ c12 h1=>?_)
    ·exact nx 7 rfl (eX _ (oi h1).symm (gE rfl rfl))
    refine nx 2 rfl (oLl (f:=cU) rfl rfl ?_)
    exact nx 4 rfl (eX _ (oi h1).symm (gE rfl rfl))
   refine nx 2 rfl (oS rfl rfl ?_)
   refine nx 2 rfl (fN [34,35,36] h1 rfl (λ c13 h1=>?_) λ c13 h1=>?_)
   ·refine nx 4 rfl (fN [39,40] h1 rfl (λ c14 h1=>?_) λ c14 h1=>?_)
    ·exact nx 12 rfl (eX _ (oi h1).symm (gE rfl rfl))
    refine nx 5 rfl (fN [43,44,45] h1 rfl (λ c15 h1=>?_) λ c15 h1=>?_)
    ·exact nx 7 rfl (eX _ (oi h1).symm (gE rfl rfl))
    refine nx 2 rfl (oLl (f:=cU) rfl rfl ?_)
    exact nx 4 rfl (eX _ (oi h1).symm (gE rfl rfl))
   exact nx 16 rfl (eX _ (oi h1).symm (gE rfl rfl))
  refine nx 6 rfl (fD [16,17] h1 rfl (λ c4 h1=>?_) λ c4 h1=>?_)
  ·refine nx 2 rfl (bd h1 λ o29 h2 h1=>?_)
   refine kN o29 (λ v30=>⟨[(1,.ptr 1 0),(25,.p (eB v30))],[(1,(ad.cs v_0).map .p)]⟩) ?_ ?_
   ·refine nx 1 rfl (fB [25] h1 rfl (λ c7 h1=>?_) λ c7 h1=>?_)
    ·exact nx 6 rfl (mQ (hR0 _ (oi h1).symm) rfl (sr))
    exact nx 2 rfl (eX _ (oi h1).symm (gE rfl rfl))
   refine nx 5 rfl (fN [20,21] h2 rfl (λ c5 h2=>?_) λ c5 h2=>?_)
   ·exact nx 5 rfl (eX _ (oi h2).symm (gE rfl rfl))
   exact nx 5 rfl (eX _ (oi h2).symm (gE rfl rfl))
  refine nx 6 rfl (fD [26,27] h1 rfl (λ c8 h1=>?_) λ c8 h1=>?_)
  ·exact nx 2 rfl (eX _ (oi h1).symm (gE rfl rfl))
  refine nx 7 rfl (fN [15] h1 rfl (λ c9 h1=>?_) λ c9 h1=>?_)
  ·exact nx 2 rfl (eX _ (oi h1).symm (gE rfl rfl))
  exact nx 6 rfl (mQ (hR0 _ (oi h1).symm) rfl (sr))
 refine nx 5 rfl (fD [5,6] h1 rfl (λ c1 h1=>?_) λ c1 h1=>?_)
 ·exact nx 5 rfl (eX _ (oi h1).symm (gE rfl rfl))
 exact nx 5 rfl (eX _ (oi h1).symm (gE rfl rfl))
def g6 (s_0:Bytes):Option Int :=
 if 4096 < (s_0.length:Int) then
  some 3
 else
  (gK s_0).bind λ r2 =>
  if (!r2)=true then
   some 1
  else
   some 0
set_option maxHeartbeats 4000000 in
theorem lH (s_0:Bytes)(r:Int)(h0:g6 s_0=some r):au Tryz.prog 172 [eS s_0] (·=.p (eI r)):=by
 unfold g6 at h0
 refine aW good Tryz.func172 rfl rfl rfl λ w0=>mP (λ v:Int=>.p (eI v)) ?_
 refine nx 8 rfl (oLs rfl ?_)
 refine nx 2 rfl (fD [5] h0 rfl (λ c1 h0=>?_) λ c1 h0=>?_)
 ·exact nx 6 rfl (mQ (oi h0) rfl (sr))
 refine nx 6 rfl (bd h0 λ r2 e3 h0=>?_)
 refine oK (nV s_0 _ e3) rfl ⟨sr,trivial⟩ Tryz.call188 rfl (nx 2 rfl ?_)
 refine fB [8] h0 rfl (λ c4 h0=>?_) λ c4 h0=>?_
 ·exact nx 6 rfl (mQ (oi h0) rfl (sr))
 exact nx 7 rfl (mQ (oi h0) rfl (sr))
def dW (v_0:ad):Nat→Int→Option (Unit⊕(Unit⊕Int))
 | 0,_=>none
 | m+1,t24 =>
 if t24 < (v_0.fKeys.length:Int) then
  ck ((0:Int)≤t24∧t24 < (v_0.fKeys.length:Int)) <|
  (g6 (lat v_0.fKeys t24)).bind λ r27 =>
  if r27=0 then
   (
     if 0 < t24 then
      ck (inR (t24 - 1)) <|
      ck ((0:Int)≤t24 - 1∧t24 - 1 < (v_0.fKeys.length:Int)) <|
      some (Op.bytesLess (lat v_0.fKeys t24) (lat v_0.fKeys (t24 - 1))||decide (lat v_0.fKeys t24=lat v_0.fKeys (t24 - 1)))
     else
      some false
    : Option Bool).bind λ t33 =>
   if t33=true then
    some (.inr (.inr 1))
   else
    ck (inR (t24+1)) <|
    dW v_0 m (t24+1)
  else
   some (.inr (.inr r27))
 else
  some (.inl ())
def fH (n:Nat)(v_0:ad):Option Int :=
 (gN v_0).bind λ r1 =>
 if (!r1)=true then
  some 1
 else
  jn (
    if v_0.fKind=2 then
     (fU v_0.fNum).bind λ r5 =>
     if (!r5)=true then
      some (.inr 5)
     else
      some (.inl ())
    else
     if v_0.fKind=3 then
      (g6 v_0.fStr).bind λ r9 =>
      some (.inr r9)
     else
      if v_0.fKind=5 then
       jn (dW v_0 n 0) λ q38 =>
       some (.inl ())
      else
       some (.inl ())
   : Option (Unit⊕Int)) λ q37 =>
  some 0
set_option maxHeartbeats 4000000 in
theorem pJ (n:Nat)(v_0:ad)(r:Int)(h0:fH n v_0=some r):au Tryz.prog 150 [.agg (ad.cs v_0)] (·=.p (eI r)):=by
 unfold fH at h0
 refine aW good Tryz.func150 rfl rfl rfl λ w0=>mP (λ v:Int=>.p (eI v)) ?_
 refine nx 9 rfl (bd h0 λ r1 e2 h0=>?_)
 refine oK (nR v_0 _ e2) rfl ⟨sr,trivial⟩ Tryz.call170 rfl (nx 2 rfl ?_)
 refine fB [8] h0 rfl (λ c3 h0=>?_) λ c3 h0=>?_
 ·exact nx 6 rfl (mQ (oi h0) rfl (sr))
 refine nx 8 rfl ?_
 obtain ⟨o40,h1,hL0,hR0⟩:=cz h0
 refine kX (λ v41:Unit=>o40=.inl v41) (λ v41=>⟨[],[]⟩) (λ v41 hv=>?_) ?_
 ·have h0:=hL0 _ hv
  exact nx 6 rfl (mQ (oi h0) rfl (sr))
 refine nx 6 rfl (fD [11,12] h1 rfl (λ c4 h1=>?_) λ c4 h1=>?_)
 ·refine nx 5 rfl (bd h1 λ r5 e6 h1=>?_)
  refine oK (ks v_0.fNum _ e6) rfl ⟨sr,trivial⟩ Tryz.call171 rfl (nx 2 rfl ?_)
  refine fB [16] h1 rfl (λ c7 h1=>?_) λ c7 h1=>?_
  ·exact nx 6 rfl (mQ (hR0 _ (oi h1).symm) rfl (sr))
  exact nx 2 rfl (eX _ (oi h1).symm (gE rfl rfl))
 refine nx 6 rfl (fD [17,18] h1 rfl (λ c8 h1=>?_) λ c8 h1=>?_)
 ·refine nx 5 rfl (bd h1 λ r9 e10 h1=>?_)
  refine oK (lH v_0.fStr _ e10) rfl ⟨sr,trivial⟩ Tryz.call172 rfl (nx 3 rfl ?_)
  exact mQ (hR0 _ (oi h1).symm) rfl (sr)
 refine nx 6 rfl (fD [22,23] h1 rfl (λ c11 h1=>?_) λ c11 h1=>?_)
 ·refine nx 5 rfl (oLl (f:=eS) rfl rfl ?_)
  refine nx 3 rfl ?_
  obtain ⟨o42,h2,hL1,hR1⟩:=cz h1
  refine kEx 1 (λ v43:Unit=>o42=.inl v43) (λ v43=>⟨[],[]⟩) (λ v43 hv=>?_) ?_
  ·have h1:=hL1 _ hv
   exact nx 1 rfl (eX _ (oi h1).symm (gE rfl rfl))
  refine lG (λ (q44:Int)=>⟨[(1,.ptr 1 0),(25,.p (eL eS v_0.fKeys)),(26,.p (eI (v_0.fKeys.length:Int))),(27,.p (eI q44))],[(1,(ad.cs v_0).map .p)]⟩) (λ m (q44:Int)=>dW v_0 m q44) (λ _=>rfl) 0 h2 (gE rfl rfl) ?_
  rintro m t24 h2
  replace h2:dW v_0 (m+1) t24=some o42:=h2
  rw [dW] at h2
  refine nx 5 rfl (fD [28] h2 rfl (λ c25 h2=>?_) λ c25 h2=>?_)
  ·refine nx 7 rfl (oE h2 (λ _=>rfl) rfl rfl (λ _=>rfl) λ hk26 h2=>?_)
   refine nx 8 rfl (bd h2 λ r27 e28 h2=>?_)
   refine oK (lH (lat v_0.fKeys t24) _ e28) rfl ⟨sr,trivial⟩ Tryz.call172 rfl (nx 7 rfl ?_)
   refine fN [35] h2 rfl (λ c29 h2=>?_) λ c29 h2=>?_
   ·refine nx 3 rfl (bd h2 λ o45 h3 h2=>?_)
    refine kN o45 (λ v46=>⟨[(1,.ptr 1 0),(25,.p (eL eS v_0.fKeys)),(26,.p (eI (v_0.fKeys.length:Int))),(27,.p (eI t24)),(48,.p (eB v46))],[(1,(ad.cs v_0).map .p)]⟩) ?_ ?_
    ·refine nx 1 rfl (fB [48] h2 rfl (λ c34 h2=>?_) λ c34 h2=>?_)
     ·exact nx 6 rfl (mQ (hR0 _ (hR1 _ (oi h2).symm).symm) rfl (sr))
     refine nx 3 rfl (oA h2 rfl rfl λ hk35 h2=>?_)
     exact nx 2 rfl (eX (t24+1) h2 (gE rfl rfl))
    refine nx 4 rfl (fD [38,39] h3 rfl (λ c30 h3=>?_) λ c30 h3=>?_)
    ·refine nx 4 rfl (oA h3 rfl rfl λ hk31 h3=>?_)
     refine oE h3 (λ _=>rfl) rfl rfl (λ _=>rfl) λ hk32 h3=>nx 1 rfl (oS rfl rfl ?_)
     exact nx 2 rfl (eX _ (oi h3).symm (gE rfl rfl))
    exact nx 10 rfl (eX _ (oi h3).symm (gE rfl rfl))
   exact nx 7 rfl (mQ (hR0 _ (hR1 _ (oi h2).symm).symm) rfl (sr))
  exact nx 2 rfl (eXi _ (oi h2).symm (gE rfl rfl))
 exact nx 2 rfl (eX _ (oi h1).symm (gE rfl rfl))
def b7 (r_value_Check_1:ad→Int→Int→Option (Int×Int))(v_0:ad)(level_1:Int):Nat→Int→Int→Option (Int⊕(Int×Int))
 | 0,_,_=>none
 | m+1,t16,f17 =>
 if t16 < (v_0.fItems.length:Int) then
  ck ((0:Int)≤t16∧t16 < (v_0.fItems.length:Int)) <|
  ck (inR (level_1+1)) <|
  (r_value_Check_1 (lat v_0.fItems t16) (level_1+1) f17).bind λ r21 =>
  if r21.1=0 then
   ck (inR (t16+1)) <|
   b7 r_value_Check_1 v_0 level_1 m (t16+1) r21.2
  else
   some (.inr (r21.1,r21.2))
 else
  some (.inl f17)
def b9:Nat→ad→Int→Int→Option (Int×Int)
 | 0,_,_,_=>none
 | n+1,v_0,level_1,cap_0 =>
 if 32 < level_1 then
  some (4,cap_0)
 else
  if 4096≤cap_0 then
   some (14,cap_0)
  else
   ck (inR (cap_0+1)) <|
   (fH n v_0).bind λ r4 =>
   if r4=0 then
    jn (b7 (b9 n) v_0 level_1 n 0 (cap_0+1)) λ f27 =>
    some (0,f27)
   else
    some (r4,cap_0+1)
set_option maxHeartbeats 4000000 in
theorem nr (n:Nat):∀ (v_0:ad) (level_1:Int) (cap_0:Int) (r:Int×Int),b9 n v_0 level_1 cap_0=some r→aF Tryz.prog 149 [.p (.agg (ad.cs v_0)),.p (eI level_1),.ptr 1000000 0,.ptr 1000001 0] [(1000000,[.p (eI cap_0)]),(1000001,[.func (.func 149) [.ptr 1000000 0,.ptr 1000001 0]])] (λ x y=>x=.p (eI r.1)∧y=[(1000000,[.p (eI r.2)]),(1000001,[.func (.func 149) [.ptr 1000000 0,.ptr 1000001 0]])]):=by
 induction n with
 | zero=>intro v_0 level_1 cap_0 r h0; cases h0
 | succ n ih =>
 have ih_value_Check_1_ok:=ih
 intro v_0 level_1 cap_0 r h0
 rw [b9] at h0
 refine bF good [] [1000000,1000001] Tryz.func149 rfl rfl rfl rfl rfl λ w0 F=>mPo (λ v:Int×Int=>.p (eI v.1)) (λ v=>[(1000000,[.p (eI v.2)]),(1000001,[.func (.func 149) [.ptr 1000000 0,.ptr 1000001 0]])]) ?_
 refine nx 11 rfl (fD [12] h0 rfl (λ c1 h0=>?_) λ c1 h0=>?_)
 ·exact nx 6 rfl (mQo (oi h0) (al _) rfl rfl rfl rfl (sr) ⟨⟨_,rfl,⟨sr,trivial⟩⟩,⟨_,rfl,⟨sr,trivial⟩⟩,trivial⟩)
 refine nx 8 rfl (fD [14] h0 rfl (λ c2 h0=>?_) λ c2 h0=>?_)
 ·exact nx 6 rfl (mQo (oi h0) (al _) rfl rfl rfl rfl (sr) ⟨⟨_,rfl,⟨sr,trivial⟩⟩,⟨_,rfl,⟨sr,trivial⟩⟩,trivial⟩)
 refine nx 5 rfl (oA h0 rfl rfl λ hk3 h0=>?_)
 refine nx 6 rfl (bd h0 λ r4 e5 h0=>?_)
 refine oK (pJ _ v_0 _ e5) rfl ⟨sr,trivial⟩ Tryz.call150 rfl (nx 7 rfl ?_)
 refine fN [20] h0 rfl (λ c6 h0=>?_) λ c6 h0=>?_
 ·refine nx 7 rfl (oLl (f:=cU) rfl rfl ?_)
  refine nx 3 rfl ?_
  obtain ⟨o29,h1,hL0,hR0⟩:=cz h0
  refine kEx 0 (λ v30:Int=>o29=.inl v30) (λ v30=>⟨[],[(1000000,[.p (eI v30)]),(1000001,[.func (.func 149) [.ptr 1000000 0,.ptr 1000001 0]])]⟩) (λ v30 hv=>?_) ?_
  ·have h0:=hL0 _ hv
   exact nx 6 rfl (mQo (oi h0) (al _) rfl rfl rfl rfl (sr) ⟨⟨_,rfl,⟨sr,trivial⟩⟩,⟨_,rfl,⟨sr,trivial⟩⟩,trivial⟩)
  refine lG (λ (q31:Int×Int)=>⟨[(1,.p (eI level_1)),(3,.ptr 1000001 0),(23,.p (eL cU v_0.fItems)),(24,.p (eI (v_0.fItems.length:Int))),(25,.p (eI q31.1))],[(1000000,[.p (eI q31.2)]),(1000001,[.func (.func 149) [.ptr 1000000 0,.ptr 1000001 0]])]⟩) (λ m (q31:Int×Int)=>b7 (b9 n) v_0 level_1 m q31.1 q31.2) (λ _=>rfl) (0,cap_0+1) h1 (gE rfl rfl) ?_
  rintro m ⟨t16,f17⟩ h1
  replace h1:b7 (b9 n) v_0 level_1 (m+1) t16 f17=some o29:=h1
  rw [b7] at h1
  refine nx 5 rfl (fD [26] h1 rfl (λ c18 h1=>?_) λ c18 h1=>?_)
  ·refine nx 6 rfl (oE h1 ad.cells_eq rfl rfl (λ _=>rfl) λ hk19 h1=>?_)
   refine nx 9 rfl (oA h1 rfl rfl λ hk20 h1=>?_)
   refine bd h1 λ r21 e22 h1=>mO rfl (qm [1000000,1000001] [] 102000 102000 (ih_value_Check_1_ok (lat v_0.fItems t16) (level_1+1) f17 _ e22) rfl rfl rfl rfl rfl rfl ⟨sr,sr,sr,sr,trivial⟩ rfl rfl ⟨⟨_,rfl,⟨sr,trivial⟩⟩,⟨_,rfl,⟨sr,trivial⟩⟩,trivial⟩ rfl rfl rfl rfl rfl rfl rfl rfl Tryz.call149 rfl rfl ?_)
   refine nx 7 rfl (fN [35] h1 rfl (λ c23 h1=>?_) λ c23 h1=>?_)
   ·refine nx 3 rfl (oA h1 rfl rfl λ hk24 h1=>?_)
    exact nx 2 rfl (eX (t16+1,r21.2) h1 (gE rfl rfl))
   exact nx 7 rfl (mQo (hR0 _ (oi h1).symm) (al _) rfl rfl rfl rfl (sr) ⟨⟨_,rfl,⟨sr,trivial⟩⟩,⟨_,rfl,⟨sr,trivial⟩⟩,trivial⟩)
  exact nx 2 rfl (eXi _ (oi h1).symm (gE rfl rfl))
 exact nx 7 rfl (mQo (oi h0) (al _) rfl rfl rfl rfl (sr) ⟨⟨_,rfl,⟨sr,trivial⟩⟩,⟨_,rfl,⟨sr,trivial⟩⟩,trivial⟩)
def eW (n:Nat)(v_0:ad):Option Int :=
 (b9 n v_0 1 0).bind λ r1 =>
 some r1.1
set_option maxHeartbeats 4000000 in
theorem oL (n:Nat)(v_0:ad)(r:Int)(h0:eW n v_0=some r):au Tryz.prog 111 [.agg (ad.cs v_0)] (·=.p (eI r)):=by
 unfold eW at h0
 refine aW good Tryz.func111 rfl rfl rfl λ w0=>mP (λ v:Int=>.p (eI v)) ?_
 refine nx 16 rfl (mO rfl (rq rfl rfl rfl rfl ?_))
 refine nx 6 rfl (bd h0 λ r1 e2 h0=>?_)
 refine mO rfl (qm [3,4] [] 101000 101000 (nr _ v_0 1 0 _ e2) rfl rfl rfl rfl rfl rfl ⟨sr,sr,sr,sr,trivial⟩ rfl rfl ⟨⟨_,rfl,⟨sr,trivial⟩⟩,⟨_,rfl,⟨sr,trivial⟩⟩,trivial⟩ rfl rfl rfl rfl rfl rfl rfl rfl Tryz.call149 rfl rfl ?_)
 exact nx 3 rfl (mQ (oi h0) rfl (sr))
end Go.Ab.R06
end
section
set_option linter.unusedVariables false
set_option linter.unusedSimpArgs false
set_option linter.unnecessarySimpa false
namespace Go.Ab.R06
open Go.Proofs Go.Ab Go.Ab.RB
attribute [local irreducible] awp fk aS au aF AV.sub M cB
abbrev iY:List AV:=[.p (eI 0),.p (eI 0),.p (eS ([]:Bytes)),.p (eS ([]:Bytes)),.p (eI 0),.p (eI 0),.p (eS ([]:Bytes)),.p (.val (.slice none 0 0)),.p (.val (.slice none 0 0)),.p (.val (.slice none 0 0)),.p (eI 0)]
abbrev jK:List PV:=[eI 0,eI 0,eS ([]:Bytes),eS ([]:Bytes),eI 0,eI 0,eS ([]:Bytes),.val (.slice none 0 0),.val (.slice none 0 0),.val (.slice none 0 0),eI 0]
abbrev gH:List AV:=[.p (eI 0),.p (eS ([]:Bytes)),.p (eI 0)]
abbrev d8:List AV:=[.p (eI 0),.p (eI 0),.p (eS ([]:Bytes))]
def gX (k_0:Int):Option Bool :=
 (
   if k_0=12 then
    some true
   else
    some (decide (k_0=13))
  : Option Bool).bind λ t2 =>
 some t2
set_option maxHeartbeats 4000000 in
theorem kl (k_0:Int)(r:Bool)(h0:gX k_0=some r):au Tryz.prog 146 [eI k_0] (·=.p (eB r)):=by
 unfold gX at h0
 refine aW good Tryz.func146 rfl rfl rfl λ w0=>mP (λ v:Bool=>.p (eB v)) ?_
 refine nx 5 rfl (bd h0 λ o4 h1 h0=>?_)
 refine kN o4 (λ v5=>⟨[(2,.p (eB v5))],[]⟩) ?_ ?_
 ·exact nx 2 rfl (mQ (oi h0) rfl (sr))
 refine nx 4 rfl (fD [4,5] h1 rfl (λ c1 h1=>?_) λ c1 h1=>?_)
 ·exact nx 5 rfl (eX _ (oi h1).symm (gE rfl rfl))
 exact nx 5 rfl (eX _ (oi h1).symm (gE rfl rfl))
def gr (k_0:Int):Option Bool :=
 (
   if k_0=3 then
    some true
   else
    if k_0=4 then
     some true
    else
     if k_0=9 then
      some true
     else
      (gX k_0).bind λ r4 =>
      some r4
  : Option Bool).bind λ t6 =>
 some t6
set_option maxHeartbeats 4000000 in
theorem lK (k_0:Int)(r:Bool)(h0:gr k_0=some r):au Tryz.prog 112 [eI k_0] (·=.p (eB r)):=by
 unfold gr at h0
 refine aW good Tryz.func112 rfl rfl rfl λ w0=>mP (λ v:Bool=>.p (eB v)) ?_
 refine nx 5 rfl (bd h0 λ o8 h1 h0=>?_)
 refine kN o8 (λ v9=>⟨[(2,.p (eB v9))],[]⟩) ?_ ?_
 ·exact nx 2 rfl (mQ (oi h0) rfl (sr))
 refine nx 4 rfl (fD [4,5] h1 rfl (λ c1 h1=>?_) λ c1 h1=>?_)
 ·exact nx 13 rfl (eX _ (oi h1).symm (gE rfl rfl))
 refine nx 4 rfl (fD [7,8,9] h1 rfl (λ c2 h1=>?_) λ c2 h1=>?_)
 ·exact nx 9 rfl (eX _ (oi h1).symm (gE rfl rfl))
 refine nx 4 rfl (fD [11,12,13] h1 rfl (λ c3 h1=>?_) λ c3 h1=>?_)
 ·exact nx 5 rfl (eX _ (oi h1).symm (gE rfl rfl))
 refine nx 1 rfl (bd h1 λ r4 e5 h1=>?_)
 refine oK (kl k_0 _ e5) rfl ⟨sr,trivial⟩ Tryz.call146 rfl (nx 3 rfl ?_)
 exact eX _ (oi h1).symm (gE rfl rfl)
def hZ (e_0:ac):Option Bool :=
 if e_0.fKind=6 then
  (
    if e_0.fOp=1 then
     some true
    else
     some (decide (e_0.fOp=2))
   : Option Bool).bind λ t3 =>
  some t3
 else
  if e_0.fKind=7 then
   (
     if 3≤e_0.fOp then
      some (decide (e_0.fOp≤15))
     else
      some false
    : Option Bool).bind λ t6 =>
   some t6
  else
   some (decide (e_0.fOp=0))
set_option maxHeartbeats 4000000 in
theorem ni (e_0:ac)(r:Bool)(h0:hZ e_0=some r):au Tryz.prog 145 [.agg (ac.cs e_0)] (·=.p (eB r)):=by
 unfold hZ at h0
 refine aW good Tryz.func145 rfl rfl rfl λ w0=>mP (λ v:Bool=>.p (eB v)) ?_
 refine nx 17 rfl (fD [5,6] h0 rfl (λ c1 h0=>?_) λ c1 h0=>?_)
 ·refine nx 2 rfl (bd h0 λ o9 h1 h0=>?_)
  refine kN o9 (λ v10=>⟨[(2,.p (eB v10))],[]⟩) ?_ ?_
  ·exact nx 2 rfl (mQ (oi h0) rfl (sr))
  refine nx 5 rfl (fD [9,10] h1 rfl (λ c2 h1=>?_) λ c2 h1=>?_)
  ·exact nx 6 rfl (eX _ (oi h1).symm (gE rfl rfl))
  exact nx 6 rfl (eX _ (oi h1).symm (gE rfl rfl))
 refine nx 6 rfl (fD [15,16] h0 rfl (λ c4 h0=>?_) λ c4 h0=>?_)
 ·refine nx 2 rfl (bd h0 λ o11 h1 h0=>?_)
  refine kN o11 (λ v12=>⟨[(2,.p (eB v12))],[]⟩) ?_ ?_
  ·exact nx 2 rfl (mQ (oi h0) rfl (sr))
  refine nx 5 rfl (fD [19,20] h1 rfl (λ c5 h1=>?_) λ c5 h1=>?_)
  ·exact nx 6 rfl (eX _ (oi h1).symm (gE rfl rfl))
  exact nx 6 rfl (eX _ (oi h1).symm (gE rfl rfl))
 exact nx 10 rfl (mQ (oi h0) rfl (sr))
def gw (v_0:ad):Option Bool :=
 (
   if v_0.fKind=0 then
    if v_0.fNum=0 then
     if v_0.fStr=([]:Bytes) then
      ck (inR ((v_0.fItems.length:Int)+(v_0.fKeys.length:Int))) <|
      some (decide ((v_0.fItems.length:Int)+(v_0.fKeys.length:Int)=0))
     else
      some false
    else
     some false
   else
    some false
  : Option Bool).bind λ t5 =>
 some t5
set_option maxHeartbeats 4000000 in
theorem iE (v_0:ad)(r:Bool)(h0:gw v_0=some r):au Tryz.prog 147 [.agg (ad.cs v_0)] (·=.p (eB r)):=by
 unfold gw at h0
 refine aW good Tryz.func147 rfl rfl rfl λ w0=>mP (λ v:Bool=>.p (eB v)) ?_
 refine nx 6 rfl (bd h0 λ o7 h1 h0=>?_)
 refine kN o7 (λ v8=>⟨[(2,.p (eB v8))],[]⟩) ?_ ?_
 ·exact nx 2 rfl (mQ (oi h0) rfl (sr))
 refine nx 5 rfl (fD [5,6] h1 rfl (λ c1 h1=>?_) λ c1 h1=>?_)
 ·refine nx 5 rfl (fD [9,10,11] h1 rfl (λ c2 h1=>?_) λ c2 h1=>?_)
  ·refine nx 2 rfl (oS rfl rfl ?_)
   refine nx 2 rfl (fD [14,15,16] h1 rfl (λ c3 h1=>?_) λ c3 h1=>?_)
   ·refine nx 2 rfl (oLl (f:=cU) rfl rfl ?_)
    refine nx 2 rfl (oLl (f:=eS) rfl rfl ?_)
    exact oA h1 rfl rfl λ hk4 h1=>nx 4 rfl (eX _ (oi h1).symm (gE rfl rfl))
   exact nx 11 rfl (eX _ (oi h1).symm (gE rfl rfl))
  exact nx 16 rfl (eX _ (oi h1).symm (gE rfl rfl))
 exact nx 21 rfl (eX _ (oi h1).symm (gE rfl rfl))
def lh (k_0:Int):Option (Int×Int×Bool) :=
 (
   if k_0=1 then
    some true
   else
    some (decide (k_0=3))
  : Option Bool).bind λ t2 =>
 if t2=true then
  some (0,0,false)
 else
  (
    if k_0=4 then
     some true
    else
     some (decide (k_0=6))
   : Option Bool).bind λ t5 =>
  if t5=true then
   some (1,1,false)
  else
   (
     if k_0=5 then
      some true
     else
      some (decide (k_0=7))
    : Option Bool).bind λ t8 =>
   if t8=true then
    some (2,2,false)
   else
    if k_0=8 then
     some (3,3,false)
    else
     if k_0=2 then
      some (1,4096,false)
     else
      if k_0=12 then
       some (2,3,false)
      else
       if k_0=13 then
        some (3,4,false)
       else
        if k_0=11 then
         some (0,4096,true)
        else
         some (0,4096,false)
set_option maxHeartbeats 4000000 in
theorem qM (k_0:Int)(r:Int×Int×Bool)(h0:lh k_0=some r):au Tryz.prog 148 [eI k_0] (·=.tuple [.p (eI r.1),.p (eI r.2.1),.p (eB r.2.2)]):=by
 unfold lh at h0
 refine aW good Tryz.func148 rfl rfl rfl λ w0=>mP (λ v:Int×Int×Bool=>.tuple [.p (eI v.1),.p (eI v.2.1),.p (eB v.2.2)]) ?_
 refine nx 13 rfl (bd h0 λ o18 h1 h0=>?_)
 refine kN o18 (λ v19=>⟨[(5,.p (eI k_0)),(6,.p (eB v19))],[]⟩) ?_ ?_
 ·refine nx 1 rfl (fB [6] h0 rfl (λ c3 h0=>?_) λ c3 h0=>?_)
  ·exact nx 8 rfl (mQ (oi h0) rfl (ap ⟨sr,sr,sr,trivial⟩))
  refine nx 2 rfl (bd h0 λ o20 h1 h0=>?_)
  refine kN o20 (λ v21=>⟨[(5,.p (eI k_0)),(9,.p (eB v21))],[]⟩) ?_ ?_
  ·refine nx 1 rfl (fB [9] h0 rfl (λ c6 h0=>?_) λ c6 h0=>?_)
   ·exact nx 8 rfl (mQ (oi h0) rfl (ap ⟨sr,sr,sr,trivial⟩))
   refine nx 2 rfl (bd h0 λ o22 h1 h0=>?_)
   refine kN o22 (λ v23=>⟨[(5,.p (eI k_0)),(12,.p (eB v23))],[]⟩) ?_ ?_
   ·refine nx 1 rfl (fB [12] h0 rfl (λ c9 h0=>?_) λ c9 h0=>?_)
    ·exact nx 8 rfl (mQ (oi h0) rfl (ap ⟨sr,sr,sr,trivial⟩))
    refine nx 6 rfl (fD [15,16] h0 rfl (λ c10 h0=>?_) λ c10 h0=>?_)
    ·exact nx 8 rfl (mQ (oi h0) rfl (ap ⟨sr,sr,sr,trivial⟩))
    refine nx 6 rfl (fD [17,18] h0 rfl (λ c11 h0=>?_) λ c11 h0=>?_)
    ·exact nx 8 rfl (mQ (oi h0) rfl (ap ⟨sr,sr,sr,trivial⟩))
    refine nx 6 rfl (fD [19,20] h0 rfl (λ c12 h0=>?_) λ c12 h0=>?_)
    ·exact nx 8 rfl (mQ (oi h0) rfl (ap ⟨sr,sr,sr,trivial⟩))
    refine nx 6 rfl (fD [21,22] h0 rfl (λ c13 h0=>?_) λ c13 h0=>?_)
    ·exact nx 8 rfl (mQ (oi h0) rfl (ap ⟨sr,sr,sr,trivial⟩))
    refine nx 6 rfl (fD [23,24] h0 rfl (λ c14 h0=>?_) λ c14 h0=>?_)
    ·exact nx 8 rfl (mQ (oi h0) rfl (ap ⟨sr,sr,sr,trivial⟩))
    exact nx 9 rfl (mQ (oi h0) rfl (ap ⟨sr,sr,sr,trivial⟩))
   refine nx 5 rfl (fD [12,13] h1 rfl (λ c7 h1=>?_) λ c7 h1=>?_)
   ·exact nx 2 rfl (eX _ (oi h1).symm (gE rfl rfl))
   exact nx 5 rfl (eX _ (oi h1).symm (gE rfl rfl))
  refine nx 5 rfl (fD [9,10] h1 rfl (λ c4 h1=>?_) λ c4 h1=>?_)
  ·exact nx 2 rfl (eX _ (oi h1).symm (gE rfl rfl))
  exact nx 5 rfl (eX _ (oi h1).symm (gE rfl rfl))
 refine nx 5 rfl (fD [6,7] h1 rfl (λ c1 h1=>?_) λ c1 h1=>?_)
 ·exact nx 2 rfl (eX _ (oi h1).symm (gE rfl rfl))
 exact nx 5 rfl (eX _ (oi h1).symm (gE rfl rfl))
def fQ (e_0:ac):Option Bool :=
 (
   if e_0.fKind < 1 then
    some true
   else
    if 13 < e_0.fKind then
     some true
    else
     (hZ e_0).bind λ r3 =>
     some (!r3)
  : Option Bool).bind λ t5 =>
 if t5=true then
  some false
 else
  (
    (gr e_0.fKind).bind λ r7 =>
    if (!r7)=true then
     if e_0.fName=([]:Bytes) then
      (gX e_0.fKind).bind λ r11 =>
      if (!r11)=true then
       if e_0.fKey=([]:Bytes) then
        if e_0.fKind=1 then
         some false
        else
         (gw e_0.fValue).bind λ r16 =>
         some (!r16)
       else
        some true
      else
       if e_0.fKind=1 then
        some false
       else
        (gw e_0.fValue).bind λ r19 =>
        some (!r19)
     else
      some true
    else
     (gX e_0.fKind).bind λ r21 =>
     if (!r21)=true then
      if e_0.fKey=([]:Bytes) then
       if e_0.fKind=1 then
        some false
       else
        (gw e_0.fValue).bind λ r26 =>
        some (!r26)
      else
       some true
     else
      if e_0.fKind=1 then
       some false
      else
       (gw e_0.fValue).bind λ r29 =>
       some (!r29)
   : Option Bool).bind λ t31 =>
  if t31=true then
   some false
  else
   (lh e_0.fKind).bind λ r33 =>
   (
     if (e_0.fKids.length:Int) < r33.1 then
      some true
     else
      if r33.2.1 < (e_0.fKids.length:Int) then
       if r33.2.1 < 4096 then
        some true
       else
        if r33.2.2=true then
         ck ((2:Int)≠0) <|
         some (decide ((e_0.fKids.length:Int).tmod 2=1))
        else
         some false
      else
       if r33.2.2=true then
        ck ((2:Int)≠0) <|
        some (decide ((e_0.fKids.length:Int).tmod 2=1))
       else
        some false
    : Option Bool).bind λ t42 =>
   if t42=true then
    some false
   else
    if e_0.fKind=1 then
     (
       if 0≤e_0.fValue.fKind then
        if e_0.fValue.fKind≤3 then
         if e_0.fValue.fKind=2 then
          some (decide (0≤e_0.fValue.fNum))
         else
          some true
        else
         some false
       else
        some false
      : Option Bool).bind λ t48 =>
     some t48
    else
     some true
set_option maxHeartbeats 4000000 in
theorem pm (e_0:ac)(r:Bool)(h0:fQ e_0=some r):au Tryz.prog 110 [.agg (ac.cs e_0)] (·=.p (eB r)):=by
 unfold fQ at h0
 refine aW good Tryz.func110 rfl rfl rfl λ w0=>mP (λ v:Bool=>.p (eB v)) ?_
 refine nx 7 rfl (bd h0 λ o53 h1 h0=>?_)
 refine kN o53 (λ v54=>⟨[(1,.ptr 1 0),(19,.p (eB v54))],[(1,(ac.cs e_0).map .p)]⟩) ?_ ?_
 ·refine nx 1 rfl (fB [19] h0 rfl (λ c6 h0=>?_) λ c6 h0=>?_)
  ·exact nx 6 rfl (mQ (oi h0) rfl (sr))
  refine nx 4 rfl (bd h0 λ o55 h1 h0=>?_)
  refine kN o55 (λ v56=>⟨[(1,.ptr 1 0),(50,.p (eB v56))],[(1,(ac.cs e_0).map .p)]⟩) ?_ ?_
  ·refine nx 1 rfl (fB [50] h0 rfl (λ c32 h0=>?_) λ c32 h0=>?_)
   ·exact nx 6 rfl (mQ (oi h0) rfl (sr))
   refine nx 6 rfl (bd h0 λ r33 e34 h0=>?_)
   refine oK (qM e_0.fKind _ e34) rfl ⟨sr,trivial⟩ Tryz.call148 rfl (nx 10 rfl ?_)
   refine bd h0 λ o57 h1 h0=>kN o57 (λ v58=>⟨[(1,.ptr 1 0),(83,.p (eB v58))],[(1,(ac.cs e_0).map .p)]⟩) ?_ ?_
   ·refine nx 1 rfl (fB [83] h0 rfl (λ c43 h0=>?_) λ c43 h0=>?_)
    ·exact nx 6 rfl (mQ (oi h0) rfl (sr))
    refine nx 9 rfl (fN [86] h0 rfl (λ c44 h0=>?_) λ c44 h0=>?_)
    ·refine nx 10 rfl (bd h0 λ o59 h1 h0=>?_)
     refine kN o59 (λ v60=>⟨[(2,.p (eB v60))],[]⟩) ?_ ?_
     ·exact nx 2 rfl (mQ (oi h0) rfl (sr))
     refine nx 5 rfl (fD [91,92] h1 rfl (λ c45 h1=>?_) λ c45 h1=>?_)
     ·refine nx 5 rfl (fD [95,96,97] h1 rfl (λ c46 h1=>?_) λ c46 h1=>?_)
      ·refine nx 4 rfl (fN [100,101] h1 rfl (λ c47 h1=>?_) λ c47 h1=>?_)
       ·exact nx 7 rfl (eX _ (oi h1).symm (gE rfl rfl))
       exact nx 7 rfl (eX _ (oi h1).symm (gE rfl rfl))
      exact nx 11 rfl (eX _ (oi h1).symm (gE rfl rfl))
     exact nx 16 rfl (eX _ (oi h1).symm (gE rfl rfl))
    exact nx 6 rfl (mQ (oi h0) rfl (sr))
   refine nx 3 rfl (oLl (f:=ae) rfl rfl ?_)
   refine nx 3 rfl (fD [62,63] h1 rfl (λ c35 h1=>?_) λ c35 h1=>?_)
   ·exact nx 21 rfl (eX _ (oi h1).symm (gE rfl rfl))
   refine nx 2 rfl (oLl (f:=ae) rfl rfl ?_)
   refine nx 3 rfl (fD [68,69] h1 rfl (λ c36 h1=>?_) λ c36 h1=>?_)
   ·refine nx 5 rfl (fD [71,72,73,74] h1 rfl (λ c37 h1=>?_) λ c37 h1=>?_)
    ·exact nx 10 rfl (eX _ (oi h1).symm (gE rfl rfl))
    refine nx 2 rfl (fB [5,57,75,76] h1 rfl (λ c38 h1=>?_) λ c38 h1=>?_)
    ·refine nx 2 rfl (oLl (f:=ae) rfl rfl ?_)
     refine cc' h1 λ hk39 h1=>mO rfl (uX rfl rfl rfl rfl rfl rfl hk39 ?_)
     exact nx 4 rfl (eX _ (oi h1).symm (gE rfl rfl))
    exact nx 8 rfl (eX _ (oi h1).symm (gE rfl rfl))
   refine nx 7 rfl (fB [5,57,75,76] h1 rfl (λ c40 h1=>?_) λ c40 h1=>?_)
   ·refine nx 2 rfl (oLl (f:=ae) rfl rfl ?_)
    refine cc' h1 λ hk41 h1=>mO rfl (uX rfl rfl rfl rfl rfl rfl hk41 ?_)
    exact nx 4 rfl (eX _ (oi h1).symm (gE rfl rfl))
   exact nx 8 rfl (eX _ (oi h1).symm (gE rfl rfl))
  refine nx 3 rfl (bd h1 λ r7 e8 h1=>?_)
  refine oK (lK e_0.fKind _ e8) rfl ⟨sr,trivial⟩ Tryz.call112 rfl (nx 2 rfl ?_)
  refine fB [23,24] h1 rfl (λ c9 h1=>?_) λ c9 h1=>?_
  ·refine nx 2 rfl (oS rfl rfl ?_)
   refine nx 2 rfl (fN [27,28,29] h1 rfl (λ c10 h1=>?_) λ c10 h1=>?_)
   ·refine nx 2 rfl (bd h1 λ r11 e12 h1=>?_)
    refine oK (kl e_0.fKind _ e12) rfl ⟨sr,trivial⟩ Tryz.call146 rfl (nx 2 rfl ?_)
    refine fB [33,34] h1 rfl (λ c13 h1=>?_) λ c13 h1=>?_
    ·refine nx 2 rfl (oS rfl rfl ?_)
     refine nx 3 rfl (fN [37,38,39,40] h1 rfl (λ c14 h1=>?_) λ c14 h1=>?_)
     ·refine nx 4 rfl (fN [43,44] h1 rfl (λ c15 h1=>?_) λ c15 h1=>?_)
      ·exact nx 7 rfl (eX _ (oi h1).symm (gE rfl rfl))
      refine nx 2 rfl (bd h1 λ r16 e17 h1=>?_)
      refine oK (iE e_0.fValue _ e17) rfl ⟨sr,trivial⟩ Tryz.call147 rfl (nx 4 rfl ?_)
      exact eX _ (oi h1).symm (gE rfl rfl)
     exact nx 11 rfl (eX _ (oi h1).symm (gE rfl rfl))
    refine nx 10 rfl (fN [43,44] h1 rfl (λ c18 h1=>?_) λ c18 h1=>?_)
    ·exact nx 7 rfl (eX _ (oi h1).symm (gE rfl rfl))
    refine nx 2 rfl (bd h1 λ r19 e20 h1=>?_)
    refine oK (iE e_0.fValue _ e20) rfl ⟨sr,trivial⟩ Tryz.call147 rfl (nx 4 rfl ?_)
    exact eX _ (oi h1).symm (gE rfl rfl)
   exact nx 22 rfl (eX _ (oi h1).symm (gE rfl rfl))
  refine nx 7 rfl (bd h1 λ r21 e22 h1=>?_)
  refine oK (kl e_0.fKind _ e22) rfl ⟨sr,trivial⟩ Tryz.call146 rfl (nx 2 rfl ?_)
  refine fB [33,34] h1 rfl (λ c23 h1=>?_) λ c23 h1=>?_
  ·refine nx 2 rfl (oS rfl rfl ?_)
   refine nx 3 rfl (fN [37,38,39,40] h1 rfl (λ c24 h1=>?_) λ c24 h1=>?_)
   ·refine nx 4 rfl (fN [43,44] h1 rfl (λ c25 h1=>?_) λ c25 h1=>?_)
    ·exact nx 7 rfl (eX _ (oi h1).symm (gE rfl rfl))
    refine nx 2 rfl (bd h1 λ r26 e27 h1=>?_)
    refine oK (iE e_0.fValue _ e27) rfl ⟨sr,trivial⟩ Tryz.call147 rfl (nx 4 rfl ?_)
    exact eX _ (oi h1).symm (gE rfl rfl)
   exact nx 11 rfl (eX _ (oi h1).symm (gE rfl rfl))
  refine nx 10 rfl (fN [43,44] h1 rfl (λ c28 h1=>?_) λ c28 h1=>?_)
  ·exact nx 7 rfl (eX _ (oi h1).symm (gE rfl rfl))
  refine nx 2 rfl (bd h1 λ r29 e30 h1=>?_)
  refine oK (iE e_0.fValue _ e30) rfl ⟨sr,trivial⟩ Tryz.call147 rfl (nx 4 rfl ?_)
  exact eX _ (oi h1).symm (gE rfl rfl)
 refine nx 5 rfl (fD [9,10] h1 rfl (λ c1 h1=>?_) λ c1 h1=>?_)
 ·exact nx 10 rfl (eX _ (oi h1).symm (gE rfl rfl))
 refine nx 5 rfl (fD [13,14,15] h1 rfl (λ c2 h1=>?_) λ c2 h1=>?_)
 ·exact nx 5 rfl (eX _ (oi h1).symm (gE rfl rfl))
 refine nx 1 rfl (bd h1 λ r3 e4 h1=>?_)
 refine oK (ni e_0 _ e4) rfl ⟨sr,trivial⟩ Tryz.call145 rfl (nx 3 rfl ?_)
 exact eX _ (oi h1).symm (gE rfl rfl)
def br (s_0:Bytes):Nat→Int→Option (Unit⊕Bool)
 | 0,_=>none
 | m+1,t19 =>
 if t19 < (s_0.length:Int) then
  ck ((0:Int)≤t19∧t19 < (s_0.length:Int)) <|
  (
    ck ((0:Int)≤t19∧t19 < (s_0.length:Int)) <|
    if byt s_0 t19=95 then
     some false
    else
     if iOr .u8 (byt s_0 t19) 32 < 97 then
      if t19=0 then
       some true
      else
       ck ((0:Int)≤t19∧t19 < (s_0.length:Int)) <|
       if byt s_0 t19 < 48 then
        some true
       else
        ck ((0:Int)≤t19∧t19 < (s_0.length:Int)) <|
        some (decide (57 < byt s_0 t19))
     else
      if 122 < iOr .u8 (byt s_0 t19) 32 then
       if t19=0 then
        some true
       else
        ck ((0:Int)≤t19∧t19 < (s_0.length:Int)) <|
        if byt s_0 t19 < 48 then
         some true
        else
         ck ((0:Int)≤t19∧t19 < (s_0.length:Int)) <|
         some (decide (57 < byt s_0 t19))
      else
       some false
   : Option Bool).bind λ t34 =>
  if t34=true then
   some (.inr false)
  else
   ck (inR (t19+1)) <|
   br s_0 m (t19+1)
 else
  some (.inl ())
def cK (n:Nat)(s_0:Bytes):Option Bool :=
 jn (br s_0 n 0) λ q40 =>
 (
   if s_0=([]:Bytes) then
    some false
   else
    some (decide ((s_0.length:Int)≤64))
  : Option Bool).bind λ t39 =>
 some t39
set_option maxHeartbeats 4000000 in
theorem jd (n:Nat)(s_0:Bytes)(r:Bool)(h0:cK n s_0=some r):au Tryz.prog 113 [eS s_0] (·=.p (eB r)):=by
 unfold cK at h0
 refine aW good Tryz.func113 rfl rfl rfl λ w0=>mP (λ v:Bool=>.p (eB v)) ?_
 refine nx 8 rfl (oLs rfl ?_)
 refine nx 3 rfl ?_
 obtain ⟨o43,h1,hL0,hR0⟩:=cz h0
 refine kEx 0 (λ v44:Unit=>o43=.inl v44) (λ v44=>⟨[(0,.p (eS s_0))],[]⟩) (λ v44 hv=>?_) ?_
 ·have h0:=hL0 _ hv
  refine nx 2 rfl (bd h0 λ o45 h1 h0=>?_)
  refine kN o45 (λ v46=>⟨[(2,.p (eB v46))],[]⟩) ?_ ?_
  ·exact nx 2 rfl (mQ (oi h0) rfl (sr))
  refine nx 2 rfl (oS rfl rfl ?_)
  refine nx 1 rfl (fN [44,45] h1 rfl (λ c38 h1=>?_) λ c38 h1=>?_)
  ·exact nx 6 rfl (eX _ (oi h1).symm (gE rfl rfl))
  refine nx 1 rfl (oLs rfl ?_)
  exact nx 4 rfl (eX _ (oi h1).symm (gE rfl rfl))
 refine lG (λ (q47:Int)=>⟨[(0,.p (eS s_0)),(6,.p (eI (s_0.length:Int))),(7,.p (eI q47))],[]⟩) (λ m (q47:Int)=>br s_0 m q47) (λ _=>rfl) 0 h1 (gE rfl rfl) ?_
 rintro m t19 h1
 replace h1:br s_0 (m+1) t19=some o43:=h1
 rw [br] at h1
 refine nx 5 rfl (fD [8] h1 rfl (λ c20 h1=>?_) λ c20 h1=>?_)
 ·refine nx 13 rfl (oI h1 rfl λ hk21 h1=>?_)
  refine nx 4 rfl (bd h1 λ o48 h2 h1=>?_)
  refine kN o48 (λ v49=>⟨[(0,.p (eS s_0)),(6,.p (eI (s_0.length:Int))),(7,.p (eI t19)),(41,.p (eB v49))],[]⟩) ?_ ?_
  ·refine nx 1 rfl (fB [41] h1 rfl (λ c35 h1=>?_) λ c35 h1=>?_)
   ·exact nx 6 rfl (mQ (hR0 _ (oi h1).symm) rfl (sr))
   refine nx 3 rfl (oA h1 rfl rfl λ hk36 h1=>?_)
   exact nx 2 rfl (eX (t19+1) h1 (gE rfl rfl))
  refine nx 3 rfl (oI h2 rfl λ hk22 h2=>?_)
  refine nx 2 rfl (fN [17,18] h2 rfl (λ c23 h2=>?_) λ c23 h2=>?_)
  ·exact nx 24 rfl (eX _ (oi h2).symm (gE rfl rfl))
  refine nx 3 rfl (fD [20,21] h2 rfl (λ c24 h2=>?_) λ c24 h2=>?_)
  ·refine nx 8 rfl (fD [28,29] h2 rfl (λ c25 h2=>?_) λ c25 h2=>?_)
   ·exact nx 13 rfl (eX _ (oi h2).symm (gE rfl rfl))
   refine nx 2 rfl (oI h2 rfl λ hk26 h2=>?_)
   refine nx 3 rfl (fD [33,34,35] h2 rfl (λ c27 h2=>?_) λ c27 h2=>?_)
   ·exact nx 7 rfl (eX _ (oi h2).symm (gE rfl rfl))
   refine nx 2 rfl (oI h2 rfl λ hk28 h2=>?_)
   exact nx 4 rfl (eX _ (oi h2).symm (gE rfl rfl))
  refine nx 5 rfl (fD [23,24,25,26] h2 rfl (λ c29 h2=>?_) λ c29 h2=>?_)
  ·refine nx 3 rfl (fD [28,29] h2 rfl (λ c30 h2=>?_) λ c30 h2=>?_)
   ·exact nx 13 rfl (eX _ (oi h2).symm (gE rfl rfl))
   refine nx 2 rfl (oI h2 rfl λ hk31 h2=>?_)
   refine nx 3 rfl (fD [33,34,35] h2 rfl (λ c32 h2=>?_) λ c32 h2=>?_)
   ·exact nx 7 rfl (eX _ (oi h2).symm (gE rfl rfl))
   refine nx 2 rfl (oI h2 rfl λ hk33 h2=>?_)
   exact nx 4 rfl (eX _ (oi h2).symm (gE rfl rfl))
  exact nx 16 rfl (eX _ (oi h2).symm (gE rfl rfl))
 exact nx 2 rfl (eXi _ (oi h1).symm (gE rfl rfl))
def dZ (s_0:Bytes):Option Bool :=
 (
   if s_0=([110,117,108,108]:Bytes) then
    some true
   else
    if s_0=([116,114,117,101]:Bytes) then
     some true
    else
     if s_0=([102,97,108,115,101]:Bytes) then
      some true
     else
      if s_0=([102,111,114]:Bytes) then
       some true
      else
       if s_0=([105,110]:Bytes) then
        some true
       else
        some (decide (s_0=([105,102]:Bytes)))
  : Option Bool).bind λ t6 =>
 if t6=true then
  some true
 else
  some false
set_option maxHeartbeats 4000000 in
theorem f0 (s_0:Bytes)(r:Bool)(h0:dZ s_0=some r):au Tryz.prog 114 [eS s_0] (·=.p (eB r)):=by
 unfold dZ at h0
 refine aW good Tryz.func114 rfl rfl rfl λ w0=>mP (λ v:Bool=>.p (eB v)) ?_
 refine nx 11 rfl (bd h0 λ o9 h1 h0=>?_)
 refine kN o9 (λ v10=>⟨[(4,.p (eB v10))],[]⟩) ?_ ?_
 ·refine nx 1 rfl (fB [4] h0 rfl (λ c7 h0=>?_) λ c7 h0=>?_)
  ·exact nx 6 rfl (mQ (oi h0) rfl (sr))
  exact nx 7 rfl (mQ (oi h0) rfl (sr))
 refine nx 2 rfl (oS rfl rfl ?_)
 refine nx 2 rfl (fD [4,5] h1 rfl (λ c1 h1=>?_) λ c1 h1=>?_)
 ·exact nx 2 rfl (eX _ (oi h1).symm (gE rfl rfl))
 refine nx 3 rfl (oS rfl rfl ?_)
 refine nx 2 rfl (fD [4,6] h1 rfl (λ c2 h1=>?_) λ c2 h1=>?_)
 ·exact nx 2 rfl (eX _ (oi h1).symm (gE rfl rfl))
 refine nx 3 rfl (oS rfl rfl ?_)
 refine nx 2 rfl (fD [4,7] h1 rfl (λ c3 h1=>?_) λ c3 h1=>?_)
 ·exact nx 2 rfl (eX _ (oi h1).symm (gE rfl rfl))
 refine nx 3 rfl (oS rfl rfl ?_)
 refine nx 2 rfl (fD [4,8] h1 rfl (λ c4 h1=>?_) λ c4 h1=>?_)
 ·exact nx 2 rfl (eX _ (oi h1).symm (gE rfl rfl))
 refine nx 3 rfl (oS rfl rfl ?_)
 refine nx 2 rfl (fD [4,9] h1 rfl (λ c5 h1=>?_) λ c5 h1=>?_)
 ·exact nx 2 rfl (eX _ (oi h1).symm (gE rfl rfl))
 refine nx 2 rfl (oS rfl rfl ?_)
 exact nx 2 rfl (eX _ (oi h1).symm (gE rfl rfl))
def gA (n:Nat)(e_0:ac):Option Int :=
 (fQ e_0).bind λ r1 =>
 if (!r1)=true then
  some 1
 else
  if e_0.fKind=1 then
   (eW n e_0.fValue).bind λ r5 =>
   some r5
  else
   (
     (gr e_0.fKind).bind λ r7 =>
     if r7=true then
      (cK n e_0.fName).bind λ r10 =>
      if (!r10)=true then
       some true
      else
       if e_0.fKind=4 then
        some false
       else
        (dZ e_0.fName).bind λ r14 =>
        some r14
     else
      some false
    : Option Bool).bind λ t16 =>
   if t16=true then
    some 7
   else
    (
      if e_0.fKey=([]:Bytes) then
       some false
      else
       (cK n e_0.fKey).bind λ r19 =>
       if (!r19)=true then
        some true
       else
        (dZ e_0.fKey).bind λ r22 =>
        some r22
     : Option Bool).bind λ t24 =>
    if t24=true then
     some 7
    else
     some 0
set_option maxHeartbeats 4000000 in
theorem qX (n:Nat)(e_0:ac)(r:Int)(h0:gA n e_0=some r):au Tryz.prog 68 [.agg (ac.cs e_0)] (·=.p (eI r)):=by
 unfold gA at h0
 refine aW good Tryz.func68 rfl rfl rfl λ w0=>mP (λ v:Int=>.p (eI v)) ?_
 refine nx 9 rfl (bd h0 λ r1 e2 h0=>?_)
 refine oK (pm e_0 _ e2) rfl ⟨sr,trivial⟩ Tryz.call110 rfl (nx 2 rfl ?_)
 refine fB [5] h0 rfl (λ c3 h0=>?_) λ c3 h0=>?_
 ·exact nx 6 rfl (mQ (oi h0) rfl (sr))
 refine nx 9 rfl (fD [8] h0 rfl (λ c4 h0=>?_) λ c4 h0=>?_)
 ·refine nx 5 rfl (bd h0 λ r5 e6 h0=>?_)
  refine oK (oL _ e_0.fValue _ e6) rfl ⟨sr,trivial⟩ Tryz.call111 rfl (nx 3 rfl ?_)
  exact mQ (oi h0) rfl (sr)
 refine nx 4 rfl (bd h0 λ o28 h1 h0=>?_)
 refine kN o28 (λ v29=>⟨[(1,.ptr 1 0),(30,.p (eB v29))],[(1,(ac.cs e_0).map .p)]⟩) ?_ ?_
 ·refine nx 1 rfl (fB [30] h0 rfl (λ c17 h0=>?_) λ c17 h0=>?_)
  ·exact nx 6 rfl (mQ (oi h0) rfl (sr))
  refine nx 4 rfl (bd h0 λ o30 h1 h0=>?_)
  refine kN o30 (λ v31=>⟨[(44,.p (eB v31))],[]⟩) ?_ ?_
  ·refine nx 1 rfl (fB [44] h0 rfl (λ c25 h0=>?_) λ c25 h0=>?_)
   ·exact nx 6 rfl (mQ (oi h0) rfl (sr))
   exact nx 7 rfl (mQ (oi h0) rfl (sr))
  refine nx 3 rfl (oS rfl rfl ?_)
  refine nx 1 rfl (fN [33,34] h1 rfl (λ c18 h1=>?_) λ c18 h1=>?_)
  ·exact nx 11 rfl (eX _ (oi h1).symm (gE rfl rfl))
  refine nx 2 rfl (bd h1 λ r19 e20 h1=>?_)
  refine oK (jd _ e_0.fKey _ e20) rfl ⟨sr,trivial⟩ Tryz.call113 rfl (nx 2 rfl ?_)
  refine fB [38,39] h1 rfl (λ c21 h1=>?_) λ c21 h1=>?_
  ·exact nx 6 rfl (eX _ (oi h1).symm (gE rfl rfl))
  refine nx 2 rfl (bd h1 λ r22 e23 h1=>?_)
  refine oK (f0 e_0.fKey _ e23) rfl ⟨sr,trivial⟩ Tryz.call114 rfl (nx 3 rfl ?_)
  exact eX _ (oi h1).symm (gE rfl rfl)
 refine nx 3 rfl (bd h1 λ r7 e8 h1=>?_)
 refine oK (lK e_0.fKind _ e8) rfl ⟨sr,trivial⟩ Tryz.call112 rfl (nx 1 rfl ?_)
 refine fB [14,15] h1 rfl (λ c9 h1=>?_) λ c9 h1=>?_
 ·refine nx 2 rfl (bd h1 λ r10 e11 h1=>?_)
  refine oK (jd _ e_0.fName _ e11) rfl ⟨sr,trivial⟩ Tryz.call113 rfl (nx 2 rfl ?_)
  refine fB [19,20] h1 rfl (λ c12 h1=>?_) λ c12 h1=>?_
  ·exact nx 11 rfl (eX _ (oi h1).symm (gE rfl rfl))
  refine nx 4 rfl (fN [23,24] h1 rfl (λ c13 h1=>?_) λ c13 h1=>?_)
  ·exact nx 7 rfl (eX _ (oi h1).symm (gE rfl rfl))
  refine nx 2 rfl (bd h1 λ r14 e15 h1=>?_)
  refine oK (f0 e_0.fName _ e15) rfl ⟨sr,trivial⟩ Tryz.call114 rfl (nx 4 rfl ?_)
  exact eX _ (oi h1).symm (gE rfl rfl)
 exact nx 16 rfl (eX _ (oi h1).symm (gE rfl rfl))
def aO (r_expr_checker_visit:aI→ac→Int→Option (Int×aI))(e_1:ac)(level_2:Int):Nat→Int→Int→Option (Int⊕(Int×aI))
 | 0,_,_=>none
 | m+1,t16,f17 =>
 if t16 < (e_1.fKids.length:Int) then
  ck ((0:Int)≤t16∧t16 < (e_1.fKids.length:Int)) <|
  ck (inR (level_2+1)) <|
  (r_expr_checker_visit (aI.mk f17) (lat e_1.fKids t16) (level_2+1)).bind λ r21 =>
  if r21.1=0 then
   ck (inR (t16+1)) <|
   aO r_expr_checker_visit e_1 level_2 m (t16+1) r21.2.fcount
  else
   some (.inr (r21.1,r21.2))
 else
  some (.inl f17)
def aK:Nat→aI→ac→Int→Option (Int×aI)
 | 0,_,_,_=>none
 | n+1,c_0,e_1,level_2 =>
 if 32 < level_2 then
  some (4,c_0)
 else
  if 4096≤c_0.fcount then
   some (14,c_0)
  else
   ck (inR (c_0.fcount+1)) <|
   (gA n e_1).bind λ r4 =>
   if r4=0 then
    jn (aO (aK n) e_1 level_2 n 0 (c_0.fcount+1)) λ f27 =>
    some (0,(aI.mk f27))
   else
    some (r4,(aI.mk (c_0.fcount+1)))
set_option maxHeartbeats 4000000 in
theorem kt (n:Nat):∀ (c_0:aI) (e_1:ac) (level_2:Int) (r:Int×aI),aK n c_0 e_1 level_2=some r→aF Tryz.prog 31 [.ptr 1000000 0,.p (.agg (ac.cs e_1)),.p (eI level_2)] [(1000000,[.p (eI c_0.fcount)])] (λ x y=>x=.p (eI r.1)∧y=[(1000000,[.p (eI r.2.fcount)])]):=by
 induction n with
 | zero=>intro c_0 e_1 level_2 r h0; cases h0
 | succ n ih =>
 have ih_expr_checker_visit_ok:=ih
 intro c_0 e_1 level_2 r h0
 rw [aK] at h0
 refine bF good [] [1000000] Tryz.func31 rfl rfl rfl rfl rfl λ w0 F=>mPo (λ v:Int×aI=>.p (eI v.1)) (λ v=>[(1000000,[.p (eI v.2.fcount)])]) ?_
 refine nx 11 rfl (fD [12] h0 rfl (λ c1 h0=>?_) λ c1 h0=>?_)
 ·exact nx 6 rfl (fC h0 rfl)
 refine nx 11 rfl (fD [17] h0 rfl (λ c2 h0=>?_) λ c2 h0=>?_)
 ·exact nx 6 rfl (fC h0 rfl)
 refine nx 8 rfl (oA h0 rfl rfl λ hk3 h0=>?_)
 refine nx 8 rfl (bd h0 λ r4 e5 h0=>?_)
 refine oK (qX _ e_1 _ e5) rfl ⟨sr,trivial⟩ Tryz.call68 rfl (nx 7 rfl ?_)
 refine fN [28] h0 rfl (λ c6 h0=>?_) λ c6 h0=>?_
 ·refine nx 7 rfl (oLl (f:=ae) rfl rfl ?_)
  refine nx 3 rfl ?_
  obtain ⟨o29,h1,hL0,hR0⟩:=cz h0
  refine kEx 0 (λ v30:Int=>o29=.inl v30) (λ v30=>⟨[],[(1000000,[.p (eI v30)])]⟩) (λ v30 hv=>?_) ?_
  ·have h0:=hL0 _ hv
   exact nx 6 rfl (fC h0 rfl)
  refine lG (λ (q31:Int×Int)=>⟨[(0,.ptr 1000000 0),(2,.p (eI level_2)),(31,.p (eL ae e_1.fKids)),(32,.p (eI (e_1.fKids.length:Int))),(33,.p (eI q31.1))],[(1000000,[.p (eI q31.2)])]⟩) (λ m (q31:Int×Int)=>aO (aK n) e_1 level_2 m q31.1 q31.2) (λ _=>rfl) (0,c_0.fcount+1) h1 (gE rfl rfl) ?_
  rintro m ⟨t16,f17⟩ h1
  replace h1:aO (aK n) e_1 level_2 (m+1) t16 f17=some o29:=h1
  rw [aO] at h1
  refine nx 5 rfl (fD [34] h1 rfl (λ c18 h1=>?_) λ c18 h1=>?_)
  ·refine nx 6 rfl (oE h1 ac.cells_eq rfl rfl (λ _=>rfl) λ hk19 h1=>?_)
   refine nx 9 rfl (oA h1 rfl rfl λ hk20 h1=>?_)
   refine bd h1 λ r21 e22 h1=>mO rfl (cVq [1000000] [] 102000 102000 (ih_expr_checker_visit_ok (aI.mk f17) (lat e_1.fKids t16) (level_2+1) _ e22) Tryz.call31 rfl ?_)
   refine nx 7 rfl (fN [43] h1 rfl (λ c23 h1=>?_) λ c23 h1=>?_)
   ·refine nx 3 rfl (oA h1 rfl rfl λ hk24 h1=>?_)
    exact nx 2 rfl (eX (t16+1,r21.2.fcount) h1 (gE rfl rfl))
   exact nx 7 rfl (mQo (hR0 _ (oi h1).symm) (al _) rfl rfl rfl rfl (sr) ⟨⟨_,rfl,⟨sr,trivial⟩⟩,trivial⟩)
  exact nx 2 rfl (eXi _ (oi h1).symm (gE rfl rfl))
 exact nx 7 rfl (fC h0 rfl)
def eZ (n:Nat)(e_0:ac):Option Int :=
 (aK n (aI.mk 0) e_0 1).bind λ r1 =>
 some r1.1
set_option maxHeartbeats 4000000 in
theorem hH (n:Nat)(e_0:ac)(r:Int)(h0:eZ n e_0=some r):au Tryz.prog 12 [.agg (ac.cs e_0)] (·=.p (eI r)):=by
 unfold eZ at h0
 refine aW good Tryz.func12 rfl rfl rfl λ w0=>mP (λ v:Int=>.p (eI v)) ?_
 refine nx 15 rfl (bd h0 λ r1 e2 h0=>?_)
 refine mO rfl (cVq [5] [] 101000 101000 (kt _ (aI.mk 0) e_0 1 _ e2) Tryz.call31 rfl ?_)
 exact nx 3 rfl (mQ (oi h0) rfl (sr))
def cg (p_0:ab):Nat→Int→Option Int
 | 0,_=>none
 | m+1,f7 =>
 (
   if 0 < p_0.fnest then
    ck ((0:Int)≤f7∧f7 < (p_0.fl.length:Int)) <|
    some (decide ((lat p_0.fl f7).fKind=5))
   else
    some false
  : Option Bool).bind λ t10 =>
 if t10=true then
  ck (inR (f7+1)) <|
  cg p_0 m (f7+1)
 else
  some f7
def aP (n:Nat)(p_0:ab):Option (ai×ab) :=
 (cg p_0 n p_0.fat).bind λ f14 =>
 ck ((0:Int)≤f14∧f14 < (p_0.fl.length:Int)) <|
 ck (inR (((lat p_0.fl f14).fAt)+p_0.fbase)) <|
 some ((ai.mk ((lat p_0.fl f14).fKind) ((lat p_0.fl f14).fText) (((lat p_0.fl f14).fAt)+p_0.fbase)),(ab.mk p_0.fl f14 p_0.fnest p_0.fbase p_0.fbad))
set_option maxHeartbeats 4000000 in
theorem a6 (n:Nat)(p_0:ab)(r:ai×ab)(h0:aP n p_0=some r):aF Tryz.prog 70 [.ptr 1000000 0] [(1000000,((ab.cs p_0).map .p))] (λ x y=>x=.p (.agg (ai.cs r.1))∧y=[(1000000,((ab.cs r.2).map .p))]):=by
 unfold aP at h0
 refine bF good [] [1000000] Tryz.func70 rfl rfl rfl rfl rfl λ w0 F=>mPo (λ v:ai×ab=>.p (.agg (ai.cs v.1))) (λ v=>[(1000000,((ab.cs v.2).map .p))]) ?_
 refine nx 6 rfl (bd h0 λ o19 h1 h0=>?_)
 refine kE 0 o19 (λ v20=>⟨[(0,.ptr 1000000 0),(2,.ptr 2 0)],[(2,gH),(1000000,[.p (eL aR p_0.fl),.p (eI v20),.p (eI p_0.fnest),.p (eI p_0.fbase),.p (eI p_0.fbad.fKind),.p (eI p_0.fbad.fAt),.p (eS p_0.fbad.fName)])]⟩) ?_ ?_
 ·refine nx 2 rfl (cc' h0 λ hk15 h0=>?_)
  refine mG (gE (t:=⟨[(0,.ptr 1000000 0),(2,.ptr 2 0)],[(2,gH),(1000000,[.p (eL aR p_0.fl),.p (eI o19),.p (eI p_0.fnest),.p (eI p_0.fbase),.p (eI p_0.fbad.fKind),.p (eI p_0.fbad.fAt),.p (eS p_0.fbad.fName)])]⟩) rfl rfl) (mSq ⟨2,[10,11],(by3 (.some λ i=>Nat.beq i 3) .none .none),(λ _=>[(0,.ptr 1000000 0),(2,.ptr 2 0)]),(ob3 ([(2,gH),(1000000,[.p (eL aR p_0.fl),.p (eI o19),.p (eI p_0.fnest),.p (eI p_0.fbase),.p (eI p_0.fbad.fKind),.p (eI p_0.fbad.fAt),.p (eS p_0.fbad.fName)])]) (3,gH) (3,[.p (eI ((lat p_0.fl o19).fKind)),.p (eS ((lat p_0.fl o19).fText)),.p (eI ((lat p_0.fl o19).fAt))]))⟩ rfl ?_)
  refine dPc (.ptr 1000000 0) rfl (dPc (.ptr 1000000 0) rfl ?_)
  refine dPc (.ptr 1000000 0) rfl (dPc (.p (eL aR p_0.fl)) rfl ?_)
  refine dPc (.ptr 1000000 0) rfl (dPc (.ptr 1000000 0) rfl ?_)
  refine dPc (.ptr 1000000 1) rfl (dPc (.p (eI o19)) rfl ?_)
  refine aD (λ _=>.rptr (ai.cs (lat p_0.fl o19))) rfl rfl rfl (l4 rfl rfl (λ _=>rfl)) (lt2 rfl rfl) (ar rfl (av [(33,_),(37,_)] ⟨.inr ⟨3,_,rfl,rfl,rfl⟩,.inr ⟨7,_,rfl,rfl,rfl⟩,trivial⟩ (λ sl hsl K hK=>ag rfl (qn (f:=aR) (l:=p_0.fl) ai.cs rfl rfl rfl rfl rfl rfl (hsl _ _ rfl) rfl (hsl _ _ rfl) hk15 ai.cells_eq (λ _=>rfl) hK)) (av [(33,_),(37,_)] ⟨.inr ⟨3,_,rfl,rfl,rfl⟩,.inr ⟨7,_,rfl,rfl,rfl⟩,trivial⟩ (λ sl hsl K hK=>ag rfl (qn (f:=aR) (l:=p_0.fl) ai.cs rfl rfl rfl rfl rfl rfl (hsl _ _ rfl) rfl (hsl _ _ rfl) hk15 ai.cells_eq (λ _=>rfl) hK)) aE))) (dPc (.p (.agg (ai.cs (lat p_0.fl o19)))) rfl ?_)
  refine dT (λ _=>.ptr 3 0) [] rfl trivial rfl rfl (fF rfl (λ _=>rfl)) (lt2 (λ h=>absurd h (by decide)) (λ _=>rfl)) (λ sl hsl K hK=>ag rfl (fM rfl rfl rfl rfl rfl hK)) (dS rfl ?_)
  refine cP (nx 2 rfl ?_)
  refine cc' h0 λ hk16 h0=>mG (gE (t:=⟨[(0,.ptr 1000000 0),(2,.ptr 2 0),(3,.ptr 3 0)],[(2,gH),(3,(ai.cs (lat p_0.fl o19)).map .p),(1000000,[.p (eL aR p_0.fl),.p (eI o19),.p (eI p_0.fnest),.p (eI p_0.fbase),.p (eI p_0.fbad.fKind),.p (eI p_0.fbad.fAt),.p (eS p_0.fbad.fName)])]⟩) rfl rfl) (mSq ⟨1,[8],(λ _=>.none),(λ _=>[(0,.ptr 1000000 0),(2,.ptr 2 0),(3,.ptr 3 0)]),(ob2 ([(2,gH),(3,[.p (eI ((lat p_0.fl o19).fKind)),.p (eS ((lat p_0.fl o19).fText)),.p (eI ((lat p_0.fl o19).fAt))]),(1000000,[.p (eL aR p_0.fl),.p (eI o19),.p (eI p_0.fnest),.p (eI p_0.fbase),.p (eI p_0.fbad.fKind),.p (eI p_0.fbad.fAt),.p (eS p_0.fbad.fName)])]) (3,[.p (eI ((lat p_0.fl o19).fKind)),.p (eS ((lat p_0.fl o19).fText)),.p (eI (((lat p_0.fl o19).fAt)+p_0.fbase))]))⟩ rfl ?_)
  refine dPc (.ptr 3 2) rfl (dPc (.p (eI ((lat p_0.fl o19).fAt))) rfl ?_)
  refine dPc (.ptr 1000000 0) rfl (dPc (.ptr 1000000 0) rfl ?_)
  refine dPc (.ptr 1000000 3) rfl (dPc (.p (eI p_0.fbase)) rfl ?_)
  refine aD (λ _=>.p (eI (((lat p_0.fl o19).fAt)+p_0.fbase))) rfl rfl rfl (fF rfl (λ _=>rfl)) (lt1 rfl) (ar rfl (av [(41,_),(45,_)] ⟨.inr ⟨1,_,rfl,rfl,rfl⟩,.inr ⟨5,_,rfl,rfl,rfl⟩,trivial⟩ (λ sl hsl K hK=>ag rfl (de rfl rfl rfl (hsl _ _ rfl) (hsl _ _ rfl) rfl hk16 hK)) aE)) (dPc (.ptr 3 2) rfl ?_)
  refine dS rfl (cP ?_)
  exact nx 7 rfl (fC h0 rfl)
 refine lG (λ (q21:Int)=>⟨[(0,.ptr 1000000 0),(2,.ptr 2 0)],[(2,gH),(1000000,[.p (eL aR p_0.fl),.p (eI q21),.p (eI p_0.fnest),.p (eI p_0.fbase),.p (eI p_0.fbad.fKind),.p (eI p_0.fbad.fAt),.p (eS p_0.fbad.fName)])]⟩) (λ m (q21:Int)=>cg p_0 m q21) (λ _=>rfl) p_0.fat h1 (gE rfl rfl) ?_
 rintro m f7 h1
 replace h1:cg p_0 (m+1) f7=some o19:=h1
 rw [cg] at h1
 refine nx 2 rfl (bd h1 λ o22 h2 h1=>?_)
 refine kN o22 (λ v23=>⟨[(0,.ptr 1000000 0),(2,.ptr 2 0),(22,.p (eB v23))],[(2,gH),(1000000,[.p (eL aR p_0.fl),.p (eI f7),.p (eI p_0.fnest),.p (eI p_0.fbase),.p (eI p_0.fbad.fKind),.p (eI p_0.fbad.fAt),.p (eS p_0.fbad.fName)])]⟩) ?_ ?_
 ·refine nx 1 rfl (fB [22] h1 rfl (λ c11 h1=>?_) λ c11 h1=>?_)
  ·refine nx 8 rfl (oA h1 rfl rfl λ hk12 h1=>?_)
   exact nx 4 rfl (eX (f7+1) h1 (gE rfl rfl))
  exact nx 2 rfl (eXi _ (oi h1).symm (gE rfl rfl))
 refine fD (p:=0 < p_0.fnest) [] h2 rfl (λ c8 h2=>?_) λ c8 h2=>?_
 ·refine cc' h2 λ hk9 h2=>mD [(0,.ptr 1000000 0),(2,.ptr 2 0)] rfl ⟨rfl,rfl,trivial⟩ rfl (dR 4 rfl ?_)
  refine dL (dt c8) rfl (dR 9 rfl ?_)
  refine dq (.rptr (ai.cs (lat p_0.fl f7))) [9,13,17] rfl (λ _ e _ q=>cX (qn (f:=aR) (l:=p_0.fl) ai.cs rfl rfl rfl rfl rfl rfl (e _ _ rfl) rfl (e _ _ rfl) hk9 ai.cells_eq (λ _=>rfl) q) rfl rfl (e _ _ rfl) (rfl)) rfl (dR 4 rfl ?_)
  refine dE rfl (nx 1 rfl ?_)
  exact eX _ (oi h2).symm (gE rfl rfl)
 refine mD [(0,.ptr 1000000 0),(2,.ptr 2 0)] rfl ⟨rfl,rfl,trivial⟩ rfl (dR 4 rfl ?_)
 refine dL (df c8) rfl (dR 14 rfl ?_)
 refine dE rfl (nx 1 rfl ?_)
 exact eX _ (oi h2).symm (gE rfl rfl)
def ay (n:Nat)(p_0:ab):Option (ai×ab) :=
 (aP n p_0).bind λ r1 =>
 (
   if r1.1.fKind=6 then
    some r1.2.fat
   else
    ck (inR (r1.2.fat+1)) <|
    some (r1.2.fat+1)
  : Option Int).bind λ f5 =>
 some (r1.1,(ab.mk r1.2.fl f5 r1.2.fnest r1.2.fbase r1.2.fbad))
set_option maxHeartbeats 4000000 in
theorem aA (n:Nat)(p_0:ab)(r:ai×ab)(h0:ay n p_0=some r):aF Tryz.prog 102 [.ptr 1000000 0] [(1000000,((ab.cs p_0).map .p))] (λ x y=>x=.p (.agg (ai.cs r.1))∧y=[(1000000,((ab.cs r.2).map .p))]):=by
 unfold ay at h0
 refine bF good [] [1000000] Tryz.func102 rfl rfl rfl rfl rfl λ w0 F=>mPo (λ v:ai×ab=>.p (.agg (ai.cs v.1))) (λ v=>[(1000000,((ab.cs v.2).map .p))]) ?_
 refine nx 7 rfl (bd h0 λ r1 e2 h0=>?_)
 refine mO rfl (cVq [1000000] [] 101000 101000 (a6 _ p_0 _ e2) Tryz.call70 rfl ?_)
 refine nx 4 rfl (bd h0 λ o7 h1 h0=>?_)
 refine kN o7 (λ v8=>⟨[(2,.ptr 2 0),(3,.ptr 3 0)],[(2,gH),(3,(ai.cs r1.1).map .p),(1000000,[.p (eL aR r1.2.fl),.p (eI v8),.p (eI r1.2.fnest),.p (eI r1.2.fbase),.p (eI r1.2.fbad.fKind),.p (eI r1.2.fbad.fAt),.p (eS r1.2.fbad.fName)])]⟩) ?_ ?_
 ·exact nx 7 rfl (fC h0 rfl)
 refine nx 6 rfl (fN [8] h1 rfl (λ c3 h1=>?_) λ c3 h1=>?_)
 ·exact nx 2 rfl (eX _ (oi h1).symm (gE rfl rfl))
 refine nx 6 rfl (oA h1 rfl rfl λ hk4 h1=>?_)
 exact nx 4 rfl (eX _ (oi h1).symm (gE rfl rfl))
def bZ (p_0:ab):Option (Bool×ab) :=
 some (!decide (p_0.fbad.fKind=0),p_0)
set_option maxHeartbeats 4000000 in
theorem co (p_0:ab)(r:Bool×ab)(h0:bZ p_0=some r):aF Tryz.prog 121 [.ptr 1000000 0] [(1000000,((ab.cs p_0).map .p))] (λ x y=>x=.p (eB r.1)∧y=[(1000000,((ab.cs r.2).map .p))]):=by
 unfold bZ at h0
 refine bF good [] [1000000] Tryz.func121 rfl rfl rfl rfl rfl λ w0 F=>mPo (λ v:Bool×ab=>.p (eB v.1)) (λ v=>[(1000000,((ab.cs v.2).map .p))]) ?_
 exact nx 15 rfl (fC h0 rfl)
def aJ (n:Nat)(p_0:ab)(s_1:Bytes):Option (Bool×ab) :=
 (aP n p_0).bind λ r1 =>
 (
   (bZ r1.2).bind λ r3 =>
   if (!r3.1)=true then
    if r1.1.fKind=4 then
     some (decide (r1.1.fText=s_1),r3.2.fl,r3.2.fat,r3.2.fnest,r3.2.fbase,r3.2.fbad.fKind,r3.2.fbad.fAt,r3.2.fbad.fName)
    else
     some (false,r3.2.fl,r3.2.fat,r3.2.fnest,r3.2.fbase,r3.2.fbad.fKind,r3.2.fbad.fAt,r3.2.fbad.fName)
   else
    some (false,r3.2.fl,r3.2.fat,r3.2.fnest,r3.2.fbase,r3.2.fbad.fKind,r3.2.fbad.fAt,r3.2.fbad.fName)
  : Option (Bool×(List ai)×Int×Int×Int×Int×Int×Bytes)).bind λ q15 =>
 some (q15.1,(ab.mk q15.2.1 q15.2.2.1 q15.2.2.2.1 q15.2.2.2.2.1 (ao.mk q15.2.2.2.2.2.1 q15.2.2.2.2.2.2.1 q15.2.2.2.2.2.2.2)))
set_option maxHeartbeats 4000000 in
theorem aU (n:Nat)(p_0:ab)(s_1:Bytes)(r:Bool×ab)(h0:aJ n p_0 s_1=some r):aF Tryz.prog 101 [.ptr 1000000 0,.p (eS s_1)] [(1000000,((ab.cs p_0).map .p))] (λ x y=>x=.p (eB r.1)∧y=[(1000000,((ab.cs r.2).map .p))]):=by
 unfold aJ at h0
 refine bF good [] [1000000] Tryz.func101 rfl rfl rfl rfl rfl λ w0 F=>mPo (λ v:Bool×ab=>.p (eB v.1)) (λ v=>[(1000000,((ab.cs v.2).map .p))]) ?_
 refine nx 7 rfl (bd h0 λ r1 e2 h0=>?_)
 refine mO rfl (cVq [1000000] [] 101000 101000 (a6 _ p_0 _ e2) Tryz.call70 rfl ?_)
 refine nx 4 rfl (bd h0 λ o16 h1 h0=>?_)
 refine kN o16 (λ v17=>⟨[(4,.p (eB v17.1))],[(1000000,[.p (eL aR v17.2.1),.p (eI v17.2.2.1),.p (eI v17.2.2.2.1),.p (eI v17.2.2.2.2.1),.p (eI v17.2.2.2.2.2.1),.p (eI v17.2.2.2.2.2.2.1),.p (eS v17.2.2.2.2.2.2.2)])]⟩) ?_ ?_
 ·exact nx 2 rfl (fC h0 rfl)
 refine nx 2 rfl (bd h1 λ r3 e4 h1=>?_)
 refine mO rfl (cVq [1000000] [] 102000 102000 (co r1.2 _ e4) Tryz.call121 rfl ?_)
 refine nx 2 rfl (fB [10,11] h1 rfl (λ c5 h1=>?_) λ c5 h1=>?_)
 ·refine nx 5 rfl (fD [14,15,16] h1 rfl (λ c6 h1=>?_) λ c6 h1=>?_)
  ·refine nx 3 rfl (oS rfl rfl ?_)
   exact nx 3 rfl (eX _ (oi h1).symm (gE rfl rfl))
  exact nx 7 rfl (eX _ (oi h1).symm (gE rfl rfl))
 exact nx 12 rfl (eX _ (oi h1).symm (gE rfl rfl))
def bo (p_0:ab)(k_1:Int)(at_2:Int):Option (ac×ab) :=
 (
   (bZ p_0).bind λ r1 =>
   if (!r1.1)=true then
    some (r1.2.fl,r1.2.fat,r1.2.fnest,r1.2.fbase,k_1,at_2,([]:Bytes))
   else
    some (r1.2.fl,r1.2.fat,r1.2.fnest,r1.2.fbase,r1.2.fbad.fKind,r1.2.fbad.fAt,r1.2.fbad.fName)
  : Option ((List ai)×Int×Int×Int×Int×Int×Bytes)).bind λ q11 =>
 some ((ac.mk 0 0 ([]:Bytes) ([]:Bytes) (ad.mk 0 0 ([]:Bytes) [] []) [] 0),(ab.mk q11.1 q11.2.1 q11.2.2.1 q11.2.2.2.1 (ao.mk q11.2.2.2.2.1 q11.2.2.2.2.2.1 q11.2.2.2.2.2.2)))
set_option maxHeartbeats 4000000 in
theorem bn (p_0:ab)(k_1:Int)(at_2:Int)(r:ac×ab)(h0:bo p_0 k_1 at_2=some r):aF Tryz.prog 71 [.ptr 1000000 0,.p (eI k_1),.p (eI at_2)] [(1000000,((ab.cs p_0).map .p))] (λ x y=>x=.p (.agg (ac.cs r.1))∧y=[(1000000,((ab.cs r.2).map .p))]):=by
 unfold bo at h0
 refine bF good [] [1000000] Tryz.func71 rfl rfl rfl rfl rfl λ w0 F=>mPo (λ v:ac×ab=>.p (.agg (ac.cs v.1))) (λ v=>[(1000000,((ab.cs v.2).map .p))]) ?_
 refine nx 5 rfl (bd h0 λ o12 h1 h0=>?_)
 refine kN o12 (λ v13=>⟨[(6,.ptr 6 0)],[(6,iY),(1000000,[.p (eL aR v13.1),.p (eI v13.2.1),.p (eI v13.2.2.1),.p (eI v13.2.2.2.1),.p (eI v13.2.2.2.2.1),.p (eI v13.2.2.2.2.2.1),.p (eS v13.2.2.2.2.2.2)])]⟩) ?_ ?_
 ·exact nx 7 rfl (mQo (oi h0) (al _) rfl rfl rfl rfl (cr ⟨.inl rfl,.inl rfl,.inl rfl,.inl rfl,.inl rfl,.inl rfl,.inl rfl,.inr ⟨rfl,rfl⟩,.inr ⟨rfl,rfl⟩,.inr ⟨rfl,rfl⟩,.inl rfl,trivial⟩) ⟨⟨_,rfl,⟨sr,sr,sr,sr,sr,sr,sr,trivial⟩⟩,trivial⟩)
 refine nx 3 rfl (bd h1 λ r1 e2 h1=>?_)
 refine mO rfl (cVq [1000000] [] 101000 101000 (co p_0 _ e2) Tryz.call121 rfl ?_)
 refine nx 2 rfl (fB [9] h1 rfl (λ c3 h1=>?_) λ c3 h1=>?_)
 ·exact nx 10 rfl (eX _ (oi h1).symm (gE rfl rfl))
 exact nx 2 rfl (eX _ (oi h1).symm (gE rfl rfl))
def en (v_0:ad)(at_1:Int):Option ac :=
 some (ac.mk 1 0 ([]:Bytes) ([]:Bytes) v_0 [] at_1)
set_option maxHeartbeats 4000000 in
theorem dN (v_0:ad)(at_1:Int)(r:ac)(h0:en v_0 at_1=some r):au Tryz.prog 39 [.agg (ad.cs v_0),eI at_1] (·=.p (.agg (ac.cs r))):=by
 unfold en at h0
 refine aW good Tryz.func39 rfl rfl rfl λ w0=>mP (λ v:ac=>.p (.agg (ac.cs v))) ?_
 exact nx 13 rfl (mQ (oi h0) rfl (cr ⟨.inl rfl,.inl rfl,.inl rfl,.inl rfl,.inl rfl,.inl rfl,.inl rfl,.inl rfl,.inl rfl,.inr ⟨rfl,rfl⟩,.inl rfl,trivial⟩))
def fP (n:Nat)(e_0:ac)(d_1:ao):Option (ac×ao) :=
 if d_1.fKind=0 then
  (eZ n e_0).bind λ r2 =>
  if r2=0 then
   some (e_0,(ao.mk 0 0 ([]:Bytes)))
  else
   some ((ac.mk 0 0 ([]:Bytes) ([]:Bytes) (ad.mk 0 0 ([]:Bytes) [] []) [] 0),(ao.mk r2 e_0.fAt ([]:Bytes)))
 else
  some ((ac.mk 0 0 ([]:Bytes) ([]:Bytes) (ad.mk 0 0 ([]:Bytes) [] []) [] 0),d_1)
set_option maxHeartbeats 4000000 in
theorem lg (n:Nat)(e_0:ac)(d_1:ao)(r:ac×ao)(h0:fP n e_0 d_1=some r):au Tryz.prog 34 [.agg (ac.cs e_0),.agg (ao.cs d_1)] (·=.tuple [.p (.agg (ac.cs r.1)),.p (.agg (ao.cs r.2))]):=by
 unfold fP at h0
 refine aW good Tryz.func34 rfl rfl rfl λ w0=>mP (λ v:ac×ao=>.tuple [.p (.agg (ac.cs v.1)),.p (.agg (ao.cs v.2))]) ?_
 refine nx 14 rfl (fN [9] h0 rfl (λ c1 h0=>?_) λ c1 h0=>?_)
 ·refine nx 6 rfl (bd h0 λ r2 e3 h0=>?_)
  refine oK (hH _ e_0 _ e3) rfl ⟨sr,trivial⟩ Tryz.call12 rfl (nx 7 rfl ?_)
  refine fN [15] h0 rfl (λ c4 h0=>?_) λ c4 h0=>?_
  ·exact nx 10 rfl (mQ (oi h0) rfl (ap ⟨sr,sr,trivial⟩))
  refine nx 2 rfl (mG (gE (t:=⟨[(2,.ptr 2 0),(4,.ptr 4 0),(5,.ptr 5 0),(6,.p (eI r2))],[(2,(ac.cs e_0).map .p),(4,iY),(5,d8)]⟩) rfl rfl) ?_)
  refine mSq ⟨2,[5,6],(λ _=>.none),(λ _=>[(2,.ptr 2 0),(4,.ptr 4 0),(5,.ptr 5 0),(6,.p (eI r2))]),(ob3 ([(2,((ac.cs e_0).map .p)),(4,iY),(5,d8)]) (4,iY) (5,[.p (eI r2),.p (eI e_0.fAt),.p (eS ([]:Bytes))]))⟩ rfl (dPc (.p (.agg jK)) rfl ?_)
  refine dPc (.p (eI r2)) rfl (dPc (.ptr 2 10) rfl ?_)
  refine dPc (.p (eI e_0.fAt)) rfl (dPc (.p (.agg [eI r2,eI e_0.fAt,eS ([]:Bytes)])) rfl ?_)
  refine dS rfl (dS rfl ?_)
  refine cP (nx 2 rfl ?_)
  exact mQ (oi h0) rfl (ap ⟨cr ⟨.inl rfl,.inl rfl,.inl rfl,.inl rfl,.inl rfl,.inl rfl,.inl rfl,.inr ⟨rfl,rfl⟩,.inr ⟨rfl,rfl⟩,.inr ⟨rfl,rfl⟩,.inl rfl,trivial⟩,sr,trivial⟩)
 refine nx 2 rfl (mG (gE (t:=⟨[(3,.ptr 3 0),(4,.ptr 4 0),(5,.ptr 5 0)],[(3,(ao.cs d_1).map .p),(4,iY),(5,d8)]⟩) rfl rfl) ?_)
 refine mSq ⟨2,[2,3],(λ _=>.none),(λ _=>[(3,.ptr 3 0),(4,.ptr 4 0),(5,.ptr 5 0)]),(ob3 ([(3,((ao.cs d_1).map .p)),(4,iY),(5,d8)]) (4,iY) (5,((ao.cs d_1).map .p)))⟩ rfl (dPc (.p (.agg jK)) rfl ?_)
 refine dPc (.p (.agg (ao.cs d_1))) rfl (dS rfl ?_)
 refine dS rfl (cP ?_)
 exact nx 2 rfl (mQ (oi h0) rfl (ap ⟨cr ⟨.inl rfl,.inl rfl,.inl rfl,.inl rfl,.inl rfl,.inl rfl,.inl rfl,.inr ⟨rfl,rfl⟩,.inr ⟨rfl,rfl⟩,.inr ⟨rfl,rfl⟩,.inl rfl,trivial⟩,sr,trivial⟩))
def fc (t_0:af):Option (ao×af) :=
 if 4096 < (t_0.ftext.length:Int) then
  ck (inR (t_0.fat+t_0.ffrom)) <|
  some ((ao.mk 3 (t_0.fat+t_0.ffrom) ([]:Bytes)),(af.mk t_0.fs t_0.fat t_0.fi t_0.ffrom t_0.ftext t_0.fparts t_0.fopen))
 else
  some ((ao.mk 0 0 ([]:Bytes)),(af.mk t_0.fs t_0.fat t_0.fi t_0.ffrom t_0.ftext t_0.fparts t_0.fopen))
set_option maxHeartbeats 4000000 in
theorem gW (t_0:af)(r:ao×af)(h0:fc t_0=some r):aF Tryz.prog 76 [.ptr 1000000 0] [(1000000,[.p (eS t_0.fs),.p (eI t_0.fat),.p (eI t_0.fi),.p (eI t_0.ffrom),.p (eS t_0.ftext),.vec 900000 11 0 (t_0.fparts.map ae),.p (eB t_0.fopen)])] (λ x y=>x=.p (.agg (ao.cs r.1))∧y=[(1000000,[.p (eS r.2.fs),.p (eI r.2.fat),.p (eI r.2.fi),.p (eI r.2.ffrom),.p (eS r.2.ftext),.vec 2000000 11 0 (r.2.fparts.map ae),.p (eB r.2.fopen)])]):=by
 unfold fc at h0
 refine bF good [800000] [1000000] Tryz.func76 rfl rfl rfl rfl rfl λ w0 F=>mPo (λ v:ao×af=>.p (.agg (ao.cs v.1))) (λ v=>[(1000000,[.p (eS v.2.fs),.p (eI v.2.fat),.p (eI v.2.fi),.p (eI v.2.ffrom),.p (eS v.2.ftext),.vec 2000000 11 0 (v.2.fparts.map ae),.p (eB v.2.fopen)])]) ?_
 refine nx 11 rfl (oLs rfl ?_)
 refine nx 2 rfl (fD [8] h0 rfl (λ c1 h0=>?_) λ c1 h0=>?_)
 ·refine nx 2 rfl (cc' h0 λ hk2 h0=>?_)
  refine mG (gE (t:=⟨[(0,.ptr 1000000 0),(2,.ptr 2 0)],[(2,d8),(1000000,[.p (eS t_0.fs),.p (eI t_0.fat),.p (eI t_0.fi),.p (eI t_0.ffrom),.p (eS t_0.ftext),.vec 900000 11 0 (t_0.fparts.map ae),.p (eB t_0.fopen)])]⟩) rfl rfl) (mSq ⟨1,[10],(λ _=>.none),(λ _=>[(0,.ptr 1000000 0),(2,.ptr 2 0)]),(ob2 ([(2,d8),(1000000,[.p (eS t_0.fs),.p (eI t_0.fat),.p (eI t_0.fi),.p (eI t_0.ffrom),.p (eS t_0.ftext),.vec 900000 11 0 (t_0.fparts.map ae),.p (eB t_0.fopen)])]) (2,[.p (eI 3),.p (eI (t_0.fat+t_0.ffrom)),.p (eS ([]:Bytes))]))⟩ rfl ?_)
  refine dPc (.ptr 1000000 0) rfl (dPc (.ptr 1000000 0) rfl ?_)
  refine dPc (.ptr 1000000 1) rfl (dPc (.p (eI t_0.fat)) rfl ?_)
  refine dPc (.ptr 1000000 0) rfl (dPc (.ptr 1000000 0) rfl ?_)
  refine dPc (.ptr 1000000 3) rfl (dPc (.p (eI t_0.ffrom)) rfl ?_)
  refine aD (λ _=>.p (eI (t_0.fat+t_0.ffrom))) rfl rfl rfl (fF rfl (λ _=>rfl)) (lt1 rfl) (ar rfl (av [(12,_),(16,_)] ⟨.inr ⟨3,_,rfl,rfl,rfl⟩,.inr ⟨7,_,rfl,rfl,rfl⟩,trivial⟩ (λ sl hsl K hK=>ag rfl (de rfl rfl rfl (hsl _ _ rfl) (hsl _ _ rfl) rfl hk2 hK)) aE)) (dPc (.p (.agg [eI 3,eI (t_0.fat+t_0.ffrom),eS ([]:Bytes)])) rfl ?_)
  refine dS rfl (cP ?_)
  exact nx 2 rfl (mQo (oi h0) (aN (bz 900000 800000 rfl rfl rfl rfl rfl) (al _)) rfl rfl rfl rfl (sr) ⟨⟨_,rfl,⟨sr,sr,sr,sr,sr,sr,sr,trivial⟩⟩,trivial⟩)
 exact nx 8 rfl (mQo (oi h0) (aN (bz 900000 800000 rfl rfl rfl rfl rfl) (al _)) rfl rfl rfl rfl (sr) ⟨⟨_,rfl,⟨sr,sr,sr,sr,sr,sr,sr,trivial⟩⟩,trivial⟩)
def ez (t_0:af):Option af :=
 (
   if t_0.ffrom < t_0.fi then
    ck (inR (t_0.fat+t_0.ffrom)) <|
    (en (ad.mk 3 0 t_0.ftext [] []) (t_0.fat+t_0.ffrom)).bind λ r3 =>
    ck ((t_0.fparts.length+1)*160≤140737488355328) <|
    some (t_0.fparts++[r3])
   else
    some t_0.fparts
  : Option (List ac)).bind λ f6 =>
 some (af.mk t_0.fs t_0.fat t_0.fi t_0.ffrom ([]:Bytes) f6 t_0.fopen)
set_option maxHeartbeats 4000000 in
theorem gM (t_0:af)(r:af)(h0:ez t_0=some r):aF Tryz.prog 40 [.ptr 1000000 0] [(1000000,[.p (eS t_0.fs),.p (eI t_0.fat),.p (eI t_0.fi),.p (eI t_0.ffrom),.p (eS t_0.ftext),.vec 900000 11 0 (t_0.fparts.map ae),.p (eB t_0.fopen)])] (λ x y=>x=.tuple []∧y=[(1000000,[.p (eS r.fs),.p (eI r.fat),.p (eI r.fi),.p (eI r.ffrom),.p (eS r.ftext),.vec 2000000 11 0 (r.fparts.map ae),.p (eB r.fopen)])]):=by
 unfold ez at h0
 refine bF good [800000] [1000000] Tryz.func40 rfl rfl rfl rfl rfl λ w0 F=>mPo (λ v:af=>.tuple []) (λ v=>[(1000000,[.p (eS v.fs),.p (eI v.fat),.p (eI v.fi),.p (eI v.ffrom),.p (eS v.ftext),.vec 2000000 11 0 (v.fparts.map ae),.p (eB v.fopen)])]) ?_
 refine nx 1 rfl (bd h0 λ o8 h1 h0=>?_)
 refine kN o8 (λ v9=>⟨[(0,.ptr 1000000 0)],[(1000000,[.p (eS t_0.fs),.p (eI t_0.fat),.p (eI t_0.fi),.p (eI t_0.ffrom),.p (eS t_0.ftext),.vec 900000 11 0 (v9.map ae),.p (eB t_0.fopen)])]⟩) ?_ ?_
 ·exact nx 7 rfl (sc (oi h0) (aN (bz 900000 800000 rfl rfl rfl rfl rfl) (al _)) rfl rfl rfl rfl (sr) ⟨⟨_,rfl,⟨sr,sr,sr,sr,sr,sr,sr,trivial⟩⟩,trivial⟩)
 refine nx 1 rfl (mD [(0,.ptr 1000000 0)] rfl ⟨rfl,trivial⟩ rfl ?_)
 refine dR 9 rfl (dE rfl ?_)
 refine nx 1 rfl (fD [10] h1 rfl (λ c1 h1=>?_) λ c1 h1=>?_)
 ·refine nx 1 rfl (cc' h1 λ hk2 h1=>?_)
  refine bd h1 λ r3 e4 h1=>cc' h1 λ hk5 h1=>mG (gE (t:=⟨[(0,.ptr 1000000 0)],[(1000000,[.p (eS t_0.fs),.p (eI t_0.fat),.p (eI t_0.fi),.p (eI t_0.ffrom),.p (eS t_0.ftext),.vec 900000 11 0 (t_0.fparts.map ae),.p (eB t_0.fopen)])]⟩) rfl rfl) (mSP ⟨3,[21,23,26],(by4 (.some λ i=>Nat.beq i 900000||Nat.beq i 32) (.fn (upP 32 11 (.agg (ac.cs r3)))) .none .none),(λ _=>[(0,.ptr 1000000 0)]),(by4 ([(1000000,[.p (eS t_0.fs),.p (eI t_0.fat),.p (eI t_0.fi),.p (eI t_0.ffrom),.p (eS t_0.ftext),.vec 900000 11 0 (t_0.fparts.map ae),.p (eB t_0.fopen)])]) ([(1000000,((af.cs t_0).map .p))]) ([(1000000,((af.cs t_0).map .p))]) ([(1000000,[.p (eS t_0.fs),.p (eI t_0.fat),.p (eI t_0.fi),.p (eI t_0.ffrom),.p (eS t_0.ftext),.vec 32 11 0 (t_0.fparts.map ae++[.agg (ac.cs r3)]),.p (eB t_0.fopen)]),(1000000,((af.cs t_0).map .p))]))⟩ ⟨3,[21,26,23],(by4 (.some λ i=>Nat.beq i 900000||Nat.beq i 32) .none (.fn (upP 32 11 (.agg (ac.cs r3)))) .none),(λ _=>[(0,.ptr 1000000 0)]),(by4 ([(1000000,[.p (eS t_0.fs),.p (eI t_0.fat),.p (eI t_0.fi),.p (eI t_0.ffrom),.p (eS t_0.ftext),.vec 900000 11 0 (t_0.fparts.map ae),.p (eB t_0.fopen)])]) ([(1000000,((af.cs t_0).map .p))]) ([(1000000,[.p (eS t_0.fs),.p (eI t_0.fat),.p (eI t_0.fi),.p (eI t_0.ffrom),.p (eS t_0.ftext),.vecp 32 11 0 (t_0.fparts.map ae),.p (eB t_0.fopen)]),(1000000,((af.cs t_0).map .p))]) ([(1000000,[.p (eS t_0.fs),.p (eI t_0.fat),.p (eI t_0.fi),.p (eI t_0.ffrom),.p (eS t_0.ftext),.vec 32 11 0 (t_0.fparts.map ae++[.agg (ac.cs r3)]),.p (eB t_0.fopen)]),(1000000,((af.cs t_0).map .p))]))⟩ rfl rfl rfl rfl rfl rfl rfl ⟨rfl,trivial⟩ rfl (lt3 ⟨rfl,trivial⟩ ⟨rfl,trivial⟩ ⟨rfl,trivial⟩) (lt3 ⟨rfl,trivial⟩ ⟨rfl,trivial⟩ ⟨rfl,trivial⟩) rfl rfl rfl rfl rfl ?_)
  refine dPc (.ptr 1000000 0) rfl (dPc (.ptr 1000000 0) rfl ?_)
  refine dPc (.ptr 1000000 5) rfl (dP (by4 (.vec 900000 11 0 (t_0.fparts.map ae)) (.p (eL ae t_0.fparts)) (.p (eL ae t_0.fparts)) (.p (eL ae t_0.fparts))) rfl ?_)
  refine dPc (.ptr 1000000 0) rfl (dPc (.ptr 1000000 0) rfl ?_)
  refine dPc (.ptr 1000000 4) rfl (dPc (.p (eS t_0.ftext)) rfl ?_)
  refine dPc (.p (.agg [eI 3,eI 0,eS t_0.ftext,.val (.slice none 0 0),.val (.slice none 0 0)])) rfl (dPc (.ptr 1000000 0) rfl ?_)
  refine dPc (.ptr 1000000 0) rfl (dPc (.ptr 1000000 1) rfl ?_)
  refine dPc (.p (eI t_0.fat)) rfl (dPc (.ptr 1000000 0) rfl ?_)
  refine dPc (.ptr 1000000 0) rfl (dPc (.ptr 1000000 3) rfl ?_)
  refine dPc (.p (eI t_0.ffrom)) rfl (aD (λ _=>.p (eI (t_0.fat+t_0.ffrom))) rfl rfl rfl (ji rfl rfl rfl (λ _=>rfl)) (lt3 rfl rfl rfl) (ar rfl (ar rfl (ar rfl (av [(23,_),(27,_)] ⟨.inr ⟨12,_,rfl,rfl,rfl⟩,.inr ⟨16,_,rfl,rfl,rfl⟩,trivial⟩ (λ sl hsl K hK=>ag rfl (de rfl rfl rfl (hsl _ _ rfl) (hsl _ _ rfl) rfl hk2 hK)) aE)))) ?_)
  refine aD (λ _=>.p (.agg (ac.cs r3))) rfl rfl rfl (ji rfl rfl rfl (λ _=>rfl)) (lt3 rfl rfl rfl) (ar rfl (ar rfl (ar rfl (av [(19,_),(28,_)] ⟨.inr ⟨8,_,rfl,rfl,rfl⟩,.inr ⟨17,_,rfl,rfl,rfl⟩,trivial⟩ (λ sl hsl K hK=>ag rfl (bS (dN (ad.mk 3 0 t_0.ftext [] []) (t_0.fat+t_0.ffrom) _ e4) rfl rfl rfl (az (hsl _ _ rfl) (az (hsl _ _ rfl) bc)) ⟨cr ⟨.inl rfl,.inl rfl,.inl rfl,.inr ⟨rfl,rfl⟩,.inr ⟨rfl,rfl⟩,trivial⟩,sr,trivial⟩ Tryz.call39 rfl hK)) aE)))) (aD (λ _=>.p (eI (t_0.fparts.length:Int))) rfl rfl rfl (ji rfl rfl rfl (λ _=>rfl)) (lt3 rfl rfl rfl) (ar rfl (ar rfl (ar rfl (av [(14,_)] ⟨.inr ⟨3,_,rfl,rfl,rfl⟩,trivial⟩ (λ sl hsl K hK=>ag rfl (md (f:=ae) (l:=t_0.fparts) rfl rfl rfl rfl rfl (hsl _ _ rfl) rfl hK)) aE)))) ?_)
  refine aD (λ _=>.p (eL (λ x:PV=>x) [.agg jK])) rfl rfl rfl (ji rfl rfl rfl (λ _=>rfl)) (lt3 rfl rfl rfl) (ar rfl (ar rfl (ar rfl (av [] trivial (λ sl hsl K hK=>ag rfl (bh (λ x:PV=>x) [.agg jK] rfl rfl rfl rfl rfl rfl (d7 rfl rfl fw) rfl rfl rfl rfl rfl rfl rfl hK)) aE)))) (dT (by4 (.vecp 32 11 0 (t_0.fparts.map ae)) (.vecp 32 11 0 (t_0.fparts.map ae)) (.vec 32 11 0 (t_0.fparts.map ae++[.agg (ac.cs r3)])) (.vec 32 11 0 (t_0.fparts.map ae++[.agg (ac.cs r3)]))) [(14,_),(31,_)] rfl ⟨.inr ⟨3,_,rfl,rfl,rfl⟩,.inr ⟨20,_,rfl,rfl,rfl⟩,trivial⟩ rfl rfl (l4 rfl rfl (λ _=>rfl)) (lt3 (λ h=>absurd h (by decide)) (λ _=>rfl) (λ _=>rfl)) (λ sl hsl K hK=>ag rfl (mw ae t_0.fparts rfl rfl rfl rfl rfl rfl rfl rfl (hsl _ _ rfl) rfl rfl (hsl _ _ rfl) rfl rfl rfl rfl rfl hk5 hK)) ?_)
  refine mr (by4 (.elp 32 11) (.elp 32 11) .undef .undef) rfl rfl rfl (ji rfl rfl rfl (λ _=>rfl)) (lt3 (nl rfl) (λ _=>rfl) (λ _=>rfl)) (ar rfl (ar rfl (av [(30,_),(32,_)] ⟨.inr ⟨19,_,rfl,rfl,rfl⟩,.inr ⟨21,_,rfl,rfl,rfl⟩,trivial⟩ (λ sl hsl K hK=>ag rfl (lm rfl rfl rfl rfl rfl rfl rfl (hsl _ _ rfl) (hsl _ _ rfl) (by rw [List.length_map]) hK)) (ar rfl aE)))) (ik [(29,_),(33,_)] rfl ⟨.inr ⟨18,_,rfl,rfl,rfl⟩,.inr ⟨22,_,rfl,rfl,rfl⟩,trivial⟩ rfl (λ sl hsl K hK=>ag rfl (qO (z:=.agg (ac.cs r3)) rfl rfl rfl rfl (hsl _ _ rfl) (hsl _ _ rfl) rfl rfl rfl rfl rfl hK)) ?_)
  refine dPc (.ptr 1000000 0) rfl (dPc (.ptr 1000000 5) rfl ?_)
  refine dS rfl (ti (dPc (.ptr 1000000 0) rfl (dPc (.ptr 1000000 0) rfl (dPc (.ptr 1000000 5) rfl (dP (by4 (.vec 900000 11 0 (t_0.fparts.map ae)) (.p (eL ae t_0.fparts)) (.p (eL ae t_0.fparts)) (.p (eL ae t_0.fparts))) rfl (dPc (.ptr 1000000 0) rfl (dPc (.ptr 1000000 0) rfl (dPc (.ptr 1000000 4) rfl (dPc (.p (eS t_0.ftext)) rfl (dPc (.p (.agg [eI 3,eI 0,eS t_0.ftext,.val (.slice none 0 0),.val (.slice none 0 0)])) rfl (dPc (.ptr 1000000 0) rfl (dPc (.ptr 1000000 0) rfl (dPc (.ptr 1000000 1) rfl (dPc (.p (eI t_0.fat)) rfl (dPc (.ptr 1000000 0) rfl (dPc (.ptr 1000000 0) rfl (dPc (.ptr 1000000 3) rfl (dPc (.p (eI t_0.ffrom)) rfl (aD (λ _=>.p (eI (t_0.fat+t_0.ffrom))) rfl rfl rfl (ji rfl rfl rfl (λ _=>rfl)) (lt3 rfl rfl rfl) (ar rfl (ar rfl (ar rfl (av [(23,_),(27,_)] ⟨.inr ⟨12,_,rfl,rfl,rfl⟩,.inr ⟨16,_,rfl,rfl,rfl⟩,trivial⟩ (λ sl hsl K hK=>ag rfl (de rfl rfl rfl (hsl _ _ rfl) (hsl _ _ rfl) rfl hk2 hK)) aE)))) (aD (λ _=>.p (.agg (ac.cs r3))) rfl rfl rfl (ji rfl rfl rfl (λ _=>rfl)) (lt3 rfl rfl rfl) (ar rfl (ar rfl (ar rfl (av [(19,_),(28,_)] ⟨.inr ⟨8,_,rfl,rfl,rfl⟩,.inr ⟨17,_,rfl,rfl,rfl⟩,trivial⟩ (λ sl hsl K hK=>ag rfl (bS (dN (ad.mk 3 0 t_0.ftext [] []) (t_0.fat+t_0.ffrom) _ e4) rfl rfl rfl (az (hsl _ _ rfl) (az (hsl _ _ rfl) bc)) ⟨cr ⟨.inl rfl,.inl rfl,.inl rfl,.inr ⟨rfl,rfl⟩,.inr ⟨rfl,rfl⟩,trivial⟩,sr,trivial⟩ Tryz.call39 rfl hK)) aE)))) (aD (λ _=>.p (eI (t_0.fparts.length:Int))) rfl rfl rfl (ji rfl rfl rfl (λ _=>rfl)) (lt3 rfl rfl rfl) (ar rfl (ar rfl (ar rfl (av [(14,_)] ⟨.inr ⟨3,_,rfl,rfl,rfl⟩,trivial⟩ (λ sl hsl K hK=>ag rfl (md (f:=ae) (l:=t_0.fparts) rfl rfl rfl rfl rfl (hsl _ _ rfl) rfl hK)) aE)))) (aD (λ _=>.p (eL (λ x:PV=>x) [.agg jK])) rfl rfl rfl (ji rfl rfl rfl (λ _=>rfl)) (lt3 rfl rfl rfl) (ar rfl (ar rfl (ar rfl (av [] trivial (λ sl hsl K hK=>ag rfl (bh (λ x:PV=>x) [.agg jK] rfl rfl rfl rfl rfl rfl (d7 rfl rfl fw) rfl rfl rfl rfl rfl rfl rfl hK)) aE)))) (dT (by4 (.vecp 32 11 0 (t_0.fparts.map ae)) (.vecp 32 11 0 (t_0.fparts.map ae)) (.vecp 32 11 0 (t_0.fparts.map ae)) (.vec 32 11 0 (t_0.fparts.map ae++[.agg (ac.cs r3)]))) [(14,_),(31,_)] rfl ⟨.inr ⟨3,_,rfl,rfl,rfl⟩,.inr ⟨20,_,rfl,rfl,rfl⟩,trivial⟩ rfl rfl (l4 rfl rfl (λ _=>rfl)) (lt3 (λ h=>absurd h (by decide)) (λ _=>rfl) (λ _=>rfl)) (λ sl hsl K hK=>ag rfl (mw ae t_0.fparts rfl rfl rfl rfl rfl rfl rfl rfl (hsl _ _ rfl) rfl rfl (hsl _ _ rfl) rfl rfl rfl rfl rfl hk5 hK)) (mr (by4 (.elp 32 11) (.elp 32 11) (.elp 32 11) .undef) rfl rfl rfl (ji rfl rfl rfl (λ _=>rfl)) (lt3 (nl rfl) (λ _=>rfl) (λ _=>rfl)) (ar rfl (av [(30,_),(32,_)] ⟨.inr ⟨19,_,rfl,rfl,rfl⟩,.inr ⟨21,_,rfl,rfl,rfl⟩,trivial⟩ (λ sl hsl K hK=>ag rfl (lm rfl rfl rfl rfl rfl rfl rfl (hsl _ _ rfl) (hsl _ _ rfl) (by rw [List.length_map]) hK)) (av [(30,_),(32,_)] ⟨.inr ⟨19,_,rfl,rfl,rfl⟩,.inr ⟨21,_,rfl,rfl,rfl⟩,trivial⟩ (λ sl hsl K hK=>ag rfl (lm rfl rfl rfl rfl rfl rfl rfl (hsl _ _ rfl) (hsl _ _ rfl) (by rw [List.length_map]) hK)) (ar rfl aE)))) (ik [(29,_),(33,_)] rfl ⟨.inr ⟨18,_,rfl,rfl,rfl⟩,.inr ⟨22,_,rfl,rfl,rfl⟩,trivial⟩ rfl (λ sl hsl K hK=>ag rfl (qO (z:=.agg (ac.cs r3)) rfl rfl rfl rfl (hsl _ _ rfl) (hsl _ _ rfl) rfl rfl rfl rfl rfl hK)) (dPc (.ptr 1000000 0) rfl (dPc (.ptr 1000000 5) rfl (dS rfl (tG rfl ⟨rfl,rfl,trivial⟩ ⟨⟨rfl,rfl,.inr rfl⟩,⟨⟨rfl,rfl,.inr rfl⟩,⟨⟨rfl,rfl,.inr rfl⟩,⟨⟨rfl,rfl,.inr rfl⟩,⟨⟨rfl,rfl,.inr rfl⟩,⟨⟨rfl,rfl,.inr rfl⟩,⟨⟨rfl,rfl,.inr rfl⟩,⟨⟨rfl,rfl,.inr rfl⟩,⟨⟨rfl,rfl,.inr rfl⟩,⟨⟨rfl,rfl,.inr rfl⟩,⟨⟨rfl,rfl,.inr rfl⟩,⟨⟨rfl,rfl,.inr rfl⟩,⟨⟨rfl,rfl,.inr rfl⟩,⟨⟨rfl,rfl,.inr rfl⟩,⟨⟨rfl,rfl,.inr rfl⟩,⟨⟨rfl,rfl,.inr rfl⟩,⟨⟨rfl,rfl,.inr rfl⟩,⟨⟨rfl,rfl,.inr rfl⟩,⟨⟨rfl,rfl,.inr rfl⟩,⟨⟨rfl,rfl,.inr rfl⟩,⟨⟨rfl,rfl,.inr rfl⟩,⟨⟨rfl,rfl,.inr rfl⟩,⟨⟨rfl,rfl,.inr rfl⟩,⟨⟨rfl,rfl,.inr rfl⟩,⟨⟨rfl,rfl,.inr rfl⟩,trivial⟩⟩⟩⟩⟩⟩⟩⟩⟩⟩⟩⟩⟩⟩⟩⟩⟩⟩⟩⟩⟩⟩⟩⟩⟩)))))))))))))))))))))))))))) ?_)
  refine mG (fm (t:=⟨[(0,.ptr 1000000 0)],[(1000000,[.p (eS t_0.fs),.p (eI t_0.fat),.p (eI t_0.fi),.p (eI t_0.ffrom),.p (eS t_0.ftext),.vec 32 11 0 ((t_0.fparts++[r3]).map ae),.p (eB t_0.fopen)])]⟩) (mb ⟨er rfl,trivial⟩ ⟨⟨_,rfl,⟨sr,sr,sr,sr,sr,AV.sub_of_eq (by first | (simp only [List.map_append,List.map_cons,List.map_nil,ac.agg_eq]; done) | (simp only [List.map_append,List.map_cons,List.map_nil,ac.agg_eq]; rfl)),sr,trivial⟩⟩,trivial⟩)) (nx 1 rfl ?_)
  exact eX _ (oi h1).symm (aN (bz 32 900000 rfl rfl rfl rfl rfl) (gE rfl rfl))
 exact nx 2 rfl (eX _ (oi h1).symm (gE rfl rfl))
def dp (r_expr_quoted:Bytes→Int→Option Int)(s_0:Bytes):Nat→Int→Int→Option (Unit⊕Int)
 | 0,_,_=>none
 | m+1,i18,depth19 =>
 if i18 < (s_0.length:Int) then
  ck ((0:Int)≤i18∧i18 < (s_0.length:Int)) <|
  jn (
    if byt s_0 i18=123 then
     ck (inR (depth19+1)) <|
     some (.inl (i18,depth19+1))
    else
     if byt s_0 i18=125 then
      ck (inR (depth19 - 1)) <|
      if depth19 - 1=0 then
       some (.inr (.inr i18))
      else
       some (.inl (i18,depth19 - 1))
     else
      if byt s_0 i18=34 then
       ck (inR (i18+1)) <|
       (r_expr_quoted s_0 (i18+1)).bind λ r29 =>
       if r29 < 0 then
        some (.inr (.inr (-1)))
       else
        some (.inl (r29,depth19))
      else
       some (.inl (i18,depth19))
   : Option ((Int×Int)⊕(Unit⊕Int))) λ q38 =>
  ck (inR (q38.1+1)) <|
  dp r_expr_quoted s_0 m (q38.1+1) q38.2
 else
  some (.inl ())
def dJ (r_expr_closing:Bytes→Int→Option Int)(s_0:Bytes):Nat→Int→Option (Unit⊕Int)
 | 0,_=>none
 | m+1,i23 =>
 if i23 < (s_0.length:Int) then
  jn (
    ck ((0:Int)≤i23∧i23 < (s_0.length:Int)) <|
    if byt s_0 i23=34 then
     some (.inr (.inr i23))
    else
     ck ((0:Int)≤i23∧i23 < (s_0.length:Int)) <|
     if byt s_0 i23=92 then
      ck (inR (i23+1)) <|
      some (.inl (i23+1))
     else
      ck ((0:Int)≤i23∧i23≤(s_0.length:Int)∧(s_0.length:Int)≤(s_0.length:Int)) <|
      (strings_HasPrefix (sub s_0 i23 (s_0.length:Int)) ([36,36,123]:Bytes)).bind λ r31 =>
      if r31=true then
       ck (inR (i23+2)) <|
       some (.inl (i23+2))
      else
       ck ((0:Int)≤i23∧i23≤(s_0.length:Int)∧(s_0.length:Int)≤(s_0.length:Int)) <|
       (strings_HasPrefix (sub s_0 i23 (s_0.length:Int)) ([36,123]:Bytes)).bind λ r36 =>
       if r36=true then
        ck (inR (i23+2)) <|
        (r_expr_closing s_0 (i23+2)).bind λ r40 =>
        if r40 < 0 then
         some (.inr (.inr (-1)))
        else
         some (.inl r40)
       else
        some (.inl i23)
   : Option (Int⊕(Unit⊕Int))) λ i43 =>
  ck (inR (i43+1)) <|
  dJ r_expr_closing s_0 m (i43+1)
 else
  some (.inl ())
mutual
def cM:Nat→Bytes→Int→Option Int
 | 0,_,_=>none
 | n+1,s_0,i_1 =>
 jn (dp (eT n) s_0 n i_1 1) λ q37 =>
 some (-1)
def eT:Nat→Bytes→Int→Option Int
 | 0,_,_=>none
 | n+1,s_0,i_1 =>
 jn (dJ (cM n) s_0 n i_1) λ q46 =>
 some (-1)
end
set_option maxHeartbeats 4000000 in
theorem mZ (n:Nat):(∀ (s_0:Bytes) (i_1:Int) (r:Int),cM n s_0 i_1=some r→au Tryz.prog 124 [eS s_0,eI i_1] (·=.p (eI r)))∧(∀ (s_0:Bytes) (i_1:Int) (r:Int),eT n s_0 i_1=some r→au Tryz.prog 156 [eS s_0,eI i_1] (·=.p (eI r))):=by
 induction n with
 | zero=>exact ⟨(by intro s_0 i_1 r h0; cases h0),(by intro s_0 i_1 r h0; cases h0)⟩
 | succ n ih =>
 obtain ⟨ih_expr_closing_ok,ih_expr_quoted_ok⟩:=ih
 refine ⟨?_,?_⟩
 ·skip
  intro s_0 i_1 r h0
  rw [cM] at h0
  refine aW good Tryz.func124 rfl rfl rfl λ w0=>mP (λ v:Int=>.p (eI v)) ?_
  refine nx 10 rfl ?_
  obtain ⟨o39,h1,hL0,hR0⟩:=cz h0
  refine kEx 0 (λ v40:Unit=>o39=.inl v40) (λ v40=>⟨[],[]⟩) (λ v40 hv=>?_) ?_
  ·have h0:=hL0 _ hv
   exact nx 6 rfl (mQ (oi h0) rfl (sr))
  refine lG (λ (q41:Int×Int)=>⟨[(0,.p (eS s_0)),(1,.p (eI q41.1)),(5,.p (eI q41.2))],[]⟩) (λ m (q41:Int×Int)=>dp (eT n) s_0 m q41.1 q41.2) (λ _=>rfl) (i_1,1) h1 (gE rfl rfl) ?_
  rintro m ⟨i18,depth19⟩ h1
  replace h1:dp (eT n) s_0 (m+1) i18 depth19=some o39:=h1
  rw [dp] at h1
  refine nx 5 rfl (oLs rfl ?_)
  refine nx 2 rfl (fD [9] h1 rfl (λ c20 h1=>?_) λ c20 h1=>?_)
  ·refine nx 8 rfl (oI h1 rfl λ hk21 h1=>?_)
   refine nx 1 rfl ?_
   obtain ⟨o42,h2,hL1,hR1⟩:=cz h1
   refine kX (λ v43:Int×Int=>o42=.inl v43) (λ v43=>⟨[(0,.p (eS s_0)),(1,.p (eI v43.1)),(5,.p (eI v43.2))],[]⟩) (λ v43 hv=>?_) ?_
   ·have h1:=hL1 _ hv
    refine nx 3 rfl (oA h1 rfl rfl λ hk34 h1=>?_)
    exact nx 2 rfl (eX (v43.1+1,v43.2) h1 (gE rfl rfl))
   refine nx 6 rfl (fD [15,16] h2 rfl (λ c22 h2=>?_) λ c22 h2=>?_)
   ·refine nx 3 rfl (oA h2 rfl rfl λ hk23 h2=>?_)
    exact nx 2 rfl (eX _ (oi h2).symm (gE rfl rfl))
   refine nx 6 rfl (fD [19,20] h2 rfl (λ c24 h2=>?_) λ c24 h2=>?_)
   ·refine nx 4 rfl (oA h2 rfl rfl λ hk25 h2=>?_)
    refine nx 7 rfl (fD [24] h2 rfl (λ c26 h2=>?_) λ c26 h2=>?_)
    ·exact nx 7 rfl (mQ (hR0 _ (hR1 _ (oi h2).symm).symm) rfl (sr))
    exact nx 2 rfl (eX _ (oi h2).symm (gE rfl rfl))
   refine nx 6 rfl (fD [26,27] h2 rfl (λ c27 h2=>?_) λ c27 h2=>?_)
   ·refine nx 5 rfl (oA h2 rfl rfl λ hk28 h2=>?_)
    refine bd h2 λ r29 e30 h2=>oK (ih_expr_quoted_ok s_0 (i18+1) _ e30) rfl ⟨sr,sr,trivial⟩ Tryz.call156 rfl (nx 7 rfl ?_)
    refine fD [33] h2 rfl (λ c31 h2=>?_) λ c31 h2=>?_
    ·exact nx 6 rfl (mQ (hR0 _ (hR1 _ (oi h2).symm).symm) rfl (sr))
    exact nx 2 rfl (eX _ (oi h2).symm (gE rfl rfl))
   exact nx 2 rfl (eX _ (oi h2).symm (gE rfl rfl))
  exact nx 2 rfl (eXi _ (oi h1).symm (gE rfl rfl))
 ·skip
  intro s_0 i_1 r h0
  rw [eT] at h0
  refine aW good Tryz.func156 rfl rfl rfl λ w0=>mP (λ v:Int=>.p (eI v)) ?_
  refine nx 6 rfl ?_
  obtain ⟨o48,h1,hL0,hR0⟩:=cz h0
  refine kEx 0 (λ v49:Unit=>o48=.inl v49) (λ v49=>⟨[],[]⟩) (λ v49 hv=>?_) ?_
  ·have h0:=hL0 _ hv
   exact nx 6 rfl (mQ (oi h0) rfl (sr))
  refine lG (λ (q50:Int)=>⟨[(0,.p (eS s_0)),(1,.p (eI q50))],[]⟩) (λ m (q50:Int)=>dJ (cM n) s_0 m q50) (λ _=>rfl) i_1 h1 (gE rfl rfl) ?_
  rintro m i23 h1
  replace h1:dJ (cM n) s_0 (m+1) i23=some o48:=h1
  rw [dJ] at h1
  refine nx 5 rfl (oLs rfl ?_)
  refine nx 2 rfl (fD [8] h1 rfl (λ c24 h1=>?_) λ c24 h1=>?_)
  ·refine nx 4 rfl ?_
   obtain ⟨o51,h2,hL1,hR1⟩:=cz h1
   refine kX (λ v52:Int=>o51=.inl v52) (λ v52=>⟨[(0,.p (eS s_0)),(1,.p (eI v52))],[]⟩) (λ v52 hv=>?_) ?_
   ·have h1:=hL1 _ hv
    refine nx 3 rfl (oA h1 rfl rfl λ hk44 h1=>?_)
    exact nx 2 rfl (eX (v52+1) h1 (gE rfl rfl))
   refine nx 5 rfl (oI h2 rfl λ hk25 h2=>?_)
   refine nx 3 rfl (fD [11,15] h2 rfl (λ c26 h2=>?_) λ c26 h2=>?_)
   ·exact nx 7 rfl (mQ (hR0 _ (hR1 _ (oi h2).symm).symm) rfl (sr))
   refine nx 5 rfl (oI h2 rfl λ hk27 h2=>?_)
   refine nx 3 rfl (fD [17,21] h2 rfl (λ c28 h2=>?_) λ c28 h2=>?_)
   ·refine nx 3 rfl (oA h2 rfl rfl λ hk29 h2=>?_)
    exact nx 2 rfl (eX _ (oi h2).symm (gE rfl rfl))
   refine nx 5 rfl (oP h2 rfl rfl rfl λ hk30 h2=>?_)
   refine bd h2 λ r31 e32 h2=>oK (bU (sub s_0 i23 (s_0.length:Int)) ([36,36,123]:Bytes) _ e32) rfl ⟨sr,sr,trivial⟩ Tryz.call75 rfl (nx 2 rfl ?_)
   refine fB [24,28] h2 rfl (λ c33 h2=>?_) λ c33 h2=>?_
   ·refine nx 3 rfl (oA h2 rfl rfl λ hk34 h2=>?_)
    exact nx 2 rfl (eX _ (oi h2).symm (gE rfl rfl))
   refine nx 5 rfl (oP h2 rfl rfl rfl λ hk35 h2=>?_)
   refine bd h2 λ r36 e37 h2=>oK (bU (sub s_0 i23 (s_0.length:Int)) ([36,123]:Bytes) _ e37) rfl ⟨sr,sr,trivial⟩ Tryz.call75 rfl (nx 2 rfl ?_)
   refine fB [31,35] h2 rfl (λ c38 h2=>?_) λ c38 h2=>?_
   ·refine nx 5 rfl (oA h2 rfl rfl λ hk39 h2=>?_)
    refine bd h2 λ r40 e41 h2=>oK (ih_expr_closing_ok s_0 (i23+2) _ e41) rfl ⟨sr,sr,trivial⟩ Tryz.call124 rfl (nx 2 rfl ?_)
    refine mG (gE (t:=⟨[(0,.p (eS s_0)),(1,.p (eI r40))],[]⟩) rfl rfl) (nx 5 rfl ?_)
    refine fD [41] h2 rfl (λ c42 h2=>?_) λ c42 h2=>?_
    ·exact nx 6 rfl (mQ (hR0 _ (hR1 _ (oi h2).symm).symm) rfl (sr))
    exact nx 2 rfl (eX _ (oi h2).symm (gE rfl rfl))
   exact nx 2 rfl (eX _ (oi h2).symm (gE rfl rfl))
  exact nx 2 rfl (eXi _ (oi h1).symm (gE rfl rfl))
theorem nT (n:Nat):∀ (s_0:Bytes) (i_1:Int) (r:Int),cM n s_0 i_1=some r→au Tryz.prog 124 [eS s_0,eI i_1] (·=.p (eI r)):=(mZ n).1
def cj (s_0:Bytes):Nat→Int→Option Int
 | 0,_=>none
 | m+1,n10 =>
 (
   if n10 < (s_0.length:Int) then
    if n10 < 6 then
     ck ((0:Int)≤n10∧n10 < (s_0.length:Int)) <|
     (strings_IndexByte ([48,49,50,51,52,53,54,55,56,57,97,98,99,100,101,102]:Bytes) (byt s_0 n10)).bind λ r14 =>
     some (decide (0≤r14))
    else
     some false
   else
    some false
  : Option Bool).bind λ t16 =>
 if t16=true then
  ck (inR (n10+1)) <|
  cj s_0 m (n10+1)
 else
  some n10
def d5 (n:Nat)(s_0:Bytes):Option Int :=
 (cj s_0 n 0).bind λ n20 =>
 some n20
set_option maxHeartbeats 4000000 in
theorem lC (n:Nat)(s_0:Bytes)(r:Int)(h0:d5 n s_0=some r):au Tryz.prog 157 [eS s_0] (·=.p (eI r)):=by
 unfold d5 at h0
 refine aW good Tryz.func157 rfl rfl rfl λ w0=>mP (λ v:Int=>.p (eI v)) ?_
 refine nx 10 rfl (bd h0 λ o23 h1 h0=>?_)
 refine kE 0 o23 (λ v24=>⟨[(3,.p (eI v24))],[]⟩) ?_ ?_
 ·exact nx 7 rfl (mQ (oi h0) rfl (sr))
 refine lG (λ (q25:Int)=>⟨[(0,.p (eS s_0)),(3,.p (eI q25))],[]⟩) (λ m (q25:Int)=>cj s_0 m q25) (λ _=>rfl) 0 h1 (gE rfl rfl) ?_
 rintro m n10 h1
 replace h1:cj s_0 (m+1) n10=some o23:=h1
 rw [cj] at h1
 refine nx 2 rfl (bd h1 λ o26 h2 h1=>?_)
 refine kN o26 (λ v27=>⟨[(0,.p (eS s_0)),(3,.p (eI n10)),(18,.p (eB v27))],[]⟩) ?_ ?_
 ·refine nx 1 rfl (fB [18] h1 rfl (λ c17 h1=>?_) λ c17 h1=>?_)
  ·refine nx 5 rfl (oA h1 rfl rfl λ hk18 h1=>?_)
   exact nx 2 rfl (eX (n10+1) h1 (gE rfl rfl))
  exact nx 2 rfl (eXi _ (oi h1).symm (gE rfl rfl))
 refine nx 3 rfl (oLs rfl ?_)
 refine nx 2 rfl (fD [7,8] h2 rfl (λ c11 h2=>?_) λ c11 h2=>?_)
 ·refine nx 4 rfl (fD [10,11,12] h2 rfl (λ c12 h2=>?_) λ c12 h2=>?_)
  ·refine nx 2 rfl (oI h2 rfl λ hk13 h2=>?_)
   refine bd h2 λ r14 e15 h2=>oK (ek ([48,49,50,51,52,53,54,55,56,57,97,98,99,100,101,102]:Bytes) (byt s_0 n10) _ e15) rfl ⟨sr,sr,trivial⟩ Tryz.call85 rfl (nx 3 rfl ?_)
   exact eX _ (oi h2).symm (gE rfl rfl)
  exact nx 7 rfl (eX _ (oi h2).symm (gE rfl rfl))
 exact nx 11 rfl (eX _ (oi h2).symm (gE rfl rfl))
def gC (n:Nat)(s_0:Bytes):Option (Bytes×Int×Int) :=
 jn (
   (strings_HasPrefix s_0 ([92,117]:Bytes)).bind λ r1 =>
   if r1=true then
    (
      if 2 < (s_0.length:Int) then
       ck ((0:Int)≤2∧2 < (s_0.length:Int)) <|
       some (!decide (byt s_0 2=123))
      else
       some false
     : Option Bool).bind λ t6 =>
    if t6=true then
     some (.inr (([]:Bytes),0,2))
    else
     if 3 < (s_0.length:Int) then
      ck ((0:Int)≤3∧3≤(s_0.length:Int)∧(s_0.length:Int)≤(s_0.length:Int)) <|
      (d5 n (sub s_0 3 (s_0.length:Int))).bind λ r10 =>
      ck (inR (4+r10)) <|
      some (.inl (4+r10))
     else
      some (.inl 4)
   else
    some (.inl 2)
  : Option (Int⊕(Bytes×Int×Int))) λ n13 =>
 if (s_0.length:Int) < n13 then
  some (([]:Bytes),0,40)
 else
  ck ((0:Int)≤0∧0≤n13∧n13≤(s_0.length:Int)) <|
  ck (([34]:Bytes).length+(sub s_0 0 n13).length≤9223372036854775807) <|
  ck ((([34]:Bytes)++(sub s_0 0 n13)).length+([34]:Bytes).length≤9223372036854775807) <|
  (eC n ((([34]:Bytes)++(sub s_0 0 n13))++([34]:Bytes))).bind λ r18 =>
  if r18.2.2=0 then
   some (r18.1,n13,0)
  else
   some (([]:Bytes),0,2)
set_option maxHeartbeats 4000000 in
theorem oz (n:Nat)(s_0:Bytes)(r:Bytes×Int×Int)(h0:gC n s_0=some r):au Tryz.prog 125 [eS s_0] (·=.tuple [.p (eS r.1),.p (eI r.2.1),.p (eI r.2.2)]):=by
 unfold gC at h0
 refine aW good Tryz.func125 rfl rfl rfl λ w0=>mP (λ v:Bytes×Int×Int=>.tuple [.p (eS v.1),.p (eI v.2.1),.p (eI v.2.2)]) ?_
 refine nx 11 rfl ?_
 obtain ⟨o23,h1,hL0,hR0⟩:=cz h0
 refine kX (λ v24:Int=>o23=.inl v24) (λ v24=>⟨[(0,.p (eS s_0)),(5,.p (eI v24))],[]⟩) (λ v24 hv=>?_) ?_
 ·have h0:=hL0 _ hv
  refine nx 6 rfl (oLs rfl ?_)
  refine nx 2 rfl (fD [29] h0 rfl (λ c14 h0=>?_) λ c14 h0=>?_)
  ·exact nx 8 rfl (mQ (oi h0) rfl (ap ⟨sr,sr,sr,trivial⟩))
  refine nx 6 rfl (oP h0 rfl rfl rfl λ hk15 h0=>?_)
  refine oC h0 rfl λ hk16 h0=>oC h0 rfl λ hk17 h0=>bd h0 λ r18 e19 h0=>oK (my _ ((([34]:Bytes)++(sub s_0 0 v24))++([34]:Bytes)) _ e19) rfl ⟨sr,trivial⟩ Tryz.call158 rfl (nx 14 rfl ?_)
  refine fN [41] h0 rfl (λ c20 h0=>?_) λ c20 h0=>?_
  ·exact nx 11 rfl (mQ (oi h0) rfl (ap ⟨sr,sr,sr,trivial⟩))
  exact nx 8 rfl (mQ (oi h0) rfl (ap ⟨sr,sr,sr,trivial⟩))
 refine nx 3 rfl (bd h1 λ r1 e2 h1=>?_)
 refine oK (bU s_0 ([92,117]:Bytes) _ e2) rfl ⟨sr,sr,trivial⟩ Tryz.call75 rfl (nx 1 rfl ?_)
 refine fB [10] h1 rfl (λ c3 h1=>?_) λ c3 h1=>?_
 ·refine nx 3 rfl (bd h1 λ o25 h2 h1=>?_)
  refine kN o25 (λ v26=>⟨[(0,.p (eS s_0)),(18,.p (eB v26))],[]⟩) ?_ ?_
  ·refine nx 1 rfl (fB [18] h1 rfl (λ c7 h1=>?_) λ c7 h1=>?_)
   ·exact nx 8 rfl (mQ (hR0 _ (oi h1).symm) rfl (ap ⟨sr,sr,sr,trivial⟩))
   refine nx 9 rfl (oLs rfl ?_)
   refine nx 2 rfl (fD [21] h1 rfl (λ c8 h1=>?_) λ c8 h1=>?_)
   ·refine nx 3 rfl (oP h1 rfl rfl rfl λ hk9 h1=>?_)
    refine bd h1 λ r10 e11 h1=>oK (lC _ (sub s_0 3 (s_0.length:Int)) _ e11) rfl ⟨sr,trivial⟩ Tryz.call157 rfl (oA h1 rfl rfl λ hk12 h1=>?_)
    exact nx 2 rfl (eX _ (oi h1).symm (gE rfl rfl))
   exact nx 4 rfl (eX _ (oi h1).symm (gE rfl rfl))
  refine nx 2 rfl (oLs rfl ?_)
  refine nx 2 rfl (fD [13,14] h2 rfl (λ c4 h2=>?_) λ c4 h2=>?_)
  ·refine nx 1 rfl (oI h2 rfl λ hk5 h2=>?_)
   exact nx 3 rfl (eX _ (oi h2).symm (gE rfl rfl))
  exact nx 5 rfl (eX _ (oi h2).symm (gE rfl rfl))
 exact nx 2 rfl (eX _ (oi h1).symm (gE rfl rfl))
def dC (n:Nat)(t_0:af):Option (ao×af) :=
 ck ((0:Int)≤t_0.fi∧t_0.fi≤(t_0.fs.length:Int)∧(t_0.fs.length:Int)≤(t_0.fs.length:Int)) <|
 jn (
   ck ((0:Int)≤0∧0 < ((sub t_0.fs t_0.fi (t_0.fs.length:Int)).length:Int)) <|
   if byt (sub t_0.fs t_0.fi (t_0.fs.length:Int)) 0=92 then
    (gC n (sub t_0.fs t_0.fi (t_0.fs.length:Int))).bind λ r4 =>
    if r4.2.2=0 then
     ck (t_0.ftext.length+r4.1.length≤9223372036854775807) <|
     ck (inR (t_0.fi+r4.2.1)) <|
     some (.inl (t_0.fi+r4.2.1,t_0.ftext++r4.1))
    else
     ck (inR (t_0.fat+t_0.fi)) <|
     some (.inr ((ao.mk r4.2.2 (t_0.fat+t_0.fi) ([]:Bytes)),(af.mk t_0.fs t_0.fat t_0.fi t_0.ffrom t_0.ftext t_0.fparts t_0.fopen)))
   else
    (ct (sub t_0.fs t_0.fi (t_0.fs.length:Int))).bind λ r10 =>
    (
      if r10.1=65533 then
       if r10.2=1 then
        some true
       else
        if r10.1 < 32 then
         some true
        else
         if r10.1=127 then
          some true
         else
          some (decide (r10.1=34))
      else
       if r10.1 < 32 then
        some true
       else
        if r10.1=127 then
         some true
        else
         some (decide (r10.1=34))
     : Option Bool).bind λ t18 =>
    if t18=true then
     ck (inR (t_0.fat+t_0.fi)) <|
     some (.inr ((ao.mk 2 (t_0.fat+t_0.fi) ([]:Bytes)),(af.mk t_0.fs t_0.fat t_0.fi t_0.ffrom t_0.ftext t_0.fparts t_0.fopen)))
    else
     ck ((0:Int)≤0∧0≤r10.2∧r10.2≤((sub t_0.fs t_0.fi (t_0.fs.length:Int)).length:Int)) <|
     ck (t_0.ftext.length+(sub (sub t_0.fs t_0.fi (t_0.fs.length:Int)) 0 r10.2).length≤9223372036854775807) <|
     ck (inR (t_0.fi+r10.2)) <|
     some (.inl (t_0.fi+r10.2,t_0.ftext++(sub (sub t_0.fs t_0.fi (t_0.fs.length:Int)) 0 r10.2)))
  : Option ((Int×Bytes)⊕(ao×af))) λ q28 =>
 (fc (af.mk t_0.fs t_0.fat q28.1 t_0.ffrom q28.2 t_0.fparts t_0.fopen)).bind λ r26 =>
 some (r26.1,(af.mk r26.2.fs r26.2.fat r26.2.fi r26.2.ffrom r26.2.ftext r26.2.fparts r26.2.fopen))
set_option maxHeartbeats 4000000 in
theorem ku (n:Nat)(t_0:af)(r:ao×af)(h0:dC n t_0=some r):aF Tryz.prog 78 [.ptr 1000000 0] [(1000000,[.p (eS t_0.fs),.p (eI t_0.fat),.p (eI t_0.fi),.p (eI t_0.ffrom),.p (eS t_0.ftext),.vec 900000 11 0 (t_0.fparts.map ae),.p (eB t_0.fopen)])] (λ x y=>x=.p (.agg (ao.cs r.1))∧y=[(1000000,[.p (eS r.2.fs),.p (eI r.2.fat),.p (eI r.2.fi),.p (eI r.2.ffrom),.p (eS r.2.ftext),.vec 2000000 11 0 (r.2.fparts.map ae),.p (eB r.2.fopen)])]):=by
 unfold dC at h0
 refine bF good [800000] [1000000] Tryz.func78 rfl rfl rfl rfl rfl λ w0 F=>mPo (λ v:ao×af=>.p (.agg (ao.cs v.1))) (λ v=>[(1000000,[.p (eS v.2.fs),.p (eI v.2.fat),.p (eI v.2.fi),.p (eI v.2.ffrom),.p (eS v.2.ftext),.vec 2000000 11 0 (v.2.fparts.map ae),.p (eB v.2.fopen)])]) ?_
 refine nx 5 rfl (cc' h0 λ hk1 h0=>?_)
 refine mD [(0,.ptr 1000000 0),(2,.ptr 2 0)] rfl ⟨rfl,rfl,trivial⟩ rfl (dR 8 rfl ?_)
 refine dq (.p (eS (sub t_0.fs t_0.fi (t_0.fs.length:Int)))) [12,16] rfl (λ _ e _ q=>ag rfl (cF (a:=t_0.fs) (l:=t_0.fi) (h:=(t_0.fs.length:Int)) rfl rfl rfl rfl rfl (e _ _ rfl) (ew (e _ _ rfl)) rfl hk1 q)) rfl (dR 1 rfl ?_)
 refine dE rfl (nx 2 rfl ?_)
 obtain ⟨o30,h1,hL0,hR0⟩:=cz h0
 refine kX (λ v31:Int×Bytes=>o30=.inl v31) (λ v31=>⟨[(0,.ptr 1000000 0),(2,.ptr 2 0)],[(2,d8),(1000000,[.p (eS t_0.fs),.p (eI t_0.fat),.p (eI v31.1),.p (eI t_0.ffrom),.p (eS v31.2),.vec 900000 11 0 (t_0.fparts.map ae),.p (eB t_0.fopen)])]⟩) (λ v31 hv=>?_) ?_
 ·have h0:=hL0 _ hv
  refine nx 4 rfl (bd h0 λ r26 e27 h0=>?_)
  refine mO rfl (cVq [1000000] [900000] 101000 101001 (gW (af.mk t_0.fs t_0.fat v31.1 t_0.ffrom v31.2 t_0.fparts t_0.fopen) _ e27) Tryz.call76 rfl ?_)
  exact nx 3 rfl (mQo (oi h0) (aN (bz 101000 800000 rfl rfl rfl rfl rfl) (al _)) rfl rfl rfl rfl (sr) ⟨⟨_,rfl,⟨sr,sr,sr,sr,sr,sr,sr,trivial⟩⟩,trivial⟩)
 refine nx 3 rfl (oI h1 rfl λ hk2 h1=>?_)
 refine nx 2 rfl (fD [20] h1 rfl (λ c3 h1=>?_) λ c3 h1=>?_)
 ·refine nx 4 rfl (bd h1 λ r4 e5 h1=>?_)
  refine oK (oz _ (sub t_0.fs t_0.fi (t_0.fs.length:Int)) _ e5) rfl ⟨sr,trivial⟩ Tryz.call125 rfl (nx 14 rfl ?_)
  refine fN [28] h1 rfl (λ c6 h1=>?_) λ c6 h1=>?_
  ·refine nx 9 rfl (oC h1 rfl λ hk8 h1=>?_)
   refine nx 4 rfl (mG (gE (t:=⟨[(0,.ptr 1000000 0),(2,.ptr 2 0),(5,.p (eI r4.2.1))],[(2,d8),(1000000,[.p (eS t_0.fs),.p (eI t_0.fat),.p (eI t_0.fi),.p (eI t_0.ffrom),.p (eS (t_0.ftext++r4.1)),.vec 900000 11 0 (t_0.fparts.map ae),.p (eB t_0.fopen)])]⟩) rfl rfl) ?_)
   refine nx 6 rfl (oA h1 rfl rfl λ hk9 h1=>?_)
   exact nx 4 rfl (eX _ (oi h1).symm (gE rfl rfl))
  refine nx 2 rfl (cc' h1 λ hk7 h1=>?_)
  refine mG (gE (t:=⟨[(0,.ptr 1000000 0),(2,.ptr 2 0),(6,.p (eI r4.2.2))],[(2,d8),(1000000,[.p (eS t_0.fs),.p (eI t_0.fat),.p (eI t_0.fi),.p (eI t_0.ffrom),.p (eS t_0.ftext),.vec 900000 11 0 (t_0.fparts.map ae),.p (eB t_0.fopen)])]⟩) rfl rfl) (mSq ⟨1,[11],(λ _=>.none),(λ _=>[(0,.ptr 1000000 0),(2,.ptr 2 0),(6,.p (eI r4.2.2))]),(ob2 ([(2,d8),(1000000,[.p (eS t_0.fs),.p (eI t_0.fat),.p (eI t_0.fi),.p (eI t_0.ffrom),.p (eS t_0.ftext),.vec 900000 11 0 (t_0.fparts.map ae),.p (eB t_0.fopen)])]) (2,[.p (eI r4.2.2),.p (eI (t_0.fat+t_0.fi)),.p (eS ([]:Bytes))]))⟩ rfl ?_)
  refine dPc (.p (eI r4.2.2)) rfl (dPc (.ptr 1000000 0) rfl ?_)
  refine dPc (.ptr 1000000 0) rfl (dPc (.ptr 1000000 1) rfl ?_)
  refine dPc (.p (eI t_0.fat)) rfl (dPc (.ptr 1000000 0) rfl ?_)
  refine dPc (.ptr 1000000 0) rfl (dPc (.ptr 1000000 2) rfl ?_)
  refine dPc (.p (eI t_0.fi)) rfl (aD (λ _=>.p (eI (t_0.fat+t_0.fi))) rfl rfl rfl (fF rfl (λ _=>rfl)) (lt1 rfl) (ar rfl (av [(33,_),(37,_)] ⟨.inr ⟨4,_,rfl,rfl,rfl⟩,.inr ⟨8,_,rfl,rfl,rfl⟩,trivial⟩ (λ sl hsl K hK=>ag rfl (de rfl rfl rfl (hsl _ _ rfl) (hsl _ _ rfl) rfl hk7 hK)) aE)) ?_)
  refine dPc (.p (.agg [eI r4.2.2,eI (t_0.fat+t_0.fi),eS ([]:Bytes)])) rfl (dS rfl ?_)
  refine cP (nx 2 rfl ?_)
  exact mQo (hR0 _ (oi h1).symm) (aN (bz 900000 800000 rfl rfl rfl rfl rfl) (al _)) rfl rfl rfl rfl (sr) ⟨⟨_,rfl,⟨sr,sr,sr,sr,sr,sr,sr,trivial⟩⟩,trivial⟩
 refine nx 4 rfl (bd h1 λ r10 e11 h1=>?_)
 refine oK (cN (sub t_0.fs t_0.fi (t_0.fs.length:Int)) _ e11) rfl ⟨sr,trivial⟩ Tryz.call126 rfl (nx 8 rfl ?_)
 refine bd h1 λ o32 h2 h1=>kN o32 (λ v33=>⟨[(0,.ptr 1000000 0),(2,.ptr 2 0),(3,.p (eS (sub t_0.fs t_0.fi (t_0.fs.length:Int)))),(8,.p (eI r10.2)),(78,.p (eB v33))],[(2,d8),(1000000,[.p (eS t_0.fs),.p (eI t_0.fat),.p (eI t_0.fi),.p (eI t_0.ffrom),.p (eS t_0.ftext),.vec 900000 11 0 (t_0.fparts.map ae),.p (eB t_0.fopen)])]⟩) ?_ ?_
 ·refine nx 1 rfl (fB [78] h1 rfl (λ c19 h1=>?_) λ c19 h1=>?_)
  ·refine nx 2 rfl (cc' h1 λ hk20 h1=>?_)
   refine mG (gE (t:=⟨[(0,.ptr 1000000 0),(2,.ptr 2 0)],[(2,d8),(1000000,[.p (eS t_0.fs),.p (eI t_0.fat),.p (eI t_0.fi),.p (eI t_0.ffrom),.p (eS t_0.ftext),.vec 900000 11 0 (t_0.fparts.map ae),.p (eB t_0.fopen)])]⟩) rfl rfl) (mSq ⟨1,[10],(λ _=>.none),(λ _=>[(0,.ptr 1000000 0),(2,.ptr 2 0)]),(ob2 ([(2,d8),(1000000,[.p (eS t_0.fs),.p (eI t_0.fat),.p (eI t_0.fi),.p (eI t_0.ffrom),.p (eS t_0.ftext),.vec 900000 11 0 (t_0.fparts.map ae),.p (eB t_0.fopen)])]) (2,[.p (eI 2),.p (eI (t_0.fat+t_0.fi)),.p (eS ([]:Bytes))]))⟩ rfl ?_)
   refine dPc (.ptr 1000000 0) rfl (dPc (.ptr 1000000 0) rfl ?_)
   refine dPc (.ptr 1000000 1) rfl (dPc (.p (eI t_0.fat)) rfl ?_)
   refine dPc (.ptr 1000000 0) rfl (dPc (.ptr 1000000 0) rfl ?_)
   refine dPc (.ptr 1000000 2) rfl (dPc (.p (eI t_0.fi)) rfl ?_)
   refine aD (λ _=>.p (eI (t_0.fat+t_0.fi))) rfl rfl rfl (fF rfl (λ _=>rfl)) (lt1 rfl) (ar rfl (av [(82,_),(86,_)] ⟨.inr ⟨3,_,rfl,rfl,rfl⟩,.inr ⟨7,_,rfl,rfl,rfl⟩,trivial⟩ (λ sl hsl K hK=>ag rfl (de rfl rfl rfl (hsl _ _ rfl) (hsl _ _ rfl) rfl hk20 hK)) aE)) (dPc (.p (.agg [eI 2,eI (t_0.fat+t_0.fi),eS ([]:Bytes)])) rfl ?_)
   refine dS rfl (cP ?_)
   exact nx 2 rfl (mQo (hR0 _ (oi h1).symm) (aN (bz 900000 800000 rfl rfl rfl rfl rfl) (al _)) rfl rfl rfl rfl (sr) ⟨⟨_,rfl,⟨sr,sr,sr,sr,sr,sr,sr,trivial⟩⟩,trivial⟩)
  refine nx 3 rfl (cc' h1 λ hk21 h1=>?_)
  refine cc' h1 λ hk22 h1=>mG (gE (t:=⟨[(0,.ptr 1000000 0),(2,.ptr 2 0),(3,.p (eS (sub t_0.fs t_0.fi (t_0.fs.length:Int)))),(8,.p (eI r10.2))],[(2,d8),(1000000,[.p (eS t_0.fs),.p (eI t_0.fat),.p (eI t_0.fi),.p (eI t_0.ffrom),.p (eS t_0.ftext),.vec 900000 11 0 (t_0.fparts.map ae),.p (eB t_0.fopen)])]⟩) rfl rfl) (mSq ⟨1,[10],(λ _=>.none),(λ _=>[(0,.ptr 1000000 0),(2,.ptr 2 0),(3,.p (eS (sub t_0.fs t_0.fi (t_0.fs.length:Int)))),(8,.p (eI r10.2))]),(ob2 ([(2,d8),(1000000,[.p (eS t_0.fs),.p (eI t_0.fat),.p (eI t_0.fi),.p (eI t_0.ffrom),.p (eS t_0.ftext),.vec 900000 11 0 (t_0.fparts.map ae),.p (eB t_0.fopen)])]) (1000000,[.p (eS t_0.fs),.p (eI t_0.fat),.p (eI t_0.fi),.p (eI t_0.ffrom),.p (eS (t_0.ftext++(sub (sub t_0.fs t_0.fi (t_0.fs.length:Int)) 0 r10.2))),.vec 900000 11 0 (t_0.fparts.map ae),.p (eB t_0.fopen)]))⟩ rfl ?_)
  refine dPc (.ptr 1000000 0) rfl (dPc (.ptr 1000000 0) rfl ?_)
  refine dPc (.ptr 1000000 4) rfl (dPc (.p (eS t_0.ftext)) rfl ?_)
  refine dPc (.p (eS (sub t_0.fs t_0.fi (t_0.fs.length:Int)))) rfl (dPc (.p (eI r10.2)) rfl ?_)
  refine aD (λ _=>.p (eS (sub (sub t_0.fs t_0.fi (t_0.fs.length:Int)) 0 r10.2))) rfl rfl rfl (fF rfl (λ _=>rfl)) (lt1 rfl) (ar rfl (av [(93,_),(94,_)] ⟨.inr ⟨4,_,rfl,rfl,rfl⟩,.inr ⟨5,_,rfl,rfl,rfl⟩,trivial⟩ (λ sl hsl K hK=>ag rfl (cF (a:=sub t_0.fs t_0.fi (t_0.fs.length:Int)) (l:=0) (h:=r10.2) rfl rfl rfl rfl rfl (hsl _ _ rfl) rfl (iD (hsl _ _ rfl)) hk21 hK)) aE)) (aD (λ _=>.p (eS (t_0.ftext++(sub (sub t_0.fs t_0.fi (t_0.fs.length:Int)) 0 r10.2)))) rfl rfl rfl (fF rfl (λ _=>rfl)) (lt1 rfl) (ar rfl (av [(92,_),(95,_)] ⟨.inr ⟨3,_,rfl,rfl,rfl⟩,.inr ⟨6,_,rfl,rfl,rfl⟩,trivial⟩ (λ sl hsl K hK=>ag rfl (mU rfl rfl rfl (hsl _ _ rfl) (hsl _ _ rfl) hk22 hK)) aE)) ?_)
  refine dPc (.ptr 1000000 0) rfl (dPc (.ptr 1000000 4) rfl ?_)
  refine dS rfl (cP ?_)
  refine nx 7 rfl (oA h1 rfl rfl λ hk23 h1=>?_)
  exact nx 4 rfl (eX _ (oi h1).symm (gE rfl rfl))
 refine nx 4 rfl (fD [62,63] h2 rfl (λ c12 h2=>?_) λ c12 h2=>?_)
 ·refine nx 4 rfl (fD [65,66,67] h2 rfl (λ c13 h2=>?_) λ c13 h2=>?_)
  ·exact nx 12 rfl (eX _ (oi h2).symm (gE rfl rfl))
  refine nx 4 rfl (fD [69,70,71] h2 rfl (λ c14 h2=>?_) λ c14 h2=>?_)
  ·exact nx 8 rfl (eX _ (oi h2).symm (gE rfl rfl))
  refine nx 4 rfl (fD [73,74,75] h2 rfl (λ c15 h2=>?_) λ c15 h2=>?_)
  ·exact nx 4 rfl (eX _ (oi h2).symm (gE rfl rfl))
  exact nx 4 rfl (eX _ (oi h2).symm (gE rfl rfl))
 refine nx 8 rfl (fD [69,70,71] h2 rfl (λ c16 h2=>?_) λ c16 h2=>?_)
 ·exact nx 8 rfl (eX _ (oi h2).symm (gE rfl rfl))
 refine nx 4 rfl (fD [73,74,75] h2 rfl (λ c17 h2=>?_) λ c17 h2=>?_)
 ·exact nx 4 rfl (eX _ (oi h2).symm (gE rfl rfl))
 exact nx 4 rfl (eX _ (oi h2).symm (gE rfl rfl))
def bQ (n:Nat)(p_0:ab):Option ab :=
 (ay n p_0).bind λ r1 =>
 ck (inR (r1.2.fnest+1)) <|
 some (ab.mk r1.2.fl r1.2.fat (r1.2.fnest+1) r1.2.fbase r1.2.fbad)
set_option maxHeartbeats 4000000 in
theorem dh (n:Nat)(p_0:ab)(r:ab)(h0:bQ n p_0=some r):aF Tryz.prog 185 [.ptr 1000000 0] [(1000000,((ab.cs p_0).map .p))] (λ x y=>x=.tuple []∧y=[(1000000,((ab.cs r).map .p))]):=by
 unfold bQ at h0
 refine bF good [] [1000000] Tryz.func185 rfl rfl rfl rfl rfl λ w0 F=>mPo (λ v:ab=>.tuple []) (λ v=>[(1000000,((ab.cs v).map .p))]) ?_
 refine nx 3 rfl (bd h0 λ r1 e2 h0=>?_)
 refine mO rfl (cVq [1000000] [] 101000 101000 (aA _ p_0 _ e2) Tryz.call102 rfl ?_)
 refine nx 6 rfl (oA h0 rfl rfl λ hk3 h0=>?_)
 exact nx 4 rfl (sc (oi h0) (al _) rfl rfl rfl rfl (sr) ⟨⟨_,rfl,⟨sr,sr,sr,sr,sr,sr,sr,trivial⟩⟩,trivial⟩)
def cb (n:Nat)(p_0:ab)(s_1:Bytes):Option ab :=
 (aJ n p_0 s_1).bind λ r1 =>
 if (!r1.1)=true then
  (aP n r1.2).bind λ r4 =>
  (bo r4.2 2 r4.1.fAt).bind λ r6 =>
  some r6.2
 else
  (ay n r1.2).bind λ r8 =>
  some r8.2
set_option maxHeartbeats 4000000 in
theorem dO (n:Nat)(p_0:ab)(s_1:Bytes)(r:ab)(h0:cb n p_0 s_1=some r):aF Tryz.prog 103 [.ptr 1000000 0,.p (eS s_1)] [(1000000,((ab.cs p_0).map .p))] (λ x y=>x=.tuple []∧y=[(1000000,((ab.cs r).map .p))]):=by
 unfold cb at h0
 refine bF good [] [1000000] Tryz.func103 rfl rfl rfl rfl rfl λ w0 F=>mPo (λ v:ab=>.tuple []) (λ v=>[(1000000,((ab.cs v).map .p))]) ?_
 refine nx 5 rfl (bd h0 λ r1 e2 h0=>?_)
 refine mO rfl (cVq [1000000] [] 101000 101000 (aU _ p_0 s_1 _ e2) Tryz.call101 rfl ?_)
 refine nx 2 rfl (fB [7] h0 rfl (λ c3 h0=>?_) λ c3 h0=>?_)
 ·refine nx 5 rfl (bd h0 λ r4 e5 h0=>?_)
  refine mO rfl (cVq [1000000] [] 102000 102000 (a6 _ r1.2 _ e5) Tryz.call70 rfl ?_)
  refine nx 1 rfl (bd h0 λ r6 e7 h0=>?_)
  refine mO rfl (cVq [1000000] [] 103000 103000 (bn r4.2 2 r4.1.fAt _ e7) Tryz.call71 rfl ?_)
  exact nx 2 rfl (fC h0 rfl)
 refine nx 4 rfl (bd h0 λ r8 e9 h0=>?_)
 refine mO rfl (cVq [1000000] [] 104000 104000 (aA _ r1.2 _ e9) Tryz.call102 rfl ?_)
 exact nx 1 rfl (sc (oi h0) (al _) rfl rfl rfl rfl (sr) ⟨⟨_,rfl,⟨sr,sr,sr,sr,sr,sr,sr,trivial⟩⟩,trivial⟩)
def bp (n:Nat)(p_0:ab)(s_1:Bytes):Option ab :=
 (cb n p_0 s_1).bind λ r1 =>
 ck (inR (r1.fnest - 1)) <|
 some (ab.mk r1.fl r1.fat (r1.fnest - 1) r1.fbase r1.fbad)
set_option maxHeartbeats 4000000 in
theorem cw (n:Nat)(p_0:ab)(s_1:Bytes)(r:ab)(h0:bp n p_0 s_1=some r):aF Tryz.prog 186 [.ptr 1000000 0,.p (eS s_1)] [(1000000,((ab.cs p_0).map .p))] (λ x y=>x=.tuple []∧y=[(1000000,((ab.cs r).map .p))]):=by
 unfold bp at h0
 refine bF good [] [1000000] Tryz.func186 rfl rfl rfl rfl rfl λ w0 F=>mPo (λ v:ab=>.tuple []) (λ v=>[(1000000,((ab.cs v).map .p))]) ?_
 refine nx 4 rfl (bd h0 λ r1 e2 h0=>?_)
 refine mO rfl (cVq [1000000] [] 101000 101000 (dO _ p_0 s_1 _ e2) Tryz.call103 rfl ?_)
 refine nx 6 rfl (oA h0 rfl rfl λ hk3 h0=>?_)
 exact nx 4 rfl (sc (oi h0) (al _) rfl rfl rfl rfl (sr) ⟨⟨_,rfl,⟨sr,sr,sr,sr,sr,sr,sr,trivial⟩⟩,trivial⟩)
def cC (n:Nat)(p_0:ab)(s_1:Bytes):Option (Bool×ab) :=
 (aP n p_0).bind λ r1 =>
 (
   (bZ r1.2).bind λ r3 =>
   if (!r3.1)=true then
    if r1.1.fKind=1 then
     some (decide (r1.1.fText=s_1),r3.2.fl,r3.2.fat,r3.2.fnest,r3.2.fbase,r3.2.fbad.fKind,r3.2.fbad.fAt,r3.2.fbad.fName)
    else
     some (false,r3.2.fl,r3.2.fat,r3.2.fnest,r3.2.fbase,r3.2.fbad.fKind,r3.2.fbad.fAt,r3.2.fbad.fName)
   else
    some (false,r3.2.fl,r3.2.fat,r3.2.fnest,r3.2.fbase,r3.2.fbad.fKind,r3.2.fbad.fAt,r3.2.fbad.fName)
  : Option (Bool×(List ai)×Int×Int×Int×Int×Int×Bytes)).bind λ q15 =>
 some (q15.1,(ab.mk q15.2.1 q15.2.2.1 q15.2.2.2.1 q15.2.2.2.2.1 (ao.mk q15.2.2.2.2.2.1 q15.2.2.2.2.2.2.1 q15.2.2.2.2.2.2.2)))
set_option maxHeartbeats 4000000 in
theorem eu (n:Nat)(p_0:ab)(s_1:Bytes)(r:Bool×ab)(h0:cC n p_0 s_1=some r):aF Tryz.prog 211 [.ptr 1000000 0,.p (eS s_1)] [(1000000,((ab.cs p_0).map .p))] (λ x y=>x=.p (eB r.1)∧y=[(1000000,((ab.cs r.2).map .p))]):=by
 unfold cC at h0
 refine bF good [] [1000000] Tryz.func211 rfl rfl rfl rfl rfl λ w0 F=>mPo (λ v:Bool×ab=>.p (eB v.1)) (λ v=>[(1000000,((ab.cs v.2).map .p))]) ?_
 refine nx 7 rfl (bd h0 λ r1 e2 h0=>?_)
 refine mO rfl (cVq [1000000] [] 101000 101000 (a6 _ p_0 _ e2) Tryz.call70 rfl ?_)
 refine nx 4 rfl (bd h0 λ o16 h1 h0=>?_)
 refine kN o16 (λ v17=>⟨[(4,.p (eB v17.1))],[(1000000,[.p (eL aR v17.2.1),.p (eI v17.2.2.1),.p (eI v17.2.2.2.1),.p (eI v17.2.2.2.2.1),.p (eI v17.2.2.2.2.2.1),.p (eI v17.2.2.2.2.2.2.1),.p (eS v17.2.2.2.2.2.2.2)])]⟩) ?_ ?_
 ·exact nx 2 rfl (fC h0 rfl)
 refine nx 2 rfl (bd h1 λ r3 e4 h1=>?_)
 refine mO rfl (cVq [1000000] [] 102000 102000 (co r1.2 _ e4) Tryz.call121 rfl ?_)
 refine nx 2 rfl (fB [10,11] h1 rfl (λ c5 h1=>?_) λ c5 h1=>?_)
 ·refine nx 5 rfl (fD [14,15,16] h1 rfl (λ c6 h1=>?_) λ c6 h1=>?_)
  ·refine nx 3 rfl (oS rfl rfl ?_)
   exact nx 3 rfl (eX _ (oi h1).symm (gE rfl rfl))
  exact nx 7 rfl (eX _ (oi h1).symm (gE rfl rfl))
 exact nx 12 rfl (eX _ (oi h1).symm (gE rfl rfl))
def cx (n:Nat)(p_0:ab):Option (Bytes×ab) :=
 (aP n p_0).bind λ r1 =>
 (
   (bZ r1.2).bind λ r3 =>
   if r3.1=true then
    some (true,r3.2.fl,r3.2.fat,r3.2.fnest,r3.2.fbase,r3.2.fbad.fKind,r3.2.fbad.fAt,r3.2.fbad.fName)
   else
    if r1.1.fKind=1 then
     (dZ r1.1.fText).bind λ r7 =>
     some (r7,r3.2.fl,r3.2.fat,r3.2.fnest,r3.2.fbase,r3.2.fbad.fKind,r3.2.fbad.fAt,r3.2.fbad.fName)
    else
     some (true,r3.2.fl,r3.2.fat,r3.2.fnest,r3.2.fbase,r3.2.fbad.fKind,r3.2.fbad.fAt,r3.2.fbad.fName)
  : Option (Bool×(List ai)×Int×Int×Int×Int×Int×Bytes)).bind λ q22 =>
 if q22.1=true then
  (bo (ab.mk q22.2.1 q22.2.2.1 q22.2.2.2.1 q22.2.2.2.2.1 (ao.mk q22.2.2.2.2.2.1 q22.2.2.2.2.2.2.1 q22.2.2.2.2.2.2.2)) 2 r1.1.fAt).bind λ r18 =>
  some (([]:Bytes),r18.2)
 else
  (ay n (ab.mk q22.2.1 q22.2.2.1 q22.2.2.2.1 q22.2.2.2.2.1 (ao.mk q22.2.2.2.2.2.1 q22.2.2.2.2.2.2.1 q22.2.2.2.2.2.2.2))).bind λ r20 =>
  some (r1.1.fText,r20.2)
set_option maxHeartbeats 4000000 in
theorem gu (n:Nat)(p_0:ab)(r:Bytes×ab)(h0:cx n p_0=some r):aF Tryz.prog 223 [.ptr 1000000 0] [(1000000,((ab.cs p_0).map .p))] (λ x y=>x=.p (eS r.1)∧y=[(1000000,((ab.cs r.2).map .p))]):=by
 unfold cx at h0
 refine bF good [] [1000000] Tryz.func223 rfl rfl rfl rfl rfl λ w0 F=>mPo (λ v:Bytes×ab=>.p (eS v.1)) (λ v=>[(1000000,((ab.cs v.2).map .p))]) ?_
 refine nx 7 rfl (bd h0 λ r1 e2 h0=>?_)
 refine mO rfl (cVq [1000000] [] 101000 101000 (a6 _ p_0 _ e2) Tryz.call70 rfl ?_)
 refine nx 5 rfl (bd h0 λ o23 h1 h0=>?_)
 refine kN o23 (λ v24=>⟨[(0,.ptr 1000000 0),(3,.ptr 3 0),(17,.p (eB v24.1))],[(3,(ai.cs r1.1).map .p),(1000000,[.p (eL aR v24.2.1),.p (eI v24.2.2.1),.p (eI v24.2.2.2.1),.p (eI v24.2.2.2.2.1),.p (eI v24.2.2.2.2.2.1),.p (eI v24.2.2.2.2.2.2.1),.p (eS v24.2.2.2.2.2.2.2)])]⟩) ?_ ?_
 ·refine nx 1 rfl (fB [17] h0 rfl (λ c17 h0=>?_) λ c17 h0=>?_)
  ·refine nx 6 rfl (bd h0 λ r18 e19 h0=>?_)
   refine mO rfl (cVq [1000000] [] 103000 103000 (bn (ab.mk o23.2.1 o23.2.2.1 o23.2.2.2.1 o23.2.2.2.2.1 (ao.mk o23.2.2.2.2.2.1 o23.2.2.2.2.2.2.1 o23.2.2.2.2.2.2.2)) 2 r1.1.fAt _ e19) Tryz.call71 rfl ?_)
   exact nx 6 rfl (fC h0 rfl)
  refine nx 5 rfl (bd h0 λ r20 e21 h0=>?_)
  refine mO rfl (cVq [1000000] [] 104000 104000 (aA _ (ab.mk o23.2.1 o23.2.2.1 o23.2.2.2.1 o23.2.2.2.2.1 (ao.mk o23.2.2.2.2.2.1 o23.2.2.2.2.2.2.1 o23.2.2.2.2.2.2.2)) _ e21) Tryz.call102 rfl ?_)
  exact nx 8 rfl (fC h0 rfl)
 refine nx 2 rfl (bd h1 λ r3 e4 h1=>?_)
 refine mO rfl (cVq [1000000] [] 102000 102000 (co r1.2 _ e4) Tryz.call121 rfl ?_)
 refine nx 1 rfl (fB [7,8] h1 rfl (λ c5 h1=>?_) λ c5 h1=>?_)
 ·exact nx 10 rfl (eX _ (oi h1).symm (gE rfl rfl))
 refine nx 5 rfl (fN [11,12,13] h1 rfl (λ c6 h1=>?_) λ c6 h1=>?_)
 ·refine nx 2 rfl (bd h1 λ r7 e8 h1=>?_)
  refine oK (f0 r1.1.fText _ e8) rfl ⟨sr,trivial⟩ Tryz.call114 rfl (nx 2 rfl ?_)
  exact eX _ (oi h1).symm (gE rfl rfl)
 exact nx 5 rfl (eX _ (oi h1).symm (gE rfl rfl))
def dj (n:Nat)(p_0:ab)(s_1:Bytes):Option ab :=
 (cC n p_0 s_1).bind λ r1 =>
 if (!r1.1)=true then
  (aP n r1.2).bind λ r4 =>
  (bo r4.2 2 r4.1.fAt).bind λ r6 =>
  some r6.2
 else
  (ay n r1.2).bind λ r8 =>
  some r8.2
set_option maxHeartbeats 4000000 in
theorem kc (n:Nat)(p_0:ab)(s_1:Bytes)(r:ab)(h0:dj n p_0 s_1=some r):aF Tryz.prog 224 [.ptr 1000000 0,.p (eS s_1)] [(1000000,((ab.cs p_0).map .p))] (λ x y=>x=.tuple []∧y=[(1000000,((ab.cs r).map .p))]):=by
 unfold dj at h0
 refine bF good [] [1000000] Tryz.func224 rfl rfl rfl rfl rfl λ w0 F=>mPo (λ v:ab=>.tuple []) (λ v=>[(1000000,((ab.cs v).map .p))]) ?_
 refine nx 5 rfl (bd h0 λ r1 e2 h0=>?_)
 refine mO rfl (cVq [1000000] [] 101000 101000 (eu _ p_0 s_1 _ e2) Tryz.call211 rfl ?_)
 refine nx 2 rfl (fB [7] h0 rfl (λ c3 h0=>?_) λ c3 h0=>?_)
 ·refine nx 5 rfl (bd h0 λ r4 e5 h0=>?_)
  refine mO rfl (cVq [1000000] [] 102000 102000 (a6 _ r1.2 _ e5) Tryz.call70 rfl ?_)
  refine nx 1 rfl (bd h0 λ r6 e7 h0=>?_)
  refine mO rfl (cVq [1000000] [] 103000 103000 (bn r4.2 2 r4.1.fAt _ e7) Tryz.call71 rfl ?_)
  exact nx 2 rfl (fC h0 rfl)
 refine nx 4 rfl (bd h0 λ r8 e9 h0=>?_)
 refine mO rfl (cVq [1000000] [] 104000 104000 (aA _ r1.2 _ e9) Tryz.call102 rfl ?_)
 exact nx 1 rfl (sc (oi h0) (al _) rfl rfl rfl rfl (sr) ⟨⟨_,rfl,⟨sr,sr,sr,sr,sr,sr,sr,trivial⟩⟩,trivial⟩)
def bV (n:Nat)(l_1:List Bytes):Nat→Int→(List ai)→Int→Int→Int→Int→Int→Bytes→Option (((List ai)×Int×Int×Int×Int×Int×Bytes)⊕(Bytes×Bool×ab))
 | 0,_,_,_,_,_,_,_,_=>none
 | m+1,t15,f16,f17,f18,f19,f20,f21,f22 =>
 if t15 < (l_1.length:Int) then
  ck ((0:Int)≤t15∧t15 < (l_1.length:Int)) <|
  (aJ n (ab.mk f16 f17 f18 f19 (ao.mk f20 f21 f22)) (lat l_1 t15)).bind λ r25 =>
  if r25.1=true then
   some (.inr (lat l_1 t15,true,r25.2))
  else
   ck (inR (t15+1)) <|
   bV n l_1 m (t15+1) r25.2.fl r25.2.fat r25.2.fnest r25.2.fbase r25.2.fbad.fKind r25.2.fbad.fAt r25.2.fbad.fName
 else
  some (.inl (f16,f17,f18,f19,f20,f21,f22))
def dK (n:Nat)(p_0:ab)(l_1:List Bytes):Option (Bytes×Bool×ab) :=
 jn (bV n l_1 n 0 p_0.fl p_0.fat p_0.fnest p_0.fbase p_0.fbad.fKind p_0.fbad.fAt p_0.fbad.fName) λ q44 =>
 some (([]:Bytes),false,(ab.mk q44.1 q44.2.1 q44.2.2.1 q44.2.2.2.1 (ao.mk q44.2.2.2.2.1 q44.2.2.2.2.2.1 q44.2.2.2.2.2.2)))
set_option maxHeartbeats 4000000 in
theorem kG (n:Nat)(p_0:ab)(l_1:List Bytes)(r:Bytes×Bool×ab)(h0:dK n p_0 l_1=some r):aF Tryz.prog 140 [.ptr 1000000 0,.p (eL eS l_1)] [(1000000,((ab.cs p_0).map .p))] (λ x y=>x=.tuple [.p (eS r.1),.p (eB r.2.1)]∧y=[(1000000,((ab.cs r.2.2).map .p))]):=by
 unfold dK at h0
 refine bF good [] [1000000] Tryz.func140 rfl rfl rfl rfl rfl λ w0 F=>mPo (λ v:Bytes×Bool×ab=>.tuple [.p (eS v.1),.p (eB v.2.1)]) (λ v=>[(1000000,((ab.cs v.2.2).map .p))]) ?_
 refine nx 9 rfl (oLl (f:=eS) rfl rfl ?_)
 refine nx 3 rfl ?_
 obtain ⟨o45,h1,hL0,hR0⟩:=cz h0
 refine kEx 0 (λ v46:(List ai)×Int×Int×Int×Int×Int×Bytes=>o45=.inl v46) (λ v46=>⟨[],[(1000000,[.p (eL aR v46.1),.p (eI v46.2.1),.p (eI v46.2.2.1),.p (eI v46.2.2.2.1),.p (eI v46.2.2.2.2.1),.p (eI v46.2.2.2.2.2.1),.p (eS v46.2.2.2.2.2.2)])]⟩) (λ v46 hv=>?_) ?_
 ·have h0:=hL0 _ hv
  exact nx 7 rfl (mQo (oi h0) (al _) rfl rfl rfl rfl (ap ⟨sr,sr,trivial⟩) ⟨⟨_,rfl,⟨sr,sr,sr,sr,sr,sr,sr,trivial⟩⟩,trivial⟩)
 refine lG (λ (q47:Int×(List ai)×Int×Int×Int×Int×Int×Bytes)=>⟨[(0,.ptr 1000000 0),(8,.p (eL eS l_1)),(9,.p (eI (l_1.length:Int))),(10,.p (eI q47.1))],[(1000000,[.p (eL aR q47.2.1),.p (eI q47.2.2.1),.p (eI q47.2.2.2.1),.p (eI q47.2.2.2.2.1),.p (eI q47.2.2.2.2.2.1),.p (eI q47.2.2.2.2.2.2.1),.p (eS q47.2.2.2.2.2.2.2)])]⟩) (λ m (q47:Int×(List ai)×Int×Int×Int×Int×Int×Bytes)=>bV n l_1 m q47.1 q47.2.1 q47.2.2.1 q47.2.2.2.1 q47.2.2.2.2.1 q47.2.2.2.2.2.1 q47.2.2.2.2.2.2.1 q47.2.2.2.2.2.2.2) (λ _=>rfl) (0,p_0.fl,p_0.fat,p_0.fnest,p_0.fbase,p_0.fbad.fKind,p_0.fbad.fAt,p_0.fbad.fName) h1 (gE rfl rfl) ?_
 rintro m ⟨t15,f16,f17,f18,f19,f20,f21,f22⟩ h1
 replace h1:bV n l_1 (m+1) t15 f16 f17 f18 f19 f20 f21 f22=some o45:=h1
 rw [bV] at h1
 refine nx 5 rfl (fD [11] h1 rfl (λ c23 h1=>?_) λ c23 h1=>?_)
 ·refine nx 6 rfl (oE h1 (λ _=>rfl) rfl rfl (λ _=>rfl) λ hk24 h1=>?_)
  refine nx 7 rfl (bd h1 λ r25 e26 h1=>?_)
  refine mO rfl (cVq [1000000] [] 102000 102000 (aU _ (ab.mk f16 f17 f18 f19 (ao.mk f20 f21 f22)) (lat l_1 t15) _ e26) Tryz.call101 rfl ?_)
  refine nx 1 rfl (fB [16] h1 rfl (λ c27 h1=>?_) λ c27 h1=>?_)
  ·exact nx 8 rfl (mQo (hR0 _ (oi h1).symm) (al _) rfl rfl rfl rfl (ap ⟨sr,sr,trivial⟩) ⟨⟨_,rfl,⟨sr,sr,sr,sr,sr,sr,sr,trivial⟩⟩,trivial⟩)
  refine nx 3 rfl (oA h1 rfl rfl λ hk28 h1=>?_)
  exact nx 2 rfl (eX (t15+1,r25.2.fl,r25.2.fat,r25.2.fnest,r25.2.fbase,r25.2.fbad.fKind,r25.2.fbad.fAt,r25.2.fbad.fName) h1 (gE rfl rfl))
 exact nx 2 rfl (eXi _ (oi h1).symm (gE rfl rfl))
def iO (level_0:Int):Option (List Bytes) :=
 if level_0=0 then
  some ([([124,124]:Bytes)])
 else
  if level_0=1 then
   some ([([38,38]:Bytes)])
  else
   if level_0=2 then
    some ([([61,61]:Bytes),([33,61]:Bytes)])
   else
    if level_0=3 then
     some ([([60]:Bytes),([60,61]:Bytes),([62]:Bytes),([62,61]:Bytes)])
    else
     if level_0=4 then
      some ([([43]:Bytes),([45]:Bytes)])
     else
      some ([([42]:Bytes),([47]:Bytes),([37]:Bytes)])
set_option maxHeartbeats 4000000 in
theorem mz (level_0:Int)(r:(List Bytes))(h0:iO level_0=some r):au Tryz.prog 141 [eI level_0] (·=.p (eL eS r)):=by
 unfold iO at h0
 refine aW good Tryz.func141 rfl rfl rfl λ w0=>mP (λ v:(List Bytes)=>.p (eL eS v)) ?_
 refine nx 15 rfl (fD [4,5] h0 rfl (λ c1 h0=>?_) λ c1 h0=>?_)
 ·refine nx 3 rfl (mO rfl (bh eS [([124,124]:Bytes)] rfl rfl rfl rfl rfl rfl rfl rfl rfl rfl rfl rfl rfl rfl ?_))
  exact nx 3 rfl (mQ (oi h0) rfl (sr))
 refine nx 6 rfl (fD [7,8] h0 rfl (λ c2 h0=>?_) λ c2 h0=>?_)
 ·refine nx 3 rfl (mO rfl (bh eS [([38,38]:Bytes)] rfl rfl rfl rfl rfl rfl rfl rfl rfl rfl rfl rfl rfl rfl ?_))
  exact nx 3 rfl (mQ (oi h0) rfl (sr))
 refine nx 6 rfl (fD [10,11] h0 rfl (λ c3 h0=>?_) λ c3 h0=>?_)
 ·refine nx 3 rfl (mO rfl (bh eS [([61,61]:Bytes),([33,61]:Bytes)] rfl rfl rfl rfl rfl rfl rfl rfl rfl rfl rfl rfl rfl rfl ?_))
  exact nx 3 rfl (mQ (oi h0) rfl (sr))
 refine nx 6 rfl (fD [13,14] h0 rfl (λ c4 h0=>?_) λ c4 h0=>?_)
 ·refine nx 3 rfl (mO rfl (bh eS [([60]:Bytes),([60,61]:Bytes),([62]:Bytes),([62,61]:Bytes)] rfl rfl rfl rfl rfl rfl rfl rfl rfl rfl rfl rfl rfl rfl ?_))
  exact nx 3 rfl (mQ (oi h0) rfl (sr))
 refine nx 6 rfl (fD [16,17] h0 rfl (λ c5 h0=>?_) λ c5 h0=>?_)
 ·refine nx 3 rfl (mO rfl (bh eS [([43]:Bytes),([45]:Bytes)] rfl rfl rfl rfl rfl rfl rfl rfl rfl rfl rfl rfl rfl rfl ?_))
  exact nx 3 rfl (mQ (oi h0) rfl (sr))
 refine nx 4 rfl (mO rfl (bh eS [([42]:Bytes),([47]:Bytes),([37]:Bytes)] rfl rfl rfl rfl rfl rfl rfl rfl rfl rfl rfl rfl rfl rfl ?_))
 exact nx 3 rfl (mQ (oi h0) rfl (sr))
def fO (s_0:Bytes):Nat→Int→Option (Unit⊕Int)
 | 0,_=>none
 | m+1,t7 =>
 if t7 < 13 then
  ck ((0:Int)≤t7∧t7 < 13) <|
  if lat ([([124,124]:Bytes),([38,38]:Bytes),([61,61]:Bytes),([33,61]:Bytes),([60]:Bytes),([60,61]:Bytes),([62]:Bytes),([62,61]:Bytes),([43]:Bytes),([45]:Bytes),([42]:Bytes),([47]:Bytes),([37]:Bytes)]:List Bytes) t7=s_0 then
   ck (inR (3+t7)) <|
   some (.inr (3+t7))
  else
   ck (inR (t7+1)) <|
   fO s_0 m (t7+1)
 else
  some (.inl ())
def ll (n:Nat)(s_0:Bytes):Option Int :=
 jn (fO s_0 n 0) λ q14 =>
 some 0
set_option maxHeartbeats 4000000 in
theorem sw (n:Nat)(s_0:Bytes)(r:Int)(h0:ll n s_0=some r):au Tryz.prog 142 [eS s_0] (·=.p (eI r)):=by
 unfold ll at h0
 refine aW good Tryz.func142 rfl rfl rfl λ w0=>mP (λ v:Int=>.p (eI v)) ?_
 refine nx 11 rfl ?_
 obtain ⟨o15,h1,hL0,hR0⟩:=cz h0
 refine kEx 0 (λ v16:Unit=>o15=.inl v16) (λ v16=>⟨[],[]⟩) (λ v16 hv=>?_) ?_
 ·have h0:=hL0 _ hv
  exact nx 6 rfl (mQ (oi h0) rfl (sr))
 refine lG (λ (q17:Int)=>⟨[(0,.p (eS s_0)),(5,.p (.agg [eS ([124,124]:Bytes),eS ([38,38]:Bytes),eS ([61,61]:Bytes),eS ([33,61]:Bytes),eS ([60]:Bytes),eS ([60,61]:Bytes),eS ([62]:Bytes),eS ([62,61]:Bytes),eS ([43]:Bytes),eS ([45]:Bytes),eS ([42]:Bytes),eS ([47]:Bytes),eS ([37]:Bytes)])),(6,.p (eI q17))],[]⟩) (λ m (q17:Int)=>fO s_0 m q17) (λ _=>rfl) 0 h1 (gE rfl rfl) ?_
 rintro m t7 h1
 replace h1:fO s_0 (m+1) t7=some o15:=h1
 rw [fO] at h1
 refine nx 5 rfl (fD [7] h1 rfl (λ c8 h1=>?_) λ c8 h1=>?_)
 ·refine nx 7 rfl (cc' h1 λ hk9 h1=>?_)
  refine mO rfl (p9 eS ([([124,124]:Bytes),([38,38]:Bytes),([61,61]:Bytes),([33,61]:Bytes),([60]:Bytes),([60,61]:Bytes),([62]:Bytes),([62,61]:Bytes),([43]:Bytes),([45]:Bytes),([42]:Bytes),([47]:Bytes),([37]:Bytes)]:List Bytes) rfl rfl rfl rfl rfl rfl rfl rfl rfl rfl rfl (by have:=hk9; simp only [List.length_cons,List.length_nil]; omega) ?_)
  refine nx 7 rfl (oS rfl rfl ?_)
  refine nx 1 rfl (fD [12] h1 rfl (λ c10 h1=>?_) λ c10 h1=>?_)
  ·refine nx 4 rfl (oA h1 rfl rfl λ hk11 h1=>?_)
   exact nx 3 rfl (mQ (hR0 _ (oi h1).symm) rfl (sr))
  refine nx 3 rfl (oA h1 rfl rfl λ hk12 h1=>?_)
  exact nx 2 rfl (eX (t7+1) h1 (gE rfl rfl))
 exact nx 2 rfl (eXi _ (oi h1).symm (gE rfl rfl))
end Go.Ab.R06
end
