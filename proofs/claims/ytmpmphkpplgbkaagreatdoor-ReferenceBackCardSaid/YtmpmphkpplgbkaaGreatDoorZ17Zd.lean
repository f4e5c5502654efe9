/- Texts of the proof, one behind the other. No statement is proved here. -/
import Derived.Test.YtmpmphkpplgbkaaGreatDoorZ17Za
import Derived.Test.YtmpmphkpplgbkaaGreatDoorZ17Zb
import Derived.Test.YtmpmphkpplgbkaaGreatDoorZ17Zc
set_option maxHeartbeats 4000000
section
namespace Go.Ab.R06
open Go.Proofs Go.Ab Go.Ab.RB
attribute [local irreducible] awp eR bq aB aV AV.sub M cN
abbrev jC:List AV:=[.p (eI 0),.p (eS ([]:Bytes)),.p (eI 0)]
abbrev np:List AV:=[.p (eI 0),.p (eI 0),.p (eS ([]:Bytes))]
def bX (H8:ac):Option (Bool×ac) :=
 some (decide (H8.fat < (H8.fs.length:Int)),H8)
theorem cB (H8:ac)(r:Bool×ac)(h0:bX H8=some r):aV Tryz.prog 39 [.ptr 1000000 0] [(1000000,(ac.cs H8).map .p)] (λ x y=>x=.p (eB r.1)/\y=[(1000000,(ac.cs r.2).map .p)]):=by
 unfold bX at h0;refine cr good [] [1000000] Tryz.func39 Z Z Z Z Z λ w0 F=>mPo (λ v:Bool×ac=>.p (eB v.1)) (λ v=>[(1000000,(ac.cs v.2).map .p)]) ?_;refine nx 5 Z (mD [(0,.ptr 1000000 0)] Z ⟨Z,trivial⟩ Z ?_);refine dR 3 Z (dq (.p (eI H8.fat)) [5] Z (λ _ e _ q=>aj Z (bj Z Z Z Z Z (e _ _ Z) Z (ac.g_at _) q)) Z ?_);refine dR 3 Z (dq (.p (eS H8.fs)) [9] Z (λ _ e _ q=>aj Z (bj Z Z Z Z Z (e _ _ Z) Z (ac.g_s _) q)) Z ?_);refine dq (.p (eI (H8.fs.length:Int))) [10] Z (λ _ e _ q=>aj Z (qO Z Z Z Z Z (e _ _ Z) q)) Z (dR 2 Z ?_);refine dE Z (nx 2 Z ?_);exact mQo (oi h0) (ay _) Z Z Z (av Z (az _) Z) (sr) ⟨⟨_,Z,aC _⟩,trivial⟩
def bE:Nat->ac->Option (ac⊕ac)
 | 0,_=>none
 | m+1,x20 =>
 (bX x20).bind λ Iq =>
 if Iq.1=true then
  ck ((0:Int)<=Iq.2.fat/\Iq.2.fat < (Iq.2.fs.length:Int)) <|
  ck ((0:Int)<=byt Iq.2.fs Iq.2.fat/\byt Iq.2.fs Iq.2.fat < 256) <|
  jn (
    if ((lat i7 (byt Iq.2.fs Iq.2.fat)).toNat:Int)=1 then
     ck (inR (Iq.2.fat+1)) <|
     some (.inl (ac.mk Iq.2.fs (Iq.2.fat+1) Iq.2.HV Iq.2.AT))
    else
     (
       if ((lat i7 (byt Iq.2.fs Iq.2.fat)).toNat:Int)=7 then
        some (decide (Iq.2.HV < 0))
       else
        some false
      : Option Bool).bind λ t29 =>
     if t29=true then
      ck ((0:Int)<=Iq.2.fat/\Iq.2.fat<=(Iq.2.fs.length:Int)/\(Iq.2.fs.length:Int)<=(Iq.2.fs.length:Int)) <|
      (strings_IndexByte (sub Iq.2.fs Iq.2.fat (Iq.2.fs.length:Int)) 10).bind λ J1 =>
      (
        if J1 < 0 then
         ck (inR ((Iq.2.fs.length:Int) - Iq.2.fat)) <|
         some ((Iq.2.fs.length:Int) - Iq.2.fat)
        else
         some J1
       : Option Int).bind λ n36 =>
      ck (inR (Iq.2.fat+n36)) <|
      some (.inl (ac.mk Iq.2.fs (Iq.2.fat+n36) Iq.2.HV Iq.2.AT))
     else
      some (.inr (.inr Iq.2))
   : Option (ac⊕(ac⊕ac))) λ x38 =>
  bE m x38
 else
  some (.inl Iq.2)
def eG (n:Nat)(H8:ac):Option ac :=
 jn (bE n H8) λ x40 =>
 some x40
theorem ku (n:Nat)(H8:ac)(r:ac)(h0:eG n H8=some r):aV Tryz.prog 38 [.ptr 1000000 0] [(1000000,(ac.cs H8).map .p)] (λ x y=>x=.tuple []/\y=[(1000000,(ac.cs r).map .p)]):=by
 unfold eG at h0;refine cr good [] [1000000] Tryz.func38 Z Z Z Z Z λ w0 F=>mPo (λ v:ac=>.tuple []) (λ v=>[(1000000,(ac.cs v).map .p)]) ?_;refine nx 1 rfl ?_;obtain ⟨LN,h1,IS,hR0⟩:=db h0;refine kEx 0 (λ v46:ac=>LN=.inl v46) (λ v46=>⟨[],[(1000000,(ac.cs v46).map .p)]⟩) (λ v46 hv=>?_) ?_
 ·have h0:=IS _ hv;exact nx 1 Z (uM (oi h0) (ay _) Z Z Z (av Z (az _) Z) (sr) ⟨⟨_,Z,aC _⟩,trivial⟩)
 refine lG (λ (J6:ac)=>⟨[(0,.ptr 1000000 0)],[(1000000,(ac.cs J6).map .p)]⟩) (λ m (J6:ac)=>bE m J6) Y H8 h1 (gE rfl rfl) ?_;rintro m x20 h1;replace h1:bE (m+1) x20=some LN:=h1;rw [bE] at h1;refine nx 4 rfl (bd h1 λ Iq LI h1=>?_);refine mO rfl (bn [1000000] [] 102000 102000 (cB x20 _ LI) rfl rfl rfl rfl rfl ⟨sr,trivial⟩ rfl (av rfl (az _) rfl) ⟨⟨_,rfl,aC _⟩,trivial⟩ rfl rfl rfl rfl rfl rfl rfl rfl Tryz.call39 rfl (av rfl (az _) rfl) ?_);refine nx 1 rfl (fB [5] h1 rfl (λ J4 h1=>?_) λ J4 h1=>?_)
 ·refine nx 4 rfl (cc' h1 λ Kz h1=>?_);refine cc' h1 λ KH h1=>mD [(0,.ptr 1000000 0)] rfl ⟨rfl,trivial⟩ rfl (dR 4 rfl ?_);refine dq (.p (eS Iq.2.fs)) [9] rfl (λ _ e _ q=>aj rfl (bj Z Z Z Z Z (e _ _ rfl) rfl (ac.g_s _) q)) rfl (dR 3 rfl ?_);refine dq (.p (eI Iq.2.fat)) [13] rfl (λ _ e _ q=>aj rfl (bj Z Z Z Z Z (e _ _ rfl) rfl (ac.g_at _) q)) rfl (dq (.p (eK .u8 (byt Iq.2.fs Iq.2.fat))) [10,14] rfl (λ _ e _ q=>aj rfl (gk Z Z Z Z Z (e _ _ rfl) (e _ _ rfl) Kz q)) rfl ?_);refine dR 2 rfl (dq (.ptr 1000000 (2+(byt Iq.2.fs Iq.2.fat).toNat*1)) [15,17] rfl (λ _ e _ q=>aj rfl (fX Z Z Z Z Z Z (e _ _ rfl) (e _ _ rfl) KH q)) rfl ?_);refine dq (.p (eK .u8 ((lat i7 (byt Iq.2.fs Iq.2.fat)).toNat:Int))) [18] rfl (λ _ e _ q=>aj rfl (bj Z Z Z Z Z (e _ _ rfl) rfl (ac.g_class _ KH) q)) rfl (dR 1 rfl ?_);refine dE rfl (nx 1 rfl ?_);obtain ⟨N6,h2,hL1,hR1⟩:=db h1;refine kX (λ L0:ac=>N6=.inl L0) (λ L0=>⟨[(0,.ptr 1000000 0)],[(1000000,(ac.cs L0).map .p)]⟩) (λ L0 hv=>?_) ?_
  ·have h1:=hL1 _ hv;exact nx 1 Z (eX L0 h1 (gE Z Z))
  refine nx 7 Z (fD [20,22] h2 Z (λ Mx h2=>?_) λ Mx h2=>?_)
  ·refine nx 5 Z (mO Z (bj Z Z Z Z Z Z Z (ac.g_at _) ?_));refine oA h2 Z Z λ Lk h2=>nx 2 Z (mO Z (eO Z Z Z Z Z Z Z Z (ac.b_at _) (ac.u_at _) ?_));exact nx 1 Z (eX _ (oi h2).symm (gE Z Z))
  refine nx 2 Z (bd h2 λ Nz h3 h2=>?_);refine kN Nz (λ v51=>⟨[(0,.ptr 1000000 0),(30,.p (eB v51))],[(1000000,(ac.cs Iq.2).map .p)]⟩) ?_ ?_
  ·refine nx 1 Z (fB [30] h2 Z (λ LJ h2=>?_) λ LJ h2=>?_)
   ·refine nx 2 Z (cc' h2 λ M8 h2=>?_);refine bd h2 λ J1 Mo h2=>mD [(0,.ptr 1000000 0)] Z ⟨Z,trivial⟩ Z (dR 3 Z ?_);refine dq (.p (eS Iq.2.fs)) [42] Z (λ _ e _ q=>aj Z (bj Z Z Z Z Z (e _ _ Z) Z (ac.g_s _) q)) Z (dR 3 Z ?_);refine dq (.p (eI Iq.2.fat)) [46] Z (λ _ e _ q=>aj Z (bj Z Z Z Z Z (e _ _ Z) Z (ac.g_at _) q)) Z (dq (.p (eS (sub Iq.2.fs Iq.2.fat (Iq.2.fs.length:Int)))) [43,47] Z (λ _ e _ q=>aj Z (dQ (a:=Iq.2.fs) (l:=Iq.2.fat) (h:=(Iq.2.fs.length:Int)) Z Z Z Z Z (e _ _ Z) (gG (e _ _ Z)) Z M8 q)) Z ?_);refine dq (.p (eI J1)) [48] Z (λ _ e _ q=>aj Z (fj (gq (sub Iq.2.fs Iq.2.fat (Iq.2.fs.length:Int)) 10 _ Mo) Z Z Z (bo (e _ _ Z) (bo Z cX)) ⟨sr,sr,trivial⟩ Tryz.call57 Z q)) Z (dR 1 Z ?_);refine dE Z (nx 2 Z ?_);refine bd h2 λ o52 h3 h2=>kN o52 (λ v53=>⟨[(0,.ptr 1000000 0),(3,.p (eI v53))],[(1000000,(ac.cs Iq.2).map .p)]⟩) ?_ ?_
    ·refine nx 5 Z (mO Z (bj Z Z Z Z Z Z Z (ac.g_at _) ?_));refine nx 1 Z (oA h2 Z Z λ KZ h2=>?_);refine nx 2 Z (mO Z (eO Z Z Z Z Z Z Z Z (ac.b_at _) (ac.u_at _) ?_));exact nx 1 Z (eX _ (oi h2).symm (gE Z Z))
    refine nx 5 Z (fD [51] h3 Z (λ Mu h3=>?_) λ Mu h3=>?_)
    ·refine nx 1 Z (cc' h3 λ Mm h3=>?_);refine mD [(0,.ptr 1000000 0)] Z ⟨Z,trivial⟩ Z (dR 3 Z ?_);refine dq (.p (eS Iq.2.fs)) [54] Z (λ _ e _ q=>aj Z (bj Z Z Z Z Z (e _ _ Z) Z (ac.g_s _) q)) Z (dq (.p (eI (Iq.2.fs.length:Int))) [55] Z (λ _ e _ q=>aj Z (qO Z Z Z Z Z (e _ _ Z) q)) Z ?_);refine dR 3 Z (dq (.p (eI Iq.2.fat)) [59] Z (λ _ e _ q=>aj Z (bj Z Z Z Z Z (e _ _ Z) Z (ac.g_at _) q)) Z ?_);refine dq (.p (eI ((Iq.2.fs.length:Int) - Iq.2.fat))) [56,60] Z (λ _ e _ q=>aj Z (dV Z Z Z (e _ _ Z) (e _ _ Z) Z Mm q)) Z (dR 1 Z ?_);refine dE Z (nx 1 Z ?_);exact eX _ (oi h3).symm (gE Z Z)
    exact nx 2 Z (eX _ (oi h3).symm (gE Z Z))
   exact nx 2 Z (mQo (hR0 _ (hR1 _ (oi h2).symm).symm) (ay _) Z Z Z (av Z (az _) Z) (sr) ⟨⟨_,Z,aC _⟩,trivial⟩)
  refine nx 4 Z (fD [32,33] h3 Z (λ Mw h3=>?_) λ Mw h3=>?_)
  ·refine nx 3 Z (mO Z (bj Z Z Z Z Z Z Z (ac.g_outer _) ?_));exact nx 4 Z (eX _ (oi h3).symm (gE Z Z))
  exact nx 8 Z (eX _ (oi h3).symm (gE Z Z))
 exact nx 2 Z (eXi _ (oi h1).symm (gE Z Z))
def dY (H1:Bytes):Nat->Int->Option (Unit⊕Bytes)
 | 0,_=>none
 | m+1,t8 =>
 if t8 < 7 then
  ck ((0:Int)<=t8/\t8 < 7) <|
  (strings_HasPrefix H1 (lat ([([61,62]:Bytes),([61,61]:Bytes),([33,61]:Bytes),([60,61]:Bytes),([62,61]:Bytes),([38,38]:Bytes),([124,124]:Bytes)]:List Bytes) t8)).bind λ Jh =>
  if Jh=true then
   some (.inr (lat ([([61,62]:Bytes),([61,61]:Bytes),([33,61]:Bytes),([60,61]:Bytes),([62,61]:Bytes),([38,38]:Bytes),([124,124]:Bytes)]:List Bytes) t8))
  else
   ck (inR (t8+1)) <|
   dY H1 m (t8+1)
 else
  some (.inl ())
def ja (n:Nat)(H1:Bytes):Option Bytes :=
 jn (dY H1 n 0) λ _q23 =>
 (
   if H1=([]:Bytes) then
    some true
   else
    ck ((0:Int)<=0/\0 < (H1.length:Int)) <|
    (strings_IndexByte ([123,125,91,93,40,41,44,61,60,62,43,45,42,47,37,33,63,58,46]:Bytes) (byt H1 0)).bind λ Jw =>
    some (decide (Jw < 0))
  : Option Bool).bind λ t20 =>
 if t20=true then
  some ([]:Bytes)
 else
  ck ((0:Int)<=0/\(0:Int)<=1/\(1:Int)<=(H1.length:Int)) <|
  some (sub H1 0 1)
theorem oR (n:Nat)(H1:Bytes)(r:Bytes)(h0:ja n H1=some r):aB Tryz.prog 58 [eS H1] (·=.p (eS r)):=by
 unfold ja at h0;refine bm good Tryz.func58 Z Z Z λ w0=>mP (λ v:Bytes=>.p (eS v)) ?_;refine nx 11 rfl ?_;obtain ⟨Lw,h1,IS,hR0⟩:=db h0;refine kEx 0 (λ Ls:Unit=>Lw=.inl Ls) (λ Ls=>⟨[(0,.p (eS H1))],[]⟩) (λ Ls hv=>?_) ?_
 ·have h0:=IS _ hv;refine nx 3 Z (bd h0 λ M0 h1 h0=>?_);refine kN M0 (λ Nu=>⟨[(0,.p (eS H1)),(21,.p (eB Nu))],[]⟩) ?_ ?_
  ·refine nx 1 Z (fB [21] h0 Z (λ c21 h0=>?_) λ c21 h0=>?_)
   ·exact nx 6 Z (mQ (oi h0) Z (sr))
   refine nx 5 Z (oP h0 Z Z Z λ Kl h0=>?_);exact nx 3 Z (mQ (oi h0) Z (sr))
  refine nx 2 Z (oS Z Z ?_);refine nx 1 Z (fD [15,16] h1 Z (λ MA h1=>?_) λ MA h1=>?_)
  ·exact nx 6 Z (eX _ (oi h1).symm (gE Z Z))
  refine nx 1 Z (oI h1 Z λ Na h1=>?_);refine bd h1 λ Jw Mr h1=>oK (gq ([123,125,91,93,40,41,44,61,60,62,43,45,42,47,37,33,63,58,46]:Bytes) (byt H1 0) _ Mr) Z ⟨sr,sr,trivial⟩ Tryz.call57 Z (nx 3 Z ?_);exact eX _ (oi h1).symm (gE Z Z)
 refine lG (λ (q29:Int)=>⟨[(0,.p (eS H1)),(5,.p (.agg [eS ([61,62]:Bytes),eS ([61,61]:Bytes),eS ([33,61]:Bytes),eS ([60,61]:Bytes),eS ([62,61]:Bytes),eS ([38,38]:Bytes),eS ([124,124]:Bytes)])),(6,.p (eI q29))],[]⟩) (λ m (q29:Int)=>dY H1 m q29) Y 0 h1 (gE rfl rfl) ?_;rintro m t8 h1;replace h1:dY H1 (m+1) t8=some Lw:=h1;rw [dY] at h1;refine nx 5 rfl (fD [7] h1 rfl (λ c9 h1=>?_) λ c9 h1=>?_)
 ·refine nx 6 Z (cc' h1 λ JL h1=>?_);refine mO Z (wh eS ([([61,62]:Bytes),([61,61]:Bytes),([33,61]:Bytes),([60,61]:Bytes),([62,61]:Bytes),([38,38]:Bytes),([124,124]:Bytes)]:List Bytes) Z Z Z Z Z Z Z Z Z Z Z (by have:=JL; simp only [aq,cl]; omega) ?_);refine nx 6 Z (bd h1 λ Jh JZ h1=>?_);refine oK (cV H1 (lat ([([61,62]:Bytes),([61,61]:Bytes),([33,61]:Bytes),([60,61]:Bytes),([62,61]:Bytes),([38,38]:Bytes),([124,124]:Bytes)]:List Bytes) t8) _ JZ) Z ⟨sr,sr,trivial⟩ Tryz.call76 Z (nx 1 Z ?_);refine fB [11] h1 Z (λ JN h1=>?_) λ JN h1=>?_
  ·exact nx 7 Z (mQ (hR0 _ (oi h1).symm) Z (sr))
  refine nx 3 Z (oA h1 Z Z λ Kp h1=>?_);exact nx 2 Z (eX (t8+1) h1 (gE Z Z))
 exact nx 2 Z (eXi _ (oi h1).symm (gE Z Z))
def d8 (n:Nat)(H8:ac):Option (Bool×ac) :=
 ck ((0:Int)<=H8.fat/\H8.fat < (H8.fs.length:Int)) <|
 ck ((0:Int)<=byt H8.fs H8.fat/\byt H8.fs H8.fat < 256) <|
 (
   if ((lat i7 (byt H8.fs H8.fat)).toNat:Int)=2 then
    some true
   else
    if ((lat i7 (byt H8.fs H8.fat)).toNat:Int)=3 then
     some true
    else
     if ((lat i7 (byt H8.fs H8.fat)).toNat:Int)=5 then
      some true
     else
      some (decide (((lat i7 (byt H8.fs H8.fat)).toNat:Int)=6))
  : Option Bool).bind λ t6 =>
 if t6=true then
  some (true,H8)
 else
  ck ((0:Int)<=H8.fat/\H8.fat<=(H8.fs.length:Int)/\(H8.fs.length:Int)<=(H8.fs.length:Int)) <|
  (ja n (sub H8.fs H8.fat (H8.fs.length:Int))).bind λ r9 =>
  some (!decide (r9=([]:Bytes)),H8)
theorem jO (n:Nat)(H8:ac)(r:Bool×ac)(h0:d8 n H8=some r):aV Tryz.prog 40 [.ptr 1000000 0] [(1000000,(ac.cs H8).map .p)] (λ x y=>x=.p (eB r.1)/\y=[(1000000,(ac.cs r.2).map .p)]):=by
 unfold d8 at h0;refine cr good [] [1000000] Tryz.func40 Z Z Z Z Z λ w0 F=>mPo (λ v:Bool×ac=>.p (eB v.1)) (λ v=>[(1000000,(ac.cs v.2).map .p)]) ?_;refine nx 6 Z (cc' h0 λ MK h0=>?_);refine cc' h0 λ Ke h0=>mD [(0,.ptr 1000000 0)] Z ⟨Z,trivial⟩ Z (dR 4 Z ?_);refine dq (.p (eS H8.fs)) [6] Z (λ _ e _ q=>aj Z (bj Z Z Z Z Z (e _ _ Z) Z (ac.g_s _) q)) Z (dR 3 Z ?_);refine dq (.p (eI H8.fat)) [10] Z (λ _ e _ q=>aj Z (bj Z Z Z Z Z (e _ _ Z) Z (ac.g_at _) q)) Z (dq (.p (eK .u8 (byt H8.fs H8.fat))) [7,11] Z (λ _ e _ q=>aj Z (gk Z Z Z Z Z (e _ _ Z) (e _ _ Z) MK q)) Z ?_);refine dR 2 Z (dq (.ptr 1000000 (2+(byt H8.fs H8.fat).toNat*1)) [12,14] Z (λ _ e _ q=>aj Z (fX Z Z Z Z Z Z (e _ _ Z) (e _ _ Z) Ke q)) Z ?_);refine dq (.p (eK .u8 ((lat i7 (byt H8.fs H8.fat)).toNat:Int))) [15] Z (λ _ e _ q=>aj Z (bj Z Z Z Z Z (e _ _ Z) Z (ac.g_class _ Ke) q)) Z (dE Z ?_);refine nx 3 Z (bd h0 λ NA h1 h0=>?_);refine kN NA (λ Lt=>⟨[(0,.ptr 1000000 0),(17,.p (eB Lt))],[(1000000,(ac.cs H8).map .p)]⟩) ?_ ?_
 ·refine nx 1 Z (fB [17] h0 Z (λ c7 h0=>?_) λ c7 h0=>?_)
  ·exact nx 6 Z (mQo (oi h0) (ay _) Z Z Z (av Z (az _) Z) (sr) ⟨⟨_,Z,aC _⟩,trivial⟩)
  refine nx 3 Z (cc' h0 λ Mh h0=>?_);refine bd h0 λ r9 J0 h0=>mD [(0,.ptr 1000000 0)] Z ⟨Z,trivial⟩ Z (dR 3 Z ?_);refine dq (.p (eS H8.fs)) [24] Z (λ _ e _ q=>aj Z (bj Z Z Z Z Z (e _ _ Z) Z (ac.g_s _) q)) Z (dR 3 Z ?_);refine dq (.p (eI H8.fat)) [28] Z (λ _ e _ q=>aj Z (bj Z Z Z Z Z (e _ _ Z) Z (ac.g_at _) q)) Z (dq (.p (eS (sub H8.fs H8.fat (H8.fs.length:Int)))) [25,29] Z (λ _ e _ q=>aj Z (dQ (a:=H8.fs) (l:=H8.fat) (h:=(H8.fs.length:Int)) Z Z Z Z Z (e _ _ Z) (gG (e _ _ Z)) Z Mh q)) Z ?_);refine dq (.p (eS r9)) [30] Z (λ _ e _ q=>aj Z (fj (oR _ (sub H8.fs H8.fat (H8.fs.length:Int)) _ J0) Z Z Z (bo (e _ _ Z) cX) ⟨sr,trivial⟩ Tryz.call58 Z q)) Z (dq (.p (eB (!decide (r9=([]:Bytes))))) [31] Z (λ _ e _ q=>aj Z (ti Z Z Z (e _ _ Z) Z Z q)) Z ?_);refine dR 1 Z (dE Z ?_);exact nx 2 Z (mQo (oi h0) (ay _) Z Z Z (av Z (az _) Z) (sr) ⟨⟨_,Z,aC _⟩,trivial⟩)
 refine nx 5 Z (fD [17,18] h1 Z (λ c3 h1=>?_) λ c3 h1=>?_)
 ·exact nx 2 Z (eX _ (oi h1).symm (gE Z Z))
 refine nx 6 Z (fD [17,19] h1 Z (λ c4 h1=>?_) λ c4 h1=>?_)
 ·exact nx 2 Z (eX _ (oi h1).symm (gE Z Z))
 refine nx 6 Z (fD [17,20] h1 Z (λ c5 h1=>?_) λ c5 h1=>?_)
 ·exact nx 2 Z (eX _ (oi h1).symm (gE Z Z))
 exact nx 5 Z (eX _ (oi h1).symm (gE Z Z))
def cH (Kf:Int)(b_2:Int):Nat->ac->Option ac
 | 0,_=>none
 | m+1,x14 =>
 (
   (bX x14).bind λ Im =>
   if Im.1=true then
    ck ((0:Int)<=Im.2.fat/\Im.2.fat < (Im.2.fs.length:Int)) <|
    ck ((0:Int)<=byt Im.2.fs Im.2.fat/\byt Im.2.fs Im.2.fat < 256) <|
    if ((lat i7 (byt Im.2.fs Im.2.fat)).toNat:Int)=Kf then
     some (true,Im.2)
    else
     ck ((0:Int)<=Im.2.fat/\Im.2.fat < (Im.2.fs.length:Int)) <|
     ck ((0:Int)<=byt Im.2.fs Im.2.fat/\byt Im.2.fs Im.2.fat < 256) <|
     some (decide (((lat i7 (byt Im.2.fs Im.2.fat)).toNat:Int)=b_2),Im.2)
   else
    some (false,Im.2)
  : Option (Bool×ac)).bind λ JX =>
 if JX.1=true then
  ck (inR (JX.2.fat+1)) <|
  cH Kf b_2 m (ac.mk JX.2.fs (JX.2.fat+1) JX.2.HV JX.2.AT)
 else
  some JX.2
def fb (n:Nat)(H8:ac)(Kf:Int)(b_2:Int):Option (Bytes×ac) :=
 (cH Kf b_2 n H8).bind λ x28 =>
 ck ((0:Int)<=H8.fat/\H8.fat<=x28.fat/\x28.fat<=(x28.fs.length:Int)) <|
 some (sub x28.fs H8.fat x28.fat,x28)
theorem lb (n:Nat)(H8:ac)(Kf:Int)(b_2:Int)(r:Bytes×ac)(h0:fb n H8 Kf b_2=some r):aV Tryz.prog 59 [.ptr 1000000 0,.p (eK .u8 Kf),.p (eK .u8 b_2)] [(1000000,(ac.cs H8).map .p)] (λ x y=>x=.p (eS r.1)/\y=[(1000000,(ac.cs r.2).map .p)]):=by
 unfold fb at h0;refine cr good [] [1000000] Tryz.func59 Z Z Z Z Z λ w0 F=>mPo (λ v:Bytes×ac=>.p (eS v.1)) (λ v=>[(1000000,(ac.cs v.2).map .p)]) ?_;refine nx 9 Z (mO Z (bj Z Z Z Z Z Z Z (ac.g_at _) ?_));refine nx 4 Z (bd h0 λ LQ h1 h0=>?_);refine kE 0 LQ (λ Ol=>⟨[(0,.ptr 1000000 0),(7,.p (eI H8.fat))],[(1000000,(ac.cs Ol).map .p)]⟩) ?_ ?_
 ·refine nx 2 Z (cc' h0 λ M9 h0=>?_);refine mD [(0,.ptr 1000000 0),(7,.p (eI H8.fat))] Z ⟨Z,Z,trivial⟩ Z (dR 3 Z ?_);refine dq (.p (eS LQ.fs)) [59] Z (λ _ e _ q=>aj Z (bj Z Z Z Z Z (e _ _ Z) Z (ac.g_s _) q)) Z (dR 4 Z ?_);refine dq (.p (eI LQ.fat)) [64] Z (λ _ e _ q=>aj Z (bj Z Z Z Z Z (e _ _ Z) Z (ac.g_at _) q)) Z (dq (.p (eS (sub LQ.fs H8.fat LQ.fat))) [60,61,65] Z (λ _ e _ q=>aj Z (dQ (a:=LQ.fs) (l:=H8.fat) (h:=LQ.fat) Z Z Z Z Z (e _ _ Z) (gG (e _ _ Z)) (lY (e _ _ Z)) M9 q)) Z ?_);refine dR 1 Z (dE Z ?_);exact nx 2 Z (mQo (oi h0) (ay _) Z Z Z (av Z (az _) Z) (sr) ⟨⟨_,Z,aC _⟩,trivial⟩)
 refine lG (λ (q34:ac)=>⟨[(0,.ptr 1000000 0),(1,.p (eK .u8 Kf)),(2,.p (eK .u8 b_2)),(7,.p (eI H8.fat))],[(1000000,(ac.cs q34).map .p)]⟩) (λ m (q34:ac)=>cH Kf b_2 m q34) Y H8 h1 (gE rfl rfl) ?_;rintro m x14 h1;replace h1:cH Kf b_2 (m+1) x14=some LQ:=h1;rw [cH] at h1;refine nx 2 rfl (bd h1 λ LO h2 h1=>?_);refine kN LO (λ MP=>⟨[(0,.ptr 1000000 0),(1,.p (eK .u8 Kf)),(2,.p (eK .u8 b_2)),(7,.p (eI H8.fat)),(49,.p (eB MP.1))],[(1000000,(ac.cs MP.2).map .p)]⟩) ?_ ?_
 ·refine nx 1 Z (fB [49] h1 Z (λ KM h1=>?_) λ KM h1=>?_)
  ·refine nx 7 Z (mO Z (bj Z Z Z Z Z Z Z (ac.g_at _) ?_));refine oA h1 Z Z λ Ky h1=>nx 2 Z (mO Z (eO Z Z Z Z Z Z Z Z (ac.b_at _) (ac.u_at _) ?_));exact nx 1 Z (eX (ac.mk LO.2.fs (LO.2.fat+1) LO.2.HV LO.2.AT) h1 (gE Z Z))
  exact nx 2 Z (eXi _ (oi h1).symm (gE Z Z))
 refine bd h2 λ Im K7 h2=>fB (p:=Im.1) [] h2 Z (λ IA h2=>?_) λ IA h2=>?_
 ·refine cc' h2 λ KI h2=>cc' h2 λ J7 h2=>fD (p:=((lat i7 (byt Im.2.fs Im.2.fat)).toNat:Int)=Kf) [] h2 Z (λ c20 h2=>?_) λ c20 h2=>?_
  ·refine mG (gE (t:=⟨[(0,.ptr 1000000 0),(1,.p (eK .u8 Kf)),(2,.p (eK .u8 b_2)),(7,.p (eI H8.fat))],[(1000000,(ac.cs x14).map .p)]⟩) Z Z) (mSq ⟨1,[1],(by2 (.some (dr [] 108000 108000)) .none),(λ _=>[(0,.ptr 1000000 0),(1,.p (eK .u8 Kf)),(2,.p (eK .u8 b_2)),(7,.p (eI H8.fat))]),(by2 [(1000000,(ac.cs x14).map .p)] [(1000000,(ac.cs Im.2).map .p)])⟩ Z ?_);refine dPc (.ptr 1000000 0) Z (eM (λ _=>.p (eB Im.1)) [(12,_)] Z ⟨.inr ⟨0,_,Z,Z,Z⟩,trivial⟩ Z Z Y (lt1 (λ h=>absurd h (by decide))) (λ sl H2 K hK=>aj Z (bn [1000000] [] 108000 108000 (cB x14 _ K7) Z Z Z (bo (H2 _ _ Z) cX) Z ⟨sr,trivial⟩ Z (av Z (az _) Z) ⟨⟨_,Z,aC _⟩,trivial⟩ Z Z Z Z Z Z Z Z Tryz.call39 Z (av Z (az _) Z) hK)) ?_);refine dPc (.p (eB Im.1)) Z (dPy (λ _=>.ptr 1000000 0) (IA) Z ?_);refine dPy (λ _=>.ptr 1000000 0) (IA) Z (dPy (λ _=>.ptr 1000000 0) (IA) Z ?_);refine dPy (λ _=>.ptr 1000000 0) (IA) Z (dPy (λ _=>.p (eS Im.2.fs)) (IA) Z ?_);refine dPy (λ _=>.ptr 1000000 0) (IA) Z (dPy (λ _=>.ptr 1000000 0) (IA) Z ?_);refine dPy (λ _=>.ptr 1000000 1) (IA) Z (dPy (λ _=>.p (eI Im.2.fat)) (IA) Z ?_);refine aG (λ _=>.p (eK .u8 (byt Im.2.fs Im.2.fat))) Z Z Z (ip Z Y) (lt1 Z) (au [(14,_),(19,_),(23,_)] ⟨.inr ⟨2,_,Z,Z,Z⟩,.inr ⟨7,_,Z,Z,Z⟩,.inr ⟨11,_,Z,Z,Z⟩,trivial⟩ (λ sl H2 K hK=>f0 (gk Z Z Z Z Z (H2 _ _ Z) (H2 _ _ Z) KI hK) Z Z (H2 _ _ Z) (IA)) (aA Z aE)) (dPy (λ _=>.ptr 1000000 0) (IA) Z ?_);refine dPy (λ _=>.ptr 1000000 2) (IA) Z (aG (λ _=>.ptr 1000000 (2+(byt Im.2.fs Im.2.fat).toNat*1)) Z Z Z (ip Z Y) (lt1 Z) (au [(14,_),(24,_),(26,_)] ⟨.inr ⟨2,_,Z,Z,Z⟩,.inr ⟨12,_,Z,Z,Z⟩,.inr ⟨14,_,Z,Z,Z⟩,trivial⟩ (λ sl H2 K hK=>f0 (fX Z Z Z Z Z Z (H2 _ _ Z) (H2 _ _ Z) J7 hK) Z Z (H2 _ _ Z) (IA)) (aA Z aE)) ?_);refine aG (λ _=>.p (eK .u8 ((lat i7 (byt Im.2.fs Im.2.fat)).toNat:Int))) Z Z Z (ip Z Y) (lt1 Z) (au [(14,_),(27,_)] ⟨.inr ⟨2,_,Z,Z,Z⟩,.inr ⟨15,_,Z,Z,Z⟩,trivial⟩ (λ sl H2 K hK=>f0 (bj Z Z Z Z Z (H2 _ _ Z) Z (ac.g_class _ J7) hK) Z Z (H2 _ _ Z) (IA)) (aA Z aE)) (dPy (λ _=>.p (eK .u8 Kf)) (IA) Z ?_);refine dPy (λ _=>.p (eB (decide (((lat i7 (byt Im.2.fs Im.2.fat)).toNat:Int)=Kf)))) (IA) Z (dPy (λ _=>.p (eB (decide (((lat i7 (byt Im.2.fs Im.2.fat)).toNat:Int)=Kf)))) (IA) Z ?_);refine dPn (dt c20) Z (dPn (dt c20) Z ?_);refine dPn (dt c20) Z (dPn (dt c20) Z ?_);refine dPn (dt c20) Z (dPn (dt c20) Z ?_);refine dPn (dt c20) Z (dPn (dt c20) Z ?_);refine dPn (dt c20) Z (dPn (dt c20) Z ?_);refine dPn (dt c20) Z (dPn (dt c20) Z ?_);refine dPn (dt c20) Z (dPn (dt c20) Z ?_);refine dPn (dt c20) Z (dPn (dt c20) Z ?_);refine aG (λ _=>.p (eB true)) Z Z Z (ip Z Y) (lt1 Z) (au [(14,_),(31,_),(47,_)] ⟨.inr ⟨2,_,Z,Z,Z⟩,.inr ⟨19,_,Z,Z,Z⟩,.inr ⟨35,_,Z,Z,Z⟩,trivial⟩ (λ sl H2 K hK=>f0 (eW Z Z Z (H2 _ _ Z) (dt c20) Z hK) Z Z (H2 _ _ Z) (IA)) (aA Z aE)) (aG (λ _=>.p (eB true)) Z Z Z (ip Z Y) (lt1 Z) (au [(14,_),(48,_)] ⟨.inr ⟨2,_,Z,Z,Z⟩,.inr ⟨36,_,Z,Z,Z⟩,trivial⟩ (λ sl H2 K hK=>aj Z (eW Z Z Z (H2 _ _ Z) (IA) (H2 _ _ Z) hK)) (aA Z aE)) ?_);refine dF (nx 1 Z ?_);exact eX _ (oi h2).symm (gE Z Z)
  refine cc' h2 λ Km h2=>cc' h2 λ Kl h2=>mG (gE (t:=⟨[(0,.ptr 1000000 0),(1,.p (eK .u8 Kf)),(2,.p (eK .u8 b_2)),(7,.p (eI H8.fat))],[(1000000,(ac.cs x14).map .p)]⟩) Z Z) (mSq ⟨1,[1],(by2 (.some (dr [] 109000 109000)) .none),(λ _=>[(0,.ptr 1000000 0),(1,.p (eK .u8 Kf)),(2,.p (eK .u8 b_2)),(7,.p (eI H8.fat))]),(by2 [(1000000,(ac.cs x14).map .p)] [(1000000,(ac.cs Im.2).map .p)])⟩ Z ?_);refine dPc (.ptr 1000000 0) Z (eM (λ _=>.p (eB Im.1)) [(12,_)] Z ⟨.inr ⟨0,_,Z,Z,Z⟩,trivial⟩ Z Z Y (lt1 (λ h=>absurd h (by decide))) (λ sl H2 K hK=>aj Z (bn [1000000] [] 109000 109000 (cB x14 _ K7) Z Z Z (bo (H2 _ _ Z) cX) Z ⟨sr,trivial⟩ Z (av Z (az _) Z) ⟨⟨_,Z,aC _⟩,trivial⟩ Z Z Z Z Z Z Z Z Tryz.call39 Z (av Z (az _) Z) hK)) ?_);refine dPc (.p (eB Im.1)) Z (dPy (λ _=>.ptr 1000000 0) (IA) Z ?_);refine dPy (λ _=>.ptr 1000000 0) (IA) Z (dPy (λ _=>.ptr 1000000 0) (IA) Z ?_);refine dPy (λ _=>.ptr 1000000 0) (IA) Z (dPy (λ _=>.p (eS Im.2.fs)) (IA) Z ?_);refine dPy (λ _=>.ptr 1000000 0) (IA) Z (dPy (λ _=>.ptr 1000000 0) (IA) Z ?_);refine dPy (λ _=>.ptr 1000000 1) (IA) Z (dPy (λ _=>.p (eI Im.2.fat)) (IA) Z ?_);refine aG (λ _=>.p (eK .u8 (byt Im.2.fs Im.2.fat))) Z Z Z (ip Z Y) (lt1 Z) (au [(14,_),(19,_),(23,_)] ⟨.inr ⟨2,_,Z,Z,Z⟩,.inr ⟨7,_,Z,Z,Z⟩,.inr ⟨11,_,Z,Z,Z⟩,trivial⟩ (λ sl H2 K hK=>f0 (gk Z Z Z Z Z (H2 _ _ Z) (H2 _ _ Z) KI hK) Z Z (H2 _ _ Z) (IA)) (aA Z aE)) (dPy (λ _=>.ptr 1000000 0) (IA) Z ?_);refine dPy (λ _=>.ptr 1000000 2) (IA) Z (aG (λ _=>.ptr 1000000 (2+(byt Im.2.fs Im.2.fat).toNat*1)) Z Z Z (ip Z Y) (lt1 Z) (au [(14,_),(24,_),(26,_)] ⟨.inr ⟨2,_,Z,Z,Z⟩,.inr ⟨12,_,Z,Z,Z⟩,.inr ⟨14,_,Z,Z,Z⟩,trivial⟩ (λ sl H2 K hK=>f0 (fX Z Z Z Z Z Z (H2 _ _ Z) (H2 _ _ Z) J7 hK) Z Z (H2 _ _ Z) (IA)) (aA Z aE)) ?_);refine aG (λ _=>.p (eK .u8 ((lat i7 (byt Im.2.fs Im.2.fat)).toNat:Int))) Z Z Z (ip Z Y) (lt1 Z) (au [(14,_),(27,_)] ⟨.inr ⟨2,_,Z,Z,Z⟩,.inr ⟨15,_,Z,Z,Z⟩,trivial⟩ (λ sl H2 K hK=>f0 (bj Z Z Z Z Z (H2 _ _ Z) Z (ac.g_class _ J7) hK) Z Z (H2 _ _ Z) (IA)) (aA Z aE)) (dPy (λ _=>.p (eK .u8 Kf)) (IA) Z ?_);refine dPy (λ _=>.p (eB (decide (((lat i7 (byt Im.2.fs Im.2.fat)).toNat:Int)=Kf)))) (IA) Z (dPy (λ _=>.p (eB (decide (((lat i7 (byt Im.2.fs Im.2.fat)).toNat:Int)=Kf)))) (IA) Z ?_);refine dPy (λ _=>.ptr 1000000 0) (df c20) Z (dPy (λ _=>.ptr 1000000 0) (df c20) Z ?_);refine dPy (λ _=>.ptr 1000000 0) (df c20) Z (dPy (λ _=>.ptr 1000000 0) (df c20) Z ?_);refine dPy (λ _=>.p (eS Im.2.fs)) (df c20) Z (dPy (λ _=>.ptr 1000000 0) (df c20) Z ?_);refine dPy (λ _=>.ptr 1000000 0) (df c20) Z (dPy (λ _=>.ptr 1000000 1) (df c20) Z ?_);refine dPy (λ _=>.p (eI Im.2.fat)) (df c20) Z (aG (λ _=>.p (eK .u8 (byt Im.2.fs Im.2.fat))) Z Z Z (ip Z Y) (lt1 Z) (au [(31,_),(36,_),(40,_)] ⟨.inr ⟨19,_,Z,Z,Z⟩,.inr ⟨24,_,Z,Z,Z⟩,.inr ⟨28,_,Z,Z,Z⟩,trivial⟩ (λ sl H2 K hK=>f0 (gk Z Z Z Z Z (H2 _ _ Z) (H2 _ _ Z) Km hK) Z Z (H2 _ _ Z) (df c20)) (aA Z aE)) ?_);refine dPy (λ _=>.ptr 1000000 0) (df c20) Z (dPy (λ _=>.ptr 1000000 2) (df c20) Z ?_);refine aG (λ _=>.ptr 1000000 (2+(byt Im.2.fs Im.2.fat).toNat*1)) Z Z Z (ip Z Y) (lt1 Z) (au [(31,_),(41,_),(43,_)] ⟨.inr ⟨19,_,Z,Z,Z⟩,.inr ⟨29,_,Z,Z,Z⟩,.inr ⟨31,_,Z,Z,Z⟩,trivial⟩ (λ sl H2 K hK=>f0 (fX Z Z Z Z Z Z (H2 _ _ Z) (H2 _ _ Z) Kl hK) Z Z (H2 _ _ Z) (df c20)) (aA Z aE)) (aG (λ _=>.p (eK .u8 ((lat i7 (byt Im.2.fs Im.2.fat)).toNat:Int))) Z Z Z (ip Z Y) (lt1 Z) (au [(31,_),(44,_)] ⟨.inr ⟨19,_,Z,Z,Z⟩,.inr ⟨32,_,Z,Z,Z⟩,trivial⟩ (λ sl H2 K hK=>f0 (bj Z Z Z Z Z (H2 _ _ Z) Z (ac.g_class _ Kl) hK) Z Z (H2 _ _ Z) (df c20)) (aA Z aE)) ?_);refine dPy (λ _=>.p (eK .u8 b_2)) (df c20) Z (dPy (λ _=>.p (eB (decide (((lat i7 (byt Im.2.fs Im.2.fat)).toNat:Int)=b_2)))) (df c20) Z ?_);refine aG (λ _=>.p (eB (decide (((lat i7 (byt Im.2.fs Im.2.fat)).toNat:Int)=b_2)))) Z Z Z (ip Z Y) (lt1 Z) (au [(14,_),(31,_),(47,_)] ⟨.inr ⟨2,_,Z,Z,Z⟩,.inr ⟨19,_,Z,Z,Z⟩,.inr ⟨35,_,Z,Z,Z⟩,trivial⟩ (λ sl H2 K hK=>f0 (gz Z Z Z (H2 _ _ Z) (df c20) (H2 _ _ Z) hK) Z Z (H2 _ _ Z) (IA)) (aA Z aE)) (aG (λ _=>.p (eB (decide (((lat i7 (byt Im.2.fs Im.2.fat)).toNat:Int)=b_2)))) Z Z Z (ip Z Y) (lt1 Z) (au [(14,_),(48,_)] ⟨.inr ⟨2,_,Z,Z,Z⟩,.inr ⟨36,_,Z,Z,Z⟩,trivial⟩ (λ sl H2 K hK=>aj Z (eW Z Z Z (H2 _ _ Z) (IA) (H2 _ _ Z) hK)) (aA Z aE)) ?_);refine dF (nx 1 Z ?_);exact eX _ (oi h2).symm (gE Z Z)
 refine mG (gE (t:=⟨[(0,.ptr 1000000 0),(1,.p (eK .u8 Kf)),(2,.p (eK .u8 b_2)),(7,.p (eI H8.fat))],[(1000000,(ac.cs x14).map .p)]⟩) Z Z) (mSq ⟨1,[1],(by2 (.some (dr [] 110000 110000)) .none),(λ _=>[(0,.ptr 1000000 0),(1,.p (eK .u8 Kf)),(2,.p (eK .u8 b_2)),(7,.p (eI H8.fat))]),(by2 [(1000000,(ac.cs x14).map .p)] [(1000000,(ac.cs Im.2).map .p)])⟩ Z ?_);refine dPc (.ptr 1000000 0) Z (eM (λ _=>.p (eB Im.1)) [(12,_)] Z ⟨.inr ⟨0,_,Z,Z,Z⟩,trivial⟩ Z Z Y (lt1 (λ h=>absurd h (by decide))) (λ sl H2 K hK=>aj Z (bn [1000000] [] 110000 110000 (cB x14 _ K7) Z Z Z (bo (H2 _ _ Z) cX) Z ⟨sr,trivial⟩ Z (av Z (az _) Z) ⟨⟨_,Z,aC _⟩,trivial⟩ Z Z Z Z Z Z Z Z Tryz.call39 Z (av Z (az _) Z) hK)) ?_);refine dPc (.p (eB Im.1)) Z (dPn (IA) Z ?_);refine dPn (IA) Z (dPn (IA) Z ?_);refine dPn (IA) Z (dPn (IA) Z ?_);refine dPn (IA) Z (dPn (IA) Z ?_);refine dPn (IA) Z (dPn (IA) Z ?_);refine dPn (IA) Z (dPn (IA) Z ?_);refine dPn (IA) Z (dPn (IA) Z ?_);refine dPn (IA) Z (dPn (IA) Z ?_);refine dPn (IA) Z (dPn (IA) Z ?_);refine dPx Z (dPx Z ?_);refine dPx Z (dPx Z ?_);refine dPx Z (dPx Z ?_);refine dPx Z (dPx Z ?_);refine dPx Z (dPx Z ?_);refine dPx Z (dPx Z ?_);refine dPx Z (dPx Z ?_);refine dPx Z (dPx Z ?_);refine dPn (IA) Z (aG (λ _=>.p (eB false)) Z Z Z (ip Z Y) (lt1 Z) (au [(14,_),(48,_)] ⟨.inr ⟨2,_,Z,Z,Z⟩,.inr ⟨36,_,Z,Z,Z⟩,trivial⟩ (λ sl H2 K hK=>aj Z (gz Z Z Z (H2 _ _ Z) (IA) Z hK)) (aA Z aE)) ?_);refine dF (nx 1 Z ?_);exact eX _ (oi h2).symm (gE Z Z)
def cZ (H8:ac)(k_1:Int)(at_2:Int):Option (Bool×ac) :=
 some (false,(ac.mk H8.fs H8.fat H8.HV (ap.mk k_1 at_2 ([]:Bytes))))
theorem dT (H8:ac)(k_1:Int)(at_2:Int)(r:Bool×ac)(h0:cZ H8 k_1 at_2=some r):aV Tryz.prog 60 [.ptr 1000000 0,.p (eI k_1),.p (eI at_2)] [(1000000,(ac.cs H8).map .p)] (λ x y=>x=.p (eB r.1)/\y=[(1000000,(ac.cs r.2).map .p)]):=by
 unfold cZ at h0;refine cr good [] [1000000] Tryz.func60 Z Z Z Z Z λ w0 F=>mPo (λ v:Bool×ac=>.p (eB v.1)) (λ v=>[(1000000,(ac.cs v.2).map .p)]) ?_;refine nx 12 Z (mO Z (eO Z Z Z Z Z Z Z Z (ac.b_bad _) (ac.u_bad _) ?_));exact nx 6 Z (mQo (oi h0) (ay _) Z Z Z (av Z (az _) Z) (sr) ⟨⟨_,Z,aC _⟩,trivial⟩)
def ed (H8:ac):Option (Bool×ac) :=
 ck ((0:Int)<=H8.fat/\H8.fat<=(H8.fs.length:Int)/\(H8.fs.length:Int)<=(H8.fs.length:Int)) <|
 (bg (sub H8.fs H8.fat (H8.fs.length:Int))).bind λ r2 =>
 (
   if r2.1=65533 then
    if r2.2=1 then
     some true
    else
     if r2.1 < 32 then
      some true
     else
      some (decide (r2.1=127))
   else
    if r2.1 < 32 then
     some true
    else
     some (decide (r2.1=127))
  : Option Bool).bind λ t8 =>
 if t8=true then
  some (false,H8)
 else
  ck (inR (H8.fat+r2.2)) <|
  some (true,(ac.mk H8.fs (H8.fat+r2.2) H8.HV H8.AT))
theorem ml (H8:ac)(r:Bool×ac)(h0:ed H8=some r):aV Tryz.prog 79 [.ptr 1000000 0] [(1000000,(ac.cs H8).map .p)] (λ x y=>x=.p (eB r.1)/\y=[(1000000,(ac.cs r.2).map .p)]):=by
 unfold ed at h0;refine cr good [] [1000000] Tryz.func79 Z Z Z Z Z λ w0 F=>mPo (λ v:Bool×ac=>.p (eB v.1)) (λ v=>[(1000000,(ac.cs v.2).map .p)]) ?_;refine nx 5 Z (cc' h0 λ MK h0=>?_);refine bd h0 λ r2 e3 h0=>mD [(0,.ptr 1000000 0)] Z ⟨Z,trivial⟩ Z (dR 3 Z ?_);refine dq (.p (eS H8.fs)) [8] Z (λ _ e _ q=>aj Z (bj Z Z Z Z Z (e _ _ Z) Z (ac.g_s _) q)) Z (dR 3 Z ?_);refine dq (.p (eI H8.fat)) [12] Z (λ _ e _ q=>aj Z (bj Z Z Z Z Z (e _ _ Z) Z (ac.g_at _) q)) Z (dq (.p (eS (sub H8.fs H8.fat (H8.fs.length:Int)))) [9,13] Z (λ _ e _ q=>aj Z (dQ (a:=H8.fs) (l:=H8.fat) (h:=(H8.fs.length:Int)) Z Z Z Z Z (e _ _ Z) (gG (e _ _ Z)) Z MK q)) Z ?_);refine dq (.tuple [.p (eK .i32 r2.1),.p (eI r2.2)]) [14] Z (λ _ e _ q=>aj Z (fj (d6 (sub H8.fs H8.fat (H8.fs.length:Int)) _ e3) Z Z Z (bo (e _ _ Z) cX) ⟨sr,trivial⟩ Tryz.call90 Z q)) Z (dR 5 Z ?_);refine dE Z (nx 3 Z ?_);refine bd h0 λ NA h1 h0=>kN NA (λ Lt=>⟨[(0,.ptr 1000000 0),(4,.p (eI r2.2)),(31,.p (eB Lt))],[(1000000,(ac.cs H8).map .p)]⟩) ?_ ?_
 ·refine nx 1 Z (fB [31] h0 Z (λ c9 h0=>?_) λ c9 h0=>?_)
  ·exact nx 6 Z (mQo (oi h0) (ay _) Z Z Z (av Z (az _) Z) (sr) ⟨⟨_,Z,aC _⟩,trivial⟩)
  refine nx 7 Z (mO Z (bj Z Z Z Z Z Z Z (ac.g_at _) ?_));refine nx 1 Z (oA h0 Z Z λ JL h0=>?_);refine nx 2 Z (mO Z (eO Z Z Z Z Z Z Z Z (ac.b_at _) (ac.u_at _) ?_));exact nx 6 Z (mQo (oi h0) (ay _) Z Z Z (av Z (az _) Z) (sr) ⟨⟨_,Z,aC _⟩,trivial⟩)
 refine nx 4 Z (fD [19,20] h1 Z (λ c4 h1=>?_) λ c4 h1=>?_)
 ·refine nx 4 Z (fD [22,23,24] h1 Z (λ c5 h1=>?_) λ c5 h1=>?_)
  ·exact nx 8 Z (eX _ (oi h1).symm (gE Z Z))
  refine nx 4 Z (fD [26,27,28] h1 Z (λ c6 h1=>?_) λ c6 h1=>?_)
  ·exact nx 4 Z (eX _ (oi h1).symm (gE Z Z))
  exact nx 4 Z (eX _ (oi h1).symm (gE Z Z))
 refine nx 8 Z (fD [26,27,28] h1 Z (λ c7 h1=>?_) λ c7 h1=>?_)
 ·exact nx 4 Z (eX _ (oi h1).symm (gE Z Z))
 exact nx 4 Z (eX _ (oi h1).symm (gE Z Z))
def a6 (IB:ac->Int->Option (Bool×ac))(H6:Int):Nat->ac->Option (ac⊕(Bool×ac))
 | 0,_=>none
 | m+1,x33 =>
 (bX x33).bind λ It =>
 if It.1=true then
  ck ((0:Int)<=It.2.fat/\It.2.fat<=(It.2.fs.length:Int)/\(It.2.fs.length:Int)<=(It.2.fs.length:Int)) <|
  jn (
    ck ((0:Int)<=0/\0 < ((sub It.2.fs It.2.fat (It.2.fs.length:Int)).length:Int)) <|
    if byt (sub It.2.fs It.2.fat (It.2.fs.length:Int)) 0=34 then
     ck (inR (It.2.fat+1)) <|
     some (.inr (.inr (true,(ac.mk It.2.fs (It.2.fat+1) It.2.HV It.2.AT))))
    else
     (strings_HasPrefix (sub It.2.fs It.2.fat (It.2.fs.length:Int)) ([36,36,123]:Bytes)).bind λ r41 =>
     if r41=true then
      ck (inR (It.2.fat+3)) <|
      some (.inl (ac.mk It.2.fs (It.2.fat+3) It.2.HV It.2.AT))
     else
      (strings_HasPrefix (sub It.2.fs It.2.fat (It.2.fs.length:Int)) ([36,123]:Bytes)).bind λ L4 =>
      if L4=true then
       (IB It.2 H6).bind λ MR =>
       if (!MR.1)=true then
        some (.inr (.inr (false,MR.2)))
       else
        some (.inl MR.2)
      else
       (
         ck ((0:Int)<=0/\0 < ((sub It.2.fs It.2.fat (It.2.fs.length:Int)).length:Int)) <|
         if byt (sub It.2.fs It.2.fat (It.2.fs.length:Int)) 0=92 then
          ck (inR (It.2.fat+1)) <|
          some (ac.mk It.2.fs (It.2.fat+1) It.2.HV It.2.AT)
         else
          some It.2
        : Option ac).bind λ x54 =>
       (bX x54).bind λ KD =>
       if (!KD.1)=true then
        some (.inl KD.2)
       else
        (ed KD.2).bind λ JJ =>
        if (!JJ.1)=true then
         (cZ JJ.2 2 JJ.2.fat).bind λ Jg =>
         some (.inr (.inr (Jg.1,Jg.2)))
        else
         some (.inl JJ.2)
   : Option (ac⊕(ac⊕(Bool×ac)))) λ x63 =>
  a6 IB H6 m x63
 else
  some (.inl It.2)
def aW (n:Nat)(IU:ac->Int->Option (af×Bool×ac))(H6:Int):Nat->Int->ac->Option (ac⊕(Bool×ac))
 | 0,_,_=>none
 | m+1,open35,x36 =>
 if 0 < open35 then
  jn (
    (eG n x36).bind λ J5 =>
    (bX J5).bind λ Lv =>
    if (!Lv.1)=true then
     (cZ Lv.2 40 Lv.2.HV).bind λ L5 =>
     some (.inr (.inr (L5.1,L5.2)))
    else
     (d8 n Lv.2).bind λ L4 =>
     if (!L4.1)=true then
      (cZ L4.2 2 L4.2.fat).bind λ MR =>
      some (.inr (.inr (MR.1,MR.2)))
     else
      ck (inR (H6+1)) <|
      (IU L4.2 (H6+1)).bind λ Jn =>
      if (!Jn.2.1)=true then
       some (.inr (.inr (false,Jn.2.2)))
      else
       (
         (
           if Jn.1.Ar=4 then
            some (decide (Jn.1.Df=([123]:Bytes)))
           else
            some false
          : Option Bool).bind λ t55 =>
         if t55=true then
          ck (inR (open35+1)) <|
          some (open35+1)
         else
          some open35
        : Option Int).bind λ open58 =>
       (
         if Jn.1.Ar=4 then
          some (decide (Jn.1.Df=([125]:Bytes)))
         else
          some false
        : Option Bool).bind λ t60 =>
       if t60=true then
        ck (inR (open58 - 1)) <|
        some (.inl (open58 - 1,Jn.2.2))
       else
        some (.inl (open58,Jn.2.2))
   : Option ((Int×ac)⊕(ac⊕(Bool×ac)))) λ Nx =>
  aW n IU H6 m Nx.1 Nx.2
 else
  some (.inl x36)
mutual
def bC:Nat->ac->Int->Option (af×Bool×ac)
 | 0,_,_=>none
 | n+1,H8,H6 =>
 ck ((0:Int)<=H8.fat/\H8.fat < (H8.fs.length:Int)) <|
 ck ((0:Int)<=byt H8.fs H8.fat/\byt H8.fs H8.fat < 256) <|
 jn (
   if ((lat i7 (byt H8.fs H8.fat)).toNat:Int)=2 then
    (fb n H8 2 3).bind λ r4 =>
    if 64 < (r4.1.length:Int) then
     (cZ r4.2 7 H8.fat).bind λ r7 =>
     some (.inr ((af.mk 1 r4.1 H8.fat),r7.1,r7.2))
    else
     some (.inl (1,r4.1,r4.2))
   else
    if ((lat i7 (byt H8.fs H8.fat)).toNat:Int)=3 then
     (fb n H8 3 3).bind λ Iu =>
     some (.inl (2,Iu.1,Iu.2))
    else
     if ((lat i7 (byt H8.fs H8.fat)).toNat:Int)=6 then
      ck (inR (H8.fat+1)) <|
      some (.inl (5,([10]:Bytes),(ac.mk H8.fs (H8.fat+1) H8.HV H8.AT)))
     else
      if ((lat i7 (byt H8.fs H8.fat)).toNat:Int)=5 then
       ((cY n) H8 H6).bind λ Im =>
       if (!Im.1)=true then
        some (.inr ((af.mk 3 ([]:Bytes) H8.fat),false,Im.2))
       else
        ck (inR (H8.fat+1)) <|
        ck (inR (Im.2.fat - 1)) <|
        ck ((0:Int)<=H8.fat+1/\H8.fat+1<=Im.2.fat - 1/\Im.2.fat - 1<=(Im.2.fs.length:Int)) <|
        some (.inl (3,sub Im.2.fs (H8.fat+1) (Im.2.fat - 1),Im.2))
      else
       ck ((0:Int)<=H8.fat/\H8.fat<=(H8.fs.length:Int)/\(H8.fs.length:Int)<=(H8.fs.length:Int)) <|
       (ja n (sub H8.fs H8.fat (H8.fs.length:Int))).bind λ Kr =>
       ck (inR (H8.fat+(Kr.length:Int))) <|
       some (.inl (4,Kr,(ac.mk H8.fs (H8.fat+(Kr.length:Int)) H8.HV H8.AT)))
  : Option ((Int×Bytes×ac)⊕(af×Bool×ac))) λ N3 =>
 some ((af.mk N3.1 N3.2.1 H8.fat),true,N3.2.2)
def dD:Nat->ac->Int->Option (Bool×ac)
 | 0,_,_=>none
 | n+1,H8,H6 =>
 ck (inR (H8.fat+1)) <|
 jn (a6 (aS n) H6 n (ac.mk H8.fs (H8.fat+1) H8.HV H8.AT)) λ x65 =>
 (cZ x65 40 x65.HV).bind λ Kv =>
 some (Kv.1,Kv.2)
def cY:Nat->ac->Int->Option (Bool×ac)
 | 0,_,_=>none
 | n+1,H8,H6 =>
 if H8.HV < 0 then
  ((dD n) (ac.mk H8.fs H8.fat H8.fat H8.AT) H6).bind λ r1 =>
  some (r1.1,ac.mk r1.2.fs r1.2.fat (-1) r1.2.AT)
 else (dD n) H8 H6
def aS:Nat->ac->Int->Option (Bool×ac)
 | 0,_,_=>none
 | n+1,H8,H6 =>
 if 32<=H6 then
  (cZ H8 4 H8.fat).bind λ r2 =>
  some (r2.1,r2.2)
 else
  ck (inR (H8.fat+2)) <|
  jn (aW n (bC n) H6 n 1 (ac.mk H8.fs (H8.fat+2) H8.HV H8.AT)) λ x67 =>
  some (true,x67)
end
theorem nX (n:Nat):(∀ (H8:ac) (H6:Int) (r:af×Bool×ac),bC n H8 H6=some r->aV Tryz.prog 41 [.ptr 1000000 0,.p (eI H6)] [(1000000,(ac.cs H8).map .p)] (λ x y=>x=.tuple [.p (.agg (af.cs r.1)),.p (eB r.2.1)]/\y=[(1000000,(ac.cs r.2.2).map .p)]))/\(∀ (H8:ac) (H6:Int) (r:Bool×ac),dD n H8 H6=some r->Cg Tryz.prog Tryz.f61 (HM Tryz.f61.body) [(1,.p (eI H6)),(2,.ptr 1000001 0)] [(1000000,(ac.cs H8).map .p),(1000001,[.ptr 1000000 0])] (λ x y=>x.sub (.p (eB r.1))/\leO y [(1000000,(ac.cs r.2).map .p),(1000001,[.ptr 1000000 0])]))/\(∀ (H8:ac) (H6:Int) (r:Bool×ac),cY n H8 H6=some r->aV Tryz.prog 61 [.ptr 1000000 0,.p (eI H6)] [(1000000,(ac.cs H8).map .p)] (λ x y=>x=.p (eB r.1)/\y=[(1000000,(ac.cs r.2).map .p)]))/\(∀ (H8:ac) (H6:Int) (r:Bool×ac),aS n H8 H6=some r->aV Tryz.prog 78 [.ptr 1000000 0,.p (eI H6)] [(1000000,(ac.cs H8).map .p)] (λ x y=>x=.p (eB r.1)/\y=[(1000000,(ac.cs r.2).map .p)])):=by
 induction n with
 | zero=>exact ⟨(by intro H8 H6 r h0; cases h0),(by intro H8 H6 r h0; cases h0),(by intro H8 H6 r h0; cases h0),(by intro H8 H6 r h0; cases h0)⟩
 | succ n ih =>
 obtain ⟨I6,IE,I3,IL⟩:=ih;refine ⟨?_,?_,?_,?_⟩
 ·skip
  intro H8 H6 r h0;rw [bC] at h0;refine cr good [] [1000000] Tryz.func41 Z Z Z Z Z λ w0 F=>mPo (λ v:af×Bool×ac=>.tuple [.p (.agg (af.cs v.1)),.p (eB v.2.1)]) (λ v=>[(1000000,(ac.cs v.2.2).map .p)]) ?_;refine nx 2 rfl (mO rfl (io Z Z Z Z Z ?_));refine mG (oj (show lM _ _=_ from (by repeat (first | exact kI _ | apply jI rfl | apply eu rfl (nA _ _) | apply eu Z Z)))) (nx 7 rfl ?_);refine mO rfl (bj Z Z Z Z Z Z Z (ac.g_at _) ?_);refine nx 1 rfl (mO rfl (io Z Z Z Z Z ?_));refine mG (oj (show lM _ _=_ from (by repeat (first | exact kI _ | apply jI rfl | apply eu rfl (nA _ _) | apply eu Z Z)))) (nx 4 rfl ?_);refine cc' h0 λ MK h0=>cc' h0 λ Ke h0=>mD [(0,.ptr 1000000 0),(1,.p (eI H6)),(4,.ptr 4 0),(6,.ptr 6 0)] rfl ⟨rfl,rfl,rfl,rfl,trivial⟩ rfl (dR 4 rfl ?_);refine dq (.p (eS H8.fs)) [15] rfl (λ _ e _ q=>aj rfl (bj Z Z Z Z Z (e _ _ rfl) rfl (ac.g_s _) q)) rfl (dR 3 rfl ?_);refine dq (.p (eI H8.fat)) [19] rfl (λ _ e _ q=>aj rfl (bj Z Z Z Z Z (e _ _ rfl) rfl (ac.g_at _) q)) rfl (dq (.p (eK .u8 (byt H8.fs H8.fat))) [16,20] rfl (λ _ e _ q=>aj rfl (gk Z Z Z Z Z (e _ _ rfl) (e _ _ rfl) MK q)) rfl ?_);refine dR 2 rfl (dq (.ptr 1000000 (2+(byt H8.fs H8.fat).toNat*1)) [21,23] rfl (λ _ e _ q=>aj rfl (fX Z Z Z Z Z Z (e _ _ rfl) (e _ _ rfl) Ke q)) rfl ?_);refine dq (.p (eK .u8 ((lat i7 (byt H8.fs H8.fat)).toNat:Int))) [24] rfl (λ _ e _ q=>aj rfl (bj Z Z Z Z Z (e _ _ rfl) rfl (ac.g_class _ Ke) q)) rfl (dE rfl ?_);refine nx 1 rfl ?_;obtain ⟨KY,h1,IS,hR0⟩:=db h0;refine kX (λ JW:Int×Bytes×ac=>KY=.inl JW) (λ JW=>⟨[(4,.ptr 4 0),(6,.ptr 6 0)],[(4,jC),(6,[.p (eI JW.1),.p (eS JW.2.1),.p (eI H8.fat)]),(1000000,(ac.cs JW.2.2).map .p)]⟩) (λ JW hv=>?_) ?_
  ·have h0:=IS _ hv;exact nx 8 Z (mQo (oi h0) (ay _) Z Z Z (av Z (az _) Z) (ax ⟨sr,sr,trivial⟩) ⟨⟨_,Z,aC _⟩,trivial⟩)
  refine nx 6 Z (fD [48,49] h1 Z (λ c3 h1=>?_) λ c3 h1=>?_)
  ·refine nx 4 Z (bd h1 λ r4 e5 h1=>?_);refine mO Z (bn [1000000] [] 101000 101000 (lb _ H8 2 3 _ e5) Z Z Z Z Z ⟨sr,sr,sr,trivial⟩ Z (av Z (az _) Z) ⟨⟨_,Z,aC _⟩,trivial⟩ Z Z Z Z Z Z Z Z Tryz.call59 Z (av Z (az _) Z) ?_);refine nx 9 Z (oLs Z ?_);refine nx 2 Z (fD [57] h1 Z (λ c6 h1=>?_) λ c6 h1=>?_)
   ·refine nx 2 Z (bd h1 λ r7 e8 h1=>?_);refine mG (gE (t:=⟨[(0,.ptr 1000000 0),(4,.ptr 4 0),(6,.ptr 6 0)],[(4,jC),(6,[.p (eI 1),.p (eS r4.1),.p (eI H8.fat)]),(1000000,(ac.cs r4.2).map .p)]⟩) Z Z) (mSq ⟨2,[4,5],(by3 (.some (dr [] 102000 102000)) .none .none),(λ _=>[(0,.ptr 1000000 0),(4,.ptr 4 0),(6,.ptr 6 0)]),(by3 ([(4,jC),(6,[.p (eI 1),.p (eS r4.1),.p (eI H8.fat)]),(1000000,(ac.cs r4.2).map .p)]) ([(1000000,(ac.cs r7.2).map .p),(4,jC),(6,[.p (eI 1),.p (eS r4.1),.p (eI H8.fat)])]) ([(4,[.p (eI 1),.p (eS r4.1),.p (eI H8.fat)]),(1000000,(ac.cs r7.2).map .p),(4,jC),(6,[.p (eI 1),.p (eS r4.1),.p (eI H8.fat)])]))⟩ Z ?_);refine dPc (.p (.agg [eI 1,eS r4.1,eI H8.fat])) Z (dPc (.ptr 1000000 0) Z ?_);refine dPc (.ptr 6 2) Z (dPc (.p (eI H8.fat)) Z ?_);refine eM (λ _=>.p (eB r7.1)) [(59,_),(61,_)] Z ⟨.inr ⟨1,_,Z,Z,Z⟩,.inr ⟨3,_,Z,Z,Z⟩,trivial⟩ Z Z (ip Z Y) (lt2 (λ h=>absurd h (by decide)) Y) (λ sl H2 K hK=>aj Z (bn [1000000] [] 102000 102000 (dT r4.2 7 H8.fat _ e8) Z Z Z (bo (H2 _ _ Z) (bo Z (bo (H2 _ _ Z) cX))) Z ⟨sr,sr,sr,trivial⟩ Z (av Z (az _) Z) ⟨⟨_,Z,aC _⟩,trivial⟩ Z Z Z Z Z Z Z Z Tryz.call60 Z (av Z (az _) Z) hK)) (dS Z ?_);refine dPc (.p (eB r7.1)) Z (dF ?_);exact nx 2 Z (mQo (hR0 _ (oi h1).symm) (ay _) Z Z Z (av Z (az _) Z) (ax ⟨sr,sr,trivial⟩) ⟨⟨_,Z,aC _⟩,trivial⟩)
   exact nx 2 Z (eX _ (oi h1).symm (gE Z Z))
  refine nx 6 Z (fD [63,64] h1 Z (λ c9 h1=>?_) λ c9 h1=>?_)
  ·refine nx 3 Z (bd h1 λ Iu JM h1=>?_);refine mO Z (bn [1000000] [] 103000 103000 (lb _ H8 3 3 _ JM) Z Z Z Z Z ⟨sr,sr,sr,trivial⟩ Z (av Z (az _) Z) ⟨⟨_,Z,aC _⟩,trivial⟩ Z Z Z Z Z Z Z Z Tryz.call59 Z (av Z (az _) Z) ?_);exact nx 5 Z (eX _ (oi h1).symm (gE Z Z))
  refine nx 6 Z (fD [69,70] h1 Z (λ KP h1=>?_) λ KP h1=>?_)
  ·refine nx 12 Z (mO Z (bj Z Z Z Z Z Z Z (ac.g_at _) ?_));refine oA h1 Z Z λ K3 h1=>nx 2 Z (mO Z (eO Z Z Z Z Z Z Z Z (ac.b_at _) (ac.u_at _) ?_));exact nx 1 Z (eX _ (oi h1).symm (gE Z Z))
  refine nx 6 Z (fD [80,81] h1 Z (λ KO h1=>?_) λ KO h1=>?_)
  ·refine nx 11 Z (bd h1 λ Im K7 h1=>?_);refine mO Z (bn [1000000] [] 104000 104000 (I3 H8 H6 _ K7) Z Z Z Z Z ⟨sr,sr,trivial⟩ Z (av Z (az _) Z) ⟨⟨_,Z,aC _⟩,trivial⟩ Z Z Z Z Z Z Z Z Tryz.call61 Z (av Z (az _) Z) ?_);refine nx 2 Z (mG (gE (t:=⟨[(0,.ptr 1000000 0),(4,.ptr 4 0),(6,.ptr 6 0),(86,.p (eB (!Im.1)))],[(4,jC),(6,[.p (eI 3),.p (eS ([]:Bytes)),.p (eI H8.fat)]),(1000000,(ac.cs Im.2).map .p)]⟩) Z Z) ?_);refine fB [86] h1 Z (λ IA h1=>?_) λ IA h1=>?_
   ·exact nx 8 Z (mQo (hR0 _ (oi h1).symm) (ay _) Z Z Z (av Z (az _) Z) (ax ⟨sr,sr,trivial⟩) ⟨⟨_,Z,aC _⟩,trivial⟩)
   refine nx 2 Z (cc' h1 λ KI h1=>?_);refine cc' h1 λ J7 h1=>cc' h1 λ Kn h1=>mG (gE (t:=⟨[(0,.ptr 1000000 0),(4,.ptr 4 0),(6,.ptr 6 0)],[(4,jC),(6,[.p (eI 3),.p (eS ([]:Bytes)),.p (eI H8.fat)]),(1000000,(ac.cs Im.2).map .p)]⟩) Z Z) (mSq ⟨1,[14],(λ _=>.none),(λ _=>[(0,.ptr 1000000 0),(4,.ptr 4 0),(6,.ptr 6 0)]),(ob2 ([(4,jC),(6,[.p (eI 3),.p (eS ([]:Bytes)),.p (eI H8.fat)]),(1000000,(ac.cs Im.2).map .p)]) (6,[.p (eI 3),.p (eS (sub Im.2.fs (H8.fat+1) (Im.2.fat - 1))),.p (eI H8.fat)]))⟩ Z ?_);refine dPc (.ptr 1000000 0) Z (dPc (.ptr 1000000 0) Z ?_);refine dPc (.ptr 1000000 0) Z (dPc (.p (eS Im.2.fs)) Z ?_);refine dPc (.ptr 6 2) Z (dPc (.p (eI H8.fat)) Z ?_);refine aG (λ _=>.p (eI (H8.fat+1))) Z Z Z (ip Z Y) (lt1 Z) (aA Z (au [(93,_)] ⟨.inr ⟨5,_,Z,Z,Z⟩,trivial⟩ (λ sl H2 K hK=>aj Z (dV Z Z Z (H2 _ _ Z) Z Z KI hK)) aE)) (dPc (.ptr 1000000 0) Z ?_);refine dPc (.ptr 1000000 0) Z (dPc (.ptr 1000000 1) Z ?_);refine dPc (.p (eI Im.2.fat)) Z (aG (λ _=>.p (eI (Im.2.fat - 1))) Z Z Z (ip Z Y) (lt1 Z) (aA Z (au [(98,_)] ⟨.inr ⟨10,_,Z,Z,Z⟩,trivial⟩ (λ sl H2 K hK=>aj Z (dV Z Z Z (H2 _ _ Z) Z Z J7 hK)) aE)) ?_);refine aG (λ _=>.p (eS (sub Im.2.fs (H8.fat+1) (Im.2.fat - 1)))) Z Z Z (ip Z Y) (lt1 Z) (aA Z (au [(91,_),(94,_),(99,_)] ⟨.inr ⟨3,_,Z,Z,Z⟩,.inr ⟨6,_,Z,Z,Z⟩,.inr ⟨11,_,Z,Z,Z⟩,trivial⟩ (λ sl H2 K hK=>aj Z (dQ (a:=Im.2.fs) (l:=H8.fat+1) (h:=Im.2.fat - 1) Z Z Z Z Z (H2 _ _ Z) (gG (H2 _ _ Z)) (lY (H2 _ _ Z)) Kn hK)) aE)) (dPc (.ptr 6 1) Z ?_);refine dS Z (dF ?_);exact nx 1 Z (eX _ (oi h1).symm (gE Z Z))
  refine nx 2 Z (cc' h1 λ Km h1=>?_);refine bd h1 λ Kr NX h1=>mG (gE (t:=⟨[(0,.ptr 1000000 0),(4,.ptr 4 0),(6,.ptr 6 0)],[(4,jC),(6,[.p (eI 0),.p (eS ([]:Bytes)),.p (eI H8.fat)]),(1000000,(ac.cs H8).map .p)]⟩) Z Z) (mSq ⟨2,[11,13],(λ _=>.none),(λ _=>[(0,.ptr 1000000 0),(4,.ptr 4 0),(6,.ptr 6 0)]),(ob3 ([(4,jC),(6,[.p (eI 0),.p (eS ([]:Bytes)),.p (eI H8.fat)]),(1000000,(ac.cs H8).map .p)]) (6,[.p (eI 4),.p (eS ([]:Bytes)),.p (eI H8.fat)]) (6,[.p (eI 4),.p (eS Kr),.p (eI H8.fat)]))⟩ Z ?_);refine dPc (.ptr 1000000 0) Z (dPc (.ptr 1000000 0) Z ?_);refine dPc (.ptr 1000000 0) Z (dPc (.p (eS H8.fs)) Z ?_);refine dPc (.ptr 1000000 0) Z (dPc (.ptr 1000000 0) Z ?_);refine dPc (.ptr 1000000 1) Z (dPc (.p (eI H8.fat)) Z ?_);refine aG (λ _=>.p (eS (sub H8.fs H8.fat (H8.fs.length:Int)))) Z Z Z (gx Z Z Y) (lt2 Z Z) (aA Z (au [(29,_),(33,_)] ⟨.inr ⟨3,_,Z,Z,Z⟩,.inr ⟨7,_,Z,Z,Z⟩,trivial⟩ (λ sl H2 K hK=>aj Z (dQ (a:=H8.fs) (l:=H8.fat) (h:=(H8.fs.length:Int)) Z Z Z Z Z (H2 _ _ Z) (gG (H2 _ _ Z)) Z Km hK)) (au [(29,_),(33,_)] ⟨.inr ⟨3,_,Z,Z,Z⟩,.inr ⟨7,_,Z,Z,Z⟩,trivial⟩ (λ sl H2 K hK=>aj Z (dQ (a:=H8.fs) (l:=H8.fat) (h:=(H8.fs.length:Int)) Z Z Z Z Z (H2 _ _ Z) (gG (H2 _ _ Z)) Z Km hK)) aE))) (aG (λ _=>.p (eS Kr)) Z Z Z (gx Z Z Y) (lt2 Z Z) (aA Z (aA Z (au [(34,_)] ⟨.inr ⟨8,_,Z,Z,Z⟩,trivial⟩ (λ sl H2 K hK=>aj Z (fj (oR _ (sub H8.fs H8.fat (H8.fs.length:Int)) _ NX) Z Z Z (bo (H2 _ _ Z) cX) ⟨sr,trivial⟩ Tryz.call58 Z hK)) aE))) ?_);refine dPc (.ptr 6 0) Z (iR [(36,_)] Z ⟨.inr ⟨10,_,Z,Z,Z⟩,trivial⟩ Z (λ sl H2 K hK=>aj Z (il Z Z Z (H2 _ _ Z) Z Z Z Z (th Z) hK)) ?_);refine dPc (.ptr 6 1) Z (dS Z ?_);refine dF (nx 1 Z ?_);refine cc' h1 λ Kz h1=>mG (gE (t:=⟨[(0,.ptr 1000000 0),(4,.ptr 4 0),(6,.ptr 6 0)],[(4,jC),(6,[.p (eI 4),.p (eS Kr),.p (eI H8.fat)]),(1000000,(ac.cs H8).map .p)]⟩) Z Z) (mSq ⟨1,[10],(λ _=>.none),(λ _=>[(0,.ptr 1000000 0),(4,.ptr 4 0),(6,.ptr 6 0)]),(ob2 ([(4,jC),(6,[.p (eI 4),.p (eS Kr),.p (eI H8.fat)]),(1000000,(ac.cs H8).map .p)]) (1000000,(ac.cs (ac.mk H8.fs (H8.fat+(Kr.length:Int)) H8.HV H8.AT)).map .p))⟩ Z ?_);refine dPc (.ptr 1000000 0) Z (dPc (.ptr 1000000 0) Z ?_);refine dPc (.ptr 1000000 1) Z (dPc (.p (eI H8.fat)) Z ?_);refine dPc (.ptr 6 1) Z (dPc (.p (eS Kr)) Z ?_);refine aG (λ _=>.p (eI (Kr.length:Int))) Z Z Z (ip Z Y) (lt1 Z) (aA Z (au [(43,_)] ⟨.inr ⟨5,_,Z,Z,Z⟩,trivial⟩ (λ sl H2 K hK=>aj Z (qO Z Z Z Z Z (H2 _ _ Z) hK)) aE)) (aG (λ _=>.p (eI (H8.fat+(Kr.length:Int)))) Z Z Z (ip Z Y) (lt1 Z) (aA Z (au [(41,_),(44,_)] ⟨.inr ⟨3,_,Z,Z,Z⟩,.inr ⟨6,_,Z,Z,Z⟩,trivial⟩ (λ sl H2 K hK=>aj Z (dV Z Z Z (H2 _ _ Z) (H2 _ _ Z) Z Kz hK)) aE)) ?_);refine dPc (.ptr 1000000 0) Z (dPc (.ptr 1000000 1) Z ?_);refine iR [(45,_),(47,_)] Z ⟨.inr ⟨7,_,Z,Z,Z⟩,.inr ⟨9,_,Z,Z,Z⟩,trivial⟩ Z (λ sl H2 K hK=>aj Z (eO Z Z Z (H2 _ _ Z) (H2 _ _ Z) Z Z Z (ac.b_at _) (ac.u_at _) hK)) (dF ?_);exact nx 1 Z (eX _ (oi h1).symm (gE Z Z))
 ·skip
  intro H8 H6 r h0;rw [dD] at h0;refine CL good (t:=4) [1000000,1000001] Z Z λ w0 F=>mPo (λ v:Bool×ac=>.p (eB v.1)) (λ v=>[(1000000,(ac.cs v.2).map .p),(1000001,[.ptr 1000000 0])]) ?_;refine nx 5 rfl (mO rfl (bj Z Z Z Z Z Z Z (ac.g_at _) ?_));refine oA h0 Z Z λ MK h0=>nx 2 rfl (mO rfl (eO Z Z Z Z Z Z Z Z (ac.b_at _) (ac.u_at _) ?_));refine nx 3 rfl ?_;obtain ⟨Me,h1,IS,hR0⟩:=db h0;refine kEx 0 (λ KQ:ac=>Me=.inl KQ) (λ KQ=>⟨[(2,.ptr 1000001 0)],[(1000000,(ac.cs KQ).map .p),(1000001,[.ptr 1000000 0])]⟩) (λ KQ hv=>?_) ?_
  ·have h0:=IS _ hv;refine nx 2 Z (bd h0 λ Kv OZ h0=>?_);refine mG (gE (t:=⟨[(2,.ptr 1000001 0)],[(1000000,(ac.cs KQ).map .p),(1000001,[.ptr 1000000 0])]⟩) Z Z) (mSq ⟨1,[5],(by2 (.some (dr [] 111000 111000)) .none),(λ _=>[(2,.ptr 1000001 0)]),(by2 ([(1000000,(ac.cs KQ).map .p),(1000001,[.ptr 1000000 0])]) ([(1000000,(ac.cs Kv.2).map .p),(1000001,[.ptr 1000000 0])]))⟩ Z ?_);refine dPc (.ptr 1000000 0) Z (dPc (.ptr 1000000 0) Z ?_);refine dPc (.ptr 1000000 0) Z (dPc (.ptr 1000000 258) Z ?_);refine dPc (.p (eI KQ.HV)) Z (eM (λ _=>.p (eB Kv.1)) [(87,_),(91,_)] Z ⟨.inr ⟨0,_,Z,Z,Z⟩,.inr ⟨4,_,Z,Z,Z⟩,trivial⟩ Z Z Y (lt1 (λ h=>absurd h (by decide))) (λ sl H2 K hK=>aj Z (bn [1000000] [] 111000 111000 (dT KQ 40 KQ.HV _ OZ) Z Z Z (bo (H2 _ _ Z) (bo Z (bo (H2 _ _ Z) cX))) Z ⟨sr,sr,sr,trivial⟩ Z (av Z (az _) Z) ⟨⟨_,Z,aC _⟩,trivial⟩ Z Z Z Z Z Z Z Z Tryz.call60 Z (av Z (az _) Z) hK)) ?_);refine dPc (.p (eB Kv.1)) Z (dF ?_);exact nx 2 Z (mQo (oi h0) (ay _) Z Z Z (av Z (az _) (av Z Z Z)) (sr) ⟨⟨_,Z,aC _⟩,⟨_,Z,⟨sr,trivial⟩⟩,trivial⟩)
  refine lG (λ (MU:ac)=>⟨[(1,.p (eI H6)),(2,.ptr 1000001 0)],[(1000000,(ac.cs MU).map .p),(1000001,[.ptr 1000000 0])]⟩) (λ m (MU:ac)=>a6 (aS n) H6 m MU) Y (ac.mk H8.fs (H8.fat+1) H8.HV H8.AT) h1 (gE rfl rfl) ?_;rintro m x33 h1;replace h1:a6 (aS n) H6 (m+1) x33=some Me:=h1;rw [a6] at h1;refine nx 4 rfl (bd h1 λ It LH h1=>?_);refine mO rfl (bn [1000000] [] 106000 106000 (cB x33 _ LH) rfl rfl rfl rfl rfl ⟨sr,trivial⟩ rfl (av rfl (az _) rfl) ⟨⟨_,rfl,aC _⟩,trivial⟩ rfl rfl rfl rfl rfl rfl rfl rfl Tryz.call39 rfl (av rfl (az _) rfl) ?_);refine nx 1 rfl (fB [27] h1 rfl (λ Mt h1=>?_) λ Mt h1=>?_)
  ·refine nx 4 rfl (cc' h1 λ KZ h1=>?_);refine mD [(1,.p (eI H6)),(2,.ptr 1000001 0)] rfl ⟨rfl,rfl,trivial⟩ rfl (dR 3 rfl ?_);refine dq (.p (eS It.2.fs)) [30] rfl (λ _ e _ q=>aj rfl (bj Z Z Z Z Z (e _ _ rfl) rfl (ac.g_s _) q)) rfl (dR 3 rfl ?_);refine dq (.p (eI It.2.fat)) [34] rfl (λ _ e _ q=>aj rfl (bj Z Z Z Z Z (e _ _ rfl) rfl (ac.g_at _) q)) rfl (dq (.p (eS (sub It.2.fs It.2.fat (It.2.fs.length:Int)))) [31,35] rfl (λ _ e _ q=>aj rfl (dQ (a:=It.2.fs) (l:=It.2.fat) (h:=(It.2.fs.length:Int)) Z Z Z Z Z (e _ _ rfl) (gG (e _ _ rfl)) rfl KZ q)) rfl ?_);refine dR 1 rfl (dE rfl ?_);refine nx 1 rfl ?_;obtain ⟨o74,h2,hL1,hR1⟩:=db h1;refine kX (λ v75:ac=>o74=.inl v75) (λ v75=>⟨[(1,.p (eI H6)),(2,.ptr 1000001 0)],[(1000000,(ac.cs v75).map .p),(1000001,[.ptr 1000000 0])]⟩) (λ v75 hv=>?_) ?_
   ·have h1:=hL1 _ hv;exact nx 1 Z (eX v75 h1 (gE Z Z))
   refine nx 4 Z (oI h2 Z λ NL h2=>?_);refine nx 3 Z (fD [59,62] h2 Z (λ Pe h2=>?_) λ Pe h2=>?_)
   ·refine nx 6 Z (mO Z (bj Z Z Z Z Z Z Z (ac.g_at _) ?_));refine oA h2 Z Z λ M5 h2=>nx 2 Z (mO Z (eO Z Z Z Z Z Z Z Z (ac.b_at _) (ac.u_at _) ?_));exact nx 6 Z (mQo (hR0 _ (hR1 _ (oi h2).symm).symm) (ay _) Z Z Z (av Z (az _) (av Z Z Z)) (sr) ⟨⟨_,Z,aC _⟩,⟨_,Z,⟨sr,trivial⟩⟩,trivial⟩)
   refine nx 4 Z (bd h2 λ r41 e42 h2=>?_);refine oK (cV (sub It.2.fs It.2.fat (It.2.fs.length:Int)) ([36,36,123]:Bytes) _ e42) Z ⟨sr,sr,trivial⟩ Tryz.call76 Z (nx 2 Z ?_);refine fB [70,72] h2 Z (λ Pa h2=>?_) λ Pa h2=>?_
   ·refine nx 5 Z (mO Z (bj Z Z Z Z Z Z Z (ac.g_at _) ?_));refine oA h2 Z Z λ hk44 h2=>nx 2 Z (mO Z (eO Z Z Z Z Z Z Z Z (ac.b_at _) (ac.u_at _) ?_));exact nx 1 Z (eX _ (oi h2).symm (gE Z Z))
   refine nx 4 Z (bd h2 λ L4 O3 h2=>?_);refine oK (cV (sub It.2.fs It.2.fat (It.2.fs.length:Int)) ([36,123]:Bytes) _ O3) Z ⟨sr,sr,trivial⟩ Tryz.call76 Z (nx 2 Z ?_);refine fB [80,82] h2 Z (λ Ni h2=>?_) λ Ni h2=>?_
   ·refine nx 5 Z (bd h2 λ MR e49 h2=>?_);refine mO Z (bn [1000000] [] 107000 107000 (IL It.2 H6 _ e49) Z Z Z Z Z ⟨sr,sr,trivial⟩ Z (av Z (az _) Z) ⟨⟨_,Z,aC _⟩,trivial⟩ Z Z Z Z Z Z Z Z Tryz.call78 Z (av Z (az _) Z) ?_);refine nx 2 Z (fB [86] h2 Z (λ O8 h2=>?_) λ O8 h2=>?_)
    ·refine nx 5 Z (mG (gE (t:=⟨[(4,.p (eB false))],[(1000000,(ac.cs MR.2).map .p),(1000001,[.ptr 1000000 0])]⟩) Z Z) ?_);exact nx 1 Z (mQo (hR0 _ (hR1 _ (oi h2).symm).symm) (ay _) Z Z Z (av Z (az _) (av Z Z Z)) (sr) ⟨⟨_,Z,aC _⟩,⟨_,Z,⟨sr,trivial⟩⟩,trivial⟩)
    exact nx 2 Z (eX _ (oi h2).symm (gE Z Z))
   refine nx 2 Z (bd h2 λ N4 h3 h2=>?_);refine kN N4 (λ LW=>⟨[(1,.p (eI H6)),(2,.ptr 1000001 0)],[(1000000,(ac.cs LW).map .p),(1000001,[.ptr 1000000 0])]⟩) ?_ ?_
   ·refine nx 5 Z (bd h2 λ KD O1 h2=>?_);refine mO Z (bn [1000000] [] 108000 108000 (cB N4 _ O1) Z Z Z Z Z ⟨sr,trivial⟩ Z (av Z (az _) Z) ⟨⟨_,Z,aC _⟩,trivial⟩ Z Z Z Z Z Z Z Z Tryz.call39 Z (av Z (az _) Z) ?_);refine nx 2 Z (fB [49] h2 Z (λ O7 h2=>?_) λ O7 h2=>?_)
    ·exact nx 2 Z (eX _ (oi h2).symm (gE Z Z))
    refine nx 5 Z (bd h2 λ JJ NT h2=>?_);refine mO Z (bn [1000000] [] 109000 109000 (ml KD.2 _ NT) Z Z Z Z Z ⟨sr,trivial⟩ Z (av Z (az _) Z) ⟨⟨_,Z,aC _⟩,trivial⟩ Z Z Z Z Z Z Z Z Tryz.call79 Z (av Z (az _) Z) ?_);refine nx 2 Z (fB [52] h2 Z (λ c60 h2=>?_) λ c60 h2=>?_)
    ·refine nx 2 Z (bd h2 λ Jg MM h2=>?_);refine mG (gE (t:=⟨[(2,.ptr 1000001 0)],[(1000000,(ac.cs JJ.2).map .p),(1000001,[.ptr 1000000 0])]⟩) Z Z) (mSq ⟨1,[5],(by2 (.some (dr [] 110000 110000)) .none),(λ _=>[(2,.ptr 1000001 0)]),(by2 ([(1000000,(ac.cs JJ.2).map .p),(1000001,[.ptr 1000000 0])]) ([(1000000,(ac.cs Jg.2).map .p),(1000001,[.ptr 1000000 0])]))⟩ Z ?_);refine dPc (.ptr 1000000 0) Z (dPc (.ptr 1000000 0) Z ?_);refine dPc (.ptr 1000000 0) Z (dPc (.ptr 1000000 1) Z ?_);refine dPc (.p (eI JJ.2.fat)) Z (eM (λ _=>.p (eB Jg.1)) [(53,_),(57,_)] Z ⟨.inr ⟨0,_,Z,Z,Z⟩,.inr ⟨4,_,Z,Z,Z⟩,trivial⟩ Z Z Y (lt1 (λ h=>absurd h (by decide))) (λ sl H2 K hK=>aj Z (bn [1000000] [] 110000 110000 (dT JJ.2 2 JJ.2.fat _ MM) Z Z Z (bo (H2 _ _ Z) (bo Z (bo (H2 _ _ Z) cX))) Z ⟨sr,sr,sr,trivial⟩ Z (av Z (az _) Z) ⟨⟨_,Z,aC _⟩,trivial⟩ Z Z Z Z Z Z Z Z Tryz.call60 Z (av Z (az _) Z) hK)) ?_);refine dPc (.p (eB Jg.1)) Z (dF ?_);exact nx 2 Z (mQo (hR0 _ (hR1 _ (oi h2).symm).symm) (ay _) Z Z Z (av Z (az _) (av Z Z Z)) (sr) ⟨⟨_,Z,aC _⟩,⟨_,Z,⟨sr,trivial⟩⟩,trivial⟩)
    exact nx 2 Z (eX _ (oi h2).symm (gE Z Z))
   refine nx 3 Z (oI h3 Z λ NH h3=>?_);refine nx 2 Z (fD [39] h3 Z (λ NZ h3=>?_) λ NZ h3=>?_)
   ·refine nx 5 Z (mO Z (bj Z Z Z Z Z Z Z (ac.g_at _) ?_));refine oA h3 Z Z λ Mj h3=>nx 2 Z (mO Z (eO Z Z Z Z Z Z Z Z (ac.b_at _) (ac.u_at _) ?_));exact nx 1 Z (eX _ (oi h3).symm (gE Z Z))
   exact nx 2 Z (eX _ (oi h3).symm (gE Z Z))
  exact nx 2 Z (eXi _ (oi h1).symm (gE Z Z))
 ·skip
  intro H8 H6 r h0;rw [cY] at h0;refine EH good (k:=77) (j:=2) (q:=18) (b:=decide (H8.HV < 0)) (s0:=⟨[(1,.p (eI H6)),(2,.ptr 2 0)],[(2,[.ptr 1000000 0]),(1000000,(ac.cs H8).map .p)]⟩) (s1:=⟨[(1,.p (eI H6)),(2,.ptr 2 0),(10,.p (eB (decide (H8.HV < 0))))],[(2,[.ptr 1000000 0]),(1000000,(ac.cs H8).map .p)]⟩) (s2:=⟨[(1,.p (eI H6)),(2,.ptr 2 0)],[(2,[.ptr 1000000 0]),(1000000,(ac.cs (ac.mk H8.fs H8.fat H8.fat H8.AT)).map .p)]⟩) [1000000] Tryz.func61 Z Z Z (λ w0 F=>mR ?_) (λ w0 F=>mR ?_) rfl (λ hb=>?_) (λ hb=>?_);refine nx 1 rfl (mO rfl (w4 Z Z Z Z Z ?_));refine mG (oj (show lM _ _=_ from (by repeat (first | exact kI _ | apply jI rfl | apply eu rfl (nA _ _) | apply eu Z Z)))) (nx 3 rfl ?_);exact mE (gE Z Z);refine nx 4 rfl (mO rfl (bj Z Z Z Z Z Z Z (ac.g_outer _) ?_));exact nx 3 rfl (mE (gE Z Z));rw [if_neg (of_decide_eq_false hb)] at h0;refine ⟨⟨[(1,.p (eI H6)),(2,.ptr 2 0),(10,.p (eB (decide (H8.HV < 0))))],[(1000000,(ac.cs r.2).map .p),(2,[.ptr 1000000 0])]⟩,_,_,rfl,(av rfl (az _) rfl),⟨⟨_,rfl,aC _⟩,trivial⟩,λ w0 F g a a2 w hs ht=>?_⟩;exact Ca (C:=⟨Tryz.prog,tt,good,_,rfl,w0,F⟩) (sl:=[(1,.p (eI H6)),(2,.ptr 2 0),(10,.p (eB (decide (H8.HV < 0))))]) (ob:=[(2,[.ptr 1000000 0]),(1000000,(ac.cs H8).map .p)]) [1000000,2] [] 100000 100000 [1,2] rfl (IE H8 H6 _ h0) Z Z Z (av rfl (az _) rfl) ⟨⟨_,rfl,aC _⟩,⟨_,rfl,⟨sr,trivial⟩⟩,trivial⟩ Z Z Z Z Z Z Z Z Z (av rfl (az _) rfl) hs ht;rw [if_pos (of_decide_eq_true hb)] at h0;refine bd h0 λ r1 e1 h0=>?_
  cases h0
  refine ⟨λ w0 F=>mR ?_,⟨Z,Z,Z,Z,Z,Z,Z,Z⟩,Tryz.call77,⟨[(18,.func (.func 77) [.ptr 2 0]),(1,.p (eI H6)),(2,.ptr 2 0)],[(1000000,(ac.cs r1.2).map .p),(2,[.ptr 1000000 0])]⟩,⟨[(18,.func (.func 77) [.ptr 2 0]),(1,.p (eI H6)),(2,.ptr 2 0)],[(2,[.ptr 1000000 0]),(1000000,(ac.cs (ac.mk r1.2.fs r1.2.fat (-1) r1.2.AT)).map .p)]⟩,_,_,.ptr 2 0,Z,Z,(av Z (az _) Z),⟨⟨_,Z,aC _⟩,trivial⟩,λ w0 F g a a2 w hs ht=>?_,λ w0 F g a w u hs=>?_⟩
  ·refine mG (gE (t:=⟨[(1,.p (eI H6)),(2,.ptr 2 0)],[(2,[.ptr 1000000 0]),(1000000,(ac.cs H8).map .p)]⟩) Z Z) (mSq ⟨1,[7],(λ _=>.none),(λ _=>[(1,.p (eI H6)),(2,.ptr 2 0)]),(ob2 ([(2,[.ptr 1000000 0]),(1000000,(ac.cs H8).map .p)]) (1000000,(ac.cs (ac.mk H8.fs H8.fat H8.fat H8.AT)).map .p))⟩ Z ?_);refine dPc (.ptr 1000000 0) Z (dPc (.ptr 1000000 0) Z ?_);refine dPc (.ptr 1000000 0) Z (dPc (.ptr 1000000 1) Z ?_);refine dPc (.p (eI H8.fat)) Z (dPc (.ptr 1000000 0) Z ?_);refine dPc (.ptr 1000000 258) Z (iR [(15,_),(17,_)] Z ⟨.inr ⟨4,_,Z,Z,Z⟩,.inr ⟨6,_,Z,Z,Z⟩,trivial⟩ Z (λ sl H2 K hK=>aj Z (eO Z Z Z (H2 _ _ Z) (H2 _ _ Z) Z Z Z (ac.b_outer _) (ac.u_outer _) hK)) ?_);refine dF (nx 2 Z ?_);exact mE (gE Z Z)
  ·exact Ca (C:=⟨Tryz.prog,tt,good,_,Z,w0,F⟩) (sl:=[(18,.func (.func 77) [.ptr 2 0]),(1,.p (eI H6)),(2,.ptr 2 0)]) (ob:=[(2,[.ptr 1000000 0]),(1000000,(ac.cs (ac.mk H8.fs H8.fat H8.fat H8.AT)).map .p)]) [1000000,2] [] 100000 100000 [1,2] Z (IE (ac.mk H8.fs H8.fat H8.fat H8.AT) H6 _ e1) Z Z Z (av Z (az _) Z) ⟨⟨_,Z,aC _⟩,⟨_,Z,⟨sr,trivial⟩⟩,trivial⟩ Z Z Z Z Z Z Z Z Z (av Z (az _) Z) hs ht
  exact Hc (C:=⟨Tryz.prog,tt,good,_,Z,w0,F⟩) (sl:=[(18,.func (.func 77) [.ptr 2 0]),(1,.p (eI H6)),(2,.ptr 2 0)]) (ob:=[(1000000,(ac.cs r1.2).map .p),(2,[.ptr 1000000 0])]) [2,1000000] [] 100000 100000 2 (na r1.2) Z Z Z (av Z Z (av Z (az _) Z)) ⟨⟨_,Z,⟨sr,trivial⟩⟩,⟨_,Z,aC _⟩,trivial⟩ Z Z Z Z Z Z Z Z Z (av Z Z (av Z (az _) Z)) hs
 ·skip
  intro H8 H6 r h0;rw [aS] at h0;refine cr good [] [1000000] Tryz.func78 Z Z Z Z Z λ w0 F=>mPo (λ v:Bool×ac=>.p (eB v.1)) (λ v=>[(1000000,(ac.cs v.2).map .p)]) ?_;refine nx 10 rfl (fD [9] h0 rfl (λ c1 h0=>?_) λ c1 h0=>?_)
  ·refine nx 7 Z (mO Z (bj Z Z Z Z Z Z Z (ac.g_at _) ?_));refine bd h0 λ r2 e3 h0=>mO Z (bn [1000000] [] 101000 101000 (dT H8 4 H8.fat _ e3) Z Z Z Z Z ⟨sr,sr,sr,trivial⟩ Z (av Z (az _) Z) ⟨⟨_,Z,aC _⟩,trivial⟩ Z Z Z Z Z Z Z Z Tryz.call60 Z (av Z (az _) Z) ?_);exact nx 3 Z (mQo (oi h0) (ay _) Z Z Z (av Z (az _) Z) (sr) ⟨⟨_,Z,aC _⟩,trivial⟩)
  refine nx 7 rfl (mO rfl (bj Z Z Z Z Z Z Z (ac.g_at _) ?_));refine oA h0 Z Z λ Ml h0=>nx 2 rfl (mO rfl (eO Z Z Z Z Z Z Z Z (ac.b_at _) (ac.u_at _) ?_));refine nx 7 rfl ?_;obtain ⟨OE,h1,IS,hR0⟩:=db h0;refine kEx 0 (λ LX:ac=>OE=.inl LX) (λ LX=>⟨[],[(1000000,(ac.cs LX).map .p)]⟩) (λ LX hv=>?_) ?_
  ·have h0:=IS _ hv;exact nx 6 Z (mQo (oi h0) (ay _) Z Z Z (av Z (az _) Z) (sr) ⟨⟨_,Z,aC _⟩,trivial⟩)
  refine lG (λ (L9:Int×ac)=>⟨[(0,.ptr 1000000 0),(1,.p (eI H6)),(5,.p (eI L9.1))],[(1000000,(ac.cs L9.2).map .p)]⟩) (λ m (L9:Int×ac)=>aW n (bC n) H6 m L9.1 L9.2) Y (1,(ac.mk H8.fs (H8.fat+2) H8.HV H8.AT)) h1 (gE rfl rfl) ?_;rintro m ⟨open35,x36⟩ h1;replace h1:aW n (bC n) H6 (m+1) open35 x36=some OE:=h1;rw [aW] at h1;refine nx 6 rfl (fD [24] h1 rfl (λ c37 h1=>?_) λ c37 h1=>?_)
  ·refine nx 2 rfl ?_;obtain ⟨N4,h2,hL1,hR1⟩:=db h1;refine kX (λ LW:Int×ac=>N4=.inl LW) (λ LW=>⟨[(0,.ptr 1000000 0),(1,.p (eI H6)),(5,.p (eI LW.1))],[(1000000,(ac.cs LW.2).map .p)]⟩) (λ LW hv=>?_) ?_
   ·have h1:=hL1 _ hv;exact nx 1 Z (eX (LW.1,LW.2) h1 (gE Z Z))
   refine nx 4 Z (bd h2 λ J5 O4 h2=>?_);refine mO Z (bn [1000000] [] 108000 108000 (ku _ x36 _ O4) Z Z Z Z Z ⟨sr,trivial⟩ Z (av Z (az _) Z) ⟨⟨_,Z,aC _⟩,trivial⟩ Z Z Z Z Z Z Z Z Tryz.call38 Z (av Z (az _) Z) ?_);refine nx 5 Z (bd h2 λ Lv e41 h2=>?_);refine mO Z (bn [1000000] [] 109000 109000 (cB J5 _ e41) Z Z Z Z Z ⟨sr,trivial⟩ Z (av Z (az _) Z) ⟨⟨_,Z,aC _⟩,trivial⟩ Z Z Z Z Z Z Z Z Tryz.call39 Z (av Z (az _) Z) ?_);refine nx 2 Z (fB [29] h2 Z (λ Pb h2=>?_) λ Pb h2=>?_)
   ·refine nx 7 Z (mO Z (bj Z Z Z Z Z Z Z (ac.g_outer _) ?_));refine bd h2 λ L5 e44 h2=>mO Z (bn [1000000] [] 110000 110000 (dT Lv.2 40 Lv.2.HV _ e44) Z Z Z Z Z ⟨sr,sr,sr,trivial⟩ Z (av Z (az _) Z) ⟨⟨_,Z,aC _⟩,trivial⟩ Z Z Z Z Z Z Z Z Tryz.call60 Z (av Z (az _) Z) ?_);exact nx 3 Z (mQo (hR0 _ (hR1 _ (oi h2).symm).symm) (ay _) Z Z Z (av Z (az _) Z) (sr) ⟨⟨_,Z,aC _⟩,trivial⟩)
   refine nx 6 Z (bd h2 λ L4 O3 h2=>?_);refine mO Z (bn [1000000] [] 111000 111000 (jO _ Lv.2 _ O3) Z Z Z Z Z ⟨sr,trivial⟩ Z (av Z (az _) Z) ⟨⟨_,Z,aC _⟩,trivial⟩ Z Z Z Z Z Z Z Z Tryz.call40 Z (av Z (az _) Z) ?_);refine nx 2 Z (fB [38] h2 Z (λ Ni h2=>?_) λ Ni h2=>?_)
   ·refine nx 7 Z (mO Z (bj Z Z Z Z Z Z Z (ac.g_at _) ?_));refine bd h2 λ MR e49 h2=>mO Z (bn [1000000] [] 112000 112000 (dT L4.2 2 L4.2.fat _ e49) Z Z Z Z Z ⟨sr,sr,sr,trivial⟩ Z (av Z (az _) Z) ⟨⟨_,Z,aC _⟩,trivial⟩ Z Z Z Z Z Z Z Z Tryz.call60 Z (av Z (az _) Z) ?_);exact nx 3 Z (mQo (hR0 _ (hR1 _ (oi h2).symm).symm) (ay _) Z Z Z (av Z (az _) Z) (sr) ⟨⟨_,Z,aC _⟩,trivial⟩)
   refine nx 6 Z (oA h2 Z Z λ NI h2=>?_);refine bd h2 λ Jn O2 h2=>mO Z (bn [1000000] [] 113000 113000 (I6 L4.2 (H6+1) _ O2) Z Z Z Z Z ⟨sr,sr,trivial⟩ Z (av Z (az _) Z) ⟨⟨_,Z,aC _⟩,trivial⟩ Z Z Z Z Z Z Z Z Tryz.call41 Z (av Z (az _) Z) ?_);refine nx 3 Z (mO Z (io Z Z Z Z Z ?_));refine mG (oj (show lM _ _=_ from (by repeat (first | exact kI _ | apply jI Z | apply eu Z (nA _ _) | apply eu Z Z)))) (nx 9 Z ?_);refine fB [53] h2 Z (λ c53 h2=>?_) λ c53 h2=>?_
   ·exact nx 6 Z (mQo (hR0 _ (hR1 _ (oi h2).symm).symm) (ay _) Z Z Z (av Z (az _) Z) (sr) ⟨⟨_,Z,aC _⟩,trivial⟩)
   refine nx 3 Z (bd h2 λ o78 h3 h2=>?_);refine kN o78 (λ MN=>⟨[(0,.ptr 1000000 0),(1,.p (eI H6)),(5,.p (eI MN)),(6,.ptr 6 0)],[(6,(af.cs Jn.1).map .p),(1000000,(ac.cs Jn.2.2).map .p)]⟩) ?_ ?_
   ·refine nx 2 Z (bd h2 λ o80 h3 h2=>?_);refine kN o80 (λ v81=>⟨[(0,.ptr 1000000 0),(1,.p (eI H6)),(5,.p (eI o78)),(71,.p (eB v81))],[(1000000,(ac.cs Jn.2.2).map .p)]⟩) ?_ ?_
    ·refine nx 1 Z (fB [71] h2 Z (λ c61 h2=>?_) λ c61 h2=>?_)
     ·refine nx 3 Z (oA h2 Z Z λ OO h2=>?_);exact nx 2 Z (eX _ (oi h2).symm (gE Z Z))
     exact nx 2 Z (eX _ (oi h2).symm (gE Z Z))
    refine nx 5 Z (fD [66,67] h3 Z (λ c59 h3=>?_) λ c59 h3=>?_)
    ·refine nx 2 Z (oS Z Z ?_);exact nx 2 Z (eX _ (oi h3).symm (gE Z Z))
    exact nx 5 Z (eX _ (oi h3).symm (gE Z Z))
   refine nx 1 Z (bd h3 λ MI h4 h3=>?_);refine kN MI (λ ME=>⟨[(0,.ptr 1000000 0),(1,.p (eI H6)),(5,.p (eI open35)),(6,.ptr 6 0),(61,.p (eB ME))],[(6,(af.cs Jn.1).map .p),(1000000,(ac.cs Jn.2.2).map .p)]⟩) ?_ ?_
   ·refine nx 1 Z (fB [61] h3 Z (λ c56 h3=>?_) λ c56 h3=>?_)
    ·refine nx 3 Z (oA h3 Z Z λ M3 h3=>?_);exact nx 2 Z (eX _ (oi h3).symm (gE Z Z))
    exact nx 2 Z (eX _ (oi h3).symm (gE Z Z))
   refine nx 5 Z (fD [56,57] h4 Z (λ c54 h4=>?_) λ c54 h4=>?_)
   ·refine nx 2 Z (oS Z Z ?_);exact nx 2 Z (eX _ (oi h4).symm (gE Z Z))
   exact nx 5 Z (eX _ (oi h4).symm (gE Z Z))
  exact nx 2 Z (eXi _ (oi h1).symm (gE Z Z))
theorem oo (n:Nat):∀ (H8:ac) (H6:Int) (r:af×Bool×ac),bC n H8 H6=some r->aV Tryz.prog 41 [.ptr 1000000 0,.p (eI H6)] [(1000000,(ac.cs H8).map .p)] (λ x y=>x=.tuple [.p (.agg (af.cs r.1)),.p (eB r.2.1)]/\y=[(1000000,(ac.cs r.2.2).map .p)]):=(nX n).1
def fz (n:Nat):Nat->(List af)->ac->Option (Unit⊕((List af)×ap))
 | 0,_,_=>none
 | m+1,Ju,x26 =>
 (eG n x26).bind λ L8 =>
 (
   (bX L8).bind λ KW =>
   if KW.1=true then
    (d8 n KW.2).bind λ J1 =>
    some (!J1.1,J1.2)
   else
    some (false,KW.2)
  : Option (Bool×ac)).bind λ MG =>
 if MG.1=true then
  some (.inr ([],(ap.mk 2 MG.2.fat ([]:Bytes))))
 else
  if (Ju.length:Int)=16384 then
   some (.inr ([],(ap.mk 14 MG.2.fat ([]:Bytes))))
  else
   (bX MG.2).bind λ J5 =>
   if (!J5.1)=true then
    ck ((Ju.length+([(af.mk 6 ([]:Bytes) J5.2.fat)]).length)*32<=140737488355328) <|
    some (.inr (Ju++([(af.mk 6 ([]:Bytes) J5.2.fat)]),(ap.mk 0 0 ([]:Bytes))))
   else
    (bC n J5.2 0).bind λ Kb =>
    if (!Kb.2.1)=true then
     some (.inr ([],Kb.2.2.AT))
    else
     ck ((Ju.length+[Kb.1].length)*32<=140737488355328) <|
     fz n m (Ju++[Kb.1]) Kb.2.2
def mz (n:Nat)(H1:Bytes):Option ((List af)×ap) :=
 if 65536 < (H1.length:Int) then
  some ([],(ap.mk 3 0 ([]:Bytes)))
 else
  (kB H1).bind λ r2 =>
  jn (fz n n [] r2) λ _q48 =>
  none
theorem uP (n:Nat)(H1:Bytes)(r:(List af)×ap)(h0:mz n H1=some r):aB Tryz.prog 29 [eS H1] (·=.tuple [.p (eL bM r.1),.p (.agg (ap.cs r.2))]):=by
 unfold mz at h0;refine bm good Tryz.func29 Z Z Z λ w0=>mP (λ v:(List af)×ap=>.tuple [.p (eL bM v.1),.p (.agg (ap.cs v.2))]) ?_;refine nx 9 Z (oLs Z ?_);refine nx 2 Z (fD [10] h0 Z (λ c1 h0=>?_) λ c1 h0=>?_)
 ·exact nx 8 Z (mQ (oi h0) Z (ax ⟨fT _,sr,trivial⟩))
 refine nx 5 rfl (bd h0 λ r2 e3 h0=>?_);refine mO rfl (bn [] [] 101000 101001 (p9 H1 _ e3) Z Z Z Z Z ⟨sr,trivial⟩ Z Z trivial Z Z Z Z Z Z Z Z Tryz.call37 rfl (av rfl (az _) rfl) ?_);refine nx 7 rfl ?_;obtain ⟨Nz,h1,IS,hR0⟩:=db h0;refine kEx 0 (λ v51:Unit=>Nz=.inl v51) (λ v51=>⟨[],[]⟩) (λ v51 hv=>?_) ?_
 ·have h0:=IS _ hv;refine nx 1 Z ?_
  cases h0
 refine lG (λ (Oz:(List af)×ac)=>⟨[(3,.ptr 3 0),(4,.ptr 101000 0),(5,.vec 62 3 0 (Oz.1.map bM))],[(3,np),(101000,(ac.cs Oz.2).map .p)]⟩) (λ m (Oz:(List af)×ac)=>fz n m Oz.1 Oz.2) Y ([],r2) h1 (cK (iF ⟨er rfl,er rfl,⟨_,rfl,AV.sub_nilvec _ _ _⟩,trivial⟩ ⟨⟨_,rfl,⟨sr,sr,sr,trivial⟩⟩,⟨_,rfl,aC _⟩,trivial⟩)) ?_;rintro m ⟨Ju,x26⟩ h1;replace h1:fz n (m+1) Ju x26=some Nz:=h1;rw [fz] at h1;refine nx 4 rfl (bd h1 λ L8 O6 h1=>?_);refine mO rfl (bn [101000] [] 107000 107000 (ku _ x26 _ O6) rfl rfl rfl rfl rfl ⟨sr,trivial⟩ rfl (av rfl (az _) rfl) ⟨⟨_,rfl,aC _⟩,trivial⟩ rfl rfl rfl rfl rfl rfl rfl rfl Tryz.call38 rfl (av rfl (az _) rfl) ?_);refine nx 3 rfl (bd h1 λ Lp h2 h1=>?_);refine kN Lp (λ v54=>⟨[(3,.ptr 3 0),(4,.ptr 101000 0),(5,.vec 62 3 0 (Ju.map bM)),(22,.p (eB v54.1))],[(3,np),(101000,(ac.cs v54.2).map .p)]⟩) ?_ ?_
 ·refine nx 1 Z (fB [22] h1 Z (λ Mt h1=>?_) λ Mt h1=>?_)
  ·refine nx 2 Z (mG (gE (t:=⟨[(3,.ptr 3 0),(4,.ptr 101000 0)],[(3,np),(101000,(ac.cs Lp.2).map .p)]⟩) Z Z) ?_);refine mSq ⟨1,[6],(λ _=>.none),(λ _=>[(3,.ptr 3 0),(4,.ptr 101000 0)]),(ob2 ([(3,np),(101000,(ac.cs Lp.2).map .p)]) (3,[.p (eI 2),.p (eI Lp.2.fat),.p (eS ([]:Bytes))]))⟩ Z (dPc (.ptr 101000 0) Z ?_);refine dPc (.ptr 101000 0) Z (dPc (.ptr 101000 1) Z ?_);refine dPc (.p (eI Lp.2.fat)) Z (dPc (.p (.agg [eI 2,eI Lp.2.fat,eS ([]:Bytes)])) Z ?_);refine dPc (.p (.val (.slice none 0 0))) Z (dS Z ?_);refine dF (nx 2 Z ?_);exact mQ (hR0 _ (oi h1).symm) Z (ax ⟨fT _,sr,trivial⟩)
  refine nx 6 Z (oLl (f:=bM) Z Z ?_);refine nx 2 Z (fD [30] h1 Z (λ c37 h1=>?_) λ c37 h1=>?_)
  ·refine nx 2 Z (mG (gE (t:=⟨[(3,.ptr 3 0),(4,.ptr 101000 0)],[(3,np),(101000,(ac.cs Lp.2).map .p)]⟩) Z Z) ?_);refine mSq ⟨1,[6],(λ _=>.none),(λ _=>[(3,.ptr 3 0),(4,.ptr 101000 0)]),(ob2 ([(3,np),(101000,(ac.cs Lp.2).map .p)]) (3,[.p (eI 14),.p (eI Lp.2.fat),.p (eS ([]:Bytes))]))⟩ Z (dPc (.ptr 101000 0) Z ?_);refine dPc (.ptr 101000 0) Z (dPc (.ptr 101000 1) Z ?_);refine dPc (.p (eI Lp.2.fat)) Z (dPc (.p (.agg [eI 14,eI Lp.2.fat,eS ([]:Bytes)])) Z ?_);refine dPc (.p (.val (.slice none 0 0))) Z (dS Z ?_);refine dF (nx 2 Z ?_);exact mQ (hR0 _ (oi h1).symm) Z (ax ⟨fT _,sr,trivial⟩)
  refine nx 6 Z (bd h1 λ J5 O4 h1=>?_);refine mO Z (bn [101000] [] 110000 110000 (cB Lp.2 _ O4) Z Z Z Z Z ⟨sr,trivial⟩ Z (av Z (az _) Z) ⟨⟨_,Z,aC _⟩,trivial⟩ Z Z Z Z Z Z Z Z Tryz.call39 Z (av Z (az _) Z) ?_);refine nx 2 Z (fB [38] h1 Z (λ Pd h1=>?_) λ Pd h1=>?_)
  ·refine nx 7 Z (mO Z (bj Z Z Z Z Z Z Z (ac.g_at _) ?_));refine nx 1 Z (mO Z (bF bM [(af.mk 6 ([]:Bytes) J5.2.fat)] Z Z Z Z Z Z Z Z Z Z Z Z Z (by first | rfl | (simp only [bx,ld,af.HR]; done) | (simp only [bx,ld,af.HR]; rfl)) ?_));refine cc' h1 λ KG h1=>mO Z (gu bM Ju ([(af.mk 6 ([]:Bytes) J5.2.fat)]) Z Z Z Z Z Z Z Z Z Z Z Z Z (λ x=>congrArg List.length (af.HU x)) Z Z Z Z KG ?_);refine mG (xS (show lM _ _=_ from (by repeat (first | exact kI _ | apply jI Z | apply eu Z (nA _ _) | apply eu Z Z)))) (nx 5 Z ?_);exact mQ (hR0 _ (oi h1).symm) Z (ax ⟨AV.sub_vec _ _ _ _,sr,trivial⟩)
  refine nx 5 Z (bd h1 λ Kb e43 h1=>?_);refine mO Z (bn [101000] [] 111000 111000 (oo _ J5.2 0 _ e43) Z Z Z Z Z ⟨sr,sr,trivial⟩ Z (av Z (az _) Z) ⟨⟨_,Z,aC _⟩,trivial⟩ Z Z Z Z Z Z Z Z Tryz.call41 Z (av Z (az _) Z) ?_);refine nx 3 Z (mO Z (io Z Z Z Z Z ?_));refine mG (oj (show lM _ _=_ from (by repeat (first | exact kI _ | apply jI Z | apply eu Z (nA _ _) | apply eu Z Z)))) (nx 9 Z ?_);refine fB [54] h1 Z (λ c44 h1=>?_) λ c44 h1=>?_
  ·refine nx 2 Z (mG (gE (t:=⟨[(3,.ptr 3 0),(4,.ptr 101000 0)],[(3,np),(101000,(ac.cs Kb.2.2).map .p)]⟩) Z Z) ?_);refine mSq ⟨1,[5],(λ _=>.none),(λ _=>[(3,.ptr 3 0),(4,.ptr 101000 0)]),(ob2 ([(3,np),(101000,(ac.cs Kb.2.2).map .p)]) (3,((ap.cs Kb.2.2.AT).map .p)))⟩ Z (dPc (.ptr 101000 0) Z ?_);refine dPc (.ptr 101000 0) Z (dPc (.ptr 101000 259) Z ?_);refine aG (λ _=>.p (.agg (ap.cs Kb.2.2.AT))) Z Z Z (ip Z Y) (lt1 Z) (aA Z (au [(57,_)] ⟨.inr ⟨2,_,Z,Z,Z⟩,trivial⟩ (λ sl H2 K hK=>aj Z (Bb Z Z Z Z Z (H2 _ _ Z) Z (ac.l_bad _) (ac.g_bad _) hK)) aE)) (dPc (.p (.val (.slice none 0 0))) Z ?_);refine dS Z (dF ?_);exact nx 2 Z (mQ (hR0 _ (oi h1).symm) Z (ax ⟨fT _,sr,trivial⟩))
  refine nx 5 Z (mO Z (bF bM [Kb.1] Z Z Z Z Z Z Z Z Z Z Z Z Z (by first | rfl | (simp only [bx,ld,af.HR]; done) | (simp only [bx,ld,af.HR]; rfl)) ?_));refine cc' h1 λ hk45 h1=>mO Z (gu bM Ju [Kb.1] Z Z Z Z Z Z Z Z Z Z Z Z Z (λ x=>congrArg List.length (af.HU x)) Z Z Z Z hk45 ?_);refine mG (xS (show lM _ _=_ from (by repeat (first | exact kI _ | apply jI Z | apply eu Z (nA _ _) | apply eu Z Z)))) (nx 2 Z ?_);exact eX (Ju++[Kb.1],Kb.2.2) h1 (gE Z Z)
 refine nx 2 Z (bd h2 λ KW NV h2=>?_);refine mO Z (bn [101000] [] 108000 108000 (cB L8 _ NV) Z Z Z Z Z ⟨sr,trivial⟩ Z (av Z (az _) Z) ⟨⟨_,Z,aC _⟩,trivial⟩ Z Z Z Z Z Z Z Z Tryz.call39 Z (av Z (az _) Z) ?_);refine nx 1 Z (fB [17,18] h2 Z (λ Jk h2=>?_) λ Jk h2=>?_)
 ·refine nx 1 Z (bd h2 λ J1 Mo h2=>?_);refine mO Z (bn [101000] [] 109000 109000 (jO _ KW.2 _ Mo) Z Z Z Z Z ⟨sr,trivial⟩ Z (av Z (az _) Z) ⟨⟨_,Z,aC _⟩,trivial⟩ Z Z Z Z Z Z Z Z Tryz.call40 Z (av Z (az _) Z) ?_);exact nx 3 Z (eX _ (oi h2).symm (gE Z Z))
 exact nx 5 Z (eX _ (oi h2).symm (gE Z Z))
def jZ (Ic:ah):Option Bool :=
 (
   if Ic.Ar < 0 then
    some true
   else
    some (decide (6 < Ic.Ar))
  : Option Bool).bind λ t2 =>
 if t2=true then
  some false
 else
  jn (
    if Ic.Ar=1 then
     (
       if Ic.F'=0 then
        some false
       else
        some (!decide (Ic.F'=1))
      : Option Bool).bind λ t6 =>
     if t6=true then
      some (.inr false)
     else
      some (.inl ())
    else
     if Ic.Ar=2 then
      some (.inl ())
     else
      if Ic.F'=0 then
       some (.inl ())
      else
       some (.inr false)
   : Option (Unit⊕Bool)) λ _q20 =>
  (
    if Ic.Ar=3 then
     if Ic.Ar=4 then
      some false
     else
      if Ic.Ar=5 then
       some false
      else
       some (decide (0 < (Ic.HQ.length:Int)))
    else
     if Ic.HT=([]:Bytes) then
      if Ic.Ar=4 then
       some false
      else
       if Ic.Ar=5 then
        some false
       else
        some (decide (0 < (Ic.HQ.length:Int)))
     else
      some true
   : Option Bool).bind λ I5 =>
  if I5=true then
   some false
  else
   if Ic.Ar=5 then
    some (decide ((Ic.D'.length:Int)=(Ic.HQ.length:Int)))
   else
    some (decide ((Ic.D'.length:Int)=0))
theorem sK (Ic:ah)(r:Bool)(h0:jZ Ic=some r):aB Tryz.prog 109 [.agg (ah.cs Ic)] (·=.p (eB r)):=by
 unfold jZ at h0;refine bm good Tryz.func109 Z Z Z λ w0=>mP (λ v:Bool=>.p (eB v)) ?_;refine nx 7 Z (bd h0 λ IV h1 h0=>?_);refine kN IV (λ Ji=>⟨[(1,.ptr 1 0),(10,.p (eB Ji))],[(1,(ah.cs Ic).map .p)]⟩) ?_ ?_
 ·refine nx 1 Z (fB [10] h0 Z (λ c3 h0=>?_) λ c3 h0=>?_)
  ·exact nx 6 Z (mQ (oi h0) Z (sr))
  refine nx 8 rfl ?_;obtain ⟨Lw,h1,IS,hR0⟩:=db h0;refine kX (λ Ls:Unit=>Lw=.inl Ls) (λ Ls=>⟨[(1,.ptr 1 0)],[(1,(ah.cs Ic).map .p)]⟩) (λ Ls hv=>?_) ?_
  ·have h0:=IS _ hv;refine nx 3 Z (bd h0 λ M0 h1 h0=>?_);refine kN M0 (λ Nu=>⟨[(1,.ptr 1 0),(51,.p (eB Nu))],[(1,(ah.cs Ic).map .p)]⟩) ?_ ?_
   ·refine nx 1 Z (fB [51] h0 Z (λ IA h0=>?_) λ IA h0=>?_)
    ·exact nx 6 Z (mQ (oi h0) Z (sr))
    refine nx 9 Z (fD [54] h0 Z (λ J' h0=>?_) λ J' h0=>?_)
    ·refine nx 5 Z (oLl (f:=eS) Z Z ?_);refine nx 2 Z (oLl (f:=dv) Z Z ?_);exact nx 4 Z (mQ (oi h0) Z (sr))
    refine nx 6 Z (oLl (f:=eS) Z Z ?_);exact nx 4 Z (mQ (oi h0) Z (sr))
   refine nx 5 Z (fN [30,31] h1 Z (λ Kq h1=>?_) λ Kq h1=>?_)
   ·refine nx 9 Z (fN [39,40] h1 Z (λ Ka h1=>?_) λ Ka h1=>?_)
    ·exact nx 12 Z (eX _ (oi h1).symm (gE Z Z))
    refine nx 5 Z (fN [43,44,45] h1 Z (λ KP h1=>?_) λ KP h1=>?_)
    ·exact nx 7 Z (eX _ (oi h1).symm (gE Z Z))
    refine nx 2 Z (oLl (f:=dv) Z Z ?_);exact nx 4 Z (eX _ (oi h1).symm (gE Z Z))
   refine nx 2 Z (oS Z Z ?_);refine nx 2 Z (fN [34,35,36] h1 Z (λ JN h1=>?_) λ JN h1=>?_)
   ·refine nx 4 Z (fN [39,40] h1 Z (λ KO h1=>?_) λ KO h1=>?_)
    ·exact nx 12 Z (eX _ (oi h1).symm (gE Z Z))
    refine nx 5 Z (fN [43,44,45] h1 Z (λ KN h1=>?_) λ KN h1=>?_)
    ·exact nx 7 Z (eX _ (oi h1).symm (gE Z Z))
    refine nx 2 Z (oLl (f:=dv) Z Z ?_);exact nx 4 Z (eX _ (oi h1).symm (gE Z Z))
   exact nx 16 Z (eX _ (oi h1).symm (gE Z Z))
  refine nx 6 Z (fD [16,17] h1 Z (λ c4 h1=>?_) λ c4 h1=>?_)
  ·refine nx 2 Z (bd h1 λ KY h2 h1=>?_);refine kN KY (λ JW=>⟨[(1,.ptr 1 0),(25,.p (eB JW))],[(1,(ah.cs Ic).map .p)]⟩) ?_ ?_
   ·refine nx 1 Z (fB [25] h1 Z (λ c7 h1=>?_) λ c7 h1=>?_)
    ·exact nx 6 Z (mQ (hR0 _ (oi h1).symm) Z (sr))
    exact nx 2 Z (eX _ (oi h1).symm (gE Z Z))
   refine nx 5 Z (fN [20,21] h2 Z (λ c5 h2=>?_) λ c5 h2=>?_)
   ·exact nx 5 Z (eX _ (oi h2).symm (gE Z Z))
   exact nx 5 Z (eX _ (oi h2).symm (gE Z Z))
  refine nx 6 Z (fD [26,27] h1 Z (λ c8 h1=>?_) λ c8 h1=>?_)
  ·exact nx 2 Z (eX _ (oi h1).symm (gE Z Z))
  refine nx 7 Z (fN [15] h1 Z (λ c9 h1=>?_) λ c9 h1=>?_)
  ·exact nx 2 Z (eX _ (oi h1).symm (gE Z Z))
  exact nx 6 Z (mQ (hR0 _ (oi h1).symm) Z (sr))
 refine nx 5 Z (fD [5,6] h1 Z (λ c1 h1=>?_) λ c1 h1=>?_)
 ·exact nx 5 Z (eX _ (oi h1).symm (gE Z Z))
 exact nx 5 Z (eX _ (oi h1).symm (gE Z Z))
def kJ (H1:Bytes):Option Int :=
 if 4096 < (H1.length:Int) then
  some 3
 else
  (j9 H1).bind λ r2 =>
  if (!r2)=true then
   some 1
  else
   some 0
theorem qh (H1:Bytes)(r:Int)(h0:kJ H1=some r):aB Tryz.prog 111 [eS H1] (·=.p (eI r)):=by
 unfold kJ at h0;refine bm good Tryz.func111 Z Z Z λ w0=>mP (λ v:Int=>.p (eI v)) ?_;refine nx 8 Z (oLs Z ?_);refine nx 2 Z (fD [5] h0 Z (λ c1 h0=>?_) λ c1 h0=>?_)
 ·exact nx 6 Z (mQ (oi h0) Z (sr))
 refine nx 6 Z (bd h0 λ r2 e3 h0=>?_);refine oK (sX H1 _ e3) Z ⟨sr,trivial⟩ Tryz.call120 Z (nx 2 Z ?_);refine fB [8] h0 Z (λ c4 h0=>?_) λ c4 h0=>?_
 ·exact nx 6 Z (mQ (oi h0) Z (sr))
 exact nx 7 Z (mQ (oi h0) Z (sr))
def jy (Ic:ah):Nat->Int->Option (Unit⊕(Unit⊕Int))
 | 0,_=>none
 | m+1,Kg =>
 if Kg < (Ic.D'.length:Int) then
  ck ((0:Int)<=Kg/\Kg < (Ic.D'.length:Int)) <|
  (kJ (lat Ic.D' Kg)).bind λ L8 =>
  if L8=0 then
   (
     if 0 < Kg then
      ck (inR (Kg - 1)) <|
      ck ((0:Int)<=Kg - 1/\Kg - 1 < (Ic.D'.length:Int)) <|
      some (Op.bytesLess (lat Ic.D' Kg) (lat Ic.D' (Kg - 1))||decide (lat Ic.D' Kg=lat Ic.D' (Kg - 1)))
     else
      some false
    : Option Bool).bind λ t33 =>
   if t33=true then
    some (.inr (.inr 1))
   else
    ck (inR (Kg+1)) <|
    jy Ic m (Kg+1)
  else
   some (.inr (.inr L8))
 else
  some (.inl ())
def mj (n:Nat)(Ic:ah):Option Int :=
 (jZ Ic).bind λ r1 =>
 if (!r1)=true then
  some 1
 else
  jn (
    if Ic.Ar=2 then
     (jg Ic.F').bind λ r5 =>
     if (!r5)=true then
      some (.inr 5)
     else
      some (.inl ())
    else
     if Ic.Ar=3 then
      (kJ Ic.HT).bind λ r9 =>
      some (.inr r9)
     else
      if Ic.Ar=5 then
       jn (jy Ic n 0) λ _q38 =>
       some (.inl ())
      else
       some (.inl ())
   : Option (Unit⊕Int)) λ _MY =>
  some 0
theorem u3 (n:Nat)(Ic:ah)(r:Int)(h0:mj n Ic=some r):aB Tryz.prog 99 [.agg (ah.cs Ic)] (·=.p (eI r)):=by
 unfold mj at h0;refine bm good Tryz.func99 Z Z Z λ w0=>mP (λ v:Int=>.p (eI v)) ?_;refine nx 9 Z (bd h0 λ r1 e2 h0=>?_);refine oK (sK Ic _ e2) Z ⟨sr,trivial⟩ Tryz.call109 Z (nx 2 Z ?_);refine fB [8] h0 Z (λ c3 h0=>?_) λ c3 h0=>?_
 ·exact nx 6 Z (mQ (oi h0) Z (sr))
 refine nx 8 rfl ?_;obtain ⟨o40,h1,IS,hR0⟩:=db h0;refine kX (λ Oi:Unit=>o40=.inl Oi) (λ Oi=>⟨[],[]⟩) (λ Oi hv=>?_) ?_
 ·have h0:=IS _ hv;exact nx 6 Z (mQ (oi h0) Z (sr))
 refine nx 6 Z (fD [11,12] h1 Z (λ c4 h1=>?_) λ c4 h1=>?_)
 ·refine nx 5 Z (bd h1 λ r5 e6 h1=>?_);refine oK (oT Ic.F' _ e6) Z ⟨sr,trivial⟩ Tryz.call110 Z (nx 2 Z ?_);refine fB [16] h1 Z (λ c7 h1=>?_) λ c7 h1=>?_
  ·exact nx 6 Z (mQ (hR0 _ (oi h1).symm) Z (sr))
  exact nx 2 Z (eX _ (oi h1).symm (gE Z Z))
 refine nx 6 Z (fD [17,18] h1 Z (λ c8 h1=>?_) λ c8 h1=>?_)
 ·refine nx 5 Z (bd h1 λ r9 J0 h1=>?_);refine oK (qh Ic.HT _ J0) Z ⟨sr,trivial⟩ Tryz.call111 Z (nx 3 Z ?_);exact mQ (hR0 _ (oi h1).symm) Z (sr)
 refine nx 6 Z (fD [22,23] h1 Z (λ Ka h1=>?_) λ Ka h1=>?_)
 ·refine nx 5 rfl (oLl (f:=eS) Z Z ?_);refine nx 3 rfl ?_;obtain ⟨Lj,h2,hL1,hR1⟩:=db h1;refine kEx 1 (λ KR:Unit=>Lj=.inl KR) (λ KR=>⟨[],[]⟩) (λ KR hv=>?_) ?_
  ·have h1:=hL1 _ hv;exact nx 1 Z (eX _ (oi h1).symm (gE Z Z))
  refine lG (λ (Mb:Int)=>⟨[(1,.ptr 1 0),(25,.p (eL eS Ic.D')),(26,.p (eI (Ic.D'.length:Int))),(27,.p (eI Mb))],[(1,(ah.cs Ic).map .p)]⟩) (λ m (Mb:Int)=>jy Ic m Mb) Y 0 h2 (gE rfl rfl) ?_;rintro m Kg h2;replace h2:jy Ic (m+1) Kg=some Lj:=h2;rw [jy] at h2;refine nx 5 rfl (fD [28] h2 rfl (λ KM h2=>?_) λ KM h2=>?_)
  ·refine nx 7 Z (oE h2 Y Z Z Y λ Ky h2=>?_);refine nx 8 Z (bd h2 λ L8 O6 h2=>?_);refine oK (qh (lat Ic.D' Kg) _ O6) Z ⟨sr,trivial⟩ Tryz.call111 Z (nx 7 Z ?_);refine fN [35] h2 Z (λ Mv h2=>?_) λ Mv h2=>?_
   ·refine nx 3 Z (bd h2 λ LN h3 h2=>?_);refine kN LN (λ v46=>⟨[(1,.ptr 1 0),(25,.p (eL eS Ic.D')),(26,.p (eI (Ic.D'.length:Int))),(27,.p (eI Kg)),(48,.p (eB v46))],[(1,(ah.cs Ic).map .p)]⟩) ?_ ?_
    ·refine nx 1 Z (fB [48] h2 Z (λ Mu h2=>?_) λ Mu h2=>?_)
     ·exact nx 6 Z (mQ (hR0 _ (hR1 _ (oi h2).symm).symm) Z (sr))
     refine nx 3 Z (oA h2 Z Z λ Mm h2=>?_);exact nx 2 Z (eX (Kg+1) h2 (gE Z Z))
    refine nx 4 Z (fD [38,39] h3 Z (λ LJ h3=>?_) λ LJ h3=>?_)
    ·refine nx 4 Z (oA h3 Z Z λ M8 h3=>?_);refine oE h3 Y Z Z Y λ OV h3=>nx 1 Z (oS Z Z ?_);exact nx 2 Z (eX _ (oi h3).symm (gE Z Z))
    exact nx 10 Z (eX _ (oi h3).symm (gE Z Z))
   exact nx 7 Z (mQ (hR0 _ (hR1 _ (oi h2).symm).symm) Z (sr))
  exact nx 2 Z (eXi _ (oi h2).symm (gE Z Z))
 exact nx 2 Z (eX _ (oi h1).symm (gE Z Z))
def eJ (Jl:ah->Int->Int->Option (Int×Int))(Ic:ah)(H5:Int):Nat->Int->Int->Option (Int⊕(Int×Int))
 | 0,_,_=>none
 | m+1,I5,K6 =>
 if I5 < (Ic.HQ.length:Int) then
  ck ((0:Int)<=I5/\I5 < (Ic.HQ.length:Int)) <|
  ck (inR (H5+1)) <|
  (Jl (lat Ic.HQ I5) (H5+1) K6).bind λ Iq =>
  if Iq.1=0 then
   ck (inR (I5+1)) <|
   eJ Jl Ic H5 m (I5+1) Iq.2
  else
   some (.inr (Iq.1,Iq.2))
 else
  some (.inl K6)
def fy:Nat->ah->Int->Int->Option (Int×Int)
 | 0,_,_,_=>none
 | n+1,Ic,H5,cap_0 =>
 if 32 < H5 then
  some (4,cap_0)
 else
  if 4096<=cap_0 then
   some (14,cap_0)
  else
   ck (inR (cap_0+1)) <|
   (mj n Ic).bind λ r4 =>
   if r4=0 then
    jn (eJ (fy n) Ic H5 n 0 (cap_0+1)) λ J9 =>
    some (0,J9)
   else
    some (r4,cap_0+1)
theorem rQ (n:Nat):∀ (Ic:ah) (H5:Int) (cap_0:Int) (r:Int×Int),fy n Ic H5 cap_0=some r->aV Tryz.prog 98 [.p (.agg (ah.cs Ic)),.p (eI H5),.ptr 1000000 0,.ptr 1000001 0] [(1000000,[.p (eI cap_0)]),(1000001,[.func (.func 98) [.ptr 1000000 0,.ptr 1000001 0]])] (λ x y=>x=.p (eI r.1)/\y=[(1000000,[.p (eI r.2)]),(1000001,[.func (.func 98) [.ptr 1000000 0,.ptr 1000001 0]])]):=by
 induction n with
 | zero=>intro Ic H5 cap_0 r h0; cases h0
 | succ n ih =>
 have Jx:=ih;intro Ic H5 cap_0 r h0;rw [fy] at h0;refine cr good [] [1000000,1000001] Tryz.func98 Z Z Z Z Z λ w0 F=>mPo (λ v:Int×Int=>.p (eI v.1)) (λ v=>[(1000000,[.p (eI v.2)]),(1000001,[.func (.func 98) [.ptr 1000000 0,.ptr 1000001 0]])]) ?_;refine nx 11 Z (fD [12] h0 Z (λ c1 h0=>?_) λ c1 h0=>?_)
 ·exact nx 6 Z (mQo (oi h0) (ay _) Z Z Z Z (sr) ⟨⟨_,Z,⟨sr,trivial⟩⟩,⟨_,Z,⟨sr,trivial⟩⟩,trivial⟩)
 refine nx 8 Z (fD [14] h0 Z (λ c2 h0=>?_) λ c2 h0=>?_)
 ·exact nx 6 Z (mQo (oi h0) (ay _) Z Z Z Z (sr) ⟨⟨_,Z,⟨sr,trivial⟩⟩,⟨_,Z,⟨sr,trivial⟩⟩,trivial⟩)
 refine nx 5 Z (oA h0 Z Z λ Lz h0=>?_);refine nx 6 Z (bd h0 λ r4 e5 h0=>?_);refine oK (u3 _ Ic _ e5) Z ⟨sr,trivial⟩ Tryz.call99 Z (nx 7 Z ?_);refine fN [20] h0 Z (λ c6 h0=>?_) λ c6 h0=>?_
 ·refine nx 7 rfl (oLl (f:=dv) Z Z ?_);refine nx 3 rfl ?_;obtain ⟨KY,h1,IS,hR0⟩:=db h0;refine kEx 0 (λ JW:Int=>KY=.inl JW) (λ JW=>⟨[],[(1000000,[.p (eI JW)]),(1000001,[.func (.func 98) [.ptr 1000000 0,.ptr 1000001 0]])]⟩) (λ JW hv=>?_) ?_
  ·have h0:=IS _ hv;exact nx 6 Z (mQo (oi h0) (ay _) Z Z Z Z (sr) ⟨⟨_,Z,⟨sr,trivial⟩⟩,⟨_,Z,⟨sr,trivial⟩⟩,trivial⟩)
  refine lG (λ (JX:Int×Int)=>⟨[(1,.p (eI H5)),(3,.ptr 1000001 0),(23,.p (eL dv Ic.HQ)),(24,.p (eI (Ic.HQ.length:Int))),(25,.p (eI JX.1))],[(1000000,[.p (eI JX.2)]),(1000001,[.func (.func 98) [.ptr 1000000 0,.ptr 1000001 0]])]⟩) (λ m (JX:Int×Int)=>eJ (fy n) Ic H5 m JX.1 JX.2) Y (0,cap_0+1) h1 (gE rfl rfl) ?_;rintro m ⟨I5,K6⟩ h1;replace h1:eJ (fy n) Ic H5 (m+1) I5 K6=some KY:=h1;rw [eJ] at h1;refine nx 5 rfl (fD [26] h1 rfl (λ J' h1=>?_) λ J' h1=>?_)
  ·refine nx 6 Z (oE h1 ah.HU Z Z Y λ J7 h1=>?_);refine nx 9 Z (oA h1 Z Z λ Kn h1=>?_);refine bd h1 λ Iq LI h1=>mO Z (vZ [1000000,1000001] [] 102000 102000 (Jx (lat Ic.HQ I5) (H5+1) K6 _ LI) Z Z Z Z Z Z ⟨sr,sr,sr,sr,trivial⟩ Z Z ⟨⟨_,Z,⟨sr,trivial⟩⟩,⟨_,Z,⟨sr,trivial⟩⟩,trivial⟩ Z Z Z Z Z Z Z Z Tryz.call98 Z Z ?_);refine nx 7 Z (fN [35] h1 Z (λ J4 h1=>?_) λ J4 h1=>?_)
   ·refine nx 3 Z (oA h1 Z Z λ Kz h1=>?_);exact nx 2 Z (eX (I5+1,Iq.2) h1 (gE Z Z))
   exact nx 7 Z (mQo (hR0 _ (oi h1).symm) (ay _) Z Z Z Z (sr) ⟨⟨_,Z,⟨sr,trivial⟩⟩,⟨_,Z,⟨sr,trivial⟩⟩,trivial⟩)
  exact nx 2 Z (eXi _ (oi h1).symm (gE Z Z))
 exact nx 7 Z (mQo (oi h0) (ay _) Z Z Z Z (sr) ⟨⟨_,Z,⟨sr,trivial⟩⟩,⟨_,Z,⟨sr,trivial⟩⟩,trivial⟩)
def lm (n:Nat)(Ic:ah):Option Int :=
 (fy n Ic 1 0).bind λ r1 =>
 some r1.1
theorem ud (n:Nat)(Ic:ah)(r:Int)(h0:lm n Ic=some r):aB Tryz.prog 82 [.agg (ah.cs Ic)] (·=.p (eI r)):=by
 unfold lm at h0;refine bm good Tryz.func82 Z Z Z λ w0=>mP (λ v:Int=>.p (eI v)) ?_;refine nx 16 Z (mO Z (sy Z Z Z Z ?_));refine nx 6 Z (bd h0 λ r1 e2 h0=>?_);refine mO Z (vZ [3,4] [] 101000 101000 (rQ _ Ic 1 0 _ e2) Z Z Z Z Z Z ⟨sr,sr,sr,sr,trivial⟩ Z Z ⟨⟨_,Z,⟨sr,trivial⟩⟩,⟨_,Z,⟨sr,trivial⟩⟩,trivial⟩ Z Z Z Z Z Z Z Z Tryz.call98 Z Z ?_);exact nx 3 Z (mQ (oi h0) Z (sr))
abbrev md:List AV:=[.p (eI 0),.p (eI 0),.p (eS ([]:Bytes)),.p (eS ([]:Bytes)),.p (eI 0),.p (eI 0),.p (eS ([]:Bytes)),.p (.val (.slice none 0 0)),.p (.val (.slice none 0 0)),.p (.val (.slice none 0 0)),.p (eI 0)]
abbrev nM:List PV:=[eI 0,eI 0,eS ([]:Bytes),eS ([]:Bytes),eI 0,eI 0,eS ([]:Bytes),.val (.slice none 0 0),.val (.slice none 0 0),.val (.slice none 0 0),eI 0]
abbrev ki:List AV:=[.p (eI 0),.p (eS ([]:Bytes)),.p (eI 0)]
abbrev fO:List AV:=[.p (eI 0),.p (eI 0),.p (eS ([]:Bytes))]
def i6 (II:Int):Option Bool :=
 (
   if II=12 then
    some true
   else
    some (decide (II=13))
  : Option Bool).bind λ t2 =>
 some t2
theorem om (II:Int)(r:Bool)(h0:i6 II=some r):aB Tryz.prog 95 [eI II] (·=.p (eB r)):=by
 unfold i6 at h0;refine bm good Tryz.func95 Z Z Z λ w0=>mP (λ v:Bool=>.p (eB v)) ?_;refine nx 5 Z (bd h0 λ o4 h1 h0=>?_);refine kN o4 (λ v5=>⟨[(2,.p (eB v5))],[]⟩) ?_ ?_
 ·exact nx 2 Z (mQ (oi h0) Z (sr))
 refine nx 4 Z (fD [4,5] h1 Z (λ c1 h1=>?_) λ c1 h1=>?_)
 ·exact nx 5 Z (eX _ (oi h1).symm (gE Z Z))
 exact nx 5 Z (eX _ (oi h1).symm (gE Z Z))
def ij (II:Int):Option Bool :=
 (
   if II=3 then
    some true
   else
    if II=4 then
     some true
    else
     if II=9 then
      some true
     else
      (i6 II).bind λ r4 =>
      some r4
  : Option Bool).bind λ t6 =>
 some t6
theorem qe (II:Int)(r:Bool)(h0:ij II=some r):aB Tryz.prog 83 [eI II] (·=.p (eB r)):=by
 unfold ij at h0;refine bm good Tryz.func83 Z Z Z λ w0=>mP (λ v:Bool=>.p (eB v)) ?_;refine nx 5 Z (bd h0 λ o8 h1 h0=>?_);refine kN o8 (λ v9=>⟨[(2,.p (eB v9))],[]⟩) ?_ ?_
 ·exact nx 2 Z (mQ (oi h0) Z (sr))
 refine nx 4 Z (fD [4,5] h1 Z (λ c1 h1=>?_) λ c1 h1=>?_)
 ·exact nx 13 Z (eX _ (oi h1).symm (gE Z Z))
 refine nx 4 Z (fD [7,8,9] h1 Z (λ c2 h1=>?_) λ c2 h1=>?_)
 ·exact nx 9 Z (eX _ (oi h1).symm (gE Z Z))
 refine nx 4 Z (fD [11,12,13] h1 Z (λ c3 h1=>?_) λ c3 h1=>?_)
 ·exact nx 5 Z (eX _ (oi h1).symm (gE Z Z))
 refine nx 1 Z (bd h1 λ r4 e5 h1=>?_);refine oK (om II _ e5) Z ⟨sr,trivial⟩ Tryz.call95 Z (nx 3 Z ?_);exact eX _ (oi h1).symm (gE Z Z)
def gA (H9:ab):Option Bool :=
 if H9.Ar=6 then
  (
    if H9.fOp=1 then
     some true
    else
     some (decide (H9.fOp=2))
   : Option Bool).bind λ t3 =>
  some t3
 else
  if H9.Ar=7 then
   (
     if 3<=H9.fOp then
      some (decide (H9.fOp<=15))
     else
      some false
    : Option Bool).bind λ t6 =>
   some t6
  else
   some (decide (H9.fOp=0))
theorem ry (H9:ab)(r:Bool)(h0:gA H9=some r):aB Tryz.prog 94 [.agg (ab.cs H9)] (·=.p (eB r)):=by
 unfold gA at h0;refine bm good Tryz.func94 Z Z Z λ w0=>mP (λ v:Bool=>.p (eB v)) ?_;refine nx 17 Z (fD [5,6] h0 Z (λ c1 h0=>?_) λ c1 h0=>?_)
 ·refine nx 2 Z (bd h0 λ o9 h1 h0=>?_);refine kN o9 (λ Oo=>⟨[(2,.p (eB Oo))],[]⟩) ?_ ?_
  ·exact nx 2 Z (mQ (oi h0) Z (sr))
  refine nx 5 Z (fD [9,10] h1 Z (λ c2 h1=>?_) λ c2 h1=>?_)
  ·exact nx 6 Z (eX _ (oi h1).symm (gE Z Z))
  exact nx 6 Z (eX _ (oi h1).symm (gE Z Z))
 refine nx 6 Z (fD [15,16] h0 Z (λ c4 h0=>?_) λ c4 h0=>?_)
 ·refine nx 2 Z (bd h0 λ o11 h1 h0=>?_);refine kN o11 (λ v12=>⟨[(2,.p (eB v12))],[]⟩) ?_ ?_
  ·exact nx 2 Z (mQ (oi h0) Z (sr))
  refine nx 5 Z (fD [19,20] h1 Z (λ c5 h1=>?_) λ c5 h1=>?_)
  ·exact nx 6 Z (eX _ (oi h1).symm (gE Z Z))
  exact nx 6 Z (eX _ (oi h1).symm (gE Z Z))
 exact nx 10 Z (mQ (oi h0) Z (sr))
def iv (Ic:ah):Option Bool :=
 (
   if Ic.Ar=0 then
    if Ic.F'=0 then
     if Ic.HT=([]:Bytes) then
      ck (inR ((Ic.HQ.length:Int)+(Ic.D'.length:Int))) <|
      some (decide ((Ic.HQ.length:Int)+(Ic.D'.length:Int)=0))
     else
      some false
    else
     some false
   else
    some false
  : Option Bool).bind λ t5 =>
 some t5
theorem lQ (Ic:ah)(r:Bool)(h0:iv Ic=some r):aB Tryz.prog 96 [.agg (ah.cs Ic)] (·=.p (eB r)):=by
 unfold iv at h0;refine bm good Tryz.func96 Z Z Z λ w0=>mP (λ v:Bool=>.p (eB v)) ?_;refine nx 6 Z (bd h0 λ o7 h1 h0=>?_);refine kN o7 (λ v8=>⟨[(2,.p (eB v8))],[]⟩) ?_ ?_
 ·exact nx 2 Z (mQ (oi h0) Z (sr))
 refine nx 5 Z (fD [5,6] h1 Z (λ c1 h1=>?_) λ c1 h1=>?_)
 ·refine nx 5 Z (fD [9,10,11] h1 Z (λ c2 h1=>?_) λ c2 h1=>?_)
  ·refine nx 2 Z (oS Z Z ?_);refine nx 2 Z (fD [14,15,16] h1 Z (λ c3 h1=>?_) λ c3 h1=>?_)
   ·refine nx 2 Z (oLl (f:=dv) Z Z ?_);refine nx 2 Z (oLl (f:=eS) Z Z ?_);exact oA h1 Z Z λ Ml h1=>nx 4 Z (eX _ (oi h1).symm (gE Z Z))
   exact nx 11 Z (eX _ (oi h1).symm (gE Z Z))
  exact nx 16 Z (eX _ (oi h1).symm (gE Z Z))
 exact nx 21 Z (eX _ (oi h1).symm (gE Z Z))
def ma (II:Int):Option (Int×Int×Bool) :=
 (
   if II=1 then
    some true
   else
    some (decide (II=3))
  : Option Bool).bind λ t2 =>
 if t2=true then
  some (0,0,false)
 else
  (
    if II=4 then
     some true
    else
     some (decide (II=6))
   : Option Bool).bind λ t5 =>
  if t5=true then
   some (1,1,false)
  else
   (
     if II=5 then
      some true
     else
      some (decide (II=7))
    : Option Bool).bind λ t8 =>
   if t8=true then
    some (2,2,false)
   else
    if II=8 then
     some (3,3,false)
    else
     if II=2 then
      some (1,4096,false)
     else
      if II=12 then
       some (2,3,false)
      else
       if II=13 then
        some (3,4,false)
       else
        if II=11 then
         some (0,4096,true)
        else
         some (0,4096,false)
theorem wA (II:Int)(r:Int×Int×Bool)(h0:ma II=some r):aB Tryz.prog 97 [eI II] (·=.tuple [.p (eI r.1),.p (eI r.2.1),.p (eB r.2.2)]):=by
 unfold ma at h0;refine bm good Tryz.func97 Z Z Z λ w0=>mP (λ v:Int×Int×Bool=>.tuple [.p (eI v.1),.p (eI v.2.1),.p (eB v.2.2)]) ?_;refine nx 13 Z (bd h0 λ o18 h1 h0=>?_);refine kN o18 (λ v19=>⟨[(5,.p (eI II)),(6,.p (eB v19))],[]⟩) ?_ ?_
 ·refine nx 1 Z (fB [6] h0 Z (λ c3 h0=>?_) λ c3 h0=>?_)
  ·exact nx 8 Z (mQ (oi h0) Z (ax ⟨sr,sr,sr,trivial⟩))
  refine nx 2 Z (bd h0 λ Kj h1 h0=>?_);refine kN Kj (λ v21=>⟨[(5,.p (eI II)),(9,.p (eB v21))],[]⟩) ?_ ?_
  ·refine nx 1 Z (fB [9] h0 Z (λ c6 h0=>?_) λ c6 h0=>?_)
   ·exact nx 8 Z (mQ (oi h0) Z (ax ⟨sr,sr,sr,trivial⟩))
   refine nx 2 Z (bd h0 λ o22 h1 h0=>?_);refine kN o22 (λ v23=>⟨[(5,.p (eI II)),(12,.p (eB v23))],[]⟩) ?_ ?_
   ·refine nx 1 Z (fB [12] h0 Z (λ c9 h0=>?_) λ c9 h0=>?_)
    ·exact nx 8 Z (mQ (oi h0) Z (ax ⟨sr,sr,sr,trivial⟩))
    refine nx 6 Z (fD [15,16] h0 Z (λ Kq h0=>?_) λ Kq h0=>?_)
    ·exact nx 8 Z (mQ (oi h0) Z (ax ⟨sr,sr,sr,trivial⟩))
    refine nx 6 Z (fD [17,18] h0 Z (λ Ka h0=>?_) λ Ka h0=>?_)
    ·exact nx 8 Z (mQ (oi h0) Z (ax ⟨sr,sr,sr,trivial⟩))
    refine nx 6 Z (fD [19,20] h0 Z (λ KP h0=>?_) λ KP h0=>?_)
    ·exact nx 8 Z (mQ (oi h0) Z (ax ⟨sr,sr,sr,trivial⟩))
    refine nx 6 Z (fD [21,22] h0 Z (λ JN h0=>?_) λ JN h0=>?_)
    ·exact nx 8 Z (mQ (oi h0) Z (ax ⟨sr,sr,sr,trivial⟩))
    refine nx 6 Z (fD [23,24] h0 Z (λ KO h0=>?_) λ KO h0=>?_)
    ·exact nx 8 Z (mQ (oi h0) Z (ax ⟨sr,sr,sr,trivial⟩))
    exact nx 9 Z (mQ (oi h0) Z (ax ⟨sr,sr,sr,trivial⟩))
   refine nx 5 Z (fD [12,13] h1 Z (λ c7 h1=>?_) λ c7 h1=>?_)
   ·exact nx 2 Z (eX _ (oi h1).symm (gE Z Z))
   exact nx 5 Z (eX _ (oi h1).symm (gE Z Z))
  refine nx 5 Z (fD [9,10] h1 Z (λ c4 h1=>?_) λ c4 h1=>?_)
  ·exact nx 2 Z (eX _ (oi h1).symm (gE Z Z))
  exact nx 5 Z (eX _ (oi h1).symm (gE Z Z))
 refine nx 5 Z (fD [6,7] h1 Z (λ c1 h1=>?_) λ c1 h1=>?_)
 ·exact nx 2 Z (eX _ (oi h1).symm (gE Z Z))
 exact nx 5 Z (eX _ (oi h1).symm (gE Z Z))
def fC (H9:ab):Option Bool :=
 (
   if H9.Ar < 1 then
    some true
   else
    if 13 < H9.Ar then
     some true
    else
     (gA H9).bind λ r3 =>
     some (!r3)
  : Option Bool).bind λ t5 =>
 if t5=true then
  some false
 else
  (
    (ij H9.Ar).bind λ r7 =>
    if (!r7)=true then
     if H9.AI=([]:Bytes) then
      (i6 H9.Ar).bind λ Jh =>
      if (!Jh)=true then
       if H9.E'=([]:Bytes) then
        if H9.Ar=1 then
         some false
        else
         (iv H9.A').bind λ Lg =>
         some (!Lg)
       else
        some true
      else
       if H9.Ar=1 then
        some false
       else
        (iv H9.A').bind λ Lf =>
        some (!Lf)
     else
      some true
    else
     (i6 H9.Ar).bind λ Iq =>
     if (!Iq)=true then
      if H9.E'=([]:Bytes) then
       if H9.Ar=1 then
        some false
       else
        (iv H9.A').bind λ JF =>
        some (!JF)
      else
       some true
     else
      if H9.Ar=1 then
       some false
      else
       (iv H9.A').bind λ KW =>
       some (!KW)
   : Option Bool).bind λ t31 =>
  if t31=true then
   some false
  else
   (ma H9.Ar).bind λ N2 =>
   (
     if (H9.By.length:Int) < N2.1 then
      some true
     else
      if N2.2.1 < (H9.By.length:Int) then
       if N2.2.1 < 4096 then
        some true
       else
        if N2.2.2=true then
         ck ((2:Int)≠0) <|
         some (decide ((H9.By.length:Int).tmod 2=1))
        else
         some false
      else
       if N2.2.2=true then
        ck ((2:Int)≠0) <|
        some (decide ((H9.By.length:Int).tmod 2=1))
       else
        some false
    : Option Bool).bind λ t42 =>
   if t42=true then
    some false
   else
    if H9.Ar=1 then
     (
       if 0<=H9.A'.Ar then
        if H9.A'.Ar<=3 then
         if H9.A'.Ar=2 then
          some (decide (0<=H9.A'.F'))
         else
          some true
        else
         some false
       else
        some false
      : Option Bool).bind λ LL =>
     some LL
    else
     some true
theorem uq (H9:ab)(r:Bool)(h0:fC H9=some r):aB Tryz.prog 81 [.agg (ab.cs H9)] (·=.p (eB r)):=by
 unfold fC at h0;refine bm good Tryz.func81 Z Z Z λ w0=>mP (λ v:Bool=>.p (eB v)) ?_;refine nx 7 Z (bd h0 λ Lp h1 h0=>?_);refine kN Lp (λ v54=>⟨[(1,.ptr 1 0),(19,.p (eB v54))],[(1,(ab.cs H9).map .p)]⟩) ?_ ?_
 ·refine nx 1 Z (fB [19] h0 Z (λ c6 h0=>?_) λ c6 h0=>?_)
  ·exact nx 6 Z (mQ (oi h0) Z (sr))
  refine nx 4 Z (bd h0 λ o55 h1 h0=>?_);refine kN o55 (λ v56=>⟨[(1,.ptr 1 0),(50,.p (eB v56))],[(1,(ab.cs H9).map .p)]⟩) ?_ ?_
  ·refine nx 1 Z (fB [50] h0 Z (λ Jv h0=>?_) λ Jv h0=>?_)
   ·exact nx 6 Z (mQ (oi h0) Z (sr))
   refine nx 6 Z (bd h0 λ N2 e34 h0=>?_);refine oK (wA H9.Ar _ e34) Z ⟨sr,trivial⟩ Tryz.call97 Z (nx 10 Z ?_);refine bd h0 λ o57 h1 h0=>kN o57 (λ v58=>⟨[(1,.ptr 1 0),(83,.p (eB v58))],[(1,(ab.cs H9).map .p)]⟩) ?_ ?_
   ·refine nx 1 Z (fB [83] h0 Z (λ Pa h0=>?_) λ Pa h0=>?_)
    ·exact nx 6 Z (mQ (oi h0) Z (sr))
    refine nx 9 Z (fN [86] h0 Z (λ c44 h0=>?_) λ c44 h0=>?_)
    ·refine nx 10 Z (bd h0 λ o59 h1 h0=>?_);refine kN o59 (λ v60=>⟨[(2,.p (eB v60))],[]⟩) ?_ ?_
     ·exact nx 2 Z (mQ (oi h0) Z (sr))
     refine nx 5 Z (fD [91,92] h1 Z (λ O' h1=>?_) λ O' h1=>?_)
     ·refine nx 5 Z (fD [95,96,97] h1 Z (λ c46 h1=>?_) λ c46 h1=>?_)
      ·refine nx 4 Z (fN [100,101] h1 Z (λ Ni h1=>?_) λ Ni h1=>?_)
       ·exact nx 7 Z (eX _ (oi h1).symm (gE Z Z))
       exact nx 7 Z (eX _ (oi h1).symm (gE Z Z))
      exact nx 11 Z (eX _ (oi h1).symm (gE Z Z))
     exact nx 16 Z (eX _ (oi h1).symm (gE Z Z))
    exact nx 6 Z (mQ (oi h0) Z (sr))
   refine nx 3 Z (oLl (f:=ai) Z Z ?_);refine nx 3 Z (fD [62,63] h1 Z (λ c35 h1=>?_) λ c35 h1=>?_)
   ·exact nx 21 Z (eX _ (oi h1).symm (gE Z Z))
   refine nx 2 Z (oLl (f:=ai) Z Z ?_);refine nx 3 Z (fD [68,69] h1 Z (λ Mt h1=>?_) λ Mt h1=>?_)
   ·refine nx 5 Z (fD [71,72,73,74] h1 Z (λ c37 h1=>?_) λ c37 h1=>?_)
    ·exact nx 10 Z (eX _ (oi h1).symm (gE Z Z))
    refine nx 2 Z (fB [5,57,75,76] h1 Z (λ Pf h1=>?_) λ Pf h1=>?_)
    ·refine nx 2 Z (oLl (f:=ai) Z Z ?_);refine cc' h1 λ M6 h1=>mO Z (Do Z Z Z Z Z Z M6 ?_);exact nx 4 Z (eX _ (oi h1).symm (gE Z Z))
    exact nx 8 Z (eX _ (oi h1).symm (gE Z Z))
   refine nx 7 Z (fB [5,57,75,76] h1 Z (λ Pd h1=>?_) λ Pd h1=>?_)
   ·refine nx 2 Z (oLl (f:=ai) Z Z ?_);refine cc' h1 λ KG h1=>mO Z (Do Z Z Z Z Z Z KG ?_);exact nx 4 Z (eX _ (oi h1).symm (gE Z Z))
   exact nx 8 Z (eX _ (oi h1).symm (gE Z Z))
  refine nx 3 Z (bd h1 λ r7 e8 h1=>?_);refine oK (qe H9.Ar _ e8) Z ⟨sr,trivial⟩ Tryz.call83 Z (nx 2 Z ?_);refine fB [23,24] h1 Z (λ c9 h1=>?_) λ c9 h1=>?_
  ·refine nx 2 Z (oS Z Z ?_);refine nx 2 Z (fN [27,28,29] h1 Z (λ Kq h1=>?_) λ Kq h1=>?_)
   ·refine nx 2 Z (bd h1 λ Jh JZ h1=>?_);refine oK (om H9.Ar _ JZ) Z ⟨sr,trivial⟩ Tryz.call95 Z (nx 2 Z ?_);refine fB [33,34] h1 Z (λ JN h1=>?_) λ JN h1=>?_
    ·refine nx 2 Z (oS Z Z ?_);refine nx 3 Z (fN [37,38,39,40] h1 Z (λ KO h1=>?_) λ KO h1=>?_)
     ·refine nx 4 Z (fN [43,44] h1 Z (λ KN h1=>?_) λ KN h1=>?_)
      ·exact nx 7 Z (eX _ (oi h1).symm (gE Z Z))
      refine nx 2 Z (bd h1 λ Lg Nh h1=>?_);refine oK (lQ H9.A' _ Nh) Z ⟨sr,trivial⟩ Tryz.call96 Z (nx 4 Z ?_);exact eX _ (oi h1).symm (gE Z Z)
     exact nx 11 Z (eX _ (oi h1).symm (gE Z Z))
    refine nx 10 Z (fN [43,44] h1 Z (λ J' h1=>?_) λ J' h1=>?_)
    ·exact nx 7 Z (eX _ (oi h1).symm (gE Z Z))
    refine nx 2 Z (bd h1 λ Lf Nf h1=>?_);refine oK (lQ H9.A' _ Nf) Z ⟨sr,trivial⟩ Tryz.call96 Z (nx 4 Z ?_);exact eX _ (oi h1).symm (gE Z Z)
   exact nx 22 Z (eX _ (oi h1).symm (gE Z Z))
  refine nx 7 Z (bd h1 λ Iq LI h1=>?_);refine oK (om H9.Ar _ LI) Z ⟨sr,trivial⟩ Tryz.call95 Z (nx 2 Z ?_);refine fB [33,34] h1 Z (λ J4 h1=>?_) λ J4 h1=>?_
  ·refine nx 2 Z (oS Z Z ?_);refine nx 3 Z (fN [37,38,39,40] h1 Z (λ My h1=>?_) λ My h1=>?_)
   ·refine nx 4 Z (fN [43,44] h1 Z (λ KM h1=>?_) λ KM h1=>?_)
    ·exact nx 7 Z (eX _ (oi h1).symm (gE Z Z))
    refine nx 2 Z (bd h1 λ JF NW h1=>?_);refine oK (lQ H9.A' _ NW) Z ⟨sr,trivial⟩ Tryz.call96 Z (nx 4 Z ?_);exact eX _ (oi h1).symm (gE Z Z)
   exact nx 11 Z (eX _ (oi h1).symm (gE Z Z))
  refine nx 10 Z (fN [43,44] h1 Z (λ Mw h1=>?_) λ Mw h1=>?_)
  ·exact nx 7 Z (eX _ (oi h1).symm (gE Z Z))
  refine nx 2 Z (bd h1 λ KW NV h1=>?_);refine oK (lQ H9.A' _ NV) Z ⟨sr,trivial⟩ Tryz.call96 Z (nx 4 Z ?_);exact eX _ (oi h1).symm (gE Z Z)
 refine nx 5 Z (fD [9,10] h1 Z (λ c1 h1=>?_) λ c1 h1=>?_)
 ·exact nx 10 Z (eX _ (oi h1).symm (gE Z Z))
 refine nx 5 Z (fD [13,14,15] h1 Z (λ c2 h1=>?_) λ c2 h1=>?_)
 ·exact nx 5 Z (eX _ (oi h1).symm (gE Z Z))
 refine nx 1 Z (bd h1 λ r3 e4 h1=>?_);refine oK (ry H9 _ e4) Z ⟨sr,trivial⟩ Tryz.call94 Z (nx 3 Z ?_);exact eX _ (oi h1).symm (gE Z Z)
def dy (H1:Bytes):Nat->Int->Option (Unit⊕Bool)
 | 0,_=>none
 | m+1,JA =>
 if JA < (H1.length:Int) then
  ck ((0:Int)<=JA/\JA < (H1.length:Int)) <|
  (
    ck ((0:Int)<=JA/\JA < (H1.length:Int)) <|
    if byt H1 JA=95 then
     some false
    else
     if iOr .u8 (byt H1 JA) 32 < 97 then
      if JA=0 then
       some true
      else
       ck ((0:Int)<=JA/\JA < (H1.length:Int)) <|
       if byt H1 JA < 48 then
        some true
       else
        ck ((0:Int)<=JA/\JA < (H1.length:Int)) <|
        some (decide (57 < byt H1 JA))
     else
      if 122 < iOr .u8 (byt H1 JA) 32 then
       if JA=0 then
        some true
       else
        ck ((0:Int)<=JA/\JA < (H1.length:Int)) <|
        if byt H1 JA < 48 then
         some true
        else
         ck ((0:Int)<=JA/\JA < (H1.length:Int)) <|
         some (decide (57 < byt H1 JA))
      else
       some false
   : Option Bool).bind λ t34 =>
  if t34=true then
   some (.inr false)
  else
   ck (inR (JA+1)) <|
   dy H1 m (JA+1)
 else
  some (.inl ())
def gj (n:Nat)(H1:Bytes):Option Bool :=
 jn (dy H1 n 0) λ _MX =>
 (
   if H1=([]:Bytes) then
    some false
   else
    some (decide ((H1.length:Int)<=64))
  : Option Bool).bind λ t39 =>
 some t39
theorem my (n:Nat)(H1:Bytes)(r:Bool)(h0:gj n H1=some r):aB Tryz.prog 84 [eS H1] (·=.p (eB r)):=by
 unfold gj at h0;refine bm good Tryz.func84 Z Z Z λ w0=>mP (λ v:Bool=>.p (eB v)) ?_;refine nx 8 rfl (oLs rfl ?_);refine nx 3 rfl ?_;obtain ⟨o43,h1,IS,hR0⟩:=db h0;refine kEx 0 (λ Og:Unit=>o43=.inl Og) (λ Og=>⟨[(0,.p (eS H1))],[]⟩) (λ Og hv=>?_) ?_
 ·have h0:=IS _ hv;refine nx 2 Z (bd h0 λ LN h1 h0=>?_);refine kN LN (λ v46=>⟨[(2,.p (eB v46))],[]⟩) ?_ ?_
  ·exact nx 2 Z (mQ (oi h0) Z (sr))
  refine nx 2 Z (oS Z Z ?_);refine nx 1 Z (fN [44,45] h1 Z (λ Pf h1=>?_) λ Pf h1=>?_)
  ·exact nx 6 Z (eX _ (oi h1).symm (gE Z Z))
  refine nx 1 Z (oLs Z ?_);exact nx 4 Z (eX _ (oi h1).symm (gE Z Z))
 refine lG (λ (J6:Int)=>⟨[(0,.p (eS H1)),(6,.p (eI (H1.length:Int))),(7,.p (eI J6))],[]⟩) (λ m (J6:Int)=>dy H1 m J6) Y 0 h1 (gE rfl rfl) ?_;rintro m JA h1;replace h1:dy H1 (m+1) JA=some o43:=h1;rw [dy] at h1;refine nx 5 rfl (fD [8] h1 rfl (λ c20 h1=>?_) λ c20 h1=>?_)
 ·refine nx 13 Z (oI h1 Z λ Km h1=>?_);refine nx 4 Z (bd h1 λ N6 h2 h1=>?_);refine kN N6 (λ L0=>⟨[(0,.p (eS H1)),(6,.p (eI (H1.length:Int))),(7,.p (eI JA)),(41,.p (eB L0))],[]⟩) ?_ ?_
  ·refine nx 1 Z (fB [41] h1 Z (λ c35 h1=>?_) λ c35 h1=>?_)
   ·exact nx 6 Z (mQ (hR0 _ (oi h1).symm) Z (sr))
   refine nx 3 Z (oA h1 Z Z λ M7 h1=>?_);exact nx 2 Z (eX (JA+1) h1 (gE Z Z))
  refine nx 3 Z (oI h2 Z λ Kl h2=>?_);refine nx 2 Z (fN [17,18] h2 Z (λ J4 h2=>?_) λ J4 h2=>?_)
  ·exact nx 24 Z (eX _ (oi h2).symm (gE Z Z))
  refine nx 3 Z (fD [20,21] h2 Z (λ My h2=>?_) λ My h2=>?_)
  ·refine nx 8 Z (fD [28,29] h2 Z (λ KM h2=>?_) λ KM h2=>?_)
   ·exact nx 13 Z (eX _ (oi h2).symm (gE Z Z))
   refine nx 2 Z (oI h2 Z λ Ky h2=>?_);refine nx 3 Z (fD [33,34,35] h2 Z (λ K8 h2=>?_) λ K8 h2=>?_)
   ·exact nx 7 Z (eX _ (oi h2).symm (gE Z Z))
   refine nx 2 Z (oI h2 Z λ M' h2=>?_);exact nx 4 Z (eX _ (oi h2).symm (gE Z Z))
  refine nx 5 Z (fD [23,24,25,26] h2 Z (λ Mv h2=>?_) λ Mv h2=>?_)
  ·refine nx 3 Z (fD [28,29] h2 Z (λ LJ h2=>?_) λ LJ h2=>?_)
   ·exact nx 13 Z (eX _ (oi h2).symm (gE Z Z))
   refine nx 2 Z (oI h2 Z λ M8 h2=>?_);refine nx 3 Z (fD [33,34,35] h2 Z (λ Jv h2=>?_) λ Jv h2=>?_)
   ·exact nx 7 Z (eX _ (oi h2).symm (gE Z Z))
   refine nx 2 Z (oI h2 Z λ NM h2=>?_);exact nx 4 Z (eX _ (oi h2).symm (gE Z Z))
  exact nx 16 Z (eX _ (oi h2).symm (gE Z Z))
 exact nx 2 Z (eXi _ (oi h1).symm (gE Z Z))
def fF (H1:Bytes):Option Bool :=
 (
   if H1=([110,117,108,108]:Bytes) then
    some true
   else
    if H1=([116,114,117,101]:Bytes) then
     some true
    else
     if H1=([102,97,108,115,101]:Bytes) then
      some true
     else
      if H1=([102,111,114]:Bytes) then
       some true
      else
       if H1=([105,110]:Bytes) then
        some true
       else
        some (decide (H1=([105,102]:Bytes)))
  : Option Bool).bind λ t6 =>
 if t6=true then
  some true
 else
  some false
theorem jd (H1:Bytes)(r:Bool)(h0:fF H1=some r):aB Tryz.prog 85 [eS H1] (·=.p (eB r)):=by
 unfold fF at h0;refine bm good Tryz.func85 Z Z Z λ w0=>mP (λ v:Bool=>.p (eB v)) ?_;refine nx 11 Z (bd h0 λ o9 h1 h0=>?_);refine kN o9 (λ Oo=>⟨[(4,.p (eB Oo))],[]⟩) ?_ ?_
 ·refine nx 1 Z (fB [4] h0 Z (λ c7 h0=>?_) λ c7 h0=>?_)
  ·exact nx 6 Z (mQ (oi h0) Z (sr))
  exact nx 7 Z (mQ (oi h0) Z (sr))
 refine nx 2 Z (oS Z Z ?_);refine nx 2 Z (fD [4,5] h1 Z (λ c1 h1=>?_) λ c1 h1=>?_)
 ·exact nx 2 Z (eX _ (oi h1).symm (gE Z Z))
 refine nx 3 Z (oS Z Z ?_);refine nx 2 Z (fD [4,6] h1 Z (λ c2 h1=>?_) λ c2 h1=>?_)
 ·exact nx 2 Z (eX _ (oi h1).symm (gE Z Z))
 refine nx 3 Z (oS Z Z ?_);refine nx 2 Z (fD [4,7] h1 Z (λ c3 h1=>?_) λ c3 h1=>?_)
 ·exact nx 2 Z (eX _ (oi h1).symm (gE Z Z))
 refine nx 3 Z (oS Z Z ?_);refine nx 2 Z (fD [4,8] h1 Z (λ c4 h1=>?_) λ c4 h1=>?_)
 ·exact nx 2 Z (eX _ (oi h1).symm (gE Z Z))
 refine nx 3 Z (oS Z Z ?_);refine nx 2 Z (fD [4,9] h1 Z (λ c5 h1=>?_) λ c5 h1=>?_)
 ·exact nx 2 Z (eX _ (oi h1).symm (gE Z Z))
 refine nx 2 Z (oS Z Z ?_);exact nx 2 Z (eX _ (oi h1).symm (gE Z Z))
def nP (n:Nat)(H9:ab):Option Int :=
 (fC H9).bind λ r1 =>
 if (!r1)=true then
  some 1
 else
  if H9.Ar=1 then
   (lm n H9.A').bind λ r5 =>
   some r5
  else
   (
     (ij H9.Ar).bind λ r7 =>
     if r7=true then
      (gj n H9.AI).bind λ Iu =>
      if (!Iu)=true then
       some true
      else
       if H9.Ar=4 then
        some false
       else
        (fF H9.AI).bind λ Lb =>
        some Lb
     else
      some false
    : Option Bool).bind λ I5 =>
   if I5=true then
    some 7
   else
    (
      if H9.E'=([]:Bytes) then
       some false
      else
       (gj n H9.E').bind λ Lf =>
       if (!Lf)=true then
        some true
       else
        (fF H9.E').bind λ Kr =>
        some Kr
     : Option Bool).bind λ Kg =>
    if Kg=true then
     some 7
    else
     some 0
theorem wT (n:Nat)(H9:ab)(r:Int)(h0:nP n H9=some r):aB Tryz.prog 66 [.agg (ab.cs H9)] (·=.p (eI r)):=by
 unfold nP at h0;refine bm good Tryz.func66 Z Z Z λ w0=>mP (λ v:Int=>.p (eI v)) ?_;refine nx 9 Z (bd h0 λ r1 e2 h0=>?_);refine oK (uq H9 _ e2) Z ⟨sr,trivial⟩ Tryz.call81 Z (nx 2 Z ?_);refine fB [5] h0 Z (λ c3 h0=>?_) λ c3 h0=>?_
 ·exact nx 6 Z (mQ (oi h0) Z (sr))
 refine nx 9 Z (fD [8] h0 Z (λ c4 h0=>?_) λ c4 h0=>?_)
 ·refine nx 5 Z (bd h0 λ r5 e6 h0=>?_);refine oK (ud _ H9.A' _ e6) Z ⟨sr,trivial⟩ Tryz.call82 Z (nx 3 Z ?_);exact mQ (oi h0) Z (sr)
 refine nx 4 Z (bd h0 λ o28 h1 h0=>?_);refine kN o28 (λ v29=>⟨[(1,.ptr 1 0),(30,.p (eB v29))],[(1,(ab.cs H9).map .p)]⟩) ?_ ?_
 ·refine nx 1 Z (fB [30] h0 Z (λ IA h0=>?_) λ IA h0=>?_)
  ·exact nx 6 Z (mQ (oi h0) Z (sr))
  refine nx 4 Z (bd h0 λ OI h1 h0=>?_);refine kN OI (λ L2=>⟨[(44,.p (eB L2))],[]⟩) ?_ ?_
  ·refine nx 1 Z (fB [44] h0 Z (λ KM h0=>?_) λ KM h0=>?_)
   ·exact nx 6 Z (mQ (oi h0) Z (sr))
   exact nx 7 Z (mQ (oi h0) Z (sr))
  refine nx 3 Z (oS Z Z ?_);refine nx 1 Z (fN [33,34] h1 Z (λ J' h1=>?_) λ J' h1=>?_)
  ·exact nx 11 Z (eX _ (oi h1).symm (gE Z Z))
  refine nx 2 Z (bd h1 λ Lf Nf h1=>?_);refine oK (my _ H9.E' _ Nf) Z ⟨sr,trivial⟩ Tryz.call84 Z (nx 2 Z ?_);refine fB [38,39] h1 Z (λ c21 h1=>?_) λ c21 h1=>?_
  ·exact nx 6 Z (eX _ (oi h1).symm (gE Z Z))
  refine nx 2 Z (bd h1 λ Kr NX h1=>?_);refine oK (jd H9.E' _ NX) Z ⟨sr,trivial⟩ Tryz.call85 Z (nx 3 Z ?_);exact eX _ (oi h1).symm (gE Z Z)
 refine nx 3 Z (bd h1 λ r7 e8 h1=>?_);refine oK (qe H9.Ar _ e8) Z ⟨sr,trivial⟩ Tryz.call83 Z (nx 1 Z ?_);refine fB [14,15] h1 Z (λ c9 h1=>?_) λ c9 h1=>?_
 ·refine nx 2 Z (bd h1 λ Iu JM h1=>?_);refine oK (my _ H9.AI _ JM) Z ⟨sr,trivial⟩ Tryz.call84 Z (nx 2 Z ?_);refine fB [19,20] h1 Z (λ KP h1=>?_) λ KP h1=>?_
  ·exact nx 11 Z (eX _ (oi h1).symm (gE Z Z))
  refine nx 4 Z (fN [23,24] h1 Z (λ JN h1=>?_) λ JN h1=>?_)
  ·exact nx 7 Z (eX _ (oi h1).symm (gE Z Z))
  refine nx 2 Z (bd h1 λ Lb Ms h1=>?_);refine oK (jd H9.AI _ Ms) Z ⟨sr,trivial⟩ Tryz.call85 Z (nx 4 Z ?_);exact eX _ (oi h1).symm (gE Z Z)
 exact nx 16 Z (eX _ (oi h1).symm (gE Z Z))
def ce (IZ:bG->ab->Int->Option (Int×bG))(e_1:ab)(ID:Int):Nat->Int->Int->Option (Int⊕(Int×bG))
 | 0,_,_=>none
 | m+1,I5,K6 =>
 if I5 < (e_1.By.length:Int) then
  ck ((0:Int)<=I5/\I5 < (e_1.By.length:Int)) <|
  ck (inR (ID+1)) <|
  (IZ (bG.mk K6) (lat e_1.By I5) (ID+1)).bind λ Iq =>
  if Iq.1=0 then
   ck (inR (I5+1)) <|
   ce IZ e_1 ID m (I5+1) Iq.2.fcount
  else
   some (.inr (Iq.1,Iq.2))
 else
  some (.inl K6)
def cx:Nat->bG->ab->Int->Option (Int×bG)
 | 0,_,_,_=>none
 | n+1,J3,e_1,ID =>
 if 32 < ID then
  some (4,J3)
 else
  if 4096<=J3.fcount then
   some (14,J3)
  else
   ck (inR (J3.fcount+1)) <|
   (nP n e_1).bind λ r4 =>
   if r4=0 then
    jn (ce (cx n) e_1 ID n 0 (J3.fcount+1)) λ J9 =>
    some (0,(bG.mk J9))
   else
    some (r4,(bG.mk (J3.fcount+1)))
theorem pc (n:Nat):∀ (J3:bG) (e_1:ab) (ID:Int) (r:Int×bG),cx n J3 e_1 ID=some r->aV Tryz.prog 47 [.ptr 1000000 0,.p (.agg (ab.cs e_1)),.p (eI ID)] [(1000000,[.p (eI J3.fcount)])] (λ x y=>x=.p (eI r.1)/\y=[(1000000,[.p (eI r.2.fcount)])]):=by
 induction n with
 | zero=>intro J3 e_1 ID r h0; cases h0
 | succ n ih =>
 have Je:=ih;intro J3 e_1 ID r h0;rw [cx] at h0;refine cr good [] [1000000] Tryz.func47 Z Z Z Z Z λ w0 F=>mPo (λ v:Int×bG=>.p (eI v.1)) (λ v=>[(1000000,[.p (eI v.2.fcount)])]) ?_;refine nx 11 Z (fD [12] h0 Z (λ c1 h0=>?_) λ c1 h0=>?_)
 ·exact nx 6 Z (iy h0 Z)
 refine nx 11 Z (fD [17] h0 Z (λ c2 h0=>?_) λ c2 h0=>?_)
 ·exact nx 6 Z (iy h0 Z)
 refine nx 8 Z (oA h0 Z Z λ Lz h0=>?_);refine nx 8 Z (bd h0 λ r4 e5 h0=>?_);refine oK (wT _ e_1 _ e5) Z ⟨sr,trivial⟩ Tryz.call66 Z (nx 7 Z ?_);refine fN [28] h0 Z (λ c6 h0=>?_) λ c6 h0=>?_
 ·refine nx 7 rfl (oLl (f:=ai) Z Z ?_);refine nx 3 rfl ?_;obtain ⟨KY,h1,IS,hR0⟩:=db h0;refine kEx 0 (λ JW:Int=>KY=.inl JW) (λ JW=>⟨[],[(1000000,[.p (eI JW)])]⟩) (λ JW hv=>?_) ?_
  ·have h0:=IS _ hv;exact nx 6 Z (iy h0 Z)
  refine lG (λ (JX:Int×Int)=>⟨[(0,.ptr 1000000 0),(2,.p (eI ID)),(31,.p (eL ai e_1.By)),(32,.p (eI (e_1.By.length:Int))),(33,.p (eI JX.1))],[(1000000,[.p (eI JX.2)])]⟩) (λ m (JX:Int×Int)=>ce (cx n) e_1 ID m JX.1 JX.2) Y (0,J3.fcount+1) h1 (gE rfl rfl) ?_;rintro m ⟨I5,K6⟩ h1;replace h1:ce (cx n) e_1 ID (m+1) I5 K6=some KY:=h1;rw [ce] at h1;refine nx 5 rfl (fD [34] h1 rfl (λ J' h1=>?_) λ J' h1=>?_)
  ·refine nx 6 Z (oE h1 ab.HU Z Z Y λ J7 h1=>?_);refine nx 9 Z (oA h1 Z Z λ Kn h1=>?_);refine bd h1 λ Iq LI h1=>mO Z (cVq [1000000] [] 102000 102000 (Je (bG.mk K6) (lat e_1.By I5) (ID+1) _ LI) Tryz.call47 Z ?_);refine nx 7 Z (fN [43] h1 Z (λ J4 h1=>?_) λ J4 h1=>?_)
   ·refine nx 3 Z (oA h1 Z Z λ Kz h1=>?_);exact nx 2 Z (eX (I5+1,Iq.2.fcount) h1 (gE Z Z))
   exact nx 7 Z (mQo (hR0 _ (oi h1).symm) (ay _) Z Z Z Z (sr) ⟨⟨_,Z,⟨sr,trivial⟩⟩,trivial⟩)
  exact nx 2 Z (eXi _ (oi h1).symm (gE Z Z))
 exact nx 7 Z (iy h0 Z)
def mi (n:Nat)(H9:ab):Option Int :=
 (cx n (bG.mk 0) H9 1).bind λ r1 =>
 some r1.1
theorem vh (n:Nat)(H9:ab)(r:Int)(h0:mi n H9=some r):aB Tryz.prog 33 [.agg (ab.cs H9)] (·=.p (eI r)):=by
 unfold mi at h0;refine bm good Tryz.func33 Z Z Z λ w0=>mP (λ v:Int=>.p (eI v)) ?_;refine nx 15 Z (bd h0 λ r1 e2 h0=>?_);refine mO Z (cVq [5] [] 101000 101000 (pc _ (bG.mk 0) H9 1 _ e2) Tryz.call47 Z ?_);exact nx 3 Z (mQ (oi h0) Z (sr))
def dk (H7:ae):Nat->Int->Option Int
 | 0,_=>none
 | m+1,f7 =>
 (
   if 0 < H7.G' then
    ck ((0:Int)<=f7/\f7 < (H7.fl.length:Int)) <|
    some (decide ((lat H7.fl f7).Ar=5))
   else
    some false
  : Option Bool).bind λ t10 =>
 if t10=true then
  ck (inR (f7+1)) <|
  dk H7 m (f7+1)
 else
  some f7
def bN (n:Nat)(H7:ae):Option (af×ae) :=
 (dk H7 n H7.fat).bind λ Ne =>
 ck ((0:Int)<=Ne/\Ne < (H7.fl.length:Int)) <|
 ck (inR (((lat H7.fl Ne).fAt)+H7.Gw)) <|
 some ((af.mk ((lat H7.fl Ne).Ar) ((lat H7.fl Ne).Df) (((lat H7.fl Ne).fAt)+H7.Gw)),(ae.mk H7.fl Ne H7.G' H7.Gw H7.AT))
theorem bS (n:Nat)(H7:ae)(r:af×ae)(h0:bN n H7=some r):aV Tryz.prog 31 [.ptr 1000000 0] [(1000000,((ae.cs H7).map .p))] (λ x y=>x=.p (.agg (af.cs r.1))/\y=[(1000000,((ae.cs r.2).map .p))]):=by
 unfold bN at h0;refine cr good [] [1000000] Tryz.func31 Z Z Z Z Z λ w0 F=>mPo (λ v:af×ae=>.p (.agg (af.cs v.1))) (λ v=>[(1000000,((ae.cs v.2).map .p))]) ?_;refine nx 6 Z (bd h0 λ Kk h1 h0=>?_);refine kE 0 Kk (λ v20=>⟨[(0,.ptr 1000000 0),(2,.ptr 2 0)],[(2,ki),(1000000,[.p (eL bM H7.fl),.p (eI v20),.p (eI H7.G'),.p (eI H7.Gw),.p (eI H7.AT.Ar),.p (eI H7.AT.fAt),.p (eS H7.AT.AI)])]⟩) ?_ ?_
 ·refine nx 2 Z (cc' h0 λ Ko h0=>?_);refine mG (gE (t:=⟨[(0,.ptr 1000000 0),(2,.ptr 2 0)],[(2,ki),(1000000,[.p (eL bM H7.fl),.p (eI Kk),.p (eI H7.G'),.p (eI H7.Gw),.p (eI H7.AT.Ar),.p (eI H7.AT.fAt),.p (eS H7.AT.AI)])]⟩) Z Z) (mSq ⟨2,[10,11],(by3 (.some λ i=>Nat.beq i 3) .none .none),(λ _=>[(0,.ptr 1000000 0),(2,.ptr 2 0)]),(ob3 ([(2,ki),(1000000,[.p (eL bM H7.fl),.p (eI Kk),.p (eI H7.G'),.p (eI H7.Gw),.p (eI H7.AT.Ar),.p (eI H7.AT.fAt),.p (eS H7.AT.AI)])]) (3,ki) (3,[.p (eI ((lat H7.fl Kk).Ar)),.p (eS ((lat H7.fl Kk).Df)),.p (eI ((lat H7.fl Kk).fAt))]))⟩ Z ?_);refine dPc (.ptr 1000000 0) Z (dPc (.ptr 1000000 0) Z ?_);refine dPc (.ptr 1000000 0) Z (dPc (.p (eL bM H7.fl)) Z ?_);refine dPc (.ptr 1000000 0) Z (dPc (.ptr 1000000 0) Z ?_);refine dPc (.ptr 1000000 1) Z (dPc (.p (eI Kk)) Z ?_);refine aG (λ _=>.rptr (af.cs (lat H7.fl Kk))) Z Z Z (gx Z Z Y) (lt2 Z Z) (aA Z (au [(33,_),(37,_)] ⟨.inr ⟨3,_,Z,Z,Z⟩,.inr ⟨7,_,Z,Z,Z⟩,trivial⟩ (λ sl H2 K hK=>aj Z (rY (f:=bM) (l:=H7.fl) af.cs Z Z Z Z Z Z (H2 _ _ Z) Z (H2 _ _ Z) Ko af.HU Y hK)) (au [(33,_),(37,_)] ⟨.inr ⟨3,_,Z,Z,Z⟩,.inr ⟨7,_,Z,Z,Z⟩,trivial⟩ (λ sl H2 K hK=>aj Z (rY (f:=bM) (l:=H7.fl) af.cs Z Z Z Z Z Z (H2 _ _ Z) Z (H2 _ _ Z) Ko af.HU Y hK)) aE))) (dPc (.p (.agg (af.cs (lat H7.fl Kk)))) Z ?_);refine eM (λ _=>.ptr 3 0) [] Z trivial Z Z (ip Z Y) (lt2 (λ h=>absurd h (by decide)) Y) (λ sl H2 K hK=>aj Z (io Z Z Z Z Z hK)) (dS Z ?_);refine dF (nx 2 Z ?_);refine cc' h0 λ K0 h0=>mG (gE (t:=⟨[(0,.ptr 1000000 0),(2,.ptr 2 0),(3,.ptr 3 0)],[(2,ki),(3,(af.cs (lat H7.fl Kk)).map .p),(1000000,[.p (eL bM H7.fl),.p (eI Kk),.p (eI H7.G'),.p (eI H7.Gw),.p (eI H7.AT.Ar),.p (eI H7.AT.fAt),.p (eS H7.AT.AI)])]⟩) Z Z) (mSq ⟨1,[8],(λ _=>.none),(λ _=>[(0,.ptr 1000000 0),(2,.ptr 2 0),(3,.ptr 3 0)]),(ob2 ([(2,ki),(3,[.p (eI ((lat H7.fl Kk).Ar)),.p (eS ((lat H7.fl Kk).Df)),.p (eI ((lat H7.fl Kk).fAt))]),(1000000,[.p (eL bM H7.fl),.p (eI Kk),.p (eI H7.G'),.p (eI H7.Gw),.p (eI H7.AT.Ar),.p (eI H7.AT.fAt),.p (eS H7.AT.AI)])]) (3,[.p (eI ((lat H7.fl Kk).Ar)),.p (eS ((lat H7.fl Kk).Df)),.p (eI (((lat H7.fl Kk).fAt)+H7.Gw))]))⟩ Z ?_);refine dPc (.ptr 3 2) Z (dPc (.p (eI ((lat H7.fl Kk).fAt))) Z ?_);refine dPc (.ptr 1000000 0) Z (dPc (.ptr 1000000 0) Z ?_);refine dPc (.ptr 1000000 3) Z (dPc (.p (eI H7.Gw)) Z ?_);refine aG (λ _=>.p (eI (((lat H7.fl Kk).fAt)+H7.Gw))) Z Z Z (ip Z Y) (lt1 Z) (aA Z (au [(41,_),(45,_)] ⟨.inr ⟨1,_,Z,Z,Z⟩,.inr ⟨5,_,Z,Z,Z⟩,trivial⟩ (λ sl H2 K hK=>aj Z (dV Z Z Z (H2 _ _ Z) (H2 _ _ Z) Z K0 hK)) aE)) (dPc (.ptr 3 2) Z ?_);refine dS Z (dF ?_);exact nx 7 Z (iy h0 Z)
 refine lG (λ (q21:Int)=>⟨[(0,.ptr 1000000 0),(2,.ptr 2 0)],[(2,ki),(1000000,[.p (eL bM H7.fl),.p (eI q21),.p (eI H7.G'),.p (eI H7.Gw),.p (eI H7.AT.Ar),.p (eI H7.AT.fAt),.p (eS H7.AT.AI)])]⟩) (λ m (q21:Int)=>dk H7 m q21) Y H7.fat h1 (gE rfl rfl) ?_;rintro m f7 h1;replace h1:dk H7 (m+1) f7=some Kk:=h1;rw [dk] at h1;refine nx 2 rfl (bd h1 λ o22 h2 h1=>?_);refine kN o22 (λ v23=>⟨[(0,.ptr 1000000 0),(2,.ptr 2 0),(22,.p (eB v23))],[(2,ki),(1000000,[.p (eL bM H7.fl),.p (eI f7),.p (eI H7.G'),.p (eI H7.Gw),.p (eI H7.AT.Ar),.p (eI H7.AT.fAt),.p (eS H7.AT.AI)])]⟩) ?_ ?_
 ·refine nx 1 Z (fB [22] h1 Z (λ Ka h1=>?_) λ Ka h1=>?_)
  ·refine nx 8 Z (oA h1 Z Z λ KA h1=>?_);exact nx 4 Z (eX (f7+1) h1 (gE Z Z))
  exact nx 2 Z (eXi _ (oi h1).symm (gE Z Z))
 refine fD (p:=0 < H7.G') [] h2 Z (λ c8 h2=>?_) λ c8 h2=>?_
 ·refine cc' h2 λ Lq h2=>mD [(0,.ptr 1000000 0),(2,.ptr 2 0)] Z ⟨Z,Z,trivial⟩ Z (dR 4 Z ?_);refine dL (dt c8) Z (dR 9 Z ?_);refine dq (.rptr (af.cs (lat H7.fl f7))) [9,13,17] Z (λ _ e _ q=>f0 (rY (f:=bM) (l:=H7.fl) af.cs Z Z Z Z Z Z (e _ _ Z) Z (e _ _ Z) Lq af.HU Y q) Z Z (e _ _ Z) (rfl)) Z (dR 4 Z ?_);refine dE Z (nx 1 Z ?_);exact eX _ (oi h2).symm (gE Z Z)
 refine mD [(0,.ptr 1000000 0),(2,.ptr 2 0)] Z ⟨Z,Z,trivial⟩ Z (dR 4 Z ?_);refine dL (df c8) Z (dR 14 Z ?_);refine dE Z (nx 1 Z ?_);exact eX _ (oi h2).symm (gE Z Z)
def aU (n:Nat)(H7:ae):Option (af×ae) :=
 (bN n H7).bind λ r1 =>
 (
   if r1.1.Ar=6 then
    some r1.2.fat
   else
    ck (inR (r1.2.fat+1)) <|
    some (r1.2.fat+1)
  : Option Int).bind λ f5 =>
 some (r1.1,(ae.mk r1.2.fl f5 r1.2.G' r1.2.Gw r1.2.AT))
theorem aX (n:Nat)(H7:ae)(r:af×ae)(h0:aU n H7=some r):aV Tryz.prog 44 [.ptr 1000000 0] [(1000000,((ae.cs H7).map .p))] (λ x y=>x=.p (.agg (af.cs r.1))/\y=[(1000000,((ae.cs r.2).map .p))]):=by
 unfold aU at h0;refine cr good [] [1000000] Tryz.func44 Z Z Z Z Z λ w0 F=>mPo (λ v:af×ae=>.p (.agg (af.cs v.1))) (λ v=>[(1000000,((ae.cs v.2).map .p))]) ?_;refine nx 7 Z (bd h0 λ r1 e2 h0=>?_);refine mO Z (cVq [1000000] [] 101000 101000 (bS _ H7 _ e2) Tryz.call31 Z ?_);refine nx 4 Z (bd h0 λ o7 h1 h0=>?_);refine kN o7 (λ v8=>⟨[(2,.ptr 2 0),(3,.ptr 3 0)],[(2,ki),(3,(af.cs r1.1).map .p),(1000000,[.p (eL bM r1.2.fl),.p (eI v8),.p (eI r1.2.G'),.p (eI r1.2.Gw),.p (eI r1.2.AT.Ar),.p (eI r1.2.AT.fAt),.p (eS r1.2.AT.AI)])]⟩) ?_ ?_
 ·exact nx 7 Z (iy h0 Z)
 refine nx 6 Z (fN [8] h1 Z (λ c3 h1=>?_) λ c3 h1=>?_)
 ·exact nx 2 Z (eX _ (oi h1).symm (gE Z Z))
 refine nx 6 Z (oA h1 Z Z λ Ml h1=>?_);exact nx 4 Z (eX _ (oi h1).symm (gE Z Z))
def bc (H7:ae):Option (Bool×ae) :=
 some (!decide (H7.AT.Ar=0),H7)
theorem dp (H7:ae)(r:Bool×ae)(h0:bc H7=some r):aV Tryz.prog 46 [.ptr 1000000 0] [(1000000,((ae.cs H7).map .p))] (λ x y=>x=.p (eB r.1)/\y=[(1000000,((ae.cs r.2).map .p))]):=by
 unfold bc at h0;refine cr good [] [1000000] Tryz.func46 Z Z Z Z Z λ w0 F=>mPo (λ v:Bool×ae=>.p (eB v.1)) (λ v=>[(1000000,((ae.cs v.2).map .p))]) ?_;exact nx 15 Z (iy h0 Z)
def bu (n:Nat)(H7:ae)(s_1:Bytes):Option (Bool×ae) :=
 (bN n H7).bind λ r1 =>
 (
   (bc r1.2).bind λ r3 =>
   if (!r3.1)=true then
    if r1.1.Ar=4 then
     some (decide (r1.1.Df=s_1),r3.2.fl,r3.2.fat,r3.2.G',r3.2.Gw,r3.2.AT.Ar,r3.2.AT.fAt,r3.2.AT.AI)
    else
     some (false,r3.2.fl,r3.2.fat,r3.2.G',r3.2.Gw,r3.2.AT.Ar,r3.2.AT.fAt,r3.2.AT.AI)
   else
    some (false,r3.2.fl,r3.2.fat,r3.2.G',r3.2.Gw,r3.2.AT.Ar,r3.2.AT.fAt,r3.2.AT.AI)
  : Option (Bool×(List af)×Int×Int×Int×Int×Int×Bytes)).bind λ Ks =>
 some (Ks.1,(ae.mk Ks.2.1 Ks.2.2.1 Ks.2.2.2.1 Ks.2.2.2.2.1 (ap.mk Ks.2.2.2.2.2.1 Ks.2.2.2.2.2.2.1 Ks.2.2.2.2.2.2.2)))
theorem bK (n:Nat)(H7:ae)(s_1:Bytes)(r:Bool×ae)(h0:bu n H7 s_1=some r):aV Tryz.prog 43 [.ptr 1000000 0,.p (eS s_1)] [(1000000,((ae.cs H7).map .p))] (λ x y=>x=.p (eB r.1)/\y=[(1000000,((ae.cs r.2).map .p))]):=by
 unfold bu at h0;refine cr good [] [1000000] Tryz.func43 Z Z Z Z Z λ w0 F=>mPo (λ v:Bool×ae=>.p (eB v.1)) (λ v=>[(1000000,((ae.cs v.2).map .p))]) ?_;refine nx 7 Z (bd h0 λ r1 e2 h0=>?_);refine mO Z (cVq [1000000] [] 101000 101000 (bS _ H7 _ e2) Tryz.call31 Z ?_);refine nx 4 Z (bd h0 λ N9 h1 h0=>?_);refine kN N9 (λ Kt=>⟨[(4,.p (eB Kt.1))],[(1000000,[.p (eL bM Kt.2.1),.p (eI Kt.2.2.1),.p (eI Kt.2.2.2.1),.p (eI Kt.2.2.2.2.1),.p (eI Kt.2.2.2.2.2.1),.p (eI Kt.2.2.2.2.2.2.1),.p (eS Kt.2.2.2.2.2.2.2)])]⟩) ?_ ?_
 ·exact nx 2 Z (iy h0 Z)
 refine nx 2 Z (bd h1 λ r3 e4 h1=>?_);refine mO Z (cVq [1000000] [] 102000 102000 (dp r1.2 _ e4) Tryz.call46 Z ?_);refine nx 2 Z (fB [10,11] h1 Z (λ c5 h1=>?_) λ c5 h1=>?_)
 ·refine nx 5 Z (fD [14,15,16] h1 Z (λ c6 h1=>?_) λ c6 h1=>?_)
  ·refine nx 3 Z (oS Z Z ?_);exact nx 3 Z (eX _ (oi h1).symm (gE Z Z))
  exact nx 7 Z (eX _ (oi h1).symm (gE Z Z))
 exact nx 12 Z (eX _ (oi h1).symm (gE Z Z))
def bO (H7:ae)(k_1:Int)(at_2:Int):Option (ab×ae) :=
 (
   (bc H7).bind λ r1 =>
   if (!r1.1)=true then
    some (r1.2.fl,r1.2.fat,r1.2.G',r1.2.Gw,k_1,at_2,([]:Bytes))
   else
    some (r1.2.fl,r1.2.fat,r1.2.G',r1.2.Gw,r1.2.AT.Ar,r1.2.AT.fAt,r1.2.AT.AI)
  : Option ((List af)×Int×Int×Int×Int×Int×Bytes)).bind λ Ny =>
 some ((ab.mk 0 0 ([]:Bytes) ([]:Bytes) (ah.mk 0 0 ([]:Bytes) [] []) [] 0),(ae.mk Ny.1 Ny.2.1 Ny.2.2.1 Ny.2.2.2.1 (ap.mk Ny.2.2.2.2.1 Ny.2.2.2.2.2.1 Ny.2.2.2.2.2.2)))
theorem cp (H7:ae)(k_1:Int)(at_2:Int)(r:ab×ae)(h0:bO H7 k_1 at_2=some r):aV Tryz.prog 32 [.ptr 1000000 0,.p (eI k_1),.p (eI at_2)] [(1000000,((ae.cs H7).map .p))] (λ x y=>x=.p (.agg (ab.cs r.1))/\y=[(1000000,((ae.cs r.2).map .p))]):=by
 unfold bO at h0;refine cr good [] [1000000] Tryz.func32 Z Z Z Z Z λ w0 F=>mPo (λ v:ab×ae=>.p (.agg (ab.cs v.1))) (λ v=>[(1000000,((ae.cs v.2).map .p))]) ?_;refine nx 5 Z (bd h0 λ NA h1 h0=>?_);refine kN NA (λ Lt=>⟨[(6,.ptr 6 0)],[(6,md),(1000000,[.p (eL bM Lt.1),.p (eI Lt.2.1),.p (eI Lt.2.2.1),.p (eI Lt.2.2.2.1),.p (eI Lt.2.2.2.2.1),.p (eI Lt.2.2.2.2.2.1),.p (eS Lt.2.2.2.2.2.2)])]⟩) ?_ ?_
 ·exact nx 7 Z (mQo (oi h0) (ay _) Z Z Z Z (cR ⟨.inl Z,.inl Z,.inl Z,.inl Z,.inl Z,.inl Z,.inl Z,.inr ⟨Z,Z⟩,.inr ⟨Z,Z⟩,.inr ⟨Z,Z⟩,.inl Z,trivial⟩) ⟨⟨_,Z,⟨sr,sr,sr,sr,sr,sr,sr,trivial⟩⟩,trivial⟩)
 refine nx 3 Z (bd h1 λ r1 e2 h1=>?_);refine mO Z (cVq [1000000] [] 101000 101000 (dp H7 _ e2) Tryz.call46 Z ?_);refine nx 2 Z (fB [9] h1 Z (λ c3 h1=>?_) λ c3 h1=>?_)
 ·exact nx 10 Z (eX _ (oi h1).symm (gE Z Z))
 exact nx 2 Z (eX _ (oi h1).symm (gE Z Z))
def gv (Ic:ah)(Ir:Int):Option ab :=
 some (ab.mk 1 0 ([]:Bytes) ([]:Bytes) Ic [] Ir)
theorem fg (Ic:ah)(Ir:Int)(r:ab)(h0:gv Ic Ir=some r):aB Tryz.prog 105 [.agg (ah.cs Ic),eI Ir] (·=.p (.agg (ab.cs r))):=by
 unfold gv at h0;refine bm good Tryz.func105 Z Z Z λ w0=>mP (λ v:ab=>.p (.agg (ab.cs v))) ?_;exact nx 13 Z (mQ (oi h0) Z (cR ⟨.inl Z,.inl Z,.inl Z,.inl Z,.inl Z,.inl Z,.inl Z,.inl Z,.inl Z,.inr ⟨Z,Z⟩,.inl Z,trivial⟩))
def jP (n:Nat)(H9:ab)(d_1:ap):Option (ab×ap) :=
 if d_1.Ar=0 then
  (mi n H9).bind λ r2 =>
  if r2=0 then
   some (H9,(ap.mk 0 0 ([]:Bytes)))
  else
   some ((ab.mk 0 0 ([]:Bytes) ([]:Bytes) (ah.mk 0 0 ([]:Bytes) [] []) [] 0),(ap.mk r2 H9.fAt ([]:Bytes)))
 else
  some ((ab.mk 0 0 ([]:Bytes) ([]:Bytes) (ah.mk 0 0 ([]:Bytes) [] []) [] 0),d_1)
theorem pA (n:Nat)(H9:ab)(d_1:ap)(r:ab×ap)(h0:jP n H9 d_1=some r):aB Tryz.prog 20 [.agg (ab.cs H9),.agg (ap.cs d_1)] (·=.tuple [.p (.agg (ab.cs r.1)),.p (.agg (ap.cs r.2))]):=by
 unfold jP at h0;refine bm good Tryz.func20 Z Z Z λ w0=>mP (λ v:ab×ap=>.tuple [.p (.agg (ab.cs v.1)),.p (.agg (ap.cs v.2))]) ?_;refine nx 14 Z (fN [9] h0 Z (λ c1 h0=>?_) λ c1 h0=>?_)
 ·refine nx 6 Z (bd h0 λ r2 e3 h0=>?_);refine oK (vh _ H9 _ e3) Z ⟨sr,trivial⟩ Tryz.call33 Z (nx 7 Z ?_);refine fN [15] h0 Z (λ c4 h0=>?_) λ c4 h0=>?_
  ·exact nx 10 Z (mQ (oi h0) Z (ax ⟨sr,sr,trivial⟩))
  refine nx 2 Z (mG (gE (t:=⟨[(2,.ptr 2 0),(4,.ptr 4 0),(5,.ptr 5 0),(6,.p (eI r2))],[(2,(ab.cs H9).map .p),(4,md),(5,fO)]⟩) Z Z) ?_);refine mSq ⟨2,[5,6],(λ _=>.none),(λ _=>[(2,.ptr 2 0),(4,.ptr 4 0),(5,.ptr 5 0),(6,.p (eI r2))]),(ob3 ([(2,((ab.cs H9).map .p)),(4,md),(5,fO)]) (4,md) (5,[.p (eI r2),.p (eI H9.fAt),.p (eS ([]:Bytes))]))⟩ Z (dPc (.p (.agg nM)) Z ?_);refine dPc (.p (eI r2)) Z (dPc (.ptr 2 10) Z ?_);refine dPc (.p (eI H9.fAt)) Z (dPc (.p (.agg [eI r2,eI H9.fAt,eS ([]:Bytes)])) Z ?_);refine dS Z (dS Z ?_);refine dF (nx 2 Z ?_);exact mQ (oi h0) Z (ax ⟨cR ⟨.inl Z,.inl Z,.inl Z,.inl Z,.inl Z,.inl Z,.inl Z,.inr ⟨Z,Z⟩,.inr ⟨Z,Z⟩,.inr ⟨Z,Z⟩,.inl Z,trivial⟩,sr,trivial⟩)
 refine nx 2 Z (mG (gE (t:=⟨[(3,.ptr 3 0),(4,.ptr 4 0),(5,.ptr 5 0)],[(3,(ap.cs d_1).map .p),(4,md),(5,fO)]⟩) Z Z) ?_);refine mSq ⟨2,[2,3],(λ _=>.none),(λ _=>[(3,.ptr 3 0),(4,.ptr 4 0),(5,.ptr 5 0)]),(ob3 ([(3,((ap.cs d_1).map .p)),(4,md),(5,fO)]) (4,md) (5,((ap.cs d_1).map .p)))⟩ Z (dPc (.p (.agg nM)) Z ?_);refine dPc (.p (.agg (ap.cs d_1))) Z (dS Z ?_);refine dS Z (dF ?_);exact nx 2 Z (mQ (oi h0) Z (ax ⟨cR ⟨.inl Z,.inl Z,.inl Z,.inl Z,.inl Z,.inl Z,.inl Z,.inr ⟨Z,Z⟩,.inr ⟨Z,Z⟩,.inr ⟨Z,Z⟩,.inl Z,trivial⟩,sr,trivial⟩))
def d7 (H3:al):Option (ap×al) :=
 if 4096 < (H3.C'.length:Int) then
  ck (inR (H3.fat+H3.B')) <|
  some ((ap.mk 3 (H3.fat+H3.B') ([]:Bytes)),(al.mk H3.fs H3.fat H3.fi H3.B' H3.C' H3.BY H3.HS))
 else
  some ((ap.mk 0 0 ([]:Bytes)),(al.mk H3.fs H3.fat H3.fi H3.B' H3.C' H3.BY H3.HS))
theorem kq (H3:al)(r:ap×al)(h0:d7 H3=some r):aV Tryz.prog 136 [.ptr 1000000 0] [(1000000,[.p (eS H3.fs),.p (eI H3.fat),.p (eI H3.fi),.p (eI H3.B'),.p (eS H3.C'),.vec 900000 11 0 (H3.BY.map ai),.p (eB H3.HS)])] (λ x y=>x=.p (.agg (ap.cs r.1))/\y=[(1000000,[.p (eS r.2.fs),.p (eI r.2.fat),.p (eI r.2.fi),.p (eI r.2.B'),.p (eS r.2.C'),.vec 2000000 11 0 (r.2.BY.map ai),.p (eB r.2.HS)])]):=by
 unfold d7 at h0;refine cr good [800000] [1000000] Tryz.func136 Z Z Z Z Z λ w0 F=>mPo (λ v:ap×al=>.p (.agg (ap.cs v.1))) (λ v=>[(1000000,[.p (eS v.2.fs),.p (eI v.2.fat),.p (eI v.2.fi),.p (eI v.2.B'),.p (eS v.2.C'),.vec 2000000 11 0 (v.2.BY.map ai),.p (eB v.2.HS)])]) ?_;refine nx 11 Z (oLs Z ?_);refine nx 2 Z (fD [8] h0 Z (λ c1 h0=>?_) λ c1 h0=>?_)
 ·refine nx 2 Z (cc' h0 λ Ke h0=>?_);refine mG (gE (t:=⟨[(0,.ptr 1000000 0),(2,.ptr 2 0)],[(2,fO),(1000000,[.p (eS H3.fs),.p (eI H3.fat),.p (eI H3.fi),.p (eI H3.B'),.p (eS H3.C'),.vec 900000 11 0 (H3.BY.map ai),.p (eB H3.HS)])]⟩) Z Z) (mSq ⟨1,[10],(λ _=>.none),(λ _=>[(0,.ptr 1000000 0),(2,.ptr 2 0)]),(ob2 ([(2,fO),(1000000,[.p (eS H3.fs),.p (eI H3.fat),.p (eI H3.fi),.p (eI H3.B'),.p (eS H3.C'),.vec 900000 11 0 (H3.BY.map ai),.p (eB H3.HS)])]) (2,[.p (eI 3),.p (eI (H3.fat+H3.B')),.p (eS ([]:Bytes))]))⟩ Z ?_);refine dPc (.ptr 1000000 0) Z (dPc (.ptr 1000000 0) Z ?_);refine dPc (.ptr 1000000 1) Z (dPc (.p (eI H3.fat)) Z ?_);refine dPc (.ptr 1000000 0) Z (dPc (.ptr 1000000 0) Z ?_);refine dPc (.ptr 1000000 3) Z (dPc (.p (eI H3.B')) Z ?_);refine aG (λ _=>.p (eI (H3.fat+H3.B'))) Z Z Z (ip Z Y) (lt1 Z) (aA Z (au [(12,_),(16,_)] ⟨.inr ⟨3,_,Z,Z,Z⟩,.inr ⟨7,_,Z,Z,Z⟩,trivial⟩ (λ sl H2 K hK=>aj Z (dV Z Z Z (H2 _ _ Z) (H2 _ _ Z) Z Ke hK)) aE)) (dPc (.p (.agg [eI 3,eI (H3.fat+H3.B'),eS ([]:Bytes)])) Z ?_);refine dS Z (dF ?_);exact nx 2 Z (mQo (oi h0) (aQ (bB 900000 800000 Z Z Z Z Z) (ay _)) Z Z Z Z (sr) ⟨⟨_,Z,⟨sr,sr,sr,sr,sr,sr,sr,trivial⟩⟩,trivial⟩)
 exact nx 8 Z (mQo (oi h0) (aQ (bB 900000 800000 Z Z Z Z Z) (ay _)) Z Z Z Z (sr) ⟨⟨_,Z,⟨sr,sr,sr,sr,sr,sr,sr,trivial⟩⟩,trivial⟩)
def eA (H3:al):Option al :=
 (
   if H3.B' < H3.fi then
    ck (inR (H3.fat+H3.B')) <|
    (gv (ah.mk 3 0 H3.C' [] []) (H3.fat+H3.B')).bind λ r3 =>
    ck ((H3.BY.length+1)*160<=140737488355328) <|
    some (H3.BY++[r3])
   else
    some H3.BY
  : Option (List ab)).bind λ f6 =>
 some (al.mk H3.fs H3.fat H3.fi H3.B' ([]:Bytes) f6 H3.HS)
theorem kc (H3:al)(r:al)(h0:eA H3=some r):aV Tryz.prog 125 [.ptr 1000000 0] [(1000000,[.p (eS H3.fs),.p (eI H3.fat),.p (eI H3.fi),.p (eI H3.B'),.p (eS H3.C'),.vec 900000 11 0 (H3.BY.map ai),.p (eB H3.HS)])] (λ x y=>x=.tuple []/\y=[(1000000,[.p (eS r.fs),.p (eI r.fat),.p (eI r.fi),.p (eI r.B'),.p (eS r.C'),.vec 2000000 11 0 (r.BY.map ai),.p (eB r.HS)])]):=by
 unfold eA at h0;refine cr good [800000] [1000000] Tryz.func125 Z Z Z Z Z λ w0 F=>mPo (λ v:al=>.tuple []) (λ v=>[(1000000,[.p (eS v.fs),.p (eI v.fat),.p (eI v.fi),.p (eI v.B'),.p (eS v.C'),.vec 2000000 11 0 (v.BY.map ai),.p (eB v.HS)])]) ?_;refine nx 1 Z (bd h0 λ o8 h1 h0=>?_);refine kN o8 (λ v9=>⟨[(0,.ptr 1000000 0)],[(1000000,[.p (eS H3.fs),.p (eI H3.fat),.p (eI H3.fi),.p (eI H3.B'),.p (eS H3.C'),.vec 900000 11 0 (v9.map ai),.p (eB H3.HS)])]⟩) ?_ ?_
 ·exact nx 7 Z (uM (oi h0) (aQ (bB 900000 800000 Z Z Z Z Z) (ay _)) Z Z Z Z (sr) ⟨⟨_,Z,⟨sr,sr,sr,sr,sr,sr,sr,trivial⟩⟩,trivial⟩)
 refine nx 1 Z (mD [(0,.ptr 1000000 0)] Z ⟨Z,trivial⟩ Z ?_);refine dR 9 Z (dE Z ?_);refine nx 1 Z (fD [10] h1 Z (λ c1 h1=>?_) λ c1 h1=>?_)
 ·refine nx 1 Z (cc' h1 λ Ke h1=>?_);refine bd h1 λ r3 e4 h1=>cc' h1 λ Mk h1=>mG (gE (t:=⟨[(0,.ptr 1000000 0)],[(1000000,[.p (eS H3.fs),.p (eI H3.fat),.p (eI H3.fi),.p (eI H3.B'),.p (eS H3.C'),.vec 900000 11 0 (H3.BY.map ai),.p (eB H3.HS)])]⟩) Z Z) (mSP ⟨3,[21,23,26],(by4 (.some λ i=>Nat.beq i 900000||Nat.beq i 32) (.fn (upP 32 11 (.agg (ab.cs r3)))) .none .none),(λ _=>[(0,.ptr 1000000 0)]),(by4 ([(1000000,[.p (eS H3.fs),.p (eI H3.fat),.p (eI H3.fi),.p (eI H3.B'),.p (eS H3.C'),.vec 900000 11 0 (H3.BY.map ai),.p (eB H3.HS)])]) ([(1000000,((al.cs H3).map .p))]) ([(1000000,((al.cs H3).map .p))]) ([(1000000,[.p (eS H3.fs),.p (eI H3.fat),.p (eI H3.fi),.p (eI H3.B'),.p (eS H3.C'),.vec 32 11 0 (H3.BY.map ai++[.agg (ab.cs r3)]),.p (eB H3.HS)]),(1000000,((al.cs H3).map .p))]))⟩ ⟨3,[21,26,23],(by4 (.some λ i=>Nat.beq i 900000||Nat.beq i 32) .none (.fn (upP 32 11 (.agg (ab.cs r3)))) .none),(λ _=>[(0,.ptr 1000000 0)]),(by4 ([(1000000,[.p (eS H3.fs),.p (eI H3.fat),.p (eI H3.fi),.p (eI H3.B'),.p (eS H3.C'),.vec 900000 11 0 (H3.BY.map ai),.p (eB H3.HS)])]) ([(1000000,((al.cs H3).map .p))]) ([(1000000,[.p (eS H3.fs),.p (eI H3.fat),.p (eI H3.fi),.p (eI H3.B'),.p (eS H3.C'),.vecp 32 11 0 (H3.BY.map ai),.p (eB H3.HS)]),(1000000,((al.cs H3).map .p))]) ([(1000000,[.p (eS H3.fs),.p (eI H3.fat),.p (eI H3.fi),.p (eI H3.B'),.p (eS H3.C'),.vec 32 11 0 (H3.BY.map ai++[.agg (ab.cs r3)]),.p (eB H3.HS)]),(1000000,((al.cs H3).map .p))]))⟩ Z Z Z Z Z Z Z ⟨Z,trivial⟩ Z (lt3 ⟨Z,trivial⟩ ⟨Z,trivial⟩ ⟨Z,trivial⟩) (lt3 ⟨Z,trivial⟩ ⟨Z,trivial⟩ ⟨Z,trivial⟩) Z Z Z Z Z ?_);refine dPc (.ptr 1000000 0) Z (dPc (.ptr 1000000 0) Z ?_);refine dPc (.ptr 1000000 5) Z (dP (by4 (.vec 900000 11 0 (H3.BY.map ai)) (.p (eL ai H3.BY)) (.p (eL ai H3.BY)) (.p (eL ai H3.BY))) Z ?_);refine dPc (.ptr 1000000 0) Z (dPc (.ptr 1000000 0) Z ?_);refine dPc (.ptr 1000000 4) Z (dPc (.p (eS H3.C')) Z ?_);refine dPc (.p (.agg [eI 3,eI 0,eS H3.C',.val (.slice none 0 0),.val (.slice none 0 0)])) Z (dPc (.ptr 1000000 0) Z ?_);refine dPc (.ptr 1000000 0) Z (dPc (.ptr 1000000 1) Z ?_);refine dPc (.p (eI H3.fat)) Z (dPc (.ptr 1000000 0) Z ?_);refine dPc (.ptr 1000000 0) Z (dPc (.ptr 1000000 3) Z ?_);refine dPc (.p (eI H3.B')) Z (aG (λ _=>.p (eI (H3.fat+H3.B'))) Z Z Z (mY Z Z Z Y) (lt3 Z Z Z) (aA Z (aA Z (aA Z (au [(23,_),(27,_)] ⟨.inr ⟨12,_,Z,Z,Z⟩,.inr ⟨16,_,Z,Z,Z⟩,trivial⟩ (λ sl H2 K hK=>aj Z (dV Z Z Z (H2 _ _ Z) (H2 _ _ Z) Z Ke hK)) aE)))) ?_);refine aG (λ _=>.p (.agg (ab.cs r3))) Z Z Z (mY Z Z Z Y) (lt3 Z Z Z) (aA Z (aA Z (aA Z (au [(19,_),(28,_)] ⟨.inr ⟨8,_,Z,Z,Z⟩,.inr ⟨17,_,Z,Z,Z⟩,trivial⟩ (λ sl H2 K hK=>aj Z (fj (fg (ah.mk 3 0 H3.C' [] []) (H3.fat+H3.B') _ e4) Z Z Z (bo (H2 _ _ Z) (bo (H2 _ _ Z) cX)) ⟨cR ⟨.inl Z,.inl Z,.inl Z,.inr ⟨Z,Z⟩,.inr ⟨Z,Z⟩,trivial⟩,sr,trivial⟩ Tryz.call105 Z hK)) aE)))) (aG (λ _=>.p (eI (H3.BY.length:Int))) Z Z Z (mY Z Z Z Y) (lt3 Z Z Z) (aA Z (aA Z (aA Z (au [(14,_)] ⟨.inr ⟨3,_,Z,Z,Z⟩,trivial⟩ (λ sl H2 K hK=>aj Z (kP (f:=ai) (l:=H3.BY) Z Z Z Z Z (H2 _ _ Z) Z hK)) aE)))) ?_);refine aG (λ _=>.p (eL (λ x:PV=>x) [.agg nM])) Z Z Z (mY Z Z Z Y) (lt3 Z Z Z) (aA Z (aA Z (aA Z (au [] trivial (λ sl H2 K hK=>aj Z (bF (λ x:PV=>x) [.agg nM] Z Z Z Z Z Z (eq Z Z fK) Z Z Z Z Z Z Z hK)) aE)))) (eM (by4 (.vecp 32 11 0 (H3.BY.map ai)) (.vecp 32 11 0 (H3.BY.map ai)) (.vec 32 11 0 (H3.BY.map ai++[.agg (ab.cs r3)])) (.vec 32 11 0 (H3.BY.map ai++[.agg (ab.cs r3)]))) [(14,_),(31,_)] Z ⟨.inr ⟨3,_,Z,Z,Z⟩,.inr ⟨20,_,Z,Z,Z⟩,trivial⟩ Z Z (gx Z Z Y) (lt3 (λ h=>absurd h (by decide)) Y Y) (λ sl H2 K hK=>aj Z (qG ai H3.BY Z Z Z Z Z Z Z Z (H2 _ _ Z) Z Z (H2 _ _ Z) Z Z Z Z Z Mk hK)) ?_);refine pF (by4 (.elp 32 11) (.elp 32 11) .undef .undef) Z Z Z (mY Z Z Z Y) (lt3 (nl Z) Y Y) (aA Z (aA Z (au [(30,_),(32,_)] ⟨.inr ⟨19,_,Z,Z,Z⟩,.inr ⟨21,_,Z,Z,Z⟩,trivial⟩ (λ sl H2 K hK=>aj Z (p7 Z Z Z Z Z Z Z (H2 _ _ Z) (H2 _ _ Z) (by rw [n7]) hK)) (aA Z aE)))) (iR [(29,_),(33,_)] Z ⟨.inr ⟨18,_,Z,Z,Z⟩,.inr ⟨22,_,Z,Z,Z⟩,trivial⟩ Z (λ sl H2 K hK=>aj Z (wO (z:=.agg (ab.cs r3)) Z Z Z Z (H2 _ _ Z) (H2 _ _ Z) Z Z Z Z Z hK)) ?_);refine dPc (.ptr 1000000 0) Z (dPc (.ptr 1000000 5) Z ?_);refine dS Z (yZ (dPc (.ptr 1000000 0) Z (dPc (.ptr 1000000 0) Z (dPc (.ptr 1000000 5) Z (dP (by4 (.vec 900000 11 0 (H3.BY.map ai)) (.p (eL ai H3.BY)) (.p (eL ai H3.BY)) (.p (eL ai H3.BY))) Z (dPc (.ptr 1000000 0) Z (dPc (.ptr 1000000 0) Z (dPc (.ptr 1000000 4) Z (dPc (.p (eS H3.C')) Z (dPc (.p (.agg [eI 3,eI 0,eS H3.C',.val (.slice none 0 0),.val (.slice none 0 0)])) Z (dPc (.ptr 1000000 0) Z (dPc (.ptr 1000000 0) Z (dPc (.ptr 1000000 1) Z (dPc (.p (eI H3.fat)) Z (dPc (.ptr 1000000 0) Z (dPc (.ptr 1000000 0) Z (dPc (.ptr 1000000 3) Z (dPc (.p (eI H3.B')) Z (aG (λ _=>.p (eI (H3.fat+H3.B'))) Z Z Z (mY Z Z Z Y) (lt3 Z Z Z) (aA Z (aA Z (aA Z (au [(23,_),(27,_)] ⟨.inr ⟨12,_,Z,Z,Z⟩,.inr ⟨16,_,Z,Z,Z⟩,trivial⟩ (λ sl H2 K hK=>aj Z (dV Z Z Z (H2 _ _ Z) (H2 _ _ Z) Z Ke hK)) aE)))) (aG (λ _=>.p (.agg (ab.cs r3))) Z Z Z (mY Z Z Z Y) (lt3 Z Z Z) (aA Z (aA Z (aA Z (au [(19,_),(28,_)] ⟨.inr ⟨8,_,Z,Z,Z⟩,.inr ⟨17,_,Z,Z,Z⟩,trivial⟩ (λ sl H2 K hK=>aj Z (fj (fg (ah.mk 3 0 H3.C' [] []) (H3.fat+H3.B') _ e4) Z Z Z (bo (H2 _ _ Z) (bo (H2 _ _ Z) cX)) ⟨cR ⟨.inl Z,.inl Z,.inl Z,.inr ⟨Z,Z⟩,.inr ⟨Z,Z⟩,trivial⟩,sr,trivial⟩ Tryz.call105 Z hK)) aE)))) (aG (λ _=>.p (eI (H3.BY.length:Int))) Z Z Z (mY Z Z Z Y) (lt3 Z Z Z) (aA Z (aA Z (aA Z (au [(14,_)] ⟨.inr ⟨3,_,Z,Z,Z⟩,trivial⟩ (λ sl H2 K hK=>aj Z (kP (f:=ai) (l:=H3.BY) Z Z Z Z Z (H2 _ _ Z) Z hK)) aE)))) (aG (λ _=>.p (eL (λ x:PV=>x) [.agg nM])) Z Z Z (mY Z Z Z Y) (lt3 Z Z Z) (aA Z (aA Z (aA Z (au [] trivial (λ sl H2 K hK=>aj Z (bF (λ x:PV=>x) [.agg nM] Z Z Z Z Z Z (eq Z Z fK) Z Z Z Z Z Z Z hK)) aE)))) (eM (by4 (.vecp 32 11 0 (H3.BY.map ai)) (.vecp 32 11 0 (H3.BY.map ai)) (.vecp 32 11 0 (H3.BY.map ai)) (.vec 32 11 0 (H3.BY.map ai++[.agg (ab.cs r3)]))) [(14,_),(31,_)] Z ⟨.inr ⟨3,_,Z,Z,Z⟩,.inr ⟨20,_,Z,Z,Z⟩,trivial⟩ Z Z (gx Z Z Y) (lt3 (λ h=>absurd h (by decide)) Y Y) (λ sl H2 K hK=>aj Z (qG ai H3.BY Z Z Z Z Z Z Z Z (H2 _ _ Z) Z Z (H2 _ _ Z) Z Z Z Z Z Mk hK)) (pF (by4 (.elp 32 11) (.elp 32 11) (.elp 32 11) .undef) Z Z Z (mY Z Z Z Y) (lt3 (nl Z) Y Y) (aA Z (au [(30,_),(32,_)] ⟨.inr ⟨19,_,Z,Z,Z⟩,.inr ⟨21,_,Z,Z,Z⟩,trivial⟩ (λ sl H2 K hK=>aj Z (p7 Z Z Z Z Z Z Z (H2 _ _ Z) (H2 _ _ Z) (by rw [n7]) hK)) (au [(30,_),(32,_)] ⟨.inr ⟨19,_,Z,Z,Z⟩,.inr ⟨21,_,Z,Z,Z⟩,trivial⟩ (λ sl H2 K hK=>aj Z (p7 Z Z Z Z Z Z Z (H2 _ _ Z) (H2 _ _ Z) (by rw [n7]) hK)) (aA Z aE)))) (iR [(29,_),(33,_)] Z ⟨.inr ⟨18,_,Z,Z,Z⟩,.inr ⟨22,_,Z,Z,Z⟩,trivial⟩ Z (λ sl H2 K hK=>aj Z (wO (z:=.agg (ab.cs r3)) Z Z Z Z (H2 _ _ Z) (H2 _ _ Z) Z Z Z Z Z hK)) (dPc (.ptr 1000000 0) Z (dPc (.ptr 1000000 5) Z (dS Z (zN Z ⟨Z,Z,trivial⟩ ⟨⟨Z,Z,.inr Z⟩,⟨⟨Z,Z,.inr Z⟩,⟨⟨Z,Z,.inr Z⟩,⟨⟨Z,Z,.inr Z⟩,⟨⟨Z,Z,.inr Z⟩,⟨⟨Z,Z,.inr Z⟩,⟨⟨Z,Z,.inr Z⟩,⟨⟨Z,Z,.inr Z⟩,⟨⟨Z,Z,.inr Z⟩,⟨⟨Z,Z,.inr Z⟩,⟨⟨Z,Z,.inr Z⟩,⟨⟨Z,Z,.inr Z⟩,⟨⟨Z,Z,.inr Z⟩,⟨⟨Z,Z,.inr Z⟩,⟨⟨Z,Z,.inr Z⟩,⟨⟨Z,Z,.inr Z⟩,⟨⟨Z,Z,.inr Z⟩,⟨⟨Z,Z,.inr Z⟩,⟨⟨Z,Z,.inr Z⟩,⟨⟨Z,Z,.inr Z⟩,⟨⟨Z,Z,.inr Z⟩,⟨⟨Z,Z,.inr Z⟩,⟨⟨Z,Z,.inr Z⟩,⟨⟨Z,Z,.inr Z⟩,⟨⟨Z,Z,.inr Z⟩,trivial⟩⟩⟩⟩⟩⟩⟩⟩⟩⟩⟩⟩⟩⟩⟩⟩⟩⟩⟩⟩⟩⟩⟩⟩⟩)))))))))))))))))))))))))))) ?_);refine mG (cK (t:=⟨[(0,.ptr 1000000 0)],[(1000000,[.p (eS H3.fs),.p (eI H3.fat),.p (eI H3.fi),.p (eI H3.B'),.p (eS H3.C'),.vec 32 11 0 ((H3.BY++[r3]).map ai),.p (eB H3.HS)])]⟩) (iF ⟨er Z,trivial⟩ ⟨⟨_,Z,⟨sr,sr,sr,sr,sr,AV.sub_of_eq (by first | (simp only [List.map_append,bx,ld,ab.HR]; done) | (simp only [List.map_append,bx,ld,ab.HR]; rfl)),sr,trivial⟩⟩,trivial⟩)) (nx 1 Z ?_);exact eX _ (oi h1).symm (aQ (bB 32 900000 Z Z Z Z Z) (gE Z Z))
 exact nx 2 Z (eX _ (oi h1).symm (gE Z Z))
def dX (JE:Bytes->Int->Option Int)(H1:Bytes):Nat->Int->Int->Option (Unit⊕Int)
 | 0,_,_=>none
 | m+1,i18,depth19 =>
 if i18 < (H1.length:Int) then
  ck ((0:Int)<=i18/\i18 < (H1.length:Int)) <|
  jn (
    if byt H1 i18=123 then
     ck (inR (depth19+1)) <|
     some (.inl (i18,depth19+1))
    else
     if byt H1 i18=125 then
      ck (inR (depth19 - 1)) <|
      if depth19 - 1=0 then
       some (.inr (.inr i18))
      else
       some (.inl (i18,depth19 - 1))
     else
      if byt H1 i18=34 then
       ck (inR (i18+1)) <|
       (JE H1 (i18+1)).bind λ KW =>
       if KW < 0 then
        some (.inr (.inr (-1)))
       else
        some (.inl (KW,depth19))
      else
       some (.inl (i18,depth19))
   : Option ((Int×Int)⊕(Unit⊕Int))) λ q38 =>
  ck (inR (q38.1+1)) <|
  dX JE H1 m (q38.1+1) q38.2
 else
  some (.inl ())
def ey (Jr:Bytes->Int->Option Int)(H1:Bytes):Nat->Int->Option (Unit⊕Int)
 | 0,_=>none
 | m+1,i23 =>
 if i23 < (H1.length:Int) then
  jn (
    ck ((0:Int)<=i23/\i23 < (H1.length:Int)) <|
    if byt H1 i23=34 then
     some (.inr (.inr i23))
    else
     ck ((0:Int)<=i23/\i23 < (H1.length:Int)) <|
     if byt H1 i23=92 then
      ck (inR (i23+1)) <|
      some (.inl (i23+1))
     else
      ck ((0:Int)<=i23/\i23<=(H1.length:Int)/\(H1.length:Int)<=(H1.length:Int)) <|
      (strings_HasPrefix (sub H1 i23 (H1.length:Int)) ([36,36,123]:Bytes)).bind λ Ov =>
      if Ov=true then
       ck (inR (i23+2)) <|
       some (.inl (i23+2))
      else
       ck ((0:Int)<=i23/\i23<=(H1.length:Int)/\(H1.length:Int)<=(H1.length:Int)) <|
       (strings_HasPrefix (sub H1 i23 (H1.length:Int)) ([36,123]:Bytes)).bind λ r36 =>
       if r36=true then
        ck (inR (i23+2)) <|
        (Jr H1 (i23+2)).bind λ Lv =>
        if Lv < 0 then
         some (.inr (.inr (-1)))
        else
         some (.inl Lv)
       else
        some (.inl i23)
   : Option (Int⊕(Unit⊕Int))) λ i43 =>
  ck (inR (i43+1)) <|
  ey Jr H1 m (i43+1)
 else
  some (.inl ())
mutual
def d4:Nat->Bytes->Int->Option Int
 | 0,_,_=>none
 | n+1,H1,Ie =>
 jn (dX (fx n) H1 n Ie 1) λ _MY =>
 some (-1)
def fx:Nat->Bytes->Int->Option Int
 | 0,_,_=>none
 | n+1,H1,Ie =>
 jn (ey (d4 n) H1 n Ie) λ _MH =>
 some (-1)
end
theorem rH (n:Nat):(∀ (H1:Bytes) (Ie:Int) (r:Int),d4 n H1 Ie=some r->aB Tryz.prog 145 [eS H1,eI Ie] (·=.p (eI r)))/\(∀ (H1:Bytes) (Ie:Int) (r:Int),fx n H1 Ie=some r->aB Tryz.prog 148 [eS H1,eI Ie] (·=.p (eI r))):=by
 induction n with
 | zero=>exact ⟨(by intro H1 Ie r h0; cases h0),(by intro H1 Ie r h0; cases h0)⟩
 | succ n ih =>
 obtain ⟨JK,JS⟩:=ih;refine ⟨?_,?_⟩
 ·skip
  intro H1 Ie r h0;rw [d4] at h0;refine bm good Tryz.func145 Z Z Z λ w0=>mP (λ v:Int=>.p (eI v)) ?_;refine nx 10 rfl ?_;obtain ⟨o39,h1,IS,hR0⟩:=db h0;refine kEx 0 (λ Oj:Unit=>o39=.inl Oj) (λ Oj=>⟨[],[]⟩) (λ Oj hv=>?_) ?_
  ·have h0:=IS _ hv;exact nx 6 Z (mQ (oi h0) Z (sr))
  refine lG (λ (OA:Int×Int)=>⟨[(0,.p (eS H1)),(1,.p (eI OA.1)),(5,.p (eI OA.2))],[]⟩) (λ m (OA:Int×Int)=>dX (fx n) H1 m OA.1 OA.2) Y (Ie,1) h1 (gE rfl rfl) ?_;rintro m ⟨i18,depth19⟩ h1;replace h1:dX (fx n) H1 (m+1) i18 depth19=some o39:=h1;rw [dX] at h1;refine nx 5 rfl (oLs rfl ?_);refine nx 2 rfl (fD [9] h1 rfl (λ c20 h1=>?_) λ c20 h1=>?_)
  ·refine nx 8 rfl (oI h1 rfl λ Km h1=>?_);refine nx 1 rfl ?_;obtain ⟨Lj,h2,hL1,hR1⟩:=db h1;refine kX (λ KR:Int×Int=>Lj=.inl KR) (λ KR=>⟨[(0,.p (eS H1)),(1,.p (eI KR.1)),(5,.p (eI KR.2))],[]⟩) (λ KR hv=>?_) ?_
   ·have h1:=hL1 _ hv;refine nx 3 Z (oA h1 Z Z λ Ly h1=>?_);exact nx 2 Z (eX (KR.1+1,KR.2) h1 (gE Z Z))
   refine nx 6 Z (fD [15,16] h2 Z (λ Mz h2=>?_) λ Mz h2=>?_)
   ·refine nx 3 Z (oA h2 Z Z λ LA h2=>?_);exact nx 2 Z (eX _ (oi h2).symm (gE Z Z))
   refine nx 6 Z (fD [19,20] h2 Z (λ My h2=>?_) λ My h2=>?_)
   ·refine nx 4 Z (oA h2 Z Z λ KH h2=>?_);refine nx 7 Z (fD [24] h2 Z (λ Mx h2=>?_) λ Mx h2=>?_)
    ·exact nx 7 Z (mQ (hR0 _ (hR1 _ (oi h2).symm).symm) Z (sr))
    exact nx 2 Z (eX _ (oi h2).symm (gE Z Z))
   refine nx 6 Z (fD [26,27] h2 Z (λ K8 h2=>?_) λ K8 h2=>?_)
   ·refine nx 5 Z (oA h2 Z Z λ M' h2=>?_);refine bd h2 λ KW NV h2=>oK (JS H1 (i18+1) _ NV) Z ⟨sr,sr,trivial⟩ Tryz.call148 Z (nx 7 Z ?_);refine fD [33] h2 Z (λ Jk h2=>?_) λ Jk h2=>?_
    ·exact nx 6 Z (mQ (hR0 _ (hR1 _ (oi h2).symm).symm) Z (sr))
    exact nx 2 Z (eX _ (oi h2).symm (gE Z Z))
   exact nx 2 Z (eX _ (oi h2).symm (gE Z Z))
  exact nx 2 Z (eXi _ (oi h1).symm (gE Z Z))
 ·skip
  intro H1 Ie r h0;rw [fx] at h0;refine bm good Tryz.func148 Z Z Z λ w0=>mP (λ v:Int=>.p (eI v)) ?_;refine nx 6 rfl ?_;obtain ⟨N6,h1,IS,hR0⟩:=db h0;refine kEx 0 (λ L0:Unit=>N6=.inl L0) (λ L0=>⟨[],[]⟩) (λ L0 hv=>?_) ?_
  ·have h0:=IS _ hv;exact nx 6 Z (mQ (oi h0) Z (sr))
  refine lG (λ (q50:Int)=>⟨[(0,.p (eS H1)),(1,.p (eI q50))],[]⟩) (λ m (q50:Int)=>ey (d4 n) H1 m q50) Y Ie h1 (gE rfl rfl) ?_;rintro m i23 h1;replace h1:ey (d4 n) H1 (m+1) i23=some N6:=h1;rw [ey] at h1;refine nx 5 rfl (oLs rfl ?_);refine nx 2 rfl (fD [8] h1 rfl (λ My h1=>?_) λ My h1=>?_)
  ·refine nx 4 rfl ?_;obtain ⟨o51,h2,hL1,hR1⟩:=db h1;refine kX (λ Od:Int=>o51=.inl Od) (λ Od=>⟨[(0,.p (eS H1)),(1,.p (eI Od))],[]⟩) (λ Od hv=>?_) ?_
   ·have h1:=hL1 _ hv;refine nx 3 Z (oA h1 Z Z λ hk44 h1=>?_);exact nx 2 Z (eX (Od+1) h1 (gE Z Z))
   refine nx 5 Z (oI h2 Z λ KH h2=>?_);refine nx 3 Z (fD [11,15] h2 Z (λ Mx h2=>?_) λ Mx h2=>?_)
   ·exact nx 7 Z (mQ (hR0 _ (hR1 _ (oi h2).symm).symm) Z (sr))
   refine nx 5 Z (oI h2 Z λ Lk h2=>?_);refine nx 3 Z (fD [17,21] h2 Z (λ Mw h2=>?_) λ Mw h2=>?_)
   ·refine nx 3 Z (oA h2 Z Z λ M9 h2=>?_);exact nx 2 Z (eX _ (oi h2).symm (gE Z Z))
   refine nx 5 Z (oP h2 Z Z Z λ Mn h2=>?_);refine bd h2 λ Ov Ob h2=>oK (cV (sub H1 i23 (H1.length:Int)) ([36,36,123]:Bytes) _ Ob) Z ⟨sr,sr,trivial⟩ Tryz.call76 Z (nx 2 Z ?_);refine fB [24,28] h2 Z (λ N0 h2=>?_) λ N0 h2=>?_
   ·refine nx 3 Z (oA h2 Z Z λ Ly h2=>?_);exact nx 2 Z (eX _ (oi h2).symm (gE Z Z))
   refine nx 5 Z (oP h2 Z Z Z λ Mm h2=>?_);refine bd h2 λ r36 e37 h2=>oK (cV (sub H1 i23 (H1.length:Int)) ([36,123]:Bytes) _ e37) Z ⟨sr,sr,trivial⟩ Tryz.call76 Z (nx 2 Z ?_);refine fB [31,35] h2 Z (λ Pf h2=>?_) λ Pf h2=>?_
   ·refine nx 5 Z (oA h2 Z Z λ M6 h2=>?_);refine bd h2 λ Lv e41 h2=>oK (JK H1 (i23+2) _ e41) Z ⟨sr,sr,trivial⟩ Tryz.call145 Z (nx 2 Z ?_);refine mG (gE (t:=⟨[(0,.p (eS H1)),(1,.p (eI Lv))],[]⟩) Z Z) (nx 5 Z ?_);refine fD [41] h2 Z (λ Pb h2=>?_) λ Pb h2=>?_
    ·exact nx 6 Z (mQ (hR0 _ (hR1 _ (oi h2).symm).symm) Z (sr))
    exact nx 2 Z (eX _ (oi h2).symm (gE Z Z))
   exact nx 2 Z (eX _ (oi h2).symm (gE Z Z))
  exact nx 2 Z (eXi _ (oi h1).symm (gE Z Z))
theorem sR (n:Nat):∀ (H1:Bytes) (Ie:Int) (r:Int),d4 n H1 Ie=some r->aB Tryz.prog 145 [eS H1,eI Ie] (·=.p (eI r)):=(rH n).1
def cE (H1:Bytes):Nat->Int->Option Int
 | 0,_=>none
 | m+1,n10 =>
 (
   if n10 < (H1.length:Int) then
    if n10 < 6 then
     ck ((0:Int)<=n10/\n10 < (H1.length:Int)) <|
     (strings_IndexByte ([48,49,50,51,52,53,54,55,56,57,97,98,99,100,101,102]:Bytes) (byt H1 n10)).bind λ Lb =>
     some (decide (0<=Lb))
    else
     some false
   else
    some false
  : Option Bool).bind λ I5 =>
 if I5=true then
  ck (inR (n10+1)) <|
  cE H1 m (n10+1)
 else
  some n10
def gX (n:Nat)(H1:Bytes):Option Int :=
 (cE H1 n 0).bind λ n20 =>
 some n20
theorem qb (n:Nat)(H1:Bytes)(r:Int)(h0:gX n H1=some r):aB Tryz.prog 149 [eS H1] (·=.p (eI r)):=by
 unfold gX at h0;refine bm good Tryz.func149 Z Z Z λ w0=>mP (λ v:Int=>.p (eI v)) ?_;refine nx 10 Z (bd h0 λ IV h1 h0=>?_);refine kE 0 IV (λ Ji=>⟨[(3,.p (eI Ji))],[]⟩) ?_ ?_
 ·exact nx 7 Z (mQ (oi h0) Z (sr))
 refine lG (λ (q25:Int)=>⟨[(0,.p (eS H1)),(3,.p (eI q25))],[]⟩) (λ m (q25:Int)=>cE H1 m q25) Y 0 h1 (gE rfl rfl) ?_;rintro m n10 h1;replace h1:cE H1 (m+1) n10=some IV:=h1;rw [cE] at h1;refine nx 2 rfl (bd h1 λ o26 h2 h1=>?_);refine kN o26 (λ v27=>⟨[(0,.p (eS H1)),(3,.p (eI n10)),(18,.p (eB v27))],[]⟩) ?_ ?_
 ·refine nx 1 Z (fB [18] h1 Z (λ IA h1=>?_) λ IA h1=>?_)
  ·refine nx 5 Z (oA h1 Z Z λ KI h1=>?_);exact nx 2 Z (eX (n10+1) h1 (gE Z Z))
  exact nx 2 Z (eXi _ (oi h1).symm (gE Z Z))
 refine nx 3 Z (oLs Z ?_);refine nx 2 Z (fD [7,8] h2 Z (λ Ka h2=>?_) λ Ka h2=>?_)
 ·refine nx 4 Z (fD [10,11,12] h2 Z (λ KP h2=>?_) λ KP h2=>?_)
  ·refine nx 2 Z (oI h2 Z λ K3 h2=>?_);refine bd h2 λ Lb Ms h2=>oK (gq ([48,49,50,51,52,53,54,55,56,57,97,98,99,100,101,102]:Bytes) (byt H1 n10) _ Ms) Z ⟨sr,sr,trivial⟩ Tryz.call57 Z (nx 3 Z ?_);exact eX _ (oi h2).symm (gE Z Z)
  exact nx 7 Z (eX _ (oi h2).symm (gE Z Z))
 exact nx 11 Z (eX _ (oi h2).symm (gE Z Z))
def lA (n:Nat)(H1:Bytes):Option (Bytes×Int×Int) :=
 jn (
   (strings_HasPrefix H1 ([92,117]:Bytes)).bind λ r1 =>
   if r1=true then
    (
      if 2 < (H1.length:Int) then
       ck ((0:Int)<=2/\2 < (H1.length:Int)) <|
       some (!decide (byt H1 2=123))
      else
       some false
     : Option Bool).bind λ t6 =>
    if t6=true then
     some (.inr (([]:Bytes),0,2))
    else
     if 3 < (H1.length:Int) then
      ck ((0:Int)<=3/\3<=(H1.length:Int)/\(H1.length:Int)<=(H1.length:Int)) <|
      (gX n (sub H1 3 (H1.length:Int))).bind λ Iu =>
      ck (inR (4+Iu)) <|
      some (.inl (4+Iu))
     else
      some (.inl 4)
   else
    some (.inl 2)
  : Option (Int⊕(Bytes×Int×Int))) λ n13 =>
 if (H1.length:Int) < n13 then
  some (([]:Bytes),0,40)
 else
  ck ((0:Int)<=0/\0<=n13/\n13<=(H1.length:Int)) <|
  ck (([34]:Bytes).length+(sub H1 0 n13).length<=9223372036854775807) <|
  ck ((([34]:Bytes)++(sub H1 0 n13)).length+([34]:Bytes).length<=9223372036854775807) <|
  (gW n ((([34]:Bytes)++(sub H1 0 n13))++([34]:Bytes))).bind λ Jw =>
  if Jw.2.2=0 then
   some (Jw.1,n13,0)
  else
   some (([]:Bytes),0,2)
theorem tY (n:Nat)(H1:Bytes)(r:Bytes×Int×Int)(h0:lA n H1=some r):aB Tryz.prog 146 [eS H1] (·=.tuple [.p (eS r.1),.p (eI r.2.1),.p (eI r.2.2)]):=by
 unfold lA at h0;refine bm good Tryz.func146 Z Z Z λ w0=>mP (λ v:Bytes×Int×Int=>.tuple [.p (eS v.1),.p (eI v.2.1),.p (eI v.2.2)]) ?_;refine nx 11 rfl ?_;obtain ⟨IV,h1,IS,hR0⟩:=db h0;refine kX (λ Ji:Int=>IV=.inl Ji) (λ Ji=>⟨[(0,.p (eS H1)),(5,.p (eI Ji))],[]⟩) (λ Ji hv=>?_) ?_
 ·have h0:=IS _ hv;refine nx 6 Z (oLs Z ?_);refine nx 2 Z (fD [29] h0 Z (λ KO h0=>?_) λ KO h0=>?_)
  ·exact nx 8 Z (mQ (oi h0) Z (ax ⟨sr,sr,sr,trivial⟩))
  refine nx 6 Z (oP h0 Z Z Z λ Ko h0=>?_);refine oC h0 Z λ K0 h0=>oC h0 Z λ Na h0=>bd h0 λ Jw Mr h0=>oK (re _ ((([34]:Bytes)++(sub H1 0 Ji))++([34]:Bytes)) _ Mr) Z ⟨sr,trivial⟩ Tryz.call150 Z (nx 14 Z ?_);refine fN [41] h0 Z (λ c20 h0=>?_) λ c20 h0=>?_
  ·exact nx 11 Z (mQ (oi h0) Z (ax ⟨sr,sr,sr,trivial⟩))
  exact nx 8 Z (mQ (oi h0) Z (ax ⟨sr,sr,sr,trivial⟩))
 refine nx 3 Z (bd h1 λ r1 e2 h1=>?_);refine oK (cV H1 ([92,117]:Bytes) _ e2) Z ⟨sr,sr,trivial⟩ Tryz.call76 Z (nx 1 Z ?_);refine fB [10] h1 Z (λ c3 h1=>?_) λ c3 h1=>?_
 ·refine nx 3 Z (bd h1 λ Lw h2 h1=>?_);refine kN Lw (λ Ls=>⟨[(0,.p (eS H1)),(18,.p (eB Ls))],[]⟩) ?_ ?_
  ·refine nx 1 Z (fB [18] h1 Z (λ c7 h1=>?_) λ c7 h1=>?_)
   ·exact nx 8 Z (mQ (hR0 _ (oi h1).symm) Z (ax ⟨sr,sr,sr,trivial⟩))
   refine nx 9 Z (oLs Z ?_);refine nx 2 Z (fD [21] h1 Z (λ c8 h1=>?_) λ c8 h1=>?_)
   ·refine nx 3 Z (oP h1 Z Z Z λ Lq h1=>?_);refine bd h1 λ Iu JM h1=>oK (qb _ (sub H1 3 (H1.length:Int)) _ JM) Z ⟨sr,trivial⟩ Tryz.call149 Z (oA h1 Z Z λ KA h1=>?_);exact nx 2 Z (eX _ (oi h1).symm (gE Z Z))
   exact nx 4 Z (eX _ (oi h1).symm (gE Z Z))
  refine nx 2 Z (oLs Z ?_);refine nx 2 Z (fD [13,14] h2 Z (λ c4 h2=>?_) λ c4 h2=>?_)
  ·refine nx 1 Z (oI h2 Z λ Mk h2=>?_);exact nx 3 Z (eX _ (oi h2).symm (gE Z Z))
  exact nx 5 Z (eX _ (oi h2).symm (gE Z Z))
 exact nx 2 Z (eX _ (oi h1).symm (gE Z Z))
def fV (n:Nat)(H3:al):Option (ap×al) :=
 ck ((0:Int)<=H3.fi/\H3.fi<=(H3.fs.length:Int)/\(H3.fs.length:Int)<=(H3.fs.length:Int)) <|
 jn (
   ck ((0:Int)<=0/\0 < ((sub H3.fs H3.fi (H3.fs.length:Int)).length:Int)) <|
   if byt (sub H3.fs H3.fi (H3.fs.length:Int)) 0=92 then
    (lA n (sub H3.fs H3.fi (H3.fs.length:Int))).bind λ r4 =>
    if r4.2.2=0 then
     ck (H3.C'.length+r4.1.length<=9223372036854775807) <|
     ck (inR (H3.fi+r4.2.1)) <|
     some (.inl (H3.fi+r4.2.1,H3.C'++r4.1))
    else
     ck (inR (H3.fat+H3.fi)) <|
     some (.inr ((ap.mk r4.2.2 (H3.fat+H3.fi) ([]:Bytes)),(al.mk H3.fs H3.fat H3.fi H3.B' H3.C' H3.BY H3.HS)))
   else
    (bg (sub H3.fs H3.fi (H3.fs.length:Int))).bind λ Iu =>
    (
      if Iu.1=65533 then
       if Iu.2=1 then
        some true
       else
        if Iu.1 < 32 then
         some true
        else
         if Iu.1=127 then
          some true
         else
          some (decide (Iu.1=34))
      else
       if Iu.1 < 32 then
        some true
       else
        if Iu.1=127 then
         some true
        else
         some (decide (Iu.1=34))
     : Option Bool).bind λ t18 =>
    if t18=true then
     ck (inR (H3.fat+H3.fi)) <|
     some (.inr ((ap.mk 2 (H3.fat+H3.fi) ([]:Bytes)),(al.mk H3.fs H3.fat H3.fi H3.B' H3.C' H3.BY H3.HS)))
    else
     ck ((0:Int)<=0/\0<=Iu.2/\Iu.2<=((sub H3.fs H3.fi (H3.fs.length:Int)).length:Int)) <|
     ck (H3.C'.length+(sub (sub H3.fs H3.fi (H3.fs.length:Int)) 0 Iu.2).length<=9223372036854775807) <|
     ck (inR (H3.fi+Iu.2)) <|
     some (.inl (H3.fi+Iu.2,H3.C'++(sub (sub H3.fs H3.fi (H3.fs.length:Int)) 0 Iu.2)))
  : Option ((Int×Bytes)⊕(ap×al))) λ N3 =>
 (d7 (al.mk H3.fs H3.fat N3.1 H3.B' N3.2 H3.BY H3.HS)).bind λ JF =>
 some (JF.1,(al.mk JF.2.fs JF.2.fat JF.2.fi JF.2.B' JF.2.C' JF.2.BY JF.2.HS))
theorem oZ (n:Nat)(H3:al)(r:ap×al)(h0:fV n H3=some r):aV Tryz.prog 138 [.ptr 1000000 0] [(1000000,[.p (eS H3.fs),.p (eI H3.fat),.p (eI H3.fi),.p (eI H3.B'),.p (eS H3.C'),.vec 900000 11 0 (H3.BY.map ai),.p (eB H3.HS)])] (λ x y=>x=.p (.agg (ap.cs r.1))/\y=[(1000000,[.p (eS r.2.fs),.p (eI r.2.fat),.p (eI r.2.fi),.p (eI r.2.B'),.p (eS r.2.C'),.vec 2000000 11 0 (r.2.BY.map ai),.p (eB r.2.HS)])]):=by
 unfold fV at h0;refine cr good [800000] [1000000] Tryz.func138 Z Z Z Z Z λ w0 F=>mPo (λ v:ap×al=>.p (.agg (ap.cs v.1))) (λ v=>[(1000000,[.p (eS v.2.fs),.p (eI v.2.fat),.p (eI v.2.fi),.p (eI v.2.B'),.p (eS v.2.C'),.vec 2000000 11 0 (v.2.BY.map ai),.p (eB v.2.HS)])]) ?_;refine nx 5 rfl (cc' h0 λ MK h0=>?_);refine mD [(0,.ptr 1000000 0),(2,.ptr 2 0)] rfl ⟨rfl,rfl,trivial⟩ rfl (dR 8 rfl ?_);refine dq (.p (eS (sub H3.fs H3.fi (H3.fs.length:Int)))) [12,16] rfl (λ _ e _ q=>aj rfl (dQ (a:=H3.fs) (l:=H3.fi) (h:=(H3.fs.length:Int)) Z Z Z Z Z (e _ _ rfl) (gG (e _ _ rfl)) rfl MK q)) rfl (dR 1 rfl ?_);refine dE rfl (nx 2 rfl ?_);obtain ⟨OI,h1,IS,hR0⟩:=db h0;refine kX (λ L2:Int×Bytes=>OI=.inl L2) (λ L2=>⟨[(0,.ptr 1000000 0),(2,.ptr 2 0)],[(2,fO),(1000000,[.p (eS H3.fs),.p (eI H3.fat),.p (eI L2.1),.p (eI H3.B'),.p (eS L2.2),.vec 900000 11 0 (H3.BY.map ai),.p (eB H3.HS)])]⟩) (λ L2 hv=>?_) ?_
 ·have h0:=IS _ hv;refine nx 4 Z (bd h0 λ JF NW h0=>?_);refine mO Z (cVq [1000000] [900000] 101000 101001 (kq (al.mk H3.fs H3.fat L2.1 H3.B' L2.2 H3.BY H3.HS) _ NW) Tryz.call136 Z ?_);exact nx 3 Z (mQo (oi h0) (aQ (bB 101000 800000 Z Z Z Z Z) (ay _)) Z Z Z Z (sr) ⟨⟨_,Z,⟨sr,sr,sr,sr,sr,sr,sr,trivial⟩⟩,trivial⟩)
 refine nx 3 Z (oI h1 Z λ Ke h1=>?_);refine nx 2 Z (fD [20] h1 Z (λ c3 h1=>?_) λ c3 h1=>?_)
 ·refine nx 4 Z (bd h1 λ r4 e5 h1=>?_);refine oK (tY _ (sub H3.fs H3.fi (H3.fs.length:Int)) _ e5) Z ⟨sr,trivial⟩ Tryz.call146 Z (nx 14 Z ?_);refine fN [28] h1 Z (λ c6 h1=>?_) λ c6 h1=>?_
  ·refine nx 9 Z (oC h1 Z λ Mh h1=>?_);refine nx 4 Z (mG (gE (t:=⟨[(0,.ptr 1000000 0),(2,.ptr 2 0),(5,.p (eI r4.2.1))],[(2,fO),(1000000,[.p (eS H3.fs),.p (eI H3.fat),.p (eI H3.fi),.p (eI H3.B'),.p (eS (H3.C'++r4.1)),.vec 900000 11 0 (H3.BY.map ai),.p (eB H3.HS)])]⟩) Z Z) ?_);refine nx 6 Z (oA h1 Z Z λ Lq h1=>?_);exact nx 4 Z (eX _ (oi h1).symm (gE Z Z))
  refine nx 2 Z (cc' h1 λ Oa h1=>?_);refine mG (gE (t:=⟨[(0,.ptr 1000000 0),(2,.ptr 2 0),(6,.p (eI r4.2.2))],[(2,fO),(1000000,[.p (eS H3.fs),.p (eI H3.fat),.p (eI H3.fi),.p (eI H3.B'),.p (eS H3.C'),.vec 900000 11 0 (H3.BY.map ai),.p (eB H3.HS)])]⟩) Z Z) (mSq ⟨1,[11],(λ _=>.none),(λ _=>[(0,.ptr 1000000 0),(2,.ptr 2 0),(6,.p (eI r4.2.2))]),(ob2 ([(2,fO),(1000000,[.p (eS H3.fs),.p (eI H3.fat),.p (eI H3.fi),.p (eI H3.B'),.p (eS H3.C'),.vec 900000 11 0 (H3.BY.map ai),.p (eB H3.HS)])]) (2,[.p (eI r4.2.2),.p (eI (H3.fat+H3.fi)),.p (eS ([]:Bytes))]))⟩ Z ?_);refine dPc (.p (eI r4.2.2)) Z (dPc (.ptr 1000000 0) Z ?_);refine dPc (.ptr 1000000 0) Z (dPc (.ptr 1000000 1) Z ?_);refine dPc (.p (eI H3.fat)) Z (dPc (.ptr 1000000 0) Z ?_);refine dPc (.ptr 1000000 0) Z (dPc (.ptr 1000000 2) Z ?_);refine dPc (.p (eI H3.fi)) Z (aG (λ _=>.p (eI (H3.fat+H3.fi))) Z Z Z (ip Z Y) (lt1 Z) (aA Z (au [(33,_),(37,_)] ⟨.inr ⟨4,_,Z,Z,Z⟩,.inr ⟨8,_,Z,Z,Z⟩,trivial⟩ (λ sl H2 K hK=>aj Z (dV Z Z Z (H2 _ _ Z) (H2 _ _ Z) Z Oa hK)) aE)) ?_);refine dPc (.p (.agg [eI r4.2.2,eI (H3.fat+H3.fi),eS ([]:Bytes)])) Z (dS Z ?_);refine dF (nx 2 Z ?_);exact mQo (hR0 _ (oi h1).symm) (aQ (bB 900000 800000 Z Z Z Z Z) (ay _)) Z Z Z Z (sr) ⟨⟨_,Z,⟨sr,sr,sr,sr,sr,sr,sr,trivial⟩⟩,trivial⟩
 refine nx 4 Z (bd h1 λ Iu JM h1=>?_);refine oK (d6 (sub H3.fs H3.fi (H3.fs.length:Int)) _ JM) Z ⟨sr,trivial⟩ Tryz.call90 Z (nx 8 Z ?_);refine bd h1 λ LQ h2 h1=>kN LQ (λ Ol=>⟨[(0,.ptr 1000000 0),(2,.ptr 2 0),(3,.p (eS (sub H3.fs H3.fi (H3.fs.length:Int)))),(8,.p (eI Iu.2)),(78,.p (eB Ol))],[(2,fO),(1000000,[.p (eS H3.fs),.p (eI H3.fat),.p (eI H3.fi),.p (eI H3.B'),.p (eS H3.C'),.vec 900000 11 0 (H3.BY.map ai),.p (eB H3.HS)])]⟩) ?_ ?_
 ·refine nx 1 Z (fB [78] h1 Z (λ Lm h1=>?_) λ Lm h1=>?_)
  ·refine nx 2 Z (cc' h1 λ Kn h1=>?_);refine mG (gE (t:=⟨[(0,.ptr 1000000 0),(2,.ptr 2 0)],[(2,fO),(1000000,[.p (eS H3.fs),.p (eI H3.fat),.p (eI H3.fi),.p (eI H3.B'),.p (eS H3.C'),.vec 900000 11 0 (H3.BY.map ai),.p (eB H3.HS)])]⟩) Z Z) (mSq ⟨1,[10],(λ _=>.none),(λ _=>[(0,.ptr 1000000 0),(2,.ptr 2 0)]),(ob2 ([(2,fO),(1000000,[.p (eS H3.fs),.p (eI H3.fat),.p (eI H3.fi),.p (eI H3.B'),.p (eS H3.C'),.vec 900000 11 0 (H3.BY.map ai),.p (eB H3.HS)])]) (2,[.p (eI 2),.p (eI (H3.fat+H3.fi)),.p (eS ([]:Bytes))]))⟩ Z ?_);refine dPc (.ptr 1000000 0) Z (dPc (.ptr 1000000 0) Z ?_);refine dPc (.ptr 1000000 1) Z (dPc (.p (eI H3.fat)) Z ?_);refine dPc (.ptr 1000000 0) Z (dPc (.ptr 1000000 0) Z ?_);refine dPc (.ptr 1000000 2) Z (dPc (.p (eI H3.fi)) Z ?_);refine aG (λ _=>.p (eI (H3.fat+H3.fi))) Z Z Z (ip Z Y) (lt1 Z) (aA Z (au [(82,_),(86,_)] ⟨.inr ⟨3,_,Z,Z,Z⟩,.inr ⟨7,_,Z,Z,Z⟩,trivial⟩ (λ sl H2 K hK=>aj Z (dV Z Z Z (H2 _ _ Z) (H2 _ _ Z) Z Kn hK)) aE)) (dPc (.p (.agg [eI 2,eI (H3.fat+H3.fi),eS ([]:Bytes)])) Z ?_);refine dS Z (dF ?_);exact nx 2 Z (mQo (hR0 _ (oi h1).symm) (aQ (bB 900000 800000 Z Z Z Z Z) (ay _)) Z Z Z Z (sr) ⟨⟨_,Z,⟨sr,sr,sr,sr,sr,sr,sr,trivial⟩⟩,trivial⟩)
  refine nx 3 Z (cc' h1 λ Km h1=>?_);refine cc' h1 λ Kl h1=>mG (gE (t:=⟨[(0,.ptr 1000000 0),(2,.ptr 2 0),(3,.p (eS (sub H3.fs H3.fi (H3.fs.length:Int)))),(8,.p (eI Iu.2))],[(2,fO),(1000000,[.p (eS H3.fs),.p (eI H3.fat),.p (eI H3.fi),.p (eI H3.B'),.p (eS H3.C'),.vec 900000 11 0 (H3.BY.map ai),.p (eB H3.HS)])]⟩) Z Z) (mSq ⟨1,[10],(λ _=>.none),(λ _=>[(0,.ptr 1000000 0),(2,.ptr 2 0),(3,.p (eS (sub H3.fs H3.fi (H3.fs.length:Int)))),(8,.p (eI Iu.2))]),(ob2 ([(2,fO),(1000000,[.p (eS H3.fs),.p (eI H3.fat),.p (eI H3.fi),.p (eI H3.B'),.p (eS H3.C'),.vec 900000 11 0 (H3.BY.map ai),.p (eB H3.HS)])]) (1000000,[.p (eS H3.fs),.p (eI H3.fat),.p (eI H3.fi),.p (eI H3.B'),.p (eS (H3.C'++(sub (sub H3.fs H3.fi (H3.fs.length:Int)) 0 Iu.2))),.vec 900000 11 0 (H3.BY.map ai),.p (eB H3.HS)]))⟩ Z ?_);refine dPc (.ptr 1000000 0) Z (dPc (.ptr 1000000 0) Z ?_);refine dPc (.ptr 1000000 4) Z (dPc (.p (eS H3.C')) Z ?_);refine dPc (.p (eS (sub H3.fs H3.fi (H3.fs.length:Int)))) Z (dPc (.p (eI Iu.2)) Z ?_);refine aG (λ _=>.p (eS (sub (sub H3.fs H3.fi (H3.fs.length:Int)) 0 Iu.2))) Z Z Z (ip Z Y) (lt1 Z) (aA Z (au [(93,_),(94,_)] ⟨.inr ⟨4,_,Z,Z,Z⟩,.inr ⟨5,_,Z,Z,Z⟩,trivial⟩ (λ sl H2 K hK=>aj Z (dQ (a:=sub H3.fs H3.fi (H3.fs.length:Int)) (l:=0) (h:=Iu.2) Z Z Z Z Z (H2 _ _ Z) Z (lY (H2 _ _ Z)) Km hK)) aE)) (aG (λ _=>.p (eS (H3.C'++(sub (sub H3.fs H3.fi (H3.fs.length:Int)) 0 Iu.2)))) Z Z Z (ip Z Y) (lt1 Z) (aA Z (au [(92,_),(95,_)] ⟨.inr ⟨3,_,Z,Z,Z⟩,.inr ⟨6,_,Z,Z,Z⟩,trivial⟩ (λ sl H2 K hK=>aj Z (rv Z Z Z (H2 _ _ Z) (H2 _ _ Z) Kl hK)) aE)) ?_);refine dPc (.ptr 1000000 0) Z (dPc (.ptr 1000000 4) Z ?_);refine dS Z (dF ?_);refine nx 7 Z (oA h1 Z Z λ LA h1=>?_);exact nx 4 Z (eX _ (oi h1).symm (gE Z Z))
 refine nx 4 Z (fD [62,63] h2 Z (λ KP h2=>?_) λ KP h2=>?_)
 ·refine nx 4 Z (fD [65,66,67] h2 Z (λ JN h2=>?_) λ JN h2=>?_)
  ·exact nx 12 Z (eX _ (oi h2).symm (gE Z Z))
  refine nx 4 Z (fD [69,70,71] h2 Z (λ KO h2=>?_) λ KO h2=>?_)
  ·exact nx 8 Z (eX _ (oi h2).symm (gE Z Z))
  refine nx 4 Z (fD [73,74,75] h2 Z (λ KN h2=>?_) λ KN h2=>?_)
  ·exact nx 4 Z (eX _ (oi h2).symm (gE Z Z))
  exact nx 4 Z (eX _ (oi h2).symm (gE Z Z))
 refine nx 8 Z (fD [69,70,71] h2 Z (λ MA h2=>?_) λ MA h2=>?_)
 ·exact nx 8 Z (eX _ (oi h2).symm (gE Z Z))
 refine nx 4 Z (fD [73,74,75] h2 Z (λ IA h2=>?_) λ IA h2=>?_)
 ·exact nx 4 Z (eX _ (oi h2).symm (gE Z Z))
 exact nx 4 Z (eX _ (oi h2).symm (gE Z Z))
def dc (n:Nat)(H7:ae):Option ae :=
 (aU n H7).bind λ r1 =>
 ck (inR (r1.2.G'+1)) <|
 some (ae.mk r1.2.fl r1.2.fat (r1.2.G'+1) r1.2.Gw r1.2.AT)
theorem ez (n:Nat)(H7:ae)(r:ae)(h0:dc n H7=some r):aV Tryz.prog 92 [.ptr 1000000 0] [(1000000,((ae.cs H7).map .p))] (λ x y=>x=.tuple []/\y=[(1000000,((ae.cs r).map .p))]):=by
 unfold dc at h0;refine cr good [] [1000000] Tryz.func92 Z Z Z Z Z λ w0 F=>mPo (λ v:ae=>.tuple []) (λ v=>[(1000000,((ae.cs v).map .p))]) ?_;refine nx 3 Z (bd h0 λ r1 e2 h0=>?_);refine mO Z (cVq [1000000] [] 101000 101000 (aX _ H7 _ e2) Tryz.call44 Z ?_);refine nx 6 Z (oA h0 Z Z λ Lz h0=>?_);exact nx 4 Z (uM (oi h0) (ay _) Z Z Z Z (sr) ⟨⟨_,Z,⟨sr,sr,sr,sr,sr,sr,sr,trivial⟩⟩,trivial⟩)
def cS (n:Nat)(H7:ae)(s_1:Bytes):Option ae :=
 (bu n H7 s_1).bind λ r1 =>
 if (!r1.1)=true then
  (bN n r1.2).bind λ r4 =>
  (bO r4.2 2 r4.1.fAt).bind λ r6 =>
  some r6.2
 else
  (aU n r1.2).bind λ r8 =>
  some r8.2
theorem fh (n:Nat)(H7:ae)(s_1:Bytes)(r:ae)(h0:cS n H7 s_1=some r):aV Tryz.prog 45 [.ptr 1000000 0,.p (eS s_1)] [(1000000,((ae.cs H7).map .p))] (λ x y=>x=.tuple []/\y=[(1000000,((ae.cs r).map .p))]):=by
 unfold cS at h0;refine cr good [] [1000000] Tryz.func45 Z Z Z Z Z λ w0 F=>mPo (λ v:ae=>.tuple []) (λ v=>[(1000000,((ae.cs v).map .p))]) ?_;refine nx 5 Z (bd h0 λ r1 e2 h0=>?_);refine mO Z (cVq [1000000] [] 101000 101000 (bK _ H7 s_1 _ e2) Tryz.call43 Z ?_);refine nx 2 Z (fB [7] h0 Z (λ c3 h0=>?_) λ c3 h0=>?_)
 ·refine nx 5 Z (bd h0 λ r4 e5 h0=>?_);refine mO Z (cVq [1000000] [] 102000 102000 (bS _ r1.2 _ e5) Tryz.call31 Z ?_);refine nx 1 Z (bd h0 λ r6 e7 h0=>?_);refine mO Z (cVq [1000000] [] 103000 103000 (cp r4.2 2 r4.1.fAt _ e7) Tryz.call32 Z ?_);exact nx 2 Z (iy h0 Z)
 refine nx 4 Z (bd h0 λ r8 e9 h0=>?_);refine mO Z (cVq [1000000] [] 104000 104000 (aX _ r1.2 _ e9) Tryz.call44 Z ?_);exact nx 1 Z (uM (oi h0) (ay _) Z Z Z Z (sr) ⟨⟨_,Z,⟨sr,sr,sr,sr,sr,sr,sr,trivial⟩⟩,trivial⟩)
def bR (n:Nat)(H7:ae)(s_1:Bytes):Option ae :=
 (cS n H7 s_1).bind λ r1 =>
 ck (inR (r1.G' - 1)) <|
 some (ae.mk r1.fl r1.fat (r1.G' - 1) r1.Gw r1.AT)
theorem dz (n:Nat)(H7:ae)(s_1:Bytes)(r:ae)(h0:bR n H7 s_1=some r):aV Tryz.prog 93 [.ptr 1000000 0,.p (eS s_1)] [(1000000,((ae.cs H7).map .p))] (λ x y=>x=.tuple []/\y=[(1000000,((ae.cs r).map .p))]):=by
 unfold bR at h0;refine cr good [] [1000000] Tryz.func93 Z Z Z Z Z λ w0 F=>mPo (λ v:ae=>.tuple []) (λ v=>[(1000000,((ae.cs v).map .p))]) ?_;refine nx 4 Z (bd h0 λ r1 e2 h0=>?_);refine mO Z (cVq [1000000] [] 101000 101000 (fh _ H7 s_1 _ e2) Tryz.call45 Z ?_);refine nx 6 Z (oA h0 Z Z λ Lz h0=>?_);exact nx 4 Z (uM (oi h0) (ay _) Z Z Z Z (sr) ⟨⟨_,Z,⟨sr,sr,sr,sr,sr,sr,sr,trivial⟩⟩,trivial⟩)
def dd (n:Nat)(H7:ae)(s_1:Bytes):Option (Bool×ae) :=
 (bN n H7).bind λ r1 =>
 (
   (bc r1.2).bind λ r3 =>
   if (!r3.1)=true then
    if r1.1.Ar=1 then
     some (decide (r1.1.Df=s_1),r3.2.fl,r3.2.fat,r3.2.G',r3.2.Gw,r3.2.AT.Ar,r3.2.AT.fAt,r3.2.AT.AI)
    else
     some (false,r3.2.fl,r3.2.fat,r3.2.G',r3.2.Gw,r3.2.AT.Ar,r3.2.AT.fAt,r3.2.AT.AI)
   else
    some (false,r3.2.fl,r3.2.fat,r3.2.G',r3.2.Gw,r3.2.AT.Ar,r3.2.AT.fAt,r3.2.AT.AI)
  : Option (Bool×(List af)×Int×Int×Int×Int×Int×Bytes)).bind λ Ks =>
 some (Ks.1,(ae.mk Ks.2.1 Ks.2.2.1 Ks.2.2.2.1 Ks.2.2.2.2.1 (ap.mk Ks.2.2.2.2.2.1 Ks.2.2.2.2.2.2.1 Ks.2.2.2.2.2.2.2)))
theorem gI (n:Nat)(H7:ae)(s_1:Bytes)(r:Bool×ae)(h0:dd n H7 s_1=some r):aV Tryz.prog 117 [.ptr 1000000 0,.p (eS s_1)] [(1000000,((ae.cs H7).map .p))] (λ x y=>x=.p (eB r.1)/\y=[(1000000,((ae.cs r.2).map .p))]):=by
 unfold dd at h0;refine cr good [] [1000000] Tryz.func117 Z Z Z Z Z λ w0 F=>mPo (λ v:Bool×ae=>.p (eB v.1)) (λ v=>[(1000000,((ae.cs v.2).map .p))]) ?_;refine nx 7 Z (bd h0 λ r1 e2 h0=>?_);refine mO Z (cVq [1000000] [] 101000 101000 (bS _ H7 _ e2) Tryz.call31 Z ?_);refine nx 4 Z (bd h0 λ N9 h1 h0=>?_);refine kN N9 (λ Kt=>⟨[(4,.p (eB Kt.1))],[(1000000,[.p (eL bM Kt.2.1),.p (eI Kt.2.2.1),.p (eI Kt.2.2.2.1),.p (eI Kt.2.2.2.2.1),.p (eI Kt.2.2.2.2.2.1),.p (eI Kt.2.2.2.2.2.2.1),.p (eS Kt.2.2.2.2.2.2.2)])]⟩) ?_ ?_
 ·exact nx 2 Z (iy h0 Z)
 refine nx 2 Z (bd h1 λ r3 e4 h1=>?_);refine mO Z (cVq [1000000] [] 102000 102000 (dp r1.2 _ e4) Tryz.call46 Z ?_);refine nx 2 Z (fB [10,11] h1 Z (λ c5 h1=>?_) λ c5 h1=>?_)
 ·refine nx 5 Z (fD [14,15,16] h1 Z (λ c6 h1=>?_) λ c6 h1=>?_)
  ·refine nx 3 Z (oS Z Z ?_);exact nx 3 Z (eX _ (oi h1).symm (gE Z Z))
  exact nx 7 Z (eX _ (oi h1).symm (gE Z Z))
 exact nx 12 Z (eX _ (oi h1).symm (gE Z Z))
def ee (n:Nat)(H7:ae):Option (Bytes×ae) :=
 (bN n H7).bind λ r1 =>
 (
   (bc r1.2).bind λ r3 =>
   if r3.1=true then
    some (true,r3.2.fl,r3.2.fat,r3.2.G',r3.2.Gw,r3.2.AT.Ar,r3.2.AT.fAt,r3.2.AT.AI)
   else
    if r1.1.Ar=1 then
     (fF r1.1.Df).bind λ r7 =>
     some (r7,r3.2.fl,r3.2.fat,r3.2.G',r3.2.Gw,r3.2.AT.Ar,r3.2.AT.fAt,r3.2.AT.AI)
    else
     some (true,r3.2.fl,r3.2.fat,r3.2.G',r3.2.Gw,r3.2.AT.Ar,r3.2.AT.fAt,r3.2.AT.AI)
  : Option (Bool×(List af)×Int×Int×Int×Int×Int×Bytes)).bind λ Ja =>
 if Ja.1=true then
  (bO (ae.mk Ja.2.1 Ja.2.2.1 Ja.2.2.2.1 Ja.2.2.2.2.1 (ap.mk Ja.2.2.2.2.2.1 Ja.2.2.2.2.2.2.1 Ja.2.2.2.2.2.2.2)) 2 r1.1.fAt).bind λ Jw =>
  some (([]:Bytes),Jw.2)
 else
  (aU n (ae.mk Ja.2.1 Ja.2.2.1 Ja.2.2.2.1 Ja.2.2.2.2.1 (ap.mk Ja.2.2.2.2.2.1 Ja.2.2.2.2.2.2.1 Ja.2.2.2.2.2.2.2))).bind λ Jq =>
  some (r1.1.Df,Jq.2)
theorem jQ (n:Nat)(H7:ae)(r:Bytes×ae)(h0:ee n H7=some r):aV Tryz.prog 126 [.ptr 1000000 0] [(1000000,((ae.cs H7).map .p))] (λ x y=>x=.p (eS r.1)/\y=[(1000000,((ae.cs r.2).map .p))]):=by
 unfold ee at h0;refine cr good [] [1000000] Tryz.func126 Z Z Z Z Z λ w0 F=>mPo (λ v:Bytes×ae=>.p (eS v.1)) (λ v=>[(1000000,((ae.cs v.2).map .p))]) ?_;refine nx 7 Z (bd h0 λ r1 e2 h0=>?_);refine mO Z (cVq [1000000] [] 101000 101000 (bS _ H7 _ e2) Tryz.call31 Z ?_);refine nx 5 Z (bd h0 λ IV h1 h0=>?_);refine kN IV (λ Ji=>⟨[(0,.ptr 1000000 0),(3,.ptr 3 0),(17,.p (eB Ji.1))],[(3,(af.cs r1.1).map .p),(1000000,[.p (eL bM Ji.2.1),.p (eI Ji.2.2.1),.p (eI Ji.2.2.2.1),.p (eI Ji.2.2.2.2.1),.p (eI Ji.2.2.2.2.2.1),.p (eI Ji.2.2.2.2.2.2.1),.p (eS Ji.2.2.2.2.2.2.2)])]⟩) ?_ ?_
 ·refine nx 1 Z (fB [17] h0 Z (λ IA h0=>?_) λ IA h0=>?_)
  ·refine nx 6 Z (bd h0 λ Jw Mr h0=>?_);refine mO Z (cVq [1000000] [] 103000 103000 (cp (ae.mk IV.2.1 IV.2.2.1 IV.2.2.2.1 IV.2.2.2.2.1 (ap.mk IV.2.2.2.2.2.1 IV.2.2.2.2.2.2.1 IV.2.2.2.2.2.2.2)) 2 r1.1.fAt _ Mr) Tryz.call32 Z ?_);exact nx 6 Z (iy h0 Z)
  refine nx 5 Z (bd h0 λ Jq Ll h0=>?_);refine mO Z (cVq [1000000] [] 104000 104000 (aX _ (ae.mk IV.2.1 IV.2.2.1 IV.2.2.2.1 IV.2.2.2.2.1 (ap.mk IV.2.2.2.2.2.1 IV.2.2.2.2.2.2.1 IV.2.2.2.2.2.2.2)) _ Ll) Tryz.call44 Z ?_);exact nx 8 Z (iy h0 Z)
 refine nx 2 Z (bd h1 λ r3 e4 h1=>?_);refine mO Z (cVq [1000000] [] 102000 102000 (dp r1.2 _ e4) Tryz.call46 Z ?_);refine nx 1 Z (fB [7,8] h1 Z (λ c5 h1=>?_) λ c5 h1=>?_)
 ·exact nx 10 Z (eX _ (oi h1).symm (gE Z Z))
 refine nx 5 Z (fN [11,12,13] h1 Z (λ c6 h1=>?_) λ c6 h1=>?_)
 ·refine nx 2 Z (bd h1 λ r7 e8 h1=>?_);refine oK (jd r1.1.Df _ e8) Z ⟨sr,trivial⟩ Tryz.call85 Z (nx 2 Z ?_);exact eX _ (oi h1).symm (gE Z Z)
 exact nx 5 Z (eX _ (oi h1).symm (gE Z Z))
def dM (n:Nat)(H7:ae)(s_1:Bytes):Option ae :=
 (dd n H7 s_1).bind λ r1 =>
 if (!r1.1)=true then
  (bN n r1.2).bind λ r4 =>
  (bO r4.2 2 r4.1.fAt).bind λ r6 =>
  some r6.2
 else
  (aU n r1.2).bind λ r8 =>
  some r8.2
theorem ou (n:Nat)(H7:ae)(s_1:Bytes)(r:ae)(h0:dM n H7 s_1=some r):aV Tryz.prog 127 [.ptr 1000000 0,.p (eS s_1)] [(1000000,((ae.cs H7).map .p))] (λ x y=>x=.tuple []/\y=[(1000000,((ae.cs r).map .p))]):=by
 unfold dM at h0;refine cr good [] [1000000] Tryz.func127 Z Z Z Z Z λ w0 F=>mPo (λ v:ae=>.tuple []) (λ v=>[(1000000,((ae.cs v).map .p))]) ?_;refine nx 5 Z (bd h0 λ r1 e2 h0=>?_);refine mO Z (cVq [1000000] [] 101000 101000 (gI _ H7 s_1 _ e2) Tryz.call117 Z ?_);refine nx 2 Z (fB [7] h0 Z (λ c3 h0=>?_) λ c3 h0=>?_)
 ·refine nx 5 Z (bd h0 λ r4 e5 h0=>?_);refine mO Z (cVq [1000000] [] 102000 102000 (bS _ r1.2 _ e5) Tryz.call31 Z ?_);refine nx 1 Z (bd h0 λ r6 e7 h0=>?_);refine mO Z (cVq [1000000] [] 103000 103000 (cp r4.2 2 r4.1.fAt _ e7) Tryz.call32 Z ?_);exact nx 2 Z (iy h0 Z)
 refine nx 4 Z (bd h0 λ r8 e9 h0=>?_);refine mO Z (cVq [1000000] [] 104000 104000 (aX _ r1.2 _ e9) Tryz.call44 Z ?_);exact nx 1 Z (uM (oi h0) (ay _) Z Z Z Z (sr) ⟨⟨_,Z,⟨sr,sr,sr,sr,sr,sr,sr,trivial⟩⟩,trivial⟩)
def bP (n:Nat)(l_1:List Bytes):Nat->Int->(List af)->Int->Int->Int->Int->Int->Bytes->Option (((List af)×Int×Int×Int×Int×Int×Bytes)⊕(Bytes×Bool×ae))
 | 0,_,_,_,_,_,_,_,_=>none
 | m+1,t15,OY,K6,OX,OW,KC,f21,KJ =>
 if t15 < (l_1.length:Int) then
  ck ((0:Int)<=t15/\t15 < (l_1.length:Int)) <|
  (bu n (ae.mk OY K6 OX OW (ap.mk KC f21 KJ)) (lat l_1 t15)).bind λ Jm =>
  if Jm.1=true then
   some (.inr (lat l_1 t15,true,Jm.2))
  else
   ck (inR (t15+1)) <|
   bP n l_1 m (t15+1) Jm.2.fl Jm.2.fat Jm.2.G' Jm.2.Gw Jm.2.AT.Ar Jm.2.AT.fAt Jm.2.AT.AI
 else
  some (.inl (OY,K6,OX,OW,KC,f21,KJ))
def et (n:Nat)(H7:ae)(l_1:List Bytes):Option (Bytes×Bool×ae) :=
 jn (bP n l_1 n 0 H7.fl H7.fat H7.G' H7.Gw H7.AT.Ar H7.AT.fAt H7.AT.AI) λ Mb =>
 some (([]:Bytes),false,(ae.mk Mb.1 Mb.2.1 Mb.2.2.1 Mb.2.2.2.1 (ap.mk Mb.2.2.2.2.1 Mb.2.2.2.2.2.1 Mb.2.2.2.2.2.2)))
theorem pi (n:Nat)(H7:ae)(l_1:List Bytes)(r:Bytes×Bool×ae)(h0:et n H7 l_1=some r):aV Tryz.prog 63 [.ptr 1000000 0,.p (eL eS l_1)] [(1000000,((ae.cs H7).map .p))] (λ x y=>x=.tuple [.p (eS r.1),.p (eB r.2.1)]/\y=[(1000000,((ae.cs r.2.2).map .p))]):=by
 unfold et at h0;refine cr good [] [1000000] Tryz.func63 Z Z Z Z Z λ w0 F=>mPo (λ v:Bytes×Bool×ae=>.tuple [.p (eS v.1),.p (eB v.2.1)]) (λ v=>[(1000000,((ae.cs v.2.2).map .p))]) ?_;refine nx 9 rfl (oLl (f:=eS) Z Z ?_);refine nx 3 rfl ?_;obtain ⟨LN,h1,IS,hR0⟩:=db h0;refine kEx 0 (λ v46:(List af)×Int×Int×Int×Int×Int×Bytes=>LN=.inl v46) (λ v46=>⟨[],[(1000000,[.p (eL bM v46.1),.p (eI v46.2.1),.p (eI v46.2.2.1),.p (eI v46.2.2.2.1),.p (eI v46.2.2.2.2.1),.p (eI v46.2.2.2.2.2.1),.p (eS v46.2.2.2.2.2.2)])]⟩) (λ v46 hv=>?_) ?_
 ·have h0:=IS _ hv;exact nx 7 Z (mQo (oi h0) (ay _) Z Z Z Z (ax ⟨sr,sr,trivial⟩) ⟨⟨_,Z,⟨sr,sr,sr,sr,sr,sr,sr,trivial⟩⟩,trivial⟩)
 refine lG (λ (J6:Int×(List af)×Int×Int×Int×Int×Int×Bytes)=>⟨[(0,.ptr 1000000 0),(8,.p (eL eS l_1)),(9,.p (eI (l_1.length:Int))),(10,.p (eI J6.1))],[(1000000,[.p (eL bM J6.2.1),.p (eI J6.2.2.1),.p (eI J6.2.2.2.1),.p (eI J6.2.2.2.2.1),.p (eI J6.2.2.2.2.2.1),.p (eI J6.2.2.2.2.2.2.1),.p (eS J6.2.2.2.2.2.2.2)])]⟩) (λ m (J6:Int×(List af)×Int×Int×Int×Int×Int×Bytes)=>bP n l_1 m J6.1 J6.2.1 J6.2.2.1 J6.2.2.2.1 J6.2.2.2.2.1 J6.2.2.2.2.2.1 J6.2.2.2.2.2.2.1 J6.2.2.2.2.2.2.2) Y (0,H7.fl,H7.fat,H7.G',H7.Gw,H7.AT.Ar,H7.AT.fAt,H7.AT.AI) h1 (gE rfl rfl) ?_;rintro m ⟨t15,OY,K6,OX,OW,KC,f21,KJ⟩ h1;replace h1:bP n l_1 (m+1) t15 OY K6 OX OW KC f21 KJ=some LN:=h1;rw [bP] at h1;refine nx 5 rfl (fD [11] h1 rfl (λ J4 h1=>?_) λ J4 h1=>?_)
 ·refine nx 6 Z (oE h1 Y Z Z Y λ Kz h1=>?_);refine nx 7 Z (bd h1 λ Jm Mp h1=>?_);refine mO Z (cVq [1000000] [] 102000 102000 (bK _ (ae.mk OY K6 OX OW (ap.mk KC f21 KJ)) (lat l_1 t15) _ Mp) Tryz.call43 Z ?_);refine nx 1 Z (fB [16] h1 Z (λ K8 h1=>?_) λ K8 h1=>?_)
  ·exact nx 8 Z (mQo (hR0 _ (oi h1).symm) (ay _) Z Z Z Z (ax ⟨sr,sr,trivial⟩) ⟨⟨_,Z,⟨sr,sr,sr,sr,sr,sr,sr,trivial⟩⟩,trivial⟩)
  refine nx 3 Z (oA h1 Z Z λ M' h1=>?_);exact nx 2 Z (eX (t15+1,Jm.2.fl,Jm.2.fat,Jm.2.G',Jm.2.Gw,Jm.2.AT.Ar,Jm.2.AT.fAt,Jm.2.AT.AI) h1 (gE Z Z))
 exact nx 2 Z (eXi _ (oi h1).symm (gE Z Z))
def kl (Jb:Int):Option (List Bytes) :=
 if Jb=0 then
  some ([([124,124]:Bytes)])
 else
  if Jb=1 then
   some ([([38,38]:Bytes)])
  else
   if Jb=2 then
    some ([([61,61]:Bytes),([33,61]:Bytes)])
   else
    if Jb=3 then
     some ([([60]:Bytes),([60,61]:Bytes),([62]:Bytes),([62,61]:Bytes)])
    else
     if Jb=4 then
      some ([([43]:Bytes),([45]:Bytes)])
     else
      some ([([42]:Bytes),([47]:Bytes),([37]:Bytes)])
theorem qH (Jb:Int)(r:(List Bytes))(h0:kl Jb=some r):aB Tryz.prog 64 [eI Jb] (·=.p (eL eS r)):=by
 unfold kl at h0;refine bm good Tryz.func64 Z Z Z λ w0=>mP (λ v:(List Bytes)=>.p (eL eS v)) ?_;refine nx 15 Z (fD [4,5] h0 Z (λ c1 h0=>?_) λ c1 h0=>?_)
 ·refine nx 3 Z (mO Z (bF eS [([124,124]:Bytes)] Z Z Z Z Z Z Z Z Z Z Z Z Z Z ?_));exact nx 3 Z (mQ (oi h0) Z (sr))
 refine nx 6 Z (fD [7,8] h0 Z (λ c2 h0=>?_) λ c2 h0=>?_)
 ·refine nx 3 Z (mO Z (bF eS [([38,38]:Bytes)] Z Z Z Z Z Z Z Z Z Z Z Z Z Z ?_));exact nx 3 Z (mQ (oi h0) Z (sr))
 refine nx 6 Z (fD [10,11] h0 Z (λ c3 h0=>?_) λ c3 h0=>?_)
 ·refine nx 3 Z (mO Z (bF eS [([61,61]:Bytes),([33,61]:Bytes)] Z Z Z Z Z Z Z Z Z Z Z Z Z Z ?_));exact nx 3 Z (mQ (oi h0) Z (sr))
 refine nx 6 Z (fD [13,14] h0 Z (λ c4 h0=>?_) λ c4 h0=>?_)
 ·refine nx 3 Z (mO Z (bF eS [([60]:Bytes),([60,61]:Bytes),([62]:Bytes),([62,61]:Bytes)] Z Z Z Z Z Z Z Z Z Z Z Z Z Z ?_));exact nx 3 Z (mQ (oi h0) Z (sr))
 refine nx 6 Z (fD [16,17] h0 Z (λ c5 h0=>?_) λ c5 h0=>?_)
 ·refine nx 3 Z (mO Z (bF eS [([43]:Bytes),([45]:Bytes)] Z Z Z Z Z Z Z Z Z Z Z Z Z Z ?_));exact nx 3 Z (mQ (oi h0) Z (sr))
 refine nx 4 Z (mO Z (bF eS [([42]:Bytes),([47]:Bytes),([37]:Bytes)] Z Z Z Z Z Z Z Z Z Z Z Z Z Z ?_));exact nx 3 Z (mQ (oi h0) Z (sr))
def ii (H1:Bytes):Nat->Int->Option (Unit⊕Int)
 | 0,_=>none
 | m+1,t7 =>
 if t7 < 13 then
  ck ((0:Int)<=t7/\t7 < 13) <|
  if lat ([([124,124]:Bytes),([38,38]:Bytes),([61,61]:Bytes),([33,61]:Bytes),([60]:Bytes),([60,61]:Bytes),([62]:Bytes),([62,61]:Bytes),([43]:Bytes),([45]:Bytes),([42]:Bytes),([47]:Bytes),([37]:Bytes)]:List Bytes) t7=H1 then
   ck (inR (3+t7)) <|
   some (.inr (3+t7))
  else
   ck (inR (t7+1)) <|
   ii H1 m (t7+1)
 else
  some (.inl ())
def qQ (n:Nat)(H1:Bytes):Option Int :=
 jn (ii H1 n 0) λ _q14 =>
 some 0
theorem zl (n:Nat)(H1:Bytes)(r:Int)(h0:qQ n H1=some r):aB Tryz.prog 65 [eS H1] (·=.p (eI r)):=by
 unfold qQ at h0;refine bm good Tryz.func65 Z Z Z λ w0=>mP (λ v:Int=>.p (eI v)) ?_;refine nx 11 rfl ?_;obtain ⟨o15,h1,IS,hR0⟩:=db h0;refine kEx 0 (λ v16:Unit=>o15=.inl v16) (λ v16=>⟨[],[]⟩) (λ v16 hv=>?_) ?_
 ·have h0:=IS _ hv;exact nx 6 Z (mQ (oi h0) Z (sr))
 refine lG (λ (q17:Int)=>⟨[(0,.p (eS H1)),(5,.p (.agg [eS ([124,124]:Bytes),eS ([38,38]:Bytes),eS ([61,61]:Bytes),eS ([33,61]:Bytes),eS ([60]:Bytes),eS ([60,61]:Bytes),eS ([62]:Bytes),eS ([62,61]:Bytes),eS ([43]:Bytes),eS ([45]:Bytes),eS ([42]:Bytes),eS ([47]:Bytes),eS ([37]:Bytes)])),(6,.p (eI q17))],[]⟩) (λ m (q17:Int)=>ii H1 m q17) Y 0 h1 (gE rfl rfl) ?_;rintro m t7 h1;replace h1:ii H1 (m+1) t7=some o15:=h1;rw [ii] at h1;refine nx 5 rfl (fD [7] h1 rfl (λ c8 h1=>?_) λ c8 h1=>?_)
 ·refine nx 7 Z (cc' h1 λ Lq h1=>?_);refine mO Z (wh eS ([([124,124]:Bytes),([38,38]:Bytes),([61,61]:Bytes),([33,61]:Bytes),([60]:Bytes),([60,61]:Bytes),([62]:Bytes),([62,61]:Bytes),([43]:Bytes),([45]:Bytes),([42]:Bytes),([47]:Bytes),([37]:Bytes)]:List Bytes) Z Z Z Z Z Z Z Z Z Z Z (by have:=Lq; simp only [aq,cl]; omega) ?_);refine nx 7 Z (oS Z Z ?_);refine nx 1 Z (fD [12] h1 Z (λ Kq h1=>?_) λ Kq h1=>?_)
  ·refine nx 4 Z (oA h1 Z Z λ J8 h1=>?_);exact nx 3 Z (mQ (hR0 _ (oi h1).symm) Z (sr))
  refine nx 3 Z (oA h1 Z Z λ KA h1=>?_);exact nx 2 Z (eX (t7+1) h1 (gE Z Z))
 exact nx 2 Z (eXi _ (oi h1).symm (gE Z Z))
end Go.Ab.R06
end
