/- Texts of the proof, one behind the other. No statement is proved here. -/
import Derived.Test.YtaiecfcflcphmaaGreatDoorCards
import Derived.Test.YtaiecfcflcphmaaGreatDoorTie
import Derived.WalkKit
import Derived.SizedLaws
import Derived.ProofKit
import Derived.OpenShut
import Derived.ShutString
import Derived.LaidMore
import Derived.Stop.Joined
import Derived.Deep.DeepHandedRow
import Derived.Deep.DeepWitnessRowRef
import Derived.Test.YtaiecfcflcphmaaGreatDoorZ15Aa
import Derived.Test.YtaiecfcflcphmaaGreatDoorZ15Ab
import Derived.Test.YtaiecfcflcphmaaGreatDoorZ15Ac
import Derived.Test.YtaiecfcflcphmaaGreatDoorZ15Ad
import Derived.Test.YtaiecfcflcphmaaGreatDoorZ15Ae
import Derived.Test.YtaiecfcflcphmaaGreatDoorZ15Af
import Derived.Test.YtaiecfcflcphmaaGreatDoorZ15Ag
set_option maxHeartbeats 4000000
section
namespace Go.Ab.R06
open Go.Proofs Go.Ab Go.Ab.RB
attribute [local irreducible] awp gg ba aF aU AV.sub M cB
def dd (EW:ag->ag->Option Bool)(a_0:ag)(EB:ag):Nat->Int->Option (Unit⊕Bool)|0,_=>none|m+1,i20=>if i20<(a_0.B'.length:Int) then ck ((0:Int)<=i20/\i20<(a_0.B'.length:Int))<|ck ((0:Int)<=i20/\i20<(EB.B'.length:Int))<|(EW (lat a_0.B' i20) (lat EB.B' i20)).bind λ It=>if (!It)=true then some (.inr false)else ck (inR (i20+1))<|dd EW a_0 EB m (i20+1)else some (.inl ())
def dQ:Nat->ag->ag->Option Bool|0,_,_=>none|n+1,a_0,EB=>(if a_0.AI=EB.AI then if a_0.fOp=EB.fOp then if a_0.By=EB.By then if a_0.Eo=EB.Eo then if a_0.fAt=EB.fAt then some (!decide ((a_0.B'.length:Int)=(EB.B'.length:Int)))else some true else some true else some true else some true else some true : Option Bool).bind λ t6=>if t6=true then some false else(if a_0.C'.AI=EB.C'.AI then if a_0.C'.Em=EB.C'.Em then some (!decide (a_0.C'.Ep=EB.C'.Ep))else some true else some true : Option Bool).bind λ LJ=>if LJ=true then some false else jn (dd (dQ n) a_0 EB n 0) λ _Hk=>some true
theorem rc (n:Nat):∀ (a_0:ag) (EB:ag) (r:Bool),dQ n a_0 EB=some r->aF Tryz.prog 36 [.agg (ag.cs a_0),.agg (ag.cs EB)] (·=.p (eB r)):=by
 induction n with
 | zero=>intro a_0 EB r h0; cases h0
 | succ n ih=>
 have E4:=ih;intro a_0 EB r h0;rw [dQ] at h0;refine aZ good Tryz.func36 Z Z Z λ w0=>mP (λ v:Bool=>.p (eB v)) ?_;refine nx 8 Z (bd h0 λ Iu h1 h0=>?_);refine kN Iu (λ JF=>⟨[(2,.ptr 2 0),(3,.ptr 3 0),(47,.p (eB JF))],[(2,(ag.cs a_0).map .p),(3,(ag.cs EB).map .p)]⟩) ?_ ?_
 ·refine nx 1 Z (fB [47] h0 Z (λ c7 h0=>?_) λ c7 h0=>?_)
  ·exact nx 6 Z (mQ (oi h0) Z (sr))
  refine nx 4 Z (bd h0 λ Jk h1 h0=>?_);refine kN Jk (λ HY=>⟨[(2,.ptr 2 0),(3,.ptr 3 0),(72,.p (eB HY))],[(2,(ag.cs a_0).map .p),(3,(ag.cs EB).map .p)]⟩) ?_ ?_
  ·refine nx 1 Z (fB [72] h0 Z (λ GK h0=>?_) λ GK h0=>?_)
   ·exact nx 6 Z (mQ (oi h0) Z (sr))
   refine nx 8 rfl ?_;obtain ⟨Jj,h1,E3,hR0⟩:=bR h0;refine kEx 0 (λ v37:Unit=>Jj=.inl v37) (λ v37=>⟨[],[]⟩) (λ v37 hv=>?_) ?_
   ·have h0:=E3 _ hv;exact nx 6 Z (mQ (oi h0) Z (sr))
   refine lG (λ (If:Int)=>⟨[(2,.ptr 2 0),(3,.ptr 3 0),(5,.p (eI If))],[(2,(ag.cs a_0).map .p),(3,(ag.cs EB).map .p)]⟩) (λ m (If:Int)=>dd (dQ n) a_0 EB m If) Y 0 h1 (gE rfl rfl) ?_;rintro m i20 h1;replace h1:dd (dQ n) a_0 EB (m+1) i20=some Jj:=h1;rw [dd] at h1;refine nx 6 rfl (oLl (f:=aw) rfl rfl ?_);refine nx 2 rfl (fD [77] h1 rfl (λ c21 h1=>?_) λ c21 h1=>?_)
   ·refine nx 5 Z (cc' h1 λ Fl h1=>?_);refine cc' h1 λ FK h1=>bd h1 λ It La h1=>mD [(2,.ptr 2 0),(3,.ptr 3 0),(5,.p (eI i20))] Z ⟨Z,Z,Z,trivial⟩ Z (dR 3 Z ?_);refine dq (.rptr (ag.cs (lat a_0.B' i20))) [81,82] Z (λ _ e _ q=>ab Z (cT (f:=aw) (l:=a_0.B') ag.cs Z Z Z Z Z Z (e _ _ Z) Z (e _ _ Z) Fl ag.BY Y q)) Z (dR 4 Z ?_);refine dq (.rptr (ag.cs (lat EB.B' i20))) [86,87] Z (λ _ e _ q=>ab Z (cT (f:=aw) (l:=EB.B') ag.cs Z Z Z Z Z Z (e _ _ Z) Z (e _ _ Z) FK ag.BY Y q)) Z (dR 1 Z ?_);refine dq (.p (eB It)) [84,89] Z (λ _ e _ q=>ab Z (bc (E4 (lat a_0.B' i20) (lat EB.B' i20) _ La) Z Z Z (az (e _ _ Z) (az (e _ _ Z) aV)) ⟨sr,sr,trivial⟩ Tryz.call36 Z q)) Z (dR 1 Z ?_);refine dE Z (nx 1 Z ?_);refine fB [91] h1 Z (λ Is h1=>?_) λ Is h1=>?_
    ·exact nx 6 Z (mQ (hR0 _ (oi h1).symm) Z (sr))
    refine nx 4 Z (oA h1 Z Z λ HM h1=>?_);exact nx 2 Z (eX (i20+1) h1 (gE Z Z))
   exact nx 2 Z (eXi _ (oi h1).symm (gE Z Z))
  refine nx 9 Z (fN [54,55] h1 Z (λ c8 h1=>?_) λ c8 h1=>?_)
  ·refine nx 9 Z (fN [62,63,64] h1 Z (λ c9 h1=>?_) λ c9 h1=>?_)
   ·refine nx 6 Z (oS Z Z ?_);exact nx 2 Z (eX _ (oi h1).symm (gE Z Z))
   exact nx 9 Z (eX _ (oi h1).symm (gE Z Z))
  exact nx 18 Z (eX _ (oi h1).symm (gE Z Z))
 refine nx 7 Z (fN [10,11] h1 Z (λ c1 h1=>?_) λ c1 h1=>?_)
 ·refine nx 7 Z (fN [16,17,18] h1 Z (λ c2 h1=>?_) λ c2 h1=>?_)
  ·refine nx 4 Z (oS Z Z ?_);refine nx 2 Z (fN [23,24,25] h1 Z (λ c3 h1=>?_) λ c3 h1=>?_)
   ·refine nx 4 Z (oS Z Z ?_);refine nx 2 Z (fN [30,31,32] h1 Z (λ c4 h1=>?_) λ c4 h1=>?_)
    ·refine nx 7 Z (fN [37,38,39] h1 Z (λ c5 h1=>?_) λ c5 h1=>?_)
     ·refine nx 2 Z (oLl (f:=aw) Z Z ?_);refine nx 2 Z (oLl (f:=aw) Z Z ?_);exact nx 3 Z (eX _ (oi h1).symm (gE Z Z))
     exact nx 9 Z (eX _ (oi h1).symm (gE Z Z))
    exact nx 16 Z (eX _ (oi h1).symm (gE Z Z))
   exact nx 23 Z (eX _ (oi h1).symm (gE Z Z))
  exact nx 30 Z (eX _ (oi h1).symm (gE Z Z))
 exact nx 37 Z (eX _ (oi h1).symm (gE Z Z))
def cN (n:Nat)(a_0:List ac)(EB:List ac):Nat->Int->Option (Unit⊕Bool)|0,_=>none|m+1,i17=>if i17<(a_0.length:Int) then(ck ((0:Int)<=i17/\i17<(a_0.length:Int))<|ck ((0:Int)<=i17/\i17<(EB.length:Int))<|if (lat a_0 i17).By=(lat EB i17).By then ck ((0:Int)<=i17/\i17<(a_0.length:Int))<|ck ((0:Int)<=i17/\i17<(EB.length:Int))<|if (lat a_0 i17).fAt=(lat EB i17).fAt then ck ((0:Int)<=i17/\i17<(a_0.length:Int))<|ck ((0:Int)<=i17/\i17<(EB.length:Int))<|(dQ n ((lat a_0 i17).Ej) ((lat EB i17).Ej)).bind λ Hq=>some (!Hq)else some true else some true : Option Bool).bind λ KQ=>if KQ=true then some (.inr false)else ck (inR (i17+1))<|cN n a_0 EB m (i17+1)else some (.inl ())
def fK (n:Nat)(a_0:List ac)(EB:List ac):Option Bool :=if (a_0.length:Int)=(EB.length:Int) then jn (cN n a_0 EB n 0) λ _LM=>some true else some false
theorem gq (n:Nat)(a_0:List ac)(EB:List ac)(r:Bool)(h0:fK n a_0 EB=some r):aF Tryz.prog 18 [eL ae a_0,eL ae EB] (·=.p (eB r)):=by
 unfold fK at h0;refine aZ good Tryz.func18 Z Z Z λ w0=>mP (λ v:Bool=>.p (eB v)) ?_;refine nx 8 Z (oLl (f:=ae) Z Z ?_);refine nx 1 Z (oLl (f:=ae) Z Z ?_);refine nx 2 Z (fN [10] h0 Z (λ c1 h0=>?_) λ c1 h0=>?_)
 ·refine nx 8 rfl ?_;obtain ⟨H',h1,E3,hR0⟩:=bR h0;refine kEx 0 (λ H2:Unit=>H'=.inl H2) (λ H2=>⟨[],[]⟩) (λ H2 hv=>?_) ?_
  ·have h0:=E3 _ hv;exact nx 6 Z (mQ (oi h0) Z (sr))
  refine lG (λ (GY:Int)=>⟨[(0,.p (eL ae a_0)),(1,.p (eL ae EB)),(5,.p (eI GY))],[]⟩) (λ m (GY:Int)=>cN n a_0 EB m GY) Y 0 h1 (gE rfl rfl) ?_;rintro m i17 h1;replace h1:cN n a_0 EB (m+1) i17=some H':=h1;rw [cN] at h1;refine nx 5 rfl (oLl (f:=ae) rfl rfl ?_);refine nx 2 rfl (fD [14] h1 rfl (λ G7 h1=>?_) λ G7 h1=>?_)
  ·refine nx 5 Z (bd h1 λ Jz h2 h1=>?_);refine kN Jz (λ I'=>⟨[(0,.p (eL ae a_0)),(1,.p (eL ae EB)),(5,.p (eI i17)),(54,.p (eB I'))],[]⟩) ?_ ?_
   ·refine nx 1 Z (fB [54] h1 Z (λ Ic h1=>?_) λ Ic h1=>?_)
    ·exact nx 6 Z (mQ (hR0 _ (oi h1).symm) Z (sr))
    refine nx 4 Z (oA h1 Z Z λ Iq h1=>?_);exact nx 2 Z (eX (i17+1) h1 (gE Z Z))
   refine cc' h2 λ FD h2=>cc' h2 λ Fv h2=>fN (p:=(lat a_0 i17).By=(lat EB i17).By) [] h2 Z (λ c21 h2=>?_) λ c21 h2=>?_
   ·refine cc' h2 λ Fl h2=>cc' h2 λ FK h2=>fN (p:=(lat a_0 i17).fAt=(lat EB i17).fAt) [] h2 Z (λ HD h2=>?_) λ HD h2=>?_
    ·refine cc' h2 λ Gu h2=>cc' h2 λ FV h2=>bd h2 λ Hq Jp h2=>mD [(0,.p (eL ae a_0)),(1,.p (eL ae EB)),(5,.p (eI i17))] Z ⟨Z,Z,Z,trivial⟩ Z (dR 2 Z ?_);refine dq (.rptr (ac.cs (lat a_0 i17))) [17,18] Z (λ _ e _ q=>ab Z (cT (f:=ae) (l:=a_0) ac.cs Z Z Z Z Z Z (e _ _ Z) Z (e _ _ Z) FD ac.BY Y q)) Z (dR 4 Z ?_);refine dq (.rptr (ac.cs (lat EB i17))) [22,23] Z (λ _ e _ q=>ab Z (cT (f:=ae) (l:=EB) ac.cs Z Z Z Z Z Z (e _ _ Z) Z (e _ _ Z) Fv ac.BY Y q)) Z (dR 2 Z ?_);refine dq (.p (eB (!decide ((lat a_0 i17).By=(lat EB i17).By)))) [21,26] Z (λ _ e _ q=>ab Z (jv Z Z Z (e _ _ Z) (e _ _ Z) Z q)) Z (dL (jY c21) Z ?_);refine dR 2 Z (dq (.rptr (ac.cs (lat a_0 i17))) [28,29,30] Z (λ _ e _ q=>bh (cT (f:=ae) (l:=a_0) ac.cs Z Z Z Z Z Z (e _ _ Z) Z (e _ _ Z) Fl ac.BY Y q) Z Z (e _ _ Z) (rfl)) Z ?_);refine dR 4 Z (dq (.rptr (ac.cs (lat EB i17))) [28,34,35] Z (λ _ e _ q=>bh (cT (f:=ae) (l:=EB) ac.cs Z Z Z Z Z Z (e _ _ Z) Z (e _ _ Z) FK ac.BY Y q) Z Z (e _ _ Z) (rfl)) Z ?_);refine dR 2 Z (dL (jY HD) Z ?_);refine dR 4 Z (dq (.rptr (ac.cs (lat a_0 i17))) [41,42,43] Z (λ _ e _ q=>bh (cT (f:=ae) (l:=a_0) ac.cs Z Z Z Z Z Z (e _ _ Z) Z (e _ _ Z) Gu ac.BY Y q) Z Z (e _ _ Z) (rfl)) Z ?_);refine dR 4 Z (dq (.rptr (ac.cs (lat EB i17))) [41,47,48] Z (λ _ e _ q=>bh (cT (f:=ae) (l:=EB) ac.cs Z Z Z Z Z Z (e _ _ Z) Z (e _ _ Z) FV ac.BY Y q) Z Z (e _ _ Z) (rfl)) Z ?_);refine dR 2 Z (dq (.p (eB Hq)) [41,46,51] Z (λ _ e _ q=>bh (bc (rc _ ((lat a_0 i17).Ej) ((lat EB i17).Ej) _ Jp) Z Z Z (az (e _ _ Z) (az (e _ _ Z) aV)) ⟨sr,sr,trivial⟩ Tryz.call36 Z q) Z Z (e _ _ Z) (rfl)) Z ?_);refine dR 2 Z (dE Z ?_);exact nx 1 Z (eX _ (oi h2).symm (gE Z Z))
    refine mD [(0,.p (eL ae a_0)),(1,.p (eL ae EB)),(5,.p (eI i17))] Z ⟨Z,Z,Z,trivial⟩ Z (dR 2 Z ?_);refine dq (.rptr (ac.cs (lat a_0 i17))) [17,18] Z (λ _ e _ q=>ab Z (cT (f:=ae) (l:=a_0) ac.cs Z Z Z Z Z Z (e _ _ Z) Z (e _ _ Z) FD ac.BY Y q)) Z (dR 4 Z ?_);refine dq (.rptr (ac.cs (lat EB i17))) [22,23] Z (λ _ e _ q=>ab Z (cT (f:=ae) (l:=EB) ac.cs Z Z Z Z Z Z (e _ _ Z) Z (e _ _ Z) Fv ac.BY Y q)) Z (dR 2 Z ?_);refine dq (.p (eB (!decide ((lat a_0 i17).By=(lat EB i17).By)))) [21,26] Z (λ _ e _ q=>ab Z (jv Z Z Z (e _ _ Z) (e _ _ Z) Z q)) Z (dL (jY c21) Z ?_);refine dR 2 Z (dq (.rptr (ac.cs (lat a_0 i17))) [28,29,30] Z (λ _ e _ q=>bh (cT (f:=ae) (l:=a_0) ac.cs Z Z Z Z Z Z (e _ _ Z) Z (e _ _ Z) Fl ac.BY Y q) Z Z (e _ _ Z) (rfl)) Z ?_);refine dR 4 Z (dq (.rptr (ac.cs (lat EB i17))) [28,34,35] Z (λ _ e _ q=>bh (cT (f:=ae) (l:=EB) ac.cs Z Z Z Z Z Z (e _ _ Z) Z (e _ _ Z) FK ac.BY Y q) Z Z (e _ _ Z) (rfl)) Z ?_);refine dR 2 Z (dL (pW HD) Z ?_);refine dR 15 Z (dE Z ?_);exact nx 1 Z (eX _ (oi h2).symm (gE Z Z))
   refine mD [(0,.p (eL ae a_0)),(1,.p (eL ae EB)),(5,.p (eI i17))] Z ⟨Z,Z,Z,trivial⟩ Z (dR 2 Z ?_);refine dq (.rptr (ac.cs (lat a_0 i17))) [17,18] Z (λ _ e _ q=>ab Z (cT (f:=ae) (l:=a_0) ac.cs Z Z Z Z Z Z (e _ _ Z) Z (e _ _ Z) FD ac.BY Y q)) Z (dR 4 Z ?_);refine dq (.rptr (ac.cs (lat EB i17))) [22,23] Z (λ _ e _ q=>ab Z (cT (f:=ae) (l:=EB) ac.cs Z Z Z Z Z Z (e _ _ Z) Z (e _ _ Z) Fv ac.BY Y q)) Z (dR 2 Z ?_);refine dq (.p (eB (!decide ((lat a_0 i17).By=(lat EB i17).By)))) [21,26] Z (λ _ e _ q=>ab Z (jv Z Z Z (e _ _ Z) (e _ _ Z) Z q)) Z (dL (pW c21) Z ?_);refine dR 26 Z (dE Z ?_);exact nx 1 Z (eX _ (oi h2).symm (gE Z Z))
  exact nx 2 Z (eXi _ (oi h1).symm (gE Z Z))
 exact nx 6 Z (mQ (oi h0) Z (sr))
def cE (a_0:List al)(EB:List al)(i39:Int):Nat->Int->Option (Unit⊕(Unit⊕Bool))|0,_=>none|m+1,k65=>ck ((0:Int)<=i39/\i39<(a_0.length:Int))<|if k65<(((lat a_0 i39).Df).length:Int) then ck ((0:Int)<=i39/\i39<(a_0.length:Int))<|ck ((0:Int)<=k65/\k65<(((lat a_0 i39).Df).length:Int))<|ck ((0:Int)<=i39/\i39<(EB.length:Int))<|ck ((0:Int)<=k65/\k65<(((lat EB i39).Df).length:Int))<|if lat ((lat a_0 i39).Df) k65=lat ((lat EB i39).Df) k65 then ck (inR (k65+1))<|cE a_0 EB i39 m (k65+1)else some (.inr (.inr false))else some (.inl ())
def cD (n:Nat)(E7:av->av->Option Bool)(a_0:List al)(EB:List al):Nat->Int->Option (Unit⊕Bool)|0,_=>none|m+1,i39=>if i39<(a_0.length:Int) then(ck ((0:Int)<=i39/\i39<(a_0.length:Int))<|ck ((0:Int)<=i39/\i39<(EB.length:Int))<|if (lat a_0 i39).Eg=(lat EB i39).Eg then ck ((0:Int)<=i39/\i39<(a_0.length:Int))<|ck ((0:Int)<=i39/\i39<(EB.length:Int))<|if (lat a_0 i39).fAt=(lat EB i39).fAt then ck ((0:Int)<=i39/\i39<(a_0.length:Int))<|ck ((0:Int)<=i39/\i39<(EB.length:Int))<|if (((lat a_0 i39).Df).length:Int)=(((lat EB i39).Df).length:Int) then ck ((0:Int)<=i39/\i39<(a_0.length:Int))<|ck ((0:Int)<=i39/\i39<(EB.length:Int))<|(E7 ((lat a_0 i39).Es) ((lat EB i39).Es)).bind λ IL=>some (!IL)else some true else some true else some true : Option Bool).bind λ MW=>if MW=true then some (.inr false)else jn (cE a_0 EB i39 n 0) λ _q79=>ck (inR (i39+1))<|cD n E7 a_0 EB m (i39+1)else some (.inl ())
mutual
def fh:Nat->av->av->Option Bool|0,_,_=>none|n+1,a_0,EB=>((fK n a_0.A' EB.A').bind λ r1=>if r1=true then((dr n) a_0.Ar EB.Ar).bind λ r4=>some r4 else some false : Option Bool).bind λ t6=>some t6
def dr:Nat->(List al)->(List al)->Option Bool|0,_,_=>none|n+1,a_0,EB=>if (a_0.length:Int)=(EB.length:Int) then jn (cD n (fh n) a_0 EB n 0) λ _Jx=>some true else some false
end
theorem pi (n:Nat):(∀ (a_0:av) (EB:av) (r:Bool),fh n a_0 EB=some r->aF Tryz.prog 12 [.agg (av.cs a_0),.agg (av.cs EB)] (·=.p (eB r)))/\(∀ (a_0:List al) (EB:List al) (r:Bool),dr n a_0 EB=some r->aF Tryz.prog 19 [eL am a_0,eL am EB] (·=.p (eB r))):=by
 induction n with
 | zero=>exact ⟨(by intro a_0 EB r h0; cases h0),(by intro a_0 EB r h0; cases h0)⟩
 | succ n ih=>
 obtain ⟨Fe,EZ⟩:=ih;refine ⟨?_,?_⟩
 ·skip
  intro a_0 EB r h0;rw [fh] at h0;refine aZ good Tryz.func12 Z Z Z λ w0=>mP (λ v:Bool=>.p (eB v)) ?_;refine nx 7 rfl (bd h0 λ o8 h1 h0=>?_);refine kN o8 (λ v9=>⟨[(4,.p (eB v9))],[]⟩) ?_ ?_
  ·exact nx 2 Z (mQ (oi h0) Z (sr))
  refine nx 5 Z (bd h1 λ r1 e2 h1=>?_);refine oK (gq _ a_0.A' EB.A' _ e2) Z ⟨sr,sr,trivial⟩ Tryz.call18 Z (nx 1 Z ?_);refine fB [9,10] h1 Z (λ c3 h1=>?_) λ c3 h1=>?_
  ·refine nx 4 Z (bd h1 λ r4 e5 h1=>?_);refine oK (EZ a_0.Ar EB.Ar _ e5) Z ⟨sr,sr,trivial⟩ Tryz.call19 Z (nx 3 Z ?_);exact eX _ (oi h1).symm (gE Z Z)
  exact nx 8 Z (eX _ (oi h1).symm (gE Z Z))
 ·skip
  intro a_0 EB r h0;rw [dr] at h0;refine aZ good Tryz.func19 Z Z Z λ w0=>mP (λ v:Bool=>.p (eB v)) ?_;refine nx 8 rfl (oLl (f:=am) Z Z ?_);refine nx 1 rfl (oLl (f:=am) Z Z ?_);refine nx 2 rfl (fN [11] h0 rfl (λ c1 h0=>?_) λ c1 h0=>?_)
  ·refine nx 8 rfl ?_;obtain ⟨Jy,h1,E3,hR0⟩:=bR h0;refine kEx 0 (λ II:Unit=>Jy=.inl II) (λ II=>⟨[],[]⟩) (λ II hv=>?_) ?_
   ·have h0:=E3 _ hv;exact nx 6 Z (mQ (oi h0) Z (sr))
   refine lG (λ (Hs:Int)=>⟨[(0,.p (eL am a_0)),(1,.p (eL am EB)),(5,.p (eI Hs))],[]⟩) (λ m (Hs:Int)=>cD n (fh n) a_0 EB m Hs) Y 0 h1 (gE rfl rfl) ?_;rintro m i39 h1;replace h1:cD n (fh n) a_0 EB (m+1) i39=some Jy:=h1;rw [cD] at h1;refine nx 5 rfl (oLl (f:=am) rfl rfl ?_);refine nx 2 rfl (fD [15] h1 rfl (λ Js h1=>?_) λ Js h1=>?_)
   ·refine nx 6 Z (bd h1 λ KL h2 h1=>?_);refine kN KL (λ IC=>⟨[(0,.p (eL am a_0)),(1,.p (eL am EB)),(5,.p (eI i39)),(70,.p (eB IC))],[]⟩) ?_ ?_
    ·refine nx 1 Z (fB [70] h1 Z (λ NP h1=>?_) λ NP h1=>?_)
     ·exact nx 6 Z (mQ (hR0 _ (oi h1).symm) Z (sr))
     refine nx 7 rfl ?_;obtain ⟨Ji,h2,hL1,hR1⟩:=bR h1;refine kEx 2 (λ G8:Unit=>Ji=.inl G8) (λ G8=>⟨[(0,.p (eL am a_0)),(1,.p (eL am EB)),(5,.p (eI i39))],[]⟩) (λ G8 hv=>?_) ?_
     ·have h1:=hL1 _ hv;refine nx 3 Z (oA h1 Z Z λ Nn h1=>?_);exact nx 2 Z (eX (i39+1) h1 (gE Z Z))
     refine lG (λ (GL:Int)=>⟨[(0,.p (eL am a_0)),(1,.p (eL am EB)),(5,.p (eI i39)),(6,.p (eI GL))],[]⟩) (λ m (GL:Int)=>cE a_0 EB i39 m GL) Y 0 h2 (gE rfl rfl) ?_;rintro m k65 h2;replace h2:cE a_0 EB i39 (m+1) k65=some Ji:=h2;rw [cE] at h2;refine nx 6 rfl (oE h2 al.BY rfl rfl Y λ JR h2=>?_);refine nx 2 rfl (oLl (f:=eS) rfl rfl ?_);refine nx 2 rfl (fD [78] h2 rfl (λ NL h2=>?_) λ NL h2=>?_)
     ·refine nx 5 Z (cc' h2 λ IU h2=>?_);refine cc' h2 λ Iy h2=>cc' h2 λ Jn h2=>cc' h2 λ Jm h2=>mD [(0,.p (eL am a_0)),(1,.p (eL am EB)),(5,.p (eI i39)),(6,.p (eI k65))] Z ⟨Z,Z,Z,Z,trivial⟩ Z (dR 2 Z ?_);refine dq (.rptr (al.cs (lat a_0 i39))) [81,82] Z (λ _ e _ q=>ab Z (cT (f:=am) (l:=a_0) al.cs Z Z Z Z Z Z (e _ _ Z) Z (e _ _ Z) IU al.BY Y q)) Z (dR 3 Z ?_);refine dq (.rptr [eS (lat ((lat a_0 i39).Df) k65)]) [85,86] Z (λ _ e _ q=>ab Z (cT (f:=eS) (l:=(lat a_0 i39).Df) (λ x=>[eS x]) Z Z Z Z Z Z (e _ _ Z) Z (e _ _ Z) Iy Y Y q)) Z (dR 3 Z ?_);refine dq (.rptr (al.cs (lat EB i39))) [89,90] Z (λ _ e _ q=>ab Z (cT (f:=am) (l:=EB) al.cs Z Z Z Z Z Z (e _ _ Z) Z (e _ _ Z) Jn al.BY Y q)) Z (dR 3 Z ?_);refine dq (.rptr [eS (lat ((lat EB i39).Df) k65)]) [93,94] Z (λ _ e _ q=>ab Z (cT (f:=eS) (l:=(lat EB i39).Df) (λ x=>[eS x]) Z Z Z Z Z Z (e _ _ Z) Z (e _ _ Z) Jm Y Y q)) Z (dR 1 Z ?_);refine dq (.p (eB (!decide (lat ((lat a_0 i39).Df) k65=lat ((lat EB i39).Df) k65)))) [88,96] Z (λ _ e _ q=>ab Z (jv Z Z Z (e _ _ Z) (e _ _ Z) Z q)) Z (dE Z ?_);refine nx 1 Z (fN [97] h2 Z (λ Mq h2=>?_) λ Mq h2=>?_)
      ·refine nx 4 Z (oA h2 Z Z λ KA h2=>?_);exact nx 2 Z (eX (k65+1) h2 (gE Z Z))
      exact nx 6 Z (mQ (hR0 _ (hR1 _ (oi h2).symm).symm) Z (sr))
     exact nx 2 Z (eXi _ (oi h2).symm (gE Z Z))
    refine cc' h2 λ FO h2=>cc' h2 λ Gm h2=>fN (p:=(lat a_0 i39).Eg=(lat EB i39).Eg) [] h2 Z (λ HN h2=>?_) λ HN h2=>?_
    ·refine cc' h2 λ Gl h2=>cc' h2 λ GR h2=>fN (p:=(lat a_0 i39).fAt=(lat EB i39).fAt) [] h2 Z (λ c46 h2=>?_) λ c46 h2=>?_
     ·refine cc' h2 λ G2 h2=>cc' h2 λ Hf h2=>fN (p:=(((lat a_0 i39).Df).length:Int)=(((lat EB i39).Df).length:Int)) [] h2 Z (λ J1 h2=>?_) λ J1 h2=>?_
      ·refine cc' h2 λ Iz h2=>cc' h2 λ IX h2=>bd h2 λ IL Mj h2=>mD [(0,.p (eL am a_0)),(1,.p (eL am EB)),(5,.p (eI i39))] Z ⟨Z,Z,Z,trivial⟩ Z (dR 2 Z ?_);refine dq (.rptr (al.cs (lat a_0 i39))) [18,19] Z (λ _ e _ q=>ab Z (cT (f:=am) (l:=a_0) al.cs Z Z Z Z Z Z (e _ _ Z) Z (e _ _ Z) FO al.BY Y q)) Z (dR 4 Z ?_);refine dq (.rptr (al.cs (lat EB i39))) [23,24] Z (λ _ e _ q=>ab Z (cT (f:=am) (l:=EB) al.cs Z Z Z Z Z Z (e _ _ Z) Z (e _ _ Z) Gm al.BY Y q)) Z (dR 2 Z ?_);refine dq (.p (eB (!decide ((lat a_0 i39).Eg=(lat EB i39).Eg)))) [22,27] Z (λ _ e _ q=>ab Z (jv Z Z Z (e _ _ Z) (e _ _ Z) Z q)) Z (dL (jY HN) Z ?_);refine dR 2 Z (dq (.rptr (al.cs (lat a_0 i39))) [29,30,31] Z (λ _ e _ q=>bh (cT (f:=am) (l:=a_0) al.cs Z Z Z Z Z Z (e _ _ Z) Z (e _ _ Z) Gl al.BY Y q) Z Z (e _ _ Z) (rfl)) Z ?_);refine dR 4 Z (dq (.rptr (al.cs (lat EB i39))) [29,35,36] Z (λ _ e _ q=>bh (cT (f:=am) (l:=EB) al.cs Z Z Z Z Z Z (e _ _ Z) Z (e _ _ Z) GR al.BY Y q) Z Z (e _ _ Z) (rfl)) Z ?_);refine dR 2 Z (dL (jY c46) Z ?_);refine dR 4 Z (dq (.rptr (al.cs (lat a_0 i39))) [42,43,44] Z (λ _ e _ q=>bh (cT (f:=am) (l:=a_0) al.cs Z Z Z Z Z Z (e _ _ Z) Z (e _ _ Z) G2 al.BY Y q) Z Z (e _ _ Z) (rfl)) Z ?_);refine dR 2 Z (dq (.p (eI (((lat a_0 i39).Df).length:Int))) [42,47] Z (λ _ e _ q=>bh (j7 (f:=eS) (l:=(lat a_0 i39).Df) Z Z Z Z Z (e _ _ Z) Z q) Z Z (e _ _ Z) (rfl)) Z ?_);refine dR 2 Z (dq (.rptr (al.cs (lat EB i39))) [42,49,50] Z (λ _ e _ q=>bh (cT (f:=am) (l:=EB) al.cs Z Z Z Z Z Z (e _ _ Z) Z (e _ _ Z) Hf al.BY Y q) Z Z (e _ _ Z) (rfl)) Z ?_);refine dR 2 Z (dq (.p (eI (((lat EB i39).Df).length:Int))) [42,53] Z (λ _ e _ q=>bh (j7 (f:=eS) (l:=(lat EB i39).Df) Z Z Z Z Z (e _ _ Z) Z q) Z Z (e _ _ Z) (rfl)) Z ?_);refine dL (jY J1) Z (dR 4 Z ?_);refine dq (.rptr (al.cs (lat a_0 i39))) [57,58,59] Z (λ _ e _ q=>bh (cT (f:=am) (l:=a_0) al.cs Z Z Z Z Z Z (e _ _ Z) Z (e _ _ Z) Iz al.BY Y q) Z Z (e _ _ Z) (rfl)) Z (dR 4 Z ?_);refine dq (.rptr (al.cs (lat EB i39))) [57,63,64] Z (λ _ e _ q=>bh (cT (f:=am) (l:=EB) al.cs Z Z Z Z Z Z (e _ _ Z) Z (e _ _ Z) IX al.BY Y q) Z Z (e _ _ Z) (rfl)) Z (dR 2 Z ?_);refine dq (.p (eB IL)) [57,62,67] Z (λ _ e _ q=>bh (bc (Fe ((lat a_0 i39).Es) ((lat EB i39).Es) _ Mj) Z Z Z (az (e _ _ Z) (az (e _ _ Z) aV)) ⟨sr,sr,trivial⟩ Tryz.call12 Z q) Z Z (e _ _ Z) (rfl)) Z (dR 2 Z ?_);refine dE Z (nx 1 Z ?_);exact eX _ (oi h2).symm (gE Z Z)
      refine mD [(0,.p (eL am a_0)),(1,.p (eL am EB)),(5,.p (eI i39))] Z ⟨Z,Z,Z,trivial⟩ Z (dR 2 Z ?_);refine dq (.rptr (al.cs (lat a_0 i39))) [18,19] Z (λ _ e _ q=>ab Z (cT (f:=am) (l:=a_0) al.cs Z Z Z Z Z Z (e _ _ Z) Z (e _ _ Z) FO al.BY Y q)) Z (dR 4 Z ?_);refine dq (.rptr (al.cs (lat EB i39))) [23,24] Z (λ _ e _ q=>ab Z (cT (f:=am) (l:=EB) al.cs Z Z Z Z Z Z (e _ _ Z) Z (e _ _ Z) Gm al.BY Y q)) Z (dR 2 Z ?_);refine dq (.p (eB (!decide ((lat a_0 i39).Eg=(lat EB i39).Eg)))) [22,27] Z (λ _ e _ q=>ab Z (jv Z Z Z (e _ _ Z) (e _ _ Z) Z q)) Z (dL (jY HN) Z ?_);refine dR 2 Z (dq (.rptr (al.cs (lat a_0 i39))) [29,30,31] Z (λ _ e _ q=>bh (cT (f:=am) (l:=a_0) al.cs Z Z Z Z Z Z (e _ _ Z) Z (e _ _ Z) Gl al.BY Y q) Z Z (e _ _ Z) (rfl)) Z ?_);refine dR 4 Z (dq (.rptr (al.cs (lat EB i39))) [29,35,36] Z (λ _ e _ q=>bh (cT (f:=am) (l:=EB) al.cs Z Z Z Z Z Z (e _ _ Z) Z (e _ _ Z) GR al.BY Y q) Z Z (e _ _ Z) (rfl)) Z ?_);refine dR 2 Z (dL (jY c46) Z ?_);refine dR 4 Z (dq (.rptr (al.cs (lat a_0 i39))) [42,43,44] Z (λ _ e _ q=>bh (cT (f:=am) (l:=a_0) al.cs Z Z Z Z Z Z (e _ _ Z) Z (e _ _ Z) G2 al.BY Y q) Z Z (e _ _ Z) (rfl)) Z ?_);refine dR 2 Z (dq (.p (eI (((lat a_0 i39).Df).length:Int))) [42,47] Z (λ _ e _ q=>bh (j7 (f:=eS) (l:=(lat a_0 i39).Df) Z Z Z Z Z (e _ _ Z) Z q) Z Z (e _ _ Z) (rfl)) Z ?_);refine dR 2 Z (dq (.rptr (al.cs (lat EB i39))) [42,49,50] Z (λ _ e _ q=>bh (cT (f:=am) (l:=EB) al.cs Z Z Z Z Z Z (e _ _ Z) Z (e _ _ Z) Hf al.BY Y q) Z Z (e _ _ Z) (rfl)) Z ?_);refine dR 2 Z (dq (.p (eI (((lat EB i39).Df).length:Int))) [42,53] Z (λ _ e _ q=>bh (j7 (f:=eS) (l:=(lat EB i39).Df) Z Z Z Z Z (e _ _ Z) Z q) Z Z (e _ _ Z) (rfl)) Z ?_);refine dL (pW J1) Z (dR 15 Z ?_);refine dE Z (nx 1 Z ?_);exact eX _ (oi h2).symm (gE Z Z)
     refine mD [(0,.p (eL am a_0)),(1,.p (eL am EB)),(5,.p (eI i39))] Z ⟨Z,Z,Z,trivial⟩ Z (dR 2 Z ?_);refine dq (.rptr (al.cs (lat a_0 i39))) [18,19] Z (λ _ e _ q=>ab Z (cT (f:=am) (l:=a_0) al.cs Z Z Z Z Z Z (e _ _ Z) Z (e _ _ Z) FO al.BY Y q)) Z (dR 4 Z ?_);refine dq (.rptr (al.cs (lat EB i39))) [23,24] Z (λ _ e _ q=>ab Z (cT (f:=am) (l:=EB) al.cs Z Z Z Z Z Z (e _ _ Z) Z (e _ _ Z) Gm al.BY Y q)) Z (dR 2 Z ?_);refine dq (.p (eB (!decide ((lat a_0 i39).Eg=(lat EB i39).Eg)))) [22,27] Z (λ _ e _ q=>ab Z (jv Z Z Z (e _ _ Z) (e _ _ Z) Z q)) Z (dL (jY HN) Z ?_);refine dR 2 Z (dq (.rptr (al.cs (lat a_0 i39))) [29,30,31] Z (λ _ e _ q=>bh (cT (f:=am) (l:=a_0) al.cs Z Z Z Z Z Z (e _ _ Z) Z (e _ _ Z) Gl al.BY Y q) Z Z (e _ _ Z) (rfl)) Z ?_);refine dR 4 Z (dq (.rptr (al.cs (lat EB i39))) [29,35,36] Z (λ _ e _ q=>bh (cT (f:=am) (l:=EB) al.cs Z Z Z Z Z Z (e _ _ Z) Z (e _ _ Z) GR al.BY Y q) Z Z (e _ _ Z) (rfl)) Z ?_);refine dR 2 Z (dL (pW c46) Z ?_);refine dR 30 Z (dE Z ?_);exact nx 1 Z (eX _ (oi h2).symm (gE Z Z))
    refine mD [(0,.p (eL am a_0)),(1,.p (eL am EB)),(5,.p (eI i39))] Z ⟨Z,Z,Z,trivial⟩ Z (dR 2 Z ?_);refine dq (.rptr (al.cs (lat a_0 i39))) [18,19] Z (λ _ e _ q=>ab Z (cT (f:=am) (l:=a_0) al.cs Z Z Z Z Z Z (e _ _ Z) Z (e _ _ Z) FO al.BY Y q)) Z (dR 4 Z ?_);refine dq (.rptr (al.cs (lat EB i39))) [23,24] Z (λ _ e _ q=>ab Z (cT (f:=am) (l:=EB) al.cs Z Z Z Z Z Z (e _ _ Z) Z (e _ _ Z) Gm al.BY Y q)) Z (dR 2 Z ?_);refine dq (.p (eB (!decide ((lat a_0 i39).Eg=(lat EB i39).Eg)))) [22,27] Z (λ _ e _ q=>ab Z (jv Z Z Z (e _ _ Z) (e _ _ Z) Z q)) Z (dL (pW HN) Z ?_);refine dR 41 Z (dE Z ?_);exact nx 1 Z (eX _ (oi h2).symm (gE Z Z))
   exact nx 2 Z (eXi _ (oi h1).symm (gE Z Z))
  exact nx 6 Z (mQ (oi h0) Z (sr))
theorem qj (n:Nat):∀ (a_0:av) (EB:av) (r:Bool),fh n a_0 EB=some r->aF Tryz.prog 12 [.agg (av.cs a_0),.agg (av.cs EB)] (·=.p (eB r)):=(pi n).1
theorem gZ (n:Nat):∀ (a_0:List al) (EB:List al) (r:Bool),dr n a_0 EB=some r->aF Tryz.prog 19 [eL am a_0,eL am EB] (·=.p (eB r)):=(pi n).2
def eA (b_0:av)(name_1:Bk):Nat->Int->Option (Unit⊕(ac×Bool))|0,_=>none|m+1,i7=>if i7<(b_0.A'.length:Int) then ck ((0:Int)<=i7/\i7<(b_0.A'.length:Int))<|if (lat b_0.A' i7).By=name_1 then ck ((0:Int)<=i7/\i7<(b_0.A'.length:Int))<|some (.inr ((lat b_0.A' i7),true))else ck (inR (i7+1))<|eA b_0 name_1 m (i7+1)else some (.inl ())
def mU (n:Nat)(b_0:av)(name_1:Bk):Option (ac×Bool) :=jn (eA b_0 name_1 n 0) λ _q14=>some ((ac.mk ([]:Bk) (ag.mk 0 0 ([]:Bk) ([]:Bk) (ar.mk 0 0 ([]:Bk) [] []) [] 0) 0),false)
theorem uK (n:Nat)(b_0:av)(name_1:Bk)(r:ac×Bool)(h0:mU n b_0 name_1=some r):aF Tryz.prog 17 [.agg (av.cs b_0),eS name_1] (·=.tuple [.p (.agg (ac.cs r.1)),.p (eB r.2)]):=by
 unfold mU at h0;refine aZ good Tryz.func17 Z Z Z λ w0=>mP (λ v:ac×Bool=>.tuple [.p (.agg (ac.cs v.1)),.p (eB v.2)]) ?_;refine nx 12 rfl ?_;obtain ⟨JN,h1,E3,hR0⟩:=bR h0;refine kEx 0 (λ IJ:Unit=>JN=.inl IJ) (λ IJ=>⟨[(4,.ptr 4 0)],[(4,[.p (eS ([]:Bk)),.p (eI 0),.p (eI 0),.p (eS ([]:Bk)),.p (eS ([]:Bk)),.p (eI 0),.p (eI 0),.p (eS ([]:Bk)),.p (.val (.slice none 0 0)),.p (.val (.slice none 0 0)),.p (.val (.slice none 0 0)),.p (eI 0),.p (eI 0)])]⟩) (λ IJ hv=>?_) ?_
 ·have h0:=E3 _ hv;exact nx 8 Z (mQ (oi h0) Z (aG ⟨cA ⟨.inl Z,.inl Z,.inl Z,.inl Z,.inl Z,.inl Z,.inl Z,.inl Z,.inr ⟨Z,Z⟩,.inr ⟨Z,Z⟩,.inr ⟨Z,Z⟩,.inl Z,.inl Z,trivial⟩,sr,trivial⟩))
 refine lG (λ (Jh:Int)=>⟨[(1,.p (eS name_1)),(2,.ptr 2 0),(4,.ptr 4 0),(6,.p (eI Jh))],[(2,(av.cs b_0).map .p),(4,[.p (eS ([]:Bk)),.p (eI 0),.p (eI 0),.p (eS ([]:Bk)),.p (eS ([]:Bk)),.p (eI 0),.p (eI 0),.p (eS ([]:Bk)),.p (.val (.slice none 0 0)),.p (.val (.slice none 0 0)),.p (.val (.slice none 0 0)),.p (eI 0),.p (eI 0)])]⟩) (λ m (Jh:Int)=>eA b_0 name_1 m Jh) Y 0 h1 (gE rfl rfl) ?_;rintro m i7 h1;replace h1:eA b_0 name_1 (m+1) i7=some JN:=h1;rw [eA] at h1;refine nx 6 rfl (oLl (f:=ae) rfl rfl ?_);refine nx 2 rfl (fD [11] h1 rfl (λ c8 h1=>?_) λ c8 h1=>?_)
 ·refine nx 9 Z (oE h1 ac.BY Z Z Y λ Iv h1=>?_);refine nx 3 Z (oS Z Z ?_);refine nx 1 Z (fD [21] h1 Z (λ FP h1=>?_) λ FP h1=>?_)
  ·refine nx 6 Z (oE h1 ac.BY Z Z Y λ Hh h1=>?_);exact nx 5 Z (mQ (hR0 _ (oi h1).symm) Z (aG ⟨sr,sr,trivial⟩))
  refine nx 4 Z (oA h1 Z Z λ HC h1=>?_);exact nx 2 Z (eX (i7+1) h1 (gE Z Z))
 exact nx 2 Z (eXi _ (oi h1).symm (gE Z Z))
def di (b_0:av)(typ_1:Bk):Nat->(List al)->Int->Option (List al)|0,_,_=>none|m+1,Fu,i11=>if i11<(b_0.Ar.length:Int) then(ck ((0:Int)<=i11/\i11<(b_0.Ar.length:Int))<|if (lat b_0.Ar i11).Eg=typ_1 then ck ((0:Int)<=i11/\i11<(b_0.Ar.length:Int))<|ck ((Fu.length+[(lat b_0.Ar i11)].length)*96<=140737488355328)<|some (Fu++[(lat b_0.Ar i11)])else some Fu : Option (List al)).bind λ IR=>ck (inR (i11+1))<|di b_0 typ_1 m IR (i11+1)else some Fu
def kB (n:Nat)(b_0:av)(typ_1:Bk):Option (List al) :=(di b_0 typ_1 n [] 0).bind λ IQ=>some IQ
theorem oL (n:Nat)(b_0:av)(typ_1:Bk)(r:(List al))(h0:kB n b_0 typ_1=some r):aF Tryz.prog 21 [.agg (av.cs b_0),eS typ_1] (·=.p (eL am r)):=by
 unfold kB at h0;refine aZ good Tryz.func21 Z Z Z λ w0=>mP (λ v:(List al)=>.p (eL am v)) ?_;refine nx 15 Z (bd h0 λ Jl h1 h0=>?_);refine kE 0 Jl (λ Kh=>⟨[(5,.vec 29 5 0 (Kh.map am))],[]⟩) ?_ ?_
 ·exact nx 7 Z (mQ (oi h0) Z (AV.sub_vec _ _ _ _))
 refine lG (λ (GZ:(List al)×Int)=>⟨[(1,.p (eS typ_1)),(2,.ptr 2 0),(5,.vec 29 5 0 (GZ.1.map am)),(6,.p (eI GZ.2))],[(2,(av.cs b_0).map .p)]⟩) (λ m (GZ:(List al)×Int)=>di b_0 typ_1 m GZ.1 GZ.2) Y ([],0) h1 (cb (gU ⟨er rfl,er rfl,⟨_,rfl,AV.sub_nilvec _ _ _⟩,er rfl,trivial⟩ ⟨⟨_,rfl,⟨sr,sr,trivial⟩⟩,trivial⟩)) ?_;rintro m ⟨Fu,i11⟩ h1;replace h1:di b_0 typ_1 (m+1) Fu i11=some Jl:=h1;rw [di] at h1;refine nx 6 rfl (oLl (f:=am) rfl rfl ?_);refine nx 2 rfl (fD [11] h1 rfl (λ HG h1=>?_) λ HG h1=>?_)
 ·refine nx 3 Z (bd h1 λ FR h2 h1=>?_);refine kN FR (λ HZ=>⟨[(1,.p (eS typ_1)),(2,.ptr 2 0),(5,.vec 29 5 0 (HZ.map am)),(6,.p (eI i11))],[(2,(av.cs b_0).map .p)]⟩) ?_ ?_
  ·refine nx 3 Z (oA h1 Z Z λ Hg h1=>?_);exact nx 2 Z (eX (FR,i11+1) h1 (gE Z Z))
  refine nx 6 Z (oE h2 al.BY Z Z Y λ HV h2=>?_);refine nx 3 Z (oS Z Z ?_);refine nx 1 Z (fD [21] h2 Z (λ HF h2=>?_) λ HF h2=>?_)
  ·refine nx 6 Z (oE h2 al.BY Z Z Y λ Gv h2=>?_);refine nx 1 Z (mO Z (bg am [(lat b_0.Ar i11)] Z Z Z Z Z Z Z Z Z Z Z Z Z (by first|rfl|(simp only [aq,bx,al.Ef]; done)|(simp only [aq,bx,al.Ef]; rfl)) ?_));refine cc' h2 λ GT h2=>mO Z (eu am Fu [(lat b_0.Ar i11)] Z Z Z Z Z Z Z Z Z Z Z Z Z (λ x=>congrArg List.length (al.BY x)) Z Z Z Z GT ?_);exact nx 2 Z (eX _ (oi h2).symm (gE Z Z))
  exact nx 2 Z (eX _ (oi h2).symm (gE Z Z))
 exact nx 2 Z (eXi _ (oi h1).symm (gE Z Z))
def j3 (n:Nat)(b_0:av)(name_1:Bk):Option Bool :=(iq n b_0 300).bind λ r1=>if (!r1)=true then(dJ n).bind λ r4=>some r4 else(l8 n b_0 name_1).bind λ r6=>(mU n b_0 name_1).bind λ r8=>(if (r6.2==r8.2)=true then(fK n [r6.1] [r8.1]).bind λ Fq=>if Fq=true then(jl n b_0 name_1).bind λ E6=>(kB n b_0 name_1).bind λ Fs=>(dr n E6 Fs).bind λ FU=>if FU=true then(dJ n).bind λ EY=>some EY else some false else some false else some false : Option Bool).bind λ MY=>some MY
theorem qx (n:Nat)(b_0:av)(name_1:Bk)(r:Bool)(h0:j3 n b_0 name_1=some r):aF Tryz.prog 5 [.agg (av.cs b_0),eS name_1] (·=.p (eB r)):=by
 unfold j3 at h0;refine aZ good Tryz.func5 Z Z Z λ w0=>mP (λ v:Bool=>.p (eB v)) ?_;refine nx 9 Z (bd h0 λ r1 e2 h0=>?_);refine oK (g8 _ b_0 300 _ e2) Z ⟨sr,sr,trivial⟩ Tryz.call13 Z (nx 2 Z ?_);refine fB [11] h0 Z (λ c3 h0=>?_) λ c3 h0=>?_
 ·refine nx 3 Z (bd h0 λ r4 e5 h0=>?_);refine oK (fE _  _ e5) Z trivial Tryz.call9 Z (nx 3 Z ?_);exact mQ (oi h0) Z (sr)
 refine nx 6 Z (bd h0 λ r6 e7 h0=>?_);refine oK (qV _ b_0 name_1 _ e7) Z ⟨sr,sr,trivial⟩ Tryz.call16 Z (nx 11 Z ?_);refine bd h0 λ r8 e9 h0=>oK (uK _ b_0 name_1 _ e9) Z ⟨sr,sr,trivial⟩ Tryz.call17 Z (nx 8 Z ?_);refine bd h0 λ Ip h1 h0=>kN Ip (λ Ig=>⟨[(4,.p (eB Ig))],[]⟩) ?_ ?_
 ·exact nx 2 Z (mQ (oi h0) Z (sr))
 refine fB (p:=r6.2==r8.2) [] h1 Z (λ FP h1=>?_) λ FP h1=>?_
 ·refine bd h1 λ Fq Gg h1=>fB (p:=Fq) [] h1 Z (λ FS h1=>?_) λ FS h1=>?_
  ·refine bd h1 λ E6 H0 h1=>bd h1 λ Fs GV h1=>bd h1 λ FU Iw h1=>fB (p:=FU) [] h1 Z (λ c20 h1=>?_) λ c20 h1=>?_
   ·refine bd h1 λ EY Ir h1=>mD [(1,.p (eS name_1)),(2,.ptr 2 0),(5,.ptr 5 0),(6,.p (eB r6.2)),(7,.ptr 7 0),(8,.p (eB r8.2))] Z ⟨Z,Z,Z,Z,Z,Z,trivial⟩ Z (dR 2 Z ?_);refine dL (FP) Z (dR 2 Z ?_);refine dq (.p (eL ae [r6.1])) [28,29] Z (λ _ e _ q=>bh (bg ae [r6.1] Z Z Z Z Z Z (b7 (e _ _ Z) Z cG) Z Z Z Z Z Z (by first|rfl|(simp only [aq,bx,ac.Ef]; done)|(simp only [aq,bx,ac.Ef]; rfl)) q) Z Z (e _ _ Z) (rfl)) Z (dR 1 Z ?_);refine dq (.p (eL ae [r8.1])) [28,31] Z (λ _ e _ q=>bh (bg ae [r8.1] Z Z Z Z Z Z (b7 (e _ _ Z) Z cG) Z Z Z Z Z Z (by first|rfl|(simp only [aq,bx,ac.Ef]; done)|(simp only [aq,bx,ac.Ef]; rfl)) q) Z Z (e _ _ Z) (rfl)) Z (dq (.p (eB Fq)) [28,30,32] Z (λ _ e _ q=>bh (bc (gq _ [r6.1] [r8.1] _ Gg) Z Z Z (az (e _ _ Z) (az (e _ _ Z) aV)) ⟨sr,sr,trivial⟩ Tryz.call18 Z q) Z Z (e _ _ Z) (rfl)) Z ?_);refine dL (FS) Z (dR 3 Z ?_);refine dq (.p (eL am E6)) [35,36,37] Z (λ _ e _ q=>bh (bc (kO _ b_0 name_1 _ H0) Z Z Z (az (e _ _ Z) (az (e _ _ Z) aV)) ⟨sr,sr,trivial⟩ Tryz.call20 Z q) Z Z (e _ _ Z) (rfl)) Z (dR 2 Z ?_);refine dq (.p (eL am Fs)) [35,39,40] Z (λ _ e _ q=>bh (bc (oL _ b_0 name_1 _ GV) Z Z Z (az (e _ _ Z) (az (e _ _ Z) aV)) ⟨sr,sr,trivial⟩ Tryz.call21 Z q) Z Z (e _ _ Z) (rfl)) Z (dq (.p (eB FU)) [35,38,41] Z (λ _ e _ q=>bh (bc (gZ _ E6 Fs _ Iw) Z Z Z (az (e _ _ Z) (az (e _ _ Z) aV)) ⟨sr,sr,trivial⟩ Tryz.call19 Z q) Z Z (e _ _ Z) (rfl)) Z ?_);refine dL (c20) Z (dR 1 Z ?_);refine dq (.p (eB EY)) [44] Z (λ _ e _ q=>bh (bc (fE _  _ Ir) Z Z Z aV trivial Tryz.call9 Z q) Z Z (e _ _ Z) (rfl)) Z (dR 2 Z ?_);refine dE Z (nx 1 Z ?_);exact eX _ (oi h1).symm (gE Z Z)
   refine mD [(1,.p (eS name_1)),(2,.ptr 2 0),(5,.ptr 5 0),(6,.p (eB r6.2)),(7,.ptr 7 0),(8,.p (eB r8.2))] Z ⟨Z,Z,Z,Z,Z,Z,trivial⟩ Z (dR 2 Z ?_);refine dL (FP) Z (dR 2 Z ?_);refine dq (.p (eL ae [r6.1])) [28,29] Z (λ _ e _ q=>bh (bg ae [r6.1] Z Z Z Z Z Z (b7 (e _ _ Z) Z cG) Z Z Z Z Z Z (by first|rfl|(simp only [aq,bx,ac.Ef]; done)|(simp only [aq,bx,ac.Ef]; rfl)) q) Z Z (e _ _ Z) (rfl)) Z (dR 1 Z ?_);refine dq (.p (eL ae [r8.1])) [28,31] Z (λ _ e _ q=>bh (bg ae [r8.1] Z Z Z Z Z Z (b7 (e _ _ Z) Z cG) Z Z Z Z Z Z (by first|rfl|(simp only [aq,bx,ac.Ef]; done)|(simp only [aq,bx,ac.Ef]; rfl)) q) Z Z (e _ _ Z) (rfl)) Z (dq (.p (eB Fq)) [28,30,32] Z (λ _ e _ q=>bh (bc (gq _ [r6.1] [r8.1] _ Gg) Z Z Z (az (e _ _ Z) (az (e _ _ Z) aV)) ⟨sr,sr,trivial⟩ Tryz.call18 Z q) Z Z (e _ _ Z) (rfl)) Z ?_);refine dL (FS) Z (dR 3 Z ?_);refine dq (.p (eL am E6)) [35,36,37] Z (λ _ e _ q=>bh (bc (kO _ b_0 name_1 _ H0) Z Z Z (az (e _ _ Z) (az (e _ _ Z) aV)) ⟨sr,sr,trivial⟩ Tryz.call20 Z q) Z Z (e _ _ Z) (rfl)) Z (dR 2 Z ?_);refine dq (.p (eL am Fs)) [35,39,40] Z (λ _ e _ q=>bh (bc (oL _ b_0 name_1 _ GV) Z Z Z (az (e _ _ Z) (az (e _ _ Z) aV)) ⟨sr,sr,trivial⟩ Tryz.call21 Z q) Z Z (e _ _ Z) (rfl)) Z (dq (.p (eB FU)) [35,38,41] Z (λ _ e _ q=>bh (bc (gZ _ E6 Fs _ Iw) Z Z Z (az (e _ _ Z) (az (e _ _ Z) aV)) ⟨sr,sr,trivial⟩ Tryz.call19 Z q) Z Z (e _ _ Z) (rfl)) Z ?_);refine dL (c20) Z (dR 4 Z ?_);refine dE Z (nx 1 Z ?_);exact eX _ (oi h1).symm (gE Z Z)
  refine mD [(1,.p (eS name_1)),(2,.ptr 2 0),(5,.ptr 5 0),(6,.p (eB r6.2)),(7,.ptr 7 0),(8,.p (eB r8.2))] Z ⟨Z,Z,Z,Z,Z,Z,trivial⟩ Z (dR 2 Z ?_);refine dL (FP) Z (dR 2 Z ?_);refine dq (.p (eL ae [r6.1])) [28,29] Z (λ _ e _ q=>bh (bg ae [r6.1] Z Z Z Z Z Z (b7 (e _ _ Z) Z cG) Z Z Z Z Z Z (by first|rfl|(simp only [aq,bx,ac.Ef]; done)|(simp only [aq,bx,ac.Ef]; rfl)) q) Z Z (e _ _ Z) (rfl)) Z (dR 1 Z ?_);refine dq (.p (eL ae [r8.1])) [28,31] Z (λ _ e _ q=>bh (bg ae [r8.1] Z Z Z Z Z Z (b7 (e _ _ Z) Z cG) Z Z Z Z Z Z (by first|rfl|(simp only [aq,bx,ac.Ef]; done)|(simp only [aq,bx,ac.Ef]; rfl)) q) Z Z (e _ _ Z) (rfl)) Z (dq (.p (eB Fq)) [28,30,32] Z (λ _ e _ q=>bh (bc (gq _ [r6.1] [r8.1] _ Gg) Z Z Z (az (e _ _ Z) (az (e _ _ Z) aV)) ⟨sr,sr,trivial⟩ Tryz.call18 Z q) Z Z (e _ _ Z) (rfl)) Z ?_);refine dL (FS) Z (dR 13 Z ?_);refine dE Z (nx 1 Z ?_);exact eX _ (oi h1).symm (gE Z Z)
 refine mD [(1,.p (eS name_1)),(2,.ptr 2 0),(5,.ptr 5 0),(6,.p (eB r6.2)),(7,.ptr 7 0),(8,.p (eB r8.2))] Z ⟨Z,Z,Z,Z,Z,Z,trivial⟩ Z (dR 2 Z ?_);refine dL (FP) Z (dR 20 Z ?_);refine dE Z (nx 1 Z ?_);exact eX _ (oi h1).symm (gE Z Z)
end Go.Ab.R06
end
section
namespace Go.Ab.R06
open Go.Ab Go.Ab.RB Go.Lib
theorem zf {α:Type} [Inhabited α] (l:List α){i:Nat}(h:i<l.length):l.set (i:Int).toNat (lat l (i:Int))=l:=by
 rw [lw l i h,Int.toNat_natCast,List.set_getElem_self]
theorem yp {v:ar}(hb:ar.Bd v):Ev2 (λ n _=>dM n v) (·=v):=by
 induction hb with
 | @mk x bKind bNum bStr bItems eItems bKeys eKeys ih=>
  unfold cH at bItems bKeys;refine fJ ?_;simp only [dM];refine aI O (bv (λ h=>?_) (λ h=>aI O ?_))
  ·have h0:x.Ei=[]:=by simpa using h
   refine aN () (bN (f:=λ n m=>g6 (dM n) m) (aJ ?_)) (ak ?_)
   ·simp only [g6];exact aR G (ak trivial)
   ·conv=>rhs; rw [<- ar.eta x]
    rw [h0]
  ·have loop:∀ (k i:Nat),i+k=x.Ei.length->Ev2 (λ n m=>ef (dM n) x m (i:Int) x.Ei) (·=x.Ei):=by
    intro k
    induction k with
    | zero=>intro i hi; refine aJ ?_; simp only [ef]; exact aR O (ak rfl)
    | succ k ihk=>
     intro i hi;refine aJ ?_;simp only [ef];refine aS O (aI O (aN _ (ih _ (dX O)) (aI O (aI (bb O O) ?_))));rw [zf _ O];exact bO (P:=λ j=>Ev2 (λ n m=>ef (dM n) x m j x.Ei) _) (ihk (i+1) O)
   exact aN _ (bN (f:=λ n m=>ef (dM n) x m 0 x.Ei) (loop x.Ei.length 0 O)) (ak (ar.eta x))
theorem sj {e:ag}(hb:ag.Bd e):Ev2 (λ n _=>bZ n e) (·=e):=by
 induction hb with
 | @mk x bKind bOp bName bKey bValue bKids eKids bAt ih=>
  unfold cH at bKids;refine fJ ?_;simp only [bZ];refine aN _ (yp bValue) (bv (λ h=>?_) (λ h=>aI O ?_))
  ·have h0:x.B'=[]:=by simpa using h
   refine aN () (bN (f:=λ n m=>fe (bZ n) m) (aJ ?_)) (ak ?_)
   ·simp only [fe];exact aR G (ak trivial)
   ·conv=>rhs; rw [<- ag.eta x]
    rw [h0]
  ·have loop:∀ (k i:Nat),i+k=x.B'.length->Ev2 (λ n m=>cP (bZ n) x m (i:Int) x.B') (·=x.B'):=by
    intro k
    induction k with
    | zero=>intro i hi; refine aJ ?_; simp only [cP]; exact aR O (ak rfl)
    | succ k ihk=>
     intro i hi;refine aJ ?_;simp only [cP];refine aS O (aI O (aN _ (ih _ (dX O)) (aI O (aI (bb O O) ?_))));rw [zf _ O];exact bO (P:=λ j=>Ev2 (λ n m=>cP (bZ n) x m j x.B') _) (ihk (i+1) O)
   exact aN _ (bN (f:=λ n m=>cP (bZ n) x m 0 x.B') (loop x.B'.length 0 O)) (ak (ag.eta x))
theorem jZ {α:Type} [Inhabited α] (l:List α){i:Nat}(h:i<l.length):l.take i++[lat l (i:Int)]=l.take (i+1):=by
 rw [lw l i h,List.take_succ_eq_append_getElem h]
theorem sa {k:al}(hb:al.Bd k)(h:Ev2 (λ n _=>eP n k.Es) (·=k.Es)):Ev2 (λ n _=>cu n k) (·=k):=by
 have hl:=hb.bLabels;unfold cH at hl;refine fJ ?_;simp only [cu];exact aI O (aN _ h (ak (by cases k; rfl)))
theorem rS:∀ b,av.Bd b->Ev2 (λ n _=>eP n b) (·=b):=by
 refine av.Bd.ind (λ b hb ih=>?_);have la:=hb.bAttrs;have lb:=hb.bBlocks;unfold cH at la lb;refine fJ ?_;simp only [eP]
 have loop1:∀ (k i:Nat),i+k=b.A'.length->Ev2 (λ n m=>cK n b m (i:Int) (b.A'.take i)) (·=b.A'):=by
  intro k
  induction k with
  | zero=>
   intro i hi;refine aJ ?_;simp only [cK];exact aR O (ak (List.take_of_length_le O))
  | succ k ihk=>
   intro i hi;have hm:lat b.A' (i:Int)∈b.A':=dX O;refine aJ ?_;simp only [cK];refine aS O (aI O (aN _ (sj (hb.eAttrs _ hm).bExpr) (aI ?_ (aI (bb O O) ?_))))
   ·rw [sm,wr]; omega
   ·have e:(ac.mk (lat b.A' (i:Int)).By (lat b.A' (i:Int)).Ej (lat b.A' (i:Int)).fAt)=lat b.A' (i:Int):=by cases lat b.A' (i:Int); rfl
    rw [e,jZ _ O];exact bO (P:=λ j=>Ev2 (λ n m=>cK n b m j _) _) (ihk (i+1) O)
 have loop2:∀ (k i:Nat),i+k=b.Ar.length->Ev2 (λ n m=>cO (cu n) b m (i:Int) (b.Ar.take i)) (·=b.Ar):=by
  intro k
  induction k with
  | zero=>
   intro i hi;refine aJ ?_;simp only [cO];exact aR O (ak (List.take_of_length_le O))
  | succ k ihk=>
   intro i hi;have hm:lat b.Ar (i:Int)∈b.Ar:=dX O;refine aJ ?_;simp only [cO];refine aS O (aI O (aN _ (sa (hb.eBlocks _ hm) (ih _ hm)) (aI ?_ (aI (bb O O) ?_))))
   ·rw [sm,wr]; omega
   ·rw [jZ _ O];exact bO (P:=λ j=>Ev2 (λ n m=>cO (cu n) b m j _) _) (ihk (i+1) O)
 refine aN _ (bN (f:=λ n m=>cK n b m 0 []) (loop1 b.A'.length 0 O)) (aN _ (bN (f:=λ n m=>cO (cu n) b m 0 []) (loop2 b.Ar.length 0 O)) (ak ?_))
 cases b; rfl
theorem w3 {k:al}(hb:al.Bd k):Ev2 (λ n _=>cu n k) (·=k):=sa hb (rS _ hb.bBody)
theorem Ai {e:ag}(hb:ag.Bd e):Ev2 (λ n _=>dQ n e e) (·=true):=by
 induction hb with
 | @mk x bKind bOp bName bKey bValue bKids eKids bAt ih=>
  unfold cH at bKids;refine fJ ?_;simp only [dQ];refine aN false (aS trivial (aS trivial (aS trivial (aS trivial (aS trivial (ak G)))))) (aR (by decide) (aN false (aS trivial (aS trivial (ak G))) (aR (by decide) ?_)))
  have loop:∀ (k i:Nat),i+k=x.B'.length->Ev2 (λ n m=>dd (dQ n) x x m (i:Int)) (·=.inl ()):=by
   intro k
   induction k with
   | zero=>intro i hi; refine aJ ?_; simp only [dd]; exact aR O (ak rfl)
   | succ k ihk=>
    intro i hi;refine aJ ?_;simp only [dd];refine aS O (aI O (aI O (aN _ (ih _ (dX O)) (aR (by decide) (aI (bb O O) ?_)))));exact bO (P:=λ j=>Ev2 (λ n m=>dd (dQ n) x x m j) _) (ihk (i+1) O)
  exact ee () (bN (f:=λ n m=>dd (dQ n) x x m 0) (loop x.B'.length 0 O)) (ak Z)
theorem tL (l:List ac)(hb:∀ a∈l,ag.Bd a.Ej)(hl:l.length<=1000000000000000):Ev2 (λ n _=>fK n l l) (·=true):=by
 simp only [fK];refine aS trivial ?_
 have loop:∀ (k i:Nat),i+k=l.length->Ev2 (λ n m=>cN n l l m (i:Int)) (·=.inl ()):=by
  intro k
  induction k with
  | zero=>intro i hi; refine aJ ?_; simp only [cN]; exact aR O (ak rfl)
  | succ k ihk=>
   intro i hi;refine aJ ?_;simp only [cN];refine aS O (aN false (aI O (aI O (aS trivial (aI O (aI O (aS trivial (aI O (aI O (aN true (Ai (hb _ (dX O))) (ak rfl)))))))))) (aR (by decide) (aI (bb O O) ?_)));exact bO (P:=λ j=>Ev2 (λ n m=>cN n l l m j) _) (ihk (i+1) O)
 exact ee () (bN (f:=λ n m=>cN n l l m 0) (loop l.length 0 O)) (ak Z)
theorem xk (l:List al)(hb:∀ k∈l,Ev2 (λ n _=>fh n k.Es k.Es) (·=true))(hk:∀ k∈l,k.Df.length<=1000000000000000)(hl:l.length<=1000000000000000):Ev2 (λ n _=>dr n l l) (·=true):=by
 refine fJ ?_;simp only [dr];refine aS trivial ?_
 have labels:∀ (i:Nat),i<l.length->∀ (k j:Nat),j+k=(lat l (i:Int)).Df.length->Ev2 (λ _ m=>cE l l (i:Int) m (j:Int)) (·=.inl ()):=by
  intro i hi k;have h9:=hk _ (dX (l:=l) (i:=(i:Int)) O)
  induction k with
  | zero=>intro j hj; refine aJ ?_; simp only [cE]; exact aI O (aR O (ak rfl))
  | succ k ihk=>
   intro j hj;refine aJ ?_;simp only [cE];refine aI O (aS O (aI O (aI O (aI O (aI O (aS trivial (aI (bb O O) ?_)))))));exact bO (P:=λ j=>Ev2 (λ _ m=>cE l l (i:Int) m j) _) (ihk (j+1) O)
 have loop:∀ (k i:Nat),i+k=l.length->Ev2 (λ n m=>cD n (fh n) l l m (i:Int)) (·=.inl ()):=by
  intro k
  induction k with
  | zero=>intro i hi; refine aJ ?_; simp only [cD]; exact aR O (ak rfl)
  | succ k ihk=>
   intro i hi;refine aJ ?_;simp only [cD];refine aS O (aN false (aI O (aI O (aS trivial (aI O (aI O (aS trivial (aI O (aI O (aS trivial (aI O (aI O (aN true (hb _ (dX O)) (ak rfl))))))))))))) (aR (by decide) ?_));refine ee () (bN (f:=λ _ m=>cE l l (i:Int) m 0) (labels i O (lat l (i:Int)).Df.length 0 O)) (aI (bb O O) ?_);exact bO (P:=λ j=>Ev2 (λ n m=>cD n (fh n) l l m j) _) (ihk (i+1) O)
 exact ee () (bN (f:=λ n m=>cD n (fh n) l l m 0) (loop l.length 0 O)) (ak Z)
theorem y6 {k:al}(hb:al.Bd k):k.Df.length<=1000000000000000:=by have:=hb.bLabels; unfold cH at this; omega
theorem y9:∀ b,av.Bd b->Ev2 (λ n _=>fh n b b) (·=true):=by
 refine av.Bd.ind (λ b hb ih=>?_);have la:=hb.bAttrs;have lb:=hb.bBlocks;unfold cH at la lb;refine fJ ?_;simp only [fh];exact aN true (aN true (tL _ (λ a ha=>(hb.eAttrs a ha).bExpr) O) (aS Z (aN true (xk _ ih (λ k hk=>y6 (hb.eBlocks k hk)) O) (ak Z)))) (ak Z)
theorem xh (l:List al)(hb:∀ k∈l,al.Bd k)(hl:l.length<=1000000000000000):Ev2 (λ n _=>dr n l l) (·=true) :=
 xk l (λ k hk=>y9 _ (hb k hk).bBody) (λ k hk=>y6 (hb k hk)) hl
def noA:ac:=ac.mk ([]:Bk) (ag.mk 0 0 ([]:Bk) ([]:Bk) (ar.mk 0 0 ([]:Bk) [] []) [] 0) 0
def xH (l:List ac)(name:Bk):ac×Bool:=match l.find? (λ a=>decide (a.By=name)) with
 | some a=>(a,true)
 | none=>(noA,false)
theorem Bv {b:av}(hb:av.Bd b)(name:Bk):Ev2 (λ n _=>l8 n b name) (·=xH b.A' name):=by
 have la:=hb.bAttrs;unfold cH at la;simp only [l8]
 have loop:∀ (k i:Nat),i+k=b.A'.length->Ev2 (λ n m=>fu n b name m (i:Int)) (·=match (b.A'.drop i).find? (λ a=>decide (a.By=name)) with|some a=>.inr (a,true)|none=>.inl ()):=by
  intro k
  induction k with
  | zero=>
   intro i hi;refine aJ ?_;simp only [fu];refine aR O (ak ?_);rw [rg O]; rfl
  | succ k ihk=>
   intro i hi;have hm:lat b.A' (i:Int)∈b.A':=dX O;refine aJ ?_;simp only [fu];rw [cX _ O,List.find?_cons];refine aS O (aI O (bv (λ h=>?_) (λ h=>aI (bb O O) ?_)))
   ·refine aN _ (sj (hb.eAttrs _ hm).bExpr) (ak ?_);rw [decide_eq_true h]
   ·rw [decide_eq_false h];exact bO (P:=λ j=>Ev2 (λ n m=>fu n b name m j) _) (ihk (i+1) O)
 have h:=bN (f:=λ n m=>fu n b name m 0) (loop b.A'.length 0 O);rw [List.drop_zero] at h;unfold xH
 cases hf:b.A'.find? (λ a=>decide (a.By=name)) with
 | none=>rw [hf] at h; exact ee () h (ak rfl)
 | some a=>rw [hf] at h; exact jh _ h rfl
theorem AX {b:av}(hb:av.Bd b)(name:Bk):Ev2 (λ n _=>mU n b name) (·=xH b.A' name):=by
 have la:=hb.bAttrs;unfold cH at la;simp only [mU]
 have loop:∀ (k i:Nat),i+k=b.A'.length->Ev2 (λ _ m=>eA b name m (i:Int)) (·=match (b.A'.drop i).find? (λ a=>decide (a.By=name)) with|some a=>.inr (a,true)|none=>.inl ()):=by
  intro k
  induction k with
  | zero=>
   intro i hi;refine aJ ?_;simp only [eA];refine aR O (ak ?_);rw [rg O]; rfl
  | succ k ihk=>
   intro i hi;refine aJ ?_;simp only [eA];rw [cX _ O,List.find?_cons];refine aS O (aI O (bv (λ h=>aI O (ak ?_)) (λ h=>aI (bb O O) ?_)))
   ·rw [decide_eq_true h]
   ·rw [decide_eq_false h];exact bO (P:=λ j=>Ev2 (λ _ m=>eA b name m j) _) (ihk (i+1) O)
 have h:=bN (f:=λ _ m=>eA b name m 0) (loop b.A'.length 0 O);rw [List.drop_zero] at h;unfold xH
 cases hf:b.A'.find? (λ a=>decide (a.By=name)) with
 | none=>rw [hf] at h; exact ee () h (ak rfl)
 | some a=>rw [hf] at h; exact jh _ h rfl
theorem Cg {b:av}(hb:av.Bd b)(name:Bk):ag.Bd (xH b.A' name).1.Ej:=by
 unfold xH;split
 ·rename_i a h; exact (hb.eAttrs a (List.mem_of_find?_eq_some h)).bExpr
 ·have hv:ar.Bd (ar.mk 0 0 ([]:Bk) [] []):=.mk (bb (by decide) (by decide)) (bb (by decide) (by decide)) (by decide) (by decide) (λ y hy=>by cases hy) (by decide) (λ y hy=>by cases hy);exact .mk (bb (by decide) (by decide)) (bb (by decide) (by decide)) (by decide) (by decide) hv (by decide) (λ y hy=>by cases hy) (bb (by decide) (by decide))
def uG (l:List al)(typ:Bk):List al:=l.filter λ k=>decide (k.Eg=typ)
theorem tu {b:av}(hb:av.Bd b)(typ:Bk):Ev2 (λ n _=>jl n b typ) (·=uG b.Ar typ):=by
 have lb:=hb.bBlocks;unfold cH at lb;simp only [jl]
 have loop:∀ (k i:Nat) (out:List al),i+k=b.Ar.length->out.length<=i->Ev2 (λ n m=>dI n b typ m out (i:Int)) (·=out++uG (b.Ar.drop i) typ):=by
  intro k
  induction k with
  | zero=>
   intro i out hi ho;refine aJ ?_;simp only [dI];refine aR O (ak ?_);rw [rg O]; simp [uG]
  | succ k ihk=>
   intro i out hi ho;have hm:lat b.Ar (i:Int)∈b.Ar:=dX O;refine aJ ?_;simp only [dI];rw [cX _ O];unfold uG;rw [List.filter_cons];by_cases h:(lat b.Ar (i:Int)).Eg=typ
   ·rw [if_pos (show decide ((lat b.Ar (i:Int)).Eg=typ)=true by simpa using h)];refine aS O (aN _ (aI O (aS h (aN _ (w3 (hb.eBlocks _ hm)) (aI (by rw [wr]; omega) (ak rfl))))) (aI (bb O O) ?_));have:=bO (P:=λ j=>Ev2 (λ n m=>dI n b typ m (out++[lat b.Ar (i:Int)]) j) _) (ihk (i+1) (out++[lat b.Ar (i:Int)]) O (by rw [qr,wr]; omega))
    rwa [List.append_assoc] at this
   ·rw [if_neg (show ¬ decide ((lat b.Ar (i:Int)).Eg=typ)=true by simpa using h)];refine aS O (aN _ (aI O (aR h (ak rfl))) (aI (bb O O) ?_));exact bO (P:=λ j=>Ev2 (λ n m=>dI n b typ m out j) _) (ihk (i+1) out O O)
 exact aN _ (bN (f:=λ n m=>dI n b typ m [] 0) (loop b.Ar.length 0 [] O (by decide))) (ak G)
theorem x4 {b:av}(hb:av.Bd b)(typ:Bk):Ev2 (λ n _=>kB n b typ) (·=uG b.Ar typ):=by
 have lb:=hb.bBlocks;unfold cH at lb;simp only [kB]
 have loop:∀ (k i:Nat) (out:List al),i+k=b.Ar.length->out.length<=i->Ev2 (λ _ m=>di b typ m out (i:Int)) (·=out++uG (b.Ar.drop i) typ):=by
  intro k
  induction k with
  | zero=>
   intro i out hi ho;refine aJ ?_;simp only [di];refine aR O (ak ?_);rw [rg O]; simp [uG]
  | succ k ihk=>
   intro i out hi ho;refine aJ ?_;simp only [di];rw [cX _ O];unfold uG;rw [List.filter_cons];by_cases h:(lat b.Ar (i:Int)).Eg=typ
   ·rw [if_pos (show decide ((lat b.Ar (i:Int)).Eg=typ)=true by simpa using h)];refine aS O ?_;refine aN (out++[lat b.Ar (i:Int)]) ?_ (aI (bb O O) ?_)
    ·refine aI O ?_;refine aS h ?_;refine aI O ?_;refine aI (by rw [wr]; omega) ?_;exact ak Z
    have:=bO (P:=λ j=>Ev2 (λ _ m=>di b typ m (out++[lat b.Ar (i:Int)]) j) _) (ihk (i+1) (out++[lat b.Ar (i:Int)]) O (by rw [qr,wr]; omega))
    rwa [List.append_assoc] at this
   ·rw [if_neg (show ¬ decide ((lat b.Ar (i:Int)).Eg=typ)=true by simpa using h)];refine aS O ?_;refine aN out ?_ (aI (bb O O) ?_)
    ·refine aI O ?_;exact aR h (ak Z)
    exact bO (P:=λ j=>Ev2 (λ _ m=>di b typ m out j) _) (ihk (i+1) out O O)
 exact aN _ (bN (f:=λ _ m=>di b typ m [] 0) (loop b.Ar.length 0 [] O (by decide))) (ak G)
theorem zX {b:av}(hb:av.Bd b)(name:Bk)(haw:Ev2 (λ n _=>dJ n) (·=true)):Ev2 (λ n _=>j3 n b name) (·=true):=by
 have lb:=hb.bBlocks;unfold cH at lb;simp only [j3];refine d6 _ (pR hb) (λ r _=>?_);refine bv (λ _=>d6 _ haw (λ t ht=>ak ht)) (λ _=>?_);refine aN _ (Bv hb name) (aN _ (AX hb name) ?_);refine aN true ?_ (ak Z);refine aS G ?_;refine aN true (tL [(xH b.A' name).1] (λ a ha=>?_) G) ?_
 ·rw [List.mem_singleton.1 ha]; exact Cg hb name
 refine aS Z ?_;refine aN _ (tu hb name) (aN _ (x4 hb name) ?_);refine aN true (xh _ (λ k hk=>hb.eBlocks k (List.mem_filter.1 hk).1) ?_) (aS Z (aN true haw (ak Z)));have:=List.length_filter_le (λ k=>decide (k.Eg=name)) b.Ar;unfold uG; omega
end Go.Ab.R06
end
section
namespace Go.Ab.R06
open Go.Proofs Go.Ab Go.Ab.RB
attribute [local irreducible] awp gg ba aF aU AV.sub M cB
def fp (l_0:List Bk)(s_1:Bk):Nat->Int->Option (Unit⊕Bool)|0,_=>none|m+1,i6=>if i6<(l_0.length:Int) then ck ((0:Int)<=i6/\i6<(l_0.length:Int))<|if lat l_0 i6=s_1 then some (.inr true)else ck (inR (i6+1))<|fp l_0 s_1 m (i6+1)else some (.inl ())
def l7 (n:Nat)(l_0:List Bk)(s_1:Bk):Option Bool :=jn (fp l_0 s_1 n 0) λ _q12=>some false
theorem qE (n:Nat)(l_0:List Bk)(s_1:Bk)(r:Bool)(h0:l7 n l_0 s_1=some r):aF Tryz.prog 44 [eL eS l_0,eS s_1] (·=.p (eB r)):=by
 unfold l7 at h0;refine aZ good Tryz.func44 Z Z Z λ w0=>mP (λ v:Bool=>.p (eB v)) ?_;refine nx 10 rfl ?_;obtain ⟨KN,h1,E3,hR0⟩:=bR h0;refine kEx 0 (λ JG:Unit=>KN=.inl JG) (λ JG=>⟨[],[]⟩) (λ JG hv=>?_) ?_
 ·have h0:=E3 _ hv;exact nx 6 Z (mQ (oi h0) Z (sr))
 refine lG (λ (Hl:Int)=>⟨[(0,.p (eL eS l_0)),(1,.p (eS s_1)),(5,.p (eI Hl))],[]⟩) (λ m (Hl:Int)=>fp l_0 s_1 m Hl) Y 0 h1 (gE rfl rfl) ?_;rintro m i6 h1;replace h1:fp l_0 s_1 (m+1) i6=some KN:=h1;rw [fp] at h1;refine nx 5 rfl (oLl (f:=eS) rfl rfl ?_);refine nx 2 rfl (fD [9] h1 rfl (λ c7 h1=>?_) λ c7 h1=>?_)
 ·refine nx 8 Z (oE h1 Y Z Z Y λ JQ h1=>?_);refine nx 2 Z (oS Z Z ?_);refine nx 1 Z (fD [17] h1 Z (λ c9 h1=>?_) λ c9 h1=>?_)
  ·exact nx 6 Z (mQ (hR0 _ (oi h1).symm) Z (sr))
  refine nx 4 Z (oA h1 Z Z λ Gn h1=>?_);exact nx 2 Z (eX (i6+1) h1 (gE Z Z))
 exact nx 2 Z (eXi _ (oi h1).symm (gE Z Z))
def cY (n:Nat)(b_0:av)(attrs_1:List Bk):Nat->Int->(List ac)->Option (List ac)|0,_,_=>none|m+1,i12,GA=>if i12<(b_0.A'.length:Int) then(ck ((0:Int)<=i12/\i12<(b_0.A'.length:Int))<|(l7 n attrs_1 ((lat b_0.A' i12).By)).bind λ Fs=>if (!Fs)=true then ck ((0:Int)<=i12/\i12<(b_0.A'.length:Int))<|ck ((GA.length+[(lat b_0.A' i12)].length)*184<=140737488355328)<|some (GA++[(lat b_0.A' i12)])else some GA : Option (List ac)).bind λ K6=>ck (inR (i12+1))<|cY n b_0 attrs_1 m (i12+1) K6 else some GA
def cU (n:Nat)(b_0:av)(blocks_2:List Bk):Nat->Int->(List al)->Option (List al)|0,_,_=>none|m+1,i37,Fp=>if i37<(b_0.Ar.length:Int) then(ck ((0:Int)<=i37/\i37<(b_0.Ar.length:Int))<|(l7 n blocks_2 ((lat b_0.Ar i37).Eg)).bind λ Lp=>if (!Lp)=true then ck ((0:Int)<=i37/\i37<(b_0.Ar.length:Int))<|ck ((Fp.length+[(lat b_0.Ar i37)].length)*96<=140737488355328)<|some (Fp++[(lat b_0.Ar i37)])else some Fp : Option (List al)).bind λ LD=>ck (inR (i37+1))<|cU n b_0 blocks_2 m (i37+1) LD else some Fp
def jT (n:Nat)(b_0:av)(attrs_1:List Bk)(blocks_2:List Bk):Option av :=(cY n b_0 attrs_1 n 0 []).bind λ f25=>(cU n b_0 blocks_2 n 0 []).bind λ LC=>some (av.mk f25 LC)
theorem nU (n:Nat)(b_0:av)(attrs_1:List Bk)(blocks_2:List Bk)(r:av)(h0:jT n b_0 attrs_1 blocks_2=some r):aF Tryz.prog 23 [.agg (av.cs b_0),eL eS attrs_1,eL eS blocks_2] (·=.p (.agg (av.cs r))):=by
 unfold jT at h0;refine aZ good Tryz.func23 Z Z Z λ w0=>mP (λ v:av=>.p (.agg (av.cs v))) ?_;refine nx 17 Z (bd h0 λ H8 h1 h0=>?_);refine kE 0 H8 (λ MN=>⟨[(2,.p (eL eS blocks_2)),(3,.ptr 3 0),(6,.ptr 6 0),(7,.ptr 7 0)],[(3,(av.cs b_0).map .p),(6,[.p (.val (.slice none 0 0)),.p (.val (.slice none 0 0))]),(7,[.vec 35 13 0 (MN.map ae),.p (.val (.slice none 0 0))])]⟩) ?_ ?_
 ·refine nx 7 Z (bd h0 λ LX h1 h0=>?_);refine kE 2 LX (λ ML=>⟨[(6,.ptr 6 0),(7,.ptr 7 0)],[(6,[.p (.val (.slice none 0 0)),.p (.val (.slice none 0 0))]),(7,[.vec 35 13 0 (H8.map ae),.vec 61 5 0 (ML.map am)])]⟩) ?_ ?_
  ·exact nx 7 Z (mQ (oi h0) Z (pB ⟨AV.sub_vec _ _ _ _,AV.sub_vec _ _ _ _,trivial⟩))
  refine lG (λ (Kp:Int×(List al))=>⟨[(2,.p (eL eS blocks_2)),(3,.ptr 3 0),(6,.ptr 6 0),(7,.ptr 7 0),(9,.p (eI Kp.1))],[(3,(av.cs b_0).map .p),(6,[.p (.val (.slice none 0 0)),.p (.val (.slice none 0 0))]),(7,[.vec 35 13 0 (H8.map ae),.vec 61 5 0 (Kp.2.map am)])]⟩) (λ m (Kp:Int×(List al))=>cU n b_0 blocks_2 m Kp.1 Kp.2) Y (0,[]) h1 (cb (gU ⟨er rfl,er rfl,er rfl,er rfl,er rfl,trivial⟩ ⟨⟨_,rfl,⟨sr,sr,trivial⟩⟩,⟨_,rfl,⟨sr,sr,trivial⟩⟩,⟨_,rfl,⟨sr,AV.sub_nilvec _ _ _,trivial⟩⟩,trivial⟩)) ?_;rintro m ⟨i37,Fp⟩ h1;replace h1:cU n b_0 blocks_2 (m+1) i37 Fp=some LX:=h1;rw [cU] at h1;refine nx 6 rfl (oLl (f:=am) rfl rfl ?_);refine nx 2 rfl (fD [41] h1 rfl (λ J2 h1=>?_) λ J2 h1=>?_)
  ·refine nx 3 Z (bd h1 λ LW h2 h1=>?_);refine kN LW (λ Lk=>⟨[(2,.p (eL eS blocks_2)),(3,.ptr 3 0),(6,.ptr 6 0),(7,.ptr 7 0),(9,.p (eI i37))],[(3,(av.cs b_0).map .p),(6,[.p (.val (.slice none 0 0)),.p (.val (.slice none 0 0))]),(7,[.vec 35 13 0 (H8.map ae),.vec 61 5 0 (Lk.map am)])]⟩) ?_ ?_
   ·refine nx 3 Z (oA h1 Z Z λ G2 h1=>?_);exact nx 2 Z (eX (i37+1,LW) h1 (gE Z Z))
   refine nx 7 Z (oE h2 al.BY Z Z Y λ JW h2=>?_);refine nx 2 Z (bd h2 λ Lp NG h2=>?_);refine oK (qE _ blocks_2 ((lat b_0.Ar i37).Eg) _ NG) Z ⟨sr,sr,trivial⟩ Tryz.call44 Z (nx 2 Z ?_);refine fB [52] h2 Z (λ HN h2=>?_) λ HN h2=>?_
   ·refine nx 1 Z (cc' h2 λ Gl h2=>?_);refine cc' h2 λ GR h2=>mG (gE (t:=⟨[(2,.p (eL eS blocks_2)),(3,.ptr 3 0),(6,.ptr 6 0),(7,.ptr 7 0),(9,.p (eI i37))],[(3,(av.cs b_0).map .p),(6,[.p (.val (.slice none 0 0)),.p (.val (.slice none 0 0))]),(7,[.vec 35 13 0 (H8.map ae),.vec 61 5 0 (Fp.map am)])]⟩) Z Z) (mS ⟨2,[8,10],(by3 (.some λ i=>Nat.beq i 61||Nat.beq i 61) .none .none),(λ _=>[(2,.p (eL eS blocks_2)),(3,.ptr 3 0),(6,.ptr 6 0),(7,.ptr 7 0),(9,.p (eI i37))]),(by3 ([(3,[.p (eL ae b_0.A'),.p (eL am b_0.Ar)]),(6,[.p (.val (.slice none 0 0)),.p (.val (.slice none 0 0))]),(7,[.vec 35 13 0 (H8.map ae),.vec 61 5 0 (Fp.map am)])]) ([(3,[.p (eL ae b_0.A'),.p (eL am b_0.Ar)]),(6,[.p (.val (.slice none 0 0)),.p (.val (.slice none 0 0))]),(7,[.vec 35 13 0 (H8.map ae),.p (eL am Fp)])]) ([(7,[.vec 35 13 0 (H8.map ae),.vec 61 5 0 ((Fp++[(lat b_0.Ar i37)]).map am)]),(3,[.p (eL ae b_0.A'),.p (eL am b_0.Ar)]),(6,[.p (.val (.slice none 0 0)),.p (.val (.slice none 0 0))]),(7,[.vec 35 13 0 (H8.map ae),.p (eL am Fp)])]))⟩ Z Z Z ⟨Z,Z,Z,Z,Z,trivial⟩ (lt2 ⟨Z,Z,Z,Z,Z,trivial⟩ ⟨Z,Z,Z,Z,Z,trivial⟩) Z Z Z Z ?_);refine ap (λ _=>.ptr 7 1) Z Z Z (b9 Z Z Y) (lt2 Z Z) (ai Z (af [(7,_)] ⟨.inl Z,trivial⟩ (λ sl Ey K hK=>ab Z (aC Z Z Z Z Z Z Z Z (Ey _ _ Z) hK)) (af [(7,_)] ⟨.inl Z,trivial⟩ (λ sl Ey K hK=>ab Z (aC Z Z Z Z Z Z Z Z (Ey _ _ Z) hK)) ao))) (ap (by3 (.vec 61 5 0 (Fp.map am)) (.p (eL am Fp)) (.p (eL am Fp))) Z Z Z (b9 Z Z Y) (lt2 Z Z) (ai Z (ai Z (af [(53,_)] ⟨.inr ⟨0,_,Z,Z,Z⟩,trivial⟩ (λ sl Ey K hK=>ab Z (bn Z Z Z Z Z (Ey _ _ Z) Z Z hK)) ao))) ?_);refine ap (λ _=>.ptr 3 1) Z Z Z (b9 Z Z Y) (lt2 Z Z) (ai Z (af [(3,_)] ⟨.inl Z,trivial⟩ (λ sl Ey K hK=>ab Z (aC Z Z Z Z Z Z Z Z (Ey _ _ Z) hK)) (af [(3,_)] ⟨.inl Z,trivial⟩ (λ sl Ey K hK=>ab Z (aC Z Z Z Z Z Z Z Z (Ey _ _ Z) hK)) ao))) (ap (λ _=>.p (eL am b_0.Ar)) Z Z Z (b9 Z Z Y) (lt2 Z Z) (ai Z (af [(55,_)] ⟨.inr ⟨2,_,Z,Z,Z⟩,trivial⟩ (λ sl Ey K hK=>ab Z (bn Z Z Z Z Z (Ey _ _ Z) Z Z hK)) (af [(55,_)] ⟨.inr ⟨2,_,Z,Z,Z⟩,trivial⟩ (λ sl Ey K hK=>ab Z (bn Z Z Z Z Z (Ey _ _ Z) Z Z hK)) ao))) ?_);refine ap (λ _=>.p (eI i37)) Z Z Z (b9 Z Z Y) (lt2 Z Z) (ai Z (af [(9,_)] ⟨.inl Z,trivial⟩ (λ sl Ey K hK=>ab Z (bM Z Z Z (Ey _ _ Z) hK)) (af [(9,_)] ⟨.inl Z,trivial⟩ (λ sl Ey K hK=>ab Z (bM Z Z Z (Ey _ _ Z) hK)) ao))) (ap (λ _=>.rptr (al.cs (lat b_0.Ar i37))) Z Z Z (b9 Z Z Y) (lt2 Z Z) (ai Z (af [(56,_),(57,_)] ⟨.inr ⟨3,_,Z,Z,Z⟩,.inr ⟨4,_,Z,Z,Z⟩,trivial⟩ (λ sl Ey K hK=>ab Z (cT (f:=am) (l:=b_0.Ar) al.cs Z Z Z Z Z Z (Ey _ _ Z) Z (Ey _ _ Z) Gl al.BY Y hK)) (af [(56,_),(57,_)] ⟨.inr ⟨3,_,Z,Z,Z⟩,.inr ⟨4,_,Z,Z,Z⟩,trivial⟩ (λ sl Ey K hK=>ab Z (cT (f:=am) (l:=b_0.Ar) al.cs Z Z Z Z Z Z (Ey _ _ Z) Z (Ey _ _ Z) Gl al.BY Y hK)) ao))) ?_);refine ap (λ _=>.p (.agg (al.cs (lat b_0.Ar i37)))) Z Z Z (b9 Z Z Y) (lt2 Z Z) (ai Z (af [(58,_)] ⟨.inr ⟨5,_,Z,Z,Z⟩,trivial⟩ (λ sl Ey K hK=>ab Z (lk Z Z Z Z Z (Ey _ _ Z) Z hK)) (af [(58,_)] ⟨.inr ⟨5,_,Z,Z,Z⟩,trivial⟩ (λ sl Ey K hK=>ab Z (lk Z Z Z Z Z (Ey _ _ Z) Z hK)) ao))) (ap (λ _=>.p (eL am [(lat b_0.Ar i37)])) Z Z Z (b9 Z Z Y) (lt2 Z Z) (ai Z (ai Z (af [(59,_)] ⟨.inr ⟨6,_,Z,Z,Z⟩,trivial⟩ (λ sl Ey K hK=>ab Z (bg am [(lat b_0.Ar i37)] Z Z Z Z Z Z (b7 (Ey _ _ Z) Z cG) Z Z Z Z Z Z (by first|rfl|(simp only [aq,bx,al.Ef]; done)|(simp only [aq,bx,al.Ef]; rfl)) hK)) ao))) ?_);refine dh (λ _=>.vec 61 5 0 ((Fp++[(lat b_0.Ar i37)]).map am)) [(54,_),(60,_)] Z ⟨.inr ⟨1,_,Z,Z,Z⟩,.inr ⟨7,_,Z,Z,Z⟩,trivial⟩ Z Z (cF Z Y) (lt2 (λ h=>absurd h (by decide)) Y) (λ sl Ey K hK=>ab Z (eu am Fp [(lat b_0.Ar i37)] Z Z Z Z Z Z Z Z (Ey _ _ Z) Z Z (Ey _ _ Z) Z (λ x=>congrArg List.length (al.BY x)) Z Z Z Z GR hK)) (ap (λ _=>.ptr 7 1) Z Z Z (b9 Z Z Y) (lt2 Z Z) (ai Z (af [(7,_)] ⟨.inl Z,trivial⟩ (λ sl Ey K hK=>ab Z (aC Z Z Z Z Z Z Z Z (Ey _ _ Z) hK)) (ai Z ao))) ?_);refine dj [(61,_),(62,_)] Z ⟨.inr ⟨8,_,Z,Z,Z⟩,.inr ⟨9,_,Z,Z,Z⟩,trivial⟩ Z (λ sl Ey K hK=>ab Z (em Z Z Z (Ey _ _ Z) (Ey _ _ Z) Z Z Z (n6 Z) hK)) (cC ?_);exact nx 1 Z (eX _ (oi h2).symm (gE Z Z))
   exact nx 2 Z (eX _ (oi h2).symm (gE Z Z))
  exact nx 2 Z (eXi _ (oi h1).symm (gE Z Z))
 refine lG (λ (Ko:Int×(List ac))=>⟨[(1,.p (eL eS attrs_1)),(2,.p (eL eS blocks_2)),(3,.ptr 3 0),(6,.ptr 6 0),(7,.ptr 7 0),(8,.p (eI Ko.1))],[(3,(av.cs b_0).map .p),(6,[.p (.val (.slice none 0 0)),.p (.val (.slice none 0 0))]),(7,[.vec 35 13 0 (Ko.2.map ae),.p (.val (.slice none 0 0))])]⟩) (λ m (Ko:Int×(List ac))=>cY n b_0 attrs_1 m Ko.1 Ko.2) Y (0,[]) h1 (cb (gU ⟨er rfl,er rfl,er rfl,er rfl,er rfl,er rfl,trivial⟩ ⟨⟨_,rfl,⟨sr,sr,trivial⟩⟩,⟨_,rfl,⟨sr,sr,trivial⟩⟩,⟨_,rfl,⟨AV.sub_nilvec _ _ _,sr,trivial⟩⟩,trivial⟩)) ?_;rintro m ⟨i12,GA⟩ h1;replace h1:cY n b_0 attrs_1 (m+1) i12 GA=some H8:=h1;rw [cY] at h1;refine nx 6 rfl (oLl (f:=ae) rfl rfl ?_);refine nx 2 rfl (fD [15] h1 rfl (λ HF h1=>?_) λ HF h1=>?_)
 ·refine nx 3 Z (bd h1 λ Ne h2 h1=>?_);refine kN Ne (λ v64=>⟨[(1,.p (eL eS attrs_1)),(2,.p (eL eS blocks_2)),(3,.ptr 3 0),(6,.ptr 6 0),(7,.ptr 7 0),(8,.p (eI i12))],[(3,(av.cs b_0).map .p),(6,[.p (.val (.slice none 0 0)),.p (.val (.slice none 0 0))]),(7,[.vec 35 13 0 (v64.map ae),.p (.val (.slice none 0 0))])]⟩) ?_ ?_
  ·refine nx 3 Z (oA h1 Z Z λ Fl h1=>?_);exact nx 2 Z (eX (i12+1,Ne) h1 (gE Z Z))
  refine nx 7 Z (oE h2 ac.BY Z Z Y λ Gv h2=>?_);refine nx 2 Z (bd h2 λ Fs GV h2=>?_);refine oK (qE _ attrs_1 ((lat b_0.A' i12).By) _ GV) Z ⟨sr,sr,trivial⟩ Tryz.call44 Z (nx 2 Z ?_);refine fB [26] h2 Z (λ G7 h2=>?_) λ G7 h2=>?_
  ·refine nx 1 Z (cc' h2 λ FD h2=>?_);refine cc' h2 λ Fv h2=>mG (gE (t:=⟨[(1,.p (eL eS attrs_1)),(2,.p (eL eS blocks_2)),(3,.ptr 3 0),(6,.ptr 6 0),(7,.ptr 7 0),(8,.p (eI i12))],[(3,(av.cs b_0).map .p),(6,[.p (.val (.slice none 0 0)),.p (.val (.slice none 0 0))]),(7,[.vec 35 13 0 (GA.map ae),.p (.val (.slice none 0 0))])]⟩) Z Z) (mS ⟨2,[8,10],(by3 (.some λ i=>Nat.beq i 35||Nat.beq i 35) .none .none),(λ _=>[(1,.p (eL eS attrs_1)),(2,.p (eL eS blocks_2)),(3,.ptr 3 0),(6,.ptr 6 0),(7,.ptr 7 0),(8,.p (eI i12))]),(by3 ([(3,[.p (eL ae b_0.A'),.p (eL am b_0.Ar)]),(6,[.p (.val (.slice none 0 0)),.p (.val (.slice none 0 0))]),(7,[.vec 35 13 0 (GA.map ae),.p (.val (.slice none 0 0))])]) ([(3,[.p (eL ae b_0.A'),.p (eL am b_0.Ar)]),(6,[.p (.val (.slice none 0 0)),.p (.val (.slice none 0 0))]),(7,[.p (eL ae GA),.p (.val (.slice none 0 0))])]) ([(7,[.vec 35 13 0 ((GA++[(lat b_0.A' i12)]).map ae),.p (.val (.slice none 0 0))]),(3,[.p (eL ae b_0.A'),.p (eL am b_0.Ar)]),(6,[.p (.val (.slice none 0 0)),.p (.val (.slice none 0 0))]),(7,[.p (eL ae GA),.p (.val (.slice none 0 0))])]))⟩ Z Z Z ⟨Z,Z,Z,Z,Z,Z,trivial⟩ (lt2 ⟨Z,Z,Z,Z,Z,Z,trivial⟩ ⟨Z,Z,Z,Z,Z,Z,trivial⟩) Z Z Z Z ?_);refine ap (λ _=>.ptr 7 0) Z Z Z (b9 Z Z Y) (lt2 Z Z) (ai Z (af [(7,_)] ⟨.inl Z,trivial⟩ (λ sl Ey K hK=>ab Z (aC Z Z Z Z Z Z Z Z (Ey _ _ Z) hK)) (af [(7,_)] ⟨.inl Z,trivial⟩ (λ sl Ey K hK=>ab Z (aC Z Z Z Z Z Z Z Z (Ey _ _ Z) hK)) ao))) (ap (by3 (.vec 35 13 0 (GA.map ae)) (.p (eL ae GA)) (.p (eL ae GA))) Z Z Z (b9 Z Z Y) (lt2 Z Z) (ai Z (ai Z (af [(27,_)] ⟨.inr ⟨0,_,Z,Z,Z⟩,trivial⟩ (λ sl Ey K hK=>ab Z (bn Z Z Z Z Z (Ey _ _ Z) Z Z hK)) ao))) ?_);refine ap (λ _=>.ptr 3 0) Z Z Z (b9 Z Z Y) (lt2 Z Z) (ai Z (af [(3,_)] ⟨.inl Z,trivial⟩ (λ sl Ey K hK=>ab Z (aC Z Z Z Z Z Z Z Z (Ey _ _ Z) hK)) (af [(3,_)] ⟨.inl Z,trivial⟩ (λ sl Ey K hK=>ab Z (aC Z Z Z Z Z Z Z Z (Ey _ _ Z) hK)) ao))) (ap (λ _=>.p (eL ae b_0.A')) Z Z Z (b9 Z Z Y) (lt2 Z Z) (ai Z (af [(29,_)] ⟨.inr ⟨2,_,Z,Z,Z⟩,trivial⟩ (λ sl Ey K hK=>ab Z (bn Z Z Z Z Z (Ey _ _ Z) Z Z hK)) (af [(29,_)] ⟨.inr ⟨2,_,Z,Z,Z⟩,trivial⟩ (λ sl Ey K hK=>ab Z (bn Z Z Z Z Z (Ey _ _ Z) Z Z hK)) ao))) ?_);refine ap (λ _=>.p (eI i12)) Z Z Z (b9 Z Z Y) (lt2 Z Z) (ai Z (af [(8,_)] ⟨.inl Z,trivial⟩ (λ sl Ey K hK=>ab Z (bM Z Z Z (Ey _ _ Z) hK)) (af [(8,_)] ⟨.inl Z,trivial⟩ (λ sl Ey K hK=>ab Z (bM Z Z Z (Ey _ _ Z) hK)) ao))) (ap (λ _=>.rptr (ac.cs (lat b_0.A' i12))) Z Z Z (b9 Z Z Y) (lt2 Z Z) (ai Z (af [(30,_),(31,_)] ⟨.inr ⟨3,_,Z,Z,Z⟩,.inr ⟨4,_,Z,Z,Z⟩,trivial⟩ (λ sl Ey K hK=>ab Z (cT (f:=ae) (l:=b_0.A') ac.cs Z Z Z Z Z Z (Ey _ _ Z) Z (Ey _ _ Z) FD ac.BY Y hK)) (af [(30,_),(31,_)] ⟨.inr ⟨3,_,Z,Z,Z⟩,.inr ⟨4,_,Z,Z,Z⟩,trivial⟩ (λ sl Ey K hK=>ab Z (cT (f:=ae) (l:=b_0.A') ac.cs Z Z Z Z Z Z (Ey _ _ Z) Z (Ey _ _ Z) FD ac.BY Y hK)) ao))) ?_);refine ap (λ _=>.p (.agg (ac.cs (lat b_0.A' i12)))) Z Z Z (b9 Z Z Y) (lt2 Z Z) (ai Z (af [(32,_)] ⟨.inr ⟨5,_,Z,Z,Z⟩,trivial⟩ (λ sl Ey K hK=>ab Z (lk Z Z Z Z Z (Ey _ _ Z) Z hK)) (af [(32,_)] ⟨.inr ⟨5,_,Z,Z,Z⟩,trivial⟩ (λ sl Ey K hK=>ab Z (lk Z Z Z Z Z (Ey _ _ Z) Z hK)) ao))) (ap (λ _=>.p (eL ae [(lat b_0.A' i12)])) Z Z Z (b9 Z Z Y) (lt2 Z Z) (ai Z (ai Z (af [(33,_)] ⟨.inr ⟨6,_,Z,Z,Z⟩,trivial⟩ (λ sl Ey K hK=>ab Z (bg ae [(lat b_0.A' i12)] Z Z Z Z Z Z (b7 (Ey _ _ Z) Z cG) Z Z Z Z Z Z (by first|rfl|(simp only [aq,bx,ac.Ef]; done)|(simp only [aq,bx,ac.Ef]; rfl)) hK)) ao))) ?_);refine dh (λ _=>.vec 35 13 0 ((GA++[(lat b_0.A' i12)]).map ae)) [(28,_),(34,_)] Z ⟨.inr ⟨1,_,Z,Z,Z⟩,.inr ⟨7,_,Z,Z,Z⟩,trivial⟩ Z Z (cF Z Y) (lt2 (λ h=>absurd h (by decide)) Y) (λ sl Ey K hK=>ab Z (eu ae GA [(lat b_0.A' i12)] Z Z Z Z Z Z Z Z (Ey _ _ Z) Z Z (Ey _ _ Z) Z (λ x=>congrArg List.length (ac.BY x)) Z Z Z Z Fv hK)) (ap (λ _=>.ptr 7 0) Z Z Z (b9 Z Z Y) (lt2 Z Z) (ai Z (af [(7,_)] ⟨.inl Z,trivial⟩ (λ sl Ey K hK=>ab Z (aC Z Z Z Z Z Z Z Z (Ey _ _ Z) hK)) (ai Z ao))) ?_);refine dj [(35,_),(36,_)] Z ⟨.inr ⟨8,_,Z,Z,Z⟩,.inr ⟨9,_,Z,Z,Z⟩,trivial⟩ Z (λ sl Ey K hK=>ab Z (em Z Z Z (Ey _ _ Z) (Ey _ _ Z) Z Z Z (n6 Z) hK)) (cC ?_);exact nx 1 Z (eX _ (oi h2).symm (gE Z Z))
  exact nx 2 Z (eX _ (oi h2).symm (gE Z Z))
 exact nx 2 Z (eXi _ (oi h1).symm (gE Z Z))
def iX (n:Nat)(b_0:av)(attrs_1:List Bk)(blocks_2:List Bk):Option Bool :=((iq n b_0 300).bind λ r1=>if (!r1)=true then some true else if 50<(attrs_1.length:Int) then some true else some (decide (50<(blocks_2.length:Int))) : Option Bool).bind λ t5=>if t5=true then(dJ n).bind λ r7=>some r7 else((iF n b_0 attrs_1 blocks_2).bind λ r9=>(jT n b_0 attrs_1 blocks_2).bind λ Fq=>(fh n r9 Fq).bind λ F6=>if F6=true then(dJ n).bind λ Fs=>some Fs else some false : Option Bool).bind λ FT=>some FT
theorem pf (n:Nat)(b_0:av)(attrs_1:List Bk)(blocks_2:List Bk)(r:Bool)(h0:iX n b_0 attrs_1 blocks_2=some r):aF Tryz.prog 6 [.agg (av.cs b_0),eL eS attrs_1,eL eS blocks_2] (·=.p (eB r)):=by
 unfold iX at h0;refine aZ good Tryz.func6 Z Z Z λ w0=>mP (λ v:Bool=>.p (eB v)) ?_;refine nx 7 Z (bd h0 λ ME h1 h0=>?_);refine kN ME (λ MU=>⟨[(1,.p (eL eS attrs_1)),(2,.p (eL eS blocks_2)),(3,.ptr 3 0),(19,.p (eB MU))],[(3,(av.cs b_0).map .p)]⟩) ?_ ?_
 ·refine nx 1 Z (fB [19] h0 Z (λ c6 h0=>?_) λ c6 h0=>?_)
  ·refine nx 3 Z (bd h0 λ r7 e8 h0=>?_);refine oK (fE _  _ e8) Z trivial Tryz.call9 Z (nx 3 Z ?_);exact mQ (oi h0) Z (sr)
  refine nx 3 Z (bd h0 λ Fy h1 h0=>?_);refine kN Fy (λ F4=>⟨[(6,.p (eB F4))],[]⟩) ?_ ?_
  ·exact nx 2 Z (mQ (oi h0) Z (sr))
  refine bd h1 λ r9 GW h1=>bd h1 λ Fq Gg h1=>bd h1 λ F6 J0 h1=>fB (p:=F6) [] h1 Z (λ Gw h1=>?_) λ Gw h1=>?_
  ·refine bd h1 λ Fs GV h1=>mD [(1,.p (eL eS attrs_1)),(2,.p (eL eS blocks_2)),(3,.ptr 3 0)] Z ⟨Z,Z,Z,trivial⟩ Z (dR 3 Z ?_);refine dq (.p (.agg (av.cs r9))) [21,22,23] Z (λ _ e _ q=>ab Z (bc (j4 _ b_0 attrs_1 blocks_2 _ GW) Z Z Z (az (e _ _ Z) (az (e _ _ Z) (az (e _ _ Z) aV))) ⟨sr,sr,sr,trivial⟩ Tryz.call22 Z q)) Z (dR 3 Z ?_);refine dq (.p (.agg (av.cs Fq))) [25,26,27] Z (λ _ e _ q=>ab Z (bc (nU _ b_0 attrs_1 blocks_2 _ Gg) Z Z Z (az (e _ _ Z) (az (e _ _ Z) (az (e _ _ Z) aV))) ⟨sr,sr,sr,trivial⟩ Tryz.call23 Z q)) Z (dq (.p (eB F6)) [24,28] Z (λ _ e _ q=>ab Z (bc (qj _ r9 Fq _ J0) Z Z Z (az (e _ _ Z) (az (e _ _ Z) aV)) ⟨sr,sr,trivial⟩ Tryz.call12 Z q)) Z ?_);refine dL (Gw) Z (dq (.p (eB Fs)) [30] Z (λ _ e _ q=>bh (bc (fE _  _ GV) Z Z Z aV trivial Tryz.call9 Z q) Z Z (e _ _ Z) (rfl)) Z ?_);refine dR 2 Z (dE Z ?_);exact nx 1 Z (eX _ (oi h1).symm (gE Z Z))
  refine mD [(1,.p (eL eS attrs_1)),(2,.p (eL eS blocks_2)),(3,.ptr 3 0)] Z ⟨Z,Z,Z,trivial⟩ Z (dR 3 Z ?_);refine dq (.p (.agg (av.cs r9))) [21,22,23] Z (λ _ e _ q=>ab Z (bc (j4 _ b_0 attrs_1 blocks_2 _ GW) Z Z Z (az (e _ _ Z) (az (e _ _ Z) (az (e _ _ Z) aV))) ⟨sr,sr,sr,trivial⟩ Tryz.call22 Z q)) Z (dR 3 Z ?_);refine dq (.p (.agg (av.cs Fq))) [25,26,27] Z (λ _ e _ q=>ab Z (bc (nU _ b_0 attrs_1 blocks_2 _ Gg) Z Z Z (az (e _ _ Z) (az (e _ _ Z) (az (e _ _ Z) aV))) ⟨sr,sr,sr,trivial⟩ Tryz.call23 Z q)) Z (dq (.p (eB F6)) [24,28] Z (λ _ e _ q=>ab Z (bc (qj _ r9 Fq _ J0) Z Z Z (az (e _ _ Z) (az (e _ _ Z) aV)) ⟨sr,sr,trivial⟩ Tryz.call12 Z q)) Z ?_);refine dL (Gw) Z (dR 3 Z ?_);refine dE Z (nx 1 Z ?_);exact eX _ (oi h1).symm (gE Z Z)
 refine nx 2 Z (bd h1 λ r1 e2 h1=>?_);refine oK (g8 _ b_0 300 _ e2) Z ⟨sr,sr,trivial⟩ Tryz.call13 Z (nx 2 Z ?_);refine fB [9,10] h1 Z (λ c3 h1=>?_) λ c3 h1=>?_
 ·exact nx 10 Z (eX _ (oi h1).symm (gE Z Z))
 refine nx 1 Z (oLl (f:=eS) Z Z ?_);refine nx 3 Z (fD [13,14,15] h1 Z (λ c4 h1=>?_) λ c4 h1=>?_)
 ·exact nx 5 Z (eX _ (oi h1).symm (gE Z Z))
 refine nx 1 Z (oLl (f:=eS) Z Z ?_);exact nx 3 Z (eX _ (oi h1).symm (gE Z Z))
end Go.Ab.R06
end
section
namespace Go.Ab.R06
open Go.Ab Go.Ab.RB Go.Lib
theorem zn (l:List ac)(del:Nat->ac->Option Bool)(p:ac->Bool)(hp:∀ a∈l,Ev2 (λ n _=>del n a) (·=p a))(hl:l.length<=1000000000000000) :
  Ev2 (λ n _=>bA n l (del n)) (λ r=>r=-1/\(∀ a∈l,p a=false)\/∃ j:Nat,r=j/\j<l.length/\p (lat l (j:Int))=true/\∀ a∈l.take j,p a=false):=by
 simp only [bA]
 have loop:∀ (k i:Nat),i+k=l.length->(∀ a∈l.take i,p a=false)->Ev2 (λ n m=>aO l (del n) m (i:Int)) (λ s=>match s with|.inl _=>∀ a∈l,p a=false|.inr r=>∃ j:Nat,r=j/\j<l.length/\p (lat l (j:Int))=true/\∀ a∈l.take j,p a=false):=by
  intro k
  induction k with
  | zero=>
   intro i hi ha;refine aJ ?_;simp only [aO];refine aR O (ak ?_);rw [List.take_of_length_le O] at ha;exact ha
  | succ k ihk=>
   intro i hi ha;refine aJ ?_;simp only [aO];refine aS O (aI O (aN _ (hp _ (dX O)) ?_))
   cases hx:p (lat l (i:Int))
   ·refine aR (by decide) (aI (bb O O) ?_);refine bO (P:=λ j=>Ev2 (λ n m=>aO l (del n) m j) _) (ihk (i+1) O (λ a hm=>?_));rw [<- jZ l O] at hm;rcases List.mem_append.1 hm with hm|hm
    ·exact ha a hm
    ·rw [List.mem_singleton.1 hm]; exact hx
   ·exact aS Z (ak ⟨i,Z,by omega,hx,ha⟩)
 refine tC (jy (bN (f:=λ n m=>aO l (del n) m 0) (loop l.length 0 O (λ a hm=>by cases hm))) (λ s hs=>?_))
 cases s with
 | inl u=>exact ak (.inl ⟨Z,hs⟩)
 | inr r=>exact .inr hs
theorem ym (l:List ac)(del:Nat->ac->Option Bool)(p:ac->Bool)(hp:∀ a∈l,Ev2 (λ n _=>del n a) (·=p a))(hl:l.length<=1000000000000000) :
  Ev2 (λ n _=>bQ n l (del n)) (·=l.filter λ a=>!p a):=by
 simp only [bQ]
 have loop:∀ (k j:Nat) (s:List ac) (i:Nat),j+k=l.length->i<j->s.length=l.length->s.take i=(l.take j).filter (λ a=>!p a)->s.drop j=l.drop j ->
   Ev2 (λ n m=>aH (del n) m s (i:Int) (j:Int)) (λ q=>0<=q.2/\q.2<=(q.1.length:Int)/\q.1.take q.2.toNat=l.filter λ a=>!p a):=by
  intro k
  induction k with
  | zero=>
   intro j s i hj hi hs ht hd;refine aJ ?_;simp only [aH];refine aR O (ak ⟨by omega,(by show (i:Int)<=(s.length:Int); omega),?_⟩);rw [List.take_of_length_le (l:=l) O] at ht;simpa using ht
  | succ k ihk=>
   intro j s i hj hi hs ht hd
   have e1:lat s (j:Int)=lat l (j:Int):=by
    have:=congrArg (λ z=>z.head?) hd;rw [cX s O,cX l O] at this;simpa using this
   have e2:s.drop (j+1)=l.drop (j+1):=by
    rw [cX s O,cX l O] at hd;exact (List.cons.inj hd).2
   refine aJ ?_;simp only [aH,e1]
   have et:(l.take (j+1)).filter (λ a=>!p a)=(l.take j).filter (λ a=>!p a)++if p (lat l (j:Int)) then [] else [lat l (j:Int)]:=by
    rw [<- jZ l O,List.filter_append];congr 1
    cases hx:p (lat l (j:Int)) <;> simp [hx]
   refine aS O ?_
   cases hx:p (lat l (j:Int))
   ·rw [hx] at et;refine aN (sy s (i:Int) (lat l (j:Int)),(i:Int)+1) (aI O (aN _ (hp _ (dX O)) ?_)) (aI (bb O O) ?_)
    ·rw [hx];exact aS rfl (aI O (aI (bb O O) (ak rfl)))
    ·have hps:sy s (i:Int) (lat l (j:Int))=s.set i (lat l (j:Int)):=by simp [sy]
     rw [hps];refine bO (P:=λ j'=>Ev2 (λ n m=>aH (del n) m _ ((i:Int)+1) j') _) ?_;refine bO (P:=λ i'=>Ev2 (λ n m=>aH (del n) m _ i' ((j+1:Nat):Int)) _) (ihk (j+1) _ (i+1) O O  (by rw [List.length_set]; exact hs) ?_ ?_)
     ·rw [et,<- ht,List.take_set,List.take_succ_eq_append_getElem (show i<s.length by omega),List.set_append_right _ _ (by rw [sm]; omega)];simp [Nat.min_eq_left (show i<=s.length by omega)]
     ·rw [List.drop_set_of_lt O]; exact e2
   ·rw [hx] at et;refine aN (s,(i:Int)) (aI O (aN _ (hp _ (dX O)) ?_)) (aI (bb O O) ?_)
    ·rw [hx];exact aR (by decide) (ak rfl)
    ·exact bO (P:=λ j'=>Ev2 (λ n m=>aH (del n) m s (i:Int) j') _) (ihk (j+1) s i O O  hs (by rw [et,ht]; simp) e2)
 refine d6 _ (zn l del p hp hl) (λ r hr=>?_);rcases hr with ⟨rfl,ha⟩|⟨j,rfl,hj,hx,ha⟩
 ·refine aS Z (ak ?_);exact (List.filter_eq_self.2 λ a hm=>by rw [ha a hm]; rfl).symm
 ·refine aR O (aI (bb O O) ?_)
  have h0:=loop (l.length-(j+1)) (j+1) l j O O  rfl (by
   rw [<- jZ l hj,List.filter_append,List.filter_eq_self.2 (λ a hm=>by rw [ha a hm]; rfl)]
   simp [hx]) rfl
  rw [Int.natCast_add,Int.natCast_one] at h0;refine d6 _ (bN (f:=λ n m=>aH (del n) m l (j:Int) ((j:Int)+1)) h0) (λ q hq=>aI ⟨hq.1,hq.2.1⟩ (ak ?_));rw [<- hq.2.2];simp [sub]
theorem zo (l:List al)(del:Nat->al->Option Bool)(p:al->Bool)(hp:∀ a∈l,Ev2 (λ n _=>del n a) (·=p a))(hl:l.length<=1000000000000000) :
  Ev2 (λ n _=>cp n l (del n)) (λ r=>r=-1/\(∀ a∈l,p a=false)\/∃ j:Nat,r=j/\j<l.length/\p (lat l (j:Int))=true/\∀ a∈l.take j,p a=false):=by
 simp only [cp]
 have loop:∀ (k i:Nat),i+k=l.length->(∀ a∈l.take i,p a=false)->Ev2 (λ n m=>aX l (del n) m (i:Int)) (λ s=>match s with|.inl _=>∀ a∈l,p a=false|.inr r=>∃ j:Nat,r=j/\j<l.length/\p (lat l (j:Int))=true/\∀ a∈l.take j,p a=false):=by
  intro k
  induction k with
  | zero=>
   intro i hi ha;refine aJ ?_;simp only [aX];refine aR O (ak ?_);rw [List.take_of_length_le O] at ha;exact ha
  | succ k ihk=>
   intro i hi ha;refine aJ ?_;simp only [aX];refine aS O (aI O (aN _ (hp _ (dX O)) ?_))
   cases hx:p (lat l (i:Int))
   ·refine aR (by decide) (aI (bb O O) ?_);refine bO (P:=λ j=>Ev2 (λ n m=>aX l (del n) m j) _) (ihk (i+1) O (λ a hm=>?_));rw [<- jZ l O] at hm;rcases List.mem_append.1 hm with hm|hm
    ·exact ha a hm
    ·rw [List.mem_singleton.1 hm]; exact hx
   ·exact aS Z (ak ⟨i,Z,by omega,hx,ha⟩)
 refine tC (jy (bN (f:=λ n m=>aX l (del n) m 0) (loop l.length 0 O (λ a hm=>by cases hm))) (λ s hs=>?_))
 cases s with
 | inl u=>exact ak (.inl ⟨Z,hs⟩)
 | inr r=>exact .inr hs
theorem yo (l:List al)(del:Nat->al->Option Bool)(p:al->Bool)(hp:∀ a∈l,Ev2 (λ n _=>del n a) (·=p a))(hl:l.length<=1000000000000000) :
  Ev2 (λ n _=>cg n l (del n)) (·=l.filter λ a=>!p a):=by
 simp only [cg]
 have loop:∀ (k j:Nat) (s:List al) (i:Nat),j+k=l.length->i<j->s.length=l.length->s.take i=(l.take j).filter (λ a=>!p a)->s.drop j=l.drop j ->
   Ev2 (λ n m=>aP (del n) m s (i:Int) (j:Int)) (λ q=>0<=q.2/\q.2<=(q.1.length:Int)/\q.1.take q.2.toNat=l.filter λ a=>!p a):=by
  intro k
  induction k with
  | zero=>
   intro j s i hj hi hs ht hd;refine aJ ?_;simp only [aP];refine aR O (ak ⟨by omega,(by show (i:Int)<=(s.length:Int); omega),?_⟩);rw [List.take_of_length_le (l:=l) O] at ht;simpa using ht
  | succ k ihk=>
   intro j s i hj hi hs ht hd
   have e1:lat s (j:Int)=lat l (j:Int):=by
    have:=congrArg (λ z=>z.head?) hd;rw [cX s O,cX l O] at this;simpa using this
   have e2:s.drop (j+1)=l.drop (j+1):=by
    rw [cX s O,cX l O] at hd;exact (List.cons.inj hd).2
   refine aJ ?_;simp only [aP,e1]
   have et:(l.take (j+1)).filter (λ a=>!p a)=(l.take j).filter (λ a=>!p a)++if p (lat l (j:Int)) then [] else [lat l (j:Int)]:=by
    rw [<- jZ l O,List.filter_append];congr 1
    cases hx:p (lat l (j:Int)) <;> simp [hx]
   refine aS O ?_
   cases hx:p (lat l (j:Int))
   ·rw [hx] at et;refine aN (sy s (i:Int) (lat l (j:Int)),(i:Int)+1) (aI O (aN _ (hp _ (dX O)) ?_)) (aI (bb O O) ?_)
    ·rw [hx];exact aS rfl (aI O (aI (bb O O) (ak rfl)))
    ·have hps:sy s (i:Int) (lat l (j:Int))=s.set i (lat l (j:Int)):=by simp [sy]
     rw [hps];refine bO (P:=λ j'=>Ev2 (λ n m=>aP (del n) m _ ((i:Int)+1) j') _) ?_;refine bO (P:=λ i'=>Ev2 (λ n m=>aP (del n) m _ i' ((j+1:Nat):Int)) _) (ihk (j+1) _ (i+1) O O  (by rw [List.length_set]; exact hs) ?_ ?_)
     ·rw [et,<- ht,List.take_set,List.take_succ_eq_append_getElem (show i<s.length by omega),List.set_append_right _ _ (by rw [sm]; omega)];simp [Nat.min_eq_left (show i<=s.length by omega)]
     ·rw [List.drop_set_of_lt O]; exact e2
   ·rw [hx] at et;refine aN (s,(i:Int)) (aI O (aN _ (hp _ (dX O)) ?_)) (aI (bb O O) ?_)
    ·rw [hx];exact aR (by decide) (ak rfl)
    ·exact bO (P:=λ j'=>Ev2 (λ n m=>aP (del n) m s (i:Int) j') _) (ihk (j+1) s i O O  hs (by rw [et,ht]; simp) e2)
 refine d6 _ (zo l del p hp hl) (λ r hr=>?_);rcases hr with ⟨rfl,ha⟩|⟨j,rfl,hj,hx,ha⟩
 ·refine aS Z (ak ?_);exact (List.filter_eq_self.2 λ a hm=>by rw [ha a hm]; rfl).symm
 ·refine aR O (aI (bb O O) ?_)
  have h0:=loop (l.length-(j+1)) (j+1) l j O O  rfl (by
   rw [<- jZ l hj,List.filter_append,List.filter_eq_self.2 (λ a hm=>by rw [ha a hm]; rfl)]
   simp [hx]) rfl
  rw [Int.natCast_add,Int.natCast_one] at h0;refine d6 _ (bN (f:=λ n m=>aP (del n) m l (j:Int) ((j:Int)+1)) h0) (λ q hq=>aI ⟨hq.1,hq.2.1⟩ (ak ?_));rw [<- hq.2.2];simp [sub]
theorem qZ (l:List Bk)(s:Bk)(hl:l.length<=1000000000000000):Ev2 (λ n _=>cz n l s) (·=decide (s∈l)):=by
 simp only [cz]
 have loop:∀ (k i:Nat),i+k=l.length->Ev2 (λ _ m=>bz l s m (i:Int)) (λ r=>match r with|.inl _=>¬ s∈l.drop i|.inr y=>0<=y/\s∈l.drop i):=by
  intro k
  induction k with
  | zero=>
   intro i hi;refine aJ ?_;simp only [bz];refine aR O (ak ?_);show ¬ s∈l.drop i;rw [rg O]; simp
  | succ k ihk=>
   intro i hi;refine aJ ?_;simp only [bz];refine aS O (aI O (bv (λ h=>ak ?_) (λ h=>aI (bb O O) ?_)))
   ·show 0<=(i:Int)/\s∈l.drop i;rw [cX l O]; exact ⟨by omega,by rw [h]; exact List.mem_cons_self ..⟩
   ·refine jy (bO (P:=λ j=>Ev2 (λ _ m=>bz l s m j) _) (ihk (i+1) O)) (λ r hr=>?_);rw [cX l O]
    cases r with
    | inl u=>
     have hr:¬ s∈l.drop (i+1):=hr;show ¬ s∈lat l (i:Int)::l.drop (i+1);rw [List.mem_cons]; exact λ e=>e.elim h hr
    | inr y=>exact ⟨hr.1,List.mem_cons_of_mem _ hr.2⟩
 refine d6 (λ r=>decide (0<=r)=decide (s∈l)) ?_ (λ r hr=>ak hr);simp only [eH];refine tC (jy (bN (f:=λ _ m=>bz l s m 0) (loop l.length 0 O)) (λ r hr=>?_));rw [List.drop_zero] at hr
 cases r with
 | inl u=>exact ak (by have hr:¬ s∈l:=hr; simp [hr])
 | inr y=>show decide (0<=y)=decide (s∈l); simp [hr.1,hr.2]
theorem wm (l:List Bk)(s:Bk)(hl:l.length<=1000000000000000):Ev2 (λ n _=>l7 n l s) (·=decide (s∈l)):=by
 simp only [l7]
 have loop:∀ (k i:Nat),i+k=l.length->Ev2 (λ _ m=>fp l s m (i:Int)) (·=if s∈l.drop i then .inr true else .inl ()):=by
  intro k
  induction k with
  | zero=>
   intro i hi;refine aJ ?_;simp only [fp];refine aR O (ak ?_);rw [rg O,if_neg G]
  | succ k ihk=>
   intro i hi;refine aJ ?_;simp only [fp];rw [cX l O];refine aS O (aI O (bv (λ h=>ak ?_) (λ h=>aI (bb O O) ?_)))
   ·rw [if_pos (by rw [h]; exact List.mem_cons_self ..)]
   ·have h2:(s∈lat l (i:Int)::l.drop (i+1))=(s∈l.drop (i+1)):=by
     rw [List.mem_cons];exact propext ⟨λ e=>e.resolve_left (λ e=>h e.symm),.inr⟩
    simp only [h2];exact bO (P:=λ j=>Ev2 (λ _ m=>fp l s m j) _) (ihk (i+1) O)
 have h:=bN (f:=λ _ m=>fp l s m 0) (loop l.length 0 O);rw [List.drop_zero] at h;by_cases hs:s∈l
 ·rw [if_pos hs] at h; exact jh _ h (by simp [hs])
 ·rw [if_neg hs] at h; exact ee _ h (ak (by simp [hs]))
theorem wW (b:av)(names:List Bk)(hn:names.length<=1000000000000000)(hb:b.A'.length*184<=140737488351232):∀ (k i:Nat) (out:List ac),i+k=b.A'.length->out.length<=i ->
  Ev2 (λ n m=>cY n b names m (i:Int) out) (·=out++(b.A'.drop i).filter λ a=>!decide (a.By∈names)):=by
 intro k
 induction k with
 | zero=>
  intro i out hi ho;refine aJ ?_;simp only [cY];refine aR O (ak ?_);rw [rg O]; simp
 | succ k ihk=>
  intro i out hi ho;refine aJ ?_;simp only [cY];rw [cX _ O,List.filter_cons];refine aS O ?_;by_cases h:(lat b.A' (i:Int)).By∈names
  ·rw [if_neg (show ¬ (!decide ((lat b.A' (i:Int)).By∈names))=true by simpa using h)];refine aN out (aI O (aN _ (wm _ _ hn) (aR (by simpa using h) (ak rfl)))) (aI (bb O O) ?_);exact bO (P:=λ j=>Ev2 (λ n m=>cY n b names m j out) _) (ihk (i+1) out O O)
  ·rw [if_pos (show (!decide ((lat b.A' (i:Int)).By∈names))=true by simpa using h)];refine aN (out++[lat b.A' (i:Int)]) (aI O (aN _ (wm _ _ hn) (aS (by simpa using h) (aI O (aI (by rw [wr]; omega) (ak rfl)))))) (aI (bb O O) ?_);have:=bO (P:=λ j=>Ev2 (λ n m=>cY n b names m j (out++[lat b.A' (i:Int)])) _) (ihk (i+1) (out++[lat b.A' (i:Int)]) O (by rw [qr,wr]; omega))
   rwa [List.append_assoc] at this
theorem wZ (b:av)(names:List Bk)(hn:names.length<=1000000000000000)(hb:b.Ar.length*96<=140737488351232):∀ (k i:Nat) (out:List al),i+k=b.Ar.length->out.length<=i ->
  Ev2 (λ n m=>cU n b names m (i:Int) out) (·=out++(b.Ar.drop i).filter λ a=>!decide (a.Eg∈names)):=by
 intro k
 induction k with
 | zero=>
  intro i out hi ho;refine aJ ?_;simp only [cU];refine aR O (ak ?_);rw [rg O]; simp
 | succ k ihk=>
  intro i out hi ho;refine aJ ?_;simp only [cU];rw [cX _ O,List.filter_cons];refine aS O ?_;by_cases h:(lat b.Ar (i:Int)).Eg∈names
  ·rw [if_neg (show ¬ (!decide ((lat b.Ar (i:Int)).Eg∈names))=true by simpa using h)];refine aN out (aI O (aN _ (wm _ _ hn) (aR (by simpa using h) (ak rfl)))) (aI (bb O O) ?_);exact bO (P:=λ j=>Ev2 (λ n m=>cU n b names m j out) _) (ihk (i+1) out O O)
  ·rw [if_pos (show (!decide ((lat b.Ar (i:Int)).Eg∈names))=true by simpa using h)];refine aN (out++[lat b.Ar (i:Int)]) (aI O (aN _ (wm _ _ hn) (aS (by simpa using h) (aI O (aI (by rw [wr]; omega) (ak rfl)))))) (aI (bb O O) ?_);have:=bO (P:=λ j=>Ev2 (λ n m=>cU n b names m j (out++[lat b.Ar (i:Int)])) _) (ihk (i+1) (out++[lat b.Ar (i:Int)]) O (by rw [qr,wr]; omega))
   rwa [List.append_assoc] at this
def woB (b:av)(attrs blocks:List Bk):av:=av.mk (b.A'.filter λ a=>!decide (a.By∈attrs)) (b.Ar.filter λ k=>!decide (k.Eg∈blocks))
theorem ss {b:av}(hb:av.Bd b)(attrs blocks:List Bk)(h1:attrs.length<=1000000000000000)(h2:blocks.length<=1000000000000000):Ev2 (λ n _=>iF n b attrs blocks) (·=woB b attrs blocks):=by
 have la:=hb.bAttrs;have lb:=hb.bBlocks;unfold cH at la lb;simp only [iF];refine aN _ (rS b hb) ?_;refine aN _ (ym b.A' (λ n x0=>g7 n x0 attrs) (λ a=>decide (a.By∈attrs)) (λ a _=>?_) O) ?_
 ·simp only [g7]; exact aN _ (qZ attrs _ h1) (ak rfl)
 refine aN _ (yo b.Ar (λ n x0=>hQ n x0 blocks) (λ a=>decide (a.Eg∈blocks)) (λ a _=>?_) O) (ak Z)
 ·simp only [hQ]; exact aN _ (qZ blocks _ h2) (ak rfl)
theorem xx {b:av}(hb:av.Bd b)(attrs blocks:List Bk)(h1:attrs.length<=1000000000000000)(h2:blocks.length<=1000000000000000):Ev2 (λ n _=>jT n b attrs blocks) (·=woB b attrs blocks):=by
 have la:=hb.bAttrs;have lb:=hb.bBlocks;unfold cH at la lb;simp only [jT];refine aN _ (bN (f:=λ n m=>cY n b attrs m 0 []) (wW b attrs h1 la b.A'.length 0 [] O (by decide))) ?_;refine aN _ (bN (f:=λ n m=>cU n b blocks m 0 []) (wZ b blocks h2 lb b.Ar.length 0 [] O (by decide))) (ak ?_);simp [woB]
theorem Dt {b:av}(hb:av.Bd b)(attrs blocks:List Bk):av.Bd (woB b attrs blocks):=by
 have la:=hb.bAttrs;have lb:=hb.bBlocks;have l1:=List.length_filter_le (λ a:ac=>!decide (a.By∈attrs)) b.A';have l2:=List.length_filter_le (λ k:al=>!decide (k.Eg∈blocks)) b.Ar;refine .mk ?_ (λ y hy=>hb.eAttrs y (List.mem_filter.1 hy).1) ?_ (λ y hy=>hb.eBlocks y (List.mem_filter.1 hy).1)
 ·show (b.A'.filter _).length*184<=cH; omega
 ·show (b.Ar.filter _).length*96<=cH; omega
theorem wI {b:av}(hb:av.Bd b)(attrs blocks:List Bk)(h1:attrs.length*16<=cH)(h2:blocks.length*16<=cH)(haw:Ev2 (λ n _=>dJ n) (·=true)):Ev2 (λ n _=>iX n b attrs blocks) (·=true):=by
 unfold cH at h1 h2;simp only [iX];refine d6 (λ _=>True) (d6 _ (pR hb) (λ r _=>bv (λ _=>ak trivial) (λ _=>bv (λ _=>ak trivial) (λ _=>ak trivial)))) (λ t _=>?_);refine bv (λ _=>aN true haw (ak Z)) (λ _=>?_);refine aN true ?_ (ak Z);refine aN _ (ss hb attrs blocks O O) (aN _ (xx hb attrs blocks O O) ?_);exact aN true (y9 _ (Dt hb attrs blocks)) (aS Z (aN true haw (ak Z)))
end Go.Ab.R06
end
section
namespace Go.Ab.R06
open Go.Proofs Go.Ab Go.Ab.RB
attribute [local irreducible] awp gg ba aF aU AV.sub M cB
def ca (n:Nat)(b_0:av)(typ_1:Bk)(r6:(List al))(r8:av):Nat->Int->Int->Int->Option (Unit⊕Bool)|0,_,_,_=>none|m+1,i43,k44,j45=>if j45<(b_0.Ar.length:Int) then jn (ck (inR (j45+1))<|ck ((0:Int)<=j45/\j45<=j45+1/\j45+1<=(b_0.Ar.length:Int))<|(ck ((0:Int)<=j45/\j45<(b_0.Ar.length:Int))<|if (lat b_0.Ar j45).Eg=typ_1 then some (decide (i43<(r6.length:Int)))else some false : Option Bool).bind λ t51=>if t51=true then ck (inR (i43+1))<|ck ((0:Int)<=i43/\i43<=i43+1/\i43+1<=(r6.length:Int))<|(dr n (sub b_0.Ar j45 (j45+1)) (sub r6 i43 (i43+1))).bind λ H4=>if (!H4)=true then some (.inr (.inr false))else ck (inR (i43+1))<|some (.inl (i43+1,k44))else(if (r8.Ar.length:Int)<=k44 then some true else ck (inR (k44+1))<|ck ((0:Int)<=k44/\k44<=k44+1/\k44+1<=(r8.Ar.length:Int))<|(dr n (sub b_0.Ar j45 (j45+1)) (sub r8.Ar k44 (k44+1))).bind λ Lo=>some (!Lo) : Option Bool).bind λ t64=>if t64=true then some (.inr (.inr false))else ck (inR (k44+1))<|some (.inl (i43,k44+1)) : Option ((Int×Int)⊕(Unit⊕Bool))) λ Jx=>ck (inR (j45+1))<|ca n b_0 typ_1 r6 r8 m Jx.1 Jx.2 (j45+1)else some (.inl ())
def iV (n:Nat)(b_0:av)(typ_1:Bk):Option Bool :=(iq n b_0 300).bind λ r1=>if (!r1)=true then(dJ n).bind λ r4=>some r4 else(jl n b_0 typ_1).bind λ r6=>(iF n b_0 [] [typ_1]).bind λ r8=>((fK n r8.A' b_0.A').bind λ Fb=>if (!Fb)=true then some true else ck (inR ((r6.length:Int)+(r8.Ar.length:Int)))<|some (!decide ((r6.length:Int)+(r8.Ar.length:Int)=(b_0.Ar.length:Int))) : Option Bool).bind λ HR=>if HR=true then some false else jn (ca n b_0 typ_1 r6 r8 n 0 0 0) λ _Jf=>(dJ n).bind λ J7=>some J7
theorem pc (n:Nat)(b_0:av)(typ_1:Bk)(r:Bool)(h0:iV n b_0 typ_1=some r):aF Tryz.prog 7 [.agg (av.cs b_0),eS typ_1] (·=.p (eB r)):=by
 unfold iV at h0;refine aZ good Tryz.func7 Z Z Z λ w0=>mP (λ v:Bool=>.p (eB v)) ?_;refine nx 9 Z (bd h0 λ r1 e2 h0=>?_);refine oK (g8 _ b_0 300 _ e2) Z ⟨sr,sr,trivial⟩ Tryz.call13 Z (nx 2 Z ?_);refine fB [13] h0 Z (λ c3 h0=>?_) λ c3 h0=>?_
 ·refine nx 3 Z (bd h0 λ r4 e5 h0=>?_);refine oK (fE _  _ e5) Z trivial Tryz.call9 Z (nx 3 Z ?_);exact mQ (oi h0) Z (sr)
 refine nx 6 Z (bd h0 λ r6 e7 h0=>?_);refine oK (kO _ b_0 typ_1 _ e7) Z ⟨sr,sr,trivial⟩ Tryz.call20 Z (nx 6 Z ?_);refine mO Z (bg eS [typ_1] Z Z Z Z Z Z Z Z Z Z Z Z Z Z ?_);refine bd h0 λ r8 e9 h0=>oK (j4 _ b_0 [] [typ_1] _ e9) Z ⟨sr,ei _,sr,trivial⟩ Tryz.call22 Z (nx 5 Z ?_);refine bd h0 λ Jy h1 h0=>kN Jy (λ II=>⟨[(1,.p (eS typ_1)),(2,.ptr 2 0),(5,.p (eL am r6)),(6,.ptr 6 0),(39,.p (eB II))],[(2,(av.cs b_0).map .p),(6,(av.cs r8).map .p)]⟩) ?_ ?_
 ·refine nx 1 Z (fB [39] h0 Z (λ Gw h0=>?_) λ Gw h0=>?_)
  ·exact nx 6 Z (mQ (oi h0) Z (sr))
  refine nx 13 rfl ?_;obtain ⟨JL,h1,E3,hR0⟩:=bR h0;refine kEx 0 (λ Jv:Unit=>JL=.inl Jv) (λ Jv=>⟨[],[]⟩) (λ Jv hv=>?_) ?_
  ·have h0:=E3 _ hv;refine nx 3 Z (bd h0 λ J7 Nw h0=>?_);refine oK (fE _  _ Nw) Z trivial Tryz.call9 Z (nx 3 Z ?_);exact mQ (oi h0) Z (sr)
  refine lG (λ (HP:Int×Int×Int)=>⟨[(1,.p (eS typ_1)),(2,.ptr 2 0),(5,.p (eL am r6)),(6,.ptr 6 0),(7,.p (eI HP.1)),(8,.p (eI HP.2.1)),(9,.p (eI HP.2.2))],[(2,(av.cs b_0).map .p),(6,(av.cs r8).map .p)]⟩) (λ m (HP:Int×Int×Int)=>ca n b_0 typ_1 r6 r8 m HP.1 HP.2.1 HP.2.2) Y (0,0,0) h1 (gE rfl rfl) ?_;rintro m ⟨i43,k44,j45⟩ h1;replace h1:ca n b_0 typ_1 r6 r8 (m+1) i43 k44 j45=some JL:=h1;rw [ca] at h1;refine nx 6 rfl (oLl (f:=am) rfl rfl ?_);refine nx 2 rfl (fD [44] h1 rfl (λ c46 h1=>?_) λ c46 h1=>?_)
  ·refine nx 3 rfl ?_;obtain ⟨Ji,h2,hL1,hR1⟩:=bR h1;refine kX (λ G8:Int×Int=>Ji=.inl G8) (λ G8=>⟨[(1,.p (eS typ_1)),(2,.ptr 2 0),(5,.p (eL am r6)),(6,.ptr 6 0),(7,.p (eI G8.1)),(8,.p (eI G8.2)),(9,.p (eI j45))],[(2,(av.cs b_0).map .p),(6,(av.cs r8).map .p)]⟩) (λ G8 hv=>?_) ?_
   ·have h1:=hL1 _ hv;refine nx 3 Z (oA h1 Z Z λ Iy h1=>?_);exact nx 2 Z (eX (G8.1,G8.2,j45+1) h1 (gE Z Z))
   refine nx 7 Z (oA h2 Z Z λ G2 h2=>?_);refine cc' h2 λ Hf h2=>mO Z (nW (f:=am) (l:=b_0.Ar) Z Z Z Z Z Z Z Z Z Z Hf (λ x=>congrArg List.length (al.BY x)) ?_);refine nx 3 Z (bd h2 λ Nc h3 h2=>?_);refine kN Nc (λ v88=>⟨[(1,.p (eS typ_1)),(2,.ptr 2 0),(5,.p (eL am r6)),(6,.ptr 6 0),(7,.p (eI i43)),(8,.p (eI k44)),(9,.p (eI j45)),(10,.p (eL am (sub b_0.Ar j45 (j45+1)))),(66,.p (eB v88))],[(2,(av.cs b_0).map .p),(6,(av.cs r8).map .p)]⟩) ?_ ?_
   ·refine nx 1 Z (fB [66] h2 Z (λ KF h2=>?_) λ KF h2=>?_)
    ·refine nx 8 Z (oA h2 Z Z λ IW h2=>?_);refine cc' h2 λ JU h2=>mO Z (nW (f:=am) (l:=r6) Z Z Z Z Z Z Z Z Z Z JU (λ x=>congrArg List.length (al.BY x)) ?_);refine bd h2 λ H4 Mi h2=>oK (gZ _ (sub b_0.Ar j45 (j45+1)) (sub r6 i43 (i43+1)) _ Mi) Z ⟨sr,sr,trivial⟩ Tryz.call19 Z (nx 2 Z ?_);refine fB [74] h2 Z (λ Lc h2=>?_) λ Lc h2=>?_
     ·exact nx 6 Z (mQ (hR0 _ (hR1 _ (oi h2).symm).symm) Z (sr))
     refine nx 4 Z (oA h2 Z Z λ KY h2=>?_);exact nx 2 Z (eX _ (oi h2).symm (gE Z Z))
    refine nx 3 Z (bd h2 λ LS h3 h2=>?_);refine kN LS (λ J6=>⟨[(1,.p (eS typ_1)),(2,.ptr 2 0),(5,.p (eL am r6)),(6,.ptr 6 0),(7,.p (eI i43)),(8,.p (eI k44)),(9,.p (eI j45)),(92,.p (eB J6))],[(2,(av.cs b_0).map .p),(6,(av.cs r8).map .p)]⟩) ?_ ?_
    ·refine nx 1 Z (fB [92] h2 Z (λ NM h2=>?_) λ NM h2=>?_)
     ·exact nx 6 Z (mQ (hR0 _ (hR1 _ (oi h2).symm).symm) Z (sr))
     refine nx 4 Z (oA h2 Z Z λ JR h2=>?_);exact nx 2 Z (eX _ (oi h2).symm (gE Z Z))
    refine nx 4 Z (oLl (f:=am) Z Z ?_);refine nx 2 Z (fD [81,82] h3 Z (λ c59 h3=>?_) λ c59 h3=>?_)
    ·exact nx 11 Z (eX _ (oi h3).symm (gE Z Z))
    refine nx 5 Z (oA h3 Z Z λ IV h3=>?_);refine cc' h3 λ KX h3=>mO Z (nW (f:=am) (l:=r8.Ar) Z Z Z Z Z Z Z Z Z Z KX (λ x=>congrArg List.length (al.BY x)) ?_);refine bd h3 λ Lo Ny h3=>oK (gZ _ (sub b_0.Ar j45 (j45+1)) (sub r8.Ar k44 (k44+1)) _ Ny) Z ⟨sr,sr,trivial⟩ Tryz.call19 Z (nx 3 Z ?_);exact eX _ (oi h3).symm (gE Z Z)
   refine nx 4 Z (oE h3 al.BY Z Z Y λ L4 h3=>?_);refine nx 3 Z (oS Z Z ?_);refine nx 1 Z (fD [60,61] h3 Z (λ Ld h3=>?_) λ Ld h3=>?_)
   ·refine nx 2 Z (oLl (f:=am) Z Z ?_);exact nx 3 Z (eX _ (oi h3).symm (gE Z Z))
   exact nx 6 Z (eX _ (oi h3).symm (gE Z Z))
  exact nx 2 Z (eXi _ (oi h1).symm (gE Z Z))
 refine nx 5 Z (bd h1 λ Fb G6 h1=>?_);refine oK (gq _ r8.A' b_0.A' _ G6) Z ⟨sr,sr,trivial⟩ Tryz.call18 Z (nx 2 Z ?_);refine fB [27,28] h1 Z (λ HG h1=>?_) λ HG h1=>?_
 ·exact nx 12 Z (eX _ (oi h1).symm (gE Z Z))
 refine nx 1 Z (oLl (f:=am) Z Z ?_);refine nx 2 Z (oLl (f:=am) Z Z ?_);refine oA h1 Z Z λ HV h1=>nx 2 Z (oLl (f:=am) Z Z ?_);exact nx 3 Z (eX _ (oi h1).symm (gE Z Z))
end Go.Ab.R06
end
section
namespace Go.Ab.R06
open Go.Ab Go.Ab.RB Go.Lib
theorem sT {α:Type} [Inhabited α] (l:List α){i:Nat}(h:i<l.length):sub l (i:Int) ((i:Int)+1)=[lat l (i:Int)]:=by
 have e:((i:Int)+1)=((i+1:Nat):Int):=by omega
 rw [e,BN,List.drop_take,lw l i h,List.drop_eq_getElem_cons h,show i+1-i=1 by omega]
 rfl
def ofT (typ:Bk)(k:al):Bool:=decide (k.Eg=typ)
theorem yf {b:av}(hb:av.Bd b)(typ:Bk)(R:av)(hR:R.Ar=b.Ar.filter λ k=>!ofT typ k)(hl:b.Ar.length<=1000000000000000):∀ (k j:Nat),j+k=b.Ar.length ->
  Ev2 (λ n m=>ca n b typ (b.Ar.filter (ofT typ)) R m ((((b.Ar.take j).filter (ofT typ)).length:Nat):Int) ((((b.Ar.take j).filter λ k=>!ofT typ k).length:Nat):Int) (j:Int)) (·=.inl ()):=by
 intro k
 induction k with
 | zero=>
  intro j hj;refine aJ ?_;simp only [ca];exact aR O (ak rfl)
 | succ k ih=>
  intro j hj;have hm:lat b.Ar (j:Int)∈b.Ar:=dX O;have hs:∀ p:al->Bool,b.Ar.filter p=(b.Ar.take j).filter p++(b.Ar.drop j).filter p:=λ p=>by rw [<- List.filter_append,List.take_append_drop]
  have hsame:=xh [lat b.Ar (j:Int)] (λ k hk=>by rw [List.mem_singleton.1 hk]; exact hb.eBlocks _ hm) G;refine aJ ?_;simp only [ca];have hlt:=List.length_filter_le (ofT typ) (b.Ar.take j);have hlt2:=List.length_filter_le (λ k=>!ofT typ k) (b.Ar.take j);rw [sm] at hlt hlt2;refine aS O ?_;by_cases h:(lat b.Ar (j:Int)).Eg=typ
  ·have hp:ofT typ (lat b.Ar (j:Int))=true:=by simp [ofT,h]
   have e1:b.Ar.filter (ofT typ)=(b.Ar.take j).filter (ofT typ)++lat b.Ar (j:Int)::(b.Ar.drop (j+1)).filter (ofT typ):=by
    rw [hs,cX _ O,List.filter_cons_of_pos hp]
   have e2:lat (b.Ar.filter (ofT typ)) ((((b.Ar.take j).filter (ofT typ)).length:Nat):Int)=lat b.Ar (j:Int):=by
    rw [lw _ _ (by rw [e1]; simp)];simp only [e1];rw [List.getElem_append_right O];simp
   have e3:((b.Ar.take j).filter (ofT typ)).length<(b.Ar.filter (ofT typ)).length:=by rw [e1]; simp
   refine ee ((((b.Ar.take (j+1)).filter (ofT typ)).length:Int),(((b.Ar.take (j+1)).filter λ k=>!ofT typ k).length:Int)) ?_ (aI (bb O O) ?_)
   ·refine aI (bb O O) (aI O ?_);refine aN true (aI O (aS h (ak (by rw [decide_eq_true_eq]; omega)))) ?_;refine aS Z (aI (bb O O) (aI O ?_));rw [sT _ O,sT _ e3,e2];refine aN true hsame (aR (by decide) (aI (bb O O) (ak ?_)));rw [<- jZ _ O,List.filter_append,List.filter_append];simp [hp]
   ·exact bO (P:=λ j'=>Ev2 (λ n m=>ca n b typ (b.Ar.filter (ofT typ)) R m _ _ j') _) (ih (j+1) O)
  ·have hp:(!ofT typ (lat b.Ar (j:Int)))=true:=by simp [ofT,h]
   have hp':ofT typ (lat b.Ar (j:Int))=false:=by simp [ofT,h]
   have e1:R.Ar=(b.Ar.take j).filter (λ k=>!ofT typ k)++lat b.Ar (j:Int)::(b.Ar.drop (j+1)).filter (λ k=>!ofT typ k):=by
    rw [hR,hs,cX _ O,List.filter_cons_of_pos (p:=λ k=>!ofT typ k) hp]
   have e2:lat R.Ar ((((b.Ar.take j).filter λ k=>!ofT typ k).length:Nat):Int)=lat b.Ar (j:Int):=by
    rw [lw _ _ (by rw [e1]; simp)];simp only [e1];rw [List.getElem_append_right O];simp
   have e3:((b.Ar.take j).filter λ k=>!ofT typ k).length<R.Ar.length:=by rw [e1]; simp
   refine ee ((((b.Ar.take (j+1)).filter (ofT typ)).length:Int),(((b.Ar.take (j+1)).filter λ k=>!ofT typ k).length:Int)) ?_ (aI (bb O O) ?_)
   ·refine aI (bb O O) (aI O ?_);refine aN false (aI O (aR h (ak Z))) (aR (by decide) ?_);refine aN false (aR O (aI (bb O O) (aI O ?_))) (aR (by decide) (aI (bb O O) (ak ?_)))
    ·rw [sT _ O,sT _ e3,e2];exact aN true hsame (ak rfl)
    ·rw [<- jZ _ O,List.filter_append,List.filter_append];simp [hp']
   ·exact bO (P:=λ j'=>Ev2 (λ n m=>ca n b typ (b.Ar.filter (ofT typ)) R m _ _ j') _) (ih (j+1) O)
theorem vt {α:Type}(p:α->Bool):∀ l:List α,(l.filter p).length+(l.filter λ a=>!p a).length=l.length
 | []=>rfl
 | a::r=>by
  have:=vt p r
  cases h:p a <;> simp [h] <;> omega
theorem w4 {b:av}(hb:av.Bd b)(typ:Bk)(haw:Ev2 (λ n _=>dJ n) (·=true)):Ev2 (λ n _=>iV n b typ) (·=true):=by
 have la:=hb.bAttrs;have lb:=hb.bBlocks;unfold cH at la lb;simp only [iV];refine d6 _ (pR hb) (λ r _=>?_);refine bv (λ _=>aN true haw (ak Z)) (λ _=>?_);refine aN _ (tu hb typ) (aN _ (ss hb [] [typ] (by decide) G) ?_)
 have e1:(woB b [] [typ]).A'=b.A':=by
  show b.A'.filter _=_;exact List.filter_eq_self.2 λ a _=>by simp
 have e2:(woB b [] [typ]).Ar=b.Ar.filter λ k=>!ofT typ k:=by
  show b.Ar.filter _=_;simp [ofT]
 have e3:uG b.Ar typ=b.Ar.filter (ofT typ):=rfl;have e4:=vt (ofT typ) b.Ar;rw [e3];refine aN false ?_ (aR (by decide) ?_)
 ·rw [e1,e2];refine aN true (tL _ (λ a ha=>(hb.eAttrs a ha).bExpr) O) (aR (by decide) (aI (bb O O) (ak ?_)));have:((b.Ar.filter (ofT typ)).length:Int)+((b.Ar.filter λ k=>!ofT typ k).length:Int)=(b.Ar.length:Int):=by omega
  rw [this]; simp
 ·have h0:=yf hb typ (woB b [] [typ]) e2 O b.Ar.length 0 O;simp only [List.take_zero,List.filter_nil,List.length_nil] at h0;exact ee () (bN (f:=λ n m=>ca n b typ (b.Ar.filter (ofT typ)) (woB b [] [typ]) m 0 0 0) h0) (aN true haw (ak Z))
end Go.Ab.R06
end
