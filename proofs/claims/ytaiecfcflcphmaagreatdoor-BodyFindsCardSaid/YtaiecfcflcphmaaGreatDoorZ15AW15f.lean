/- Texts of the proof, one behind the other. No statement is proved here. -/
import Derived.Test.YtaiecfcflcphmaaGreatDoorCards
import Derived.Test.YtaiecfcflcphmaaGreatDoorTie
import Derived.WalkKit
import Derived.SizedLaws
import Derived.ProofKit
import Derived.OpenShut
import Derived.ShutString
import Derived.LaidMore
import Derived.Stop.Joined
import Derived.Deep.DeepHandedRow
import Derived.Deep.DeepWitnessRowRef
import Derived.Test.YtaiecfcflcphmaaGreatDoorZ15Aa
import Derived.Test.YtaiecfcflcphmaaGreatDoorZ15Ab
import Derived.Test.YtaiecfcflcphmaaGreatDoorZ15Ac
import Derived.Test.YtaiecfcflcphmaaGreatDoorZ15Ad
import Derived.Test.YtaiecfcflcphmaaGreatDoorZ15Ae
import Derived.Test.YtaiecfcflcphmaaGreatDoorZ15Af
import Derived.Test.YtaiecfcflcphmaaGreatDoorZ15Ag
set_option maxHeartbeats 4000000
section
namespace Go.Ab.R06
open Go.Proofs Go.Ab Go.Ab.RB
attribute [local irreducible] awp gg ba aF aU AV.sub M cB
def dd (EW:ag->ag->Option Bool)(a_0:ag)(EB:ag):Nat->Int->Option (Unit⊕Bool)|0,_=>none|m+1,i20=>if i20<(a_0.B'.length:Int) then ck ((0:Int)<=i20/\i20<(a_0.B'.length:Int))<|ck ((0:Int)<=i20/\i20<(EB.B'.length:Int))<|(EW (lat a_0.B' i20) (lat EB.B' i20)).bind λ It=>if (!It)=true then some (.inr false)else ck (inR (i20+1))<|dd EW a_0 EB m (i20+1)else some (.inl ())
def dQ:Nat->ag->ag->Option Bool|0,_,_=>none|n+1,a_0,EB=>(if a_0.AI=EB.AI then if a_0.fOp=EB.fOp then if a_0.By=EB.By then if a_0.Eo=EB.Eo then if a_0.fAt=EB.fAt then some (!decide ((a_0.B'.length:Int)=(EB.B'.length:Int)))else some true else some true else some true else some true else some true : Option Bool).bind λ t6=>if t6=true then some false else(if a_0.C'.AI=EB.C'.AI then if a_0.C'.Em=EB.C'.Em then some (!decide (a_0.C'.Ep=EB.C'.Ep))else some true else some true : Option Bool).bind λ LJ=>if LJ=true then some false else jn (dd (dQ n) a_0 EB n 0) λ Hk=>some true
theorem rc (n:Nat):∀ (a_0:ag) (EB:ag) (r:Bool),dQ n a_0 EB=some r->aF Tryz.prog 36 [.agg (ag.cs a_0),.agg (ag.cs EB)] (·=.p (eB r)):=by
 induction n with
 | zero=>intro a_0 EB r h0; cases h0
 | succ n ih=>
 have E4:=ih;intro a_0 EB r h0;rw [dQ] at h0;refine aZ good Tryz.func36 Z Z Z λ w0=>mP (λ v:Bool=>.p (eB v)) ?_;refine nx 8 Z (bd h0 λ Iu h1 h0=>?_);refine kN Iu (λ JF=>⟨[(2,.ptr 2 0),(3,.ptr 3 0),(47,.p (eB JF))],[(2,(ag.cs a_0).map .p),(3,(ag.cs EB).map .p)]⟩) ?_ ?_
 ·refine nx 1 Z (fB [47] h0 Z (λ c7 h0=>?_) λ c7 h0=>?_)
  ·exact nx 6 Z (mQ (oi h0) Z (sr))
  refine nx 4 Z (bd h0 λ Jk h1 h0=>?_);refine kN Jk (λ HY=>⟨[(2,.ptr 2 0),(3,.ptr 3 0),(72,.p (eB HY))],[(2,(ag.cs a_0).map .p),(3,(ag.cs EB).map .p)]⟩) ?_ ?_
  ·refine nx 1 Z (fB [72] h0 Z (λ GK h0=>?_) λ GK h0=>?_)
   ·exact nx 6 Z (mQ (oi h0) Z (sr))
   refine nx 8 rfl ?_;obtain ⟨Jj,h1,E3,hR0⟩:=bR h0;refine kEx 0 (λ v37:Unit=>Jj=.inl v37) (λ v37=>⟨[],[]⟩) (λ v37 hv=>?_) ?_
   ·have h0:=E3 _ hv;exact nx 6 Z (mQ (oi h0) Z (sr))
   refine lG (λ (If:Int)=>⟨[(2,.ptr 2 0),(3,.ptr 3 0),(5,.p (eI If))],[(2,(ag.cs a_0).map .p),(3,(ag.cs EB).map .p)]⟩) (λ m (If:Int)=>dd (dQ n) a_0 EB m If) Y 0 h1 (gE rfl rfl) ?_;rintro m i20 h1;replace h1:dd (dQ n) a_0 EB (m+1) i20=some Jj:=h1;rw [dd] at h1;refine nx 6 rfl (oLl (f:=aw) rfl rfl ?_);refine nx 2 rfl (fD [77] h1 rfl (λ c21 h1=>?_) λ c21 h1=>?_)
   ·refine nx 5 Z (cc' h1 λ Fl h1=>?_);refine cc' h1 λ FK h1=>bd h1 λ It La h1=>mD [(2,.ptr 2 0),(3,.ptr 3 0),(5,.p (eI i20))] Z ⟨Z,Z,Z,trivial⟩ Z (dR 3 Z ?_);refine dq (.rptr (ag.cs (lat a_0.B' i20))) [81,82] Z (λ _ e _ q=>ab Z (cT (f:=aw) (l:=a_0.B') ag.cs Z Z Z Z Z Z (e _ _ Z) Z (e _ _ Z) Fl ag.BY Y q)) Z (dR 4 Z ?_);refine dq (.rptr (ag.cs (lat EB.B' i20))) [86,87] Z (λ _ e _ q=>ab Z (cT (f:=aw) (l:=EB.B') ag.cs Z Z Z Z Z Z (e _ _ Z) Z (e _ _ Z) FK ag.BY Y q)) Z (dR 1 Z ?_);refine dq (.p (eB It)) [84,89] Z (λ _ e _ q=>ab Z (bc (E4 (lat a_0.B' i20) (lat EB.B' i20) _ La) Z Z Z (az (e _ _ Z) (az (e _ _ Z) aV)) ⟨sr,sr,trivial⟩ Tryz.call36 Z q)) Z (dR 1 Z ?_);refine dE Z (nx 1 Z ?_);refine fB [91] h1 Z (λ Is h1=>?_) λ Is h1=>?_
    ·exact nx 6 Z (mQ (hR0 _ (oi h1).symm) Z (sr))
    refine nx 4 Z (oA h1 Z Z λ HM h1=>?_);exact nx 2 Z (eX (i20+1) h1 (gE Z Z))
   exact nx 2 Z (eXi _ (oi h1).symm (gE Z Z))
  refine nx 9 Z (fN [54,55] h1 Z (λ c8 h1=>?_) λ c8 h1=>?_)
  ·refine nx 9 Z (fN [62,63,64] h1 Z (λ c9 h1=>?_) λ c9 h1=>?_)
   ·refine nx 6 Z (oS Z Z ?_);exact nx 2 Z (eX _ (oi h1).symm (gE Z Z))
   exact nx 9 Z (eX _ (oi h1).symm (gE Z Z))
  exact nx 18 Z (eX _ (oi h1).symm (gE Z Z))
 refine nx 7 Z (fN [10,11] h1 Z (λ c1 h1=>?_) λ c1 h1=>?_)
 ·refine nx 7 Z (fN [16,17,18] h1 Z (λ c2 h1=>?_) λ c2 h1=>?_)
  ·refine nx 4 Z (oS Z Z ?_);refine nx 2 Z (fN [23,24,25] h1 Z (λ c3 h1=>?_) λ c3 h1=>?_)
   ·refine nx 4 Z (oS Z Z ?_);refine nx 2 Z (fN [30,31,32] h1 Z (λ c4 h1=>?_) λ c4 h1=>?_)
    ·refine nx 7 Z (fN [37,38,39] h1 Z (λ c5 h1=>?_) λ c5 h1=>?_)
     ·refine nx 2 Z (oLl (f:=aw) Z Z ?_);refine nx 2 Z (oLl (f:=aw) Z Z ?_);exact nx 3 Z (eX _ (oi h1).symm (gE Z Z))
     exact nx 9 Z (eX _ (oi h1).symm (gE Z Z))
    exact nx 16 Z (eX _ (oi h1).symm (gE Z Z))
   exact nx 23 Z (eX _ (oi h1).symm (gE Z Z))
  exact nx 30 Z (eX _ (oi h1).symm (gE Z Z))
 exact nx 37 Z (eX _ (oi h1).symm (gE Z Z))
def cN (n:Nat)(a_0:List ac)(EB:List ac):Nat->Int->Option (Unit⊕Bool)|0,_=>none|m+1,i17=>if i17<(a_0.length:Int) then(ck ((0:Int)<=i17/\i17<(a_0.length:Int))<|ck ((0:Int)<=i17/\i17<(EB.length:Int))<|if (lat a_0 i17).By=(lat EB i17).By then ck ((0:Int)<=i17/\i17<(a_0.length:Int))<|ck ((0:Int)<=i17/\i17<(EB.length:Int))<|if (lat a_0 i17).fAt=(lat EB i17).fAt then ck ((0:Int)<=i17/\i17<(a_0.length:Int))<|ck ((0:Int)<=i17/\i17<(EB.length:Int))<|(dQ n ((lat a_0 i17).Ej) ((lat EB i17).Ej)).bind λ Hq=>some (!Hq)else some true else some true : Option Bool).bind λ KQ=>if KQ=true then some (.inr false)else ck (inR (i17+1))<|cN n a_0 EB m (i17+1)else some (.inl ())
def fK (n:Nat)(a_0:List ac)(EB:List ac):Option Bool :=if (a_0.length:Int)=(EB.length:Int) then jn (cN n a_0 EB n 0) λ LM=>some true else some false
theorem gq (n:Nat)(a_0:List ac)(EB:List ac)(r:Bool)(h0:fK n a_0 EB=some r):aF Tryz.prog 18 [eL ae a_0,eL ae EB] (·=.p (eB r)):=by
 unfold fK at h0;refine aZ good Tryz.func18 Z Z Z λ w0=>mP (λ v:Bool=>.p (eB v)) ?_;refine nx 8 Z (oLl (f:=ae) Z Z ?_);refine nx 1 Z (oLl (f:=ae) Z Z ?_);refine nx 2 Z (fN [10] h0 Z (λ c1 h0=>?_) λ c1 h0=>?_)
 ·refine nx 8 rfl ?_;obtain ⟨H',h1,E3,hR0⟩:=bR h0;refine kEx 0 (λ H2:Unit=>H'=.inl H2) (λ H2=>⟨[],[]⟩) (λ H2 hv=>?_) ?_
  ·have h0:=E3 _ hv;exact nx 6 Z (mQ (oi h0) Z (sr))
  refine lG (λ (GY:Int)=>⟨[(0,.p (eL ae a_0)),(1,.p (eL ae EB)),(5,.p (eI GY))],[]⟩) (λ m (GY:Int)=>cN n a_0 EB m GY) Y 0 h1 (gE rfl rfl) ?_;rintro m i17 h1;replace h1:cN n a_0 EB (m+1) i17=some H':=h1;rw [cN] at h1;refine nx 5 rfl (oLl (f:=ae) rfl rfl ?_);refine nx 2 rfl (fD [14] h1 rfl (λ G7 h1=>?_) λ G7 h1=>?_)
  ·refine nx 5 Z (bd h1 λ Jz h2 h1=>?_);refine kN Jz (λ I'=>⟨[(0,.p (eL ae a_0)),(1,.p (eL ae EB)),(5,.p (eI i17)),(54,.p (eB I'))],[]⟩) ?_ ?_
   ·refine nx 1 Z (fB [54] h1 Z (λ Ic h1=>?_) λ Ic h1=>?_)
    ·exact nx 6 Z (mQ (hR0 _ (oi h1).symm) Z (sr))
    refine nx 4 Z (oA h1 Z Z λ Iq h1=>?_);exact nx 2 Z (eX (i17+1) h1 (gE Z Z))
   refine cc' h2 λ FD h2=>cc' h2 λ Fv h2=>fN (p:=(lat a_0 i17).By=(lat EB i17).By) [] h2 Z (λ c21 h2=>?_) λ c21 h2=>?_
   ·refine cc' h2 λ Fl h2=>cc' h2 λ FK h2=>fN (p:=(lat a_0 i17).fAt=(lat EB i17).fAt) [] h2 Z (λ HD h2=>?_) λ HD h2=>?_
    ·refine cc' h2 λ Gu h2=>cc' h2 λ FV h2=>bd h2 λ Hq Jp h2=>mD [(0,.p (eL ae a_0)),(1,.p (eL ae EB)),(5,.p (eI i17))] Z ⟨Z,Z,Z,trivial⟩ Z (dR 2 Z ?_);refine dq (.rptr (ac.cs (lat a_0 i17))) [17,18] Z (λ _ e _ q=>ab Z (cT (f:=ae) (l:=a_0) ac.cs Z Z Z Z Z Z (e _ _ Z) Z (e _ _ Z) FD ac.BY Y q)) Z (dR 4 Z ?_);refine dq (.rptr (ac.cs (lat EB i17))) [22,23] Z (λ _ e _ q=>ab Z (cT (f:=ae) (l:=EB) ac.cs Z Z Z Z Z Z (e _ _ Z) Z (e _ _ Z) Fv ac.BY Y q)) Z (dR 2 Z ?_);refine dq (.p (eB (!decide ((lat a_0 i17).By=(lat EB i17).By)))) [21,26] Z (λ _ e _ q=>ab Z (jv Z Z Z (e _ _ Z) (e _ _ Z) Z q)) Z (dL (jY c21) Z ?_);refine dR 2 Z (dq (.rptr (ac.cs (lat a_0 i17))) [28,29,30] Z (λ _ e _ q=>bh (cT (f:=ae) (l:=a_0) ac.cs Z Z Z Z Z Z (e _ _ Z) Z (e _ _ Z) Fl ac.BY Y q) Z Z (e _ _ Z) (rfl)) Z ?_);refine dR 4 Z (dq (.rptr (ac.cs (lat EB i17))) [28,34,35] Z (λ _ e _ q=>bh (cT (f:=ae) (l:=EB) ac.cs Z Z Z Z Z Z (e _ _ Z) Z (e _ _ Z) FK ac.BY Y q) Z Z (e _ _ Z) (rfl)) Z ?_);refine dR 2 Z (dL (jY HD) Z ?_);refine dR 4 Z (dq (.rptr (ac.cs (lat a_0 i17))) [41,42,43] Z (λ _ e _ q=>bh (cT (f:=ae) (l:=a_0) ac.cs Z Z Z Z Z Z (e _ _ Z) Z (e _ _ Z) Gu ac.BY Y q) Z Z (e _ _ Z) (rfl)) Z ?_);refine dR 4 Z (dq (.rptr (ac.cs (lat EB i17))) [41,47,48] Z (λ _ e _ q=>bh (cT (f:=ae) (l:=EB) ac.cs Z Z Z Z Z Z (e _ _ Z) Z (e _ _ Z) FV ac.BY Y q) Z Z (e _ _ Z) (rfl)) Z ?_);refine dR 2 Z (dq (.p (eB Hq)) [41,46,51] Z (λ _ e _ q=>bh (bc (rc _ ((lat a_0 i17).Ej) ((lat EB i17).Ej) _ Jp) Z Z Z (az (e _ _ Z) (az (e _ _ Z) aV)) ⟨sr,sr,trivial⟩ Tryz.call36 Z q) Z Z (e _ _ Z) (rfl)) Z ?_);refine dR 2 Z (dE Z ?_);exact nx 1 Z (eX _ (oi h2).symm (gE Z Z))
    refine mD [(0,.p (eL ae a_0)),(1,.p (eL ae EB)),(5,.p (eI i17))] Z ⟨Z,Z,Z,trivial⟩ Z (dR 2 Z ?_);refine dq (.rptr (ac.cs (lat a_0 i17))) [17,18] Z (λ _ e _ q=>ab Z (cT (f:=ae) (l:=a_0) ac.cs Z Z Z Z Z Z (e _ _ Z) Z (e _ _ Z) FD ac.BY Y q)) Z (dR 4 Z ?_);refine dq (.rptr (ac.cs (lat EB i17))) [22,23] Z (λ _ e _ q=>ab Z (cT (f:=ae) (l:=EB) ac.cs Z Z Z Z Z Z (e _ _ Z) Z (e _ _ Z) Fv ac.BY Y q)) Z (dR 2 Z ?_);refine dq (.p (eB (!decide ((lat a_0 i17).By=(lat EB i17).By)))) [21,26] Z (λ _ e _ q=>ab Z (jv Z Z Z (e _ _ Z) (e _ _ Z) Z q)) Z (dL (jY c21) Z ?_);refine dR 2 Z (dq (.rptr (ac.cs (lat a_0 i17))) [28,29,30] Z (λ _ e _ q=>bh (cT (f:=ae) (l:=a_0) ac.cs Z Z Z Z Z Z (e _ _ Z) Z (e _ _ Z) Fl ac.BY Y q) Z Z (e _ _ Z) (rfl)) Z ?_);refine dR 4 Z (dq (.rptr (ac.cs (lat EB i17))) [28,34,35] Z (λ _ e _ q=>bh (cT (f:=ae) (l:=EB) ac.cs Z Z Z Z Z Z (e _ _ Z) Z (e _ _ Z) FK ac.BY Y q) Z Z (e _ _ Z) (rfl)) Z ?_);refine dR 2 Z (dL (pW HD) Z ?_);refine dR 15 Z (dE Z ?_);exact nx 1 Z (eX _ (oi h2).symm (gE Z Z))
   refine mD [(0,.p (eL ae a_0)),(1,.p (eL ae EB)),(5,.p (eI i17))] Z ⟨Z,Z,Z,trivial⟩ Z (dR 2 Z ?_);refine dq (.rptr (ac.cs (lat a_0 i17))) [17,18] Z (λ _ e _ q=>ab Z (cT (f:=ae) (l:=a_0) ac.cs Z Z Z Z Z Z (e _ _ Z) Z (e _ _ Z) FD ac.BY Y q)) Z (dR 4 Z ?_);refine dq (.rptr (ac.cs (lat EB i17))) [22,23] Z (λ _ e _ q=>ab Z (cT (f:=ae) (l:=EB) ac.cs Z Z Z Z Z Z (e _ _ Z) Z (e _ _ Z) Fv ac.BY Y q)) Z (dR 2 Z ?_);refine dq (.p (eB (!decide ((lat a_0 i17).By=(lat EB i17).By)))) [21,26] Z (λ _ e _ q=>ab Z (jv Z Z Z (e _ _ Z) (e _ _ Z) Z q)) Z (dL (pW c21) Z ?_);refine dR 26 Z (dE Z ?_);exact nx 1 Z (eX _ (oi h2).symm (gE Z Z))
  exact nx 2 Z (eXi _ (oi h1).symm (gE Z Z))
 exact nx 6 Z (mQ (oi h0) Z (sr))
def cE (a_0:List al)(EB:List al)(i39:Int):Nat->Int->Option (Unit⊕(Unit⊕Bool))|0,_=>none|m+1,k65=>ck ((0:Int)<=i39/\i39<(a_0.length:Int))<|if k65<(((lat a_0 i39).Df).length:Int) then ck ((0:Int)<=i39/\i39<(a_0.length:Int))<|ck ((0:Int)<=k65/\k65<(((lat a_0 i39).Df).length:Int))<|ck ((0:Int)<=i39/\i39<(EB.length:Int))<|ck ((0:Int)<=k65/\k65<(((lat EB i39).Df).length:Int))<|if lat ((lat a_0 i39).Df) k65=lat ((lat EB i39).Df) k65 then ck (inR (k65+1))<|cE a_0 EB i39 m (k65+1)else some (.inr (.inr false))else some (.inl ())
def cD (n:Nat)(E7:av->av->Option Bool)(a_0:List al)(EB:List al):Nat->Int->Option (Unit⊕Bool)|0,_=>none|m+1,i39=>if i39<(a_0.length:Int) then(ck ((0:Int)<=i39/\i39<(a_0.length:Int))<|ck ((0:Int)<=i39/\i39<(EB.length:Int))<|if (lat a_0 i39).Eg=(lat EB i39).Eg then ck ((0:Int)<=i39/\i39<(a_0.length:Int))<|ck ((0:Int)<=i39/\i39<(EB.length:Int))<|if (lat a_0 i39).fAt=(lat EB i39).fAt then ck ((0:Int)<=i39/\i39<(a_0.length:Int))<|ck ((0:Int)<=i39/\i39<(EB.length:Int))<|if (((lat a_0 i39).Df).length:Int)=(((lat EB i39).Df).length:Int) then ck ((0:Int)<=i39/\i39<(a_0.length:Int))<|ck ((0:Int)<=i39/\i39<(EB.length:Int))<|(E7 ((lat a_0 i39).Es) ((lat EB i39).Es)).bind λ IL=>some (!IL)else some true else some true else some true : Option Bool).bind λ MW=>if MW=true then some (.inr false)else jn (cE a_0 EB i39 n 0) λ q79=>ck (inR (i39+1))<|cD n E7 a_0 EB m (i39+1)else some (.inl ())
mutual
def fh:Nat->av->av->Option Bool|0,_,_=>none|n+1,a_0,EB=>((fK n a_0.A' EB.A').bind λ r1=>if r1=true then((dr n) a_0.Ar EB.Ar).bind λ r4=>some r4 else some false : Option Bool).bind λ t6=>some t6
def dr:Nat->(List al)->(List al)->Option Bool|0,_,_=>none|n+1,a_0,EB=>if (a_0.length:Int)=(EB.length:Int) then jn (cD n (fh n) a_0 EB n 0) λ Jx=>some true else some false
end
theorem pi (n:Nat):(∀ (a_0:av) (EB:av) (r:Bool),fh n a_0 EB=some r->aF Tryz.prog 12 [.agg (av.cs a_0),.agg (av.cs EB)] (·=.p (eB r)))/\(∀ (a_0:List al) (EB:List al) (r:Bool),dr n a_0 EB=some r->aF Tryz.prog 19 [eL am a_0,eL am EB] (·=.p (eB r))):=by
 induction n with
 | zero=>exact ⟨(by intro a_0 EB r h0; cases h0),(by intro a_0 EB r h0; cases h0)⟩
 | succ n ih=>
 obtain ⟨Fe,EZ⟩:=ih;refine ⟨?_,?_⟩
 ·skip
  intro a_0 EB r h0;rw [fh] at h0;refine aZ good Tryz.func12 Z Z Z λ w0=>mP (λ v:Bool=>.p (eB v)) ?_;refine nx 7 rfl (bd h0 λ o8 h1 h0=>?_);refine kN o8 (λ v9=>⟨[(4,.p (eB v9))],[]⟩) ?_ ?_
  ·exact nx 2 Z (mQ (oi h0) Z (sr))
  refine nx 5 Z (bd h1 λ r1 e2 h1=>?_);refine oK (gq _ a_0.A' EB.A' _ e2) Z ⟨sr,sr,trivial⟩ Tryz.call18 Z (nx 1 Z ?_);refine fB [9,10] h1 Z (λ c3 h1=>?_) λ c3 h1=>?_
  ·refine nx 4 Z (bd h1 λ r4 e5 h1=>?_);refine oK (EZ a_0.Ar EB.Ar _ e5) Z ⟨sr,sr,trivial⟩ Tryz.call19 Z (nx 3 Z ?_);exact eX _ (oi h1).symm (gE Z Z)
  exact nx 8 Z (eX _ (oi h1).symm (gE Z Z))
 ·skip
  intro a_0 EB r h0;rw [dr] at h0;refine aZ good Tryz.func19 Z Z Z λ w0=>mP (λ v:Bool=>.p (eB v)) ?_;refine nx 8 rfl (oLl (f:=am) Z Z ?_);refine nx 1 rfl (oLl (f:=am) Z Z ?_);refine nx 2 rfl (fN [11] h0 rfl (λ c1 h0=>?_) λ c1 h0=>?_)
  ·refine nx 8 rfl ?_;obtain ⟨Jy,h1,E3,hR0⟩:=bR h0;refine kEx 0 (λ II:Unit=>Jy=.inl II) (λ II=>⟨[],[]⟩) (λ II hv=>?_) ?_
   ·have h0:=E3 _ hv;exact nx 6 Z (mQ (oi h0) Z (sr))
   refine lG (λ (Hs:Int)=>⟨[(0,.p (eL am a_0)),(1,.p (eL am EB)),(5,.p (eI Hs))],[]⟩) (λ m (Hs:Int)=>cD n (fh n) a_0 EB m Hs) Y 0 h1 (gE rfl rfl) ?_;rintro m i39 h1;replace h1:cD n (fh n) a_0 EB (m+1) i39=some Jy:=h1;rw [cD] at h1;refine nx 5 rfl (oLl (f:=am) rfl rfl ?_);refine nx 2 rfl (fD [15] h1 rfl (λ Js h1=>?_) λ Js h1=>?_)
   ·refine nx 6 Z (bd h1 λ KL h2 h1=>?_);refine kN KL (λ IC=>⟨[(0,.p (eL am a_0)),(1,.p (eL am EB)),(5,.p (eI i39)),(70,.p (eB IC))],[]⟩) ?_ ?_
    ·refine nx 1 Z (fB [70] h1 Z (λ NP h1=>?_) λ NP h1=>?_)
     ·exact nx 6 Z (mQ (hR0 _ (oi h1).symm) Z (sr))
     refine nx 7 rfl ?_;obtain ⟨Ji,h2,hL1,hR1⟩:=bR h1;refine kEx 2 (λ G8:Unit=>Ji=.inl G8) (λ G8=>⟨[(0,.p (eL am a_0)),(1,.p (eL am EB)),(5,.p (eI i39))],[]⟩) (λ G8 hv=>?_) ?_
     ·have h1:=hL1 _ hv;refine nx 3 Z (oA h1 Z Z λ Nn h1=>?_);exact nx 2 Z (eX (i39+1) h1 (gE Z Z))
     refine lG (λ (GL:Int)=>⟨[(0,.p (eL am a_0)),(1,.p (eL am EB)),(5,.p (eI i39)),(6,.p (eI GL))],[]⟩) (λ m (GL:Int)=>cE a_0 EB i39 m GL) Y 0 h2 (gE rfl rfl) ?_;rintro m k65 h2;replace h2:cE a_0 EB i39 (m+1) k65=some Ji:=h2;rw [cE] at h2;refine nx 6 rfl (oE h2 al.BY rfl rfl Y λ JR h2=>?_);refine nx 2 rfl (oLl (f:=eS) rfl rfl ?_);refine nx 2 rfl (fD [78] h2 rfl (λ NL h2=>?_) λ NL h2=>?_)
     ·refine nx 5 Z (cc' h2 λ IU h2=>?_);refine cc' h2 λ Iy h2=>cc' h2 λ Jn h2=>cc' h2 λ Jm h2=>mD [(0,.p (eL am a_0)),(1,.p (eL am EB)),(5,.p (eI i39)),(6,.p (eI k65))] Z ⟨Z,Z,Z,Z,trivial⟩ Z (dR 2 Z ?_);refine dq (.rptr (al.cs (lat a_0 i39))) [81,82] Z (λ _ e _ q=>ab Z (cT (f:=am) (l:=a_0) al.cs Z Z Z Z Z Z (e _ _ Z) Z (e _ _ Z) IU al.BY Y q)) Z (dR 3 Z ?_);refine dq (.rptr [eS (lat ((lat a_0 i39).Df) k65)]) [85,86] Z (λ _ e _ q=>ab Z (cT (f:=eS) (l:=(lat a_0 i39).Df) (λ x=>[eS x]) Z Z Z Z Z Z (e _ _ Z) Z (e _ _ Z) Iy Y Y q)) Z (dR 3 Z ?_);refine dq (.rptr (al.cs (lat EB i39))) [89,90] Z (λ _ e _ q=>ab Z (cT (f:=am) (l:=EB) al.cs Z Z Z Z Z Z (e _ _ Z) Z (e _ _ Z) Jn al.BY Y q)) Z (dR 3 Z ?_);refine dq (.rptr [eS (lat ((lat EB i39).Df) k65)]) [93,94] Z (λ _ e _ q=>ab Z (cT (f:=eS) (l:=(lat EB i39).Df) (λ x=>[eS x]) Z Z Z Z Z Z (e _ _ Z) Z (e _ _ Z) Jm Y Y q)) Z (dR 1 Z ?_);refine dq (.p (eB (!decide (lat ((lat a_0 i39).Df) k65=lat ((lat EB i39).Df) k65)))) [88,96] Z (λ _ e _ q=>ab Z (jv Z Z Z (e _ _ Z) (e _ _ Z) Z q)) Z (dE Z ?_);refine nx 1 Z (fN [97] h2 Z (λ Mq h2=>?_) λ Mq h2=>?_)
      ·refine nx 4 Z (oA h2 Z Z λ KA h2=>?_);exact nx 2 Z (eX (k65+1) h2 (gE Z Z))
      exact nx 6 Z (mQ (hR0 _ (hR1 _ (oi h2).symm).symm) Z (sr))
     exact nx 2 Z (eXi _ (oi h2).symm (gE Z Z))
    refine cc' h2 λ FO h2=>cc' h2 λ Gm h2=>fN (p:=(lat a_0 i39).Eg=(lat EB i39).Eg) [] h2 Z (λ HN h2=>?_) λ HN h2=>?_
    ·refine cc' h2 λ Gl h2=>cc' h2 λ GR h2=>fN (p:=(lat a_0 i39).fAt=(lat EB i39).fAt) [] h2 Z (λ c46 h2=>?_) λ c46 h2=>?_
     ·refine cc' h2 λ G2 h2=>cc' h2 λ Hf h2=>fN (p:=(((lat a_0 i39).Df).length:Int)=(((lat EB i39).Df).length:Int)) [] h2 Z (λ J1 h2=>?_) λ J1 h2=>?_
      ·refine cc' h2 λ Iz h2=>cc' h2 λ IX h2=>bd h2 λ IL Mj h2=>mD [(0,.p (eL am a_0)),(1,.p (eL am EB)),(5,.p (eI i39))] Z ⟨Z,Z,Z,trivial⟩ Z (dR 2 Z ?_);refine dq (.rptr (al.cs (lat a_0 i39))) [18,19] Z (λ _ e _ q=>ab Z (cT (f:=am) (l:=a_0) al.cs Z Z Z Z Z Z (e _ _ Z) Z (e _ _ Z) FO al.BY Y q)) Z (dR 4 Z ?_);refine dq (.rptr (al.cs (lat EB i39))) [23,24] Z (λ _ e _ q=>ab Z (cT (f:=am) (l:=EB) al.cs Z Z Z Z Z Z (e _ _ Z) Z (e _ _ Z) Gm al.BY Y q)) Z (dR 2 Z ?_);refine dq (.p (eB (!decide ((lat a_0 i39).Eg=(lat EB i39).Eg)))) [22,27] Z (λ _ e _ q=>ab Z (jv Z Z Z (e _ _ Z) (e _ _ Z) Z q)) Z (dL (jY HN) Z ?_);refine dR 2 Z (dq (.rptr (al.cs (lat a_0 i39))) [29,30,31] Z (λ _ e _ q=>bh (cT (f:=am) (l:=a_0) al.cs Z Z Z Z Z Z (e _ _ Z) Z (e _ _ Z) Gl al.BY Y q) Z Z (e _ _ Z) (rfl)) Z ?_);refine dR 4 Z (dq (.rptr (al.cs (lat EB i39))) [29,35,36] Z (λ _ e _ q=>bh (cT (f:=am) (l:=EB) al.cs Z Z Z Z Z Z (e _ _ Z) Z (e _ _ Z) GR al.BY Y q) Z Z (e _ _ Z) (rfl)) Z ?_);refine dR 2 Z (dL (jY c46) Z ?_);refine dR 4 Z (dq (.rptr (al.cs (lat a_0 i39))) [42,43,44] Z (λ _ e _ q=>bh (cT (f:=am) (l:=a_0) al.cs Z Z Z Z Z Z (e _ _ Z) Z (e _ _ Z) G2 al.BY Y q) Z Z (e _ _ Z) (rfl)) Z ?_);refine dR 2 Z (dq (.p (eI (((lat a_0 i39).Df).length:Int))) [42,47] Z (λ _ e _ q=>bh (j7 (f:=eS) (l:=(lat a_0 i39).Df) Z Z Z Z Z (e _ _ Z) Z q) Z Z (e _ _ Z) (rfl)) Z ?_);refine dR 2 Z (dq (.rptr (al.cs (lat EB i39))) [42,49,50] Z (λ _ e _ q=>bh (cT (f:=am) (l:=EB) al.cs Z Z Z Z Z Z (e _ _ Z) Z (e _ _ Z) Hf al.BY Y q) Z Z (e _ _ Z) (rfl)) Z ?_);refine dR 2 Z (dq (.p (eI (((lat EB i39).Df).length:Int))) [42,53] Z (λ _ e _ q=>bh (j7 (f:=eS) (l:=(lat EB i39).Df) Z Z Z Z Z (e _ _ Z) Z q) Z Z (e _ _ Z) (rfl)) Z ?_);refine dL (jY J1) Z (dR 4 Z ?_);refine dq (.rptr (al.cs (lat a_0 i39))) [57,58,59] Z (λ _ e _ q=>bh (cT (f:=am) (l:=a_0) al.cs Z Z Z Z Z Z (e _ _ Z) Z (e _ _ Z) Iz al.BY Y q) Z Z (e _ _ Z) (rfl)) Z (dR 4 Z ?_);refine dq (.rptr (al.cs (lat EB i39))) [57,63,64] Z (λ _ e _ q=>bh (cT (f:=am) (l:=EB) al.cs Z Z Z Z Z Z (e _ _ Z) Z (e _ _ Z) IX al.BY Y q) Z Z (e _ _ Z) (rfl)) Z (dR 2 Z ?_);refine dq (.p (eB IL)) [57,62,67] Z (λ _ e _ q=>bh (bc (Fe ((lat a_0 i39).Es) ((lat EB i39).Es) _ Mj) Z Z Z (az (e _ _ Z) (az (e _ _ Z) aV)) ⟨sr,sr,trivial⟩ Tryz.call12 Z q) Z Z (e _ _ Z) (rfl)) Z (dR 2 Z ?_);refine dE Z (nx 1 Z ?_);exact eX _ (oi h2).symm (gE Z Z)
      refine mD [(0,.p (eL am a_0)),(1,.p (eL am EB)),(5,.p (eI i39))] Z ⟨Z,Z,Z,trivial⟩ Z (dR 2 Z ?_);refine dq (.rptr (al.cs (lat a_0 i39))) [18,19] Z (λ _ e _ q=>ab Z (cT (f:=am) (l:=a_0) al.cs Z Z Z Z Z Z (e _ _ Z) Z (e _ _ Z) FO al.BY Y q)) Z (dR 4 Z ?_);refine dq (.rptr (al.cs (lat EB i39))) [23,24] Z (λ _ e _ q=>ab Z (cT (f:=am) (l:=EB) al.cs Z Z Z Z Z Z (e _ _ Z) Z (e _ _ Z) Gm al.BY Y q)) Z (dR 2 Z ?_);refine dq (.p (eB (!decide ((lat a_0 i39).Eg=(lat EB i39).Eg)))) [22,27] Z (λ _ e _ q=>ab Z (jv Z Z Z (e _ _ Z) (e _ _ Z) Z q)) Z (dL (jY HN) Z ?_);refine dR 2 Z (dq (.rptr (al.cs (lat a_0 i39))) [29,30,31] Z (λ _ e _ q=>bh (cT (f:=am) (l:=a_0) al.cs Z Z Z Z Z Z (e _ _ Z) Z (e _ _ Z) Gl al.BY Y q) Z Z (e _ _ Z) (rfl)) Z ?_);refine dR 4 Z (dq (.rptr (al.cs (lat EB i39))) [29,35,36] Z (λ _ e _ q=>bh (cT (f:=am) (l:=EB) al.cs Z Z Z Z Z Z (e _ _ Z) Z (e _ _ Z) GR al.BY Y q) Z Z (e _ _ Z) (rfl)) Z ?_);refine dR 2 Z (dL (jY c46) Z ?_);refine dR 4 Z (dq (.rptr (al.cs (lat a_0 i39))) [42,43,44] Z (λ _ e _ q=>bh (cT (f:=am) (l:=a_0) al.cs Z Z Z Z Z Z (e _ _ Z) Z (e _ _ Z) G2 al.BY Y q) Z Z (e _ _ Z) (rfl)) Z ?_);refine dR 2 Z (dq (.p (eI (((lat a_0 i39).Df).length:Int))) [42,47] Z (λ _ e _ q=>bh (j7 (f:=eS) (l:=(lat a_0 i39).Df) Z Z Z Z Z (e _ _ Z) Z q) Z Z (e _ _ Z) (rfl)) Z ?_);refine dR 2 Z (dq (.rptr (al.cs (lat EB i39))) [42,49,50] Z (λ _ e _ q=>bh (cT (f:=am) (l:=EB) al.cs Z Z Z Z Z Z (e _ _ Z) Z (e _ _ Z) Hf al.BY Y q) Z Z (e _ _ Z) (rfl)) Z ?_);refine dR 2 Z (dq (.p (eI (((lat EB i39).Df).length:Int))) [42,53] Z (λ _ e _ q=>bh (j7 (f:=eS) (l:=(lat EB i39).Df) Z Z Z Z Z (e _ _ Z) Z q) Z Z (e _ _ Z) (rfl)) Z ?_);refine dL (pW J1) Z (dR 15 Z ?_);refine dE Z (nx 1 Z ?_);exact eX _ (oi h2).symm (gE Z Z)
     refine mD [(0,.p (eL am a_0)),(1,.p (eL am EB)),(5,.p (eI i39))] Z ⟨Z,Z,Z,trivial⟩ Z (dR 2 Z ?_);refine dq (.rptr (al.cs (lat a_0 i39))) [18,19] Z (λ _ e _ q=>ab Z (cT (f:=am) (l:=a_0) al.cs Z Z Z Z Z Z (e _ _ Z) Z (e _ _ Z) FO al.BY Y q)) Z (dR 4 Z ?_);refine dq (.rptr (al.cs (lat EB i39))) [23,24] Z (λ _ e _ q=>ab Z (cT (f:=am) (l:=EB) al.cs Z Z Z Z Z Z (e _ _ Z) Z (e _ _ Z) Gm al.BY Y q)) Z (dR 2 Z ?_);refine dq (.p (eB (!decide ((lat a_0 i39).Eg=(lat EB i39).Eg)))) [22,27] Z (λ _ e _ q=>ab Z (jv Z Z Z (e _ _ Z) (e _ _ Z) Z q)) Z (dL (jY HN) Z ?_);refine dR 2 Z (dq (.rptr (al.cs (lat a_0 i39))) [29,30,31] Z (λ _ e _ q=>bh (cT (f:=am) (l:=a_0) al.cs Z Z Z Z Z Z (e _ _ Z) Z (e _ _ Z) Gl al.BY Y q) Z Z (e _ _ Z) (rfl)) Z ?_);refine dR 4 Z (dq (.rptr (al.cs (lat EB i39))) [29,35,36] Z (λ _ e _ q=>bh (cT (f:=am) (l:=EB) al.cs Z Z Z Z Z Z (e _ _ Z) Z (e _ _ Z) GR al.BY Y q) Z Z (e _ _ Z) (rfl)) Z ?_);refine dR 2 Z (dL (pW c46) Z ?_);refine dR 30 Z (dE Z ?_);exact nx 1 Z (eX _ (oi h2).symm (gE Z Z))
    refine mD [(0,.p (eL am a_0)),(1,.p (eL am EB)),(5,.p (eI i39))] Z ⟨Z,Z,Z,trivial⟩ Z (dR 2 Z ?_);refine dq (.rptr (al.cs (lat a_0 i39))) [18,19] Z (λ _ e _ q=>ab Z (cT (f:=am) (l:=a_0) al.cs Z Z Z Z Z Z (e _ _ Z) Z (e _ _ Z) FO al.BY Y q)) Z (dR 4 Z ?_);refine dq (.rptr (al.cs (lat EB i39))) [23,24] Z (λ _ e _ q=>ab Z (cT (f:=am) (l:=EB) al.cs Z Z Z Z Z Z (e _ _ Z) Z (e _ _ Z) Gm al.BY Y q)) Z (dR 2 Z ?_);refine dq (.p (eB (!decide ((lat a_0 i39).Eg=(lat EB i39).Eg)))) [22,27] Z (λ _ e _ q=>ab Z (jv Z Z Z (e _ _ Z) (e _ _ Z) Z q)) Z (dL (pW HN) Z ?_);refine dR 41 Z (dE Z ?_);exact nx 1 Z (eX _ (oi h2).symm (gE Z Z))
   exact nx 2 Z (eXi _ (oi h1).symm (gE Z Z))
  exact nx 6 Z (mQ (oi h0) Z (sr))
theorem qj (n:Nat):∀ (a_0:av) (EB:av) (r:Bool),fh n a_0 EB=some r->aF Tryz.prog 12 [.agg (av.cs a_0),.agg (av.cs EB)] (·=.p (eB r)):=(pi n).1
theorem gZ (n:Nat):∀ (a_0:List al) (EB:List al) (r:Bool),dr n a_0 EB=some r->aF Tryz.prog 19 [eL am a_0,eL am EB] (·=.p (eB r)):=(pi n).2
def eA (b_0:av)(name_1:Bk):Nat->Int->Option (Unit⊕(ac×Bool))|0,_=>none|m+1,i7=>if i7<(b_0.A'.length:Int) then ck ((0:Int)<=i7/\i7<(b_0.A'.length:Int))<|if (lat b_0.A' i7).By=name_1 then ck ((0:Int)<=i7/\i7<(b_0.A'.length:Int))<|some (.inr ((lat b_0.A' i7),true))else ck (inR (i7+1))<|eA b_0 name_1 m (i7+1)else some (.inl ())
def mU (n:Nat)(b_0:av)(name_1:Bk):Option (ac×Bool) :=jn (eA b_0 name_1 n 0) λ q14=>some ((ac.mk ([]:Bk) (ag.mk 0 0 ([]:Bk) ([]:Bk) (ar.mk 0 0 ([]:Bk) [] []) [] 0) 0),false)
theorem uK (n:Nat)(b_0:av)(name_1:Bk)(r:ac×Bool)(h0:mU n b_0 name_1=some r):aF Tryz.prog 17 [.agg (av.cs b_0),eS name_1] (·=.tuple [.p (.agg (ac.cs r.1)),.p (eB r.2)]):=by
 unfold mU at h0;refine aZ good Tryz.func17 Z Z Z λ w0=>mP (λ v:ac×Bool=>.tuple [.p (.agg (ac.cs v.1)),.p (eB v.2)]) ?_;refine nx 12 rfl ?_;obtain ⟨JN,h1,E3,hR0⟩:=bR h0;refine kEx 0 (λ IJ:Unit=>JN=.inl IJ) (λ IJ=>⟨[(4,.ptr 4 0)],[(4,[.p (eS ([]:Bk)),.p (eI 0),.p (eI 0),.p (eS ([]:Bk)),.p (eS ([]:Bk)),.p (eI 0),.p (eI 0),.p (eS ([]:Bk)),.p (.val (.slice none 0 0)),.p (.val (.slice none 0 0)),.p (.val (.slice none 0 0)),.p (eI 0),.p (eI 0)])]⟩) (λ IJ hv=>?_) ?_
 ·have h0:=E3 _ hv;exact nx 8 Z (mQ (oi h0) Z (aG ⟨cA ⟨.inl Z,.inl Z,.inl Z,.inl Z,.inl Z,.inl Z,.inl Z,.inl Z,.inr ⟨Z,Z⟩,.inr ⟨Z,Z⟩,.inr ⟨Z,Z⟩,.inl Z,.inl Z,trivial⟩,sr,trivial⟩))
 refine lG (λ (Jh:Int)=>⟨[(1,.p (eS name_1)),(2,.ptr 2 0),(4,.ptr 4 0),(6,.p (eI Jh))],[(2,(av.cs b_0).map .p),(4,[.p (eS ([]:Bk)),.p (eI 0),.p (eI 0),.p (eS ([]:Bk)),.p (eS ([]:Bk)),.p (eI 0),.p (eI 0),.p (eS ([]:Bk)),.p (.val (.slice none 0 0)),.p (.val (.slice none 0 0)),.p (.val (.slice none 0 0)),.p (eI 0),.p (eI 0)])]⟩) (λ m (Jh:Int)=>eA b_0 name_1 m Jh) Y 0 h1 (gE rfl rfl) ?_;rintro m i7 h1;replace h1:eA b_0 name_1 (m+1) i7=some JN:=h1;rw [eA] at h1;refine nx 6 rfl (oLl (f:=ae) rfl rfl ?_);refine nx 2 rfl (fD [11] h1 rfl (λ c8 h1=>?_) λ c8 h1=>?_)
 ·refine nx 9 Z (oE h1 ac.BY Z Z Y λ Iv h1=>?_);refine nx 3 Z (oS Z Z ?_);refine nx 1 Z (fD [21] h1 Z (λ FP h1=>?_) λ FP h1=>?_)
  ·refine nx 6 Z (oE h1 ac.BY Z Z Y λ Hh h1=>?_);exact nx 5 Z (mQ (hR0 _ (oi h1).symm) Z (aG ⟨sr,sr,trivial⟩))
  refine nx 4 Z (oA h1 Z Z λ HC h1=>?_);exact nx 2 Z (eX (i7+1) h1 (gE Z Z))
 exact nx 2 Z (eXi _ (oi h1).symm (gE Z Z))
def di (b_0:av)(typ_1:Bk):Nat->(List al)->Int->Option (List al)|0,_,_=>none|m+1,Fu,i11=>if i11<(b_0.Ar.length:Int) then(ck ((0:Int)<=i11/\i11<(b_0.Ar.length:Int))<|if (lat b_0.Ar i11).Eg=typ_1 then ck ((0:Int)<=i11/\i11<(b_0.Ar.length:Int))<|ck ((Fu.length+[(lat b_0.Ar i11)].length)*96<=140737488355328)<|some (Fu++[(lat b_0.Ar i11)])else some Fu : Option (List al)).bind λ IR=>ck (inR (i11+1))<|di b_0 typ_1 m IR (i11+1)else some Fu
def kB (n:Nat)(b_0:av)(typ_1:Bk):Option (List al) :=(di b_0 typ_1 n [] 0).bind λ IQ=>some IQ
theorem oL (n:Nat)(b_0:av)(typ_1:Bk)(r:(List al))(h0:kB n b_0 typ_1=some r):aF Tryz.prog 21 [.agg (av.cs b_0),eS typ_1] (·=.p (eL am r)):=by
 unfold kB at h0;refine aZ good Tryz.func21 Z Z Z λ w0=>mP (λ v:(List al)=>.p (eL am v)) ?_;refine nx 15 Z (bd h0 λ Jl h1 h0=>?_);refine kE 0 Jl (λ Kh=>⟨[(5,.vec 29 5 0 (Kh.map am))],[]⟩) ?_ ?_
 ·exact nx 7 Z (mQ (oi h0) Z (AV.sub_vec _ _ _ _))
 refine lG (λ (GZ:(List al)×Int)=>⟨[(1,.p (eS typ_1)),(2,.ptr 2 0),(5,.vec 29 5 0 (GZ.1.map am)),(6,.p (eI GZ.2))],[(2,(av.cs b_0).map .p)]⟩) (λ m (GZ:(List al)×Int)=>di b_0 typ_1 m GZ.1 GZ.2) Y ([],0) h1 (cb (gU ⟨er rfl,er rfl,⟨_,rfl,AV.sub_nilvec _ _ _⟩,er rfl,trivial⟩ ⟨⟨_,rfl,⟨sr,sr,trivial⟩⟩,trivial⟩)) ?_;rintro m ⟨Fu,i11⟩ h1;replace h1:di b_0 typ_1 (m+1) Fu i11=some Jl:=h1;rw [di] at h1;refine nx 6 rfl (oLl (f:=am) rfl rfl ?_);refine nx 2 rfl (fD [11] h1 rfl (λ HG h1=>?_) λ HG h1=>?_)
 ·refine nx 3 Z (bd h1 λ FR h2 h1=>?_);refine kN FR (λ HZ=>⟨[(1,.p (eS typ_1)),(2,.ptr 2 0),(5,.vec 29 5 0 (HZ.map am)),(6,.p (eI i11))],[(2,(av.cs b_0).map .p)]⟩) ?_ ?_
  ·refine nx 3 Z (oA h1 Z Z λ Hg h1=>?_);exact nx 2 Z (eX (FR,i11+1) h1 (gE Z Z))
  refine nx 6 Z (oE h2 al.BY Z Z Y λ HV h2=>?_);refine nx 3 Z (oS Z Z ?_);refine nx 1 Z (fD [21] h2 Z (λ HF h2=>?_) λ HF h2=>?_)
  ·refine nx 6 Z (oE h2 al.BY Z Z Y λ Gv h2=>?_);refine nx 1 Z (mO Z (bg am [(lat b_0.Ar i11)] Z Z Z Z Z Z Z Z Z Z Z Z Z (by first|rfl|(simp only [aq,bx,al.Ef]; done)|(simp only [aq,bx,al.Ef]; rfl)) ?_));refine cc' h2 λ GT h2=>mO Z (eu am Fu [(lat b_0.Ar i11)] Z Z Z Z Z Z Z Z Z Z Z Z Z (λ x=>congrArg List.length (al.BY x)) Z Z Z Z GT ?_);exact nx 2 Z (eX _ (oi h2).symm (gE Z Z))
  exact nx 2 Z (eX _ (oi h2).symm (gE Z Z))
 exact nx 2 Z (eXi _ (oi h1).symm (gE Z Z))
def j3 (n:Nat)(b_0:av)(name_1:Bk):Option Bool :=(iq n b_0 300).bind λ r1=>if (!r1)=true then(dJ n).bind λ r4=>some r4 else(l8 n b_0 name_1).bind λ r6=>(mU n b_0 name_1).bind λ r8=>(if (r6.2==r8.2)=true then(fK n [r6.1] [r8.1]).bind λ Fq=>if Fq=true then(jl n b_0 name_1).bind λ E6=>(kB n b_0 name_1).bind λ Fs=>(dr n E6 Fs).bind λ FU=>if FU=true then(dJ n).bind λ EY=>some EY else some false else some false else some false : Option Bool).bind λ MY=>some MY
theorem qx (n:Nat)(b_0:av)(name_1:Bk)(r:Bool)(h0:j3 n b_0 name_1=some r):aF Tryz.prog 5 [.agg (av.cs b_0),eS name_1] (·=.p (eB r)):=by
 unfold j3 at h0;refine aZ good Tryz.func5 Z Z Z λ w0=>mP (λ v:Bool=>.p (eB v)) ?_;refine nx 9 Z (bd h0 λ r1 e2 h0=>?_);refine oK (g8 _ b_0 300 _ e2) Z ⟨sr,sr,trivial⟩ Tryz.call13 Z (nx 2 Z ?_);refine fB [11] h0 Z (λ c3 h0=>?_) λ c3 h0=>?_
 ·refine nx 3 Z (bd h0 λ r4 e5 h0=>?_);refine oK (fE _  _ e5) Z trivial Tryz.call9 Z (nx 3 Z ?_);exact mQ (oi h0) Z (sr)
 refine nx 6 Z (bd h0 λ r6 e7 h0=>?_);refine oK (qV _ b_0 name_1 _ e7) Z ⟨sr,sr,trivial⟩ Tryz.call16 Z (nx 11 Z ?_);refine bd h0 λ r8 e9 h0=>oK (uK _ b_0 name_1 _ e9) Z ⟨sr,sr,trivial⟩ Tryz.call17 Z (nx 8 Z ?_);refine bd h0 λ Ip h1 h0=>kN Ip (λ Ig=>⟨[(4,.p (eB Ig))],[]⟩) ?_ ?_
 ·exact nx 2 Z (mQ (oi h0) Z (sr))
 refine fB (p:=r6.2==r8.2) [] h1 Z (λ FP h1=>?_) λ FP h1=>?_
 ·refine bd h1 λ Fq Gg h1=>fB (p:=Fq) [] h1 Z (λ FS h1=>?_) λ FS h1=>?_
  ·refine bd h1 λ E6 H0 h1=>bd h1 λ Fs GV h1=>bd h1 λ FU Iw h1=>fB (p:=FU) [] h1 Z (λ c20 h1=>?_) λ c20 h1=>?_
   ·refine bd h1 λ EY Ir h1=>mD [(1,.p (eS name_1)),(2,.ptr 2 0),(5,.ptr 5 0),(6,.p (eB r6.2)),(7,.ptr 7 0),(8,.p (eB r8.2))] Z ⟨Z,Z,Z,Z,Z,Z,trivial⟩ Z (dR 2 Z ?_);refine dL (FP) Z (dR 2 Z ?_);refine dq (.p (eL ae [r6.1])) [28,29] Z (λ _ e _ q=>bh (bg ae [r6.1] Z Z Z Z Z Z (b7 (e _ _ Z) Z cG) Z Z Z Z Z Z (by first|rfl|(simp only [aq,bx,ac.Ef]; done)|(simp only [aq,bx,ac.Ef]; rfl)) q) Z Z (e _ _ Z) (rfl)) Z (dR 1 Z ?_);refine dq (.p (eL ae [r8.1])) [28,31] Z (λ _ e _ q=>bh (bg ae [r8.1] Z Z Z Z Z Z (b7 (e _ _ Z) Z cG) Z Z Z Z Z Z (by first|rfl|(simp only [aq,bx,ac.Ef]; done)|(simp only [aq,bx,ac.Ef]; rfl)) q) Z Z (e _ _ Z) (rfl)) Z (dq (.p (eB Fq)) [28,30,32] Z (λ _ e _ q=>bh (bc (gq _ [r6.1] [r8.1] _ Gg) Z Z Z (az (e _ _ Z) (az (e _ _ Z) aV)) ⟨sr,sr,trivial⟩ Tryz.call18 Z q) Z Z (e _ _ Z) (rfl)) Z ?_);refine dL (FS) Z (dR 3 Z ?_);refine dq (.p (eL am E6)) [35,36,37] Z (λ _ e _ q=>bh (bc (kO _ b_0 name_1 _ H0) Z Z Z (az (e _ _ Z) (az (e _ _ Z) aV)) ⟨sr,sr,trivial⟩ Tryz.call20 Z q) Z Z (e _ _ Z) (rfl)) Z (dR 2 Z ?_);refine dq (.p (eL am Fs)) [35,39,40] Z (λ _ e _ q=>bh (bc (oL _ b_0 name_1 _ GV) Z Z Z (az (e _ _ Z) (az (e _ _ Z) aV)) ⟨sr,sr,trivial⟩ Tryz.call21 Z q) Z Z (e _ _ Z) (rfl)) Z (dq (.p (eB FU)) [35,38,41] Z (λ _ e _ q=>bh (bc (gZ _ E6 Fs _ Iw) Z Z Z (az (e _ _ Z) (az (e _ _ Z) aV)) ⟨sr,sr,trivial⟩ Tryz.call19 Z q) Z Z (e _ _ Z) (rfl)) Z ?_);refine dL (c20) Z (dR 1 Z ?_);refine dq (.p (eB EY)) [44] Z (λ _ e _ q=>bh (bc (fE _  _ Ir) Z Z Z aV trivial Tryz.call9 Z q) Z Z (e _ _ Z) (rfl)) Z (dR 2 Z ?_);refine dE Z (nx 1 Z ?_);exact eX _ (oi h1).symm (gE Z Z)
   refine mD [(1,.p (eS name_1)),(2,.ptr 2 0),(5,.ptr 5 0),(6,.p (eB r6.2)),(7,.ptr 7 0),(8,.p (eB r8.2))] Z ⟨Z,Z,Z,Z,Z,Z,trivial⟩ Z (dR 2 Z ?_);refine dL (FP) Z (dR 2 Z ?_);refine dq (.p (eL ae [r6.1])) [28,29] Z (λ _ e _ q=>bh (bg ae [r6.1] Z Z Z Z Z Z (b7 (e _ _ Z) Z cG) Z Z Z Z Z Z (by first|rfl|(simp only [aq,bx,ac.Ef]; done)|(simp only [aq,bx,ac.Ef]; rfl)) q) Z Z (e _ _ Z) (rfl)) Z (dR 1 Z ?_);refine dq (.p (eL ae [r8.1])) [28,31] Z (λ _ e _ q=>bh (bg ae [r8.1] Z Z Z Z Z Z (b7 (e _ _ Z) Z cG) Z Z Z Z Z Z (by first|rfl|(simp only [aq,bx,ac.Ef]; done)|(simp only [aq,bx,ac.Ef]; rfl)) q) Z Z (e _ _ Z) (rfl)) Z (dq (.p (eB Fq)) [28,30,32] Z (λ _ e _ q=>bh (bc (gq _ [r6.1] [r8.1] _ Gg) Z Z Z (az (e _ _ Z) (az (e _ _ Z) aV)) ⟨sr,sr,trivial⟩ Tryz.call18 Z q) Z Z (e _ _ Z) (rfl)) Z ?_);refine dL (FS) Z (dR 3 Z ?_);refine dq (.p (eL am E6)) [35,36,37] Z (λ _ e _ q=>bh (bc (kO _ b_0 name_1 _ H0) Z Z Z (az (e _ _ Z) (az (e _ _ Z) aV)) ⟨sr,sr,trivial⟩ Tryz.call20 Z q) Z Z (e _ _ Z) (rfl)) Z (dR 2 Z ?_);refine dq (.p (eL am Fs)) [35,39,40] Z (λ _ e _ q=>bh (bc (oL _ b_0 name_1 _ GV) Z Z Z (az (e _ _ Z) (az (e _ _ Z) aV)) ⟨sr,sr,trivial⟩ Tryz.call21 Z q) Z Z (e _ _ Z) (rfl)) Z (dq (.p (eB FU)) [35,38,41] Z (λ _ e _ q=>bh (bc (gZ _ E6 Fs _ Iw) Z Z Z (az (e _ _ Z) (az (e _ _ Z) aV)) ⟨sr,sr,trivial⟩ Tryz.call19 Z q) Z Z (e _ _ Z) (rfl)) Z ?_);refine dL (c20) Z (dR 4 Z ?_);refine dE Z (nx 1 Z ?_);exact eX _ (oi h1).symm (gE Z Z)
  refine mD [(1,.p (eS name_1)),(2,.ptr 2 0),(5,.ptr 5 0),(6,.p (eB r6.2)),(7,.ptr 7 0),(8,.p (eB r8.2))] Z ⟨Z,Z,Z,Z,Z,Z,trivial⟩ Z (dR 2 Z ?_);refine dL (FP) Z (dR 2 Z ?_);refine dq (.p (eL ae [r6.1])) [28,29] Z (λ _ e _ q=>bh (bg ae [r6.1] Z Z Z Z Z Z (b7 (e _ _ Z) Z cG) Z Z Z Z Z Z (by first|rfl|(simp only [aq,bx,ac.Ef]; done)|(simp only [aq,bx,ac.Ef]; rfl)) q) Z Z (e _ _ Z) (rfl)) Z (dR 1 Z ?_);refine dq (.p (eL ae [r8.1])) [28,31] Z (λ _ e _ q=>bh (bg ae [r8.1] Z Z Z Z Z Z (b7 (e _ _ Z) Z cG) Z Z Z Z Z Z (by first|rfl|(simp only [aq,bx,ac.Ef]; done)|(simp only [aq,bx,ac.Ef]; rfl)) q) Z Z (e _ _ Z) (rfl)) Z (dq (.p (eB Fq)) [28,30,32] Z (λ _ e _ q=>bh (bc (gq _ [r6.1] [r8.1] _ Gg) Z Z Z (az (e _ _ Z) (az (e _ _ Z) aV)) ⟨sr,sr,trivial⟩ Tryz.call18 Z q) Z Z (e _ _ Z) (rfl)) Z ?_);refine dL (FS) Z (dR 13 Z ?_);refine dE Z (nx 1 Z ?_);exact eX _ (oi h1).symm (gE Z Z)
 refine mD [(1,.p (eS name_1)),(2,.ptr 2 0),(5,.ptr 5 0),(6,.p (eB r6.2)),(7,.ptr 7 0),(8,.p (eB r8.2))] Z ⟨Z,Z,Z,Z,Z,Z,trivial⟩ Z (dR 2 Z ?_);refine dL (FP) Z (dR 20 Z ?_);refine dE Z (nx 1 Z ?_);exact eX _ (oi h1).symm (gE Z Z)
end Go.Ab.R06
end
section
namespace Go.Ab.R06
open Go.Ab Go.Ab.RB Go.Lib
theorem zf {α:Type} [Inhabited α] (l:List α){i:Nat}(h:i<l.length):l.set (i:Int).toNat (lat l (i:Int))=l:=by
 rw [lw l i h,Int.toNat_natCast,List.set_getElem_self]
theorem yp {v:ar}(hb:ar.Bd v):Ev2 (λ n _=>dM n v) (·=v):=by
 induction hb with
 | @mk x bKind bNum bStr bItems eItems bKeys eKeys ih=>
  unfold cH at bItems bKeys;refine fJ ?_;simp only [dM];refine aI O (bv (λ h=>?_) (λ h=>aI O ?_))
  ·have h0:x.Ei=[]:=by simpa using h
   refine aN () (bN (f:=λ n m=>g6 (dM n) m) (aJ ?_)) (ak ?_)
   ·simp only [g6];exact aR G (ak trivial)
   ·conv=>rhs; rw [<- ar.eta x]
    rw [h0]
  ·have loop:∀ (k i:Nat),i+k=x.Ei.length->Ev2 (λ n m=>ef (dM n) x m (i:Int) x.Ei) (·=x.Ei):=by
    intro k
    induction k with
    | zero=>intro i hi; refine aJ ?_; simp only [ef]; exact aR O (ak rfl)
    | succ k ihk=>
     intro i hi;refine aJ ?_;simp only [ef];refine aS O (aI O (aN _ (ih _ (dX O)) (aI O (aI (bb O O) ?_))));rw [zf _ O];exact bO (P:=λ j=>Ev2 (λ n m=>ef (dM n) x m j x.Ei) _) (ihk (i+1) O)
   exact aN _ (bN (f:=λ n m=>ef (dM n) x m 0 x.Ei) (loop x.Ei.length 0 O)) (ak (ar.eta x))
theorem sj {e:ag}(hb:ag.Bd e):Ev2 (λ n _=>bZ n e) (·=e):=by
 induction hb with
 | @mk x bKind bOp bName bKey bValue bKids eKids bAt ih=>
  unfold cH at bKids;refine fJ ?_;simp only [bZ];refine aN _ (yp bValue) (bv (λ h=>?_) (λ h=>aI O ?_))
  ·have h0:x.B'=[]:=by simpa using h
   refine aN () (bN (f:=λ n m=>fe (bZ n) m) (aJ ?_)) (ak ?_)
   ·simp only [fe];exact aR G (ak trivial)
   ·conv=>rhs; rw [<- ag.eta x]
    rw [h0]
  ·have loop:∀ (k i:Nat),i+k=x.B'.length->Ev2 (λ n m=>cP (bZ n) x m (i:Int) x.B') (·=x.B'):=by
    intro k
    induction k with
    | zero=>intro i hi; refine aJ ?_; simp only [cP]; exact aR O (ak rfl)
    | succ k ihk=>
     intro i hi;refine aJ ?_;simp only [cP];refine aS O (aI O (aN _ (ih _ (dX O)) (aI O (aI (bb O O) ?_))));rw [zf _ O];exact bO (P:=λ j=>Ev2 (λ n m=>cP (bZ n) x m j x.B') _) (ihk (i+1) O)
   exact aN _ (bN (f:=λ n m=>cP (bZ n) x m 0 x.B') (loop x.B'.length 0 O)) (ak (ag.eta x))
theorem jZ {α:Type} [Inhabited α] (l:List α){i:Nat}(h:i<l.length):l.take i++[lat l (i:Int)]=l.take (i+1):=by
 rw [lw l i h,List.take_succ_eq_append_getElem h]
theorem sa {k:al}(hb:al.Bd k)(h:Ev2 (λ n _=>eP n k.Es) (·=k.Es)):Ev2 (λ n _=>cu n k) (·=k):=by
 have hl:=hb.bLabels;unfold cH at hl;refine fJ ?_;simp only [cu];exact aI O (aN _ h (ak (by cases k; rfl)))
theorem rS:∀ b,av.Bd b->Ev2 (λ n _=>eP n b) (·=b):=by
 refine av.Bd.ind (λ b hb ih=>?_);have la:=hb.bAttrs;have lb:=hb.bBlocks;unfold cH at la lb;refine fJ ?_;simp only [eP]
 have loop1:∀ (k i:Nat),i+k=b.A'.length->Ev2 (λ n m=>cK n b m (i:Int) (b.A'.take i)) (·=b.A'):=by
  intro k
  induction k with
  | zero=>
   intro i hi;refine aJ ?_;simp only [cK];exact aR O (ak (List.take_of_length_le O))
  | succ k ihk=>
   intro i hi;have hm:lat b.A' (i:Int)∈b.A':=dX O;refine aJ ?_;simp only [cK];refine aS O (aI O (aN _ (sj (hb.eAttrs _ hm).bExpr) (aI ?_ (aI (bb O O) ?_))))
   ·rw [sm,wr]; omega
   ·have e:(ac.mk (lat b.A' (i:Int)).By (lat b.A' (i:Int)).Ej (lat b.A' (i:Int)).fAt)=lat b.A' (i:Int):=by cases lat b.A' (i:Int); rfl
    rw [e,jZ _ O];exact bO (P:=λ j=>Ev2 (λ n m=>cK n b m j _) _) (ihk (i+1) O)
 have loop2:∀ (k i:Nat),i+k=b.Ar.length->Ev2 (λ n m=>cO (cu n) b m (i:Int) (b.Ar.take i)) (·=b.Ar):=by
  intro k
  induction k with
  | zero=>
   intro i hi;refine aJ ?_;simp only [cO];exact aR O (ak (List.take_of_length_le O))
  | succ k ihk=>
   intro i hi;have hm:lat b.Ar (i:Int)∈b.Ar:=dX O;refine aJ ?_;simp only [cO];refine aS O (aI O (aN _ (sa (hb.eBlocks _ hm) (ih _ hm)) (aI ?_ (aI (bb O O) ?_))))
   ·rw [sm,wr]; omega
   ·rw [jZ _ O];exact bO (P:=λ j=>Ev2 (λ n m=>cO (cu n) b m j _) _) (ihk (i+1) O)
 refine aN _ (bN (f:=λ n m=>cK n b m 0 []) (loop1 b.A'.length 0 O)) (aN _ (bN (f:=λ n m=>cO (cu n) b m 0 []) (loop2 b.Ar.length 0 O)) (ak ?_))
 cases b; rfl
theorem w3 {k:al}(hb:al.Bd k):Ev2 (λ n _=>cu n k) (·=k):=sa hb (rS _ hb.bBody)
theorem Ai {e:ag}(hb:ag.Bd e):Ev2 (λ n _=>dQ n e e) (·=true):=by
 induction hb with
 | @mk x bKind bOp bName bKey bValue bKids eKids bAt ih=>
  unfold cH at bKids;refine fJ ?_;simp only [dQ];refine aN false (aS trivial (aS trivial (aS trivial (aS trivial (aS trivial (ak G)))))) (aR (by decide) (aN false (aS trivial (aS trivial (ak G))) (aR (by decide) ?_)))
  have loop:∀ (k i:Nat),i+k=x.B'.length->Ev2 (λ n m=>dd (dQ n) x x m (i:Int)) (·=.inl ()):=by
   intro k
   induction k with
   | zero=>intro i hi; refine aJ ?_; simp only [dd]; exact aR O (ak rfl)
   | succ k ihk=>
    intro i hi;refine aJ ?_;simp only [dd];refine aS O (aI O (aI O (aN _ (ih _ (dX O)) (aR (by decide) (aI (bb O O) ?_)))));exact bO (P:=λ j=>Ev2 (λ n m=>dd (dQ n) x x m j) _) (ihk (i+1) O)
  exact ee () (bN (f:=λ n m=>dd (dQ n) x x m 0) (loop x.B'.length 0 O)) (ak Z)
theorem tL (l:List ac)(hb:∀ a∈l,ag.Bd a.Ej)(hl:l.length<=1000000000000000):Ev2 (λ n _=>fK n l l) (·=true):=by
 simp only [fK];refine aS trivial ?_
 have loop:∀ (k i:Nat),i+k=l.length->Ev2 (λ n m=>cN n l l m (i:Int)) (·=.inl ()):=by
  intro k
  induction k with
  | zero=>intro i hi; refine aJ ?_; simp only [cN]; exact aR O (ak rfl)
  | succ k ihk=>
   intro i hi;refine aJ ?_;simp only [cN];refine aS O (aN false (aI O (aI O (aS trivial (aI O (aI O (aS trivial (aI O (aI O (aN true (Ai (hb _ (dX O))) (ak rfl)))))))))) (aR (by decide) (aI (bb O O) ?_)));exact bO (P:=λ j=>Ev2 (λ n m=>cN n l l m j) _) (ihk (i+1) O)
 exact ee () (bN (f:=λ n m=>cN n l l m 0) (loop l.length 0 O)) (ak Z)
theorem xk (l:List al)(hb:∀ k∈l,Ev2 (λ n _=>fh n k.Es k.Es) (·=true))(hk:∀ k∈l,k.Df.length<=1000000000000000)(hl:l.length<=1000000000000000):Ev2 (λ n _=>dr n l l) (·=true):=by
 refine fJ ?_;simp only [dr];refine aS trivial ?_
 have labels:∀ (i:Nat),i<l.length->∀ (k j:Nat),j+k=(lat l (i:Int)).Df.length->Ev2 (λ _ m=>cE l l (i:Int) m (j:Int)) (·=.inl ()):=by
  intro i hi k;have h9:=hk _ (dX (l:=l) (i:=(i:Int)) O)
  induction k with
  | zero=>intro j hj; refine aJ ?_; simp only [cE]; exact aI O (aR O (ak rfl))
  | succ k ihk=>
   intro j hj;refine aJ ?_;simp only [cE];refine aI O (aS O (aI O (aI O (aI O (aI O (aS trivial (aI (bb O O) ?_)))))));exact bO (P:=λ j=>Ev2 (λ _ m=>cE l l (i:Int) m j) _) (ihk (j+1) O)
 have loop:∀ (k i:Nat),i+k=l.length->Ev2 (λ n m=>cD n (fh n) l l m (i:Int)) (·=.inl ()):=by
  intro k
  induction k with
  | zero=>intro i hi; refine aJ ?_; simp only [cD]; exact aR O (ak rfl)
  | succ k ihk=>
   intro i hi;refine aJ ?_;simp only [cD];refine aS O (aN false (aI O (aI O (aS trivial (aI O (aI O (aS trivial (aI O (aI O (aS trivial (aI O (aI O (aN true (hb _ (dX O)) (ak rfl))))))))))))) (aR (by decide) ?_));refine ee () (bN (f:=λ _ m=>cE l l (i:Int) m 0) (labels i O (lat l (i:Int)).Df.length 0 O)) (aI (bb O O) ?_);exact bO (P:=λ j=>Ev2 (λ n m=>cD n (fh n) l l m j) _) (ihk (i+1) O)
 exact ee () (bN (f:=λ n m=>cD n (fh n) l l m 0) (loop l.length 0 O)) (ak Z)
theorem y6 {k:al}(hb:al.Bd k):k.Df.length<=1000000000000000:=by have:=hb.bLabels; unfold cH at this; omega
theorem y9:∀ b,av.Bd b->Ev2 (λ n _=>fh n b b) (·=true):=by
 refine av.Bd.ind (λ b hb ih=>?_);have la:=hb.bAttrs;have lb:=hb.bBlocks;unfold cH at la lb;refine fJ ?_;simp only [fh];exact aN true (aN true (tL _ (λ a ha=>(hb.eAttrs a ha).bExpr) O) (aS Z (aN true (xk _ ih (λ k hk=>y6 (hb.eBlocks k hk)) O) (ak Z)))) (ak Z)
theorem xh (l:List al)(hb:∀ k∈l,al.Bd k)(hl:l.length<=1000000000000000):Ev2 (λ n _=>dr n l l) (·=true) :=
 xk l (λ k hk=>y9 _ (hb k hk).bBody) (λ k hk=>y6 (hb k hk)) hl
def noA:ac:=ac.mk ([]:Bk) (ag.mk 0 0 ([]:Bk) ([]:Bk) (ar.mk 0 0 ([]:Bk) [] []) [] 0) 0
def xH (l:List ac)(name:Bk):ac×Bool:=match l.find? (λ a=>decide (a.By=name)) with
 | some a=>(a,true)
 | none=>(noA,false)
theorem Bv {b:av}(hb:av.Bd b)(name:Bk):Ev2 (λ n _=>l8 n b name) (·=xH b.A' name):=by
 have la:=hb.bAttrs;unfold cH at la;simp only [l8]
 have loop:∀ (k i:Nat),i+k=b.A'.length->Ev2 (λ n m=>fu n b name m (i:Int)) (·=match (b.A'.drop i).find? (λ a=>decide (a.By=name)) with|some a=>.inr (a,true)|none=>.inl ()):=by
  intro k
  induction k with
  | zero=>
   intro i hi;refine aJ ?_;simp only [fu];refine aR O (ak ?_);rw [rg O]; rfl
  | succ k ihk=>
   intro i hi;have hm:lat b.A' (i:Int)∈b.A':=dX O;refine aJ ?_;simp only [fu];rw [cX _ O,List.find?_cons];refine aS O (aI O (bv (λ h=>?_) (λ h=>aI (bb O O) ?_)))
   ·refine aN _ (sj (hb.eAttrs _ hm).bExpr) (ak ?_);rw [decide_eq_true h]
   ·rw [decide_eq_false h];exact bO (P:=λ j=>Ev2 (λ n m=>fu n b name m j) _) (ihk (i+1) O)
 have h:=bN (f:=λ n m=>fu n b name m 0) (loop b.A'.length 0 O);rw [List.drop_zero] at h;unfold xH
 cases hf:b.A'.find? (λ a=>decide (a.By=name)) with
 | none=>rw [hf] at h; exact ee () h (ak rfl)
 | some a=>rw [hf] at h; exact jh _ h rfl
theorem AX {b:av}(hb:av.Bd b)(name:Bk):Ev2 (λ n _=>mU n b name) (·=xH b.A' name):=by
 have la:=hb.bAttrs;unfold cH at la;simp only [mU]
 have loop:∀ (k i:Nat),i+k=b.A'.length->Ev2 (λ _ m=>eA b name m (i:Int)) (·=match (b.A'.drop i).find? (λ a=>decide (a.By=name)) with|some a=>.inr (a,true)|none=>.inl ()):=by
  intro k
  induction k with
  | zero=>
   intro i hi;refine aJ ?_;simp only [eA];refine aR O (ak ?_);rw [rg O]; rfl
  | succ k ihk=>
   intro i hi;refine aJ ?_;simp only [eA];rw [cX _ O,List.find?_cons];refine aS O (aI O (bv (λ h=>aI O (ak ?_)) (λ h=>aI (bb O O) ?_)))
   ·rw [decide_eq_true h]
   ·rw [decide_eq_false h];exact bO (P:=λ j=>Ev2 (λ _ m=>eA b name m j) _) (ihk (i+1) O)
 have h:=bN (f:=λ _ m=>eA b name m 0) (loop b.A'.length 0 O);rw [List.drop_zero] at h;unfold xH
 cases hf:b.A'.find? (λ a=>decide (a.By=name)) with
 | none=>rw [hf] at h; exact ee () h (ak rfl)
 | some a=>rw [hf] at h; exact jh _ h rfl
theorem Cg {b:av}(hb:av.Bd b)(name:Bk):ag.Bd (xH b.A' name).1.Ej:=by
 unfold xH;split
 ·rename_i a h; exact (hb.eAttrs a (List.mem_of_find?_eq_some h)).bExpr
 ·have hv:ar.Bd (ar.mk 0 0 ([]:Bk) [] []):=.mk (bb (by decide) (by decide)) (bb (by decide) (by decide)) (by decide) (by decide) (λ y hy=>by cases hy) (by decide) (λ y hy=>by cases hy);exact .mk (bb (by decide) (by decide)) (bb (by decide) (by decide)) (by decide) (by decide) hv (by decide) (λ y hy=>by cases hy) (bb (by decide) (by decide))
def uG (l:List al)(typ:Bk):List al:=l.filter λ k=>decide (k.Eg=typ)
theorem tu {b:av}(hb:av.Bd b)(typ:Bk):Ev2 (λ n _=>jl n b typ) (·=uG b.Ar typ):=by
 have lb:=hb.bBlocks;unfold cH at lb;simp only [jl]
 have loop:∀ (k i:Nat) (out:List al),i+k=b.Ar.length->out.length<=i->Ev2 (λ n m=>dI n b typ m out (i:Int)) (·=out++uG (b.Ar.drop i) typ):=by
  intro k
  induction k with
  | zero=>
   intro i out hi ho;refine aJ ?_;simp only [dI];refine aR O (ak ?_);rw [rg O]; simp [uG]
  | succ k ihk=>
   intro i out hi ho;have hm:lat b.Ar (i:Int)∈b.Ar:=dX O;refine aJ ?_;simp only [dI];rw [cX _ O];unfold uG;rw [List.filter_cons];by_cases h:(lat b.Ar (i:Int)).Eg=typ
   ·rw [if_pos (show decide ((lat b.Ar (i:Int)).Eg=typ)=true by simpa using h)];refine aS O (aN _ (aI O (aS h (aN _ (w3 (hb.eBlocks _ hm)) (aI (by rw [wr]; omega) (ak rfl))))) (aI (bb O O) ?_));have:=bO (P:=λ j=>Ev2 (λ n m=>dI n b typ m (out++[lat b.Ar (i:Int)]) j) _) (ihk (i+1) (out++[lat b.Ar (i:Int)]) O (by rw [qr,wr]; omega))
    rwa [List.append_assoc] at this
   ·rw [if_neg (show ¬ decide ((lat b.Ar (i:Int)).Eg=typ)=true by simpa using h)];refine aS O (aN _ (aI O (aR h (ak rfl))) (aI (bb O O) ?_));exact bO (P:=λ j=>Ev2 (λ n m=>dI n b typ m out j) _) (ihk (i+1) out O O)
 exact aN _ (bN (f:=λ n m=>dI n b typ m [] 0) (loop b.Ar.length 0 [] O (by decide))) (ak G)
theorem x4 {b:av}(hb:av.Bd b)(typ:Bk):Ev2 (λ n _=>kB n b typ) (·=uG b.Ar typ):=by
 have lb:=hb.bBlocks;unfold cH at lb;simp only [kB]
 have loop:∀ (k i:Nat) (out:List al),i+k=b.Ar.length->out.length<=i->Ev2 (λ _ m=>di b typ m out (i:Int)) (·=out++uG (b.Ar.drop i) typ):=by
  intro k
  induction k with
  | zero=>
   intro i out hi ho;refine aJ ?_;simp only [di];refine aR O (ak ?_);rw [rg O]; simp [uG]
  | succ k ihk=>
   intro i out hi ho;refine aJ ?_;simp only [di];rw [cX _ O];unfold uG;rw [List.filter_cons];by_cases h:(lat b.Ar (i:Int)).Eg=typ
   ·rw [if_pos (show decide ((lat b.Ar (i:Int)).Eg=typ)=true by simpa using h)];refine aS O ?_;refine aN (out++[lat b.Ar (i:Int)]) ?_ (aI (bb O O) ?_)
    ·refine aI O ?_;refine aS h ?_;refine aI O ?_;refine aI (by rw [wr]; omega) ?_;exact ak Z
    have:=bO (P:=λ j=>Ev2 (λ _ m=>di b typ m (out++[lat b.Ar (i:Int)]) j) _) (ihk (i+1) (out++[lat b.Ar (i:Int)]) O (by rw [qr,wr]; omega))
    rwa [List.append_assoc] at this
   ·rw [if_neg (show ¬ decide ((lat b.Ar (i:Int)).Eg=typ)=true by simpa using h)];refine aS O ?_;refine aN out ?_ (aI (bb O O) ?_)
    ·refine aI O ?_;exact aR h (ak Z)
    exact bO (P:=λ j=>Ev2 (λ _ m=>di b typ m out j) _) (ihk (i+1) out O O)
 exact aN _ (bN (f:=λ _ m=>di b typ m [] 0) (loop b.Ar.length 0 [] O (by decide))) (ak G)
theorem zX {b:av}(hb:av.Bd b)(name:Bk)(haw:Ev2 (λ n _=>dJ n) (·=true)):Ev2 (λ n _=>j3 n b name) (·=true):=by
 have lb:=hb.bBlocks;unfold cH at lb;simp only [j3];refine d6 _ (pR hb) (λ r _=>?_);refine bv (λ _=>d6 _ haw (λ t ht=>ak ht)) (λ _=>?_);refine aN _ (Bv hb name) (aN _ (AX hb name) ?_);refine aN true ?_ (ak Z);refine aS G ?_;refine aN true (tL [(xH b.A' name).1] (λ a ha=>?_) G) ?_
 ·rw [List.mem_singleton.1 ha]; exact Cg hb name
 refine aS Z ?_;refine aN _ (tu hb name) (aN _ (x4 hb name) ?_);refine aN true (xh _ (λ k hk=>hb.eBlocks k (List.mem_filter.1 hk).1) ?_) (aS Z (aN true haw (ak Z)));have:=List.length_filter_le (λ k=>decide (k.Eg=name)) b.Ar;unfold uG; omega
end Go.Ab.R06
end
