/- Texts of the proof, one behind the other. No statement is proved here. -/
import Derived.Test.YthnafgjbhlpfgaaGreatDoorCards
import Derived.Test.YthnafgjbhlpfgaaGreatDoorTie
import Derived.WalkKit
import Derived.SizedLaws
import Derived.ProofKit
import Derived.OpenShut
import Derived.ShutString
import Derived.LaidMore
import Derived.Stop.Joined
import Derived.Deep.DeepHandedRow
import Derived.Deep.DeepWitnessRowRef
import Derived.Test.YthnafgjbhlpfgaaGreatDoorZ08Sa
import Derived.Test.YthnafgjbhlpfgaaGreatDoorZ08Sb
import Derived.Test.YthnafgjbhlpfgaaGreatDoorZ08Sc
import Derived.Test.YthnafgjbhlpfgaaGreatDoorZ08Sd
import Derived.Test.YthnafgjbhlpfgaaGreatDoorZ08Se
import Derived.Test.YthnafgjbhlpfgaaGreatDoorZ08Sf
section
namespace Go.Ab.R06
open Go.Proofs Go.Ab Go.Ab.RB
attribute [local irreducible] awp ea aO au bs AV.sub M bY
def bE (n:Nat)(CG:(List (List ac)))(i58:Int):Nat->Int->Option (Unit⊕((Int×Int×Bk×(List aa)×(List Bk))⊕Bool))|0,_=>none|m+1,k79=>if k79<i58 then(ck ((0:Int)<=i58/\i58<(CG.length:Int))<|ck ((0:Int)<=k79/\k79<(CG.length:Int))<|(d6 n (lat CG i58) (lat CG k79)).bind λ E3=>if E3=true then some true else ck ((0:Int)<=k79/\k79<(CG.length:Int))<|ck ((0:Int)<=i58/\i58<(CG.length:Int))<|(d6 n (lat CG k79) (lat CG i58)).bind λ F'=>some F' : Option Bool).bind λ t90=>if t90=true then some (.inr (.inr false))else ck (inR (k79+1))<|bE n CG i58 m (k79+1)else some (.inl ())
def bF (n:Nat)(CF:aa)(CG:(List (List ac))):Nat->Int->Int->Int->Bk->(List aa)->(List Bk)->Option ((Int×Int×Bk×(List aa)×(List Bk))⊕Bool)|0,_,_,_,_,_,_=>none|m+1,i58,Dc,Dh,Dg,Df,De=>if i58<(CG.length:Int) then jn (bE n CG i58 n 0) λ q123=>ck ((0:Int)<=i58/\i58<(CG.length:Int))<|(fp n CF (lat CG i58)).bind λ CW=>ck ((0:Int)<=i58/\i58<(CG.length:Int))<|(ii n (aa.mk Dc Dh Dg Df De) (lat CG i58) CW.1).bind λ C3=>(if CW.2=0 then some (!decide (C3.2=0))else some true : Option Bool).bind λ F9=>if F9=true then some (.inr false)else ck (inR (i58+1))<|bF n CF CG m (i58+1) C3.1.AT C3.1.A' C3.1.By C3.1.Ar C3.1.AI else some (.inl (Dc,Dh,Dg,Df,De))
def fc (n:Nat)(a_0:aa)(CF:aa):Option Bool :=((cL n a_0).bind λ r1=>if (!r1)=true then some true else(cL n CF).bind λ r4=>some (!r4) : Option Bool).bind λ t6=>if t6=true then(cN n).bind λ r8=>some r8 else(jL n a_0 CF).bind λ CG=>jn (bF n CF CG n 0 a_0.AT a_0.A' a_0.By a_0.Ar a_0.AI) λ DY=>((dh n (aa.mk DY.1 DY.2.1 DY.2.2.1 DY.2.2.2.1 DY.2.2.2.2) CF).bind λ E6=>if E6=true then(cN n).bind λ E5=>some E5 else some false : Option Bool).bind λ F8=>some F8
set_option maxHeartbeats 4000000 in
theorem kW (n:Nat)(a_0:aa)(CF:aa)(r:Bool)(h0:fc n a_0 CF=some r):au Tryz.prog 9 [.agg (aa.cs a_0),.agg (aa.cs CF)] (·=.p (eB r)):=by
 unfold fc at h0;refine aZ good Tryz.func9 Z Z Z λ w0=>mP (λ v:Bool=>.p (eB v)) ?_;refine nx 8 Z (bd h0 λ Gl h1 h0=>?_);refine kN Gl (λ F5=>⟨[(2,.ptr 2 0),(3,.ptr 3 0),(20,.p (eB F5))],[(2,(aa.cs a_0).map .p),(3,(aa.cs CF).map .p)]⟩) ?_ ?_
 ·refine nx 1 Z (fB [20] h0 Z (λ c7 h0=>?_) λ c7 h0=>?_)
  ·refine nx 3 Z (bd h0 λ r8 e9 h0=>?_);refine oK (dk _  _ e9) Z trivial Tryz.call11 Z (nx 3 Z ?_);exact mQ (oi h0) Z (sr)
  refine nx 6 rfl (bd h0 λ CG D7 h0=>?_);refine oK (sb _ a_0 CF _ D7) rfl ⟨sr,sr,trivial⟩ Tryz.call31 rfl (nx 14 rfl ?_);obtain ⟨Fa,h1,C9,hR0⟩:=dl h0;refine kEx 0 (λ CY:Int×Int×Bk×(List aa)×(List Bk)=>Fa=.inl CY) (λ CY=>⟨[(3,.ptr 3 0),(6,.ptr 6 0)],[(3,(aa.cs CF).map .p),(6,[.p (eI CY.1),.p (eI CY.2.1),.p (eS CY.2.2.1),.p (eL ah CY.2.2.2.1),.p (eL eS CY.2.2.2.2)])]⟩) (λ CY hv=>?_) ?_
  ·have h0:=C9 _ hv;refine nx 2 Z (bd h0 λ Gk h1 h0=>?_);refine kN Gk (λ F4=>⟨[(4,.p (eB F4))],[]⟩) ?_ ?_
   ·exact nx 2 Z (mQ (oi h0) Z (sr))
   refine nx 3 Z (bd h1 λ E6 GA h1=>?_);refine oK (gH _ (aa.mk CY.1 CY.2.1 CY.2.2.1 CY.2.2.2.1 CY.2.2.2.2) CF _ GA) Z ⟨sr,sr,trivial⟩ Tryz.call29 Z (nx 1 Z ?_);refine fB [85,86] h1 Z (λ GE h1=>?_) λ GE h1=>?_
   ·refine bd h1 λ E5 Gz h1=>oK (dk _  _ Gz) Z trivial Tryz.call11 Z (nx 3 Z ?_);exact eX _ (oi h1).symm (gE Z Z)
   exact nx 4 Z (eX _ (oi h1).symm (gE Z Z))
  refine lG (λ (C0:Int×Int×Int×Bk×(List aa)×(List Bk))=>⟨[(3,.ptr 3 0),(5,.p (eL (eL ag) CG)),(6,.ptr 6 0),(7,.p (eI C0.1))],[(3,(aa.cs CF).map .p),(6,[.p (eI C0.2.1),.p (eI C0.2.2.1),.p (eS C0.2.2.2.1),.p (eL ah C0.2.2.2.2.1),.p (eL eS C0.2.2.2.2.2)])]⟩) (λ m (C0:Int×Int×Int×Bk×(List aa)×(List Bk))=>bF n CF CG m C0.1 C0.2.1 C0.2.2.1 C0.2.2.2.1 C0.2.2.2.2.1 C0.2.2.2.2.2) Y (0,a_0.AT,a_0.A',a_0.By,a_0.Ar,a_0.AI) h1 (gE rfl rfl) ?_;rintro m ⟨i58,Dc,Dh,Dg,Df,De⟩ h1;replace h1:bF n CF CG (m+1) i58 Dc Dh Dg Df De=some Fa:=h1;rw [bF] at h1;refine nx 5 rfl (oLl (f:=(eL ag)) rfl rfl ?_);refine nx 2 rfl (fD [29] h1 rfl (λ c64 h1=>?_) λ c64 h1=>?_)
  ·refine nx 10 rfl ?_;obtain ⟨E',h2,hL1,hR1⟩:=dl h1;refine kEx 2 (λ Ek:Unit=>E'=.inl Ek) (λ Ek=>⟨[(3,.ptr 3 0),(5,.p (eL (eL ag) CG)),(6,.ptr 6 0),(7,.p (eI i58))],[(3,(aa.cs CF).map .p),(6,[.p (eI Dc),.p (eI Dh),.p (eS Dg),.p (eL ah Df),.p (eL eS De)])]⟩) (λ Ek hv=>?_) ?_
   ·have h1:=hL1 _ hv;refine nx 2 Z (cc' h1 λ Fe h1=>?_);refine bd h1 λ CW Ht h1=>mG (gE (t:=⟨[(3,.ptr 3 0),(5,.p (eL (eL ag) CG)),(6,.ptr 6 0),(7,.p (eI i58))],[(3,(aa.cs CF).map .p),(6,[.p (eI Dc),.p (eI Dh),.p (eS Dg),.p (eL ah Df),.p (eL eS De)])]⟩) Z Z) (mS ⟨2,[9,10],(by3 (.some λ i=>Nat.beq i 9) .none .none),(λ _=>[(3,.ptr 3 0),(5,.p (eL (eL ag) CG)),(6,.ptr 6 0),(7,.p (eI i58))]),(by3 ([(3,[.p (eI CF.AT),.p (eI CF.A'),.p (eS CF.By),.p (eL ah CF.Ar),.p (eL eS CF.AI)]),(6,[.p (eI Dc),.p (eI Dh),.p (eS Dg),.p (eL ah Df),.p (eL eS De)])]) ([(9,[.p (eI 0),.p (eI 0),.p (eS ([]:Bk)),.p (.val (.slice none 0 0)),.p (.val (.slice none 0 0))]),(3,[.p (eI CF.AT),.p (eI CF.A'),.p (eS CF.By),.p (eL ah CF.Ar),.p (eL eS CF.AI)]),(6,[.p (eI Dc),.p (eI Dh),.p (eS Dg),.p (eL ah Df),.p (eL eS De)])]) ([(9,[.p (eI CW.1.AT),.p (eI CW.1.A'),.p (eS CW.1.By),.p (eL ah CW.1.Ar),.p (eL eS CW.1.AI)]),(9,[.p (eI 0),.p (eI 0),.p (eS ([]:Bk)),.p (.val (.slice none 0 0)),.p (.val (.slice none 0 0))]),(3,[.p (eI CF.AT),.p (eI CF.A'),.p (eS CF.By),.p (eL ah CF.Ar),.p (eL eS CF.AI)]),(6,[.p (eI Dc),.p (eI Dh),.p (eS Dg),.p (eL ah Df),.p (eL eS De)])]))⟩ Z Z Z ⟨Z,Z,Z,Z,trivial⟩ (lt2 ⟨Z,Z,Z,Z,trivial⟩ ⟨Z,Z,Z,Z,trivial⟩) Z Z Z Z ?_);refine al (λ _=>.p (.agg (aa.cs CF))) Z Z Z (bj Z Z Y) (lt2 Z Z) (aj Z (af [(3,_)] ⟨.inl Z,trivial⟩ (λ sl Cy K hK=>ae Z (aN Z Z Z Z Z (Cy _ _ Z) Z Z Z hK)) (af [(3,_)] ⟨.inl Z,trivial⟩ (λ sl Cy K hK=>ae Z (aN Z Z Z Z Z (Cy _ _ Z) Z Z Z hK)) ak))) (al (λ _=>.p (eL (eL ag) CG)) Z Z Z (bj Z Z Y) (lt2 Z Z) (aj Z (af [(5,_)] ⟨.inl Z,trivial⟩ (λ sl Cy K hK=>ae Z (aA Z Z Z (Cy _ _ Z) hK)) (af [(5,_)] ⟨.inl Z,trivial⟩ (λ sl Cy K hK=>ae Z (aA Z Z Z (Cy _ _ Z) hK)) ak))) ?_);refine al (λ _=>.p (eI i58)) Z Z Z (bj Z Z Y) (lt2 Z Z) (aj Z (af [(7,_)] ⟨.inl Z,trivial⟩ (λ sl Cy K hK=>ae Z (aA Z Z Z (Cy _ _ Z) hK)) (af [(7,_)] ⟨.inl Z,trivial⟩ (λ sl Cy K hK=>ae Z (aA Z Z Z (Cy _ _ Z) hK)) ak))) (al (λ _=>.rptr [(eL ag) (lat CG i58)]) Z Z Z (bj Z Z Y) (lt2 Z Z) (aj Z (af [(59,_),(60,_)] ⟨.inr ⟨1,_,Z,Z,Z⟩,.inr ⟨2,_,Z,Z,Z⟩,trivial⟩ (λ sl Cy K hK=>ae Z (cO (f:=(eL ag)) (l:=CG) (λ x=>[(eL ag) x]) Z Z Z Z Z Z (Cy _ _ Z) Z (Cy _ _ Z) Fe Y Y hK)) (af [(59,_),(60,_)] ⟨.inr ⟨1,_,Z,Z,Z⟩,.inr ⟨2,_,Z,Z,Z⟩,trivial⟩ (λ sl Cy K hK=>ae Z (cO (f:=(eL ag)) (l:=CG) (λ x=>[(eL ag) x]) Z Z Z Z Z Z (Cy _ _ Z) Z (Cy _ _ Z) Fe Y Y hK)) ak))) ?_);refine al (λ _=>.p (eL ag (lat CG i58))) Z Z Z (bj Z Z Y) (lt2 Z Z) (aj Z (af [(61,_)] ⟨.inr ⟨3,_,Z,Z,Z⟩,trivial⟩ (λ sl Cy K hK=>ae Z (fF Z Z Z Z Z (Cy _ _ Z) Z hK)) (af [(61,_)] ⟨.inr ⟨3,_,Z,Z,Z⟩,trivial⟩ (λ sl Cy K hK=>ae Z (fF Z Z Z Z Z (Cy _ _ Z) Z hK)) ak))) (al (λ _=>.tuple [.p (.agg (aa.cs CW.1)),.p (eI CW.2)]) Z Z Z (bj Z Z Y) (lt2 Z Z) (aj Z (af [(58,_),(62,_)] ⟨.inr ⟨0,_,Z,Z,Z⟩,.inr ⟨4,_,Z,Z,Z⟩,trivial⟩ (λ sl Cy K hK=>ae Z (aY (dD _ CF (lat CG i58) _ Ht) Z Z Z (am (Cy _ _ Z) (am (Cy _ _ Z) aM)) ⟨sr,sr,trivial⟩ Tryz.call18 Z hK)) (af [(58,_),(62,_)] ⟨.inr ⟨0,_,Z,Z,Z⟩,.inr ⟨4,_,Z,Z,Z⟩,trivial⟩ (λ sl Cy K hK=>ae Z (aY (dD _ CF (lat CG i58) _ Ht) Z Z Z (am (Cy _ _ Z) (am (Cy _ _ Z) aM)) ⟨sr,sr,trivial⟩ Tryz.call18 Z hK)) ak))) ?_);refine al (λ _=>.tuple [.p (.agg (aa.cs CW.1)),.p (eI CW.2)]) Z Z Z (bj Z Z Y) (lt2 Z Z) (aj Z (af [(63,_)] ⟨.inr ⟨5,_,Z,Z,Z⟩,trivial⟩ (λ sl Cy K hK=>ae Z (aA Z Z Z (Cy _ _ Z) hK)) (af [(63,_)] ⟨.inr ⟨5,_,Z,Z,Z⟩,trivial⟩ (λ sl Cy K hK=>ae Z (aA Z Z Z (Cy _ _ Z) hK)) ak))) (al (λ _=>.p (.agg (aa.cs CW.1))) Z Z Z (bj Z Z Y) (lt2 Z Z) (aj Z (af [(57,_)] ⟨.inr ⟨6,_,Z,Z,Z⟩,trivial⟩ (λ sl Cy K hK=>ae Z (aF Z Z Z (Cy _ _ Z) Z hK)) (af [(57,_)] ⟨.inr ⟨6,_,Z,Z,Z⟩,trivial⟩ (λ sl Cy K hK=>ae Z (aF Z Z Z (Cy _ _ Z) Z hK)) ak))) ?_);refine al (λ _=>.p (eI CW.2)) Z Z Z (bj Z Z Y) (lt2 Z Z) (af [(57,_)] ⟨.inr ⟨6,_,Z,Z,Z⟩,trivial⟩ (λ sl Cy K hK=>ae Z (aF Z Z Z (Cy _ _ Z) Z hK)) (af [(57,_)] ⟨.inr ⟨6,_,Z,Z,Z⟩,trivial⟩ (λ sl Cy K hK=>ae Z (aF Z Z Z (Cy _ _ Z) Z hK)) (af [(57,_)] ⟨.inr ⟨6,_,Z,Z,Z⟩,trivial⟩ (λ sl Cy K hK=>ae Z (aF Z Z Z (Cy _ _ Z) Z hK)) ak))) (cQ (λ _=>.ptr 9 0) [] Z trivial Z Z (Go.Ab.bK Z Y) (lt2 (λ h=>absurd h (by decide)) Y) (λ sl Cy K hK=>ae Z (eG Z Z Z Z Z hK)) ?_);refine ct [(9,_),(64,_)] Z ⟨.inr ⟨9,_,Z,Z,Z⟩,.inr ⟨7,_,Z,Z,Z⟩,trivial⟩ Z (λ sl Cy K hK=>ae Z (cv Z Z Z (Cy _ _ Z) (Cy _ _ Z) Z Z Z (ph Z) hK)) (al (λ _=>.p (eI CW.2)) Z Z Z (bj Z Z Y) (lt2 Z Z) (af [(65,_)] ⟨.inr ⟨8,_,Z,Z,Z⟩,trivial⟩ (λ sl Cy K hK=>ae Z (bq Z Z Z (Cy _ _ Z) hK)) (aj Z (aj Z ak))) ?_);refine eY (nx 2 Z ?_);refine cc' h1 λ Fc h1=>bd h1 λ C3 Hs h1=>mG (gE (t:=⟨[(3,.ptr 3 0),(5,.p (eL (eL ag) CG)),(6,.ptr 6 0),(7,.p (eI i58)),(9,.ptr 9 0),(10,.p (eI CW.2))],[(3,(aa.cs CF).map .p),(6,[.p (eI Dc),.p (eI Dh),.p (eS Dg),.p (eL ah Df),.p (eL eS De)]),(9,(aa.cs CW.1).map .p)]⟩) Z Z) (mS ⟨2,[10,11],(by3 (.some λ i=>Nat.beq i 11) .none .none),(λ _=>[(3,.ptr 3 0),(5,.p (eL (eL ag) CG)),(6,.ptr 6 0),(7,.p (eI i58)),(9,.ptr 9 0),(10,.p (eI CW.2))]),(by3 ([(3,[.p (eI CF.AT),.p (eI CF.A'),.p (eS CF.By),.p (eL ah CF.Ar),.p (eL eS CF.AI)]),(6,[.p (eI Dc),.p (eI Dh),.p (eS Dg),.p (eL ah Df),.p (eL eS De)]),(9,[.p (eI CW.1.AT),.p (eI CW.1.A'),.p (eS CW.1.By),.p (eL ah CW.1.Ar),.p (eL eS CW.1.AI)])]) ([(11,[.p (eI 0),.p (eI 0),.p (eS ([]:Bk)),.p (.val (.slice none 0 0)),.p (.val (.slice none 0 0))]),(3,[.p (eI CF.AT),.p (eI CF.A'),.p (eS CF.By),.p (eL ah CF.Ar),.p (eL eS CF.AI)]),(6,[.p (eI Dc),.p (eI Dh),.p (eS Dg),.p (eL ah Df),.p (eL eS De)]),(9,[.p (eI CW.1.AT),.p (eI CW.1.A'),.p (eS CW.1.By),.p (eL ah CW.1.Ar),.p (eL eS CW.1.AI)])]) ([(11,[.p (eI C3.1.AT),.p (eI C3.1.A'),.p (eS C3.1.By),.p (eL ah C3.1.Ar),.p (eL eS C3.1.AI)]),(11,[.p (eI 0),.p (eI 0),.p (eS ([]:Bk)),.p (.val (.slice none 0 0)),.p (.val (.slice none 0 0))]),(3,[.p (eI CF.AT),.p (eI CF.A'),.p (eS CF.By),.p (eL ah CF.Ar),.p (eL eS CF.AI)]),(6,[.p (eI Dc),.p (eI Dh),.p (eS Dg),.p (eL ah Df),.p (eL eS De)]),(9,[.p (eI CW.1.AT),.p (eI CW.1.A'),.p (eS CW.1.By),.p (eL ah CW.1.Ar),.p (eL eS CW.1.AI)])]))⟩ Z Z Z ⟨Z,Z,Z,Z,Z,Z,trivial⟩ (lt2 ⟨Z,Z,Z,Z,Z,Z,trivial⟩ ⟨Z,Z,Z,Z,Z,Z,trivial⟩) Z Z Z Z ?_);refine al (λ _=>.p (.agg [eI Dc,eI Dh,eS Dg,eL ah Df,eL eS De])) Z Z Z (bj Z Z Y) (lt2 Z Z) (aj Z (af [(6,_)] ⟨.inl Z,trivial⟩ (λ sl Cy K hK=>ae Z (aN Z Z Z Z Z (Cy _ _ Z) Z Z Z hK)) (af [(6,_)] ⟨.inl Z,trivial⟩ (λ sl Cy K hK=>ae Z (aN Z Z Z Z Z (Cy _ _ Z) Z Z Z hK)) ak))) (al (λ _=>.p (eL (eL ag) CG)) Z Z Z (bj Z Z Y) (lt2 Z Z) (aj Z (af [(5,_)] ⟨.inl Z,trivial⟩ (λ sl Cy K hK=>ae Z (aA Z Z Z (Cy _ _ Z) hK)) (af [(5,_)] ⟨.inl Z,trivial⟩ (λ sl Cy K hK=>ae Z (aA Z Z Z (Cy _ _ Z) hK)) ak))) ?_);refine al (λ _=>.p (eI i58)) Z Z Z (bj Z Z Y) (lt2 Z Z) (aj Z (af [(7,_)] ⟨.inl Z,trivial⟩ (λ sl Cy K hK=>ae Z (aA Z Z Z (Cy _ _ Z) hK)) (af [(7,_)] ⟨.inl Z,trivial⟩ (λ sl Cy K hK=>ae Z (aA Z Z Z (Cy _ _ Z) hK)) ak))) (al (λ _=>.rptr [(eL ag) (lat CG i58)]) Z Z Z (bj Z Z Y) (lt2 Z Z) (aj Z (af [(68,_),(69,_)] ⟨.inr ⟨1,_,Z,Z,Z⟩,.inr ⟨2,_,Z,Z,Z⟩,trivial⟩ (λ sl Cy K hK=>ae Z (cO (f:=(eL ag)) (l:=CG) (λ x=>[(eL ag) x]) Z Z Z Z Z Z (Cy _ _ Z) Z (Cy _ _ Z) Fc Y Y hK)) (af [(68,_),(69,_)] ⟨.inr ⟨1,_,Z,Z,Z⟩,.inr ⟨2,_,Z,Z,Z⟩,trivial⟩ (λ sl Cy K hK=>ae Z (cO (f:=(eL ag)) (l:=CG) (λ x=>[(eL ag) x]) Z Z Z Z Z Z (Cy _ _ Z) Z (Cy _ _ Z) Fc Y Y hK)) ak))) ?_);refine al (λ _=>.p (eL ag (lat CG i58))) Z Z Z (bj Z Z Y) (lt2 Z Z) (aj Z (af [(70,_)] ⟨.inr ⟨3,_,Z,Z,Z⟩,trivial⟩ (λ sl Cy K hK=>ae Z (fF Z Z Z Z Z (Cy _ _ Z) Z hK)) (af [(70,_)] ⟨.inr ⟨3,_,Z,Z,Z⟩,trivial⟩ (λ sl Cy K hK=>ae Z (fF Z Z Z Z Z (Cy _ _ Z) Z hK)) ak))) (al (λ _=>.p (.agg (aa.cs CW.1))) Z Z Z (bj Z Z Y) (lt2 Z Z) (aj Z (af [(9,_)] ⟨.inl Z,trivial⟩ (λ sl Cy K hK=>ae Z (aN Z Z Z Z Z (Cy _ _ Z) Z Z Z hK)) (af [(9,_)] ⟨.inl Z,trivial⟩ (λ sl Cy K hK=>ae Z (aN Z Z Z Z Z (Cy _ _ Z) Z Z Z hK)) ak))) ?_);refine al (λ _=>.tuple [.p (.agg (aa.cs C3.1)),.p (eI C3.2)]) Z Z Z (bj Z Z Y) (lt2 Z Z) (aj Z (af [(67,_),(71,_),(72,_)] ⟨.inr ⟨0,_,Z,Z,Z⟩,.inr ⟨4,_,Z,Z,Z⟩,.inr ⟨5,_,Z,Z,Z⟩,trivial⟩ (λ sl Cy K hK=>ae Z (aY (gq _ (aa.mk Dc Dh Dg Df De) (lat CG i58) CW.1 _ Hs) Z Z Z (am (Cy _ _ Z) (am (Cy _ _ Z) (am (Cy _ _ Z) aM))) ⟨sr,sr,sr,trivial⟩ Tryz.call20 Z hK)) (af [(67,_),(71,_),(72,_)] ⟨.inr ⟨0,_,Z,Z,Z⟩,.inr ⟨4,_,Z,Z,Z⟩,.inr ⟨5,_,Z,Z,Z⟩,trivial⟩ (λ sl Cy K hK=>ae Z (aY (gq _ (aa.mk Dc Dh Dg Df De) (lat CG i58) CW.1 _ Hs) Z Z Z (am (Cy _ _ Z) (am (Cy _ _ Z) (am (Cy _ _ Z) aM))) ⟨sr,sr,sr,trivial⟩ Tryz.call20 Z hK)) ak))) (al (λ _=>.tuple [.p (.agg (aa.cs C3.1)),.p (eI C3.2)]) Z Z Z (bj Z Z Y) (lt2 Z Z) (aj Z (af [(73,_)] ⟨.inr ⟨6,_,Z,Z,Z⟩,trivial⟩ (λ sl Cy K hK=>ae Z (aA Z Z Z (Cy _ _ Z) hK)) (af [(73,_)] ⟨.inr ⟨6,_,Z,Z,Z⟩,trivial⟩ (λ sl Cy K hK=>ae Z (aA Z Z Z (Cy _ _ Z) hK)) ak))) ?_);refine al (λ _=>.p (.agg (aa.cs C3.1))) Z Z Z (bj Z Z Y) (lt2 Z Z) (aj Z (af [(66,_)] ⟨.inr ⟨7,_,Z,Z,Z⟩,trivial⟩ (λ sl Cy K hK=>ae Z (aF Z Z Z (Cy _ _ Z) Z hK)) (af [(66,_)] ⟨.inr ⟨7,_,Z,Z,Z⟩,trivial⟩ (λ sl Cy K hK=>ae Z (aF Z Z Z (Cy _ _ Z) Z hK)) ak))) (al (λ _=>.p (eI C3.2)) Z Z Z (bj Z Z Y) (lt2 Z Z) (af [(66,_)] ⟨.inr ⟨7,_,Z,Z,Z⟩,trivial⟩ (λ sl Cy K hK=>ae Z (aF Z Z Z (Cy _ _ Z) Z hK)) (af [(66,_)] ⟨.inr ⟨7,_,Z,Z,Z⟩,trivial⟩ (λ sl Cy K hK=>ae Z (aF Z Z Z (Cy _ _ Z) Z hK)) (af [(66,_)] ⟨.inr ⟨7,_,Z,Z,Z⟩,trivial⟩ (λ sl Cy K hK=>ae Z (aF Z Z Z (Cy _ _ Z) Z hK)) ak))) ?_);refine cQ (λ _=>.ptr 11 0) [] Z trivial Z Z (Go.Ab.bK Z Y) (lt2 (λ h=>absurd h (by decide)) Y) (λ sl Cy K hK=>ae Z (eG Z Z Z Z Z hK)) (ct [(11,_),(74,_)] Z ⟨.inr ⟨10,_,Z,Z,Z⟩,.inr ⟨8,_,Z,Z,Z⟩,trivial⟩ Z (λ sl Cy K hK=>ae Z (cv Z Z Z (Cy _ _ Z) (Cy _ _ Z) Z Z Z (ph Z) hK)) ?_);refine al (λ _=>.p (eI C3.2)) Z Z Z (bj Z Z Y) (lt2 Z Z) (af [(75,_)] ⟨.inr ⟨9,_,Z,Z,Z⟩,trivial⟩ (λ sl Cy K hK=>ae Z (bq Z Z Z (Cy _ _ Z) hK)) (aj Z (aj Z ak))) (eY ?_);refine nx 3 Z (bd h1 λ Gj h2 h1=>?_);refine kN Gj (λ F3=>⟨[(3,.ptr 3 0),(5,.p (eL (eL ag) CG)),(6,.ptr 6 0),(7,.p (eI i58)),(11,.ptr 11 0),(81,.p (eB F3))],[(3,(aa.cs CF).map .p),(6,[.p (eI Dc),.p (eI Dh),.p (eS Dg),.p (eL ah Df),.p (eL eS De)]),(11,(aa.cs C3.1).map .p)]⟩) ?_ ?_
    ·refine nx 1 Z (fB [81] h1 Z (λ GF h1=>?_) λ GF h1=>?_)
     ·exact nx 6 Z (mQ (hR0 _ (oi h1).symm) Z (sr))
     refine nx 8 Z (oA h1 Z Z λ Hr h1=>?_);exact nx 2 Z (eX (i58+1,C3.1.AT,C3.1.A',C3.1.By,C3.1.Ar,C3.1.AI) h1 (gE Z Z))
    refine nx 4 Z (fN [77,78] h2 Z (λ GG h2=>?_) λ GG h2=>?_)
    ·exact nx 4 Z (eX _ (oi h2).symm (gE Z Z))
    exact nx 4 Z (eX _ (oi h2).symm (gE Z Z))
   refine lG (λ (Em:Int)=>⟨[(3,.ptr 3 0),(5,.p (eL (eL ag) CG)),(6,.ptr 6 0),(7,.p (eI i58)),(8,.p (eI Em))],[(3,(aa.cs CF).map .p),(6,[.p (eI Dc),.p (eI Dh),.p (eS Dg),.p (eL ah Df),.p (eL eS De)])]⟩) (λ m (Em:Int)=>bE n CG i58 m Em) Y 0 h2 (gE rfl rfl) ?_;rintro m k79 h2;replace h2:bE n CG i58 (m+1) k79=some E':=h2;rw [bE] at h2;refine nx 7 rfl (fD [34] h2 rfl (λ c80 h2=>?_) λ c80 h2=>?_)
   ·refine nx 5 Z (bd h2 λ Gi h3 h2=>?_);refine kN Gi (λ F2=>⟨[(3,.ptr 3 0),(5,.p (eL (eL ag) CG)),(6,.ptr 6 0),(7,.p (eI i58)),(8,.p (eI k79)),(56,.p (eB F2))],[(3,(aa.cs CF).map .p),(6,[.p (eI Dc),.p (eI Dh),.p (eS Dg),.p (eL ah Df),.p (eL eS De)])]⟩) ?_ ?_
    ·refine nx 1 Z (fB [56] h2 Z (λ c91 h2=>?_) λ c91 h2=>?_)
     ·exact nx 6 Z (mQ (hR0 _ (hR1 _ (oi h2).symm).symm) Z (sr))
     refine nx 4 Z (oA h2 Z Z λ hk92 h2=>?_);exact nx 2 Z (eX (k79+1) h2 (gE Z Z))
    refine cc' h3 λ Fg h3=>cc' h3 λ Ff h3=>bd h3 λ E3 Hu h3=>fB (p:=E3) [] h3 Z (λ c85 h3=>?_) λ c85 h3=>?_
    ·refine mD [(3,.ptr 3 0),(5,.p (eL (eL ag) CG)),(6,.ptr 6 0),(7,.p (eI i58)),(8,.p (eI k79))] Z ⟨Z,Z,Z,Z,Z,trivial⟩ Z (dR 2 Z ?_);refine dq (.rptr [(eL ag) (lat CG i58)]) [37,38] Z (λ _ e _ q=>ae Z (cO (f:=(eL ag)) (l:=CG) (λ x=>[(eL ag) x]) Z Z Z Z Z Z (e _ _ Z) Z (e _ _ Z) Fg Y Y q)) Z (dR 3 Z ?_);refine dq (.rptr [(eL ag) (lat CG k79)]) [41,42] Z (λ _ e _ q=>ae Z (cO (f:=(eL ag)) (l:=CG) (λ x=>[(eL ag) x]) Z Z Z Z Z Z (e _ _ Z) Z (e _ _ Z) Ff Y Y q)) Z (dR 1 Z ?_);refine dq (.p (eB E3)) [40,44] Z (λ _ e _ q=>ae Z (aY (eM _ (lat CG i58) (lat CG k79) _ Hu) Z Z Z (am (e _ _ Z) (am (e _ _ Z) aM)) ⟨sr,sr,trivial⟩ Tryz.call30 Z q)) Z (dL (c85) Z ?_);refine dR 10 Z (dE Z ?_);exact nx 1 Z (eX _ (oi h3).symm (gE Z Z))
    refine cc' h3 λ Gn h3=>cc' h3 λ Gm h3=>bd h3 λ F' e89 h3=>mD [(3,.ptr 3 0),(5,.p (eL (eL ag) CG)),(6,.ptr 6 0),(7,.p (eI i58)),(8,.p (eI k79))] Z ⟨Z,Z,Z,Z,Z,trivial⟩ Z (dR 2 Z ?_);refine dq (.rptr [(eL ag) (lat CG i58)]) [37,38] Z (λ _ e _ q=>ae Z (cO (f:=(eL ag)) (l:=CG) (λ x=>[(eL ag) x]) Z Z Z Z Z Z (e _ _ Z) Z (e _ _ Z) Fg Y Y q)) Z (dR 3 Z ?_);refine dq (.rptr [(eL ag) (lat CG k79)]) [41,42] Z (λ _ e _ q=>ae Z (cO (f:=(eL ag)) (l:=CG) (λ x=>[(eL ag) x]) Z Z Z Z Z Z (e _ _ Z) Z (e _ _ Z) Ff Y Y q)) Z (dR 1 Z ?_);refine dq (.p (eB E3)) [40,44] Z (λ _ e _ q=>ae Z (aY (eM _ (lat CG i58) (lat CG k79) _ Hu) Z Z Z (am (e _ _ Z) (am (e _ _ Z) aM)) ⟨sr,sr,trivial⟩ Tryz.call30 Z q)) Z (dL (c85) Z ?_);refine dR 2 Z (dq (.rptr [(eL ag) (lat CG k79)]) [46,47,48] Z (λ _ e _ q=>jq (cO (f:=(eL ag)) (l:=CG) (λ x=>[(eL ag) x]) Z Z Z Z Z Z (e _ _ Z) Z (e _ _ Z) Gn Y Y q) Z Z (e _ _ Z) (rfl)) Z ?_);refine dR 3 Z (dq (.rptr [(eL ag) (lat CG i58)]) [46,51,52] Z (λ _ e _ q=>jq (cO (f:=(eL ag)) (l:=CG) (λ x=>[(eL ag) x]) Z Z Z Z Z Z (e _ _ Z) Z (e _ _ Z) Gm Y Y q) Z Z (e _ _ Z) (rfl)) Z ?_);refine dR 1 Z (dq (.p (eB F')) [46,50,54] Z (λ _ e _ q=>jq (aY (eM _ (lat CG k79) (lat CG i58) _ e89) Z Z Z (am (e _ _ Z) (am (e _ _ Z) aM)) ⟨sr,sr,trivial⟩ Tryz.call30 Z q) Z Z (e _ _ Z) (rfl)) Z ?_);refine dR 1 Z (dE Z ?_);exact nx 1 Z (eX _ (oi h3).symm (gE Z Z))
   exact nx 2 Z (eXi _ (oi h2).symm (gE Z Z))
  exact nx 2 Z (eXi _ (oi h1).symm (gE Z Z))
 refine nx 2 Z (bd h1 λ r1 e2 h1=>?_);refine oK (eh _ a_0 _ e2) Z ⟨sr,trivial⟩ Tryz.call15 Z (nx 2 Z ?_);refine fB [15,16] h1 Z (λ c3 h1=>?_) λ c3 h1=>?_
 ·exact nx 5 Z (eX _ (oi h1).symm (gE Z Z))
 refine nx 1 Z (bd h1 λ r4 e5 h1=>?_);refine oK (eh _ CF _ e5) Z ⟨sr,trivial⟩ Tryz.call15 Z (nx 3 Z ?_);exact eX _ (oi h1).symm (gE Z Z)
-- LACKING provision/provisionlaw08.PathGets: it calls provision/provisionref08.Set
end Go.Ab.R06
end
section
namespace Go.Ab.R06
open Go.Ab Go.Ab.RB Go.Lib
theorem pS:∀ {a b:List Bk},bK eqS a b=true->a=b
 | [],[],_=>rfl
 | [],_::_,h=>by simp [bK] at h
 | _::_,[],h=>by simp [bK] at h
 | x::r,y::q,h=>by
  simp only [bK,n7,eqS,decide_eq_true_eq] at h;rw [h.1,pS h.2]
theorem qU {p:aa->aa->Bool}:∀ {a b:List aa},(∀ x∈a,∀ y,p x y=true->x=y)->bK p a b=true->a=b
 | [],[],_,_=>rfl
 | [],_::_,_,h=>by simp [bK] at h
 | _::_,[],_,h=>by simp [bK] at h
 | x::r,y::q,hp,h=>by
  simp only [bK,n7] at h;rw [hp x G y h.1,qU (λ z hz=>hp z (List.mem_cons_of_mem _ hz)) h.2]
theorem yD {a:aa}(ha:aa.Bd a):∀ b,eqV a b=true->a=b:=by
 induction ha with
 | @mk x bKind bNum bStr bItems eItems bKeys eKeys ih=>
  intro b h;rw [rA] at h;simp only [n7,decide_eq_true_eq,eqS] at h;obtain ⟨⟨⟨⟨h1,h2⟩,h3⟩,h4⟩,h5⟩:=h;have e:=qU ih h5;have e4:=pS (a:=x.AI) (b:=b.AI) h4;rw [<- aa.eta x,<- aa.eta b,h1,h2,h3,e,e4]
theorem iP {a b:aa}(h:pM a b=true):a.AT=b.AT/\(a.AT=4\/a.AT=5)/\a.Ar.length=b.Ar.length/\a.AI=b.AI:=by
 simp only [pM,n7,Bool.or_eq_true,decide_eq_true_eq] at h;exact ⟨h.1.1.1,h.1.1.2,h.1.2,pS h.2⟩
inductive iw:aa->Nat->Prop where
 | mk {v:aa} {lv:Nat} (h:iA v=0) (hl:lv<=32) (hi:∀ x∈v.Ar,iw x (lv+1)):iw v lv
theorem iw.nd {v:aa}{lv:Nat}(h:iw v lv):iA v=0:=by cases h; assumption
theorem iw.le {v:aa}{lv:Nat}(h:iw v lv):lv<=32:=by cases h; assumption
theorem iw.it {v:aa}{lv:Nat}(h:iw v lv):∀ x∈v.Ar,iw x (lv+1):=by cases h; assumption
theorem yG {v:aa}{lv:Nat}(h:iw v lv):∀ c,c+bZ v<=4096->gn v lv c=(0,c+bZ v):=by
 induction h with
 | @mk v lv h hl hi ih=>
  intro c hc;rw [bR] at hc ⊢
  have loop:∀ (l:List aa),(∀ x∈l,x∈v.Ar)->∀ c,c+bw l<=4096->gV l (lv+1) c=(0,c+bw l):=by
   intro l
   induction l with
   | nil=>intro _ c _; simp only [gV,bw,Nat.add_zero]
   | cons x r ihl=>
    intro hm c hc;simp only [bw] at hc ⊢;have e:=ih x (hm x List.mem_cons_self) c O;simp only [gV];rw [e];simp only [ne_eq,not_true_eq_false,if_false];rw [ihl (λ y hy=>hm y (List.mem_cons_of_mem _ hy)) _ O];congr 1; omega
  rw [oG,if_neg O,if_neg O,if_neg (by simpa using h),loop v.Ar (λ x hx=>hx) _ O];congr 1; omega
theorem yk {v:aa}(hb:aa.Bd v):∀ (lv c:Nat),(gn v lv c).1=0->iw v lv:=by
 induction hb with
 | @mk x bKind bNum bStr bItems eItems bKeys eKeys ih=>
  intro lv c h;obtain ⟨h0,_,h1,h2⟩:=rb h;exact .mk h1 h0 λ y hy=>by obtain ⟨c',h3⟩:=oX h2 hy; exact ih y hy _ c' h3
theorem w3 (a:aa){l:List aa}(hl:l.length=a.Ar.length):iA (aa.mk a.AT a.A' a.By l a.AI)=iA a:=by
 have e:shB (aa.mk a.AT a.A' a.By l a.AI)=shB a:=by
  unfold shB;simp only [oo,ek,oH,hl]
  rfl
 unfold iA;rw [e]
 rfl
inductive Mix:aa->aa->aa->Prop where
 | left (a b:aa):Mix a b a
 | right (a b:aa):Mix a b b
 | node {a b:aa} (h:pM a b=true) (l:List aa) (hl:l.length=a.Ar.length) (hm:∀ (i:Nat) y z x,a.Ar[i]? = some y->b.Ar[i]? = some z->l[i]? = some x->Mix y z x):Mix a b (aa.mk a.AT a.A' a.By l a.AI)
theorem three {l la lb:List aa}(h1:l.length=la.length)(h2:la.length=lb.length){x:aa}(hx:x∈l):∃ (i:Nat) (y z:aa),l[i]? = some x/\la[i]? = some y/\lb[i]? = some z:=by
 obtain ⟨i,hi,rfl⟩:=List.getElem_of_mem hx;exact ⟨i,la[i],lb[i],List.getElem?_eq_getElem hi,List.getElem?_eq_getElem O,List.getElem?_eq_getElem O⟩
theorem zd {a b v:aa}(h:Mix a b v):∀ lv,iw a lv->iw b lv->iw v lv:=by
 induction h with
 | left=>intro lv ha _; exact ha
 | right=>intro lv _ hb; exact hb
 | @node a b h l hl hm ih=>
  intro lv ha hb;refine .mk (by rw [w3 a hl]; exact ha.nd) ha.le λ x hx=>?_;obtain ⟨i,y,z,e1,e2,e3⟩:=three hl (iP h).2.2.1 hx;exact ih i y z x e2 e3 e1 (lv+1) (ha.it _ (List.mem_of_getElem? e2)) (hb.it _ (List.mem_of_getElem? e3))
theorem sum3:∀ {l la lb:List aa},l.length=la.length->la.length=lb.length->(∀ (i:Nat) y z x,la[i]? = some y->lb[i]? = some z->l[i]? = some x->bZ x<=bZ y+bZ z)->bw l<=bw la+bw lb
 | [],_,_,_,_,_=>by simp only [bw]; omega
 | x::l,[],_,h,_,_=>by simp at h
 | x::l,y::la,[],_,h,_=>by simp at h
 | x::l,y::la,z::lb,h1,h2,hp=>by
  have e:=hp 0 y z x Z Z Z;have e2:=sum3 (l:=l) (la:=la) (lb:=lb) (by simpa using h1) (by simpa using h2) (λ i y z x a b c=>hp (i+1) y z x (by simpa using a) (by simpa using b) (by simpa using c));simp only [bw]; omega
theorem xM {a b v:aa}(h:Mix a b v):bZ v<=bZ a+bZ b:=by
 induction h with
 | left=>omega
 | right=>omega
 | @node a b h l hl hm ih=>
  have:=sum3 hl (iP h).2.2.1 ih;rw [bR,bR a,bR b,ek];omega
theorem Bw {a b v:aa}(h:Mix a b v):aa.Bd a->aa.Bd b->aa.Bd v:=by
 induction h with
 | left=>intro ha _; exact ha
 | right=>intro _ hb; exact hb
 | @node a b h l hl hm ih=>
  intro ha hb;refine .mk ha.bKind ha.bNum ha.bStr (by rw [ek,hl]; exact ha.bItems) (λ x hx=>?_) ha.bKeys ha.eKeys;obtain ⟨i,y,z,e1,e2,e3⟩:=three hl (iP h).2.2.1 hx;exact ih i y z x e2 e3 e1 (ha.eItems _ (List.mem_of_getElem? e2)) (hb.eItems _ (List.mem_of_getElem? e3))
inductive Steps (M:aa->Prop)(b:aa):List (List ac)->aa->aa->Prop where
 | nil (v:aa):Steps M b [] v v
 | cons {P:List ac} {L:List (List ac)} {v w u:aa} (hg:(dm P b).2=0) (h:gg (dm P b).1 P v=(w,0)) (hm:M w) (r:Steps M b L w u):Steps M b (P::L) v u
theorem Steps.append {M:aa->Prop}{b:aa}{L L':List (List ac)}{v w u:aa}(h:Steps M b L v w)(k:Steps M b L' w u):Steps M b (L++L') v u:=by
 induction h with
 | nil=>exact k
 | cons hg h hm r ih=>exact .cons hg h hm (ih k)
theorem yl {v:aa}(hv:GV v)(hb:aa.Bd v){i:Nat}(hi:i<v.Ar.length):dM v (gL v.AT v.AI i)=((i:Int),0):=by
 have hk:=hb.bKeys;unfold ec at hk;exact (yb (pW hv.node O _) (Ap hv.node O hi)).symm
theorem uE {x y v:aa}{s:ac}{p:List ac}{i:Nat}(e:dM v s=((i:Int),0))(hy:gg x p (lat v.Ar (i:Int))=(y,0)):gg x (s::p) v=(aa.mk v.AT v.A' v.By (v.Ar.set i y) v.AI,0):=by
 simp [gg,e,hy]
theorem lift {M M':aa->Prop}{a b c:aa}{i:Nat}{s:ac}(hf:dM a s=((i:Int),0))(hg:dM b s=((i:Int),0))(hc:lat b.Ar (i:Int)=c){L:List (List ac)}{x u:aa}(h:Steps M' c L x u) :
  ∀ l:List aa,l.length=a.Ar.length->l[i]? = some x->(∀ w,M' w->M (aa.mk a.AT a.A' a.By (l.set i w) a.AI)) ->
   Steps M b (L.map (s::·)) (aa.mk a.AT a.A' a.By l a.AI) (aa.mk a.AT a.A' a.By (l.set i u) a.AI):=by
 induction h with
 | nil v=>
  intro l hl hx hM;have hi:i<l.length:=(List.getElem?_eq_some_iff.1 hx).1
  have e:l.set i v=l:=by
   have:l[i]=v:=(List.getElem?_eq_some_iff.1 hx).2;rw [<- this]; exact tP l i hi
  rw [e];exact .nil _
 | @cons P L v w u hg2 h hm r ih=>
  intro l hl hx hM;have hi:i<l.length:=(List.getElem?_eq_some_iff.1 hx).1
  have e1:dm (s::P) b=dm P c:=by
   simp only [dm];rw [hg,if_pos rfl,hc]
  have e2:lat l (i:Int)=v:=by rw [cY _ _ hi]; exact (List.getElem?_eq_some_iff.1 hx).2
  refine .cons (w:=aa.mk a.AT a.A' a.By (l.set i w) a.AI) (by rw [e1]; exact hg2) ?_ (hM w hm) ?_
  ·rw [e1];exact uE (v:=aa.mk a.AT a.A' a.By l a.AI) (by rw [nu a l hl s,hf]) (by rw [ek,e2]; exact h)
  ·have:=ih (l.set i w) (by rw [List.length_set]; exact hl) (by rw [List.getElem?_set_self hi]) (λ w' hw'=>by rw [List.set_set]; exact hM w' hw');rw [List.set_set] at this;exact this
theorem sK:∀ (N:Nat) (a b:aa) (p:List ac),bZ a<=N->dfs a b p=(dfs a b []).map (p++·)
 | 0,a,b,p,h=>absurd h (by rw [bR]; omega)
 | N+1,a,b,p,h=>by
  rw [bR] at h;rw [lO,lO a b []];split
  ·rfl
  ·split
   ·have:∀ (l q:List aa) (i:Nat),bw l<=N->gP a.AT a.AI i l q p=(gP a.AT a.AI i l q []).map (p++·):=by
     intro l
     induction l with
     | nil=>intro q i _; simp [gP]
     | cons x r ih=>
      intro q i hl;simp only [bw] at hl
      cases q with
      | nil=>simp [gP]
      | cons y q=>
       simp only [gP,List.map_append];rw [sK N x y (p++[gL a.AT a.AI i]) O,sK N x y ([]++[gL a.AT a.AI i]) O,ih q (i+1) O,List.map_map];congr 1;refine List.map_congr_left λ z _=>?_;simp
    exact this a.Ar b.Ar 0 O
   ·simp
theorem sa (a b:aa)(s:ac):dfs a b ([]++[s])=(dfs a b []).map (s::·):=by
 rw [sK _ a b _ (bt _)]
 rfl
theorem qD {α:Type}(la lb:List α){i:Nat}(h1:i<la.length)(h2:i<lb.length):(lb.take i++la.drop i).set i lb[i]=lb.take (i+1)++la.drop (i+1):=by
 have hl:(lb.take i).length=i:=by rw [sm]; omega
 rw [List.set_append_right _ _ O,hl,Nat.sub_self,List.drop_eq_getElem_cons h1,List.set_cons_zero,List.take_succ_eq_append_getElem h2,List.append_assoc]
 rfl
theorem AP {a b:aa}(h:pM a b=true){i:Nat}(hi:i<a.Ar.length)(hib:i<b.Ar.length){w:aa}(hw:Mix a.Ar[i] b.Ar[i] w):Mix a b (aa.mk a.AT a.A' a.By ((b.Ar.take i++a.Ar.drop i).set i w) a.AI):=by
 have hl:=(iP h).2.2.1;have ht:(b.Ar.take i).length=i:=by rw [sm]; omega
 refine .node h _ (by rw [List.length_set,n8,ht,List.length_drop]; omega) (λ j y z x h1 h2 h3=>?_);have hj:j<a.Ar.length:=(List.getElem?_eq_some_iff.1 h1).1;rw [List.getElem?_set] at h3;by_cases e:i=j
 ·subst e;rw [if_pos rfl,if_pos (by rw [n8,ht,List.length_drop]; omega)] at h3
  cases h3
  rw [List.getElem?_eq_getElem hi] at h1;rw [List.getElem?_eq_getElem hib] at h2
  cases h1; cases h2
  exact hw
 ·rw [if_neg e] at h3;rcases Nat.lt_or_ge j i with hlt|hge
  ·rw [List.getElem?_append_left O,List.getElem?_take,if_pos hlt,h2] at h3
   cases h3
   exact .right _ _
  ·rw [List.getElem?_append_right O,ht,List.getElem?_drop,show i+(j-i)=j by omega,h1] at h3
   cases h3
   exact .left _ _
theorem lW {v:aa}(h:iA v=0)(hk:v.AT=4\/v.AT=5):v.A'=0/\v.By=[]:=by
 have hs:shB v=true:=by
  cases q:shB v with
  | true=>rfl
  | false=>unfold iA at h; rw [if_pos q] at h; cases h
 simp only [shB,decide_eq_true_eq] at hs;exact ⟨hs.2.2.2.1 O O,hs.2.2.2.2.1 O⟩
theorem A3:∀ (N:Nat) (a b:aa),bZ a<=N->GV a->GV b->aa.Bd a->aa.Bd b->(∃ lv,iw a lv)->(∃ lv,iw b lv)->Steps (Mix a b) b (dfs a b []) a b
 | 0,a,b,h,_,_,_,_,_,_=>absurd h (by rw [bR]; omega)
 | N+1,a,b,h,ga,gb,ba,bb,⟨la,oa⟩,⟨lb,ob⟩=>by
  have na:=oa.nd;have nb:=ob.nd;have na2:=λ x hx=>(⟨la+1,oa.it x hx⟩:∃ lv,iw x lv)
  have nb2:=λ x hx=>(⟨lb+1,ob.it x hx⟩:∃ lv,iw x lv)
  rw [bR] at h;rw [lO];by_cases he:eqV a b=true
  ·rw [if_pos he,yD ba b he];exact .nil b
  rw [if_neg he];by_cases hi:pM a b=true
  ·rw [if_pos hi];obtain ⟨f1,f2,f3,f4⟩:=iP hi
   have loop:∀ (k i:Nat),i+k=a.Ar.length->Steps (Mix a b) b (gP a.AT a.AI i (a.Ar.drop i) (b.Ar.drop i) []) (aa.mk a.AT a.A' a.By (b.Ar.take i++a.Ar.drop i) a.AI) b:=by
    intro k
    induction k with
    | zero=>
     intro i hk;rw [List.drop_eq_nil_of_le O,List.append_nil,List.take_of_length_le O]
     have e:aa.mk a.AT a.A' a.By b.Ar a.AI=b:=by
      have s1:=lW na f2;have s2:=lW nb (f1 ▸ f2);rw [f1,f4,s1.1,s1.2,<- s2.1,<- s2.2];exact aa.eta b
     rw [e];simp only [gP];exact .nil b
    | succ k ih=>
     intro i hk;have hia:i<a.Ar.length:=by omega
     have hib:i<b.Ar.length:=by omega
     have ma:a.Ar[i]∈a.Ar:=List.getElem_mem hia;have mb:b.Ar[i]∈b.Ar:=List.getElem_mem hib;have ht:(b.Ar.take i).length=i:=by rw [sm]; omega
     rw [List.drop_eq_getElem_cons hia,List.drop_eq_getElem_cons hib];simp only [gP];rw [sa];have st:=A3 N a.Ar[i] b.Ar[i] (by have:=g8 ma; omega) (ga.its _ ma) (gb.its _ mb) (ba.eItems _ ma) (bb.eItems _ mb) (na2 _ ma) (nb2 _ mb);have fs:=yl ga ba hia;have fb:=yl gb bb hib;rw [<- f1,<- f4] at fb
     have l:=lift (M:=Mix a b) (a:=a) (b:=b) fs fb (cY _ _ hib) st (b.Ar.take i++a.Ar[i]::a.Ar.drop (i+1)) (by rw [n8,ht,d4,List.length_drop]; omega) (by rw [List.getElem?_append_right O,ht,Nat.sub_self]; rfl) (λ w hw=>by
      have:=AP hi hia hib hw;rw [List.drop_eq_getElem_cons hia] at this
      exact this)
     have e:=qD a.Ar b.Ar hia hib;rw [List.drop_eq_getElem_cons hia] at e;rw [e] at l;exact l.append (ih (i+1) O)
   have:=loop a.Ar.length 0 O;rw [List.take_zero,List.nil_append,List.drop_zero,List.drop_zero,aa.eta] at this;exact this
  ·rw [if_neg hi];exact .cons (P:=[]) Z Z (.right a b) (.nil b)
def Apart (p q:List ac):Prop:=¬ p <+: q/\¬ q <+: p
theorem uU {s:ac}{p q:List ac}(h:Apart p q):Apart (s::p) (s::q):=⟨λ k=>h.1 ((List.prefix_cons_inj s).1 k),λ k=>h.2 ((List.prefix_cons_inj s).1 k)⟩
theorem ze {s t:ac}(h:s≠t)(p q:List ac):Apart (s::p) (t::q):=by
 constructor
 ·rintro ⟨r,e⟩; injection e with e _; exact h e
 ·rintro ⟨r,e⟩; injection e with e _; exact h e.symm
theorem p8 (k:Int)(ks:List Bk):∀ (l m:List aa) (i:Nat) (q:List ac),q∈gP k ks i l m []->∃ j r,i<=j/\j<i+l.length/\q=gL k ks j::r
 | [],m,i,q,h=>by simp [gP] at h
 | x::l,[],i,q,h=>by simp [gP] at h
 | x::l,y::m,i,q,h=>by
  simp only [gP,List.mem_append] at h;rw [sa] at h;rcases h with h|h
  ·obtain ⟨r,_,rfl⟩:=List.mem_map.1 h;exact ⟨i,r,bt _,by simp only [d4]; omega,rfl⟩
  ·obtain ⟨j,r,h1,h2,e⟩:=p8 k ks l m (i+1) q h;exact ⟨j,r,by omega,by simp only [d4]; omega,e⟩
theorem rt:∀ (N:Nat) (a b:aa),bZ a<=N->GV a->(dfs a b []).Pairwise Apart
 | 0,a,b,h,_=>absurd h (by rw [bR]; omega)
 | N+1,a,b,h,ga=>by
  rw [bR] at h;rw [lO];split
  ·exact .nil
  ·split
   ·rename_i hi;obtain ⟨f1,f2,f3,f4⟩:=iP hi
    have loop:∀ (k i:Nat),i+k=a.Ar.length->(gP a.AT a.AI i (a.Ar.drop i) (b.Ar.drop i) []).Pairwise Apart:=by
     intro k
     induction k with
     | zero=>
      intro i hk;rw [List.drop_eq_nil_of_le O];simp only [gP];exact .nil
     | succ k ih=>
      intro i hk;have hia:i<a.Ar.length:=by omega
      have hib:i<b.Ar.length:=by omega
      have ma:a.Ar[i]∈a.Ar:=List.getElem_mem hia;rw [List.drop_eq_getElem_cons hia,List.drop_eq_getElem_cons hib];simp only [gP];rw [sa];refine List.pairwise_append.2 ⟨?_,ih (i+1) O,λ x hx y hy=>?_⟩
      ·exact List.pairwise_map.2 ((rt N a.Ar[i] b.Ar[i] (by have:=g8 ma; omega) (ga.its _ ma)).imp λ h=>uU h)
      ·obtain ⟨r,_,rfl⟩:=List.mem_map.1 hx;obtain ⟨j,r',h1,h2,rfl⟩:=p8 _ _ _ _ _ _ hy;rw [List.length_drop] at h2;refine ze (λ e=>?_) _ _;have:=zp ga.node hia O e;omega
    have:=loop a.Ar.length 0 O
    rwa [List.drop_zero,List.drop_zero] at this
   ·exact List.pairwise_singleton _ _
theorem AE {v:aa}(hv:jz v)(hb:aa.Bd v){i:Nat}(hi:i<v.Ar.length):gd (gL v.AT v.AI i):=by
 have h2:=hb.bItems;unfold ec at h2;unfold gL;split
 ·rename_i h5;have hl:=hv.len h5;have ht:=hv.txt (lat v.AI (i:Int)) (Go.Ab.dU O);exact ⟨⟨Int.le_refl _,by simp only [ac.A']; unfold j8; omega⟩,λ q=>Bool.noConfusion q,λ _=>⟨rfl,ht⟩⟩
 ·exact ⟨⟨by simp only [ac.A']; omega,by simp only [ac.A']; unfold j8; omega⟩,λ _=>rfl,λ q=>Bool.noConfusion q⟩
theorem tu:∀ (N:Nat) (a b:aa) (lv:Nat),bZ a<=N->GV a->aa.Bd a->iw a lv->∀ P∈dfs a b [],(∀ s∈P,gd s)/\P.length+lv<=32
 | 0,a,b,lv,h,_,_,_=>absurd h (by rw [bR]; omega)
 | N+1,a,b,lv,h,ga,ba,oa=>by
  intro P hP;rw [bR] at h;rw [lO] at hP;split at hP
  ·cases hP
  ·split at hP
   ·have loop:∀ (k i:Nat),i+k=a.Ar.length->∀ m:List aa,P∈gP a.AT a.AI i (a.Ar.drop i) m []->(∀ s∈P,gd s)/\P.length+lv<=32:=by
     intro k
     induction k with
     | zero=>
      intro i hk m hm;rw [List.drop_eq_nil_of_le O] at hm;simp [gP] at hm
     | succ k ih=>
      intro i hk m hm;have hia:i<a.Ar.length:=by omega
      have ma:a.Ar[i]∈a.Ar:=List.getElem_mem hia;rw [List.drop_eq_getElem_cons hia] at hm
      cases m with
      | nil=>simp [gP] at hm
      | cons y m=>
       simp only [gP,List.mem_append] at hm;rw [sa] at hm;rcases hm with hm|hm
       ·obtain ⟨r,hr,rfl⟩:=List.mem_map.1 hm;obtain ⟨e1,e2⟩:=tu N a.Ar[i] y (lv+1) (by have:=g8 ma; omega) (ga.its _ ma) (ba.eItems _ ma) (oa.it _ ma) r hr;refine ⟨λ s hs=>?_,by simp only [d4]; omega⟩;rcases ro.1 hs with rfl|hs
        ·exact AE ga.node ba hia
        ·exact e1 s hs
       ·exact ih (i+1) O m hm
    have:=loop a.Ar.length 0 O b.Ar;rw [List.drop_zero] at this;exact this hP
   ·rw [List.mem_singleton.1 hP];exact ⟨λ s hs=>(by cases hs),by have:=oa.le; simp only [List.length_nil]; omega⟩
theorem mg {v:aa}(hb:aa.Bd v):Ev2 (λ n _=>cL n v) (λ r=>r=true->VV v/\bZ v<=200/\iw v 1):=by
 simp only [cL];refine bI (λ r=>r=true->VV v/\bZ v<=200/\iw v 1) ?_ (λ r hr=>ai hr);refine bI _ (s8 hb 200 (by decide) (by decide)) (λ r hr=>aw (λ h=>?_) (λ _=>ai (λ q=>by cases q)));refine ay _ (pg hb) (ai (λ q=>?_));have c:(gn v 1 0).1=0:=by simpa using q
 have:=hr h;exact ⟨u7 hb c,by omega,yk hb 1 0 c⟩
theorem tU {a b:aa}(ha:aa.Bd a)(hb:aa.Bd b):Ev2 (λ n _=>fc n a b) (·=true):=by
 simp only [fc];refine bI (λ t=>t=false->(VV a/\bZ a<=200/\iw a 1)/\(VV b/\bZ b<=200/\iw b 1)) ?_ (λ t ht=>?_)
 ·refine bI _ (mg ha) (λ r hr=>aw (λ _=>ai (λ k=>by cases k)) (λ h=>?_));exact bI _ (mg hb) (λ r2 hr2=>ai (λ h2=>⟨hr (by simpa using h),hr2 (by simpa using h2)⟩))
 ·refine aw (λ _=>ay _ ik (ai rfl)) (λ h=>?_);obtain ⟨⟨va,na,oa⟩,⟨vb,nb,ob⟩⟩:=ht (by simpa using h);have l1:=zr va.g ha b [] (by simp only [List.length_nil]; omega);have e3:Ev2 (λ n _=>jL n a b) (·=dfs a b []):=by simp only [jL]; exact ay _ l1 (ai rfl)
  have st:=A3 _ a b (bt _) va.g vb.g ha hb ⟨1,oa⟩ ⟨1,ob⟩;have ap:=rt _ a b (bt _) va.g;have ok:=tu _ a b 1 (bt _) va.g ha oa;have ll:=rE _ a b [] (bt _);refine ay _ e3 ?_;generalize dfs a b []=L at st ap ok ll
  have mix:∀ w,Mix a b w->VV w/\(gn w 1 0).1=0:=λ w hw=>by
   have b1:=Bw hw ha hb;have n1:=xM hw;have c1:=yG (zd hw 1 oa ob) 0 O;have c2:(gn w 1 0).1=0:=by rw [c1]
   exact ⟨u7 b1 c2,c2⟩
  have inner:∀ i:Nat,i<L.length->Ev2 (λ n m=>bE n L (i:Int) m 0) (·=.inl ()):=by
   intro i hi;refine ju (λ n m j (_:Unit)=>bE n L (i:Int) m j) i (λ _ _=>True) (λ j _ hj _ k=>?_) (λ _ _=>?_) () trivial
   ·simp only [bE];have m1:lat L (i:Int)∈L:=Go.Ab.dU O;have m2:lat L (j:Int)∈L:=Go.Ab.dU O;have o1:=ok _ m1;have o2:=ok _ m2;have r:=List.pairwise_iff_getElem.1 ap j i O hi hj;rw [<- cY L j O,<- cY L i hi] at r;refine aI O (ay false (ax O (ax O (ay _ (ln _ _ O O) (aE (by simpa using r.1) (ax O (ax O (ay _ (ln _ _ O O) (ai (decide_eq_false r.2))))))))) (aE (by decide) (ax (a8 O O) (k () trivial))))
   ·simp only [bE];exact aE O (ai rfl)
  have outer:∀ (k i:Nat) (v:aa),i+k=L.length->VV v->Steps (Mix a b) b (L.drop i) v b->Ev2 (λ n m=>bF n b L m (i:Int) v.AT v.A' v.By v.Ar v.AI) (·=.inl (b.AT,b.A',b.By,b.Ar,b.AI)):=by
   intro k
   induction k with
   | zero=>
    intro i v hk vv hs;rw [List.drop_eq_nil_of_le O] at hs
    cases hs
    refine aT ?_;simp only [bF];exact aE O (ai Z)
   | succ k ih=>
    intro i v hk vv hs;have hi:i<L.length:=by omega
    have hd:L.drop i=lat L (i:Int)::L.drop (i+1):=by rw [cY _ _ hi]; exact List.drop_eq_getElem_cons hi
    have m1:lat L (i:Int)∈L:=Go.Ab.dU O;obtain ⟨o1,o2⟩:=ok _ m1;rw [hd] at hs
    cases hs with
    | @cons _ _ _ w _ hg hset hm r=>
     obtain ⟨vw,cw⟩:=mix w hm;have gv:=uf o1 vb hg
     have es:qA v (lat L (i:Int)) (dm (lat L (i:Int)) b).1=(w,0):=by
      unfold qA;rw [hset,if_neg G,if_neg (by simpa using cw)]
     refine aT ?_;simp only [bF];refine aI O (eA () (bX (f:=λ n m=>bE n L (i:Int) m 0) (inner i hi)) (ax O (ay _ (l6 vb o1 O) (ax O ?_))));rw [aa.eta];refine ay _ (sB vv gv.b o1 O) ?_;rw [es];refine ay false (aI hg (ai Z)) (aE (by decide) (ax (a8 O O) ?_));exact kj (P:=λ z=>Ev2 (λ n m=>bF n b L m z w.AT w.A' w.By w.Ar w.AI) _) (ih (i+1) w O vw r)
  refine eA _ (bX (f:=λ n m=>bF n b L m 0 a.AT a.A' a.By a.Ar a.AI) (outer L.length 0 a O va (by rw [List.drop_zero]; exact st))) ?_;rw [aa.eta];exact ay true (ay _ (kd hb b) (aI (lc hb) (ay _ ik (ai Z)))) (ai Z)
end Go.Ab.R06
end
