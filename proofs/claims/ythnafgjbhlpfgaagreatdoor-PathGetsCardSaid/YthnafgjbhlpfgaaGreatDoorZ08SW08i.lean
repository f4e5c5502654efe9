/- Texts of the proof, one behind the other. No statement is proved here. -/
import Derived.Test.YthnafgjbhlpfgaaGreatDoorCards
import Derived.Test.YthnafgjbhlpfgaaGreatDoorTie
import Derived.WalkKit
import Derived.SizedLaws
import Derived.ProofKit
import Derived.OpenShut
import Derived.ShutString
import Derived.LaidMore
import Derived.Stop.Joined
import Derived.Deep.DeepHandedRow
import Derived.Deep.DeepWitnessRowRef
import Derived.Test.YthnafgjbhlpfgaaGreatDoorZ08Sa
import Derived.Test.YthnafgjbhlpfgaaGreatDoorZ08Sb
import Derived.Test.YthnafgjbhlpfgaaGreatDoorZ08Sc
import Derived.Test.YthnafgjbhlpfgaaGreatDoorZ08Sd
import Derived.Test.YthnafgjbhlpfgaaGreatDoorZ08Se
import Derived.Test.YthnafgjbhlpfgaaGreatDoorZ08Sf
set_option maxHeartbeats 4000000
section
namespace Go.Ab.R06
open Go.Proofs Go.Ab Go.Ab.RB
theorem pT {n:Nat}{a:PV}(h1:WTf tt n 23 a.cells)(h2:a=mkE (((look tt 23).map (·.k.isAgg)).getD false) a.cells):∃ l:List ac,a=eL ag l/\l.length<=1000000000000000/\∀ x∈l,x.BY.length<=1000000000000000:=by
 obtain ⟨l,e,hl,hb⟩:=mK ag (λ x:ac=>ac.Bd x) rfl h1 (λ m x _ k1 k2=>by
  obtain ⟨y,e,b⟩:=ac.dec m _ k1
  exact ⟨y,by rw [k2,e,ac.Cv]; rfl,b⟩)
 have hl:l.length*32<=140737488351232:=hl;refine ⟨l,by rw [h2,e]; rfl,by omega,λ x hx=>?_⟩;have:x.BY.length<=140737488351232:=by have:=hb x hx; cases this; assumption
 omega
attribute [local irreducible] awp ea aO au bs AV.sub M bY
def bE (n:Nat)(CG:(List (List ac)))(i58:Int):Nat->Int->Option (Unit⊕((Int×Int×Bk×(List aa)×(List Bk))⊕Bool))|0,_=>none|m+1,k79=>if k79<i58 then(ck ((0:Int)<=i58/\i58<(CG.length:Int))<|ck ((0:Int)<=k79/\k79<(CG.length:Int))<|(d6 n (lat CG i58) (lat CG k79)).bind λ E3=>if E3=true then some true else ck ((0:Int)<=k79/\k79<(CG.length:Int))<|ck ((0:Int)<=i58/\i58<(CG.length:Int))<|(d6 n (lat CG k79) (lat CG i58)).bind λ F'=>some F' : Option Bool).bind λ t90=>if t90=true then some (.inr (.inr false))else ck (inR (k79+1))<|bE n CG i58 m (k79+1)else some (.inl ())
def bF (n:Nat)(CF:aa)(CG:(List (List ac))):Nat->Int->Int->Int->Bk->(List aa)->(List Bk)->Option ((Int×Int×Bk×(List aa)×(List Bk))⊕Bool)|0,_,_,_,_,_,_=>none|m+1,i58,Dc,Dh,Dg,Df,De=>if i58<(CG.length:Int) then jn (bE n CG i58 n 0) λ q123=>ck ((0:Int)<=i58/\i58<(CG.length:Int))<|(fp n CF (lat CG i58)).bind λ CW=>ck ((0:Int)<=i58/\i58<(CG.length:Int))<|(ii n (aa.mk Dc Dh Dg Df De) (lat CG i58) CW.1).bind λ C3=>(if CW.2=0 then some (!decide (C3.2=0))else some true : Option Bool).bind λ F9=>if F9=true then some (.inr false)else ck (inR (i58+1))<|bF n CF CG m (i58+1) C3.1.AT C3.1.A' C3.1.By C3.1.Ar C3.1.AI else some (.inl (Dc,Dh,Dg,Df,De))
def fc (n:Nat)(a_0:aa)(CF:aa):Option Bool :=((cL n a_0).bind λ r1=>if (!r1)=true then some true else(cL n CF).bind λ r4=>some (!r4) : Option Bool).bind λ t6=>if t6=true then(cN n).bind λ r8=>some r8 else(jL n a_0 CF).bind λ CG=>jn (bF n CF CG n 0 a_0.AT a_0.A' a_0.By a_0.Ar a_0.AI) λ DY=>((dh n (aa.mk DY.1 DY.2.1 DY.2.2.1 DY.2.2.2.1 DY.2.2.2.2) CF).bind λ E6=>if E6=true then(cN n).bind λ E5=>some E5 else some false : Option Bool).bind λ F8=>some F8
theorem kW (n:Nat)(a_0:aa)(CF:aa)(r:Bool)(h0:fc n a_0 CF=some r):au Tryz.prog 9 [.agg (aa.cs a_0),.agg (aa.cs CF)] (·=.p (eB r)):=by
 unfold fc at h0;refine aZ good Tryz.func9 Z Z Z λ w0=>mP (λ v:Bool=>.p (eB v)) ?_;refine nx 8 Z (bd h0 λ Gl h1 h0=>?_);refine kN Gl (λ F5=>⟨[(2,.ptr 2 0),(3,.ptr 3 0),(20,.p (eB F5))],[(2,(aa.cs a_0).map .p),(3,(aa.cs CF).map .p)]⟩) ?_ ?_
 ·refine nx 1 Z (fB [20] h0 Z (λ c7 h0=>?_) λ c7 h0=>?_)
  ·refine nx 3 Z (bd h0 λ r8 e9 h0=>?_);refine oK (dk _  _ e9) Z trivial Tryz.call11 Z (nx 3 Z ?_);exact mQ (oi h0) Z (sr)
  refine nx 6 rfl (bd h0 λ CG D7 h0=>?_);refine oK (sb _ a_0 CF _ D7) rfl ⟨sr,sr,trivial⟩ Tryz.call31 rfl (nx 14 rfl ?_);obtain ⟨Fa,h1,C9,hR0⟩:=dl h0;refine kEx 0 (λ CY:Int×Int×Bk×(List aa)×(List Bk)=>Fa=.inl CY) (λ CY=>⟨[(3,.ptr 3 0),(6,.ptr 6 0)],[(3,(aa.cs CF).map .p),(6,[.p (eI CY.1),.p (eI CY.2.1),.p (eS CY.2.2.1),.p (eL ah CY.2.2.2.1),.p (eL eS CY.2.2.2.2)])]⟩) (λ CY hv=>?_) ?_
  ·have h0:=C9 _ hv;refine nx 2 Z (bd h0 λ Gk h1 h0=>?_);refine kN Gk (λ F4=>⟨[(4,.p (eB F4))],[]⟩) ?_ ?_
   ·exact nx 2 Z (mQ (oi h0) Z (sr))
   refine nx 3 Z (bd h1 λ E6 GA h1=>?_);refine oK (gH _ (aa.mk CY.1 CY.2.1 CY.2.2.1 CY.2.2.2.1 CY.2.2.2.2) CF _ GA) Z ⟨sr,sr,trivial⟩ Tryz.call29 Z (nx 1 Z ?_);refine fB [85,86] h1 Z (λ GE h1=>?_) λ GE h1=>?_
   ·refine bd h1 λ E5 Gz h1=>oK (dk _  _ Gz) Z trivial Tryz.call11 Z (nx 3 Z ?_);exact eX _ (oi h1).symm (gE Z Z)
   exact nx 4 Z (eX _ (oi h1).symm (gE Z Z))
  refine lG (λ (C0:Int×Int×Int×Bk×(List aa)×(List Bk))=>⟨[(3,.ptr 3 0),(5,.p (eL (eL ag) CG)),(6,.ptr 6 0),(7,.p (eI C0.1))],[(3,(aa.cs CF).map .p),(6,[.p (eI C0.2.1),.p (eI C0.2.2.1),.p (eS C0.2.2.2.1),.p (eL ah C0.2.2.2.2.1),.p (eL eS C0.2.2.2.2.2)])]⟩) (λ m (C0:Int×Int×Int×Bk×(List aa)×(List Bk))=>bF n CF CG m C0.1 C0.2.1 C0.2.2.1 C0.2.2.2.1 C0.2.2.2.2.1 C0.2.2.2.2.2) Y (0,a_0.AT,a_0.A',a_0.By,a_0.Ar,a_0.AI) h1 (gE rfl rfl) ?_;rintro m ⟨i58,Dc,Dh,Dg,Df,De⟩ h1;replace h1:bF n CF CG (m+1) i58 Dc Dh Dg Df De=some Fa:=h1;rw [bF] at h1;refine nx 5 rfl (oLl (f:=(eL ag)) rfl rfl ?_);refine nx 2 rfl (fD [29] h1 rfl (λ c64 h1=>?_) λ c64 h1=>?_)
  ·refine nx 10 rfl ?_;obtain ⟨E',h2,hL1,hR1⟩:=dl h1;refine kEx 2 (λ Ek:Unit=>E'=.inl Ek) (λ Ek=>⟨[(3,.ptr 3 0),(5,.p (eL (eL ag) CG)),(6,.ptr 6 0),(7,.p (eI i58))],[(3,(aa.cs CF).map .p),(6,[.p (eI Dc),.p (eI Dh),.p (eS Dg),.p (eL ah Df),.p (eL eS De)])]⟩) (λ Ek hv=>?_) ?_
   ·have h1:=hL1 _ hv;refine nx 2 Z (cc' h1 λ Fe h1=>?_);refine bd h1 λ CW Ht h1=>mG (gE (t:=⟨[(3,.ptr 3 0),(5,.p (eL (eL ag) CG)),(6,.ptr 6 0),(7,.p (eI i58))],[(3,(aa.cs CF).map .p),(6,[.p (eI Dc),.p (eI Dh),.p (eS Dg),.p (eL ah Df),.p (eL eS De)])]⟩) Z Z) (mS ⟨2,[9,10],(by3 (.some λ i=>Nat.beq i 9) .none .none),(λ _=>[(3,.ptr 3 0),(5,.p (eL (eL ag) CG)),(6,.ptr 6 0),(7,.p (eI i58))]),(by3 ([(3,[.p (eI CF.AT),.p (eI CF.A'),.p (eS CF.By),.p (eL ah CF.Ar),.p (eL eS CF.AI)]),(6,[.p (eI Dc),.p (eI Dh),.p (eS Dg),.p (eL ah Df),.p (eL eS De)])]) ([(9,[.p (eI 0),.p (eI 0),.p (eS ([]:Bk)),.p (.val (.slice none 0 0)),.p (.val (.slice none 0 0))]),(3,[.p (eI CF.AT),.p (eI CF.A'),.p (eS CF.By),.p (eL ah CF.Ar),.p (eL eS CF.AI)]),(6,[.p (eI Dc),.p (eI Dh),.p (eS Dg),.p (eL ah Df),.p (eL eS De)])]) ([(9,[.p (eI CW.1.AT),.p (eI CW.1.A'),.p (eS CW.1.By),.p (eL ah CW.1.Ar),.p (eL eS CW.1.AI)]),(9,[.p (eI 0),.p (eI 0),.p (eS ([]:Bk)),.p (.val (.slice none 0 0)),.p (.val (.slice none 0 0))]),(3,[.p (eI CF.AT),.p (eI CF.A'),.p (eS CF.By),.p (eL ah CF.Ar),.p (eL eS CF.AI)]),(6,[.p (eI Dc),.p (eI Dh),.p (eS Dg),.p (eL ah Df),.p (eL eS De)])]))⟩ Z Z Z ⟨Z,Z,Z,Z,trivial⟩ (lt2 ⟨Z,Z,Z,Z,trivial⟩ ⟨Z,Z,Z,Z,trivial⟩) Z Z Z Z ?_);refine al (λ _=>.p (.agg (aa.cs CF))) Z Z Z (bj Z Z Y) (lt2 Z Z) (aj Z (af [(3,_)] ⟨.inl Z,trivial⟩ (λ sl Cy K hK=>ae Z (aN Z Z Z Z Z (Cy _ _ Z) Z Z Z hK)) (af [(3,_)] ⟨.inl Z,trivial⟩ (λ sl Cy K hK=>ae Z (aN Z Z Z Z Z (Cy _ _ Z) Z Z Z hK)) ak))) (al (λ _=>.p (eL (eL ag) CG)) Z Z Z (bj Z Z Y) (lt2 Z Z) (aj Z (af [(5,_)] ⟨.inl Z,trivial⟩ (λ sl Cy K hK=>ae Z (aA Z Z Z (Cy _ _ Z) hK)) (af [(5,_)] ⟨.inl Z,trivial⟩ (λ sl Cy K hK=>ae Z (aA Z Z Z (Cy _ _ Z) hK)) ak))) ?_);refine al (λ _=>.p (eI i58)) Z Z Z (bj Z Z Y) (lt2 Z Z) (aj Z (af [(7,_)] ⟨.inl Z,trivial⟩ (λ sl Cy K hK=>ae Z (aA Z Z Z (Cy _ _ Z) hK)) (af [(7,_)] ⟨.inl Z,trivial⟩ (λ sl Cy K hK=>ae Z (aA Z Z Z (Cy _ _ Z) hK)) ak))) (al (λ _=>.rptr [(eL ag) (lat CG i58)]) Z Z Z (bj Z Z Y) (lt2 Z Z) (aj Z (af [(59,_),(60,_)] ⟨.inr ⟨1,_,Z,Z,Z⟩,.inr ⟨2,_,Z,Z,Z⟩,trivial⟩ (λ sl Cy K hK=>ae Z (cO (f:=(eL ag)) (l:=CG) (λ x=>[(eL ag) x]) Z Z Z Z Z Z (Cy _ _ Z) Z (Cy _ _ Z) Fe Y Y hK)) (af [(59,_),(60,_)] ⟨.inr ⟨1,_,Z,Z,Z⟩,.inr ⟨2,_,Z,Z,Z⟩,trivial⟩ (λ sl Cy K hK=>ae Z (cO (f:=(eL ag)) (l:=CG) (λ x=>[(eL ag) x]) Z Z Z Z Z Z (Cy _ _ Z) Z (Cy _ _ Z) Fe Y Y hK)) ak))) ?_);refine al (λ _=>.p (eL ag (lat CG i58))) Z Z Z (bj Z Z Y) (lt2 Z Z) (aj Z (af [(61,_)] ⟨.inr ⟨3,_,Z,Z,Z⟩,trivial⟩ (λ sl Cy K hK=>ae Z (fF Z Z Z Z Z (Cy _ _ Z) Z hK)) (af [(61,_)] ⟨.inr ⟨3,_,Z,Z,Z⟩,trivial⟩ (λ sl Cy K hK=>ae Z (fF Z Z Z Z Z (Cy _ _ Z) Z hK)) ak))) (al (λ _=>.tuple [.p (.agg (aa.cs CW.1)),.p (eI CW.2)]) Z Z Z (bj Z Z Y) (lt2 Z Z) (aj Z (af [(58,_),(62,_)] ⟨.inr ⟨0,_,Z,Z,Z⟩,.inr ⟨4,_,Z,Z,Z⟩,trivial⟩ (λ sl Cy K hK=>ae Z (aY (dD _ CF (lat CG i58) _ Ht) Z Z Z (am (Cy _ _ Z) (am (Cy _ _ Z) aM)) ⟨sr,sr,trivial⟩ Tryz.call18 Z hK)) (af [(58,_),(62,_)] ⟨.inr ⟨0,_,Z,Z,Z⟩,.inr ⟨4,_,Z,Z,Z⟩,trivial⟩ (λ sl Cy K hK=>ae Z (aY (dD _ CF (lat CG i58) _ Ht) Z Z Z (am (Cy _ _ Z) (am (Cy _ _ Z) aM)) ⟨sr,sr,trivial⟩ Tryz.call18 Z hK)) ak))) ?_);refine al (λ _=>.tuple [.p (.agg (aa.cs CW.1)),.p (eI CW.2)]) Z Z Z (bj Z Z Y) (lt2 Z Z) (aj Z (af [(63,_)] ⟨.inr ⟨5,_,Z,Z,Z⟩,trivial⟩ (λ sl Cy K hK=>ae Z (aA Z Z Z (Cy _ _ Z) hK)) (af [(63,_)] ⟨.inr ⟨5,_,Z,Z,Z⟩,trivial⟩ (λ sl Cy K hK=>ae Z (aA Z Z Z (Cy _ _ Z) hK)) ak))) (al (λ _=>.p (.agg (aa.cs CW.1))) Z Z Z (bj Z Z Y) (lt2 Z Z) (aj Z (af [(57,_)] ⟨.inr ⟨6,_,Z,Z,Z⟩,trivial⟩ (λ sl Cy K hK=>ae Z (aF Z Z Z (Cy _ _ Z) Z hK)) (af [(57,_)] ⟨.inr ⟨6,_,Z,Z,Z⟩,trivial⟩ (λ sl Cy K hK=>ae Z (aF Z Z Z (Cy _ _ Z) Z hK)) ak))) ?_);refine al (λ _=>.p (eI CW.2)) Z Z Z (bj Z Z Y) (lt2 Z Z) (af [(57,_)] ⟨.inr ⟨6,_,Z,Z,Z⟩,trivial⟩ (λ sl Cy K hK=>ae Z (aF Z Z Z (Cy _ _ Z) Z hK)) (af [(57,_)] ⟨.inr ⟨6,_,Z,Z,Z⟩,trivial⟩ (λ sl Cy K hK=>ae Z (aF Z Z Z (Cy _ _ Z) Z hK)) (af [(57,_)] ⟨.inr ⟨6,_,Z,Z,Z⟩,trivial⟩ (λ sl Cy K hK=>ae Z (aF Z Z Z (Cy _ _ Z) Z hK)) ak))) (cQ (λ _=>.ptr 9 0) [] Z trivial Z Z (Go.Ab.bK Z Y) (lt2 (λ h=>absurd h (by decide)) Y) (λ sl Cy K hK=>ae Z (eG Z Z Z Z Z hK)) ?_);refine ct [(9,_),(64,_)] Z ⟨.inr ⟨9,_,Z,Z,Z⟩,.inr ⟨7,_,Z,Z,Z⟩,trivial⟩ Z (λ sl Cy K hK=>ae Z (cv Z Z Z (Cy _ _ Z) (Cy _ _ Z) Z Z Z (ph Z) hK)) (al (λ _=>.p (eI CW.2)) Z Z Z (bj Z Z Y) (lt2 Z Z) (af [(65,_)] ⟨.inr ⟨8,_,Z,Z,Z⟩,trivial⟩ (λ sl Cy K hK=>ae Z (bq Z Z Z (Cy _ _ Z) hK)) (aj Z (aj Z ak))) ?_);refine eY (nx 2 Z ?_);refine cc' h1 λ Fc h1=>bd h1 λ C3 Hs h1=>mG (gE (t:=⟨[(3,.ptr 3 0),(5,.p (eL (eL ag) CG)),(6,.ptr 6 0),(7,.p (eI i58)),(9,.ptr 9 0),(10,.p (eI CW.2))],[(3,(aa.cs CF).map .p),(6,[.p (eI Dc),.p (eI Dh),.p (eS Dg),.p (eL ah Df),.p (eL eS De)]),(9,(aa.cs CW.1).map .p)]⟩) Z Z) (mS ⟨2,[10,11],(by3 (.some λ i=>Nat.beq i 11) .none .none),(λ _=>[(3,.ptr 3 0),(5,.p (eL (eL ag) CG)),(6,.ptr 6 0),(7,.p (eI i58)),(9,.ptr 9 0),(10,.p (eI CW.2))]),(by3 ([(3,[.p (eI CF.AT),.p (eI CF.A'),.p (eS CF.By),.p (eL ah CF.Ar),.p (eL eS CF.AI)]),(6,[.p (eI Dc),.p (eI Dh),.p (eS Dg),.p (eL ah Df),.p (eL eS De)]),(9,[.p (eI CW.1.AT),.p (eI CW.1.A'),.p (eS CW.1.By),.p (eL ah CW.1.Ar),.p (eL eS CW.1.AI)])]) ([(11,[.p (eI 0),.p (eI 0),.p (eS ([]:Bk)),.p (.val (.slice none 0 0)),.p (.val (.slice none 0 0))]),(3,[.p (eI CF.AT),.p (eI CF.A'),.p (eS CF.By),.p (eL ah CF.Ar),.p (eL eS CF.AI)]),(6,[.p (eI Dc),.p (eI Dh),.p (eS Dg),.p (eL ah Df),.p (eL eS De)]),(9,[.p (eI CW.1.AT),.p (eI CW.1.A'),.p (eS CW.1.By),.p (eL ah CW.1.Ar),.p (eL eS CW.1.AI)])]) ([(11,[.p (eI C3.1.AT),.p (eI C3.1.A'),.p (eS C3.1.By),.p (eL ah C3.1.Ar),.p (eL eS C3.1.AI)]),(11,[.p (eI 0),.p (eI 0),.p (eS ([]:Bk)),.p (.val (.slice none 0 0)),.p (.val (.slice none 0 0))]),(3,[.p (eI CF.AT),.p (eI CF.A'),.p (eS CF.By),.p (eL ah CF.Ar),.p (eL eS CF.AI)]),(6,[.p (eI Dc),.p (eI Dh),.p (eS Dg),.p (eL ah Df),.p (eL eS De)]),(9,[.p (eI CW.1.AT),.p (eI CW.1.A'),.p (eS CW.1.By),.p (eL ah CW.1.Ar),.p (eL eS CW.1.AI)])]))⟩ Z Z Z ⟨Z,Z,Z,Z,Z,Z,trivial⟩ (lt2 ⟨Z,Z,Z,Z,Z,Z,trivial⟩ ⟨Z,Z,Z,Z,Z,Z,trivial⟩) Z Z Z Z ?_);refine al (λ _=>.p (.agg [eI Dc,eI Dh,eS Dg,eL ah Df,eL eS De])) Z Z Z (bj Z Z Y) (lt2 Z Z) (aj Z (af [(6,_)] ⟨.inl Z,trivial⟩ (λ sl Cy K hK=>ae Z (aN Z Z Z Z Z (Cy _ _ Z) Z Z Z hK)) (af [(6,_)] ⟨.inl Z,trivial⟩ (λ sl Cy K hK=>ae Z (aN Z Z Z Z Z (Cy _ _ Z) Z Z Z hK)) ak))) (al (λ _=>.p (eL (eL ag) CG)) Z Z Z (bj Z Z Y) (lt2 Z Z) (aj Z (af [(5,_)] ⟨.inl Z,trivial⟩ (λ sl Cy K hK=>ae Z (aA Z Z Z (Cy _ _ Z) hK)) (af [(5,_)] ⟨.inl Z,trivial⟩ (λ sl Cy K hK=>ae Z (aA Z Z Z (Cy _ _ Z) hK)) ak))) ?_);refine al (λ _=>.p (eI i58)) Z Z Z (bj Z Z Y) (lt2 Z Z) (aj Z (af [(7,_)] ⟨.inl Z,trivial⟩ (λ sl Cy K hK=>ae Z (aA Z Z Z (Cy _ _ Z) hK)) (af [(7,_)] ⟨.inl Z,trivial⟩ (λ sl Cy K hK=>ae Z (aA Z Z Z (Cy _ _ Z) hK)) ak))) (al (λ _=>.rptr [(eL ag) (lat CG i58)]) Z Z Z (bj Z Z Y) (lt2 Z Z) (aj Z (af [(68,_),(69,_)] ⟨.inr ⟨1,_,Z,Z,Z⟩,.inr ⟨2,_,Z,Z,Z⟩,trivial⟩ (λ sl Cy K hK=>ae Z (cO (f:=(eL ag)) (l:=CG) (λ x=>[(eL ag) x]) Z Z Z Z Z Z (Cy _ _ Z) Z (Cy _ _ Z) Fc Y Y hK)) (af [(68,_),(69,_)] ⟨.inr ⟨1,_,Z,Z,Z⟩,.inr ⟨2,_,Z,Z,Z⟩,trivial⟩ (λ sl Cy K hK=>ae Z (cO (f:=(eL ag)) (l:=CG) (λ x=>[(eL ag) x]) Z Z Z Z Z Z (Cy _ _ Z) Z (Cy _ _ Z) Fc Y Y hK)) ak))) ?_);refine al (λ _=>.p (eL ag (lat CG i58))) Z Z Z (bj Z Z Y) (lt2 Z Z) (aj Z (af [(70,_)] ⟨.inr ⟨3,_,Z,Z,Z⟩,trivial⟩ (λ sl Cy K hK=>ae Z (fF Z Z Z Z Z (Cy _ _ Z) Z hK)) (af [(70,_)] ⟨.inr ⟨3,_,Z,Z,Z⟩,trivial⟩ (λ sl Cy K hK=>ae Z (fF Z Z Z Z Z (Cy _ _ Z) Z hK)) ak))) (al (λ _=>.p (.agg (aa.cs CW.1))) Z Z Z (bj Z Z Y) (lt2 Z Z) (aj Z (af [(9,_)] ⟨.inl Z,trivial⟩ (λ sl Cy K hK=>ae Z (aN Z Z Z Z Z (Cy _ _ Z) Z Z Z hK)) (af [(9,_)] ⟨.inl Z,trivial⟩ (λ sl Cy K hK=>ae Z (aN Z Z Z Z Z (Cy _ _ Z) Z Z Z hK)) ak))) ?_);refine al (λ _=>.tuple [.p (.agg (aa.cs C3.1)),.p (eI C3.2)]) Z Z Z (bj Z Z Y) (lt2 Z Z) (aj Z (af [(67,_),(71,_),(72,_)] ⟨.inr ⟨0,_,Z,Z,Z⟩,.inr ⟨4,_,Z,Z,Z⟩,.inr ⟨5,_,Z,Z,Z⟩,trivial⟩ (λ sl Cy K hK=>ae Z (aY (gq _ (aa.mk Dc Dh Dg Df De) (lat CG i58) CW.1 _ Hs) Z Z Z (am (Cy _ _ Z) (am (Cy _ _ Z) (am (Cy _ _ Z) aM))) ⟨sr,sr,sr,trivial⟩ Tryz.call20 Z hK)) (af [(67,_),(71,_),(72,_)] ⟨.inr ⟨0,_,Z,Z,Z⟩,.inr ⟨4,_,Z,Z,Z⟩,.inr ⟨5,_,Z,Z,Z⟩,trivial⟩ (λ sl Cy K hK=>ae Z (aY (gq _ (aa.mk Dc Dh Dg Df De) (lat CG i58) CW.1 _ Hs) Z Z Z (am (Cy _ _ Z) (am (Cy _ _ Z) (am (Cy _ _ Z) aM))) ⟨sr,sr,sr,trivial⟩ Tryz.call20 Z hK)) ak))) (al (λ _=>.tuple [.p (.agg (aa.cs C3.1)),.p (eI C3.2)]) Z Z Z (bj Z Z Y) (lt2 Z Z) (aj Z (af [(73,_)] ⟨.inr ⟨6,_,Z,Z,Z⟩,trivial⟩ (λ sl Cy K hK=>ae Z (aA Z Z Z (Cy _ _ Z) hK)) (af [(73,_)] ⟨.inr ⟨6,_,Z,Z,Z⟩,trivial⟩ (λ sl Cy K hK=>ae Z (aA Z Z Z (Cy _ _ Z) hK)) ak))) ?_);refine al (λ _=>.p (.agg (aa.cs C3.1))) Z Z Z (bj Z Z Y) (lt2 Z Z) (aj Z (af [(66,_)] ⟨.inr ⟨7,_,Z,Z,Z⟩,trivial⟩ (λ sl Cy K hK=>ae Z (aF Z Z Z (Cy _ _ Z) Z hK)) (af [(66,_)] ⟨.inr ⟨7,_,Z,Z,Z⟩,trivial⟩ (λ sl Cy K hK=>ae Z (aF Z Z Z (Cy _ _ Z) Z hK)) ak))) (al (λ _=>.p (eI C3.2)) Z Z Z (bj Z Z Y) (lt2 Z Z) (af [(66,_)] ⟨.inr ⟨7,_,Z,Z,Z⟩,trivial⟩ (λ sl Cy K hK=>ae Z (aF Z Z Z (Cy _ _ Z) Z hK)) (af [(66,_)] ⟨.inr ⟨7,_,Z,Z,Z⟩,trivial⟩ (λ sl Cy K hK=>ae Z (aF Z Z Z (Cy _ _ Z) Z hK)) (af [(66,_)] ⟨.inr ⟨7,_,Z,Z,Z⟩,trivial⟩ (λ sl Cy K hK=>ae Z (aF Z Z Z (Cy _ _ Z) Z hK)) ak))) ?_);refine cQ (λ _=>.ptr 11 0) [] Z trivial Z Z (Go.Ab.bK Z Y) (lt2 (λ h=>absurd h (by decide)) Y) (λ sl Cy K hK=>ae Z (eG Z Z Z Z Z hK)) (ct [(11,_),(74,_)] Z ⟨.inr ⟨10,_,Z,Z,Z⟩,.inr ⟨8,_,Z,Z,Z⟩,trivial⟩ Z (λ sl Cy K hK=>ae Z (cv Z Z Z (Cy _ _ Z) (Cy _ _ Z) Z Z Z (ph Z) hK)) ?_);refine al (λ _=>.p (eI C3.2)) Z Z Z (bj Z Z Y) (lt2 Z Z) (af [(75,_)] ⟨.inr ⟨9,_,Z,Z,Z⟩,trivial⟩ (λ sl Cy K hK=>ae Z (bq Z Z Z (Cy _ _ Z) hK)) (aj Z (aj Z ak))) (eY ?_);refine nx 3 Z (bd h1 λ Gj h2 h1=>?_);refine kN Gj (λ F3=>⟨[(3,.ptr 3 0),(5,.p (eL (eL ag) CG)),(6,.ptr 6 0),(7,.p (eI i58)),(11,.ptr 11 0),(81,.p (eB F3))],[(3,(aa.cs CF).map .p),(6,[.p (eI Dc),.p (eI Dh),.p (eS Dg),.p (eL ah Df),.p (eL eS De)]),(11,(aa.cs C3.1).map .p)]⟩) ?_ ?_
    ·refine nx 1 Z (fB [81] h1 Z (λ GF h1=>?_) λ GF h1=>?_)
     ·exact nx 6 Z (mQ (hR0 _ (oi h1).symm) Z (sr))
     refine nx 8 Z (oA h1 Z Z λ Hr h1=>?_);exact nx 2 Z (eX (i58+1,C3.1.AT,C3.1.A',C3.1.By,C3.1.Ar,C3.1.AI) h1 (gE Z Z))
    refine nx 4 Z (fN [77,78] h2 Z (λ GG h2=>?_) λ GG h2=>?_)
    ·exact nx 4 Z (eX _ (oi h2).symm (gE Z Z))
    exact nx 4 Z (eX _ (oi h2).symm (gE Z Z))
   refine lG (λ (Em:Int)=>⟨[(3,.ptr 3 0),(5,.p (eL (eL ag) CG)),(6,.ptr 6 0),(7,.p (eI i58)),(8,.p (eI Em))],[(3,(aa.cs CF).map .p),(6,[.p (eI Dc),.p (eI Dh),.p (eS Dg),.p (eL ah Df),.p (eL eS De)])]⟩) (λ m (Em:Int)=>bE n CG i58 m Em) Y 0 h2 (gE rfl rfl) ?_;rintro m k79 h2;replace h2:bE n CG i58 (m+1) k79=some E':=h2;rw [bE] at h2;refine nx 7 rfl (fD [34] h2 rfl (λ c80 h2=>?_) λ c80 h2=>?_)
   ·refine nx 5 Z (bd h2 λ Gi h3 h2=>?_);refine kN Gi (λ F2=>⟨[(3,.ptr 3 0),(5,.p (eL (eL ag) CG)),(6,.ptr 6 0),(7,.p (eI i58)),(8,.p (eI k79)),(56,.p (eB F2))],[(3,(aa.cs CF).map .p),(6,[.p (eI Dc),.p (eI Dh),.p (eS Dg),.p (eL ah Df),.p (eL eS De)])]⟩) ?_ ?_
    ·refine nx 1 Z (fB [56] h2 Z (λ c91 h2=>?_) λ c91 h2=>?_)
     ·exact nx 6 Z (mQ (hR0 _ (hR1 _ (oi h2).symm).symm) Z (sr))
     refine nx 4 Z (oA h2 Z Z λ hk92 h2=>?_);exact nx 2 Z (eX (k79+1) h2 (gE Z Z))
    refine cc' h3 λ Fg h3=>cc' h3 λ Ff h3=>bd h3 λ E3 Hu h3=>fB (p:=E3) [] h3 Z (λ c85 h3=>?_) λ c85 h3=>?_
    ·refine mD [(3,.ptr 3 0),(5,.p (eL (eL ag) CG)),(6,.ptr 6 0),(7,.p (eI i58)),(8,.p (eI k79))] Z ⟨Z,Z,Z,Z,Z,trivial⟩ Z (dR 2 Z ?_);refine dq (.rptr [(eL ag) (lat CG i58)]) [37,38] Z (λ _ e _ q=>ae Z (cO (f:=(eL ag)) (l:=CG) (λ x=>[(eL ag) x]) Z Z Z Z Z Z (e _ _ Z) Z (e _ _ Z) Fg Y Y q)) Z (dR 3 Z ?_);refine dq (.rptr [(eL ag) (lat CG k79)]) [41,42] Z (λ _ e _ q=>ae Z (cO (f:=(eL ag)) (l:=CG) (λ x=>[(eL ag) x]) Z Z Z Z Z Z (e _ _ Z) Z (e _ _ Z) Ff Y Y q)) Z (dR 1 Z ?_);refine dq (.p (eB E3)) [40,44] Z (λ _ e _ q=>ae Z (aY (eM _ (lat CG i58) (lat CG k79) _ Hu) Z Z Z (am (e _ _ Z) (am (e _ _ Z) aM)) ⟨sr,sr,trivial⟩ Tryz.call30 Z q)) Z (dL (c85) Z ?_);refine dR 10 Z (dE Z ?_);exact nx 1 Z (eX _ (oi h3).symm (gE Z Z))
    refine cc' h3 λ Gn h3=>cc' h3 λ Gm h3=>bd h3 λ F' e89 h3=>mD [(3,.ptr 3 0),(5,.p (eL (eL ag) CG)),(6,.ptr 6 0),(7,.p (eI i58)),(8,.p (eI k79))] Z ⟨Z,Z,Z,Z,Z,trivial⟩ Z (dR 2 Z ?_);refine dq (.rptr [(eL ag) (lat CG i58)]) [37,38] Z (λ _ e _ q=>ae Z (cO (f:=(eL ag)) (l:=CG) (λ x=>[(eL ag) x]) Z Z Z Z Z Z (e _ _ Z) Z (e _ _ Z) Fg Y Y q)) Z (dR 3 Z ?_);refine dq (.rptr [(eL ag) (lat CG k79)]) [41,42] Z (λ _ e _ q=>ae Z (cO (f:=(eL ag)) (l:=CG) (λ x=>[(eL ag) x]) Z Z Z Z Z Z (e _ _ Z) Z (e _ _ Z) Ff Y Y q)) Z (dR 1 Z ?_);refine dq (.p (eB E3)) [40,44] Z (λ _ e _ q=>ae Z (aY (eM _ (lat CG i58) (lat CG k79) _ Hu) Z Z Z (am (e _ _ Z) (am (e _ _ Z) aM)) ⟨sr,sr,trivial⟩ Tryz.call30 Z q)) Z (dL (c85) Z ?_);refine dR 2 Z (dq (.rptr [(eL ag) (lat CG k79)]) [46,47,48] Z (λ _ e _ q=>jq (cO (f:=(eL ag)) (l:=CG) (λ x=>[(eL ag) x]) Z Z Z Z Z Z (e _ _ Z) Z (e _ _ Z) Gn Y Y q) Z Z (e _ _ Z) (rfl)) Z ?_);refine dR 3 Z (dq (.rptr [(eL ag) (lat CG i58)]) [46,51,52] Z (λ _ e _ q=>jq (cO (f:=(eL ag)) (l:=CG) (λ x=>[(eL ag) x]) Z Z Z Z Z Z (e _ _ Z) Z (e _ _ Z) Gm Y Y q) Z Z (e _ _ Z) (rfl)) Z ?_);refine dR 1 Z (dq (.p (eB F')) [46,50,54] Z (λ _ e _ q=>jq (aY (eM _ (lat CG k79) (lat CG i58) _ e89) Z Z Z (am (e _ _ Z) (am (e _ _ Z) aM)) ⟨sr,sr,trivial⟩ Tryz.call30 Z q) Z Z (e _ _ Z) (rfl)) Z ?_);refine dR 1 Z (dE Z ?_);exact nx 1 Z (eX _ (oi h3).symm (gE Z Z))
   exact nx 2 Z (eXi _ (oi h2).symm (gE Z Z))
  exact nx 2 Z (eXi _ (oi h1).symm (gE Z Z))
 refine nx 2 Z (bd h1 λ r1 e2 h1=>?_);refine oK (eh _ a_0 _ e2) Z ⟨sr,trivial⟩ Tryz.call15 Z (nx 2 Z ?_);refine fB [15,16] h1 Z (λ c3 h1=>?_) λ c3 h1=>?_
 ·exact nx 5 Z (eX _ (oi h1).symm (gE Z Z))
 refine nx 1 Z (bd h1 λ r4 e5 h1=>?_);refine oK (eh _ CF _ e5) Z ⟨sr,trivial⟩ Tryz.call15 Z (nx 3 Z ?_);exact eX _ (oi h1).symm (gE Z Z)
-- LACKING provision/provisionlaw08.PathGets: it calls provision/provisionref08.Set
end Go.Ab.R06
end
section
namespace Go.Ab.R06
open Go.Ab Go.Ab.RB Go.Lib
theorem pS:∀ {a b:List Bk},bK eqS a b=true->a=b
 | [],[],_=>rfl
 | [],_::_,h=>by simp [bK] at h
 | _::_,[],h=>by simp [bK] at h
 | x::r,y::q,h=>by
  simp only [bK,n7,eqS,decide_eq_true_eq] at h;rw [h.1,pS h.2]
theorem qU {p:aa->aa->Bool}:∀ {a b:List aa},(∀ x∈a,∀ y,p x y=true->x=y)->bK p a b=true->a=b
 | [],[],_,_=>rfl
 | [],_::_,_,h=>by simp [bK] at h
 | _::_,[],_,h=>by simp [bK] at h
 | x::r,y::q,hp,h=>by
  simp only [bK,n7] at h;rw [hp x G y h.1,qU (λ z hz=>hp z (List.mem_cons_of_mem _ hz)) h.2]
theorem yD {a:aa}(ha:aa.Bd a):∀ b,eqV a b=true->a=b:=by
 induction ha with
 | @mk x bKind bNum bStr bItems eItems bKeys eKeys ih=>
  intro b h;rw [rA] at h;simp only [n7,decide_eq_true_eq,eqS] at h;obtain ⟨⟨⟨⟨h1,h2⟩,h3⟩,h4⟩,h5⟩:=h;have e:=qU ih h5;have e4:=pS (a:=x.AI) (b:=b.AI) h4;rw [<- aa.eta x,<- aa.eta b,h1,h2,h3,e,e4]
theorem iP {a b:aa}(h:pM a b=true):a.AT=b.AT/\(a.AT=4\/a.AT=5)/\a.Ar.length=b.Ar.length/\a.AI=b.AI:=by
 simp only [pM,n7,Bool.or_eq_true,decide_eq_true_eq] at h;exact ⟨h.1.1.1,h.1.1.2,h.1.2,pS h.2⟩
inductive iw:aa->Nat->Prop where
 | mk {v:aa} {lv:Nat} (h:iA v=0) (hl:lv<=32) (hi:∀ x∈v.Ar,iw x (lv+1)):iw v lv
theorem iw.nd {v:aa}{lv:Nat}(h:iw v lv):iA v=0:=by cases h; assumption
theorem iw.le {v:aa}{lv:Nat}(h:iw v lv):lv<=32:=by cases h; assumption
theorem iw.it {v:aa}{lv:Nat}(h:iw v lv):∀ x∈v.Ar,iw x (lv+1):=by cases h; assumption
theorem yG {v:aa}{lv:Nat}(h:iw v lv):∀ c,c+bZ v<=4096->gn v lv c=(0,c+bZ v):=by
 induction h with
 | @mk v lv h hl hi ih=>
  intro c hc;rw [bR] at hc ⊢
  have loop:∀ (l:List aa),(∀ x∈l,x∈v.Ar)->∀ c,c+bw l<=4096->gV l (lv+1) c=(0,c+bw l):=by
   intro l
   induction l with
   | nil=>intro _ c _; simp only [gV,bw,Nat.add_zero]
   | cons x r ihl=>
    intro hm c hc;simp only [bw] at hc ⊢;have e:=ih x (hm x List.mem_cons_self) c O;simp only [gV];rw [e];simp only [ne_eq,not_true_eq_false,if_false];rw [ihl (λ y hy=>hm y (List.mem_cons_of_mem _ hy)) _ O];congr 1; omega
  rw [oG,if_neg O,if_neg O,if_neg (by simpa using h),loop v.Ar (λ x hx=>hx) _ O];congr 1; omega
theorem yk {v:aa}(hb:aa.Bd v):∀ (lv c:Nat),(gn v lv c).1=0->iw v lv:=by
 induction hb with
 | @mk x bKind bNum bStr bItems eItems bKeys eKeys ih=>
  intro lv c h;obtain ⟨h0,_,h1,h2⟩:=rb h;exact .mk h1 h0 λ y hy=>by obtain ⟨c',h3⟩:=oX h2 hy; exact ih y hy _ c' h3
theorem w3 (a:aa){l:List aa}(hl:l.length=a.Ar.length):iA (aa.mk a.AT a.A' a.By l a.AI)=iA a:=by
 have e:shB (aa.mk a.AT a.A' a.By l a.AI)=shB a:=by
  unfold shB;simp only [oo,ek,oH,hl]
  rfl
 unfold iA;rw [e]
 rfl
inductive Mix:aa->aa->aa->Prop where
 | left (a b:aa):Mix a b a
 | right (a b:aa):Mix a b b
 | node {a b:aa} (h:pM a b=true) (l:List aa) (hl:l.length=a.Ar.length) (hm:∀ (i:Nat) y z x,a.Ar[i]? = some y->b.Ar[i]? = some z->l[i]? = some x->Mix y z x):Mix a b (aa.mk a.AT a.A' a.By l a.AI)
theorem three {l la lb:List aa}(h1:l.length=la.length)(h2:la.length=lb.length){x:aa}(hx:x∈l):∃ (i:Nat) (y z:aa),l[i]? = some x/\la[i]? = some y/\lb[i]? = some z:=by
 obtain ⟨i,hi,rfl⟩:=List.getElem_of_mem hx;exact ⟨i,la[i],lb[i],List.getElem?_eq_getElem hi,List.getElem?_eq_getElem O,List.getElem?_eq_getElem O⟩
theorem zd {a b v:aa}(h:Mix a b v):∀ lv,iw a lv->iw b lv->iw v lv:=by
 induction h with
 | left=>intro lv ha _; exact ha
 | right=>intro lv _ hb; exact hb
 | @node a b h l hl hm ih=>
  intro lv ha hb;refine .mk (by rw [w3 a hl]; exact ha.nd) ha.le λ x hx=>?_;obtain ⟨i,y,z,e1,e2,e3⟩:=three hl (iP h).2.2.1 hx;exact ih i y z x e2 e3 e1 (lv+1) (ha.it _ (List.mem_of_getElem? e2)) (hb.it _ (List.mem_of_getElem? e3))
theorem sum3:∀ {l la lb:List aa},l.length=la.length->la.length=lb.length->(∀ (i:Nat) y z x,la[i]? = some y->lb[i]? = some z->l[i]? = some x->bZ x<=bZ y+bZ z)->bw l<=bw la+bw lb
 | [],_,_,_,_,_=>by simp only [bw]; omega
 | x::l,[],_,h,_,_=>by simp at h
 | x::l,y::la,[],_,h,_=>by simp at h
 | x::l,y::la,z::lb,h1,h2,hp=>by
  have e:=hp 0 y z x Z Z Z;have e2:=sum3 (l:=l) (la:=la) (lb:=lb) (by simpa using h1) (by simpa using h2) (λ i y z x a b c=>hp (i+1) y z x (by simpa using a) (by simpa using b) (by simpa using c));simp only [bw]; omega
theorem xM {a b v:aa}(h:Mix a b v):bZ v<=bZ a+bZ b:=by
 induction h with
 | left=>omega
 | right=>omega
 | @node a b h l hl hm ih=>
  have:=sum3 hl (iP h).2.2.1 ih;rw [bR,bR a,bR b,ek];omega
theorem Bw {a b v:aa}(h:Mix a b v):aa.Bd a->aa.Bd b->aa.Bd v:=by
 induction h with
 | left=>intro ha _; exact ha
 | right=>intro _ hb; exact hb
 | @node a b h l hl hm ih=>
  intro ha hb;refine .mk ha.bKind ha.bNum ha.bStr (by rw [ek,hl]; exact ha.bItems) (λ x hx=>?_) ha.bKeys ha.eKeys;obtain ⟨i,y,z,e1,e2,e3⟩:=three hl (iP h).2.2.1 hx;exact ih i y z x e2 e3 e1 (ha.eItems _ (List.mem_of_getElem? e2)) (hb.eItems _ (List.mem_of_getElem? e3))
inductive Steps (M:aa->Prop)(b:aa):List (List ac)->aa->aa->Prop where
 | nil (v:aa):Steps M b [] v v
 | cons {P:List ac} {L:List (List ac)} {v w u:aa} (hg:(dm P b).2=0) (h:gg (dm P b).1 P v=(w,0)) (hm:M w) (r:Steps M b L w u):Steps M b (P::L) v u
theorem Steps.append {M:aa->Prop}{b:aa}{L L':List (List ac)}{v w u:aa}(h:Steps M b L v w)(k:Steps M b L' w u):Steps M b (L++L') v u:=by
 induction h with
 | nil=>exact k
 | cons hg h hm r ih=>exact .cons hg h hm (ih k)
theorem yl {v:aa}(hv:GV v)(hb:aa.Bd v){i:Nat}(hi:i<v.Ar.length):dM v (gL v.AT v.AI i)=((i:Int),0):=by
 have hk:=hb.bKeys;unfold ec at hk;exact (yb (pW hv.node O _) (Ap hv.node O hi)).symm
theorem uE {x y v:aa}{s:ac}{p:List ac}{i:Nat}(e:dM v s=((i:Int),0))(hy:gg x p (lat v.Ar (i:Int))=(y,0)):gg x (s::p) v=(aa.mk v.AT v.A' v.By (v.Ar.set i y) v.AI,0):=by
 simp [gg,e,hy]
theorem lift {M M':aa->Prop}{a b c:aa}{i:Nat}{s:ac}(hf:dM a s=((i:Int),0))(hg:dM b s=((i:Int),0))(hc:lat b.Ar (i:Int)=c){L:List (List ac)}{x u:aa}(h:Steps M' c L x u) :
  ∀ l:List aa,l.length=a.Ar.length->l[i]? = some x->(∀ w,M' w->M (aa.mk a.AT a.A' a.By (l.set i w) a.AI)) ->
   Steps M b (L.map (s::·)) (aa.mk a.AT a.A' a.By l a.AI) (aa.mk a.AT a.A' a.By (l.set i u) a.AI):=by
 induction h with
 | nil v=>
  intro l hl hx hM;have hi:i<l.length:=(List.getElem?_eq_some_iff.1 hx).1
  have e:l.set i v=l:=by
   have:l[i]=v:=(List.getElem?_eq_some_iff.1 hx).2;rw [<- this]; exact tP l i hi
  rw [e];exact .nil _
 | @cons P L v w u hg2 h hm r ih=>
  intro l hl hx hM;have hi:i<l.length:=(List.getElem?_eq_some_iff.1 hx).1
  have e1:dm (s::P) b=dm P c:=by
   simp only [dm];rw [hg,if_pos rfl,hc]
  have e2:lat l (i:Int)=v:=by rw [cY _ _ hi]; exact (List.getElem?_eq_some_iff.1 hx).2
  refine .cons (w:=aa.mk a.AT a.A' a.By (l.set i w) a.AI) (by rw [e1]; exact hg2) ?_ (hM w hm) ?_
  ·rw [e1];exact uE (v:=aa.mk a.AT a.A' a.By l a.AI) (by rw [nu a l hl s,hf]) (by rw [ek,e2]; exact h)
  ·have:=ih (l.set i w) (by rw [List.length_set]; exact hl) (by rw [List.getElem?_set_self hi]) (λ w' hw'=>by rw [List.set_set]; exact hM w' hw');rw [List.set_set] at this;exact this
theorem sK:∀ (N:Nat) (a b:aa) (p:List ac),bZ a<=N->dfs a b p=(dfs a b []).map (p++·)
 | 0,a,b,p,h=>absurd h (by rw [bR]; omega)
 | N+1,a,b,p,h=>by
  rw [bR] at h;rw [lO,lO a b []];split
  ·rfl
  ·split
   ·have:∀ (l q:List aa) (i:Nat),bw l<=N->gP a.AT a.AI i l q p=(gP a.AT a.AI i l q []).map (p++·):=by
     intro l
     induction l with
     | nil=>intro q i _; simp [gP]
     | cons x r ih=>
      intro q i hl;simp only [bw] at hl
      cases q with
      | nil=>simp [gP]
      | cons y q=>
       simp only [gP,List.map_append];rw [sK N x y (p++[gL a.AT a.AI i]) O,sK N x y ([]++[gL a.AT a.AI i]) O,ih q (i+1) O,List.map_map];congr 1;refine List.map_congr_left λ z _=>?_;simp
    exact this a.Ar b.Ar 0 O
   ·simp
theorem sa (a b:aa)(s:ac):dfs a b ([]++[s])=(dfs a b []).map (s::·):=by
 rw [sK _ a b _ (bt _)]
 rfl
theorem qD {α:Type}(la lb:List α){i:Nat}(h1:i<la.length)(h2:i<lb.length):(lb.take i++la.drop i).set i lb[i]=lb.take (i+1)++la.drop (i+1):=by
 have hl:(lb.take i).length=i:=by rw [sm]; omega
 rw [List.set_append_right _ _ O,hl,Nat.sub_self,List.drop_eq_getElem_cons h1,List.set_cons_zero,List.take_succ_eq_append_getElem h2,List.append_assoc]
 rfl
theorem AP {a b:aa}(h:pM a b=true){i:Nat}(hi:i<a.Ar.length)(hib:i<b.Ar.length){w:aa}(hw:Mix a.Ar[i] b.Ar[i] w):Mix a b (aa.mk a.AT a.A' a.By ((b.Ar.take i++a.Ar.drop i).set i w) a.AI):=by
 have hl:=(iP h).2.2.1;have ht:(b.Ar.take i).length=i:=by rw [sm]; omega
 refine .node h _ (by rw [List.length_set,n8,ht,List.length_drop]; omega) (λ j y z x h1 h2 h3=>?_);have hj:j<a.Ar.length:=(List.getElem?_eq_some_iff.1 h1).1;rw [List.getElem?_set] at h3;by_cases e:i=j
 ·subst e;rw [if_pos rfl,if_pos (by rw [n8,ht,List.length_drop]; omega)] at h3
  cases h3
  rw [List.getElem?_eq_getElem hi] at h1;rw [List.getElem?_eq_getElem hib] at h2
  cases h1; cases h2
  exact hw
 ·rw [if_neg e] at h3;rcases Nat.lt_or_ge j i with hlt|hge
  ·rw [List.getElem?_append_left O,List.getElem?_take,if_pos hlt,h2] at h3
   cases h3
   exact .right _ _
  ·rw [List.getElem?_append_right O,ht,List.getElem?_drop,show i+(j-i)=j by omega,h1] at h3
   cases h3
   exact .left _ _
theorem lW {v:aa}(h:iA v=0)(hk:v.AT=4\/v.AT=5):v.A'=0/\v.By=[]:=by
 have hs:shB v=true:=by
  cases q:shB v with
  | true=>rfl
  | false=>unfold iA at h; rw [if_pos q] at h; cases h
 simp only [shB,decide_eq_true_eq] at hs;exact ⟨hs.2.2.2.1 O O,hs.2.2.2.2.1 O⟩
theorem A3:∀ (N:Nat) (a b:aa),bZ a<=N->GV a->GV b->aa.Bd a->aa.Bd b->(∃ lv,iw a lv)->(∃ lv,iw b lv)->Steps (Mix a b) b (dfs a b []) a b
 | 0,a,b,h,_,_,_,_,_,_=>absurd h (by rw [bR]; omega)
 | N+1,a,b,h,ga,gb,ba,bb,⟨la,oa⟩,⟨lb,ob⟩=>by
  have na:=oa.nd;have nb:=ob.nd;have na2:=λ x hx=>(⟨la+1,oa.it x hx⟩:∃ lv,iw x lv)
  have nb2:=λ x hx=>(⟨lb+1,ob.it x hx⟩:∃ lv,iw x lv)
  rw [bR] at h;rw [lO];by_cases he:eqV a b=true
  ·rw [if_pos he,yD ba b he];exact .nil b
  rw [if_neg he];by_cases hi:pM a b=true
  ·rw [if_pos hi];obtain ⟨f1,f2,f3,f4⟩:=iP hi
   have loop:∀ (k i:Nat),i+k=a.Ar.length->Steps (Mix a b) b (gP a.AT a.AI i (a.Ar.drop i) (b.Ar.drop i) []) (aa.mk a.AT a.A' a.By (b.Ar.take i++a.Ar.drop i) a.AI) b:=by
    intro k
    induction k with
    | zero=>
     intro i hk;rw [List.drop_eq_nil_of_le O,List.append_nil,List.take_of_length_le O]
     have e:aa.mk a.AT a.A' a.By b.Ar a.AI=b:=by
      have s1:=lW na f2;have s2:=lW nb (f1 ▸ f2);rw [f1,f4,s1.1,s1.2,<- s2.1,<- s2.2];exact aa.eta b
     rw [e];simp only [gP];exact .nil b
    | succ k ih=>
     intro i hk;have hia:i<a.Ar.length:=by omega
     have hib:i<b.Ar.length:=by omega
     have ma:a.Ar[i]∈a.Ar:=List.getElem_mem hia;have mb:b.Ar[i]∈b.Ar:=List.getElem_mem hib;have ht:(b.Ar.take i).length=i:=by rw [sm]; omega
     rw [List.drop_eq_getElem_cons hia,List.drop_eq_getElem_cons hib];simp only [gP];rw [sa];have st:=A3 N a.Ar[i] b.Ar[i] (by have:=g8 ma; omega) (ga.its _ ma) (gb.its _ mb) (ba.eItems _ ma) (bb.eItems _ mb) (na2 _ ma) (nb2 _ mb);have fs:=yl ga ba hia;have fb:=yl gb bb hib;rw [<- f1,<- f4] at fb
     have l:=lift (M:=Mix a b) (a:=a) (b:=b) fs fb (cY _ _ hib) st (b.Ar.take i++a.Ar[i]::a.Ar.drop (i+1)) (by rw [n8,ht,d4,List.length_drop]; omega) (by rw [List.getElem?_append_right O,ht,Nat.sub_self]; rfl) (λ w hw=>by
      have:=AP hi hia hib hw;rw [List.drop_eq_getElem_cons hia] at this
      exact this)
     have e:=qD a.Ar b.Ar hia hib;rw [List.drop_eq_getElem_cons hia] at e;rw [e] at l;exact l.append (ih (i+1) O)
   have:=loop a.Ar.length 0 O;rw [List.take_zero,List.nil_append,List.drop_zero,List.drop_zero,aa.eta] at this;exact this
  ·rw [if_neg hi];exact .cons (P:=[]) Z Z (.right a b) (.nil b)
def Apart (p q:List ac):Prop:=¬ p <+: q/\¬ q <+: p
theorem uU {s:ac}{p q:List ac}(h:Apart p q):Apart (s::p) (s::q):=⟨λ k=>h.1 ((List.prefix_cons_inj s).1 k),λ k=>h.2 ((List.prefix_cons_inj s).1 k)⟩
theorem ze {s t:ac}(h:s≠t)(p q:List ac):Apart (s::p) (t::q):=by
 constructor
 ·rintro ⟨r,e⟩; injection e with e _; exact h e
 ·rintro ⟨r,e⟩; injection e with e _; exact h e.symm
theorem p8 (k:Int)(ks:List Bk):∀ (l m:List aa) (i:Nat) (q:List ac),q∈gP k ks i l m []->∃ j r,i<=j/\j<i+l.length/\q=gL k ks j::r
 | [],m,i,q,h=>by simp [gP] at h
 | x::l,[],i,q,h=>by simp [gP] at h
 | x::l,y::m,i,q,h=>by
  simp only [gP,List.mem_append] at h;rw [sa] at h;rcases h with h|h
  ·obtain ⟨r,_,rfl⟩:=List.mem_map.1 h;exact ⟨i,r,bt _,by simp only [d4]; omega,rfl⟩
  ·obtain ⟨j,r,h1,h2,e⟩:=p8 k ks l m (i+1) q h;exact ⟨j,r,by omega,by simp only [d4]; omega,e⟩
theorem rt:∀ (N:Nat) (a b:aa),bZ a<=N->GV a->(dfs a b []).Pairwise Apart
 | 0,a,b,h,_=>absurd h (by rw [bR]; omega)
 | N+1,a,b,h,ga=>by
  rw [bR] at h;rw [lO];split
  ·exact .nil
  ·split
   ·rename_i hi;obtain ⟨f1,f2,f3,f4⟩:=iP hi
    have loop:∀ (k i:Nat),i+k=a.Ar.length->(gP a.AT a.AI i (a.Ar.drop i) (b.Ar.drop i) []).Pairwise Apart:=by
     intro k
     induction k with
     | zero=>
      intro i hk;rw [List.drop_eq_nil_of_le O];simp only [gP];exact .nil
     | succ k ih=>
      intro i hk;have hia:i<a.Ar.length:=by omega
      have hib:i<b.Ar.length:=by omega
      have ma:a.Ar[i]∈a.Ar:=List.getElem_mem hia;rw [List.drop_eq_getElem_cons hia,List.drop_eq_getElem_cons hib];simp only [gP];rw [sa];refine List.pairwise_append.2 ⟨?_,ih (i+1) O,λ x hx y hy=>?_⟩
      ·exact List.pairwise_map.2 ((rt N a.Ar[i] b.Ar[i] (by have:=g8 ma; omega) (ga.its _ ma)).imp λ h=>uU h)
      ·obtain ⟨r,_,rfl⟩:=List.mem_map.1 hx;obtain ⟨j,r',h1,h2,rfl⟩:=p8 _ _ _ _ _ _ hy;rw [List.length_drop] at h2;refine ze (λ e=>?_) _ _;have:=zp ga.node hia O e;omega
    have:=loop a.Ar.length 0 O
    rwa [List.drop_zero,List.drop_zero] at this
   ·exact List.pairwise_singleton _ _
theorem AE {v:aa}(hv:jz v)(hb:aa.Bd v){i:Nat}(hi:i<v.Ar.length):gd (gL v.AT v.AI i):=by
 have h2:=hb.bItems;unfold ec at h2;unfold gL;split
 ·rename_i h5;have hl:=hv.len h5;have ht:=hv.txt (lat v.AI (i:Int)) (Go.Ab.dU O);exact ⟨⟨Int.le_refl _,by simp only [ac.A']; unfold j8; omega⟩,λ q=>Bool.noConfusion q,λ _=>⟨rfl,ht⟩⟩
 ·exact ⟨⟨by simp only [ac.A']; omega,by simp only [ac.A']; unfold j8; omega⟩,λ _=>rfl,λ q=>Bool.noConfusion q⟩
theorem tu:∀ (N:Nat) (a b:aa) (lv:Nat),bZ a<=N->GV a->aa.Bd a->iw a lv->∀ P∈dfs a b [],(∀ s∈P,gd s)/\P.length+lv<=32
 | 0,a,b,lv,h,_,_,_=>absurd h (by rw [bR]; omega)
 | N+1,a,b,lv,h,ga,ba,oa=>by
  intro P hP;rw [bR] at h;rw [lO] at hP;split at hP
  ·cases hP
  ·split at hP
   ·have loop:∀ (k i:Nat),i+k=a.Ar.length->∀ m:List aa,P∈gP a.AT a.AI i (a.Ar.drop i) m []->(∀ s∈P,gd s)/\P.length+lv<=32:=by
     intro k
     induction k with
     | zero=>
      intro i hk m hm;rw [List.drop_eq_nil_of_le O] at hm;simp [gP] at hm
     | succ k ih=>
      intro i hk m hm;have hia:i<a.Ar.length:=by omega
      have ma:a.Ar[i]∈a.Ar:=List.getElem_mem hia;rw [List.drop_eq_getElem_cons hia] at hm
      cases m with
      | nil=>simp [gP] at hm
      | cons y m=>
       simp only [gP,List.mem_append] at hm;rw [sa] at hm;rcases hm with hm|hm
       ·obtain ⟨r,hr,rfl⟩:=List.mem_map.1 hm;obtain ⟨e1,e2⟩:=tu N a.Ar[i] y (lv+1) (by have:=g8 ma; omega) (ga.its _ ma) (ba.eItems _ ma) (oa.it _ ma) r hr;refine ⟨λ s hs=>?_,by simp only [d4]; omega⟩;rcases ro.1 hs with rfl|hs
        ·exact AE ga.node ba hia
        ·exact e1 s hs
       ·exact ih (i+1) O m hm
    have:=loop a.Ar.length 0 O b.Ar;rw [List.drop_zero] at this;exact this hP
   ·rw [List.mem_singleton.1 hP];exact ⟨λ s hs=>(by cases hs),by have:=oa.le; simp only [List.length_nil]; omega⟩
theorem mg {v:aa}(hb:aa.Bd v):Ev2 (λ n _=>cL n v) (λ r=>r=true->VV v/\bZ v<=200/\iw v 1):=by
 simp only [cL];refine bI (λ r=>r=true->VV v/\bZ v<=200/\iw v 1) ?_ (λ r hr=>ai hr);refine bI _ (s8 hb 200 (by decide) (by decide)) (λ r hr=>aw (λ h=>?_) (λ _=>ai (λ q=>by cases q)));refine ay _ (pg hb) (ai (λ q=>?_));have c:(gn v 1 0).1=0:=by simpa using q
 have:=hr h;exact ⟨u7 hb c,by omega,yk hb 1 0 c⟩
theorem tU {a b:aa}(ha:aa.Bd a)(hb:aa.Bd b):Ev2 (λ n _=>fc n a b) (·=true):=by
 simp only [fc];refine bI (λ t=>t=false->(VV a/\bZ a<=200/\iw a 1)/\(VV b/\bZ b<=200/\iw b 1)) ?_ (λ t ht=>?_)
 ·refine bI _ (mg ha) (λ r hr=>aw (λ _=>ai (λ k=>by cases k)) (λ h=>?_));exact bI _ (mg hb) (λ r2 hr2=>ai (λ h2=>⟨hr (by simpa using h),hr2 (by simpa using h2)⟩))
 ·refine aw (λ _=>ay _ ik (ai rfl)) (λ h=>?_);obtain ⟨⟨va,na,oa⟩,⟨vb,nb,ob⟩⟩:=ht (by simpa using h);have l1:=zr va.g ha b [] (by simp only [List.length_nil]; omega);have e3:Ev2 (λ n _=>jL n a b) (·=dfs a b []):=by simp only [jL]; exact ay _ l1 (ai rfl)
  have st:=A3 _ a b (bt _) va.g vb.g ha hb ⟨1,oa⟩ ⟨1,ob⟩;have ap:=rt _ a b (bt _) va.g;have ok:=tu _ a b 1 (bt _) va.g ha oa;have ll:=rE _ a b [] (bt _);refine ay _ e3 ?_;generalize dfs a b []=L at st ap ok ll
  have mix:∀ w,Mix a b w->VV w/\(gn w 1 0).1=0:=λ w hw=>by
   have b1:=Bw hw ha hb;have n1:=xM hw;have c1:=yG (zd hw 1 oa ob) 0 O;have c2:(gn w 1 0).1=0:=by rw [c1]
   exact ⟨u7 b1 c2,c2⟩
  have inner:∀ i:Nat,i<L.length->Ev2 (λ n m=>bE n L (i:Int) m 0) (·=.inl ()):=by
   intro i hi;refine ju (λ n m j (_:Unit)=>bE n L (i:Int) m j) i (λ _ _=>True) (λ j _ hj _ k=>?_) (λ _ _=>?_) () trivial
   ·simp only [bE];have m1:lat L (i:Int)∈L:=Go.Ab.dU O;have m2:lat L (j:Int)∈L:=Go.Ab.dU O;have o1:=ok _ m1;have o2:=ok _ m2;have r:=List.pairwise_iff_getElem.1 ap j i O hi hj;rw [<- cY L j O,<- cY L i hi] at r;refine aI O (ay false (ax O (ax O (ay _ (ln _ _ O O) (aE (by simpa using r.1) (ax O (ax O (ay _ (ln _ _ O O) (ai (decide_eq_false r.2))))))))) (aE (by decide) (ax (a8 O O) (k () trivial))))
   ·simp only [bE];exact aE O (ai rfl)
  have outer:∀ (k i:Nat) (v:aa),i+k=L.length->VV v->Steps (Mix a b) b (L.drop i) v b->Ev2 (λ n m=>bF n b L m (i:Int) v.AT v.A' v.By v.Ar v.AI) (·=.inl (b.AT,b.A',b.By,b.Ar,b.AI)):=by
   intro k
   induction k with
   | zero=>
    intro i v hk vv hs;rw [List.drop_eq_nil_of_le O] at hs
    cases hs
    refine aT ?_;simp only [bF];exact aE O (ai Z)
   | succ k ih=>
    intro i v hk vv hs;have hi:i<L.length:=by omega
    have hd:L.drop i=lat L (i:Int)::L.drop (i+1):=by rw [cY _ _ hi]; exact List.drop_eq_getElem_cons hi
    have m1:lat L (i:Int)∈L:=Go.Ab.dU O;obtain ⟨o1,o2⟩:=ok _ m1;rw [hd] at hs
    cases hs with
    | @cons _ _ _ w _ hg hset hm r=>
     obtain ⟨vw,cw⟩:=mix w hm;have gv:=uf o1 vb hg
     have es:qA v (lat L (i:Int)) (dm (lat L (i:Int)) b).1=(w,0):=by
      unfold qA;rw [hset,if_neg G,if_neg (by simpa using cw)]
     refine aT ?_;simp only [bF];refine aI O (eA () (bX (f:=λ n m=>bE n L (i:Int) m 0) (inner i hi)) (ax O (ay _ (l6 vb o1 O) (ax O ?_))));rw [aa.eta];refine ay _ (sB vv gv.b o1 O) ?_;rw [es];refine ay false (aI hg (ai Z)) (aE (by decide) (ax (a8 O O) ?_));exact kj (P:=λ z=>Ev2 (λ n m=>bF n b L m z w.AT w.A' w.By w.Ar w.AI) _) (ih (i+1) w O vw r)
  refine eA _ (bX (f:=λ n m=>bF n b L m 0 a.AT a.A' a.By a.Ar a.AI) (outer L.length 0 a O va (by rw [List.drop_zero]; exact st))) ?_;rw [aa.eta];exact ay true (ay _ (kd hb b) (aI (lc hb) (ay _ ik (ai Z)))) (ai Z)
end Go.Ab.R06
end
section
namespace Go.Ab.R06
open Go.Proofs Go.Ab Go.Ab.RB
attribute [local irreducible] awp ea aO au bs AV.sub M bY
def cI (Cz:aa)(x_1:ac):Nat->Int->Option (Unit⊕(Int×Int))|0,_=>none|m+1,i15=>(if i15<(Cz.AI.length:Int) then some (decide (i15<(Cz.Ar.length:Int)))else some false : Option Bool).bind λ CS=>if CS=true then ck ((0:Int)<=i15/\i15<(Cz.AI.length:Int))<|if lat Cz.AI i15=x_1.BY then some (.inr (i15,0))else ck (inR (i15+1))<|cI Cz x_1 m (i15+1)else some (.inl ())
def gz (n:Nat)(Cz:aa)(x_1:ac):Option (Int×Int) :=if Cz.AT=6 then some (0,11)else if x_1.Cu=true then if Cz.AT=4 then(if x_1.A'<0 then some true else some (decide ((Cz.Ar.length:Int)<=x_1.A')) : Option Bool).bind λ t5=>if t5=true then some (0,16)else some (x_1.A',0)else some (0,6)else if Cz.AT=5 then jn (cI Cz x_1 n 0) λ q24=>some (0,16)else some (0,6)
theorem kq (n:Nat)(Cz:aa)(x_1:ac)(r:Int×Int)(h0:gz n Cz x_1=some r):au Tryz.prog 44 [.agg (aa.cs Cz),.agg (ac.cs x_1)] (·=.tuple [.p (eI r.1),.p (eI r.2)]):=by
 unfold gz at h0;refine aZ good Tryz.func44 Z Z Z λ w0=>mP (λ v:Int×Int=>.tuple [.p (eI v.1),.p (eI v.2)]) ?_;refine nx 14 Z (fD [9] h0 Z (λ c1 h0=>?_) λ c1 h0=>?_)
 ·exact nx 7 Z (mQ (oi h0) Z (ar ⟨sr,sr,trivial⟩))
 refine nx 8 Z (fB [11] h0 Z (λ c2 h0=>?_) λ c2 h0=>?_)
 ·refine nx 8 Z (fN [14] h0 Z (λ c3 h0=>?_) λ c3 h0=>?_)
  ·refine nx 4 Z (bd h0 λ o26 h1 h0=>?_);refine kN o26 (λ v27=>⟨[(3,.ptr 3 0),(25,.p (eB v27))],[(3,(ac.cs x_1).map .p)]⟩) ?_ ?_
   ·refine nx 1 Z (fB [25] h0 Z (λ c6 h0=>?_) λ c6 h0=>?_)
    ·exact nx 7 Z (mQ (oi h0) Z (ar ⟨sr,sr,trivial⟩))
    exact nx 10 Z (mQ (oi h0) Z (ar ⟨sr,sr,trivial⟩))
   refine nx 5 Z (fD [17,18] h1 Z (λ c4 h1=>?_) λ c4 h1=>?_)
   ·exact nx 8 Z (eX _ (oi h1).symm (gE Z Z))
   refine nx 4 Z (oLl (f:=ah) Z Z ?_);exact nx 3 Z (eX _ (oi h1).symm (gE Z Z))
  exact nx 7 Z (mQ (oi h0) Z (ar ⟨sr,sr,trivial⟩))
 refine nx 9 Z (fN [30] h0 Z (λ c7 h0=>?_) λ c7 h0=>?_)
 ·refine nx 8 rfl ?_;obtain ⟨o28,h1,C9,hR0⟩:=dl h0;refine kEx 0 (λ v29:Unit=>o28=.inl v29) (λ v29=>⟨[],[]⟩) (λ v29 hv=>?_) ?_
  ·have h0:=C9 _ hv;exact nx 7 Z (mQ (oi h0) Z (ar ⟨sr,sr,trivial⟩))
  refine lG (λ (q30:Int)=>⟨[(2,.ptr 2 0),(3,.ptr 3 0),(6,.p (eI q30))],[(2,(aa.cs Cz).map .p),(3,(ac.cs x_1).map .p)]⟩) (λ m (q30:Int)=>cI Cz x_1 m q30) Y 0 h1 (gE rfl rfl) ?_;rintro m i15 h1;replace h1:cI Cz x_1 (m+1) i15=some o28:=h1;rw [cI] at h1;refine nx 2 rfl (bd h1 λ Hd h2 h1=>?_);refine kN Hd (λ GP=>⟨[(2,.ptr 2 0),(3,.ptr 3 0),(6,.p (eI i15)),(42,.p (eB GP))],[(2,(aa.cs Cz).map .p),(3,(ac.cs x_1).map .p)]⟩) ?_ ?_
  ·refine nx 1 Z (fB [42] h1 Z (λ EN h1=>?_) λ EN h1=>?_)
   ·refine nx 5 Z (cc' h1 λ DT h1=>?_);refine mD [(2,.ptr 2 0),(3,.ptr 3 0),(6,.p (eI i15))] Z ⟨Z,Z,Z,trivial⟩ Z (dR 3 Z ?_);refine dq (.rptr [eS (lat Cz.AI i15)]) [46,47] Z (λ _ e _ q=>ae Z (cO (f:=eS) (l:=Cz.AI) (λ x=>[eS x]) Z Z Z Z Z Z (e _ _ Z) Z (e _ _ Z) DT Y Y q)) Z (dR 3 Z ?_);refine dq (.p (eB (decide (lat Cz.AI i15=x_1.BY)))) [49,51] Z (λ _ e _ q=>ae Z (lw Z Z Z (e _ _ Z) (e _ _ Z) Z q)) Z (dE Z ?_);refine nx 1 Z (fD [52] h1 Z (λ c20 h1=>?_) λ c20 h1=>?_)
    ·exact nx 8 Z (mQ (hR0 _ (oi h1).symm) Z (ar ⟨sr,sr,trivial⟩))
    refine nx 4 Z (oA h1 Z Z λ Eq h1=>?_);exact nx 2 Z (eX (i15+1) h1 (gE Z Z))
   exact nx 2 Z (eXi _ (oi h1).symm (gE Z Z))
  refine nx 4 Z (oLl (f:=eS) Z Z ?_);refine nx 2 Z (fD [35,36] h2 Z (λ FO h2=>?_) λ FO h2=>?_)
  ·refine nx 3 Z (oLl (f:=ah) Z Z ?_);exact nx 3 Z (eX _ (oi h2).symm (gE Z Z))
  exact nx 7 Z (eX _ (oi h2).symm (gE Z Z))
 exact nx 7 Z (mQ (oi h0) Z (ar ⟨sr,sr,trivial⟩))
def cX (n:Nat)(p_1:List ac):Nat->Int->Int->Int->Bk->(List aa)->(List Bk)->Option ((Int×Int×Bk×(List aa)×(List Bk))⊕(aa×Int))|0,_,_,_,_,_,_=>none|m+1,i14,Fp,Fo,Ef,Dq,Fl=>if i14<(p_1.length:Int) then ck ((0:Int)<=i14/\i14<(p_1.length:Int))<|(gz n (aa.mk Fp Fo Ef Dq Fl) (lat p_1 i14)).bind λ C2=>if C2.2=0 then ck ((0:Int)<=C2.1/\C2.1<(Dq.length:Int))<|ck (inR (i14+1))<|cX n p_1 m (i14+1) ((lat Dq C2.1).AT) ((lat Dq C2.1).A') ((lat Dq C2.1).By) ((lat Dq C2.1).Ar) ((lat Dq C2.1).AI)else some (.inr ((aa.mk 0 0 ([]:Bk) [] []),C2.2))else some (.inl (Fp,Fo,Ef,Dq,Fl))
def jU (n:Nat)(Cz:aa)(p_1:List ac):Option (aa×Int) :=jn (cX n p_1 n 0 Cz.AT Cz.A' Cz.By Cz.Ar Cz.AI) λ Ge=>some ((aa.mk Ge.1 Ge.2.1 Ge.2.2.1 Ge.2.2.2.1 Ge.2.2.2.2),0)
theorem rz (n:Nat)(Cz:aa)(p_1:List ac)(r:aa×Int)(h0:jU n Cz p_1=some r):au Tryz.prog 19 [.agg (aa.cs Cz),eL ag p_1] (·=.tuple [.p (.agg (aa.cs r.1)),.p (eI r.2)]):=by
 unfold jU at h0;refine aZ good Tryz.func19 Z Z Z λ w0=>mP (λ v:aa×Int=>.tuple [.p (.agg (aa.cs v.1)),.p (eI v.2)]) ?_;refine nx 12 rfl ?_;obtain ⟨o39,h1,C9,hR0⟩:=dl h0;refine kEx 0 (λ Fv:Int×Int×Bk×(List aa)×(List Bk)=>o39=.inl Fv) (λ Fv=>⟨[(2,.ptr 2 0),(4,.ptr 4 0)],[(2,[.p (eI Fv.1),.p (eI Fv.2.1),.p (eS Fv.2.2.1),.p (eL ah Fv.2.2.2.1),.p (eL eS Fv.2.2.2.2)]),(4,[.p (eI 0),.p (eI 0),.p (eS ([]:Bk)),.p (.val (.slice none 0 0)),.p (.val (.slice none 0 0))])]⟩) (λ Fv hv=>?_) ?_
 ·have h0:=C9 _ hv;exact nx 8 Z (mQ (oi h0) Z (ar ⟨sr,sr,trivial⟩))
 refine lG (λ (Du:Int×Int×Int×Bk×(List aa)×(List Bk))=>⟨[(1,.p (eL ag p_1)),(2,.ptr 2 0),(4,.ptr 4 0),(6,.p (eI Du.1))],[(2,[.p (eI Du.2.1),.p (eI Du.2.2.1),.p (eS Du.2.2.2.1),.p (eL ah Du.2.2.2.2.1),.p (eL eS Du.2.2.2.2.2)]),(4,[.p (eI 0),.p (eI 0),.p (eS ([]:Bk)),.p (.val (.slice none 0 0)),.p (.val (.slice none 0 0))])]⟩) (λ m (Du:Int×Int×Int×Bk×(List aa)×(List Bk))=>cX n p_1 m Du.1 Du.2.1 Du.2.2.1 Du.2.2.2.1 Du.2.2.2.2.1 Du.2.2.2.2.2) Y (0,Cz.AT,Cz.A',Cz.By,Cz.Ar,Cz.AI) h1 (gE rfl rfl) ?_;rintro m ⟨i14,Fp,Fo,Ef,Dq,Fl⟩ h1;replace h1:cX n p_1 (m+1) i14 Fp Fo Ef Dq Fl=some o39:=h1;rw [cX] at h1;refine nx 5 rfl (oLl (f:=ag) rfl rfl ?_);refine nx 2 rfl (fD [12] h1 rfl (λ c20 h1=>?_) λ c20 h1=>?_)
 ·refine nx 5 Z (cc' h1 λ Eq h1=>?_);refine bd h1 λ C2 FL h1=>mD [(1,.p (eL ag p_1)),(2,.ptr 2 0),(4,.ptr 4 0),(6,.p (eI i14))] Z ⟨Z,Z,Z,Z,trivial⟩ Z (dR 3 Z ?_);refine dq (.rptr (ac.cs (lat p_1 i14))) [17,18] Z (λ _ e _ q=>ae Z (cO (f:=ag) (l:=p_1) ac.cs Z Z Z Z Z Z (e _ _ Z) Z (e _ _ Z) Eq ac.B' Y q)) Z (dR 1 Z ?_);refine dq (.tuple [.p (eI C2.1),.p (eI C2.2)]) [16,20] Z (λ _ e _ q=>ae Z (aY (kq _ (aa.mk Fp Fo Ef Dq Fl) (lat p_1 i14) _ FL) Z Z Z (am (e _ _ Z) (am (e _ _ Z) aM)) ⟨sr,sr,trivial⟩ Tryz.call44 Z q)) Z (dR 5 Z ?_);refine dE Z (nx 7 Z ?_);refine fN [25] h1 Z (λ Ew h1=>?_) λ Ew h1=>?_
  ·refine nx 6 Z (oE h1 aa.B' Z Z Y λ Fi h1=>?_);refine nx 5 Z (oA h1 Z Z λ Ep h1=>?_);exact nx 2 Z (eX (i14+1,(lat Dq C2.1).AT,(lat Dq C2.1).A',(lat Dq C2.1).By,(lat Dq C2.1).Ar,(lat Dq C2.1).AI) h1 (gE Z Z))
  exact nx 9 Z (mQ (hR0 _ (oi h1).symm) Z (ar ⟨dY ⟨.inl Z,.inl Z,.inl Z,.inr ⟨Z,Z⟩,.inr ⟨Z,Z⟩,trivial⟩,sr,trivial⟩))
 exact nx 2 Z (eXi _ (oi h1).symm (gE Z Z))
def dy (Cz:aa)(key_1:Bk)(x_2:aa):Nat->Bool->Int->(List aa)->(List Bk)->Option (Bool×(List aa)×(List Bk))|0,_,_,_,_=>none|m+1,done27,i28,FK,D4=>(if i28<(Cz.AI.length:Int) then some (decide (i28<(Cz.Ar.length:Int)))else some false : Option Bool).bind λ GQ=>if GQ=true then(((if (!done27)=true then ck ((0:Int)<=i28/\i28<(Cz.AI.length:Int))<|some (!Op.bytesLess (lat Cz.AI i28) key_1)else some false : Option Bool).bind λ t36=>if t36=true then ck ((D4.length+[key_1].length)*16<=140737488355328)<|ck ((FK.length+[x_2].length)*80<=140737488355328)<|some (true,FK++[x_2],D4++[key_1])else some (done27,FK,D4) : Option (Bool×(List aa)×(List Bk))).bind λ FT=>ck ((0:Int)<=i28/\i28<(Cz.AI.length:Int))<|if lat Cz.AI i28=key_1 then some (FT.1,FT.2.1,FT.2.2)else ck ((0:Int)<=i28/\i28<(Cz.AI.length:Int))<|ck ((FT.2.2.length+[lat Cz.AI i28].length)*16<=140737488355328)<|ck ((0:Int)<=i28/\i28<(Cz.Ar.length:Int))<|ck ((FT.2.1.length+[(lat Cz.Ar i28)].length)*80<=140737488355328)<|some (FT.1,FT.2.1++[(lat Cz.Ar i28)],FT.2.2++[lat Cz.AI i28]) : Option (Bool×(List aa)×(List Bk))).bind λ q67=>ck (inR (i28+1))<|dy Cz key_1 x_2 m q67.1 (i28+1) q67.2.1 q67.2.2 else some (done27,FK,D4)
def jO (n:Nat)(Cz:aa)(key_1:Bk)(x_2:aa):Option aa :=(dy Cz key_1 x_2 n false 0 [] []).bind λ Gd=>(if (!Gd.1)=true then ck ((Gd.2.2.length+[key_1].length)*16<=140737488355328)<|ck ((Gd.2.1.length+[x_2].length)*80<=140737488355328)<|some (Gd.2.1++[x_2],Gd.2.2++[key_1])else some (Gd.2.1,Gd.2.2) : Option ((List aa)×(List Bk))).bind λ q70=>some (aa.mk 5 0 ([]:Bk) q70.1 q70.2)
theorem ss (n:Nat)(Cz:aa)(key_1:Bk)(x_2:aa)(r:aa)(h0:jO n Cz key_1 x_2=some r):au Tryz.prog 77 [.agg (aa.cs Cz),eS key_1,.agg (aa.cs x_2)] (·=.p (.agg (aa.cs r))):=by
 unfold jO at h0;refine aZ good Tryz.func77 Z Z Z λ w0=>mP (λ v:aa=>.p (.agg (aa.cs v))) ?_;refine nx 22 Z (bd h0 λ o71 h1 h0=>?_);refine kE 0 o71 (λ v72=>⟨[(1,.p (eS key_1)),(5,.ptr 5 0),(6,.ptr 6 0),(7,.ptr 7 0),(8,.p (eB v72.1))],[(5,(aa.cs x_2).map .p),(6,[.p (eI 0),.p (eI 0),.p (eS ([]:Bk)),.p (.val (.slice none 0 0)),.p (.val (.slice none 0 0))]),(7,[.p (eI 5),.p (eI 0),.p (eS ([]:Bk)),.vec 73 5 0 (v72.2.1.map ah),.vec 63 1 0 (v72.2.2.map eS)])]⟩) ?_ ?_
 ·refine nx 2 Z (bd h0 λ o73 h1 h0=>?_);refine kN o73 (λ FB=>⟨[(6,.ptr 6 0),(7,.ptr 7 0)],[(6,[.p (eI 0),.p (eI 0),.p (eS ([]:Bk)),.p (.val (.slice none 0 0)),.p (.val (.slice none 0 0))]),(7,[.p (eI 5),.p (eI 0),.p (eS ([]:Bk)),.vec 87 5 0 (FB.1.map ah),.vec 81 1 0 (FB.2.map eS)])]⟩) ?_ ?_
  ·exact nx 7 Z (mQ (oi h0) Z (kH ⟨sr,sr,sr,AV.sub_vec _ _ _ _,AV.sub_vec _ _ _ _,trivial⟩))
  refine nx 5 Z (fB [76] h1 Z (λ c60 h1=>?_) λ c60 h1=>?_)
  ·refine nx 6 Z (mO Z (bA eS [key_1] Z Z Z Z Z Z Z Z Z Z Z Z Z Z ?_));refine cc' h1 λ hk61 h1=>mO Z (dS eS o71.2.2 [key_1] Z Z Z Z Z Z Z Z Z Z Z Z Z Y Z Z Z Z hk61 ?_);refine nx 7 Z (mO Z (bA ah [x_2] Z Z Z Z Z Z Z Z Z Z Z Z Z (by first|rfl|(simp only [cl,py,aa.Cv]; done)|(simp only [cl,py,aa.Cv]; rfl)) ?_));refine cc' h1 λ Gp h1=>mO Z (dS ah o71.2.1 [x_2] Z Z Z Z Z Z Z Z Z Z Z Z Z (λ x=>congrArg List.length (aa.B' x)) Z Z Z Z Gp ?_);exact nx 3 Z (eX _ (oi h1).symm (gE Z Z))
  exact nx 2 Z (eX _ (oi h1).symm (aQ (bp 63 81 Z Z Z Z Z) (aQ (bp 73 87 Z Z Z Z Z) (gE Z Z))))
 refine lG (λ (El:Bool×Int×(List aa)×(List Bk))=>⟨[(1,.p (eS key_1)),(3,.ptr 3 0),(5,.ptr 5 0),(6,.ptr 6 0),(7,.ptr 7 0),(8,.p (eB El.1)),(9,.p (eI El.2.1))],[(3,(aa.cs Cz).map .p),(5,(aa.cs x_2).map .p),(6,[.p (eI 0),.p (eI 0),.p (eS ([]:Bk)),.p (.val (.slice none 0 0)),.p (.val (.slice none 0 0))]),(7,[.p (eI 5),.p (eI 0),.p (eS ([]:Bk)),.vec 73 5 0 (El.2.2.1.map ah),.vec 63 1 0 (El.2.2.2.map eS)])]⟩) (λ m (El:Bool×Int×(List aa)×(List Bk))=>dy Cz key_1 x_2 m El.1 El.2.1 El.2.2.1 El.2.2.2) Y (false,0,[],[]) h1 (bS (fS ⟨er rfl,er rfl,er rfl,er rfl,er rfl,er rfl,er rfl,trivial⟩ ⟨⟨_,rfl,⟨sr,sr,sr,sr,sr,trivial⟩⟩,⟨_,rfl,⟨sr,sr,sr,sr,sr,trivial⟩⟩,⟨_,rfl,⟨sr,sr,sr,sr,sr,trivial⟩⟩,⟨_,rfl,⟨sr,sr,sr,AV.sub_nilvec _ _ _,AV.sub_nilvec _ _ _,trivial⟩⟩,trivial⟩)) ?_;rintro m ⟨done27,i28,FK,D4⟩ h1;replace h1:dy Cz key_1 x_2 (m+1) done27 i28 FK D4=some o71:=h1;rw [dy] at h1;refine nx 2 rfl (bd h1 λ o76 h2 h1=>?_);refine kN o76 (λ v77=>⟨[(1,.p (eS key_1)),(3,.ptr 3 0),(5,.ptr 5 0),(6,.ptr 6 0),(7,.ptr 7 0),(8,.p (eB done27)),(9,.p (eI i28)),(22,.p (eB v77))],[(3,(aa.cs Cz).map .p),(5,(aa.cs x_2).map .p),(6,[.p (eI 0),.p (eI 0),.p (eS ([]:Bk)),.p (.val (.slice none 0 0)),.p (.val (.slice none 0 0))]),(7,[.p (eI 5),.p (eI 0),.p (eS ([]:Bk)),.vec 73 5 0 (FK.map ah),.vec 63 1 0 (D4.map eS)])]⟩) ?_ ?_
 ·refine nx 1 Z (fB [22] h1 Z (λ FM h1=>?_) λ FM h1=>?_)
  ·refine nx 3 Z (bd h1 λ GK h2 h1=>?_);refine kN GK (λ EZ=>⟨[(1,.p (eS key_1)),(3,.ptr 3 0),(5,.ptr 5 0),(6,.ptr 6 0),(7,.ptr 7 0),(8,.p (eB EZ.1)),(9,.p (eI i28))],[(3,(aa.cs Cz).map .p),(5,(aa.cs x_2).map .p),(6,[.p (eI 0),.p (eI 0),.p (eS ([]:Bk)),.p (.val (.slice none 0 0)),.p (.val (.slice none 0 0))]),(7,[.p (eI 5),.p (eI 0),.p (eS ([]:Bk)),.vec 73 5 0 (EZ.2.1.map ah),.vec 63 1 0 (EZ.2.2.map eS)])]⟩) ?_ ?_
   ·refine nx 3 Z (oA h1 Z Z λ hk52 h1=>?_);exact nx 2 Z (eX (GK.1,i28+1,GK.2.1,GK.2.2) h1 (gE Z Z))
   refine nx 2 Z (bd h2 λ Dk h3 h2=>?_);refine kN Dk (λ GN=>⟨[(1,.p (eS key_1)),(3,.ptr 3 0),(5,.ptr 5 0),(6,.ptr 6 0),(7,.ptr 7 0),(8,.p (eB GN.1)),(9,.p (eI i28))],[(3,(aa.cs Cz).map .p),(5,(aa.cs x_2).map .p),(6,[.p (eI 0),.p (eI 0),.p (eS ([]:Bk)),.p (.val (.slice none 0 0)),.p (.val (.slice none 0 0))]),(7,[.p (eI 5),.p (eI 0),.p (eS ([]:Bk)),.vec 73 5 0 (GN.2.1.map ah),.vec 63 1 0 (GN.2.2.map eS)])]⟩) ?_ ?_
   ·refine nx 6 Z (oE h2 Y Z Z Y λ hk43 h2=>?_);refine nx 2 Z (oS Z Z ?_);refine nx 1 Z (fN [54] h2 Z (λ c44 h2=>?_) λ c44 h2=>?_)
    ·exact nx 2 Z (eX _ (oi h2).symm (gE Z Z))
    refine nx 2 Z (cc' h2 λ Gr h2=>?_);refine cc' h2 λ Gq h2=>mG (gE (t:=⟨[(1,.p (eS key_1)),(3,.ptr 3 0),(5,.ptr 5 0),(6,.ptr 6 0),(7,.ptr 7 0),(8,.p (eB Dk.1)),(9,.p (eI i28))],[(3,(aa.cs Cz).map .p),(5,(aa.cs x_2).map .p),(6,[.p (eI 0),.p (eI 0),.p (eS ([]:Bk)),.p (.val (.slice none 0 0)),.p (.val (.slice none 0 0))]),(7,[.p (eI 5),.p (eI 0),.p (eS ([]:Bk)),.vec 73 5 0 (Dk.2.1.map ah),.vec 63 1 0 (Dk.2.2.map eS)])]⟩) Z Z) (mS ⟨2,[8,10],(by3 (.some λ i=>Nat.beq i 63||Nat.beq i 63) .none .none),(λ _=>[(1,.p (eS key_1)),(3,.ptr 3 0),(5,.ptr 5 0),(6,.ptr 6 0),(7,.ptr 7 0),(8,.p (eB Dk.1)),(9,.p (eI i28))]),(by3 ([(3,[.p (eI Cz.AT),.p (eI Cz.A'),.p (eS Cz.By),.p (eL ah Cz.Ar),.p (eL eS Cz.AI)]),(5,[.p (eI x_2.AT),.p (eI x_2.A'),.p (eS x_2.By),.p (eL ah x_2.Ar),.p (eL eS x_2.AI)]),(6,[.p (eI 0),.p (eI 0),.p (eS ([]:Bk)),.p (.val (.slice none 0 0)),.p (.val (.slice none 0 0))]),(7,[.p (eI 5),.p (eI 0),.p (eS ([]:Bk)),.vec 73 5 0 (Dk.2.1.map ah),.vec 63 1 0 (Dk.2.2.map eS)])]) ([(3,[.p (eI Cz.AT),.p (eI Cz.A'),.p (eS Cz.By),.p (eL ah Cz.Ar),.p (eL eS Cz.AI)]),(5,[.p (eI x_2.AT),.p (eI x_2.A'),.p (eS x_2.By),.p (eL ah x_2.Ar),.p (eL eS x_2.AI)]),(6,[.p (eI 0),.p (eI 0),.p (eS ([]:Bk)),.p (.val (.slice none 0 0)),.p (.val (.slice none 0 0))]),(7,[.p (eI 5),.p (eI 0),.p (eS ([]:Bk)),.vec 73 5 0 (Dk.2.1.map ah),.p (eL eS Dk.2.2)])]) ([(7,[.p (eI 5),.p (eI 0),.p (eS ([]:Bk)),.vec 73 5 0 (Dk.2.1.map ah),.vec 63 1 0 ((Dk.2.2++[lat Cz.AI i28]).map eS)]),(3,[.p (eI Cz.AT),.p (eI Cz.A'),.p (eS Cz.By),.p (eL ah Cz.Ar),.p (eL eS Cz.AI)]),(5,[.p (eI x_2.AT),.p (eI x_2.A'),.p (eS x_2.By),.p (eL ah x_2.Ar),.p (eL eS x_2.AI)]),(6,[.p (eI 0),.p (eI 0),.p (eS ([]:Bk)),.p (.val (.slice none 0 0)),.p (.val (.slice none 0 0))]),(7,[.p (eI 5),.p (eI 0),.p (eS ([]:Bk)),.vec 73 5 0 (Dk.2.1.map ah),.p (eL eS Dk.2.2)])]))⟩ Z Z Z ⟨Z,Z,Z,Z,Z,Z,Z,trivial⟩ (lt2 ⟨Z,Z,Z,Z,Z,Z,Z,trivial⟩ ⟨Z,Z,Z,Z,Z,Z,Z,trivial⟩) Z Z Z Z ?_);refine al (λ _=>.ptr 7 4) Z Z Z (bj Z Z Y) (lt2 Z Z) (aj Z (af [(7,_)] ⟨.inl Z,trivial⟩ (λ sl Cy K hK=>ae Z (aD Z Z Z Z Z Z Z Z (Cy _ _ Z) hK)) (af [(7,_)] ⟨.inl Z,trivial⟩ (λ sl Cy K hK=>ae Z (aD Z Z Z Z Z Z Z Z (Cy _ _ Z) hK)) ak))) (al (by3 (.vec 63 1 0 (Dk.2.2.map eS)) (.p (eL eS Dk.2.2)) (.p (eL eS Dk.2.2))) Z Z Z (bj Z Z Y) (lt2 Z Z) (aj Z (aj Z (af [(55,_)] ⟨.inr ⟨0,_,Z,Z,Z⟩,trivial⟩ (λ sl Cy K hK=>ae Z (bm Z Z Z Z Z (Cy _ _ Z) Z Z hK)) ak))) ?_);refine al (λ _=>.ptr 3 4) Z Z Z (bj Z Z Y) (lt2 Z Z) (aj Z (af [(3,_)] ⟨.inl Z,trivial⟩ (λ sl Cy K hK=>ae Z (aD Z Z Z Z Z Z Z Z (Cy _ _ Z) hK)) (af [(3,_)] ⟨.inl Z,trivial⟩ (λ sl Cy K hK=>ae Z (aD Z Z Z Z Z Z Z Z (Cy _ _ Z) hK)) ak))) (al (λ _=>.p (eL eS Cz.AI)) Z Z Z (bj Z Z Y) (lt2 Z Z) (aj Z (af [(57,_)] ⟨.inr ⟨2,_,Z,Z,Z⟩,trivial⟩ (λ sl Cy K hK=>ae Z (bm Z Z Z Z Z (Cy _ _ Z) Z Z hK)) (af [(57,_)] ⟨.inr ⟨2,_,Z,Z,Z⟩,trivial⟩ (λ sl Cy K hK=>ae Z (bm Z Z Z Z Z (Cy _ _ Z) Z Z hK)) ak))) ?_);refine al (λ _=>.p (eI i28)) Z Z Z (bj Z Z Y) (lt2 Z Z) (aj Z (af [(9,_)] ⟨.inl Z,trivial⟩ (λ sl Cy K hK=>ae Z (aA Z Z Z (Cy _ _ Z) hK)) (af [(9,_)] ⟨.inl Z,trivial⟩ (λ sl Cy K hK=>ae Z (aA Z Z Z (Cy _ _ Z) hK)) ak))) (al (λ _=>.rptr [eS (lat Cz.AI i28)]) Z Z Z (bj Z Z Y) (lt2 Z Z) (aj Z (af [(58,_),(59,_)] ⟨.inr ⟨3,_,Z,Z,Z⟩,.inr ⟨4,_,Z,Z,Z⟩,trivial⟩ (λ sl Cy K hK=>ae Z (cO (f:=eS) (l:=Cz.AI) (λ x=>[eS x]) Z Z Z Z Z Z (Cy _ _ Z) Z (Cy _ _ Z) Gr Y Y hK)) (af [(58,_),(59,_)] ⟨.inr ⟨3,_,Z,Z,Z⟩,.inr ⟨4,_,Z,Z,Z⟩,trivial⟩ (λ sl Cy K hK=>ae Z (cO (f:=eS) (l:=Cz.AI) (λ x=>[eS x]) Z Z Z Z Z Z (Cy _ _ Z) Z (Cy _ _ Z) Gr Y Y hK)) ak))) ?_);refine al (λ _=>.p (eS (lat Cz.AI i28))) Z Z Z (bj Z Z Y) (lt2 Z Z) (aj Z (af [(60,_)] ⟨.inr ⟨5,_,Z,Z,Z⟩,trivial⟩ (λ sl Cy K hK=>ae Z (fF Z Z Z Z Z (Cy _ _ Z) Z hK)) (af [(60,_)] ⟨.inr ⟨5,_,Z,Z,Z⟩,trivial⟩ (λ sl Cy K hK=>ae Z (fF Z Z Z Z Z (Cy _ _ Z) Z hK)) ak))) (al (λ _=>.p (eL eS [lat Cz.AI i28])) Z Z Z (bj Z Z Y) (lt2 Z Z) (aj Z (aj Z (af [(61,_)] ⟨.inr ⟨6,_,Z,Z,Z⟩,trivial⟩ (λ sl Cy K hK=>ae Z (bA eS [lat Cz.AI i28] Z Z Z Z Z Z (cH (Cy _ _ Z) Z eT) Z Z Z Z Z Z Z hK)) ak))) ?_);refine cQ (λ _=>.vec 63 1 0 ((Dk.2.2++[lat Cz.AI i28]).map eS)) [(56,_),(62,_)] Z ⟨.inr ⟨1,_,Z,Z,Z⟩,.inr ⟨7,_,Z,Z,Z⟩,trivial⟩ Z Z (Go.Ab.bK Z Y) (lt2 (λ h=>absurd h (by decide)) Y) (λ sl Cy K hK=>ae Z (dS eS Dk.2.2 [lat Cz.AI i28] Z Z Z Z Z Z Z Z (Cy _ _ Z) Z Z (Cy _ _ Z) Z Y Z Z Z Z Gq hK)) (al (λ _=>.ptr 7 4) Z Z Z (bj Z Z Y) (lt2 Z Z) (aj Z (af [(7,_)] ⟨.inl Z,trivial⟩ (λ sl Cy K hK=>ae Z (aD Z Z Z Z Z Z Z Z (Cy _ _ Z) hK)) (aj Z ak))) ?_);refine ct [(63,_),(64,_)] Z ⟨.inr ⟨8,_,Z,Z,Z⟩,.inr ⟨9,_,Z,Z,Z⟩,trivial⟩ Z (λ sl Cy K hK=>ae Z (cv Z Z Z (Cy _ _ Z) (Cy _ _ Z) Z Z Z (ph Z) hK)) (eY ?_);refine nx 1 Z (cc' h2 λ Hm h2=>?_);refine cc' h2 λ hk48 h2=>mG (gE (t:=⟨[(1,.p (eS key_1)),(3,.ptr 3 0),(5,.ptr 5 0),(6,.ptr 6 0),(7,.ptr 7 0),(8,.p (eB Dk.1)),(9,.p (eI i28))],[(3,(aa.cs Cz).map .p),(5,(aa.cs x_2).map .p),(6,[.p (eI 0),.p (eI 0),.p (eS ([]:Bk)),.p (.val (.slice none 0 0)),.p (.val (.slice none 0 0))]),(7,[.p (eI 5),.p (eI 0),.p (eS ([]:Bk)),.vec 73 5 0 (Dk.2.1.map ah),.vec 63 1 0 ((Dk.2.2++[lat Cz.AI i28]).map eS)])]⟩) Z Z) (mS ⟨2,[8,10],(by3 (.some λ i=>Nat.beq i 73||Nat.beq i 73) .none .none),(λ _=>[(1,.p (eS key_1)),(3,.ptr 3 0),(5,.ptr 5 0),(6,.ptr 6 0),(7,.ptr 7 0),(8,.p (eB Dk.1)),(9,.p (eI i28))]),(by3 ([(3,[.p (eI Cz.AT),.p (eI Cz.A'),.p (eS Cz.By),.p (eL ah Cz.Ar),.p (eL eS Cz.AI)]),(5,[.p (eI x_2.AT),.p (eI x_2.A'),.p (eS x_2.By),.p (eL ah x_2.Ar),.p (eL eS x_2.AI)]),(6,[.p (eI 0),.p (eI 0),.p (eS ([]:Bk)),.p (.val (.slice none 0 0)),.p (.val (.slice none 0 0))]),(7,[.p (eI 5),.p (eI 0),.p (eS ([]:Bk)),.vec 73 5 0 (Dk.2.1.map ah),.vec 63 1 0 ((Dk.2.2++[lat Cz.AI i28]).map eS)])]) ([(3,[.p (eI Cz.AT),.p (eI Cz.A'),.p (eS Cz.By),.p (eL ah Cz.Ar),.p (eL eS Cz.AI)]),(5,[.p (eI x_2.AT),.p (eI x_2.A'),.p (eS x_2.By),.p (eL ah x_2.Ar),.p (eL eS x_2.AI)]),(6,[.p (eI 0),.p (eI 0),.p (eS ([]:Bk)),.p (.val (.slice none 0 0)),.p (.val (.slice none 0 0))]),(7,[.p (eI 5),.p (eI 0),.p (eS ([]:Bk)),.p (eL ah Dk.2.1),.vec 63 1 0 ((Dk.2.2++[lat Cz.AI i28]).map eS)])]) ([(7,[.p (eI 5),.p (eI 0),.p (eS ([]:Bk)),.vec 73 5 0 ((Dk.2.1++[(lat Cz.Ar i28)]).map ah),.vec 63 1 0 ((Dk.2.2++[lat Cz.AI i28]).map eS)]),(3,[.p (eI Cz.AT),.p (eI Cz.A'),.p (eS Cz.By),.p (eL ah Cz.Ar),.p (eL eS Cz.AI)]),(5,[.p (eI x_2.AT),.p (eI x_2.A'),.p (eS x_2.By),.p (eL ah x_2.Ar),.p (eL eS x_2.AI)]),(6,[.p (eI 0),.p (eI 0),.p (eS ([]:Bk)),.p (.val (.slice none 0 0)),.p (.val (.slice none 0 0))]),(7,[.p (eI 5),.p (eI 0),.p (eS ([]:Bk)),.p (eL ah Dk.2.1),.vec 63 1 0 ((Dk.2.2++[lat Cz.AI i28]).map eS)])]))⟩ Z Z Z ⟨Z,Z,Z,Z,Z,Z,Z,trivial⟩ (lt2 ⟨Z,Z,Z,Z,Z,Z,Z,trivial⟩ ⟨Z,Z,Z,Z,Z,Z,Z,trivial⟩) Z Z Z Z ?_);refine al (λ _=>.ptr 7 3) Z Z Z (bj Z Z Y) (lt2 Z Z) (aj Z (af [(7,_)] ⟨.inl Z,trivial⟩ (λ sl Cy K hK=>ae Z (aD Z Z Z Z Z Z Z Z (Cy _ _ Z) hK)) (af [(7,_)] ⟨.inl Z,trivial⟩ (λ sl Cy K hK=>ae Z (aD Z Z Z Z Z Z Z Z (Cy _ _ Z) hK)) ak))) (al (by3 (.vec 73 5 0 (Dk.2.1.map ah)) (.p (eL ah Dk.2.1)) (.p (eL ah Dk.2.1))) Z Z Z (bj Z Z Y) (lt2 Z Z) (aj Z (aj Z (af [(65,_)] ⟨.inr ⟨0,_,Z,Z,Z⟩,trivial⟩ (λ sl Cy K hK=>ae Z (bm Z Z Z Z Z (Cy _ _ Z) Z Z hK)) ak))) ?_);refine al (λ _=>.ptr 3 3) Z Z Z (bj Z Z Y) (lt2 Z Z) (aj Z (af [(3,_)] ⟨.inl Z,trivial⟩ (λ sl Cy K hK=>ae Z (aD Z Z Z Z Z Z Z Z (Cy _ _ Z) hK)) (af [(3,_)] ⟨.inl Z,trivial⟩ (λ sl Cy K hK=>ae Z (aD Z Z Z Z Z Z Z Z (Cy _ _ Z) hK)) ak))) (al (λ _=>.p (eL ah Cz.Ar)) Z Z Z (bj Z Z Y) (lt2 Z Z) (aj Z (af [(67,_)] ⟨.inr ⟨2,_,Z,Z,Z⟩,trivial⟩ (λ sl Cy K hK=>ae Z (bm Z Z Z Z Z (Cy _ _ Z) Z Z hK)) (af [(67,_)] ⟨.inr ⟨2,_,Z,Z,Z⟩,trivial⟩ (λ sl Cy K hK=>ae Z (bm Z Z Z Z Z (Cy _ _ Z) Z Z hK)) ak))) ?_);refine al (λ _=>.p (eI i28)) Z Z Z (bj Z Z Y) (lt2 Z Z) (aj Z (af [(9,_)] ⟨.inl Z,trivial⟩ (λ sl Cy K hK=>ae Z (aA Z Z Z (Cy _ _ Z) hK)) (af [(9,_)] ⟨.inl Z,trivial⟩ (λ sl Cy K hK=>ae Z (aA Z Z Z (Cy _ _ Z) hK)) ak))) (al (λ _=>.rptr (aa.cs (lat Cz.Ar i28))) Z Z Z (bj Z Z Y) (lt2 Z Z) (aj Z (af [(68,_),(69,_)] ⟨.inr ⟨3,_,Z,Z,Z⟩,.inr ⟨4,_,Z,Z,Z⟩,trivial⟩ (λ sl Cy K hK=>ae Z (cO (f:=ah) (l:=Cz.Ar) aa.cs Z Z Z Z Z Z (Cy _ _ Z) Z (Cy _ _ Z) Hm aa.B' Y hK)) (af [(68,_),(69,_)] ⟨.inr ⟨3,_,Z,Z,Z⟩,.inr ⟨4,_,Z,Z,Z⟩,trivial⟩ (λ sl Cy K hK=>ae Z (cO (f:=ah) (l:=Cz.Ar) aa.cs Z Z Z Z Z Z (Cy _ _ Z) Z (Cy _ _ Z) Hm aa.B' Y hK)) ak))) ?_);refine al (λ _=>.p (.agg (aa.cs (lat Cz.Ar i28)))) Z Z Z (bj Z Z Y) (lt2 Z Z) (aj Z (af [(70,_)] ⟨.inr ⟨5,_,Z,Z,Z⟩,trivial⟩ (λ sl Cy K hK=>ae Z (fE Z Z Z Z Z (Cy _ _ Z) Z hK)) (af [(70,_)] ⟨.inr ⟨5,_,Z,Z,Z⟩,trivial⟩ (λ sl Cy K hK=>ae Z (fE Z Z Z Z Z (Cy _ _ Z) Z hK)) ak))) (al (λ _=>.p (eL ah [(lat Cz.Ar i28)])) Z Z Z (bj Z Z Y) (lt2 Z Z) (aj Z (aj Z (af [(71,_)] ⟨.inr ⟨6,_,Z,Z,Z⟩,trivial⟩ (λ sl Cy K hK=>ae Z (bA ah [(lat Cz.Ar i28)] Z Z Z Z Z Z (cH (Cy _ _ Z) Z eT) Z Z Z Z Z Z (by first|rfl|(simp only [cl,py,aa.Cv]; done)|(simp only [cl,py,aa.Cv]; rfl)) hK)) ak))) ?_);refine cQ (λ _=>.vec 73 5 0 ((Dk.2.1++[(lat Cz.Ar i28)]).map ah)) [(66,_),(72,_)] Z ⟨.inr ⟨1,_,Z,Z,Z⟩,.inr ⟨7,_,Z,Z,Z⟩,trivial⟩ Z Z (Go.Ab.bK Z Y) (lt2 (λ h=>absurd h (by decide)) Y) (λ sl Cy K hK=>ae Z (dS ah Dk.2.1 [(lat Cz.Ar i28)] Z Z Z Z Z Z Z Z (Cy _ _ Z) Z Z (Cy _ _ Z) Z (λ x=>congrArg List.length (aa.B' x)) Z Z Z Z hk48 hK)) (al (λ _=>.ptr 7 3) Z Z Z (bj Z Z Y) (lt2 Z Z) (aj Z (af [(7,_)] ⟨.inl Z,trivial⟩ (λ sl Cy K hK=>ae Z (aD Z Z Z Z Z Z Z Z (Cy _ _ Z) hK)) (aj Z ak))) ?_);refine ct [(73,_),(74,_)] Z ⟨.inr ⟨8,_,Z,Z,Z⟩,.inr ⟨9,_,Z,Z,Z⟩,trivial⟩ Z (λ sl Cy K hK=>ae Z (cv Z Z Z (Cy _ _ Z) (Cy _ _ Z) Z Z Z (ph Z) hK)) (eY ?_);exact nx 1 Z (eX _ (oi h2).symm (gE Z Z))
   refine nx 1 Z (bd h3 λ G' h4 h3=>?_);refine kN G' (λ v83=>⟨[(1,.p (eS key_1)),(3,.ptr 3 0),(5,.ptr 5 0),(6,.ptr 6 0),(7,.ptr 7 0),(8,.p (eB done27)),(9,.p (eI i28)),(35,.p (eB v83))],[(3,(aa.cs Cz).map .p),(5,(aa.cs x_2).map .p),(6,[.p (eI 0),.p (eI 0),.p (eS ([]:Bk)),.p (.val (.slice none 0 0)),.p (.val (.slice none 0 0))]),(7,[.p (eI 5),.p (eI 0),.p (eS ([]:Bk)),.vec 73 5 0 (FK.map ah),.vec 63 1 0 (D4.map eS)])]⟩) ?_ ?_
   ·refine nx 1 Z (fB [35] h3 Z (λ c37 h3=>?_) λ c37 h3=>?_)
    ·refine nx 6 Z (mO Z (bA eS [key_1] Z Z Z Z Z Z Z Z Z Z Z Z Z Z ?_));refine cc' h3 λ Fh h3=>mO Z (dS eS D4 [key_1] Z Z Z Z Z Z Z Z Z Z Z Z Z Y Z Z Z Z Fh ?_);refine nx 8 Z (mO Z (bA ah [x_2] Z Z Z Z Z Z Z Z Z Z Z Z Z (by first|rfl|(simp only [cl,py,aa.Cv]; done)|(simp only [cl,py,aa.Cv]; rfl)) ?_));refine cc' h3 λ FH h3=>mO Z (dS ah FK [x_2] Z Z Z Z Z Z Z Z Z Z Z Z Z (λ x=>congrArg List.length (aa.B' x)) Z Z Z Z FH ?_);exact nx 6 Z (eX _ (oi h3).symm (aQ (bp 40 63 Z Z Z Z Z) (aQ (bp 46 73 Z Z Z Z Z) (gE Z Z))))
    exact nx 2 Z (eX _ (oi h3).symm (gE Z Z))
   refine nx 4 Z (fB [26,27] h4 Z (λ HF h4=>?_) λ HF h4=>?_)
   ·refine nx 3 Z (oE h4 Y Z Z Y λ FI h4=>?_);refine nx 2 Z (oS Z Z ?_);exact nx 2 Z (eX _ (oi h4).symm (gE Z Z))
   exact nx 9 Z (eX _ (oi h4).symm (gE Z Z))
  exact nx 2 Z (eXi _ (oi h1).symm (gE Z Z))
 refine nx 4 Z (oLl (f:=eS) Z Z ?_);refine nx 2 Z (fD [15,16] h2 Z (λ Eu h2=>?_) λ Eu h2=>?_)
 ·refine nx 3 Z (oLl (f:=ah) Z Z ?_);exact nx 3 Z (eX _ (oi h2).symm (gE Z Z))
 exact nx 7 Z (eX _ (oi h2).symm (gE Z Z))
def g9:Nat->aa->(List ac)->aa->Option (aa×Int)|0,_,_,_=>none|n+1,Cz,p_1,x_2=>if (p_1.length:Int)=0 then some (x_2,0)else ck ((0:Int)<=0/\0<(p_1.length:Int))<|(gz n Cz (lat p_1 0)).bind λ r3=>(if r3.2=16 then ck ((0:Int)<=0/\0<(p_1.length:Int))<|if (!((lat p_1 0).Cu))=true then some (decide ((p_1.length:Int)=1))else some false else some false : Option Bool).bind λ t8=>if t8=true then ck ((0:Int)<=0/\0<(p_1.length:Int))<|(jO n Cz ((lat p_1 0).BY) x_2).bind λ D2=>some (D2,0)else if r3.2=0 then ck ((0:Int)<=r3.1/\r3.1<(Cz.Ar.length:Int))<|ck ((0:Int)<=1/\1<=(p_1.length:Int)/\(p_1.length:Int)<=(p_1.length:Int))<|((g9 n) (lat Cz.Ar r3.1) (sub p_1 1 (p_1.length:Int)) x_2).bind λ Dn=>if Dn.2=0 then ck (Cz.Ar.length*80<=140737488355328)<|ck ((0:Int)<=r3.1/\r3.1<(Cz.Ar.length:Int))<|some (aa.mk Cz.AT Cz.A' Cz.By (Cz.Ar.set r3.1.toNat Dn.1) Cz.AI,0)else some ((aa.mk 0 0 ([]:Bk) [] []),Dn.2)else some ((aa.mk 0 0 ([]:Bk) [] []),r3.2)
theorem sH (n:Nat):∀ (Cz:aa) (p_1:List ac) (x_2:aa) (r:aa×Int),g9 n Cz p_1 x_2=some r->au Tryz.prog 47 [.agg (aa.cs Cz),eL ag p_1,.agg (aa.cs x_2)] (·=.tuple [.p (.agg (aa.cs r.1)),.p (eI r.2)]):=by
 induction n with
 | zero=>intro Cz p_1 x_2 r h0; cases h0
 | succ n ih=>
 have Dj:=ih;intro Cz p_1 x_2 r h0;rw [g9] at h0;refine aZ good Tryz.func47 Z Z Z λ w0=>mP (λ v:aa×Int=>.tuple [.p (.agg (aa.cs v.1)),.p (eI v.2)]) ?_;refine nx 11 Z (oLl (f:=ag) Z Z ?_);refine nx 2 Z (fD [15] h0 Z (λ c1 h0=>?_) λ c1 h0=>?_)
 ·exact nx 8 Z (mQ (oi h0) Z (ar ⟨sr,sr,trivial⟩))
 refine nx 3 Z (cc' h0 λ D1 h0=>?_);refine bd h0 λ r3 e4 h0=>mD [(1,.p (eL ag p_1)),(3,.ptr 3 0),(5,.ptr 5 0),(6,.ptr 6 0)] Z ⟨Z,Z,Z,Z,trivial⟩ Z (dR 2 Z ?_);refine dq (.rptr (ac.cs (lat p_1 0))) [19] Z (λ _ e _ q=>ae Z (cO (f:=ag) (l:=p_1) ac.cs Z Z Z Z Z Z (e _ _ Z) Z Z D1 ac.B' Y q)) Z (dR 1 Z ?_);refine dq (.tuple [.p (eI r3.1),.p (eI r3.2)]) [18,21] Z (λ _ e _ q=>ae Z (aY (kq _ Cz (lat p_1 0) _ e4) Z Z Z (am (e _ _ Z) (am (e _ _ Z) aM)) ⟨sr,sr,trivial⟩ Tryz.call44 Z q)) Z (dR 5 Z ?_);refine dE Z (nx 3 Z ?_);refine bd h0 λ o22 h1 h0=>kN o22 (λ v23=>⟨[(1,.p (eL ag p_1)),(3,.ptr 3 0),(5,.ptr 5 0),(6,.ptr 6 0),(8,.p (eI r3.1)),(9,.p (eI r3.2)),(38,.p (eB v23))],[(3,(aa.cs Cz).map .p),(5,(aa.cs x_2).map .p),(6,[.p (eI 0),.p (eI 0),.p (eS ([]:Bk)),.p (.val (.slice none 0 0)),.p (.val (.slice none 0 0))])]⟩) ?_ ?_
 ·refine nx 1 Z (fB [38] h0 Z (λ c9 h0=>?_) λ c9 h0=>?_)
  ·refine nx 2 Z (cc' h0 λ Es h0=>?_);refine bd h0 λ D2 FZ h0=>mG (gE (t:=⟨[(1,.p (eL ag p_1)),(3,.ptr 3 0),(5,.ptr 5 0),(6,.ptr 6 0)],[(3,(aa.cs Cz).map .p),(5,(aa.cs x_2).map .p),(6,[.p (eI 0),.p (eI 0),.p (eS ([]:Bk)),.p (.val (.slice none 0 0)),.p (.val (.slice none 0 0))])]⟩) Z Z) (mS ⟨1,[7],(λ _=>.none),(λ _=>[(1,.p (eL ag p_1)),(3,.ptr 3 0),(5,.ptr 5 0),(6,.ptr 6 0)]),(by2 ([(3,[.p (eI Cz.AT),.p (eI Cz.A'),.p (eS Cz.By),.p (eL ah Cz.Ar),.p (eL eS Cz.AI)]),(5,[.p (eI x_2.AT),.p (eI x_2.A'),.p (eS x_2.By),.p (eL ah x_2.Ar),.p (eL eS x_2.AI)]),(6,[.p (eI 0),.p (eI 0),.p (eS ([]:Bk)),.p (.val (.slice none 0 0)),.p (.val (.slice none 0 0))])]) ([(6,[.p (eI D2.AT),.p (eI D2.A'),.p (eS D2.By),.p (eL ah D2.Ar),.p (eL eS D2.AI)]),(3,[.p (eI Cz.AT),.p (eI Cz.A'),.p (eS Cz.By),.p (eL ah Cz.Ar),.p (eL eS Cz.AI)]),(5,[.p (eI x_2.AT),.p (eI x_2.A'),.p (eS x_2.By),.p (eL ah x_2.Ar),.p (eL eS x_2.AI)]),(6,[.p (eI 0),.p (eI 0),.p (eS ([]:Bk)),.p (.val (.slice none 0 0)),.p (.val (.slice none 0 0))])]))⟩ Z Z Z ⟨Z,Z,Z,Z,trivial⟩ (lt1 ⟨Z,Z,Z,Z,trivial⟩) Z Z Z Z ?_);refine al (λ _=>.p (.agg (aa.cs Cz))) Z Z Z (Go.Ab.bK Z Y) (lt1 Z) (aj Z (af [(3,_)] ⟨.inl Z,trivial⟩ (λ sl Cy K hK=>ae Z (aN Z Z Z Z Z (Cy _ _ Z) Z Z Z hK)) ak)) (al (λ _=>.p (eL ag p_1)) Z Z Z (Go.Ab.bK Z Y) (lt1 Z) (aj Z (af [(1,_)] ⟨.inl Z,trivial⟩ (λ sl Cy K hK=>ae Z (aA Z Z Z (Cy _ _ Z) hK)) ak)) ?_);refine al (λ _=>.rptr (ac.cs (lat p_1 0))) Z Z Z (Go.Ab.bK Z Y) (lt1 Z) (aj Z (af [(40,_)] ⟨.inr ⟨1,_,Z,Z,Z⟩,trivial⟩ (λ sl Cy K hK=>ae Z (cO (f:=ag) (l:=p_1) ac.cs Z Z Z Z Z Z (Cy _ _ Z) Z Z Es ac.B' Y hK)) ak)) (al (λ _=>.rptr (List.drop 2 (ac.cs (lat p_1 0)))) Z Z Z (Go.Ab.bK Z Y) (lt1 Z) (aj Z (af [(41,_)] ⟨.inr ⟨2,_,Z,Z,Z⟩,trivial⟩ (λ sl Cy K hK=>ae Z (jB Z Z Z Z Z Z Z Z (Cy _ _ Z) hK)) ak)) ?_);refine al (λ _=>.p (eS ((lat p_1 0).BY))) Z Z Z (Go.Ab.bK Z Y) (lt1 Z) (aj Z (af [(42,_)] ⟨.inr ⟨3,_,Z,Z,Z⟩,trivial⟩ (λ sl Cy K hK=>ae Z (fF Z Z Z Z Z (Cy _ _ Z) Z hK)) ak)) (al (λ _=>.p (.agg (aa.cs x_2))) Z Z Z (Go.Ab.bK Z Y) (lt1 Z) (aj Z (af [(5,_)] ⟨.inl Z,trivial⟩ (λ sl Cy K hK=>ae Z (aN Z Z Z Z Z (Cy _ _ Z) Z Z Z hK)) ak)) ?_);refine al (λ _=>.p (.agg (aa.cs D2))) Z Z Z (Go.Ab.bK Z Y) (lt1 Z) (aj Z (af [(39,_),(43,_),(44,_)] ⟨.inr ⟨0,_,Z,Z,Z⟩,.inr ⟨4,_,Z,Z,Z⟩,.inr ⟨5,_,Z,Z,Z⟩,trivial⟩ (λ sl Cy K hK=>ae Z (aY (ss _ Cz ((lat p_1 0).BY) x_2 _ FZ) Z Z Z (am (Cy _ _ Z) (am (Cy _ _ Z) (am (Cy _ _ Z) aM))) ⟨sr,sr,sr,trivial⟩ Tryz.call77 Z hK)) ak)) (ct [(6,_),(45,_)] Z ⟨.inl Z,.inr ⟨6,_,Z,Z,Z⟩,trivial⟩ Z (λ sl Cy K hK=>ae Z (cv Z Z Z (Cy _ _ Z) (Cy _ _ Z) Z Z Z (ph Z) hK)) ?_);refine al (λ _=>.p (eI 0)) Z Z Z (Go.Ab.bK Z Y) (lt1 Z) (af [] trivial (λ sl Cy K hK=>ae Z (bq Z Z Z Z hK)) (aj Z ak)) (eY ?_);exact nx 2 Z (mQ (oi h0) Z (ar ⟨sr,sr,trivial⟩))
  refine nx 8 Z (fN [47] h0 Z (λ EP h0=>?_) λ EP h0=>?_)
  ·refine nx 3 Z (cc' h0 λ Er h0=>?_);refine cc' h0 λ DW h0=>bd h0 λ Dn FX h0=>mG (gE (t:=⟨[(1,.p (eL ag p_1)),(3,.ptr 3 0),(5,.ptr 5 0),(6,.ptr 6 0),(8,.p (eI r3.1))],[(3,(aa.cs Cz).map .p),(5,(aa.cs x_2).map .p),(6,[.p (eI 0),.p (eI 0),.p (eS ([]:Bk)),.p (.val (.slice none 0 0)),.p (.val (.slice none 0 0))])]⟩) Z Z) (mS ⟨2,[12,13],(by3 (.some λ i=>Nat.beq i 10) .none .none),(λ _=>[(1,.p (eL ag p_1)),(3,.ptr 3 0),(5,.ptr 5 0),(6,.ptr 6 0),(8,.p (eI r3.1))]),(by3 ([(3,[.p (eI Cz.AT),.p (eI Cz.A'),.p (eS Cz.By),.p (eL ah Cz.Ar),.p (eL eS Cz.AI)]),(5,[.p (eI x_2.AT),.p (eI x_2.A'),.p (eS x_2.By),.p (eL ah x_2.Ar),.p (eL eS x_2.AI)]),(6,[.p (eI 0),.p (eI 0),.p (eS ([]:Bk)),.p (.val (.slice none 0 0)),.p (.val (.slice none 0 0))])]) ([(10,[.p (eI 0),.p (eI 0),.p (eS ([]:Bk)),.p (.val (.slice none 0 0)),.p (.val (.slice none 0 0))]),(3,[.p (eI Cz.AT),.p (eI Cz.A'),.p (eS Cz.By),.p (eL ah Cz.Ar),.p (eL eS Cz.AI)]),(5,[.p (eI x_2.AT),.p (eI x_2.A'),.p (eS x_2.By),.p (eL ah x_2.Ar),.p (eL eS x_2.AI)]),(6,[.p (eI 0),.p (eI 0),.p (eS ([]:Bk)),.p (.val (.slice none 0 0)),.p (.val (.slice none 0 0))])]) ([(10,[.p (eI Dn.1.AT),.p (eI Dn.1.A'),.p (eS Dn.1.By),.p (eL ah Dn.1.Ar),.p (eL eS Dn.1.AI)]),(10,[.p (eI 0),.p (eI 0),.p (eS ([]:Bk)),.p (.val (.slice none 0 0)),.p (.val (.slice none 0 0))]),(3,[.p (eI Cz.AT),.p (eI Cz.A'),.p (eS Cz.By),.p (eL ah Cz.Ar),.p (eL eS Cz.AI)]),(5,[.p (eI x_2.AT),.p (eI x_2.A'),.p (eS x_2.By),.p (eL ah x_2.Ar),.p (eL eS x_2.AI)]),(6,[.p (eI 0),.p (eI 0),.p (eS ([]:Bk)),.p (.val (.slice none 0 0)),.p (.val (.slice none 0 0))])]))⟩ Z Z Z ⟨Z,Z,Z,Z,Z,trivial⟩ (lt2 ⟨Z,Z,Z,Z,Z,trivial⟩ ⟨Z,Z,Z,Z,Z,trivial⟩) Z Z Z Z ?_);refine al (λ _=>.ptr 3 3) Z Z Z (bj Z Z Y) (lt2 Z Z) (aj Z (af [(3,_)] ⟨.inl Z,trivial⟩ (λ sl Cy K hK=>ae Z (aD Z Z Z Z Z Z Z Z (Cy _ _ Z) hK)) (af [(3,_)] ⟨.inl Z,trivial⟩ (λ sl Cy K hK=>ae Z (aD Z Z Z Z Z Z Z Z (Cy _ _ Z) hK)) ak))) (al (λ _=>.p (eL ah Cz.Ar)) Z Z Z (bj Z Z Y) (lt2 Z Z) (aj Z (af [(51,_)] ⟨.inr ⟨0,_,Z,Z,Z⟩,trivial⟩ (λ sl Cy K hK=>ae Z (bm Z Z Z Z Z (Cy _ _ Z) Z Z hK)) (af [(51,_)] ⟨.inr ⟨0,_,Z,Z,Z⟩,trivial⟩ (λ sl Cy K hK=>ae Z (bm Z Z Z Z Z (Cy _ _ Z) Z Z hK)) ak))) ?_);refine al (λ _=>.p (eI r3.1)) Z Z Z (bj Z Z Y) (lt2 Z Z) (aj Z (af [(8,_)] ⟨.inl Z,trivial⟩ (λ sl Cy K hK=>ae Z (aA Z Z Z (Cy _ _ Z) hK)) (af [(8,_)] ⟨.inl Z,trivial⟩ (λ sl Cy K hK=>ae Z (aA Z Z Z (Cy _ _ Z) hK)) ak))) (al (λ _=>.rptr (aa.cs (lat Cz.Ar r3.1))) Z Z Z (bj Z Z Y) (lt2 Z Z) (aj Z (af [(52,_),(53,_)] ⟨.inr ⟨1,_,Z,Z,Z⟩,.inr ⟨2,_,Z,Z,Z⟩,trivial⟩ (λ sl Cy K hK=>ae Z (cO (f:=ah) (l:=Cz.Ar) aa.cs Z Z Z Z Z Z (Cy _ _ Z) Z (Cy _ _ Z) Er aa.B' Y hK)) (af [(52,_),(53,_)] ⟨.inr ⟨1,_,Z,Z,Z⟩,.inr ⟨2,_,Z,Z,Z⟩,trivial⟩ (λ sl Cy K hK=>ae Z (cO (f:=ah) (l:=Cz.Ar) aa.cs Z Z Z Z Z Z (Cy _ _ Z) Z (Cy _ _ Z) Er aa.B' Y hK)) ak))) ?_);refine al (λ _=>.p (.agg (aa.cs (lat Cz.Ar r3.1)))) Z Z Z (bj Z Z Y) (lt2 Z Z) (aj Z (af [(54,_)] ⟨.inr ⟨3,_,Z,Z,Z⟩,trivial⟩ (λ sl Cy K hK=>ae Z (fE Z Z Z Z Z (Cy _ _ Z) Z hK)) (af [(54,_)] ⟨.inr ⟨3,_,Z,Z,Z⟩,trivial⟩ (λ sl Cy K hK=>ae Z (fE Z Z Z Z Z (Cy _ _ Z) Z hK)) ak))) (al (λ _=>.p (eL ag p_1)) Z Z Z (bj Z Z Y) (lt2 Z Z) (aj Z (af [(1,_)] ⟨.inl Z,trivial⟩ (λ sl Cy K hK=>ae Z (aA Z Z Z (Cy _ _ Z) hK)) (af [(1,_)] ⟨.inl Z,trivial⟩ (λ sl Cy K hK=>ae Z (aA Z Z Z (Cy _ _ Z) hK)) ak))) ?_);refine al (λ _=>.p (eL ag (sub p_1 1 (p_1.length:Int)))) Z Z Z (bj Z Z Y) (lt2 Z Z) (aj Z (af [(56,_)] ⟨.inr ⟨5,_,Z,Z,Z⟩,trivial⟩ (λ sl Cy K hK=>ae Z (iM (f:=ag) (l:=p_1) Z Z Z Z Z Z (Cy _ _ Z) Z Z Z DW (λ x=>congrArg List.length (ac.B' x)) hK)) (af [(56,_)] ⟨.inr ⟨5,_,Z,Z,Z⟩,trivial⟩ (λ sl Cy K hK=>ae Z (iM (f:=ag) (l:=p_1) Z Z Z Z Z Z (Cy _ _ Z) Z Z Z DW (λ x=>congrArg List.length (ac.B' x)) hK)) ak))) (al (λ _=>.p (.agg (aa.cs x_2))) Z Z Z (bj Z Z Y) (lt2 Z Z) (aj Z (af [(5,_)] ⟨.inl Z,trivial⟩ (λ sl Cy K hK=>ae Z (aN Z Z Z Z Z (Cy _ _ Z) Z Z Z hK)) (af [(5,_)] ⟨.inl Z,trivial⟩ (λ sl Cy K hK=>ae Z (aN Z Z Z Z Z (Cy _ _ Z) Z Z Z hK)) ak))) ?_);refine al (λ _=>.tuple [.p (.agg (aa.cs Dn.1)),.p (eI Dn.2)]) Z Z Z (bj Z Z Y) (lt2 Z Z) (aj Z (af [(55,_),(57,_),(58,_)] ⟨.inr ⟨4,_,Z,Z,Z⟩,.inr ⟨6,_,Z,Z,Z⟩,.inr ⟨7,_,Z,Z,Z⟩,trivial⟩ (λ sl Cy K hK=>ae Z (aY (Dj (lat Cz.Ar r3.1) (sub p_1 1 (p_1.length:Int)) x_2 _ FX) Z Z Z (am (Cy _ _ Z) (am (Cy _ _ Z) (am (Cy _ _ Z) aM))) ⟨sr,sr,sr,trivial⟩ Tryz.call47 Z hK)) (af [(55,_),(57,_),(58,_)] ⟨.inr ⟨4,_,Z,Z,Z⟩,.inr ⟨6,_,Z,Z,Z⟩,.inr ⟨7,_,Z,Z,Z⟩,trivial⟩ (λ sl Cy K hK=>ae Z (aY (Dj (lat Cz.Ar r3.1) (sub p_1 1 (p_1.length:Int)) x_2 _ FX) Z Z Z (am (Cy _ _ Z) (am (Cy _ _ Z) (am (Cy _ _ Z) aM))) ⟨sr,sr,sr,trivial⟩ Tryz.call47 Z hK)) ak))) (al (λ _=>.tuple [.p (.agg (aa.cs Dn.1)),.p (eI Dn.2)]) Z Z Z (bj Z Z Y) (lt2 Z Z) (aj Z (af [(59,_)] ⟨.inr ⟨8,_,Z,Z,Z⟩,trivial⟩ (λ sl Cy K hK=>ae Z (aA Z Z Z (Cy _ _ Z) hK)) (af [(59,_)] ⟨.inr ⟨8,_,Z,Z,Z⟩,trivial⟩ (λ sl Cy K hK=>ae Z (aA Z Z Z (Cy _ _ Z) hK)) ak))) ?_);refine al (λ _=>.p (.agg (aa.cs Dn.1))) Z Z Z (bj Z Z Y) (lt2 Z Z) (aj Z (af [(50,_)] ⟨.inr ⟨9,_,Z,Z,Z⟩,trivial⟩ (λ sl Cy K hK=>ae Z (aF Z Z Z (Cy _ _ Z) Z hK)) (af [(50,_)] ⟨.inr ⟨9,_,Z,Z,Z⟩,trivial⟩ (λ sl Cy K hK=>ae Z (aF Z Z Z (Cy _ _ Z) Z hK)) ak))) (al (λ _=>.p (eI Dn.2)) Z Z Z (bj Z Z Y) (lt2 Z Z) (af [(50,_)] ⟨.inr ⟨9,_,Z,Z,Z⟩,trivial⟩ (λ sl Cy K hK=>ae Z (aF Z Z Z (Cy _ _ Z) Z hK)) (af [(50,_)] ⟨.inr ⟨9,_,Z,Z,Z⟩,trivial⟩ (λ sl Cy K hK=>ae Z (aF Z Z Z (Cy _ _ Z) Z hK)) (af [(50,_)] ⟨.inr ⟨9,_,Z,Z,Z⟩,trivial⟩ (λ sl Cy K hK=>ae Z (aF Z Z Z (Cy _ _ Z) Z hK)) ak))) ?_);refine cQ (λ _=>.ptr 10 0) [] Z trivial Z Z (Go.Ab.bK Z Y) (lt2 (λ h=>absurd h (by decide)) Y) (λ sl Cy K hK=>ae Z (eG Z Z Z Z Z hK)) (ct [(10,_),(60,_)] Z ⟨.inr ⟨12,_,Z,Z,Z⟩,.inr ⟨10,_,Z,Z,Z⟩,trivial⟩ Z (λ sl Cy K hK=>ae Z (cv Z Z Z (Cy _ _ Z) (Cy _ _ Z) Z Z Z (ph Z) hK)) ?_);refine al (λ _=>.p (eI Dn.2)) Z Z Z (bj Z Z Y) (lt2 Z Z) (af [(61,_)] ⟨.inr ⟨11,_,Z,Z,Z⟩,trivial⟩ (λ sl Cy K hK=>ae Z (bq Z Z Z (Cy _ _ Z) hK)) (aj Z (aj Z ak))) (eY ?_);refine nx 7 Z (fN [63] h0 Z (λ EN h0=>?_) λ EN h0=>?_)
   ·refine nx 10 Z (mO Z (qZ Z Z Z Z Z Z 5 ?_));refine nx 2 Z (cc' h0 λ DT h0=>cc' h0 λ C4 h0=>?_);refine mO Z (wH ah [] Cz.Ar Z Z Z Z Z Z Z Z Z Z Z Z Z Z Z (λ x=>congrArg List.length (aa.B' x)) Z Z Z (by simpa using DT) ?_);refine nx 9 Z (mO Z (cz Z Z Z Z Z Z Z Z Z (by simpa using C4) ?_));refine mO Z (kD ah aa.cs Cz.Ar Dn.1 (n:=r3.1) Z Z Z Z Z Z Z Z C4 aa.B' Y Y ?_);refine mG (lD (sl':=[(6,.ptr 6 0),(12,.ptr 12 0)]) (ob':=[(6,[.p (eI 0),.p (eI 0),.p (eS ([]:Bk)),.p (.val (.slice none 0 0)),.p (.val (.slice none 0 0))]),(12,[.p (eI Cz.AT),.p (eI Cz.A'),.p (eS Cz.By),.p (eL ah (Cz.Ar.set r3.1.toNat Dn.1)),.p (eL eS Cz.AI)])]) 70 5 ah (Cz.Ar.set r3.1.toNat Dn.1) Z Z Z (λ x=>⟨congrArg List.length (aa.B' x),by rw [aa.B']; rfl⟩) ⟨⟨_,Z,.inl Z⟩,⟨_,Z,.inl Z⟩,trivial⟩ ⟨⟨Z,_,Z,⟨.inl Z,.inl Z,.inl Z,.inl Z,.inl Z,trivial⟩⟩,⟨Z,_,Z,⟨.inl Z,.inl Z,.inl Z,.inr ⟨G ,Z⟩,.inl Z,trivial⟩⟩,trivial⟩) ?_;exact nx 8 Z (mQ (oi h0) Z (ar ⟨sr,sr,trivial⟩))
   exact nx 9 Z (mQ (oi h0) Z (ar ⟨dY ⟨.inl Z,.inl Z,.inl Z,.inr ⟨Z,Z⟩,.inr ⟨Z,Z⟩,trivial⟩,sr,trivial⟩))
  exact nx 9 Z (mQ (oi h0) Z (ar ⟨dY ⟨.inl Z,.inl Z,.inl Z,.inr ⟨Z,Z⟩,.inr ⟨Z,Z⟩,trivial⟩,sr,trivial⟩))
 refine nx 4 Z (fD [26,27] h1 Z (λ c5 h1=>?_) λ c5 h1=>?_)
 ·refine nx 1 Z (oE h1 ac.B' Z Z Y λ Hj h1=>?_);refine nx 5 Z (fB [32,33,34] h1 Z (λ c7 h1=>?_) λ c7 h1=>?_)
  ·refine nx 1 Z (oLl (f:=ag) Z Z ?_);exact nx 3 Z (eX _ (oi h1).symm (gE Z Z))
  exact nx 5 Z (eX _ (oi h1).symm (gE Z Z))
 exact nx 12 Z (eX _ (oi h1).symm (gE Z Z))
def jJ (n:Nat)(Cz:aa)(p_1:List ac)(x_2:aa):Option (aa×Int) :=(g9 n Cz p_1 x_2).bind λ r1=>if r1.2=0 then(ey n r1.1).bind λ r4=>if r4=0 then some (r1.1,0)else some ((aa.mk 0 0 ([]:Bk) [] []),r4)else some ((aa.mk 0 0 ([]:Bk) [] []),r1.2)
theorem sf (n:Nat)(Cz:aa)(p_1:List ac)(x_2:aa)(r:aa×Int)(h0:jJ n Cz p_1 x_2=some r):au Tryz.prog 21 [.agg (aa.cs Cz),eL ag p_1,.agg (aa.cs x_2)] (·=.tuple [.p (.agg (aa.cs r.1)),.p (eI r.2)]):=by
 unfold jJ at h0;refine aZ good Tryz.func21 Z Z Z λ w0=>mP (λ v:aa×Int=>.tuple [.p (.agg (aa.cs v.1)),.p (eI v.2)]) ?_;refine nx 12 Z (bd h0 λ r1 e2 h0=>?_);refine oK (sH _ Cz p_1 x_2 _ e2) Z ⟨sr,sr,sr,trivial⟩ Tryz.call47 Z (nx 13 Z ?_);refine fN [18] h0 Z (λ c3 h0=>?_) λ c3 h0=>?_
 ·refine nx 5 Z (bd h0 λ r4 e5 h0=>?_);refine oK (kL _ r1.1 _ e5) Z ⟨sr,trivial⟩ Tryz.call27 Z (nx 8 Z ?_);refine fN [24] h0 Z (λ c6 h0=>?_) λ c6 h0=>?_
  ·exact nx 9 Z (mQ (oi h0) Z (ar ⟨sr,sr,trivial⟩))
  exact nx 9 Z (mQ (oi h0) Z (ar ⟨dY ⟨.inl Z,.inl Z,.inl Z,.inr ⟨Z,Z⟩,.inr ⟨Z,Z⟩,trivial⟩,sr,trivial⟩))
 exact nx 9 Z (mQ (oi h0) Z (ar ⟨dY ⟨.inl Z,.inl Z,.inl Z,.inr ⟨Z,Z⟩,.inr ⟨Z,Z⟩,trivial⟩,sr,trivial⟩))
def gD (n:Nat)(Cz:aa)(p_1:List ac)(x_2:aa):Option Bool :=((cL n Cz).bind λ r1=>if (!r1)=true then some true else(cL n x_2).bind λ r4=>if (!r4)=true then some true else(fj n p_1).bind λ r7=>if (!r7)=true then some true else(fm n p_1).bind λ CG=>some (!decide (CG=0)) : Option Bool).bind λ t12=>if t12=true then(cN n).bind λ Ez=>some Ez else(fp n Cz p_1).bind λ Dn=>(jU n Cz p_1).bind λ C5=>(ii n Cz p_1 x_2).bind λ ET=>(jJ n Cz p_1 x_2).bind λ C2=>(if Dn.2=C5.2 then(dC n Dn.1 C5.1).bind λ GW=>if GW=true then if ET.2=C2.2 then(dC n ET.1 C2.1).bind λ Gc=>if Gc=true then(cN n).bind λ Eh=>some Eh else some false else some false else some false else some false : Option Bool).bind λ F7=>some F7
theorem mx (n:Nat)(Cz:aa)(p_1:List ac)(x_2:aa)(r:Bool)(h0:gD n Cz p_1 x_2=some r):au Tryz.prog 4 [.agg (aa.cs Cz),eL ag p_1,.agg (aa.cs x_2)] (·=.p (eB r)):=by
 unfold gD at h0;refine aZ good Tryz.func4 Z Z Z λ w0=>mP (λ v:Bool=>.p (eB v)) ?_;refine nx 8 Z (bd h0 λ o37 h1 h0=>?_);refine kN o37 (λ v38=>⟨[(1,.p (eL ag p_1)),(3,.ptr 3 0),(5,.ptr 5 0),(32,.p (eB v38))],[(3,(aa.cs Cz).map .p),(5,(aa.cs x_2).map .p)]⟩) ?_ ?_
 ·refine nx 1 Z (fB [32] h0 Z (λ EP h0=>?_) λ EP h0=>?_)
  ·refine nx 3 Z (bd h0 λ Ez HA h0=>?_);refine oK (dk _  _ HA) Z trivial Tryz.call11 Z (nx 3 Z ?_);exact mQ (oi h0) Z (sr)
  refine nx 6 Z (bd h0 λ Dn FX h0=>?_);refine oK (dD _ Cz p_1 _ FX) Z ⟨sr,sr,trivial⟩ Tryz.call18 Z (nx 11 Z ?_);refine bd h0 λ C5 e19 h0=>oK (rz _ Cz p_1 _ e19) Z ⟨sr,sr,trivial⟩ Tryz.call19 Z (nx 12 Z ?_);refine bd h0 λ ET e21 h0=>oK (gq _ Cz p_1 x_2 _ e21) Z ⟨sr,sr,sr,trivial⟩ Tryz.call20 Z (nx 12 Z ?_);refine bd h0 λ C2 FL h0=>oK (sf _ Cz p_1 x_2 _ FL) Z ⟨sr,sr,sr,trivial⟩ Tryz.call21 Z (nx 7 Z ?_);refine mG (gE (t:=⟨[(7,.ptr 7 0),(8,.p (eI Dn.2)),(9,.ptr 9 0),(10,.p (eI C5.2)),(11,.ptr 11 0),(12,.p (eI ET.2)),(13,.ptr 13 0),(14,.p (eI C2.2))],[(7,(aa.cs Dn.1).map .p),(9,(aa.cs C5.1).map .p),(11,(aa.cs ET.1).map .p),(13,(aa.cs C2.1).map .p)]⟩) Z Z) (nx 1 Z ?_);refine bd h0 λ o39 h1 h0=>kN o39 (λ Fv=>⟨[(6,.p (eB Fv))],[]⟩) ?_ ?_
  ·exact nx 2 Z (mQ (oi h0) Z (sr))
  refine nx 5 Z (fD [62,63] h1 Z (λ Ew h1=>?_) λ Ew h1=>?_)
  ·refine nx 2 Z (bd h1 λ GW Hz h1=>?_);refine oK (kY _ Dn.1 C5.1 _ Hz) Z ⟨sr,sr,trivial⟩ Tryz.call22 Z (nx 2 Z ?_);refine fB [66,67,68] h1 Z (λ Ft h1=>?_) λ Ft h1=>?_
   ·refine nx 5 Z (fD [71,72,73] h1 Z (λ GD h1=>?_) λ GD h1=>?_)
    ·refine nx 2 Z (bd h1 λ Gc e30 h1=>?_);refine oK (kY _ ET.1 C2.1 _ e30) Z ⟨sr,sr,trivial⟩ Tryz.call22 Z (nx 2 Z ?_);refine fB [76,77,78] h1 Z (λ Eu h1=>?_) λ Eu h1=>?_
     ·refine bd h1 λ Eh Gx h1=>oK (dk _  _ Gx) Z trivial Tryz.call11 Z (nx 3 Z ?_);exact eX _ (oi h1).symm (gE Z Z)
     exact nx 4 Z (eX _ (oi h1).symm (gE Z Z))
    exact nx 9 Z (eX _ (oi h1).symm (gE Z Z))
   exact nx 14 Z (eX _ (oi h1).symm (gE Z Z))
  exact nx 19 Z (eX _ (oi h1).symm (gE Z Z))
 refine nx 2 Z (bd h1 λ r1 e2 h1=>?_);refine oK (eh _ Cz _ e2) Z ⟨sr,trivial⟩ Tryz.call15 Z (nx 2 Z ?_);refine fB [17,18] h1 Z (λ c3 h1=>?_) λ c3 h1=>?_
 ·exact nx 15 Z (eX _ (oi h1).symm (gE Z Z))
 refine nx 1 Z (bd h1 λ r4 e5 h1=>?_);refine oK (eh _ x_2 _ e5) Z ⟨sr,trivial⟩ Tryz.call15 Z (nx 3 Z ?_);refine fB [21,22,23] h1 Z (λ c6 h1=>?_) λ c6 h1=>?_
 ·exact nx 10 Z (eX _ (oi h1).symm (gE Z Z))
 refine nx 1 Z (bd h1 λ r7 e8 h1=>?_);refine oK (jg _ p_1 _ e8) Z ⟨sr,trivial⟩ Tryz.call16 Z (nx 3 Z ?_);refine fB [26,27,28] h1 Z (λ c9 h1=>?_) λ c9 h1=>?_
 ·exact nx 5 Z (eX _ (oi h1).symm (gE Z Z))
 refine nx 1 Z (bd h1 λ CG D7 h1=>?_);refine oK (iY _ p_1 _ D7) Z ⟨sr,trivial⟩ Tryz.call17 Z (nx 3 Z ?_);exact eX _ (oi h1).symm (gE Z Z)
end Go.Ab.R06
end
section
namespace Go.Ab.R06
open Go.Ab Go.Ab.RB Go.Lib
theorem zJ {l:List Bk}(h:Inc l){q:Bk}{t:Nat}(ht:t<l.length)(e:lat l (t:Int)=q):pK l q=t:=by
 rw [<- e,cY _ _ ht]; exact A1 h ht
theorem q6 {v:aa}(hv:jz v)(hk:v.AI.length<=1000000000000000)(s:ac)(hs:0<=s.A'):Ev2 (λ n _=>gz n v s) (·=dM v s):=by
 simp only [gz];by_cases h6:v.AT=6
 ·rw [sD h6]; exact aI h6 (ai rfl)
 refine aE h6 ?_
 cases hi:s.Cu
 ·refine aE G ?_;by_cases h5:v.AT=5
  ·rw [mJ h6 hi h5];refine aI h5 ?_;have hl:=hv.len h5
   have loop:=ju (λ _ m i (_:Unit)=>cI v s m i) v.AI.length (λ i _=>∀ j:Nat,j<i->lat v.AI (j:Int)≠s.BY)
    (P:=(·=if lY v.AI s.BY then .inr (((pK v.AI s.BY:Nat):Int),0) else .inl ())) (λ i _ hlt hI k=>?_) (λ _ hI=>?_) () (λ j hj=>absurd hj O)
   ·have lp:=bX (f:=λ _ m=>cI v s m 0) loop;by_cases hh:lY v.AI s.BY
    ·rw [if_pos hh] at lp ⊢;exact fP _ lp rfl
    ·rw [if_neg hh] at lp ⊢;exact eA () lp (ai rfl)
   ·simp only [cI];refine ay true (aI O (ai (decide_eq_true O))) (aI rfl (ax O (aw (λ h=>ai ?_) (λ h=>ax (a8 O O) (k () (λ j hj=>?_))))))
    ·have e:=zJ hv.inc hlt h;rw [if_pos ⟨by rw [e]; exact hlt,by rw [e]; exact h⟩,e]
    ·rcases Nat.lt_or_ge j i with h1|h1
     ·exact hI j h1
     ·rw [show j=i by omega]; exact h
   ·simp only [cI];refine ay false (aE O (ai rfl)) (aE (by decide) (ai ?_));rw [if_neg (λ hh=>hI _ hh.1 hh.2)]
  ·rw [lm h6 hi h5]; exact aE h5 (ai rfl)
 ·refine aI Z ?_;by_cases h4:v.AT=4
  ·rw [su h6 hi h4];refine aI h4 (ay (decide ((v.Ar.length:Int)<=s.A')) (aE O (ai rfl)) (aw (λ h=>ai ?_) (λ h=>ai ?_)))
   ·rw [if_pos (by simpa using h)]
   ·rw [if_neg (by simpa using h)]
  ·rw [kb h6 hi h4]; exact aE h4 (ai rfl)
theorem zo (P:List ac)(hP:P.length<=1000)(hs:∀ s∈P,gd s):∀ (k i:Nat) (v:aa),i+k=P.length->VV v ->
  Ev2 (λ n m=>cX n P m (i:Int) v.AT v.A' v.By v.Ar v.AI) (λ r=>(∃ w,dm (P.drop i) v=(w,0)/\VV w/\r=.inl (w.AT,w.A',w.By,w.Ar,w.AI))\/(∃ e,e≠0/\dm (P.drop i) v=(iV,e)/\r=.inr (iV,e))):=by
 intro k
 induction k with
 | zero=>
  intro i v hi hv;rw [List.drop_eq_nil_of_le O];refine aT ?_;simp only [cX];exact aE O (ai (.inl ⟨v,rfl,hv,rfl⟩))
 | succ k ih=>
  intro i v hi hv;have hdr:=vo P (i:=i) O;have hm:lat P (i:Int)∈P:=Go.Ab.dU O;rw [hdr];simp only [dm];have hkl:=hv.kl;refine aT ?_;simp only [cX];refine aI O (ax O ?_);rw [aa.eta];refine ay _ (q6 hv.g.node O _ (hs _ hm).num.1) ?_;by_cases h0:(dM v (lat P (i:Int))).2=0
  ·rw [if_pos h0];obtain ⟨j,e,hj⟩:=iJ hv.g.node (hs _ hm).num.1 h0;rw [e];refine aI rfl (ax (by simp only; omega) (ax (a8 O O) ?_));exact kj (P:=λ z=>Ev2 (λ n m=>cX n P m z (lat v.Ar (j:Int)).AT (lat v.Ar (j:Int)).A' (lat v.Ar (j:Int)).By (lat v.Ar (j:Int)).Ar (lat v.Ar (j:Int)).AI) _) (ih (i+1) _ O (hv.at hj))
  ·rw [if_neg h0];exact aE h0 (ai (.inr ⟨_,h0,rfl,rfl⟩))
theorem zD {v:aa}{p:List ac}(hv:VV v)(hs:∀ s∈p,gd s)(hp:p.length<=1000):Ev2 (λ n _=>jU n v p) (·=dm p v):=by
 simp only [jU];obtain ⟨r,hr,N,hN⟩:=bX (f:=λ n m=>cX n p m 0 v.AT v.A' v.By v.Ar v.AI) (zo p hp hs p.length 0 v O hv);rw [List.drop_zero] at hr;rcases hr with ⟨w,e,hw,rfl⟩|⟨e,_,e2,rfl⟩
 ·refine eA _ ⟨_,Z,N,hN⟩ ?_;rw [e,aa.eta];exact ai Z
 ·rw [e2];exact fP _ ⟨_,rfl,N,hN⟩ rfl
def fU {α:Type}(l:List α)(t i:Nat)(y:α):List α:=if t<i then eF (l.take i) t y else l.take i
theorem tX {α:Type} [Inhabited α] {l:List α}{t i:Nat}(y:α)(h:t<=i)(hi:i<l.length):eF (l.take (i+1)) t y=eF (l.take i) t y++[lat l (i:Int)]:=by
 have hl:t<=(l.take i).length:=by rw [sm]; omega
 unfold eF;rw [pP l hi,List.take_append_of_le_length hl,List.drop_append_of_le_length hl,List.append_assoc,List.cons_append]
theorem we {α:Type}(l:List α){t:Nat}(y:α)(h:l.length=t):eF l t y=l++[y]:=by
 unfold eF;rw [List.take_of_length_le O,List.drop_eq_nil_of_le O]
theorem wc {α:Type} [Inhabited α] {l:List α}{t i:Nat}(y:α)(h:i<t)(hi:i<l.length):fU l t (i+1) y=fU l t i y++[lat l (i:Int)]:=by
 unfold fU;rw [if_neg O,if_neg O,pP l hi]
theorem wy {α:Type} [Inhabited α] {l:List α}{t i:Nat}(y:α)(h:t<i)(hi:i<l.length):fU l t (i+1) y=fU l t i y++[lat l (i:Int)]:=by
 unfold fU;rw [if_pos O,if_pos h,tX y O hi]
theorem vW {α:Type} [Inhabited α] {l:List α}{t:Nat}(y:α)(h:t<l.length):fU l t (t+1) y=(fU l t t y++[y])++[lat l (t:Int)]:=by
 unfold fU;rw [if_pos O,if_neg O,tX y (bt _) h,we _ y (by rw [sm]; omega)]
theorem wj {α:Type}{l:List α}{t n:Nat}(y:α)(h:t<n)(hn:n=l.length):fU l t n y=eF l t y:=by
 unfold fU;rw [if_pos h,List.take_of_length_le O]
theorem tQ {α:Type}{l:List α}{n:Nat}(y:α)(hn:n=l.length):fU l n n y++[y]=eF l n y:=by
 unfold fU;rw [if_neg O,List.take_of_length_le O,we l y hn.symm]
theorem mh {α:Type}(l:List α)(t i:Nat)(y:α)(h:i<=l.length):(fU l t i y).length<=i+1:=by
 unfold fU;split
 ·rw [ip (by rw [sm]; omega),sm]; omega
 ·rw [sm]; omega
theorem yr {v x:aa}(hv:VV v)(h5:v.AT=5)(hz:v.A'=0/\v.By=[]){q:Bk}(hq:¬ lY v.AI q):Ev2 (λ n _=>jO n v q x) (·=qB v q x):=by
 have hn:=hv.g.node;have hil:=hv.il;have hkl:=hv.kl;have hl:=hn.len h5;have hle:=pB v.AI q;have hnk:∀ i:Nat,i<v.AI.length->¬ lat v.AI (i:Int)=q:=λ i hi e=>hq ((mr hn.inc q).2 (by rw [<- e]; exact Go.Ab.dU O));have hlt:∀ i:Nat,i<pK v.AI q->Op.bytesLess (lat v.AI (i:Int)) q=true:=λ i hi=>by rw [cY _ _ O]; exact wB O hi
 have hge:pK v.AI q<v.AI.length->Op.bytesLess (lat v.AI ((pK v.AI q:Nat):Int)) q=false:=λ h=>by rw [cY _ _ h]; exact wI h (nc hn.inc) (bt _)
 rw [pD hq];generalize pK v.AI q=t at hle hlt hge ⊢;simp only [jO]
 have loop:=ju (λ _ m i (s:Bool×List aa×List Bk)=>dy v q x m s.1 i s.2.1 s.2.2) v.AI.length (λ i s=>s=(decide (t<i),fU v.Ar t i x,fU v.AI t i q))
  (P:=(·=(decide (t<v.AI.length),fU v.Ar t v.AI.length x,fU v.AI t v.AI.length q))) (λ i s hi hs k=>?_) (λ s hs=>?_) (false,[],[]) (by simp [fU])
 ·refine ay _ (bX (f:=λ _ m=>dy v q x m false 0 [] []) loop) ?_;have l1:=mh v.Ar t v.AI.length x O;have l2:=mh v.AI t v.AI.length q O;by_cases ht:t<v.AI.length
  ·rw [decide_eq_true ht,wj x ht hl,wj q ht rfl];refine ay (eF v.Ar t x,eF v.AI t q) (aE G (ai rfl)) (ai ?_);rw [h5,hz.1,hz.2]
  ·obtain rfl:t=v.AI.length:=by omega
   rw [decide_eq_false ht];refine ay (eF v.Ar v.AI.length x,eF v.AI v.AI.length q) (aI rfl (ax (by simp only [List.length_singleton]; omega) (ax (by simp only [List.length_singleton]; omega) (ai ?_)))) (ai ?_)
   ·rw [tQ x hl,tQ q rfl]
   ·rw [h5,hz.1,hz.2]
 ·subst hs;have l1:=mh v.Ar t i x O;have l2:=mh v.AI t i q O;have CQ:=hnk i hi;simp only [dy];refine ay true (aI O (ai (decide_eq_true O))) (aI rfl ?_);rcases Nat.lt_trichotomy i t with h|h|h
  ·refine ay (false,fU v.Ar t (i+1) x,fU v.AI t (i+1) q) ?_ (ax (a8 O O) (k (_,_,_) (by rw [decide_eq_false O])));refine ay (false,fU v.Ar t i x,fU v.AI t i q) (ay false (aI (by rw [decide_eq_false O]; rfl) (ax O (ai (by rw [hlt i h]; rfl)))) (aE (by decide) (ai (by rw [decide_eq_false (show ¬ t<i by omega)])))) ?_;refine ax O (aE CQ (ax O (ax (by simp only [List.length_singleton]; omega) (ax O (ax (by simp only [List.length_singleton]; omega) (ai ?_))))));rw [wc x h O,wc q h hi]
  ·subst h;refine ay (true,fU v.Ar i (i+1) x,fU v.AI i (i+1) q) ?_ (ax (a8 O O) (k (_,_,_) (by rw [decide_eq_true O])));refine ay (true,fU v.Ar i i x++[x],fU v.AI i i q++[q]) (ay true (aI (by rw [decide_eq_false O]; rfl) (ax O (ai (by rw [hge hi]; rfl)))) (aI rfl (ax (by simp only [List.length_singleton]; omega) (ax (by simp only [List.length_singleton]; omega) (ai rfl))))) ?_;refine ax O (aE CQ (ax O (ax (by simp only [n8,List.length_singleton]; omega) (ax O (ax (by simp only [n8,List.length_singleton]; omega) (ai ?_))))));rw [vW x O,vW q hi]
  ·refine ay (true,fU v.Ar t (i+1) x,fU v.AI t (i+1) q) ?_ (ax (a8 O O) (k (_,_,_) (by rw [decide_eq_true O])));refine ay (true,fU v.Ar t i x,fU v.AI t i q) (ay false (aE (by rw [decide_eq_true O]; decide) (ai Z)) (aE (by decide) (ai (by rw [decide_eq_true (show t<i by omega)])))) ?_;refine ax O (aE CQ (ax O (ax (by simp only [List.length_singleton]; omega) (ax O (ax (by simp only [List.length_singleton]; omega) (ai ?_))))));rw [wy x h O,wy q h hi]
 ·subst hs;simp only [dy];exact ay false (aE O (ai rfl)) (aE (by decide) (ai rfl))
theorem tb {x:aa}:∀ (p:List ac) (v:aa) (lv:Nat),VV v->iw v lv->(∀ s∈p,gd s)->p.length<=1000->Ev2 (λ n _=>g9 n v p x) (·=gg x p v)
 | [],v,lv,hv,ho,hs,hl=>by
  refine ee ?_;simp only [g9];exact aI Z (ai Z)
 | s::p,v,lv,hv,ho,hs,hl=>by
  simp only [d4] at hl;have hs0:=hs s G;have hkl:=hv.kl; have hil:=hv.il;have hl0:lat (s::p) 0=s:=rfl;have hsub:sub (s::p) 1 ((s::p).length:Int)=p:=by rw [oM]; rfl
  refine ee ?_;simp only [g9];refine aE (by simp only [d4]; omega) (ax (by simp only [d4]; omega) ?_);rw [hl0,hsub];refine ay _ (q6 hv.g.node O s hs0.num.1) ?_
  have hcond:Ev2 (λ _ _=>if (dM v s).2=16 then ck ((0:Int)<=0/\0<((s::p).length:Int)) (if (!s.Cu)=true then some (decide (((s::p).length:Int)=1)) else some false) else some false) (·=decide ((dM v s).2=16/\p.length=0/\s.Cu=false)):=by
   refine aw (λ h1=>ax (by simp only [d4]; omega) (aw (λ h2=>ai ?_) (λ h2=>ai ?_))) (λ h1=>ai ?_)
   ·have hi:s.Cu=false:=by simpa using h2
    refine decide_eq_decide.2 ⟨λ q=>⟨h1,by simp only [d4] at q; omega,hi⟩,λ q=>by have:=q.2.1; simp only [d4]; omega⟩
   ·exact (decide_eq_false (λ q=>h2 (by simp [q.2.2]))).symm
   ·exact (decide_eq_false (λ q=>h1 q.1)).symm
  refine ay _ hcond ?_;simp only [gg];by_cases hc:(dM v s).2=16/\p.length=0/\s.Cu=false
  ·rw [if_pos hc];have h16:=rB hc.1 hc.2.2;refine aI (decide_eq_true hc) (ax (by simp only [d4]; omega) ?_);exact ay _ (yr hv h16.1 (lW ho.nd (.inr h16.1)) h16.2) (ai rfl)
  ·rw [if_neg hc];refine aE (by simpa using hc) ?_;by_cases h0:(dM v s).2=0
   ·rw [if_neg (by simpa using h0)];obtain ⟨i,e,hi⟩:=iJ hv.g.node hs0.num.1 h0;rw [e];have ih:=tb (x:=x) p (lat v.Ar (i:Int)) (lv+1) (hv.at hi) (ho.it _ (Go.Ab.dU O)) (λ t ht=>hs t (List.mem_cons_of_mem _ ht)) O;refine aI rfl (ax (by simp only; omega) (ax (by simp only [d4]; omega) (ay _ ih (aw (λ h1=>ax O (ax (by simp only; omega) (ai ?_))) (λ h1=>ai ?_)))))
    ·rw [if_neg (by simpa using h1)]
    ·rw [if_pos h1]; rfl
   ·rw [if_pos h0];exact aE h0 (ai rfl)
theorem zk {v x:aa}{p:List ac}{lv:Nat}(hv:VV v)(ho:iw v lv)(hx:aa.Bd x)(hs:∀ s∈p,gd s)(hp:p.length<=32):Ev2 (λ n _=>jJ n v p x) (·=qA v p x):=by
 simp only [jJ];refine ay _ (tb p v lv hv ho hs O) ?_;unfold qA;by_cases h0:(gg x p v).2=0
 ·rw [if_neg (by simpa using h0)];refine aI h0 (ay _ (pg (mu hx p v hv hs)) (aw (λ h1=>ai ?_) (λ h1=>ai ?_)))
  ·rw [if_neg (by simpa using h1)]
  ·rw [if_pos h1]; rfl
 ·rw [if_pos h0];exact aE h0 (ai rfl)
theorem ws {v x:aa}{p:List ac}(hv:VV v)(hx:aa.Bd x)(hs:∀ s∈p,gd s):aa.Bd (qA v p x).1:=by
 unfold qA;split
 ·exact lh
 ·split
  ·exact lh
  ·exact mu hx p v hv hs
theorem pd {v:aa}:∀ (p:List ac),(∀ s∈p,gd s)->∀ {v:aa},VV v->aa.Bd (dm p v).1
 | [],_,v,hv=>hv.b
 | s::p,hs,v,hv=>by
  simp only [dm];split
  ·rename_i h0;obtain ⟨j,e,hj⟩:=iJ hv.g.node (hs s G).num.1 h0;rw [e];exact pd (v:=v) p (λ t ht=>hs t (List.mem_cons_of_mem _ ht)) (hv.at hj)
  ·exact lh
theorem yR {v x:aa}{p:List ac}(hv:aa.Bd v)(hx:aa.Bd x)(hp:p.length<=1000000000000000)(hp2:∀ s∈p,s.BY.length<=1000000000000000):Ev2 (λ n _=>gD n v p x) (·=true):=by
 simp only [gD];refine bI (λ t=>t=false->(VV v/\iw v 1)/\p.length<=32/\∀ s∈p,gd s) ?_ (λ t ht=>?_)
 ·refine bI _ (mg hv) (λ r hr=>aw (λ _=>ai (λ k=>by cases k)) (λ h=>?_));obtain ⟨g,_,ho⟩:=hr (by simpa using h);refine bI _ (mg hx) (λ r2 hr2=>aw (λ _=>ai (λ k=>by cases k)) (λ h2=>?_));refine bI _ (pr p hp hp2) (λ b hb=>aw (λ _=>ai (λ k=>by cases k)) (λ h3=>?_));have s1:=hb (by simpa using h3);refine ay _ (mU p (λ s hs=>by have:=s1 s hs; omega)) (ai (λ h6=>?_));exact ⟨⟨g,ho⟩,oY.1 (by simpa using h6)⟩
 ·refine aw (λ _=>ay _ ik (ai rfl)) (λ h=>?_);obtain ⟨⟨vv,ho⟩,pl,ps⟩:=ht (by simpa using h);refine ay _ (l6 vv ps O) (ay _ (zD vv ps O) (ay _ (sB vv hx ps pl) (ay _ (zk vv ho hx ps pl) ?_)));refine ay true (aI rfl (ay _ (nK (pd (v:=v) p ps vv) _) (aI (lc (pd (v:=v) p ps vv)) (aI rfl (ay _ (nK (ws vv hx ps) _) (aI (lc (ws vv hx ps)) (ay _ ik (ai rfl)))))))) (ai rfl)
end Go.Ab.R06
end
