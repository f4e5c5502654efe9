/- Texts of the proof, one behind the other. No statement is proved here. -/
import Derived.Test.YtapfhipodpbflaaGreatDoorZ46Sa
import Derived.Test.YtapfhipodpbflaaGreatDoorZ46Sb
import Derived.Test.YtapfhipodpbflaaGreatDoorZ46Sc
import Derived.Test.YtapfhipodpbflaaGreatDoorZ46Sd
set_option maxHeartbeats 4000000
section
namespace Go.Ab.R06
open Go.Proofs Go.Ab Go.Ab.RB
attribute [local irreducible] awp iE bA aC cR AV.sub M dx
def dF (CK:aa->Int->Int->Option Int)(Bu:aa)(levels_2:Int):Nat->Int->Int->Option Int|0,_,_=>none|m+1,n15,i16=>(if i16<(Bu.Ar.length:Int) then some (decide (0<=n15))else some false : Option Bool).bind λ Dc=>if Dc=true then ck ((0:Int)<=i16/\i16<(Bu.Ar.length:Int))<|ck (inR (levels_2-1))<|(CK (lat Bu.Ar i16) n15 (levels_2-1)).bind λ Dv=>ck (inR (i16+1))<|dF CK Bu levels_2 m Dv (i16+1)else some n15
def eY:Nat->aa->Int->Int->Option Int|0,_,_,_=>none|n+1,Bu,nodes_1,levels_2=>(if nodes_1<1 then some true else some (decide (levels_2<1)) : Option Bool).bind λ t2=>if t2=true then some (-1)else ck (inR (nodes_1-1))<|(dF (eY n) Bu levels_2 n (nodes_1-1) 0).bind λ n27=>some n27
theorem qM (n:Nat):∀ (Bu:aa) (nodes_1:Int) (levels_2:Int) (r:Int),eY n Bu nodes_1 levels_2=some r->aC Tryz.prog 69 [.agg (aa.cs Bu),eI nodes_1,eI levels_2] (·=.p (eI r)):=by
 induction n with
 | zero=>intro Bu nodes_1 levels_2 r h0; cases h0
 | succ n ih=>
 have CX:=ih;intro Bu nodes_1 levels_2 r h0;rw [eY] at h0;refine aT good Tryz.func69 Z Z Z λ w0=>mP (λ v:Int=>.p (eI v)) ?_;refine nx 7 Z (bd h0 λ Ht h1 h0=>?_);refine kN Ht (λ G5=>⟨[(1,.p (eI nodes_1)),(2,.p (eI levels_2)),(3,.ptr 3 0),(14,.p (eB G5))],[(3,(aa.cs Bu).map .p)]⟩) ?_ ?_
 ·refine nx 1 Z (fB [14] h0 Z (λ c3 h0=>?_) λ c3 h0=>?_)
  ·exact nx 6 Z (mQ (oi h0) Z (sr))
  refine nx 5 Z (oA h0 Z Z λ FG h0=>?_);refine nx 8 Z (bd h0 λ DG h1 h0=>?_);refine kE 0 DG (λ EI=>⟨[(7,.p (eI EI))],[]⟩) ?_ ?_
  ·exact nx 7 Z (mQ (oi h0) Z (sr))
  refine lG (λ (Da:Int×Int)=>⟨[(2,.p (eI levels_2)),(3,.ptr 3 0),(7,.p (eI Da.1)),(8,.p (eI Da.2))],[(3,(aa.cs Bu).map .p)]⟩) (λ m (Da:Int×Int)=>dF (eY n) Bu levels_2 m Da.1 Da.2) Y (nodes_1-1,0) h1 (gE rfl rfl) ?_;rintro m ⟨n15,i16⟩ h1;replace h1:dF (eY n) Bu levels_2 (m+1) n15 i16=some DG:=h1;rw [dF] at h1;refine nx 2 rfl (bd h1 λ EW h2 h1=>?_);refine kN EW (λ v37=>⟨[(2,.p (eI levels_2)),(3,.ptr 3 0),(7,.p (eI n15)),(8,.p (eI i16)),(25,.p (eB v37))],[(3,(aa.cs Bu).map .p)]⟩) ?_ ?_
  ·refine nx 1 Z (fB [25] h1 Z (λ Ec h1=>?_) λ Ec h1=>?_)
   ·refine nx 8 Z (oE h1 aa.AD Z Z Y λ Ce h1=>?_);refine nx 3 Z (oA h1 Z Z λ E' h1=>?_);refine bd h1 λ Dv Gy h1=>oK (CX (lat Bu.Ar i16) n15 (levels_2-1) _ Gy) Z ⟨sr,sr,sr,trivial⟩ Tryz.call69 Z (nx 4 Z ?_);exact oA h1 Z Z λ D4 h1=>nx 2 Z (eX (Dv,i16+1) h1 (gE Z Z))
   exact nx 2 Z (eXi _ (oi h1).symm (gE Z Z))
  refine nx 4 Z (oLl (f:=ag) Z Z ?_);refine nx 2 Z (fD [21,22] h2 Z (λ DL h2=>?_) λ DL h2=>?_)
  ·exact nx 4 Z (eX _ (oi h2).symm (gE Z Z))
  exact nx 4 Z (eX _ (oi h2).symm (gE Z Z))
 refine nx 4 Z (fD [10,11] h1 Z (λ c1 h1=>?_) λ c1 h1=>?_)
 ·exact nx 4 Z (eX _ (oi h1).symm (gE Z Z))
 exact nx 4 Z (eX _ (oi h1).symm (gE Z Z))
def dD (CL:aa->Option Int)(Bu:aa):Nat->Int->Int->Option Int|0,_,_=>none|m+1,n9,i10=>if i10<(Bu.Ar.length:Int) then ck ((0:Int)<=i10/\i10<(Bu.Ar.length:Int))<|(CL (lat Bu.Ar i10)).bind λ Dn=>ck (inR (n9+Dn))<|ck (inR (i10+1))<|dD CL Bu m (n9+Dn) (i10+1)else some n9
def eT:Nat->aa->Option Int|0,_=>none|n+1,Bu=>(dD (eT n) Bu n (Bu.Aw.length:Int) 0).bind λ n19=>some n19
theorem qK (n:Nat):∀ (Bu:aa) (r:Int),eT n Bu=some r->aC Tryz.prog 70 [.agg (aa.cs Bu)] (·=.p (eI r)):=by
 induction n with
 | zero=>intro Bu r h0; cases h0
 | succ n ih=>
 have CY:=ih;intro Bu r h0;rw [eT] at h0;refine aT good Tryz.func70 Z Z Z λ w0=>mP (λ v:Int=>.p (eI v)) ?_;refine nx 9 Z (oLl (f:=eS) Z Z ?_);refine nx 8 Z (bd h0 λ F1 h1 h0=>?_);refine kE 0 F1 (λ F7=>⟨[(3,.p (eI F7))],[]⟩) ?_ ?_
 ·exact nx 7 Z (mQ (oi h0) Z (sr))
 refine lG (λ (DO:Int×Int)=>⟨[(1,.ptr 1 0),(3,.p (eI DO.1)),(4,.p (eI DO.2))],[(1,(aa.cs Bu).map .p)]⟩) (λ m (DO:Int×Int)=>dD (eT n) Bu m DO.1 DO.2) Y ((Bu.Aw.length:Int),0) h1 (gE rfl rfl) ?_;rintro m ⟨n9,i10⟩ h1;replace h1:dD (eT n) Bu (m+1) n9 i10=some F1:=h1;rw [dD] at h1;refine nx 6 rfl (oLl (f:=ag) rfl rfl ?_);refine nx 2 rfl (fD [12] h1 rfl (λ DC h1=>?_) λ DC h1=>?_)
 ·refine nx 9 Z (oE h1 aa.AD Z Z Y λ Et h1=>?_);refine nx 1 Z (bd h1 λ Dn GA h1=>?_);refine oK (CY (lat Bu.Ar i10) _ GA) Z ⟨sr,trivial⟩ Tryz.call70 Z (oA h1 Z Z λ Df h1=>?_);refine nx 4 Z (oA h1 Z Z λ CZ h1=>?_);exact nx 2 Z (eX (n9+Dn,i10+1) h1 (gE Z Z))
 exact nx 2 Z (eXi _ (oi h1).symm (gE Z Z))
def gJ (n:Nat)(Bu:aa)(nodes_1:Int):Option Bool :=((eY n Bu nodes_1 40).bind λ r1=>if 0<=r1 then(eT n Bu).bind λ r4=>ck (inR (2*nodes_1))<|some (decide (r4<=2*nodes_1))else some false : Option Bool).bind λ t7=>some t7
theorem lX (n:Nat)(Bu:aa)(nodes_1:Int)(r:Bool)(h0:gJ n Bu nodes_1=some r):aC Tryz.prog 37 [.agg (aa.cs Bu),eI nodes_1] (·=.p (eB r)):=by
 unfold gJ at h0;refine aT good Tryz.func37 Z Z Z λ w0=>mP (λ v:Bool=>.p (eB v)) ?_;refine nx 6 Z (bd h0 λ o9 h1 h0=>?_);refine kN o9 (λ Fs=>⟨[(4,.p (eB Fs))],[]⟩) ?_ ?_
 ·exact nx 2 Z (mQ (oi h0) Z (sr))
 refine nx 3 Z (bd h1 λ r1 e2 h1=>?_);refine oK (qM _ Bu nodes_1 40 _ e2) Z ⟨sr,sr,sr,trivial⟩ Tryz.call69 Z (nx 2 Z ?_);refine fD [8,9] h1 Z (λ c3 h1=>?_) λ c3 h1=>?_
 ·refine nx 1 Z (bd h1 λ r4 e5 h1=>?_);refine oK (qK _ Bu _ e5) Z ⟨sr,trivial⟩ Tryz.call70 Z (nx 1 Z ?_);exact oA h1 Z Z λ GY h1=>nx 4 Z (eX _ (oi h1).symm (gE Z Z))
 exact nx 8 Z (eX _ (oi h1).symm (gE Z Z))
def iU (Bu:aa):Option Bool :=(if Bu.Av=2 then some true else if Bu.Av=1 then if Bu.Ay=0 then some true else if Bu.Ay=1 then some true else some (decide (Bu.Ay=0))else some (decide (Bu.Ay=0)) : Option Bool).bind λ num5=>(if Bu.Av=3 then some true else some (decide (Bu.Az=([]:Bk))) : Option Bool).bind λ str7=>(if Bu.Av=4 then some true else if Bu.Av=5 then some true else some (decide ((Bu.Ar.length:Int)=0)) : Option Bool).bind λ items10=>(if Bu.Av=5 then if (Bu.Aw.length:Int)=(Bu.Ar.length:Int) then some true else some false else some (decide ((Bu.Aw.length:Int)=0)) : Option Bool).bind λ keys13=>(if 0<=Bu.Av then if Bu.Av<=6 then if num5=true then if str7=true then if items10=true then some keys13 else some false else some false else some false else some false else some false : Option Bool).bind λ t19=>some t19
theorem pf (Bu:aa)(r:Bool)(h0:iU Bu=some r):aC Tryz.prog 132 [.agg (aa.cs Bu)] (·=.p (eB r)):=by
 unfold iU at h0;refine aT good Tryz.func132 Z Z Z λ w0=>mP (λ v:Bool=>.p (eB v)) ?_;refine nx 6 Z (bd h0 λ Ek h1 h0=>?_);refine kN Ek (λ Fg=>⟨[(1,.ptr 1 0),(3,.p (eB Fg))],[(1,(aa.cs Bu).map .p)]⟩) ?_ ?_
 ·refine nx 2 Z (bd h0 λ Hu h1 h0=>?_);refine kN Hu (λ v28=>⟨[(1,.ptr 1 0),(3,.p (eB Ek)),(4,.p (eB v28))],[(1,(aa.cs Bu).map .p)]⟩) ?_ ?_
  ·refine nx 2 Z (bd h0 λ Ge h1 h0=>?_);refine kN Ge (λ FQ=>⟨[(1,.ptr 1 0),(3,.p (eB Ek)),(4,.p (eB Hu)),(5,.p (eB FQ))],[(1,(aa.cs Bu).map .p)]⟩) ?_ ?_
   ·refine nx 2 Z (bd h0 λ Ht h1 h0=>?_);refine kN Ht (λ G5=>⟨[(1,.ptr 1 0),(3,.p (eB Ek)),(4,.p (eB Hu)),(5,.p (eB Ge)),(6,.p (eB G5))],[(1,(aa.cs Bu).map .p)]⟩) ?_ ?_
    ·refine nx 2 Z (bd h0 λ DG h1 h0=>?_);refine kN DG (λ EI=>⟨[(2,.p (eB EI))],[]⟩) ?_ ?_
     ·exact nx 2 Z (mQ (oi h0) Z (sr))
     refine nx 5 Z (fD [77,78] h1 Z (λ DN h1=>?_) λ DN h1=>?_)
     ·refine nx 5 Z (fD [81,82,83] h1 Z (λ FP h1=>?_) λ FP h1=>?_)
      ·refine nx 3 Z (fB [3,84,85,86] h1 Z (λ FO h1=>?_) λ FO h1=>?_)
       ·refine nx 3 Z (fB [4,87,88,89] h1 Z (λ DL h1=>?_) λ DL h1=>?_)
        ·refine nx 3 Z (fB [5,90,91,92] h1 Z (λ H4 h1=>?_) λ H4 h1=>?_)
         ·exact nx 4 Z (eX _ (oi h1).symm (gE Z Z))
         exact nx 4 Z (eX _ (oi h1).symm (gE Z Z))
        exact nx 7 Z (eX _ (oi h1).symm (gE Z Z))
       exact nx 10 Z (eX _ (oi h1).symm (gE Z Z))
      exact nx 13 Z (eX _ (oi h1).symm (gE Z Z))
     exact nx 18 Z (eX _ (oi h1).symm (gE Z Z))
    refine nx 5 Z (fD [54,55] h1 Z (λ DC h1=>?_) λ DC h1=>?_)
    ·refine nx 2 Z (oLl (f:=eS) Z Z ?_);refine nx 2 Z (oLl (f:=ag) Z Z ?_);refine nx 3 Z (fD [62,63,64] h1 Z (λ Eg h1=>?_) λ Eg h1=>?_)
     ·exact nx 12 Z (eX _ (oi h1).symm (gE Z Z))
     refine nx 4 Z (lT [68] (xc DC) Z ?_);exact nx 8 Z (eX _ (oi h1).symm (gE Z Z))
    refine nx 13 Z (lT [68] (yC DC) Z ?_);refine nx 2 Z (oLl (f:=eS) Z Z ?_);exact nx 5 Z (eX _ (oi h1).symm (gE Z Z))
   refine nx 5 Z (fD [40,41] h1 Z (λ c8 h1=>?_) λ c8 h1=>?_)
   ·exact nx 12 Z (eX _ (oi h1).symm (gE Z Z))
   refine nx 5 Z (fD [44,45,46] h1 Z (λ c9 h1=>?_) λ c9 h1=>?_)
   ·exact nx 7 Z (eX _ (oi h1).symm (gE Z Z))
   refine nx 2 Z (oLl (f:=ag) Z Z ?_);exact nx 4 Z (eX _ (oi h1).symm (gE Z Z))
  refine nx 5 Z (fD [32,33] h1 Z (λ c6 h1=>?_) λ c6 h1=>?_)
  ·exact nx 6 Z (eX _ (oi h1).symm (gE Z Z))
  refine nx 2 Z (oS Z Z ?_);exact nx 3 Z (eX _ (oi h1).symm (gE Z Z))
 refine nx 5 Z (fD [9,10] h1 Z (λ c1 h1=>?_) λ c1 h1=>?_)
 ·exact nx 21 Z (eX _ (oi h1).symm (gE Z Z))
 refine nx 4 Z (fD [13,14] h1 Z (λ c2 h1=>?_) λ c2 h1=>?_)
 ·refine nx 4 Z (fD [17,18] h1 Z (λ c3 h1=>?_) λ c3 h1=>?_)
  ·exact nx 13 Z (eX _ (oi h1).symm (gE Z Z))
  refine nx 7 Z (fD [21,22,23,24,25] h1 Z (λ c4 h1=>?_) λ c4 h1=>?_)
  ·exact nx 6 Z (eX _ (oi h1).symm (gE Z Z))
  exact nx 6 Z (eX _ (oi h1).symm (gE Z Z))
 exact nx 17 Z (eX _ (oi h1).symm (gE Z Z))
def ji (n:Nat)(Bt:Bk):Option Int :=if 4096<(Bt.length:Int) then some 3 else(jG n Bt).bind λ r2=>if (!r2)=true then some 1 else some 0
theorem mw (n:Nat)(Bt:Bk)(r:Int)(h0:ji n Bt=some r):aC Tryz.prog 134 [eS Bt] (·=.p (eI r)):=by
 unfold ji at h0;refine aT good Tryz.func134 Z Z Z λ w0=>mP (λ v:Int=>.p (eI v)) ?_;refine nx 8 Z (oLs Z ?_);refine nx 2 Z (fD [5] h0 Z (λ c1 h0=>?_) λ c1 h0=>?_)
 ·exact nx 6 Z (mQ (oi h0) Z (sr))
 refine nx 6 Z (bd h0 λ r2 e3 h0=>?_);refine oK (qt _ Bt _ e3) Z ⟨sr,trivial⟩ Tryz.call159 Z (nx 2 Z ?_);refine fB [8] h0 Z (λ c4 h0=>?_) λ c4 h0=>?_
 ·exact nx 6 Z (mQ (oi h0) Z (sr))
 exact nx 7 Z (mQ (oi h0) Z (sr))
def dC (n:Nat)(Bu:aa):Nat->Int->Option (Unit⊕Int)|0,_=>none|m+1,i25=>if i25<(Bu.Aw.length:Int) then ck ((0:Int)<=i25/\i25<(Bu.Aw.length:Int))<|(ji n (lat Bu.Aw i25)).bind λ Du=>if Du=0 then(if 0<i25 then ck (inR (i25-1))<|ck ((0:Int)<=i25-1/\i25-1<(Bu.Aw.length:Int))<|ck ((0:Int)<=i25/\i25<(Bu.Aw.length:Int))<|some (!Op.bytesLess (lat Bu.Aw (i25-1)) (lat Bu.Aw i25))else some false : Option Bool).bind λ B5=>if B5=true then some (.inr 1)else ck (inR (i25+1))<|dC n Bu m (i25+1)else some (.inr Du)else some (.inl ())
def j1 (n:Nat)(Bu:aa):Option Int :=(iU Bu).bind λ r1=>if (!r1)=true then some 1 else(if Bu.Av=2 then(kj Bu.Ay).bind λ r5=>some (!r5)else some false : Option Bool).bind λ t7=>if t7=true then some 5 else(ji n Bu.Az).bind λ r9=>if r9=0 then jn (dC n Bu n 0) λ _FW=>some 0 else some r9
theorem qR (n:Nat)(Bu:aa)(r:Int)(h0:j1 n Bu=some r):aC Tryz.prog 104 [.agg (aa.cs Bu)] (·=.p (eI r)):=by
 unfold j1 at h0;refine aT good Tryz.func104 Z Z Z λ w0=>mP (λ v:Int=>.p (eI v)) ?_;refine nx 9 Z (bd h0 λ r1 e2 h0=>?_);refine oK (pf Bu _ e2) Z ⟨sr,trivial⟩ Tryz.call132 Z (nx 2 Z ?_);refine fB [8] h0 Z (λ c3 h0=>?_) λ c3 h0=>?_
 ·exact nx 6 Z (mQ (oi h0) Z (sr))
 refine nx 4 Z (bd h0 λ o42 h1 h0=>?_);refine kN o42 (λ G4=>⟨[(1,.ptr 1 0),(17,.p (eB G4))],[(1,(aa.cs Bu).map .p)]⟩) ?_ ?_
 ·refine nx 1 Z (fB [17] h0 Z (λ c8 h0=>?_) λ c8 h0=>?_)
  ·exact nx 6 Z (mQ (oi h0) Z (sr))
  refine nx 7 Z (bd h0 λ r9 GE h0=>?_);refine oK (mw _ Bu.Az _ GE) Z ⟨sr,trivial⟩ Tryz.call134 Z (nx 7 Z ?_);refine fN [22] h0 Z (λ DC h0=>?_) λ DC h0=>?_
  ·refine nx 8 rfl ?_;obtain ⟨Hs,h1,B8,hR0⟩:=fj h0;refine kEx 0 (λ F5:Unit=>Hs=.inl F5) (λ F5=>⟨[],[]⟩) (λ F5 hv=>?_) ?_
   ·have h0:=B8 _ hv;exact nx 6 Z (mQ (oi h0) Z (sr))
   refine lG (λ (Gb:Int)=>⟨[(1,.ptr 1 0),(4,.p (eI Gb))],[(1,(aa.cs Bu).map .p)]⟩) (λ m (Gb:Int)=>dC n Bu m Gb) Y 0 h1 (gE rfl rfl) ?_;rintro m i25 h1;replace h1:dC n Bu (m+1) i25=some Hs:=h1;rw [dC] at h1;refine nx 6 rfl (oLl (f:=eS) rfl rfl ?_);refine nx 2 rfl (fD [28] h1 rfl (λ H3 h1=>?_) λ H3 h1=>?_)
   ·refine nx 10 Z (oE h1 Y Z Z Y λ Gu h1=>?_);refine nx 1 Z (bd h1 λ Du H0 h1=>?_);refine oK (mw _ (lat Bu.Aw i25) _ H0) Z ⟨sr,trivial⟩ Tryz.call134 Z (nx 7 Z ?_);refine fN [38] h1 Z (λ Fe h1=>?_) λ Fe h1=>?_
    ·refine nx 3 Z (bd h1 λ Hr h2 h1=>?_);refine kN Hr (λ v48=>⟨[(1,.ptr 1 0),(4,.p (eI i25)),(55,.p (eB v48))],[(1,(aa.cs Bu).map .p)]⟩) ?_ ?_
     ·refine nx 1 Z (fB [55] h1 Z (λ FM h1=>?_) λ FM h1=>?_)
      ·exact nx 6 Z (mQ (hR0 _ (oi h1).symm) Z (sr))
      refine nx 4 Z (oA h1 Z Z λ FH h1=>?_);exact nx 2 Z (eX (i25+1) h1 (gE Z Z))
     refine fD (p:=0<i25) [] h2 Z (λ GG h2=>?_) λ GG h2=>?_
     ·refine cc' h2 λ E7 h2=>cc' h2 λ FJ h2=>cc' h2 λ FI h2=>mD [(1,.ptr 1 0),(4,.p (eI i25))] Z ⟨Z,Z,trivial⟩ Z (dR 1 Z ?_);refine dL (dt GG) Z (dR 4 Z ?_);refine dq (.p (eI (i25-1))) [42,45] Z (λ _ e _ q=>ff (nB Z Z Z (e _ _ Z) Z Z E7 q) Z Z (e _ _ Z) (rfl)) Z (dq (.rptr [eS (lat Bu.Aw (i25-1))]) [42,44,46] Z (λ _ e _ q=>ff (dw (f:=eS) (l:=Bu.Aw) (λ x=>[eS x]) Z Z Z Z Z Z (e _ _ Z) Z (e _ _ Z) FJ Y Y q) Z Z (e _ _ Z) (rfl)) Z ?_);refine dR 4 Z (dq (.rptr [eS (lat Bu.Aw i25)]) [42,50,51] Z (λ _ e _ q=>ff (dw (f:=eS) (l:=Bu.Aw) (λ x=>[eS x]) Z Z Z Z Z Z (e _ _ Z) Z (e _ _ Z) FI Y Y q) Z Z (e _ _ Z) (rfl)) Z ?_);refine dR 1 Z (dq (.p (eB (!Op.bytesLess (lat Bu.Aw (i25-1)) (lat Bu.Aw i25)))) [42,48,53] Z (λ _ e _ q=>ff (jR Z Z Z (e _ _ Z) (e _ _ Z) Z q) Z Z (e _ _ Z) (rfl)) Z ?_);refine dR 1 Z (dE Z ?_);exact nx 1 Z (eX _ (oi h2).symm (gE Z Z))
     refine mD [(1,.ptr 1 0),(4,.p (eI i25))] Z ⟨Z,Z,trivial⟩ Z (dR 1 Z ?_);refine dL (df GG) Z (dR 14 Z ?_);refine dE Z (nx 1 Z ?_);exact eX _ (oi h2).symm (gE Z Z)
    exact nx 7 Z (mQ (hR0 _ (oi h1).symm) Z (sr))
   exact nx 2 Z (eXi _ (oi h1).symm (gE Z Z))
  exact nx 7 Z (mQ (oi h0) Z (sr))
 refine nx 5 Z (fD [11,12] h1 Z (λ c4 h1=>?_) λ c4 h1=>?_)
 ·refine nx 2 Z (bd h1 λ r5 e6 h1=>?_);refine oK (qz Bu.Ay _ e6) Z ⟨sr,trivial⟩ Tryz.call133 Z (nx 3 Z ?_);exact eX _ (oi h1).symm (gE Z Z)
 exact nx 6 Z (eX _ (oi h1).symm (gE Z Z))
def dj (Cy:aa->Int->Int->Option (Int×Int))(Bu:aa)(BA:Int):Nat->Int->Int->Option (Int⊕(Int×Int))|0,_,_=>none|m+1,n16,i17=>if i17<(Bu.Ar.length:Int) then ck ((0:Int)<=i17/\i17<(Bu.Ar.length:Int))<|ck (inR (BA+1))<|(Cy (lat Bu.Ar i17) (BA+1) n16).bind λ Cq=>if Cq.1=0 then ck (inR (i17+1))<|dj Cy Bu BA m Cq.2 (i17+1)else some (.inr (Cq.1,Cq.2))else some (.inl n16)
def ew:Nat->aa->Int->Int->Option (Int×Int)|0,_,_,_=>none|n+1,Bu,BA,BO=>if 32<BA then some (4,BO)else if 4096<=BO then some (14,BO)else(j1 n Bu).bind λ r3=>if r3=0 then ck (inR (BO+1))<|jn (dj (ew n) Bu BA n (BO+1) 0) λ n27=>some (0,n27)else some (r3,BO)
theorem qd (n:Nat):∀ (Bu:aa) (BA:Int) (BO:Int) (r:Int×Int),ew n Bu BA BO=some r->aC Tryz.prog 71 [.agg (aa.cs Bu),eI BA,eI BO] (·=.tuple [.p (eI r.1),.p (eI r.2)]):=by
 induction n with
 | zero=>intro Bu BA BO r h0; cases h0
 | succ n ih=>
 have CR:=ih;intro Bu BA BO r h0;rw [ew] at h0;refine aT good Tryz.func71 Z Z Z λ w0=>mP (λ v:Int×Int=>.tuple [.p (eI v.1),.p (eI v.2)]) ?_;refine nx 12 Z (fD [14] h0 Z (λ c1 h0=>?_) λ c1 h0=>?_)
 ·exact nx 8 Z (mQ (oi h0) Z (ci ⟨sr,sr,trivial⟩))
 refine nx 8 Z (fD [17] h0 Z (λ c2 h0=>?_) λ c2 h0=>?_)
 ·exact nx 8 Z (mQ (oi h0) Z (ci ⟨sr,sr,trivial⟩))
 refine nx 6 Z (bd h0 λ r3 e4 h0=>?_);refine oK (qR _ Bu _ e4) Z ⟨sr,trivial⟩ Tryz.call104 Z (nx 7 Z ?_);refine fN [22] h0 Z (λ c5 h0=>?_) λ c5 h0=>?_
 ·refine nx 5 rfl (oA h0 Z Z λ GY h0=>?_);refine nx 8 rfl ?_;obtain ⟨Ge,h1,B8,hR0⟩:=fj h0;refine kEx 0 (λ FQ:Int=>Ge=.inl FQ) (λ FQ=>⟨[(9,.p (eI FQ))],[]⟩) (λ FQ hv=>?_) ?_
  ·have h0:=B8 _ hv;exact nx 8 Z (mQ (oi h0) Z (ci ⟨sr,sr,trivial⟩))
  refine lG (λ (Hh:Int×Int)=>⟨[(1,.p (eI BA)),(3,.ptr 3 0),(9,.p (eI Hh.1)),(10,.p (eI Hh.2))],[(3,(aa.cs Bu).map .p)]⟩) (λ m (Hh:Int×Int)=>dj (ew n) Bu BA m Hh.1 Hh.2) Y (BO+1,0) h1 (gE rfl rfl) ?_;rintro m ⟨n16,i17⟩ h1;replace h1:dj (ew n) Bu BA (m+1) n16 i17=some Ge:=h1;rw [dj] at h1;refine nx 6 rfl (oLl (f:=ag) rfl rfl ?_);refine nx 2 rfl (fD [31] h1 rfl (λ H4 h1=>?_) λ H4 h1=>?_)
  ·refine nx 9 Z (oE h1 aa.AD Z Z Y λ Fb h1=>?_);refine nx 2 Z (oA h1 Z Z λ Ce h1=>?_);refine nx 1 Z (bd h1 λ Cq Fc h1=>?_);refine oK (CR (lat Bu.Ar i17) (BA+1) n16 _ Fc) Z ⟨sr,sr,sr,trivial⟩ Tryz.call71 Z (nx 12 Z ?_);refine fN [47] h1 Z (λ Dz h1=>?_) λ Dz h1=>?_
   ·refine nx 8 Z (oA h1 Z Z λ D4 h1=>?_);exact nx 2 Z (eX (Cq.2,i17+1) h1 (gE Z Z))
   refine nx 8 Z (mG (gE (t:=⟨[(6,.p (eI Cq.1)),(7,.p (eI Cq.2))],[]⟩) Z Z) ?_);exact nx 1 Z (mQ (hR0 _ (oi h1).symm) Z (ci ⟨sr,sr,trivial⟩))
  exact nx 2 Z (eXi _ (oi h1).symm (gE Z Z))
 exact nx 9 Z (mQ (oi h0) Z (ci ⟨sr,sr,trivial⟩))
def eM (n:Nat)(Bu:aa):Option Int :=(ew n Bu 1 0).bind λ r1=>some r1.1
theorem iM (n:Nat)(Bu:aa)(r:Int)(h0:eM n Bu=some r):aC Tryz.prog 38 [.agg (aa.cs Bu)] (·=.p (eI r)):=by
 unfold eM at h0;refine aT good Tryz.func38 Z Z Z λ w0=>mP (λ v:Int=>.p (eI v)) ?_;refine nx 8 Z (bd h0 λ r1 e2 h0=>?_);refine oK (qd _ Bu 1 0 _ e2) Z ⟨sr,sr,sr,trivial⟩ Tryz.call71 Z (nx 12 Z ?_);exact mQ (oi h0) Z (sr)
def iq (n:Nat)(Bu:aa):Option Bool :=(if Bu.Av=0 then(gJ n Bu 60).bind λ r2=>if r2=true then(eM n Bu).bind λ r5=>some (decide (r5=0))else some false else if Bu.Av=5 then(gJ n Bu 60).bind λ r8=>if r8=true then(eM n Bu).bind λ Do=>some (decide (Do=0))else some false else some false : Option Bool).bind λ Cc=>some Cc
theorem l8 (n:Nat)(Bu:aa)(r:Bool)(h0:iq n Bu=some r):aC Tryz.prog 23 [.agg (aa.cs Bu)] (·=.p (eB r)):=by
 unfold iq at h0;refine aT good Tryz.func23 Z Z Z λ w0=>mP (λ v:Bool=>.p (eB v)) ?_;refine nx 6 Z (bd h0 λ El h1 h0=>?_);refine kN El (λ Eh=>⟨[(2,.p (eB Eh))],[]⟩) ?_ ?_
 ·exact nx 2 Z (mQ (oi h0) Z (sr))
 refine nx 5 Z (fD [5,6] h1 Z (λ c1 h1=>?_) λ c1 h1=>?_)
 ·refine nx 6 Z (bd h1 λ r2 e3 h1=>?_);refine oK (lX _ Bu 60 _ e3) Z ⟨sr,sr,trivial⟩ Tryz.call37 Z (nx 2 Z ?_);refine fB [13,14,15] h1 Z (λ c4 h1=>?_) λ c4 h1=>?_
  ·refine nx 1 Z (bd h1 λ r5 e6 h1=>?_);refine oK (iM _ Bu _ e6) Z ⟨sr,trivial⟩ Tryz.call38 Z (nx 4 Z ?_);exact eX _ (oi h1).symm (gE Z Z)
  exact nx 6 Z (eX _ (oi h1).symm (gE Z Z))
 refine nx 5 Z (fD [9,10,11] h1 Z (λ c7 h1=>?_) λ c7 h1=>?_)
 ·refine nx 1 Z (bd h1 λ r8 e9 h1=>?_);refine oK (lX _ Bu 60 _ e9) Z ⟨sr,sr,trivial⟩ Tryz.call37 Z (nx 2 Z ?_);refine fB [13,14,15] h1 Z (λ DD h1=>?_) λ DD h1=>?_
  ·refine nx 1 Z (bd h1 λ Do Eb h1=>?_);refine oK (iM _ Bu _ Eb) Z ⟨sr,trivial⟩ Tryz.call38 Z (nx 4 Z ?_);exact eX _ (oi h1).symm (gE Z Z)
  exact nx 6 Z (eX _ (oi h1).symm (gE Z Z))
 exact nx 10 Z (eX _ (oi h1).symm (gE Z Z))
def iR (n:Nat)(BI:au):Option Bool :=(if 300<(BI.AO.length:Int) then some true else if 300<(BI.AR.length:Int) then some true else some (decide (20<(BI.AN.length:Int))) : Option Bool).bind λ t3=>if t3=true then some false else((iq n BI.AL).bind λ r5=>if r5=true then(iq n BI.AI).bind λ r8=>if r8=true then some true else some (decide (BI.AI.Av=6))else some false : Option Bool).bind λ BX=>some BX
theorem oX (n:Nat)(BI:au)(r:Bool)(h0:iR n BI=some r):aC Tryz.prog 10 [.agg (au.cs BI)] (·=.p (eB r)):=by
 unfold iR at h0;refine aT good Tryz.func10 Z Z Z λ w0=>mP (λ v:Bool=>.p (eB v)) ?_;refine nx 7 Z (bd h0 λ o14 h1 h0=>?_);refine kN o14 (λ v15=>⟨[(1,.ptr 1 0),(18,.p (eB v15))],[(1,(au.cs BI).map .p)]⟩) ?_ ?_
 ·refine nx 1 Z (fB [18] h0 Z (λ c4 h0=>?_) λ c4 h0=>?_)
  ·exact nx 6 Z (mQ (oi h0) Z (sr))
  refine nx 3 Z (bd h0 λ EE h1 h0=>?_);refine kN EE (λ DU=>⟨[(2,.p (eB DU))],[]⟩) ?_ ?_
  ·exact nx 2 Z (mQ (oi h0) Z (sr))
  refine nx 3 Z (bd h1 λ r5 e6 h1=>?_);refine oK (l8 _ BI.AL _ e6) Z ⟨sr,trivial⟩ Tryz.call23 Z (nx 1 Z ?_);refine fB [21,22] h1 Z (λ c7 h1=>?_) λ c7 h1=>?_
  ·refine nx 2 Z (bd h1 λ r8 e9 h1=>?_);refine oK (l8 _ BI.AI _ e9) Z ⟨sr,trivial⟩ Tryz.call23 Z (nx 1 Z ?_);refine fB [25,26] h1 Z (λ DD h1=>?_) λ DD h1=>?_
   ·exact nx 8 Z (eX _ (oi h1).symm (gE Z Z))
   exact nx 8 Z (eX _ (oi h1).symm (gE Z Z))
  exact nx 12 Z (eX _ (oi h1).symm (gE Z Z))
 refine nx 3 Z (oLs Z ?_);refine nx 2 Z (fD [6,7] h1 Z (λ c1 h1=>?_) λ c1 h1=>?_)
 ·exact nx 12 Z (eX _ (oi h1).symm (gE Z Z))
 refine nx 2 Z (oLs Z ?_);refine nx 3 Z (fD [11,12,13] h1 Z (λ c2 h1=>?_) λ c2 h1=>?_)
 ·exact nx 6 Z (eX _ (oi h1).symm (gE Z Z))
 refine nx 2 Z (oLl (f:=eS) Z Z ?_);exact nx 3 Z (eX _ (oi h1).symm (gE Z Z))
def dA (CJ:ak->Int->Int->Option Int)(BC:ak)(levels_2:Int):Nat->Int->Int->Option Int|0,_,_=>none|m+1,n15,i16=>(if i16<(BC.AG.length:Int) then some (decide (0<=n15))else some false : Option Bool).bind λ Dc=>if Dc=true then ck ((0:Int)<=i16/\i16<(BC.AG.length:Int))<|ck (inR (levels_2-1))<|(CJ (lat BC.AG i16) n15 (levels_2-1)).bind λ Dv=>ck (inR (i16+1))<|dA CJ BC levels_2 m Dv (i16+1)else some n15
def eR:Nat->ak->Int->Int->Option Int|0,_,_,_=>none|n+1,BC,nodes_1,levels_2=>(if nodes_1<1 then some true else some (decide (levels_2<1)) : Option Bool).bind λ t2=>if t2=true then some (-1)else ck (inR (nodes_1-1))<|(dA (eR n) BC levels_2 n (nodes_1-1) 0).bind λ n27=>some n27
theorem qD (n:Nat):∀ (BC:ak) (nodes_1:Int) (levels_2:Int) (r:Int),eR n BC nodes_1 levels_2=some r->aC Tryz.prog 83 [.agg (ak.cs BC),eI nodes_1,eI levels_2] (·=.p (eI r)):=by
 induction n with
 | zero=>intro BC nodes_1 levels_2 r h0; cases h0
 | succ n ih=>
 have CW:=ih;intro BC nodes_1 levels_2 r h0;rw [eR] at h0;refine aT good Tryz.func83 Z Z Z λ w0=>mP (λ v:Int=>.p (eI v)) ?_;refine nx 7 Z (bd h0 λ Ht h1 h0=>?_);refine kN Ht (λ G5=>⟨[(1,.p (eI nodes_1)),(2,.p (eI levels_2)),(3,.ptr 3 0),(14,.p (eB G5))],[(3,(ak.cs BC).map .p)]⟩) ?_ ?_
 ·refine nx 1 Z (fB [14] h0 Z (λ c3 h0=>?_) λ c3 h0=>?_)
  ·exact nx 6 Z (mQ (oi h0) Z (sr))
  refine nx 5 Z (oA h0 Z Z λ FG h0=>?_);refine nx 8 Z (bd h0 λ DG h1 h0=>?_);refine kE 0 DG (λ EI=>⟨[(7,.p (eI EI))],[]⟩) ?_ ?_
  ·exact nx 7 Z (mQ (oi h0) Z (sr))
  refine lG (λ (Da:Int×Int)=>⟨[(2,.p (eI levels_2)),(3,.ptr 3 0),(7,.p (eI Da.1)),(8,.p (eI Da.2))],[(3,(ak.cs BC).map .p)]⟩) (λ m (Da:Int×Int)=>dA (eR n) BC levels_2 m Da.1 Da.2) Y (nodes_1-1,0) h1 (gE rfl rfl) ?_;rintro m ⟨n15,i16⟩ h1;replace h1:dA (eR n) BC levels_2 (m+1) n15 i16=some DG:=h1;rw [dA] at h1;refine nx 2 rfl (bd h1 λ EW h2 h1=>?_);refine kN EW (λ v37=>⟨[(2,.p (eI levels_2)),(3,.ptr 3 0),(7,.p (eI n15)),(8,.p (eI i16)),(25,.p (eB v37))],[(3,(ak.cs BC).map .p)]⟩) ?_ ?_
  ·refine nx 1 Z (fB [25] h1 Z (λ Ec h1=>?_) λ Ec h1=>?_)
   ·refine nx 8 Z (oE h1 ak.AD Z Z Y λ Ce h1=>?_);refine nx 3 Z (oA h1 Z Z λ E' h1=>?_);refine bd h1 λ Dv Gy h1=>oK (CW (lat BC.AG i16) n15 (levels_2-1) _ Gy) Z ⟨sr,sr,sr,trivial⟩ Tryz.call83 Z (nx 4 Z ?_);exact oA h1 Z Z λ D4 h1=>nx 2 Z (eX (Dv,i16+1) h1 (gE Z Z))
   exact nx 2 Z (eXi _ (oi h1).symm (gE Z Z))
  refine nx 4 Z (oLl (f:=aA) Z Z ?_);refine nx 2 Z (fD [21,22] h2 Z (λ DL h2=>?_) λ DL h2=>?_)
  ·exact nx 4 Z (eX _ (oi h2).symm (gE Z Z))
  exact nx 4 Z (eX _ (oi h2).symm (gE Z Z))
 refine nx 4 Z (fD [10,11] h1 Z (λ c1 h1=>?_) λ c1 h1=>?_)
 ·exact nx 4 Z (eX _ (oi h1).symm (gE Z Z))
 exact nx 4 Z (eX _ (oi h1).symm (gE Z Z))
def di (Cv:ak->Option Int)(BC:ak):Nat->Int->Int->Option Int|0,_,_=>none|m+1,n9,i10=>if i10<(BC.AG.length:Int) then ck ((0:Int)<=i10/\i10<(BC.AG.length:Int))<|(Cv (lat BC.AG i10)).bind λ Dn=>ck (inR (n9+Dn))<|ck (inR (i10+1))<|di Cv BC m (n9+Dn) (i10+1)else some n9
def eq:Nat->ak->Option Int|0,_=>none|n+1,BC=>(di (eq n) BC n (BC.AC.length:Int) 0).bind λ n19=>some n19
theorem qg (n:Nat):∀ (BC:ak) (r:Int),eq n BC=some r->aC Tryz.prog 84 [.agg (ak.cs BC)] (·=.p (eI r)):=by
 induction n with
 | zero=>intro BC r h0; cases h0
 | succ n ih=>
 have CP:=ih;intro BC r h0;rw [eq] at h0;refine aT good Tryz.func84 Z Z Z λ w0=>mP (λ v:Int=>.p (eI v)) ?_;refine nx 9 Z (oLl (f:=eS) Z Z ?_);refine nx 8 Z (bd h0 λ F1 h1 h0=>?_);refine kE 0 F1 (λ F7=>⟨[(3,.p (eI F7))],[]⟩) ?_ ?_
 ·exact nx 7 Z (mQ (oi h0) Z (sr))
 refine lG (λ (DO:Int×Int)=>⟨[(1,.ptr 1 0),(3,.p (eI DO.1)),(4,.p (eI DO.2))],[(1,(ak.cs BC).map .p)]⟩) (λ m (DO:Int×Int)=>di (eq n) BC m DO.1 DO.2) Y ((BC.AC.length:Int),0) h1 (gE rfl rfl) ?_;rintro m ⟨n9,i10⟩ h1;replace h1:di (eq n) BC (m+1) n9 i10=some F1:=h1;rw [di] at h1;refine nx 6 rfl (oLl (f:=aA) rfl rfl ?_);refine nx 2 rfl (fD [12] h1 rfl (λ DC h1=>?_) λ DC h1=>?_)
 ·refine nx 9 Z (oE h1 ak.AD Z Z Y λ Et h1=>?_);refine nx 1 Z (bd h1 λ Dn GA h1=>?_);refine oK (CP (lat BC.AG i10) _ GA) Z ⟨sr,trivial⟩ Tryz.call84 Z (oA h1 Z Z λ Df h1=>?_);refine nx 4 Z (oA h1 Z Z λ CZ h1=>?_);exact nx 2 Z (eX (n9+Dn,i10+1) h1 (gE Z Z))
 exact nx 2 Z (eXi _ (oi h1).symm (gE Z Z))
def jx (n:Nat)(BC:ak)(nodes_1:Int):Option Bool :=((eR n BC nodes_1 40).bind λ r1=>if 0<=r1 then(eq n BC).bind λ r4=>ck (inR (2*nodes_1))<|some (decide (r4<=2*nodes_1))else some false : Option Bool).bind λ t7=>some t7
theorem pZ (n:Nat)(BC:ak)(nodes_1:Int)(r:Bool)(h0:jx n BC nodes_1=some r):aC Tryz.prog 51 [.agg (ak.cs BC),eI nodes_1] (·=.p (eB r)):=by
 unfold jx at h0;refine aT good Tryz.func51 Z Z Z λ w0=>mP (λ v:Bool=>.p (eB v)) ?_;refine nx 6 Z (bd h0 λ o9 h1 h0=>?_);refine kN o9 (λ Fs=>⟨[(4,.p (eB Fs))],[]⟩) ?_ ?_
 ·exact nx 2 Z (mQ (oi h0) Z (sr))
 refine nx 3 Z (bd h1 λ r1 e2 h1=>?_);refine oK (qD _ BC nodes_1 40 _ e2) Z ⟨sr,sr,sr,trivial⟩ Tryz.call83 Z (nx 2 Z ?_);refine fD [8,9] h1 Z (λ c3 h1=>?_) λ c3 h1=>?_
 ·refine nx 1 Z (bd h1 λ r4 e5 h1=>?_);refine oK (qg _ BC _ e5) Z ⟨sr,trivial⟩ Tryz.call84 Z (nx 1 Z ?_);exact oA h1 Z Z λ GY h1=>nx 4 Z (eX _ (oi h1).symm (gE Z Z))
 exact nx 8 Z (eX _ (oi h1).symm (gE Z Z))
def dK (n:Nat)(l_0:List ax):Nat->Int->Option (Unit⊕Bool)|0,_=>none|m+1,i12=>if i12<(l_0.length:Int) then(ck ((0:Int)<=i12/\i12<(l_0.length:Int))<|if 100<(((lat l_0 i12).AA).length:Int) then some true else ck ((0:Int)<=i12/\i12<(l_0.length:Int))<|(jx n ((lat l_0 i12).AF) 15).bind λ DX=>some (!DX) : Option Bool).bind λ t19=>if t19=true then some (.inr false)else ck (inR (i12+1))<|dK n l_0 m (i12+1)else some (.inl ())
def iy (n:Nat)(l_0:List ax):Option Bool :=if 10<(l_0.length:Int) then some false else jn (dK n l_0 n 0) λ _DO=>some true
theorem lZ (n:Nat)(l_0:List ax)(r:Bool)(h0:iy n l_0=some r):aC Tryz.prog 24 [eL aE l_0] (·=.p (eB r)):=by
 unfold iy at h0;refine aT good Tryz.func24 Z Z Z λ w0=>mP (λ v:Bool=>.p (eB v)) ?_;refine nx 8 Z (oLl (f:=aE) Z Z ?_);refine nx 2 Z (fD [6] h0 Z (λ c1 h0=>?_) λ c1 h0=>?_)
 ·exact nx 6 Z (mQ (oi h0) Z (sr))
 refine nx 8 rfl ?_;obtain ⟨Ek,h1,B8,hR0⟩:=fj h0;refine kEx 0 (λ Fg:Unit=>Ek=.inl Fg) (λ Fg=>⟨[],[]⟩) (λ Fg hv=>?_) ?_
 ·have h0:=B8 _ hv;exact nx 6 Z (mQ (oi h0) Z (sr))
 refine lG (λ (Dw:Int)=>⟨[(0,.p (eL aE l_0)),(3,.p (eI Dw))],[]⟩) (λ m (Dw:Int)=>dK n l_0 m Dw) Y 0 h1 (gE rfl rfl) ?_;rintro m i12 h1;replace h1:dK n l_0 (m+1) i12=some Ek:=h1;rw [dK] at h1;refine nx 5 rfl (oLl (f:=aE) rfl rfl ?_);refine nx 2 rfl (fD [10] h1 rfl (λ DT h1=>?_) λ DT h1=>?_)
 ·refine nx 5 Z (bd h1 λ o28 h2 h1=>?_);refine kN o28 (λ v29=>⟨[(0,.p (eL aE l_0)),(3,.p (eI i12)),(28,.p (eB v29))],[]⟩) ?_ ?_
  ·refine nx 1 Z (fB [28] h1 Z (λ c20 h1=>?_) λ c20 h1=>?_)
   ·exact nx 6 Z (mQ (hR0 _ (oi h1).symm) Z (sr))
   refine nx 4 Z (oA h1 Z Z λ E' h1=>?_);exact nx 2 Z (eX (i12+1) h1 (gE Z Z))
  refine nx 3 Z (oE h2 ax.AD Z Z Y λ DJ h2=>?_);refine nx 2 Z (oLs Z ?_);refine nx 2 Z (fD [19,20] h2 Z (λ FP h2=>?_) λ FP h2=>?_)
  ·exact nx 9 Z (eX _ (oi h2).symm (gE Z Z))
  refine nx 2 Z (oE h2 ax.AD Z Z Y λ CZ h2=>?_);refine nx 2 Z (bd h2 λ DX G0 h2=>?_);refine oK (pZ _ ((lat l_0 i12).AF) 15 _ G0) Z ⟨sr,sr,trivial⟩ Tryz.call51 Z (nx 3 Z ?_);exact eX _ (oi h2).symm (gE Z Z)
 exact nx 2 Z (eXi _ (oi h1).symm (gE Z Z))
def gN (BI:Int):Option Bool :=(if 97<=BI then if BI<=122 then some true else if 65<=BI then if BI<=90 then some true else some (decide (BI=95))else some (decide (BI=95))else if 65<=BI then if BI<=90 then some true else some (decide (BI=95))else some (decide (BI=95)) : Option Bool).bind λ t7=>some t7
theorem lq (BI:Int)(r:Bool)(h0:gN BI=some r):aC Tryz.prog 114 [eK .u8 BI] (·=.p (eB r)):=by
 unfold gN at h0;refine aT good Tryz.func114 Z Z Z λ w0=>mP (λ v:Bool=>.p (eB v)) ?_;refine nx 5 Z (bd h0 λ o9 h1 h0=>?_);refine kN o9 (λ Fs=>⟨[(2,.p (eB Fs))],[]⟩) ?_ ?_
 ·exact nx 2 Z (mQ (oi h0) Z (sr))
 refine nx 4 Z (fD [4,5] h1 Z (λ c1 h1=>?_) λ c1 h1=>?_)
 ·refine nx 4 Z (fD [7,8,9] h1 Z (λ c2 h1=>?_) λ c2 h1=>?_)
  ·exact nx 13 Z (eX _ (oi h1).symm (gE Z Z))
  refine nx 3 Z (fD [11,12] h1 Z (λ c3 h1=>?_) λ c3 h1=>?_)
  ·refine nx 5 Z (fD [14,15,16,17] h1 Z (λ c4 h1=>?_) λ c4 h1=>?_)
   ·exact nx 5 Z (eX _ (oi h1).symm (gE Z Z))
   exact nx 5 Z (eX _ (oi h1).symm (gE Z Z))
  exact nx 10 Z (eX _ (oi h1).symm (gE Z Z))
 refine nx 7 Z (fD [11,12] h1 Z (λ c5 h1=>?_) λ c5 h1=>?_)
 ·refine nx 5 Z (fD [14,15,16,17] h1 Z (λ c6 h1=>?_) λ c6 h1=>?_)
  ·exact nx 5 Z (eX _ (oi h1).symm (gE Z Z))
  exact nx 5 Z (eX _ (oi h1).symm (gE Z Z))
 exact nx 10 Z (eX _ (oi h1).symm (gE Z Z))
def cm (Bt:Bk):Nat->Int->Option (Unit⊕Bool)|0,_=>none|m+1,i20=>if i20<(Bt.length:Int) then(ck ((0:Int)<=i20/\i20<(Bt.length:Int))<|(gN (byt Bt i20)).bind λ Ga=>if (!Ga)=true then ck ((0:Int)<=i20/\i20<(Bt.length:Int))<|if byt Bt i20<48 then some true else ck ((0:Int)<=i20/\i20<(Bt.length:Int))<|some (decide (57<byt Bt i20))else some false : Option Bool).bind λ t29=>if t29=true then some (.inr false)else ck (inR (i20+1))<|cm Bt m (i20+1)else some (.inl ())
def ec (n:Nat)(Bt:Bk):Option Bool :=(if Bt=([]:Bk) then some true else if 64<(Bt.length:Int) then some true else ck ((0:Int)<=0/\0<(Bt.length:Int))<|(gN (byt Bt 0)).bind λ r4=>some (!r4) : Option Bool).bind λ t6=>if t6=true then some false else jn (cm Bt n 0) λ _q34=>some true
theorem gY (n:Nat)(Bt:Bk)(r:Bool)(h0:ec n Bt=some r):aC Tryz.prog 86 [eS Bt] (·=.p (eB r)):=by
 unfold ec at h0;refine aT good Tryz.func86 Z Z Z λ w0=>mP (λ v:Bool=>.p (eB v)) ?_;refine nx 6 Z (bd h0 λ EW h1 h0=>?_);refine kN EW (λ v37=>⟨[(0,.p (eS Bt)),(16,.p (eB v37))],[]⟩) ?_ ?_
 ·refine nx 1 Z (fB [16] h0 Z (λ c7 h0=>?_) λ c7 h0=>?_)
  ·exact nx 6 Z (mQ (oi h0) Z (sr))
  refine nx 8 rfl ?_;obtain ⟨F0,h1,B8,hR0⟩:=fj h0;refine kEx 0 (λ Fp:Unit=>F0=.inl Fp) (λ Fp=>⟨[],[]⟩) (λ Fp hv=>?_) ?_
  ·have h0:=B8 _ hv;exact nx 6 Z (mQ (oi h0) Z (sr))
  refine lG (λ (FW:Int)=>⟨[(0,.p (eS Bt)),(3,.p (eI FW))],[]⟩) (λ m (FW:Int)=>cm Bt m FW) Y 0 h1 (gE rfl rfl) ?_;rintro m i20 h1;replace h1:cm Bt (m+1) i20=some F0:=h1;rw [cm] at h1;refine nx 5 rfl (oLs rfl ?_);refine nx 2 rfl (fD [20] h1 rfl (λ Ey h1=>?_) λ Ey h1=>?_)
  ·refine nx 5 Z (bd h1 λ o41 h2 h1=>?_);refine kN o41 (λ v42=>⟨[(0,.p (eS Bt)),(3,.p (eI i20)),(39,.p (eB v42))],[]⟩) ?_ ?_
   ·refine nx 1 Z (fB [39] h1 Z (λ Fe h1=>?_) λ Fe h1=>?_)
    ·exact nx 6 Z (mQ (hR0 _ (oi h1).symm) Z (sr))
    refine nx 4 Z (oA h1 Z Z λ D2 h1=>?_);exact nx 2 Z (eX (i20+1) h1 (gE Z Z))
   refine nx 3 Z (oI h2 Z λ HV h2=>?_);refine bd h2 λ Ga e24 h2=>oK (lq (byt Bt i20) _ e24) Z ⟨sr,trivial⟩ Tryz.call114 Z (nx 2 Z ?_);refine fB [27,28] h2 Z (λ GJ h2=>?_) λ GJ h2=>?_
   ·refine nx 2 Z (oI h2 Z λ Er h2=>?_);refine nx 2 Z (fD [32,33] h2 Z (λ GI h2=>?_) λ GI h2=>?_)
    ·exact nx 7 Z (eX _ (oi h2).symm (gE Z Z))
    refine nx 2 Z (oI h2 Z λ Gt h2=>?_);exact nx 4 Z (eX _ (oi h2).symm (gE Z Z))
   exact nx 12 Z (eX _ (oi h2).symm (gE Z Z))
  exact nx 2 Z (eXi _ (oi h1).symm (gE Z Z))
 refine nx 2 Z (oS Z Z ?_);refine nx 1 Z (fD [5,6] h1 Z (λ c1 h1=>?_) λ c1 h1=>?_)
 ·exact nx 11 Z (eX _ (oi h1).symm (gE Z Z))
 refine nx 1 Z (oLs Z ?_);refine nx 3 Z (fD [9,10,11] h1 Z (λ c2 h1=>?_) λ c2 h1=>?_)
 ·exact nx 6 Z (eX _ (oi h1).symm (gE Z Z))
 refine nx 1 Z (oI h1 Z λ E8 h1=>?_);refine bd h1 λ r4 e5 h1=>oK (lq (byt Bt 0) _ e5) Z ⟨sr,trivial⟩ Tryz.call114 Z (nx 3 Z ?_);exact eX _ (oi h1).symm (gE Z Z)
def iG (BC:ak):Option Bool :=(if BC.Av<0 then some true else some (decide (6<BC.Av)) : Option Bool).bind λ t2=>if t2=true then some false else if BC.Av=6 then some (decide ((BC.AG.length:Int)=(BC.AC.length:Int)))else(if BC.Av=4 then some true else some (decide (BC.Av=5)) : Option Bool).bind λ t6=>if t6=true then(if (BC.AG.length:Int)=1 then some (decide ((BC.AC.length:Int)=0))else some false : Option Bool).bind λ t9=>some t9 else(if (BC.AG.length:Int)=0 then some (decide ((BC.AC.length:Int)=0))else some false : Option Bool).bind λ BX=>some BX
theorem oZ (BC:ak)(r:Bool)(h0:iG BC=some r):aC Tryz.prog 115 [.agg (ak.cs BC)] (·=.p (eB r)):=by
 unfold iG at h0;refine aT good Tryz.func115 Z Z Z λ w0=>mP (λ v:Bool=>.p (eB v)) ?_;refine nx 7 Z (bd h0 λ EE h1 h0=>?_);refine kN EE (λ DU=>⟨[(1,.ptr 1 0),(10,.p (eB DU))],[(1,(ak.cs BC).map .p)]⟩) ?_ ?_
 ·refine nx 1 Z (fB [10] h0 Z (λ c3 h0=>?_) λ c3 h0=>?_)
  ·exact nx 6 Z (mQ (oi h0) Z (sr))
  refine nx 9 Z (fD [13] h0 Z (λ c4 h0=>?_) λ c4 h0=>?_)
  ·refine nx 5 Z (oLl (f:=aA) Z Z ?_);refine nx 2 Z (oLl (f:=eS) Z Z ?_);exact nx 4 Z (mQ (oi h0) Z (sr))
  refine nx 4 Z (bd h0 λ o18 h1 h0=>?_);refine kN o18 (λ G8=>⟨[(1,.ptr 1 0),(28,.p (eB G8))],[(1,(ak.cs BC).map .p)]⟩) ?_ ?_
  ·refine nx 1 Z (fB [28] h0 Z (λ c7 h0=>?_) λ c7 h0=>?_)
   ·refine nx 2 Z (bd h0 λ GU h1 h0=>?_);refine kN GU (λ F8=>⟨[(2,.p (eB F8))],[]⟩) ?_ ?_
    ·exact nx 2 Z (mQ (oi h0) Z (sr))
    refine nx 3 Z (oLl (f:=aA) Z Z ?_);refine nx 2 Z (fD [32,33] h1 Z (λ c8 h1=>?_) λ c8 h1=>?_)
    ·refine nx 2 Z (oLl (f:=eS) Z Z ?_);exact nx 4 Z (eX _ (oi h1).symm (gE Z Z))
    exact nx 7 Z (eX _ (oi h1).symm (gE Z Z))
   refine nx 3 Z (bd h0 λ Hw h1 h0=>?_);refine kN Hw (λ G7=>⟨[(2,.p (eB G7))],[]⟩) ?_ ?_
   ·exact nx 2 Z (mQ (oi h0) Z (sr))
   refine nx 3 Z (oLl (f:=aA) Z Z ?_);refine nx 2 Z (fD [42,43] h1 Z (λ DD h1=>?_) λ DD h1=>?_)
   ·refine nx 2 Z (oLl (f:=eS) Z Z ?_);exact nx 4 Z (eX _ (oi h1).symm (gE Z Z))
   exact nx 7 Z (eX _ (oi h1).symm (gE Z Z))
  refine nx 5 Z (fD [23,24] h1 Z (λ c5 h1=>?_) λ c5 h1=>?_)
  ·exact nx 5 Z (eX _ (oi h1).symm (gE Z Z))
  exact nx 5 Z (eX _ (oi h1).symm (gE Z Z))
 refine nx 5 Z (fD [5,6] h1 Z (λ c1 h1=>?_) λ c1 h1=>?_)
 ·exact nx 5 Z (eX _ (oi h1).symm (gE Z Z))
 exact nx 5 Z (eX _ (oi h1).symm (gE Z Z))
def dJ (n:Nat)(BC:ak):Nat->Int->Option (Unit⊕Int)|0,_=>none|m+1,i18=>if i18<(BC.AC.length:Int) then ck ((0:Int)<=i18/\i18<(BC.AC.length:Int))<|(ec n (lat BC.AC i18)).bind λ Cq=>if (!Cq)=true then some (.inr 7)else(if 0<i18 then ck (inR (i18-1))<|ck ((0:Int)<=i18-1/\i18-1<(BC.AC.length:Int))<|ck ((0:Int)<=i18/\i18<(BC.AC.length:Int))<|some (!Op.bytesLess (lat BC.AC (i18-1)) (lat BC.AC i18))else some false : Option Bool).bind λ Cu=>if Cu=true then some (.inr 1)else ck (inR (i18+1))<|dJ n BC m (i18+1)else some (.inl ())
def dG (Cw:ak->Int->Option Int)(BC:ak)(BA:Int):Nat->Int->Option (Unit⊕Int)|0,_=>none|m+1,i40=>if i40<(BC.AG.length:Int) then ck ((0:Int)<=i40/\i40<(BC.AG.length:Int))<|ck (inR (BA+1))<|(Cw (lat BC.AG i40) (BA+1)).bind λ r44=>if r44=0 then ck (inR (i40+1))<|dG Cw BC BA m (i40+1)else some (.inr r44)else some (.inl ())
def eN:Nat->ak->Int->Option Int|0,_,_=>none|n+1,BC,BA=>if 32<BA then some 4 else(iG BC).bind λ r2=>if (!r2)=true then some 1 else jn (dJ n BC n 0) λ _GO=>jn (dG (eN n) BC BA n 0) λ _Hf=>some 0
theorem pQ (n:Nat):∀ (BC:ak) (BA:Int) (r:Int),eN n BC BA=some r->aC Tryz.prog 87 [.agg (ak.cs BC),eI BA] (·=.p (eI r)):=by
 induction n with
 | zero=>intro BC BA r h0; cases h0
 | succ n ih=>
 have CQ:=ih;intro BC BA r h0;rw [eN] at h0;refine aT good Tryz.func87 Z Z Z λ w0=>mP (λ v:Int=>.p (eI v)) ?_;refine nx 11 Z (fD [9] h0 Z (λ c1 h0=>?_) λ c1 h0=>?_)
 ·exact nx 6 Z (mQ (oi h0) Z (sr))
 refine nx 6 Z (bd h0 λ r2 e3 h0=>?_);refine oK (oZ BC _ e3) Z ⟨sr,trivial⟩ Tryz.call115 Z (nx 2 Z ?_);refine fB [12] h0 Z (λ c4 h0=>?_) λ c4 h0=>?_
 ·exact nx 6 Z (mQ (oi h0) Z (sr))
 refine nx 8 rfl ?_;obtain ⟨FZ,h1,B8,hR0⟩:=fj h0;refine kEx 0 (λ v53:Unit=>FZ=.inl v53) (λ v53=>⟨[(1,.p (eI BA)),(2,.ptr 2 0)],[(2,(ak.cs BC).map .p)]⟩) (λ v53 hv=>?_) ?_
 ·have h0:=B8 _ hv;refine nx 7 rfl ?_;obtain ⟨o54,h1,B8,hR0⟩:=fj h0;refine kEx 2 (λ v55:Unit=>o54=.inl v55) (λ v55=>⟨[],[]⟩) (λ v55 hv=>?_) ?_
  ·have h0:=B8 _ hv;exact nx 6 Z (mQ (oi h0) Z (sr))
  refine lG (λ (q56:Int)=>⟨[(1,.p (eI BA)),(2,.ptr 2 0),(6,.p (eI q56))],[(2,(ak.cs BC).map .p)]⟩) (λ m (q56:Int)=>dG (eN n) BC BA m q56) Y 0 h1 (gE rfl rfl) ?_;rintro m i40 h1;replace h1:dG (eN n) BC BA (m+1) i40=some o54:=h1;rw [dG] at h1;refine nx 6 rfl (oLl (f:=aA) rfl rfl ?_);refine nx 2 rfl (fD [47] h1 rfl (λ c41 h1=>?_) λ c41 h1=>?_)
  ·refine nx 9 Z (oE h1 ak.AD Z Z Y λ E3 h1=>?_);refine nx 2 Z (oA h1 Z Z λ Eq h1=>?_);refine bd h1 λ r44 e45 h1=>oK (CQ (lat BC.AG i40) (BA+1) _ e45) Z ⟨sr,sr,trivial⟩ Tryz.call87 Z (nx 7 Z ?_);refine fN [59] h1 Z (λ c46 h1=>?_) λ c46 h1=>?_
   ·refine nx 4 Z (oA h1 Z Z λ FE h1=>?_);exact nx 2 Z (eX (i40+1) h1 (gE Z Z))
   exact nx 7 Z (mQ (hR0 _ (oi h1).symm) Z (sr))
  exact nx 2 Z (eXi _ (oi h1).symm (gE Z Z))
 refine lG (λ (q57:Int)=>⟨[(1,.p (eI BA)),(2,.ptr 2 0),(5,.p (eI q57))],[(2,(ak.cs BC).map .p)]⟩) (λ m (q57:Int)=>dJ n BC m q57) Y 0 h1 (gE rfl rfl) ?_;rintro m i18 h1;replace h1:dJ n BC (m+1) i18=some FZ:=h1;rw [dJ] at h1;refine nx 6 rfl (oLl (f:=eS) rfl rfl ?_);refine nx 2 rfl (fD [17] h1 rfl (λ Ec h1=>?_) λ Ec h1=>?_)
 ·refine nx 10 Z (oE h1 Y Z Z Y λ Ce h1=>?_);refine nx 1 Z (bd h1 λ Cq Fc h1=>?_);refine oK (gY _ (lat BC.AC i18) _ Fc) Z ⟨sr,trivial⟩ Tryz.call86 Z (nx 2 Z ?_);refine fB [26] h1 Z (λ Dz h1=>?_) λ Dz h1=>?_
  ·exact nx 6 Z (mQ (hR0 _ (oi h1).symm) Z (sr))
  refine nx 3 Z (bd h1 λ o58 h2 h1=>?_);refine kN o58 (λ v59=>⟨[(1,.p (eI BA)),(2,.ptr 2 0),(5,.p (eI i18)),(42,.p (eB v59))],[(2,(ak.cs BC).map .p)]⟩) ?_ ?_
  ·refine nx 1 Z (fB [42] h1 Z (λ GH h1=>?_) λ GH h1=>?_)
   ·exact nx 6 Z (mQ (hR0 _ (oi h1).symm) Z (sr))
   refine nx 4 Z (oA h1 Z Z λ D3 h1=>?_);exact nx 2 Z (eX (i18+1) h1 (gE Z Z))
  refine fD (p:=0<i18) [] h2 Z (λ Ff h2=>?_) λ Ff h2=>?_
  ·refine cc' h2 λ FK h2=>cc' h2 λ Er h2=>cc' h2 λ Gu h2=>mD [(1,.p (eI BA)),(2,.ptr 2 0),(5,.p (eI i18))] Z ⟨Z,Z,Z,trivial⟩ Z (dR 1 Z ?_);refine dL (dt Ff) Z (dR 4 Z ?_);refine dq (.p (eI (i18-1))) [29,32] Z (λ _ e _ q=>ff (nB Z Z Z (e _ _ Z) Z Z FK q) Z Z (e _ _ Z) (rfl)) Z (dq (.rptr [eS (lat BC.AC (i18-1))]) [29,31,33] Z (λ _ e _ q=>ff (dw (f:=eS) (l:=BC.AC) (λ x=>[eS x]) Z Z Z Z Z Z (e _ _ Z) Z (e _ _ Z) Er Y Y q) Z Z (e _ _ Z) (rfl)) Z ?_);refine dR 4 Z (dq (.rptr [eS (lat BC.AC i18)]) [29,37,38] Z (λ _ e _ q=>ff (dw (f:=eS) (l:=BC.AC) (λ x=>[eS x]) Z Z Z Z Z Z (e _ _ Z) Z (e _ _ Z) Gu Y Y q) Z Z (e _ _ Z) (rfl)) Z ?_);refine dR 1 Z (dq (.p (eB (!Op.bytesLess (lat BC.AC (i18-1)) (lat BC.AC i18)))) [29,35,40] Z (λ _ e _ q=>ff (jR Z Z Z (e _ _ Z) (e _ _ Z) Z q) Z Z (e _ _ Z) (rfl)) Z ?_);refine dR 1 Z (dE Z ?_);exact nx 1 Z (eX _ (oi h2).symm (gE Z Z))
  refine mD [(1,.p (eI BA)),(2,.ptr 2 0),(5,.p (eI i18))] Z ⟨Z,Z,Z,trivial⟩ Z (dR 1 Z ?_);refine dL (df Ff) Z (dR 14 Z ?_);refine dE Z (nx 1 Z ?_);exact eX _ (oi h2).symm (gE Z Z)
 exact nx 2 Z (eXi _ (oi h1).symm (gE Z Z))
def ir (n:Nat)(BC:ak):Option Int :=(eN n BC 1).bind λ r1=>some r1
theorem lR (n:Nat)(BC:ak)(r:Int)(h0:ir n BC=some r):aC Tryz.prog 55 [.agg (ak.cs BC)] (·=.p (eI r)):=by
 unfold ir at h0;refine aT good Tryz.func55 Z Z Z λ w0=>mP (λ v:Int=>.p (eI v)) ?_;refine nx 8 Z (bd h0 λ r1 e2 h0=>?_);refine oK (pQ _ BC 1 _ e2) Z ⟨sr,sr,trivial⟩ Tryz.call87 Z (nx 3 Z ?_);exact mQ (oi h0) Z (sr)
def j6 (n:Nat)(a_0:ax)(before_1:Bk)(first_2:Bool):Option Int :=(ec n a_0.AA).bind λ r1=>if (!r1)=true then some 7 else(if (!first_2)=true then some (Op.bytesLess a_0.AA before_1||decide (a_0.AA=before_1))else some false : Option Bool).bind λ t5=>if t5=true then some 1 else(ir n a_0.AF).bind λ r7=>if r7=0 then(if a_0.AZ<1 then some true else some (decide (4<a_0.AZ)) : Option Bool).bind λ BX=>if BX=true then some 1 else(if a_0.Ba=true then if a_0.AZ=1 then some true else some (decide (a_0.AZ=2))else some false : Option Bool).bind λ t15=>if t15=true then some 1 else some 0 else some r7
theorem qN (n:Nat)(a_0:ax)(before_1:Bk)(first_2:Bool)(r:Int)(h0:j6 n a_0 before_1 first_2=some r):aC Tryz.prog 85 [.agg (ax.cs a_0),eS before_1,eB first_2] (·=.p (eI r)):=by
 unfold j6 at h0;refine aT good Tryz.func85 Z Z Z λ w0=>mP (λ v:Int=>.p (eI v)) ?_;refine nx 10 Z (bd h0 λ r1 e2 h0=>?_);refine oK (gY _ a_0.AA _ e2) Z ⟨sr,trivial⟩ Tryz.call86 Z (nx 2 Z ?_);refine fB [11] h0 Z (λ c3 h0=>?_) λ c3 h0=>?_
 ·exact nx 6 Z (mQ (oi h0) Z (sr))
 refine nx 4 Z (bd h0 λ GU h1 h0=>?_);refine kN GU (λ F8=>⟨[(3,.ptr 3 0),(19,.p (eB F8))],[(3,(ax.cs a_0).map .p)]⟩) ?_ ?_
 ·refine nx 1 Z (fB [19] h0 Z (λ c6 h0=>?_) λ c6 h0=>?_)
  ·exact nx 6 Z (mQ (oi h0) Z (sr))
  refine nx 6 Z (bd h0 λ r7 e8 h0=>?_);refine oK (lR _ a_0.AF _ e8) Z ⟨sr,trivial⟩ Tryz.call55 Z (nx 8 Z ?_);refine fN [24] h0 Z (λ c9 h0=>?_) λ c9 h0=>?_
  ·refine nx 4 Z (bd h0 λ Hw h1 h0=>?_);refine kN Hw (λ G7=>⟨[(3,.ptr 3 0),(33,.p (eB G7))],[(3,(ax.cs a_0).map .p)]⟩) ?_ ?_
   ·refine nx 1 Z (fB [33] h0 Z (λ Eg h0=>?_) λ Eg h0=>?_)
    ·exact nx 6 Z (mQ (oi h0) Z (sr))
    refine nx 4 Z (bd h0 λ Hv h1 h0=>?_);refine kN Hv (λ G6=>⟨[(45,.p (eB G6))],[]⟩) ?_ ?_
    ·refine nx 1 Z (fB [45] h0 Z (λ FO h0=>?_) λ FO h0=>?_)
     ·exact nx 6 Z (mQ (oi h0) Z (sr))
     exact nx 7 Z (mQ (oi h0) Z (sr))
    refine nx 4 Z (fB [35,36] h1 Z (λ DT h1=>?_) λ DT h1=>?_)
    ·refine nx 4 Z (fD [39,40] h1 Z (λ DN h1=>?_) λ DN h1=>?_)
     ·exact nx 6 Z (eX _ (oi h1).symm (gE Z Z))
     exact nx 6 Z (eX _ (oi h1).symm (gE Z Z))
    exact nx 10 Z (eX _ (oi h1).symm (gE Z Z))
   refine nx 5 Z (fD [28,29] h1 Z (λ DD h1=>?_) λ DD h1=>?_)
   ·exact nx 5 Z (eX _ (oi h1).symm (gE Z Z))
   exact nx 5 Z (eX _ (oi h1).symm (gE Z Z))
  exact nx 7 Z (mQ (oi h0) Z (sr))
 refine nx 4 Z (fB [13,14] h1 Z (λ c4 h1=>?_) λ c4 h1=>?_)
 ·refine nx 3 Z (oS Z Z ?_);exact nx 2 Z (eX _ (oi h1).symm (gE Z Z))
 exact nx 6 Z (eX _ (oi h1).symm (gE Z Z))
def dQ (n:Nat)(l_0:List ax)(nested_1:Bool):Nat->Bk->Int->Option (Unit⊕Int)|0,_,_=>none|m+1,before16,i17=>if i17<(l_0.length:Int) then ck ((0:Int)<=i17/\i17<(l_0.length:Int))<|(j6 n (lat l_0 i17) before16 (decide (i17=0))).bind λ Ft=>if Ft=0 then(if nested_1=true then ck ((0:Int)<=i17/\i17<(l_0.length:Int))<|if (lat l_0 i17).AZ=1 then some false else ck ((0:Int)<=i17/\i17<(l_0.length:Int))<|some (!decide ((lat l_0 i17).AZ=2))else some false : Option Bool).bind λ t27=>if t27=true then some (.inr 1)else ck ((0:Int)<=i17/\i17<(l_0.length:Int))<|ck (inR (i17+1))<|dQ n l_0 nested_1 m ((lat l_0 i17).AA) (i17+1)else some (.inr Ft)else some (.inl ())
def iA (n:Nat)(l_0:List ax)(nested_1:Bool):Option Int :=jn (dQ n l_0 nested_1 n ([]:Bk) 0) λ _q33=>some 0
theorem ma (n:Nat)(l_0:List ax)(nested_1:Bool)(r:Int)(h0:iA n l_0 nested_1=some r):aC Tryz.prog 52 [eL aE l_0,eB nested_1] (·=.p (eI r)):=by
 unfold iA at h0;refine aT good Tryz.func52 Z Z Z λ w0=>mP (λ v:Int=>.p (eI v)) ?_;refine nx 14 rfl ?_;obtain ⟨o35,h1,B8,hR0⟩:=fj h0;refine kEx 0 (λ v36:Unit=>o35=.inl v36) (λ v36=>⟨[],[]⟩) (λ v36 hv=>?_) ?_
 ·have h0:=B8 _ hv;exact nx 6 Z (mQ (oi h0) Z (sr))
 refine lG (λ (Hg:Bk×Int)=>⟨[(0,.p (eL aE l_0)),(1,.p (eB nested_1)),(5,.p (eS Hg.1)),(6,.p (eI Hg.2))],[]⟩) (λ m (Hg:Bk×Int)=>dQ n l_0 nested_1 m Hg.1 Hg.2) Y (([]:Bk),0) h1 (gE rfl rfl) ?_;rintro m ⟨before16,i17⟩ h1;replace h1:dQ n l_0 nested_1 (m+1) before16 i17=some o35:=h1;rw [dQ] at h1;refine nx 5 rfl (oLl (f:=aE) rfl rfl ?_);refine nx 2 rfl (fD [11] h1 rfl (λ H4 h1=>?_) λ H4 h1=>?_)
 ·refine nx 8 Z (oE h1 ax.AD Z Z Y λ Fb h1=>?_);refine nx 4 Z (bd h1 λ Ft e21 h1=>?_);refine oK (qN _ (lat l_0 i17) before16 (decide (i17=0)) _ e21) Z ⟨sr,sr,sr,trivial⟩ Tryz.call85 Z (nx 8 Z ?_);refine fN [23] h1 Z (λ c22 h1=>?_) λ c22 h1=>?_
  ·refine nx 4 Z (bd h1 λ F0 h2 h1=>?_);refine kN F0 (λ Fp=>⟨[(0,.p (eL aE l_0)),(1,.p (eB nested_1)),(6,.p (eI i17)),(41,.p (eB Fp))],[]⟩) ?_ ?_
   ·refine nx 1 Z (fB [41] h1 Z (λ FN h1=>?_) λ FN h1=>?_)
    ·exact nx 6 Z (mQ (hR0 _ (oi h1).symm) Z (sr))
    refine nx 5 Z (oE h1 ax.AD Z Z Y λ Gs h1=>?_);refine nx 6 Z (oA h1 Z Z λ D3 h1=>?_);exact nx 2 Z (eX ((lat l_0 i17).AA,i17+1) h1 (gE Z Z))
   refine nx 3 Z (fB [1,25,26] h2 Z (λ Dz h2=>?_) λ Dz h2=>?_)
   ·refine nx 2 Z (oE h2 ax.AD Z Z Y λ D4 h2=>?_);refine nx 5 Z (fN [32,33,34] h2 Z (λ GJ h2=>?_) λ GJ h2=>?_)
    ·exact nx 8 Z (eX _ (oi h2).symm (cr (g4 ⟨er Z,⟨_,Z,lQ Dz.symm⟩,er Z,er Z,trivial⟩ trivial)))
    refine nx 2 Z (oE h2 ax.AD Z Z Y λ Er h2=>?_);exact nx 5 Z (eX _ (oi h2).symm (cr (g4 ⟨er Z,⟨_,Z,lQ Dz.symm⟩,er Z,er Z,trivial⟩ trivial)))
   exact nx 16 Z (eX _ (oi h2).symm (cr (g4 ⟨er Z,⟨_,Z,lQ Dz.symm⟩,er Z,er Z,trivial⟩ trivial)))
  exact nx 7 Z (mQ (hR0 _ (oi h1).symm) Z (sr))
 exact nx 2 Z (eXi _ (oi h1).symm (gE Z Z))
def eh (l_0:List ax)(name_1:Bk):Nat->Int->Option (Unit⊕(ax×Bool))|0,_=>none|m+1,i7=>if i7<(l_0.length:Int) then ck ((0:Int)<=i7/\i7<(l_0.length:Int))<|if (lat l_0 i7).AA=name_1 then ck ((0:Int)<=i7/\i7<(l_0.length:Int))<|some (.inr ((lat l_0 i7),true))else ck (inR (i7+1))<|eh l_0 name_1 m (i7+1)else some (.inl ())
def jg (n:Nat)(l_0:List ax)(name_1:Bk):Option (ax×Bool) :=jn (eh l_0 name_1 n 0) λ _q14=>some ((ax.mk ([]:Bk) (ak.mk 0 [] []) 0 false false false),false)
theorem mA (n:Nat)(l_0:List ax)(name_1:Bk)(r:ax×Bool)(h0:jg n l_0 name_1=some r):aC Tryz.prog 54 [eL aE l_0,eS name_1] (·=.tuple [.p (.agg (ax.cs r.1)),.p (eB r.2)]):=by
 unfold jg at h0;refine aT good Tryz.func54 Z Z Z λ w0=>mP (λ v:ax×Bool=>.tuple [.p (.agg (ax.cs v.1)),.p (eB v.2)]) ?_;refine nx 11 rfl ?_;obtain ⟨El,h1,B8,hR0⟩:=fj h0;refine kEx 0 (λ Eh:Unit=>El=.inl Eh) (λ Eh=>⟨[(4,.ptr 4 0)],[(4,[.p (eS ([]:Bk)),.p (eI 0),.p (.val (.slice none 0 0)),.p (.val (.slice none 0 0)),.p (eI 0),.p (eB false),.p (eB false),.p (eB false)])]⟩) (λ Eh hv=>?_) ?_
 ·have h0:=B8 _ hv;exact nx 8 Z (mQ (oi h0) Z (ci ⟨b7 ⟨.inl Z,.inl Z,.inr ⟨Z,Z⟩,.inr ⟨Z,Z⟩,.inl Z,.inl Z,.inl Z,.inl Z,trivial⟩,sr,trivial⟩))
 refine lG (λ (q17:Int)=>⟨[(0,.p (eL aE l_0)),(1,.p (eS name_1)),(4,.ptr 4 0),(6,.p (eI q17))],[(4,[.p (eS ([]:Bk)),.p (eI 0),.p (.val (.slice none 0 0)),.p (.val (.slice none 0 0)),.p (eI 0),.p (eB false),.p (eB false),.p (eB false)])]⟩) (λ m (q17:Int)=>eh l_0 name_1 m q17) Y 0 h1 (gE rfl rfl) ?_;rintro m i7 h1;replace h1:eh l_0 name_1 (m+1) i7=some El:=h1;rw [eh] at h1;refine nx 5 rfl (oLl (f:=aE) rfl rfl ?_);refine nx 2 rfl (fD [10] h1 rfl (λ c8 h1=>?_) λ c8 h1=>?_)
 ·refine nx 8 Z (oE h1 ax.AD Z Z Y λ hk9 h1=>?_);refine nx 3 Z (oS Z Z ?_);refine nx 1 Z (fD [19] h1 Z (λ DD h1=>?_) λ DD h1=>?_)
  ·refine nx 5 Z (oE h1 ax.AD Z Z Y λ D5 h1=>?_);exact nx 5 Z (mQ (hR0 _ (oi h1).symm) Z (ci ⟨sr,sr,trivial⟩))
  refine nx 4 Z (oA h1 Z Z λ Et h1=>?_);exact nx 2 Z (eX (i7+1) h1 (gE Z Z))
 exact nx 2 Z (eXi _ (oi h1).symm (gE Z Z))
def j8 (n:Nat)(Bt:ap)(Bz:Int):Option Int :=ck ((0:Int)<=Bz/\Bz<(Bt.Ax.length:Int))<|(ec n ((lat Bt.Ax Bz).AA)).bind λ r2=>if (!r2)=true then some 7 else(if 0<Bz then ck (inR (Bz-1))<|ck ((0:Int)<=Bz-1/\Bz-1<(Bt.Ax.length:Int))<|some (Op.bytesLess ((lat Bt.Ax Bz).AA) ((lat Bt.Ax (Bz-1)).AA)||decide ((lat Bt.Ax Bz).AA=(lat Bt.Ax (Bz-1)).AA))else some false : Option Bool).bind λ t8=>if t8=true then some 1 else(jg n Bt.AB ((lat Bt.Ax Bz).AA)).bind λ C1=>if C1.2=true then some 8 else(if (lat Bt.Ax Bz).A3<0 then some true else if (lat Bt.Ax Bz).A4<(lat Bt.Ax Bz).A3 then some true else some (decide (256<(lat Bt.Ax Bz).A4)) : Option Bool).bind λ t15=>if t15=true then some 1 else if 64<(((lat Bt.Ax Bz).AB).length:Int) then some 14 else(iA n ((lat Bt.Ax Bz).AB) true).bind λ Dm=>some Dm
theorem qH (n:Nat)(Bt:ap)(Bz:Int)(r:Int)(h0:j8 n Bt Bz=some r):aC Tryz.prog 53 [.agg (ap.cs Bt),eI Bz] (·=.p (eI r)):=by
 unfold j8 at h0;refine aT good Tryz.func53 Z Z Z λ w0=>mP (λ v:Int=>.p (eI v)) ?_;refine nx 10 Z (oE h0 aL.AD Z Z Y λ Eu h0=>?_);refine nx 9 Z (bd h0 λ r2 e3 h0=>?_);refine oK (gY _ ((lat Bt.Ax Bz).AA) _ e3) Z ⟨sr,trivial⟩ Tryz.call86 Z (nx 2 Z ?_);refine fB [16] h0 Z (λ c4 h0=>?_) λ c4 h0=>?_
 ·exact nx 6 Z (mQ (oi h0) Z (sr))
 refine nx 4 Z (bd h0 λ Hw h1 h0=>?_);refine kN Hw (λ G7=>⟨[(2,.ptr 2 0),(5,.ptr 5 0),(30,.p (eB G7))],[(2,(ap.cs Bt).map .p),(5,(aL.cs (lat Bt.Ax Bz)).map .p)]⟩) ?_ ?_
 ·refine nx 1 Z (fB [30] h0 Z (λ c9 h0=>?_) λ c9 h0=>?_)
  ·exact nx 6 Z (mQ (oi h0) Z (sr))
  refine nx 8 Z (bd h0 λ C1 GB h0=>?_);refine oK (mA _ Bt.AB ((lat Bt.Ax Bz).AA) _ GB) Z ⟨sr,sr,trivial⟩ Tryz.call54 Z (nx 12 Z ?_);refine fB [7,38,39] h0 Z (λ Eg h0=>?_) λ Eg h0=>?_
  ·exact nx 6 Z (mQ (oi h0) Z (sr))
  refine nx 4 Z (bd h0 λ Hv h1 h0=>?_);refine kN Hv (λ G6=>⟨[(5,.ptr 5 0),(54,.p (eB G6))],[(5,(aL.cs (lat Bt.Ax Bz)).map .p)]⟩) ?_ ?_
  ·refine nx 1 Z (fB [54] h0 Z (λ FO h0=>?_) λ FO h0=>?_)
   ·exact nx 6 Z (mQ (oi h0) Z (sr))
   refine nx 7 Z (oLl (f:=aE) Z Z ?_);refine nx 2 Z (fD [58] h0 Z (λ DL h0=>?_) λ DL h0=>?_)
   ·exact nx 6 Z (mQ (oi h0) Z (sr))
   refine nx 6 Z (bd h0 λ Dm Gz h0=>?_);refine oK (ma _ ((lat Bt.Ax Bz).AB) true _ Gz) Z ⟨sr,sr,trivial⟩ Tryz.call52 Z (nx 3 Z ?_);exact mQ (oi h0) Z (sr)
  refine nx 5 Z (fD [42,43] h1 Z (λ DT h1=>?_) λ DT h1=>?_)
  ·exact nx 12 Z (eX _ (oi h1).symm (gE Z Z))
  refine nx 7 Z (fD [48,49,50] h1 Z (λ DN h1=>?_) λ DN h1=>?_)
  ·exact nx 5 Z (eX _ (oi h1).symm (gE Z Z))
  exact nx 5 Z (eX _ (oi h1).symm (gE Z Z))
 refine fD (p:=0<Bz) [] h1 Z (λ c5 h1=>?_) λ c5 h1=>?_
 ·refine cc' h1 λ GY h1=>cc' h1 λ HN h1=>mD [(1,.p (eI Bz)),(2,.ptr 2 0),(5,.ptr 5 0)] Z ⟨Z,Z,Z,trivial⟩ Z (dR 1 Z ?_);refine dL (dt c5) Z (dR 6 Z ?_);refine dq (.p (eI (Bz-1))) [19,24] Z (λ _ e _ q=>ff (nB Z Z Z (e _ _ Z) Z Z GY q) Z Z (e _ _ Z) (rfl)) Z (dq (.rptr (aL.cs (lat Bt.Ax (Bz-1)))) [19,23,25] Z (λ _ e _ q=>ff (dw (f:=aX) (l:=Bt.Ax) aL.cs Z Z Z Z Z Z (e _ _ Z) Z (e _ _ Z) HN aL.AD Y q) Z Z (e _ _ Z) (rfl)) Z ?_);refine dR 2 Z (dq (.p (eB (Op.bytesLess ((lat Bt.Ax Bz).AA) ((lat Bt.Ax (Bz-1)).AA)||decide ((lat Bt.Ax Bz).AA=(lat Bt.Ax (Bz-1)).AA)))) [19,21,28] Z (λ _ e _ q=>ff (jR Z Z Z (e _ _ Z) (e _ _ Z) Z q) Z Z (e _ _ Z) (rfl)) Z ?_);refine dR 1 Z (dE Z ?_);exact nx 1 Z (eX _ (oi h1).symm (gE Z Z))
 refine mD [(1,.p (eI Bz)),(2,.ptr 2 0),(5,.ptr 5 0)] Z ⟨Z,Z,Z,trivial⟩ Z (dR 1 Z ?_);refine dL (df c5) Z (dR 12 Z ?_);refine dE Z (nx 1 Z ?_);exact eX _ (oi h1).symm (gE Z Z)
def dl (l_0:List ax):Nat->Int->(List ak)->(List Bk)->Option ((List ak)×(List Bk))|0,_,_,_=>none|m+1,i10,Dt,Co=>if i10<(l_0.length:Int) then ck ((0:Int)<=i10/\i10<(l_0.length:Int))<|ck ((Co.length+[(lat l_0 i10).AA].length)*16<=140737488355328)<|ck ((0:Int)<=i10/\i10<(l_0.length:Int))<|ck ((Dt.length+[((lat l_0 i10).AF)].length)*56<=140737488355328)<|ck (inR (i10+1))<|dl l_0 m (i10+1) (Dt++[((lat l_0 i10).AF)]) (Co++[(lat l_0 i10).AA])else some (Dt,Co)
def iV (n:Nat)(l_0:List ax):Option ak :=(dl l_0 n 0 [] []).bind λ q24=>some (ak.mk 6 q24.1 q24.2)
theorem oY (n:Nat)(l_0:List ax)(r:ak)(h0:iV n l_0=some r):aC Tryz.prog 88 [eL aE l_0] (·=.p (.agg (ak.cs r))):=by
 unfold iV at h0;refine aT good Tryz.func88 Z Z Z λ w0=>mP (λ v:ak=>.p (.agg (ak.cs v))) ?_;refine nx 16 Z (bd h0 λ Ek h1 h0=>?_);refine kE 0 Ek (λ Fg=>⟨[(2,.ptr 2 0),(3,.ptr 3 0)],[(2,[.p (eI 0),.p (.val (.slice none 0 0)),.p (.val (.slice none 0 0))]),(3,[.p (eI 6),.vec 30 3 0 (Fg.1.map aA),.vec 20 1 0 (Fg.2.map eS)])]⟩) ?_ ?_
 ·exact nx 7 Z (mQ (oi h0) Z (gb ⟨sr,AV.sub_vec _ _ _ _,AV.sub_vec _ _ _ _,trivial⟩))
 refine lG (λ (Dw:Int×(List ak)×(List Bk))=>⟨[(0,.p (eL aE l_0)),(2,.ptr 2 0),(3,.ptr 3 0),(4,.p (eI Dw.1))],[(2,[.p (eI 0),.p (.val (.slice none 0 0)),.p (.val (.slice none 0 0))]),(3,[.p (eI 6),.vec 30 3 0 (Dw.2.1.map aA),.vec 20 1 0 (Dw.2.2.map eS)])]⟩) (λ m (Dw:Int×(List ak)×(List Bk))=>dl l_0 m Dw.1 Dw.2.1 Dw.2.2) Y (0,[],[]) h1 (cr (g4 ⟨er rfl,er rfl,er rfl,er rfl,trivial⟩ ⟨⟨_,rfl,⟨sr,sr,sr,trivial⟩⟩,⟨_,rfl,⟨sr,AV.sub_nilvec _ _ _,AV.sub_nilvec _ _ _,trivial⟩⟩,trivial⟩)) ?_;rintro m ⟨i10,Dt,Co⟩ h1;replace h1:dl l_0 (m+1) i10 Dt Co=some Ek:=h1;rw [dl] at h1;refine nx 5 rfl (oLl (f:=aE) rfl rfl ?_);refine nx 2 rfl (fD [9] h1 rfl (λ DT h1=>?_) λ DT h1=>?_)
 ·refine nx 5 Z (cc' h1 λ DJ h1=>?_);refine cc' h1 λ Df h1=>mG (gE (t:=⟨[(0,.p (eL aE l_0)),(2,.ptr 2 0),(3,.ptr 3 0),(4,.p (eI i10))],[(2,[.p (eI 0),.p (.val (.slice none 0 0)),.p (.val (.slice none 0 0))]),(3,[.p (eI 6),.vec 30 3 0 (Dt.map aA),.vec 20 1 0 (Co.map eS)])]⟩) Z Z) (mS ⟨2,[8,10],(by3 (.some λ i=>Nat.beq i 20||Nat.beq i 20) .none .none),(λ _=>[(0,.p (eL aE l_0)),(2,.ptr 2 0),(3,.ptr 3 0),(4,.p (eI i10))]),(by3 ([(2,[.p (eI 0),.p (.val (.slice none 0 0)),.p (.val (.slice none 0 0))]),(3,[.p (eI 6),.vec 30 3 0 (Dt.map aA),.vec 20 1 0 (Co.map eS)])]) ([(2,[.p (eI 0),.p (.val (.slice none 0 0)),.p (.val (.slice none 0 0))]),(3,[.p (eI 6),.vec 30 3 0 (Dt.map aA),.p (eL eS Co)])]) ([(3,[.p (eI 6),.vec 30 3 0 (Dt.map aA),.vec 20 1 0 ((Co++[(lat l_0 i10).AA]).map eS)]),(2,[.p (eI 0),.p (.val (.slice none 0 0)),.p (.val (.slice none 0 0))]),(3,[.p (eI 6),.vec 30 3 0 (Dt.map aA),.p (eL eS Co)])]))⟩ Z Z Z ⟨Z,Z,Z,Z,trivial⟩ (lt2 ⟨Z,Z,Z,Z,trivial⟩ ⟨Z,Z,Z,Z,trivial⟩) Z Z Z Z ?_);refine ah (λ _=>.ptr 3 2) Z Z Z (bp Z Z Y) (lt2 Z Z) (aj Z (af [(3,_)] ⟨.inl Z,trivial⟩ (λ sl Bs K hK=>ae Z (al Z Z Z Z Z Z Z Z (Bs _ _ Z) hK)) (af [(3,_)] ⟨.inl Z,trivial⟩ (λ sl Bs K hK=>ae Z (al Z Z Z Z Z Z Z Z (Bs _ _ Z) hK)) ai))) (ah (by3 (.vec 20 1 0 (Co.map eS)) (.p (eL eS Co)) (.p (eL eS Co))) Z Z Z (bp Z Z Y) (lt2 Z Z) (aj Z (aj Z (af [(12,_)] ⟨.inr ⟨0,_,Z,Z,Z⟩,trivial⟩ (λ sl Bs K hK=>ae Z (bj Z Z Z Z Z (Bs _ _ Z) Z Z hK)) ai))) ?_);refine ah (λ _=>.p (eL aE l_0)) Z Z Z (bp Z Z Y) (lt2 Z Z) (aj Z (af [(0,_)] ⟨.inl Z,trivial⟩ (λ sl Bs K hK=>ae Z (aW Z Z Z (Bs _ _ Z) hK)) (af [(0,_)] ⟨.inl Z,trivial⟩ (λ sl Bs K hK=>ae Z (aW Z Z Z (Bs _ _ Z) hK)) ai))) (ah (λ _=>.p (eI i10)) Z Z Z (bp Z Z Y) (lt2 Z Z) (aj Z (af [(4,_)] ⟨.inl Z,trivial⟩ (λ sl Bs K hK=>ae Z (aW Z Z Z (Bs _ _ Z) hK)) (af [(4,_)] ⟨.inl Z,trivial⟩ (λ sl Bs K hK=>ae Z (aW Z Z Z (Bs _ _ Z) hK)) ai))) ?_);refine ah (λ _=>.rptr (ax.cs (lat l_0 i10))) Z Z Z (bp Z Z Y) (lt2 Z Z) (aj Z (af [(14,_),(15,_)] ⟨.inr ⟨2,_,Z,Z,Z⟩,.inr ⟨3,_,Z,Z,Z⟩,trivial⟩ (λ sl Bs K hK=>ae Z (dw (f:=aE) (l:=l_0) ax.cs Z Z Z Z Z Z (Bs _ _ Z) Z (Bs _ _ Z) DJ ax.AD Y hK)) (af [(14,_),(15,_)] ⟨.inr ⟨2,_,Z,Z,Z⟩,.inr ⟨3,_,Z,Z,Z⟩,trivial⟩ (λ sl Bs K hK=>ae Z (dw (f:=aE) (l:=l_0) ax.cs Z Z Z Z Z Z (Bs _ _ Z) Z (Bs _ _ Z) DJ ax.AD Y hK)) ai))) (ah (λ _=>.rptr (List.drop 0 (ax.cs (lat l_0 i10)))) Z Z Z (bp Z Z Y) (lt2 Z Z) (aj Z (af [(16,_)] ⟨.inr ⟨4,_,Z,Z,Z⟩,trivial⟩ (λ sl Bs K hK=>ae Z (bG Z Z Z Z Z Z Z Z (Bs _ _ Z) hK)) (af [(16,_)] ⟨.inr ⟨4,_,Z,Z,Z⟩,trivial⟩ (λ sl Bs K hK=>ae Z (bG Z Z Z Z Z Z Z Z (Bs _ _ Z) hK)) ai))) ?_);refine ah (λ _=>.p (eS ((lat l_0 i10).AA))) Z Z Z (bp Z Z Y) (lt2 Z Z) (aj Z (af [(17,_)] ⟨.inr ⟨5,_,Z,Z,Z⟩,trivial⟩ (λ sl Bs K hK=>ae Z (da Z Z Z Z Z (Bs _ _ Z) Z hK)) (af [(17,_)] ⟨.inr ⟨5,_,Z,Z,Z⟩,trivial⟩ (λ sl Bs K hK=>ae Z (da Z Z Z Z Z (Bs _ _ Z) Z hK)) ai))) (ah (λ _=>.p (eL eS [(lat l_0 i10).AA])) Z Z Z (bp Z Z Y) (lt2 Z Z) (aj Z (aj Z (af [(18,_)] ⟨.inr ⟨6,_,Z,Z,Z⟩,trivial⟩ (λ sl Bs K hK=>ae Z (bE eS [(lat l_0 i10).AA] Z Z Z Z Z Z (bZ (Bs _ _ Z) Z dy) Z Z Z Z Z Z Z hK)) ai))) ?_);refine fh (λ _=>.vec 20 1 0 ((Co++[(lat l_0 i10).AA]).map eS)) [(13,_),(19,_)] Z ⟨.inr ⟨1,_,Z,Z,Z⟩,.inr ⟨7,_,Z,Z,Z⟩,trivial⟩ Z Z (bS Z Y) (lt2 (λ h=>absurd h (by decide)) Y) (λ sl Bs K hK=>ae Z (cX eS Co [(lat l_0 i10).AA] Z Z Z Z Z Z Z Z (Bs _ _ Z) Z Z (Bs _ _ Z) Z Y Z Z Z Z Df hK)) (ah (λ _=>.ptr 3 2) Z Z Z (bp Z Z Y) (lt2 Z Z) (aj Z (af [(3,_)] ⟨.inl Z,trivial⟩ (λ sl Bs K hK=>ae Z (al Z Z Z Z Z Z Z Z (Bs _ _ Z) hK)) (aj Z ai))) ?_);refine cp [(20,_),(21,_)] Z ⟨.inr ⟨8,_,Z,Z,Z⟩,.inr ⟨9,_,Z,Z,Z⟩,trivial⟩ Z (λ sl Bs K hK=>ae Z (ct Z Z Z (Bs _ _ Z) (Bs _ _ Z) Z Z Z (ph Z) hK)) (eH ?_);refine nx 1 Z (cc' h1 λ CZ h1=>?_);refine cc' h1 λ Es h1=>mG (gE (t:=⟨[(0,.p (eL aE l_0)),(2,.ptr 2 0),(3,.ptr 3 0),(4,.p (eI i10))],[(2,[.p (eI 0),.p (.val (.slice none 0 0)),.p (.val (.slice none 0 0))]),(3,[.p (eI 6),.vec 30 3 0 (Dt.map aA),.vec 20 1 0 ((Co++[(lat l_0 i10).AA]).map eS)])]⟩) Z Z) (mS ⟨2,[8,10],(by3 (.some λ i=>Nat.beq i 30||Nat.beq i 30) .none .none),(λ _=>[(0,.p (eL aE l_0)),(2,.ptr 2 0),(3,.ptr 3 0),(4,.p (eI i10))]),(by3 ([(2,[.p (eI 0),.p (.val (.slice none 0 0)),.p (.val (.slice none 0 0))]),(3,[.p (eI 6),.vec 30 3 0 (Dt.map aA),.vec 20 1 0 ((Co++[(lat l_0 i10).AA]).map eS)])]) ([(2,[.p (eI 0),.p (.val (.slice none 0 0)),.p (.val (.slice none 0 0))]),(3,[.p (eI 6),.p (eL aA Dt),.vec 20 1 0 ((Co++[(lat l_0 i10).AA]).map eS)])]) ([(3,[.p (eI 6),.vec 30 3 0 ((Dt++[((lat l_0 i10).AF)]).map aA),.vec 20 1 0 ((Co++[(lat l_0 i10).AA]).map eS)]),(2,[.p (eI 0),.p (.val (.slice none 0 0)),.p (.val (.slice none 0 0))]),(3,[.p (eI 6),.p (eL aA Dt),.vec 20 1 0 ((Co++[(lat l_0 i10).AA]).map eS)])]))⟩ Z Z Z ⟨Z,Z,Z,Z,trivial⟩ (lt2 ⟨Z,Z,Z,Z,trivial⟩ ⟨Z,Z,Z,Z,trivial⟩) Z Z Z Z ?_);refine ah (λ _=>.ptr 3 1) Z Z Z (bp Z Z Y) (lt2 Z Z) (aj Z (af [(3,_)] ⟨.inl Z,trivial⟩ (λ sl Bs K hK=>ae Z (al Z Z Z Z Z Z Z Z (Bs _ _ Z) hK)) (af [(3,_)] ⟨.inl Z,trivial⟩ (λ sl Bs K hK=>ae Z (al Z Z Z Z Z Z Z Z (Bs _ _ Z) hK)) ai))) (ah (by3 (.vec 30 3 0 (Dt.map aA)) (.p (eL aA Dt)) (.p (eL aA Dt))) Z Z Z (bp Z Z Y) (lt2 Z Z) (aj Z (aj Z (af [(22,_)] ⟨.inr ⟨0,_,Z,Z,Z⟩,trivial⟩ (λ sl Bs K hK=>ae Z (bj Z Z Z Z Z (Bs _ _ Z) Z Z hK)) ai))) ?_);refine ah (λ _=>.p (eL aE l_0)) Z Z Z (bp Z Z Y) (lt2 Z Z) (aj Z (af [(0,_)] ⟨.inl Z,trivial⟩ (λ sl Bs K hK=>ae Z (aW Z Z Z (Bs _ _ Z) hK)) (af [(0,_)] ⟨.inl Z,trivial⟩ (λ sl Bs K hK=>ae Z (aW Z Z Z (Bs _ _ Z) hK)) ai))) (ah (λ _=>.p (eI i10)) Z Z Z (bp Z Z Y) (lt2 Z Z) (aj Z (af [(4,_)] ⟨.inl Z,trivial⟩ (λ sl Bs K hK=>ae Z (aW Z Z Z (Bs _ _ Z) hK)) (af [(4,_)] ⟨.inl Z,trivial⟩ (λ sl Bs K hK=>ae Z (aW Z Z Z (Bs _ _ Z) hK)) ai))) ?_);refine ah (λ _=>.rptr (ax.cs (lat l_0 i10))) Z Z Z (bp Z Z Y) (lt2 Z Z) (aj Z (af [(24,_),(25,_)] ⟨.inr ⟨2,_,Z,Z,Z⟩,.inr ⟨3,_,Z,Z,Z⟩,trivial⟩ (λ sl Bs K hK=>ae Z (dw (f:=aE) (l:=l_0) ax.cs Z Z Z Z Z Z (Bs _ _ Z) Z (Bs _ _ Z) CZ ax.AD Y hK)) (af [(24,_),(25,_)] ⟨.inr ⟨2,_,Z,Z,Z⟩,.inr ⟨3,_,Z,Z,Z⟩,trivial⟩ (λ sl Bs K hK=>ae Z (dw (f:=aE) (l:=l_0) ax.cs Z Z Z Z Z Z (Bs _ _ Z) Z (Bs _ _ Z) CZ ax.AD Y hK)) ai))) (ah (λ _=>.rptr (List.drop 1 (ax.cs (lat l_0 i10)))) Z Z Z (bp Z Z Y) (lt2 Z Z) (aj Z (af [(26,_)] ⟨.inr ⟨4,_,Z,Z,Z⟩,trivial⟩ (λ sl Bs K hK=>ae Z (bG Z Z Z Z Z Z Z Z (Bs _ _ Z) hK)) (af [(26,_)] ⟨.inr ⟨4,_,Z,Z,Z⟩,trivial⟩ (λ sl Bs K hK=>ae Z (bG Z Z Z Z Z Z Z Z (Bs _ _ Z) hK)) ai))) ?_);refine ah (λ _=>.p (.agg (ak.cs ((lat l_0 i10).AF)))) Z Z Z (bp Z Z Y) (lt2 Z Z) (aj Z (af [(27,_)] ⟨.inr ⟨5,_,Z,Z,Z⟩,trivial⟩ (λ sl Bs K hK=>ae Z (jb Z Z Z Z Z (Bs _ _ Z) Z hK)) (af [(27,_)] ⟨.inr ⟨5,_,Z,Z,Z⟩,trivial⟩ (λ sl Bs K hK=>ae Z (jb Z Z Z Z Z (Bs _ _ Z) Z hK)) ai))) (ah (λ _=>.p (eL aA [((lat l_0 i10).AF)])) Z Z Z (bp Z Z Y) (lt2 Z Z) (aj Z (aj Z (af [(28,_)] ⟨.inr ⟨6,_,Z,Z,Z⟩,trivial⟩ (λ sl Bs K hK=>ae Z (bE aA [((lat l_0 i10).AF)] Z Z Z Z Z Z (bZ (Bs _ _ Z) Z dy) Z Z Z Z Z Z (by first|rfl|(simp only [d4,py,ak.AH]; done)|(simp only [d4,py,ak.AH]; rfl)) hK)) ai))) ?_);refine fh (λ _=>.vec 30 3 0 ((Dt++[((lat l_0 i10).AF)]).map aA)) [(23,_),(29,_)] Z ⟨.inr ⟨1,_,Z,Z,Z⟩,.inr ⟨7,_,Z,Z,Z⟩,trivial⟩ Z Z (bS Z Y) (lt2 (λ h=>absurd h (by decide)) Y) (λ sl Bs K hK=>ae Z (cX aA Dt [((lat l_0 i10).AF)] Z Z Z Z Z Z Z Z (Bs _ _ Z) Z Z (Bs _ _ Z) Z (λ x=>congrArg List.length (ak.AD x)) Z Z Z Z Es hK)) (ah (λ _=>.ptr 3 1) Z Z Z (bp Z Z Y) (lt2 Z Z) (aj Z (af [(3,_)] ⟨.inl Z,trivial⟩ (λ sl Bs K hK=>ae Z (al Z Z Z Z Z Z Z Z (Bs _ _ Z) hK)) (aj Z ai))) ?_);refine cp [(30,_),(31,_)] Z ⟨.inr ⟨8,_,Z,Z,Z⟩,.inr ⟨9,_,Z,Z,Z⟩,trivial⟩ Z (λ sl Bs K hK=>ae Z (ct Z Z Z (Bs _ _ Z) (Bs _ _ Z) Z Z Z (ph Z) hK)) (eH ?_);refine nx 3 Z (oA h1 Z Z λ Ds h1=>?_);exact nx 2 Z (eX (i10+1,Dt++[((lat l_0 i10).AF)],Co++[(lat l_0 i10).AA]) h1 (gE Z Z))
 exact nx 2 Z (eXi _ (oi h1).symm (gE Z Z))
def de (n:Nat)(Bt:ap):Nat->Int->Int->(List ak)->(List Bk)->Option ((List ak)×(List Bk))|0,_,_,_,_=>none|m+1,i30,k31,B',Cb=>(if i30<(Bt.AB.length:Int) then some true else some (decide (k31<(Bt.Ax.length:Int))) : Option Bool).bind λ B5=>if B5=true then((if k31=(Bt.Ax.length:Int) then some true else if i30<(Bt.AB.length:Int) then ck ((0:Int)<=i30/\i30<(Bt.AB.length:Int))<|ck ((0:Int)<=k31/\k31<(Bt.Ax.length:Int))<|some (Op.bytesLess ((lat Bt.AB i30).AA) ((lat Bt.Ax k31).AA))else some false : Option Bool).bind λ t41=>if t41=true then ck ((0:Int)<=i30/\i30<(Bt.AB.length:Int))<|ck ((Cb.length+[(lat Bt.AB i30).AA].length)*16<=140737488355328)<|ck ((0:Int)<=i30/\i30<(Bt.AB.length:Int))<|ck ((B'.length+[((lat Bt.AB i30).AF)].length)*56<=140737488355328)<|ck (inR (i30+1))<|some (i30+1,k31,B'++[((lat Bt.AB i30).AF)],Cb++[(lat Bt.AB i30).AA])else ck ((0:Int)<=k31/\k31<(Bt.Ax.length:Int))<|ck ((Cb.length+[(lat Bt.Ax k31).AA].length)*16<=140737488355328)<|ck ((0:Int)<=k31/\k31<(Bt.Ax.length:Int))<|(iV n ((lat Bt.Ax k31).AB)).bind λ DW=>ck ((B'.length+([(ak.mk 4 [DW] [])]).length)*56<=140737488355328)<|ck (inR (k31+1))<|some (i30,k31+1,B'++([(ak.mk 4 [DW] [])]),Cb++[(lat Bt.Ax k31).AA]) : Option (Int×Int×(List ak)×(List Bk))).bind λ FV=>de n Bt m FV.1 FV.2.1 FV.2.2.1 FV.2.2.2 else some (B',Cb)
def j2 (n:Nat)(Bt:ap):Option ak :=(de n Bt n 0 0 [] []).bind λ Db=>some (ak.mk 6 Db.1 Db.2)
theorem qC (n:Nat)(Bt:ap)(r:ak)(h0:j2 n Bt=some r):aC Tryz.prog 56 [.agg (ap.cs Bt)] (·=.p (.agg (ak.cs r))):=by
 unfold j2 at h0;refine aT good Tryz.func56 Z Z Z λ w0=>mP (λ v:ak=>.p (.agg (ak.cs v))) ?_;refine nx 18 Z (bd h0 λ o69 h1 h0=>?_);refine kE 0 o69 (λ v70=>⟨[(2,.ptr 2 0),(3,.ptr 3 0)],[(2,[.p (eI 0),.p (.val (.slice none 0 0)),.p (.val (.slice none 0 0))]),(3,[.p (eI 6),.vec 93 3 0 (v70.1.map aA),.vec 79 1 0 (v70.2.map eS)])]⟩) ?_ ?_
 ·exact nx 7 Z (mQ (oi h0) Z (gb ⟨sr,AV.sub_vec _ _ _ _,AV.sub_vec _ _ _ _,trivial⟩))
 refine lG (λ (Fx:Int×Int×(List ak)×(List Bk))=>⟨[(1,.ptr 1 0),(2,.ptr 2 0),(3,.ptr 3 0),(4,.p (eI Fx.1)),(5,.p (eI Fx.2.1))],[(1,(ap.cs Bt).map .p),(2,[.p (eI 0),.p (.val (.slice none 0 0)),.p (.val (.slice none 0 0))]),(3,[.p (eI 6),.vec 93 3 0 (Fx.2.2.1.map aA),.vec 79 1 0 (Fx.2.2.2.map eS)])]⟩) (λ m (Fx:Int×Int×(List ak)×(List Bk))=>de n Bt m Fx.1 Fx.2.1 Fx.2.2.1 Fx.2.2.2) Y (0,0,[],[]) h1 (cr (g4 ⟨er rfl,er rfl,er rfl,er rfl,er rfl,trivial⟩ ⟨⟨_,rfl,⟨sr,sr,trivial⟩⟩,⟨_,rfl,⟨sr,sr,sr,trivial⟩⟩,⟨_,rfl,⟨sr,AV.sub_nilvec _ _ _,AV.sub_nilvec _ _ _,trivial⟩⟩,trivial⟩)) ?_;rintro m ⟨i30,k31,B',Cb⟩ h1;replace h1:de n Bt (m+1) i30 k31 B' Cb=some o69:=h1;rw [de] at h1;refine nx 2 rfl (bd h1 λ o72 h2 h1=>?_);refine kN o72 (λ v73=>⟨[(1,.ptr 1 0),(2,.ptr 2 0),(3,.ptr 3 0),(4,.p (eI i30)),(5,.p (eI k31)),(18,.p (eB v73))],[(1,(ap.cs Bt).map .p),(2,[.p (eI 0),.p (.val (.slice none 0 0)),.p (.val (.slice none 0 0))]),(3,[.p (eI 6),.vec 93 3 0 (B'.map aA),.vec 79 1 0 (Cb.map eS)])]⟩) ?_ ?_
 ·refine nx 1 Z (fB [18] h1 Z (λ FM h1=>?_) λ FM h1=>?_)
  ·refine nx 2 Z (bd h1 λ Hq h2 h1=>?_);refine kN Hq (λ v75=>⟨[(1,.ptr 1 0),(2,.ptr 2 0),(3,.ptr 3 0),(4,.p (eI v75.1)),(5,.p (eI v75.2.1))],[(1,(ap.cs Bt).map .p),(2,[.p (eI 0),.p (.val (.slice none 0 0)),.p (.val (.slice none 0 0))]),(3,[.p (eI 6),.vec 93 3 0 (v75.2.2.1.map aA),.vec 79 1 0 (v75.2.2.2.map eS)])]⟩) ?_ ?_
   ·exact nx 1 Z (eX (Hq.1,Hq.2.1,Hq.2.2.1,Hq.2.2.2) h1 (gE Z Z))
   refine nx 2 Z (bd h2 λ o76 h3 h2=>?_);refine kN o76 (λ v77=>⟨[(1,.ptr 1 0),(2,.ptr 2 0),(3,.ptr 3 0),(4,.p (eI i30)),(5,.p (eI k31)),(45,.p (eB v77))],[(1,(ap.cs Bt).map .p),(2,[.p (eI 0),.p (.val (.slice none 0 0)),.p (.val (.slice none 0 0))]),(3,[.p (eI 6),.vec 93 3 0 (B'.map aA),.vec 79 1 0 (Cb.map eS)])]⟩) ?_ ?_
   ·refine nx 1 Z (fB [45] h2 Z (λ c42 h2=>?_) λ c42 h2=>?_)
    ·refine nx 2 Z (cc' h2 λ Eq h2=>?_);refine cc' h2 λ hk44 h2=>mG (gE (t:=⟨[(1,.ptr 1 0),(2,.ptr 2 0),(3,.ptr 3 0),(4,.p (eI i30)),(5,.p (eI k31))],[(1,(ap.cs Bt).map .p),(2,[.p (eI 0),.p (.val (.slice none 0 0)),.p (.val (.slice none 0 0))]),(3,[.p (eI 6),.vec 93 3 0 (B'.map aA),.vec 79 1 0 (Cb.map eS)])]⟩) Z Z) (mS ⟨2,[9,11],(by3 (.some λ i=>Nat.beq i 79||Nat.beq i 55) .none .none),(λ _=>[(1,.ptr 1 0),(2,.ptr 2 0),(3,.ptr 3 0),(4,.p (eI i30)),(5,.p (eI k31))]),(by3 ([(1,[.p (eL aE Bt.AB),.p (eL aX Bt.Ax)]),(2,[.p (eI 0),.p (.val (.slice none 0 0)),.p (.val (.slice none 0 0))]),(3,[.p (eI 6),.vec 93 3 0 (B'.map aA),.vec 79 1 0 (Cb.map eS)])]) ([(1,[.p (eL aE Bt.AB),.p (eL aX Bt.Ax)]),(2,[.p (eI 0),.p (.val (.slice none 0 0)),.p (.val (.slice none 0 0))]),(3,[.p (eI 6),.vec 93 3 0 (B'.map aA),.p (eL eS Cb)])]) ([(3,[.p (eI 6),.vec 93 3 0 (B'.map aA),.vec 55 1 0 ((Cb++[(lat Bt.AB i30).AA]).map eS)]),(1,[.p (eL aE Bt.AB),.p (eL aX Bt.Ax)]),(2,[.p (eI 0),.p (.val (.slice none 0 0)),.p (.val (.slice none 0 0))]),(3,[.p (eI 6),.vec 93 3 0 (B'.map aA),.p (eL eS Cb)])]))⟩ Z Z Z ⟨Z,Z,Z,Z,Z,trivial⟩ (lt2 ⟨Z,Z,Z,Z,Z,trivial⟩ ⟨Z,Z,Z,Z,Z,trivial⟩) Z Z Z Z ?_);refine ah (λ _=>.ptr 3 2) Z Z Z (bp Z Z Y) (lt2 Z Z) (aj Z (af [(3,_)] ⟨.inl Z,trivial⟩ (λ sl Bs K hK=>ae Z (al Z Z Z Z Z Z Z Z (Bs _ _ Z) hK)) (af [(3,_)] ⟨.inl Z,trivial⟩ (λ sl Bs K hK=>ae Z (al Z Z Z Z Z Z Z Z (Bs _ _ Z) hK)) ai))) (ah (by3 (.vec 79 1 0 (Cb.map eS)) (.p (eL eS Cb)) (.p (eL eS Cb))) Z Z Z (bp Z Z Y) (lt2 Z Z) (aj Z (aj Z (af [(46,_)] ⟨.inr ⟨0,_,Z,Z,Z⟩,trivial⟩ (λ sl Bs K hK=>ae Z (bj Z Z Z Z Z (Bs _ _ Z) Z Z hK)) ai))) ?_);refine ah (λ _=>.ptr 1 0) Z Z Z (bp Z Z Y) (lt2 Z Z) (aj Z (af [(1,_)] ⟨.inl Z,trivial⟩ (λ sl Bs K hK=>ae Z (al Z Z Z Z Z Z Z Z (Bs _ _ Z) hK)) (af [(1,_)] ⟨.inl Z,trivial⟩ (λ sl Bs K hK=>ae Z (al Z Z Z Z Z Z Z Z (Bs _ _ Z) hK)) ai))) (ah (λ _=>.p (eL aE Bt.AB)) Z Z Z (bp Z Z Y) (lt2 Z Z) (aj Z (af [(48,_)] ⟨.inr ⟨2,_,Z,Z,Z⟩,trivial⟩ (λ sl Bs K hK=>ae Z (bj Z Z Z Z Z (Bs _ _ Z) Z Z hK)) (af [(48,_)] ⟨.inr ⟨2,_,Z,Z,Z⟩,trivial⟩ (λ sl Bs K hK=>ae Z (bj Z Z Z Z Z (Bs _ _ Z) Z Z hK)) ai))) ?_);refine ah (λ _=>.p (eI i30)) Z Z Z (bp Z Z Y) (lt2 Z Z) (aj Z (af [(4,_)] ⟨.inl Z,trivial⟩ (λ sl Bs K hK=>ae Z (aW Z Z Z (Bs _ _ Z) hK)) (af [(4,_)] ⟨.inl Z,trivial⟩ (λ sl Bs K hK=>ae Z (aW Z Z Z (Bs _ _ Z) hK)) ai))) (ah (λ _=>.rptr (ax.cs (lat Bt.AB i30))) Z Z Z (bp Z Z Y) (lt2 Z Z) (aj Z (af [(49,_),(50,_)] ⟨.inr ⟨3,_,Z,Z,Z⟩,.inr ⟨4,_,Z,Z,Z⟩,trivial⟩ (λ sl Bs K hK=>ae Z (dw (f:=aE) (l:=Bt.AB) ax.cs Z Z Z Z Z Z (Bs _ _ Z) Z (Bs _ _ Z) Eq ax.AD Y hK)) (af [(49,_),(50,_)] ⟨.inr ⟨3,_,Z,Z,Z⟩,.inr ⟨4,_,Z,Z,Z⟩,trivial⟩ (λ sl Bs K hK=>ae Z (dw (f:=aE) (l:=Bt.AB) ax.cs Z Z Z Z Z Z (Bs _ _ Z) Z (Bs _ _ Z) Eq ax.AD Y hK)) ai))) ?_);refine ah (λ _=>.rptr (List.drop 0 (ax.cs (lat Bt.AB i30)))) Z Z Z (bp Z Z Y) (lt2 Z Z) (aj Z (af [(51,_)] ⟨.inr ⟨5,_,Z,Z,Z⟩,trivial⟩ (λ sl Bs K hK=>ae Z (bG Z Z Z Z Z Z Z Z (Bs _ _ Z) hK)) (af [(51,_)] ⟨.inr ⟨5,_,Z,Z,Z⟩,trivial⟩ (λ sl Bs K hK=>ae Z (bG Z Z Z Z Z Z Z Z (Bs _ _ Z) hK)) ai))) (ah (λ _=>.p (eS ((lat Bt.AB i30).AA))) Z Z Z (bp Z Z Y) (lt2 Z Z) (aj Z (af [(52,_)] ⟨.inr ⟨6,_,Z,Z,Z⟩,trivial⟩ (λ sl Bs K hK=>ae Z (da Z Z Z Z Z (Bs _ _ Z) Z hK)) (af [(52,_)] ⟨.inr ⟨6,_,Z,Z,Z⟩,trivial⟩ (λ sl Bs K hK=>ae Z (da Z Z Z Z Z (Bs _ _ Z) Z hK)) ai))) ?_);refine ah (λ _=>.p (eL eS [(lat Bt.AB i30).AA])) Z Z Z (bp Z Z Y) (lt2 Z Z) (aj Z (aj Z (af [(53,_)] ⟨.inr ⟨7,_,Z,Z,Z⟩,trivial⟩ (λ sl Bs K hK=>ae Z (bE eS [(lat Bt.AB i30).AA] Z Z Z Z Z Z (bZ (Bs _ _ Z) Z dy) Z Z Z Z Z Z Z hK)) ai))) (fh (λ _=>.vec 55 1 0 ((Cb++[(lat Bt.AB i30).AA]).map eS)) [(47,_),(54,_)] Z ⟨.inr ⟨1,_,Z,Z,Z⟩,.inr ⟨8,_,Z,Z,Z⟩,trivial⟩ Z Z (bS Z Y) (lt2 (λ h=>absurd h (by decide)) Y) (λ sl Bs K hK=>ae Z (cX eS Cb [(lat Bt.AB i30).AA] Z Z Z Z Z Z Z Z (Bs _ _ Z) Z Z (Bs _ _ Z) Z Y Z Z Z Z hk44 hK)) ?_);refine ah (λ _=>.ptr 3 2) Z Z Z (bp Z Z Y) (lt2 Z Z) (aj Z (af [(3,_)] ⟨.inl Z,trivial⟩ (λ sl Bs K hK=>ae Z (al Z Z Z Z Z Z Z Z (Bs _ _ Z) hK)) (aj Z ai))) (cp [(55,_),(56,_)] Z ⟨.inr ⟨9,_,Z,Z,Z⟩,.inr ⟨10,_,Z,Z,Z⟩,trivial⟩ Z (λ sl Bs K hK=>ae Z (ct Z Z Z (Bs _ _ Z) (Bs _ _ Z) Z Z Z (ph Z) hK)) ?_);refine eH (nx 2 Z ?_);refine cc' h2 λ DZ h2=>cc' h2 λ FF h2=>mG (gE (t:=⟨[(1,.ptr 1 0),(2,.ptr 2 0),(3,.ptr 3 0),(4,.p (eI i30)),(5,.p (eI k31))],[(1,(ap.cs Bt).map .p),(2,[.p (eI 0),.p (.val (.slice none 0 0)),.p (.val (.slice none 0 0))]),(3,[.p (eI 6),.vec 93 3 0 (B'.map aA),.vec 55 1 0 ((Cb++[(lat Bt.AB i30).AA]).map eS)])]⟩) Z Z) (mS ⟨2,[9,11],(by3 (.some λ i=>Nat.beq i 93||Nat.beq i 66) .none .none),(λ _=>[(1,.ptr 1 0),(2,.ptr 2 0),(3,.ptr 3 0),(4,.p (eI i30)),(5,.p (eI k31))]),(by3 ([(1,[.p (eL aE Bt.AB),.p (eL aX Bt.Ax)]),(2,[.p (eI 0),.p (.val (.slice none 0 0)),.p (.val (.slice none 0 0))]),(3,[.p (eI 6),.vec 93 3 0 (B'.map aA),.vec 55 1 0 ((Cb++[(lat Bt.AB i30).AA]).map eS)])]) ([(1,[.p (eL aE Bt.AB),.p (eL aX Bt.Ax)]),(2,[.p (eI 0),.p (.val (.slice none 0 0)),.p (.val (.slice none 0 0))]),(3,[.p (eI 6),.p (eL aA B'),.vec 55 1 0 ((Cb++[(lat Bt.AB i30).AA]).map eS)])]) ([(3,[.p (eI 6),.vec 66 3 0 ((B'++[((lat Bt.AB i30).AF)]).map aA),.vec 55 1 0 ((Cb++[(lat Bt.AB i30).AA]).map eS)]),(1,[.p (eL aE Bt.AB),.p (eL aX Bt.Ax)]),(2,[.p (eI 0),.p (.val (.slice none 0 0)),.p (.val (.slice none 0 0))]),(3,[.p (eI 6),.p (eL aA B'),.vec 55 1 0 ((Cb++[(lat Bt.AB i30).AA]).map eS)])]))⟩ Z Z Z ⟨Z,Z,Z,Z,Z,trivial⟩ (lt2 ⟨Z,Z,Z,Z,Z,trivial⟩ ⟨Z,Z,Z,Z,Z,trivial⟩) Z Z Z Z ?_);refine ah (λ _=>.ptr 3 1) Z Z Z (bp Z Z Y) (lt2 Z Z) (aj Z (af [(3,_)] ⟨.inl Z,trivial⟩ (λ sl Bs K hK=>ae Z (al Z Z Z Z Z Z Z Z (Bs _ _ Z) hK)) (af [(3,_)] ⟨.inl Z,trivial⟩ (λ sl Bs K hK=>ae Z (al Z Z Z Z Z Z Z Z (Bs _ _ Z) hK)) ai))) (ah (by3 (.vec 93 3 0 (B'.map aA)) (.p (eL aA B')) (.p (eL aA B'))) Z Z Z (bp Z Z Y) (lt2 Z Z) (aj Z (aj Z (af [(57,_)] ⟨.inr ⟨0,_,Z,Z,Z⟩,trivial⟩ (λ sl Bs K hK=>ae Z (bj Z Z Z Z Z (Bs _ _ Z) Z Z hK)) ai))) ?_);refine ah (λ _=>.ptr 1 0) Z Z Z (bp Z Z Y) (lt2 Z Z) (aj Z (af [(1,_)] ⟨.inl Z,trivial⟩ (λ sl Bs K hK=>ae Z (al Z Z Z Z Z Z Z Z (Bs _ _ Z) hK)) (af [(1,_)] ⟨.inl Z,trivial⟩ (λ sl Bs K hK=>ae Z (al Z Z Z Z Z Z Z Z (Bs _ _ Z) hK)) ai))) (ah (λ _=>.p (eL aE Bt.AB)) Z Z Z (bp Z Z Y) (lt2 Z Z) (aj Z (af [(59,_)] ⟨.inr ⟨2,_,Z,Z,Z⟩,trivial⟩ (λ sl Bs K hK=>ae Z (bj Z Z Z Z Z (Bs _ _ Z) Z Z hK)) (af [(59,_)] ⟨.inr ⟨2,_,Z,Z,Z⟩,trivial⟩ (λ sl Bs K hK=>ae Z (bj Z Z Z Z Z (Bs _ _ Z) Z Z hK)) ai))) ?_);refine ah (λ _=>.p (eI i30)) Z Z Z (bp Z Z Y) (lt2 Z Z) (aj Z (af [(4,_)] ⟨.inl Z,trivial⟩ (λ sl Bs K hK=>ae Z (aW Z Z Z (Bs _ _ Z) hK)) (af [(4,_)] ⟨.inl Z,trivial⟩ (λ sl Bs K hK=>ae Z (aW Z Z Z (Bs _ _ Z) hK)) ai))) (ah (λ _=>.rptr (ax.cs (lat Bt.AB i30))) Z Z Z (bp Z Z Y) (lt2 Z Z) (aj Z (af [(60,_),(61,_)] ⟨.inr ⟨3,_,Z,Z,Z⟩,.inr ⟨4,_,Z,Z,Z⟩,trivial⟩ (λ sl Bs K hK=>ae Z (dw (f:=aE) (l:=Bt.AB) ax.cs Z Z Z Z Z Z (Bs _ _ Z) Z (Bs _ _ Z) DZ ax.AD Y hK)) (af [(60,_),(61,_)] ⟨.inr ⟨3,_,Z,Z,Z⟩,.inr ⟨4,_,Z,Z,Z⟩,trivial⟩ (λ sl Bs K hK=>ae Z (dw (f:=aE) (l:=Bt.AB) ax.cs Z Z Z Z Z Z (Bs _ _ Z) Z (Bs _ _ Z) DZ ax.AD Y hK)) ai))) ?_);refine ah (λ _=>.rptr (List.drop 1 (ax.cs (lat Bt.AB i30)))) Z Z Z (bp Z Z Y) (lt2 Z Z) (aj Z (af [(62,_)] ⟨.inr ⟨5,_,Z,Z,Z⟩,trivial⟩ (λ sl Bs K hK=>ae Z (bG Z Z Z Z Z Z Z Z (Bs _ _ Z) hK)) (af [(62,_)] ⟨.inr ⟨5,_,Z,Z,Z⟩,trivial⟩ (λ sl Bs K hK=>ae Z (bG Z Z Z Z Z Z Z Z (Bs _ _ Z) hK)) ai))) (ah (λ _=>.p (.agg (ak.cs ((lat Bt.AB i30).AF)))) Z Z Z (bp Z Z Y) (lt2 Z Z) (aj Z (af [(63,_)] ⟨.inr ⟨6,_,Z,Z,Z⟩,trivial⟩ (λ sl Bs K hK=>ae Z (jb Z Z Z Z Z (Bs _ _ Z) Z hK)) (af [(63,_)] ⟨.inr ⟨6,_,Z,Z,Z⟩,trivial⟩ (λ sl Bs K hK=>ae Z (jb Z Z Z Z Z (Bs _ _ Z) Z hK)) ai))) ?_);refine ah (λ _=>.p (eL aA [((lat Bt.AB i30).AF)])) Z Z Z (bp Z Z Y) (lt2 Z Z) (aj Z (aj Z (af [(64,_)] ⟨.inr ⟨7,_,Z,Z,Z⟩,trivial⟩ (λ sl Bs K hK=>ae Z (bE aA [((lat Bt.AB i30).AF)] Z Z Z Z Z Z (bZ (Bs _ _ Z) Z dy) Z Z Z Z Z Z (by first|rfl|(simp only [d4,py,ak.AH]; done)|(simp only [d4,py,ak.AH]; rfl)) hK)) ai))) (fh (λ _=>.vec 66 3 0 ((B'++[((lat Bt.AB i30).AF)]).map aA)) [(58,_),(65,_)] Z ⟨.inr ⟨1,_,Z,Z,Z⟩,.inr ⟨8,_,Z,Z,Z⟩,trivial⟩ Z Z (bS Z Y) (lt2 (λ h=>absurd h (by decide)) Y) (λ sl Bs K hK=>ae Z (cX aA B' [((lat Bt.AB i30).AF)] Z Z Z Z Z Z Z Z (Bs _ _ Z) Z Z (Bs _ _ Z) Z (λ x=>congrArg List.length (ak.AD x)) Z Z Z Z FF hK)) ?_);refine ah (λ _=>.ptr 3 1) Z Z Z (bp Z Z Y) (lt2 Z Z) (aj Z (af [(3,_)] ⟨.inl Z,trivial⟩ (λ sl Bs K hK=>ae Z (al Z Z Z Z Z Z Z Z (Bs _ _ Z) hK)) (aj Z ai))) (cp [(66,_),(67,_)] Z ⟨.inr ⟨9,_,Z,Z,Z⟩,.inr ⟨10,_,Z,Z,Z⟩,trivial⟩ Z (λ sl Bs K hK=>ae Z (ct Z Z Z (Bs _ _ Z) (Bs _ _ Z) Z Z Z (ph Z) hK)) ?_);refine eH (nx 3 Z ?_);exact oA h2 Z Z λ FE h2=>nx 2 Z (eX _ (oi h2).symm (a8 (bz 55 79 Z Z Z Z Z) (a8 (bz 66 93 Z Z Z Z Z) (gE Z Z))))
    refine nx 2 Z (cc' h2 λ E2 h2=>?_);refine cc' h2 λ HT h2=>mG (gE (t:=⟨[(1,.ptr 1 0),(2,.ptr 2 0),(3,.ptr 3 0),(4,.p (eI i30)),(5,.p (eI k31))],[(1,(ap.cs Bt).map .p),(2,[.p (eI 0),.p (.val (.slice none 0 0)),.p (.val (.slice none 0 0))]),(3,[.p (eI 6),.vec 93 3 0 (B'.map aA),.vec 79 1 0 (Cb.map eS)])]⟩) Z Z) (mS ⟨2,[9,11],(by3 (.some λ i=>Nat.beq i 79||Nat.beq i 79) .none .none),(λ _=>[(1,.ptr 1 0),(2,.ptr 2 0),(3,.ptr 3 0),(4,.p (eI i30)),(5,.p (eI k31))]),(by3 ([(1,[.p (eL aE Bt.AB),.p (eL aX Bt.Ax)]),(2,[.p (eI 0),.p (.val (.slice none 0 0)),.p (.val (.slice none 0 0))]),(3,[.p (eI 6),.vec 93 3 0 (B'.map aA),.vec 79 1 0 (Cb.map eS)])]) ([(1,[.p (eL aE Bt.AB),.p (eL aX Bt.Ax)]),(2,[.p (eI 0),.p (.val (.slice none 0 0)),.p (.val (.slice none 0 0))]),(3,[.p (eI 6),.vec 93 3 0 (B'.map aA),.p (eL eS Cb)])]) ([(3,[.p (eI 6),.vec 93 3 0 (B'.map aA),.vec 79 1 0 ((Cb++[(lat Bt.Ax k31).AA]).map eS)]),(1,[.p (eL aE Bt.AB),.p (eL aX Bt.Ax)]),(2,[.p (eI 0),.p (.val (.slice none 0 0)),.p (.val (.slice none 0 0))]),(3,[.p (eI 6),.vec 93 3 0 (B'.map aA),.p (eL eS Cb)])]))⟩ Z Z Z ⟨Z,Z,Z,Z,Z,trivial⟩ (lt2 ⟨Z,Z,Z,Z,Z,trivial⟩ ⟨Z,Z,Z,Z,Z,trivial⟩) Z Z Z Z ?_);refine ah (λ _=>.ptr 3 2) Z Z Z (bp Z Z Y) (lt2 Z Z) (aj Z (af [(3,_)] ⟨.inl Z,trivial⟩ (λ sl Bs K hK=>ae Z (al Z Z Z Z Z Z Z Z (Bs _ _ Z) hK)) (af [(3,_)] ⟨.inl Z,trivial⟩ (λ sl Bs K hK=>ae Z (al Z Z Z Z Z Z Z Z (Bs _ _ Z) hK)) ai))) (ah (by3 (.vec 79 1 0 (Cb.map eS)) (.p (eL eS Cb)) (.p (eL eS Cb))) Z Z Z (bp Z Z Y) (lt2 Z Z) (aj Z (aj Z (af [(70,_)] ⟨.inr ⟨0,_,Z,Z,Z⟩,trivial⟩ (λ sl Bs K hK=>ae Z (bj Z Z Z Z Z (Bs _ _ Z) Z Z hK)) ai))) ?_);refine ah (λ _=>.ptr 1 1) Z Z Z (bp Z Z Y) (lt2 Z Z) (aj Z (af [(1,_)] ⟨.inl Z,trivial⟩ (λ sl Bs K hK=>ae Z (al Z Z Z Z Z Z Z Z (Bs _ _ Z) hK)) (af [(1,_)] ⟨.inl Z,trivial⟩ (λ sl Bs K hK=>ae Z (al Z Z Z Z Z Z Z Z (Bs _ _ Z) hK)) ai))) (ah (λ _=>.p (eL aX Bt.Ax)) Z Z Z (bp Z Z Y) (lt2 Z Z) (aj Z (af [(72,_)] ⟨.inr ⟨2,_,Z,Z,Z⟩,trivial⟩ (λ sl Bs K hK=>ae Z (bj Z Z Z Z Z (Bs _ _ Z) Z Z hK)) (af [(72,_)] ⟨.inr ⟨2,_,Z,Z,Z⟩,trivial⟩ (λ sl Bs K hK=>ae Z (bj Z Z Z Z Z (Bs _ _ Z) Z Z hK)) ai))) ?_);refine ah (λ _=>.p (eI k31)) Z Z Z (bp Z Z Y) (lt2 Z Z) (aj Z (af [(5,_)] ⟨.inl Z,trivial⟩ (λ sl Bs K hK=>ae Z (aW Z Z Z (Bs _ _ Z) hK)) (af [(5,_)] ⟨.inl Z,trivial⟩ (λ sl Bs K hK=>ae Z (aW Z Z Z (Bs _ _ Z) hK)) ai))) (ah (λ _=>.rptr (aL.cs (lat Bt.Ax k31))) Z Z Z (bp Z Z Y) (lt2 Z Z) (aj Z (af [(73,_),(74,_)] ⟨.inr ⟨3,_,Z,Z,Z⟩,.inr ⟨4,_,Z,Z,Z⟩,trivial⟩ (λ sl Bs K hK=>ae Z (dw (f:=aX) (l:=Bt.Ax) aL.cs Z Z Z Z Z Z (Bs _ _ Z) Z (Bs _ _ Z) E2 aL.AD Y hK)) (af [(73,_),(74,_)] ⟨.inr ⟨3,_,Z,Z,Z⟩,.inr ⟨4,_,Z,Z,Z⟩,trivial⟩ (λ sl Bs K hK=>ae Z (dw (f:=aX) (l:=Bt.Ax) aL.cs Z Z Z Z Z Z (Bs _ _ Z) Z (Bs _ _ Z) E2 aL.AD Y hK)) ai))) ?_);refine ah (λ _=>.rptr (List.drop 0 (aL.cs (lat Bt.Ax k31)))) Z Z Z (bp Z Z Y) (lt2 Z Z) (aj Z (af [(75,_)] ⟨.inr ⟨5,_,Z,Z,Z⟩,trivial⟩ (λ sl Bs K hK=>ae Z (bG Z Z Z Z Z Z Z Z (Bs _ _ Z) hK)) (af [(75,_)] ⟨.inr ⟨5,_,Z,Z,Z⟩,trivial⟩ (λ sl Bs K hK=>ae Z (bG Z Z Z Z Z Z Z Z (Bs _ _ Z) hK)) ai))) (ah (λ _=>.p (eS ((lat Bt.Ax k31).AA))) Z Z Z (bp Z Z Y) (lt2 Z Z) (aj Z (af [(76,_)] ⟨.inr ⟨6,_,Z,Z,Z⟩,trivial⟩ (λ sl Bs K hK=>ae Z (da Z Z Z Z Z (Bs _ _ Z) Z hK)) (af [(76,_)] ⟨.inr ⟨6,_,Z,Z,Z⟩,trivial⟩ (λ sl Bs K hK=>ae Z (da Z Z Z Z Z (Bs _ _ Z) Z hK)) ai))) ?_);refine ah (λ _=>.p (eL eS [(lat Bt.Ax k31).AA])) Z Z Z (bp Z Z Y) (lt2 Z Z) (aj Z (aj Z (af [(77,_)] ⟨.inr ⟨7,_,Z,Z,Z⟩,trivial⟩ (λ sl Bs K hK=>ae Z (bE eS [(lat Bt.Ax k31).AA] Z Z Z Z Z Z (bZ (Bs _ _ Z) Z dy) Z Z Z Z Z Z Z hK)) ai))) (fh (λ _=>.vec 79 1 0 ((Cb++[(lat Bt.Ax k31).AA]).map eS)) [(71,_),(78,_)] Z ⟨.inr ⟨1,_,Z,Z,Z⟩,.inr ⟨8,_,Z,Z,Z⟩,trivial⟩ Z Z (bS Z Y) (lt2 (λ h=>absurd h (by decide)) Y) (λ sl Bs K hK=>ae Z (cX eS Cb [(lat Bt.Ax k31).AA] Z Z Z Z Z Z Z Z (Bs _ _ Z) Z Z (Bs _ _ Z) Z Y Z Z Z Z HT hK)) ?_);refine ah (λ _=>.ptr 3 2) Z Z Z (bp Z Z Y) (lt2 Z Z) (aj Z (af [(3,_)] ⟨.inl Z,trivial⟩ (λ sl Bs K hK=>ae Z (al Z Z Z Z Z Z Z Z (Bs _ _ Z) hK)) (aj Z ai))) (cp [(79,_),(80,_)] Z ⟨.inr ⟨9,_,Z,Z,Z⟩,.inr ⟨10,_,Z,Z,Z⟩,trivial⟩ Z (λ sl Bs K hK=>ae Z (ct Z Z Z (Bs _ _ Z) (Bs _ _ Z) Z Z Z (ph Z) hK)) ?_);refine eH (nx 2 Z ?_);refine cc' h2 λ HS h2=>bd h2 λ DW e52 h2=>cc' h2 λ HR h2=>mG (gE (t:=⟨[(1,.ptr 1 0),(2,.ptr 2 0),(3,.ptr 3 0),(4,.p (eI i30)),(5,.p (eI k31))],[(1,(ap.cs Bt).map .p),(2,[.p (eI 0),.p (.val (.slice none 0 0)),.p (.val (.slice none 0 0))]),(3,[.p (eI 6),.vec 93 3 0 (B'.map aA),.vec 79 1 0 ((Cb++[(lat Bt.Ax k31).AA]).map eS)])]⟩) Z Z) (mS ⟨2,[12,14],(by3 (.some λ i=>Nat.beq i 93||Nat.beq i 93) .none .none),(λ _=>[(1,.ptr 1 0),(2,.ptr 2 0),(3,.ptr 3 0),(4,.p (eI i30)),(5,.p (eI k31))]),(by3 ([(1,[.p (eL aE Bt.AB),.p (eL aX Bt.Ax)]),(2,[.p (eI 0),.p (.val (.slice none 0 0)),.p (.val (.slice none 0 0))]),(3,[.p (eI 6),.vec 93 3 0 (B'.map aA),.vec 79 1 0 ((Cb++[(lat Bt.Ax k31).AA]).map eS)])]) ([(1,[.p (eL aE Bt.AB),.p (eL aX Bt.Ax)]),(2,[.p (eI 0),.p (.val (.slice none 0 0)),.p (.val (.slice none 0 0))]),(3,[.p (eI 6),.p (eL aA B'),.vec 79 1 0 ((Cb++[(lat Bt.Ax k31).AA]).map eS)])]) ([(3,[.p (eI 6),.vec 93 3 0 ((B'++([(ak.mk 4 [DW] [])])).map aA),.vec 79 1 0 ((Cb++[(lat Bt.Ax k31).AA]).map eS)]),(1,[.p (eL aE Bt.AB),.p (eL aX Bt.Ax)]),(2,[.p (eI 0),.p (.val (.slice none 0 0)),.p (.val (.slice none 0 0))]),(3,[.p (eI 6),.p (eL aA B'),.vec 79 1 0 ((Cb++[(lat Bt.Ax k31).AA]).map eS)])]))⟩ Z Z Z ⟨Z,Z,Z,Z,Z,trivial⟩ (lt2 ⟨Z,Z,Z,Z,Z,trivial⟩ ⟨Z,Z,Z,Z,Z,trivial⟩) Z Z Z Z ?_);refine ah (λ _=>.ptr 3 1) Z Z Z (bp Z Z Y) (lt2 Z Z) (aj Z (af [(3,_)] ⟨.inl Z,trivial⟩ (λ sl Bs K hK=>ae Z (al Z Z Z Z Z Z Z Z (Bs _ _ Z) hK)) (af [(3,_)] ⟨.inl Z,trivial⟩ (λ sl Bs K hK=>ae Z (al Z Z Z Z Z Z Z Z (Bs _ _ Z) hK)) ai))) (ah (by3 (.vec 93 3 0 (B'.map aA)) (.p (eL aA B')) (.p (eL aA B'))) Z Z Z (bp Z Z Y) (lt2 Z Z) (aj Z (aj Z (af [(81,_)] ⟨.inr ⟨0,_,Z,Z,Z⟩,trivial⟩ (λ sl Bs K hK=>ae Z (bj Z Z Z Z Z (Bs _ _ Z) Z Z hK)) ai))) ?_);refine ah (λ _=>.ptr 1 1) Z Z Z (bp Z Z Y) (lt2 Z Z) (aj Z (af [(1,_)] ⟨.inl Z,trivial⟩ (λ sl Bs K hK=>ae Z (al Z Z Z Z Z Z Z Z (Bs _ _ Z) hK)) (af [(1,_)] ⟨.inl Z,trivial⟩ (λ sl Bs K hK=>ae Z (al Z Z Z Z Z Z Z Z (Bs _ _ Z) hK)) ai))) (ah (λ _=>.p (eL aX Bt.Ax)) Z Z Z (bp Z Z Y) (lt2 Z Z) (aj Z (af [(83,_)] ⟨.inr ⟨2,_,Z,Z,Z⟩,trivial⟩ (λ sl Bs K hK=>ae Z (bj Z Z Z Z Z (Bs _ _ Z) Z Z hK)) (af [(83,_)] ⟨.inr ⟨2,_,Z,Z,Z⟩,trivial⟩ (λ sl Bs K hK=>ae Z (bj Z Z Z Z Z (Bs _ _ Z) Z Z hK)) ai))) ?_);refine ah (λ _=>.p (eI k31)) Z Z Z (bp Z Z Y) (lt2 Z Z) (aj Z (af [(5,_)] ⟨.inl Z,trivial⟩ (λ sl Bs K hK=>ae Z (aW Z Z Z (Bs _ _ Z) hK)) (af [(5,_)] ⟨.inl Z,trivial⟩ (λ sl Bs K hK=>ae Z (aW Z Z Z (Bs _ _ Z) hK)) ai))) (ah (λ _=>.rptr (aL.cs (lat Bt.Ax k31))) Z Z Z (bp Z Z Y) (lt2 Z Z) (aj Z (af [(84,_),(85,_)] ⟨.inr ⟨3,_,Z,Z,Z⟩,.inr ⟨4,_,Z,Z,Z⟩,trivial⟩ (λ sl Bs K hK=>ae Z (dw (f:=aX) (l:=Bt.Ax) aL.cs Z Z Z Z Z Z (Bs _ _ Z) Z (Bs _ _ Z) HS aL.AD Y hK)) (af [(84,_),(85,_)] ⟨.inr ⟨3,_,Z,Z,Z⟩,.inr ⟨4,_,Z,Z,Z⟩,trivial⟩ (λ sl Bs K hK=>ae Z (dw (f:=aX) (l:=Bt.Ax) aL.cs Z Z Z Z Z Z (Bs _ _ Z) Z (Bs _ _ Z) HS aL.AD Y hK)) ai))) ?_);refine ah (λ _=>.rptr (List.drop 3 (aL.cs (lat Bt.Ax k31)))) Z Z Z (bp Z Z Y) (lt2 Z Z) (aj Z (af [(86,_)] ⟨.inr ⟨5,_,Z,Z,Z⟩,trivial⟩ (λ sl Bs K hK=>ae Z (bG Z Z Z Z Z Z Z Z (Bs _ _ Z) hK)) (af [(86,_)] ⟨.inr ⟨5,_,Z,Z,Z⟩,trivial⟩ (λ sl Bs K hK=>ae Z (bG Z Z Z Z Z Z Z Z (Bs _ _ Z) hK)) ai))) (ah (λ _=>.p (eL aE ((lat Bt.Ax k31).AB))) Z Z Z (bp Z Z Y) (lt2 Z Z) (aj Z (af [(87,_)] ⟨.inr ⟨6,_,Z,Z,Z⟩,trivial⟩ (λ sl Bs K hK=>ae Z (da Z Z Z Z Z (Bs _ _ Z) Z hK)) (af [(87,_)] ⟨.inr ⟨6,_,Z,Z,Z⟩,trivial⟩ (λ sl Bs K hK=>ae Z (da Z Z Z Z Z (Bs _ _ Z) Z hK)) ai))) ?_);refine ah (λ _=>.p (.agg (ak.cs DW))) Z Z Z (bp Z Z Y) (lt2 Z Z) (aj Z (aj Z (af [(88,_)] ⟨.inr ⟨7,_,Z,Z,Z⟩,trivial⟩ (λ sl Bs K hK=>ae Z (aP (oY _ ((lat Bt.Ax k31).AB) _ e52) Z Z Z (am (Bs _ _ Z) aO) ⟨sr,trivial⟩ Tryz.call88 Z hK)) ai))) (ah (λ _=>.p (eL aA [DW])) Z Z Z (bp Z Z Y) (lt2 Z Z) (aj Z (af [(89,_)] ⟨.inr ⟨8,_,Z,Z,Z⟩,trivial⟩ (λ sl Bs K hK=>ae Z (bE aA [DW] Z Z Z Z Z Z (bZ (Bs _ _ Z) Z dy) Z Z Z Z Z Z (by first|rfl|(simp only [d4,py,ak.AH]; done)|(simp only [d4,py,ak.AH]; rfl)) hK)) (af [(89,_)] ⟨.inr ⟨8,_,Z,Z,Z⟩,trivial⟩ (λ sl Bs K hK=>ae Z (bE aA [DW] Z Z Z Z Z Z (bZ (Bs _ _ Z) Z dy) Z Z Z Z Z Z (by first|rfl|(simp only [d4,py,ak.AH]; done)|(simp only [d4,py,ak.AH]; rfl)) hK)) ai))) ?_);refine ah (λ _=>.p (.agg (ak.cs (ak.mk 4 [DW] [])))) Z Z Z (bp Z Z Y) (lt2 Z Z) (aj Z (af [(90,_)] ⟨.inr ⟨9,_,Z,Z,Z⟩,trivial⟩ (λ sl Bs K hK=>ae Z (lM (y:=.p (.agg (ak.cs (ak.mk 4 [DW] [])))) (λ _ hq=>kQ Z Z Z Z Z Z (eW Z (eW (Bs _ _ Z) kI)) Z Z hq) (b7 ⟨.inl Z,.inl Z,.inr ⟨Z,Z⟩,trivial⟩) hK)) (af [(90,_)] ⟨.inr ⟨9,_,Z,Z,Z⟩,trivial⟩ (λ sl Bs K hK=>ae Z (lM (y:=.p (.agg (ak.cs (ak.mk 4 [DW] [])))) (λ _ hq=>kQ Z Z Z Z Z Z (eW Z (eW (Bs _ _ Z) kI)) Z Z hq) (b7 ⟨.inl Z,.inl Z,.inr ⟨Z,Z⟩,trivial⟩) hK)) ai))) (ah (λ _=>.p (eL aA ([(ak.mk 4 [DW] [])]))) Z Z Z (bp Z Z Y) (lt2 Z Z) (aj Z (aj Z (af [(91,_)] ⟨.inr ⟨10,_,Z,Z,Z⟩,trivial⟩ (λ sl Bs K hK=>ae Z (bE aA [(ak.mk 4 [DW] [])] Z Z Z Z Z Z (bZ (Bs _ _ Z) Z dy) Z Z Z Z Z Z (by first|rfl|(simp only [d4,py,ak.AH]; done)|(simp only [d4,py,ak.AH]; rfl)) hK)) ai))) ?_);refine fh (λ _=>.vec 93 3 0 ((B'++([(ak.mk 4 [DW] [])])).map aA)) [(82,_),(92,_)] Z ⟨.inr ⟨1,_,Z,Z,Z⟩,.inr ⟨11,_,Z,Z,Z⟩,trivial⟩ Z Z (bS Z Y) (lt2 (λ h=>absurd h (by decide)) Y) (λ sl Bs K hK=>ae Z (cX aA B' ([(ak.mk 4 [DW] [])]) Z Z Z Z Z Z Z Z (Bs _ _ Z) Z Z (Bs _ _ Z) Z (λ x=>congrArg List.length (ak.AD x)) Z Z Z Z HR hK)) (ah (λ _=>.ptr 3 1) Z Z Z (bp Z Z Y) (lt2 Z Z) (aj Z (af [(3,_)] ⟨.inl Z,trivial⟩ (λ sl Bs K hK=>ae Z (al Z Z Z Z Z Z Z Z (Bs _ _ Z) hK)) (aj Z ai))) ?_);refine cp [(93,_),(94,_)] Z ⟨.inr ⟨12,_,Z,Z,Z⟩,.inr ⟨13,_,Z,Z,Z⟩,trivial⟩ Z (λ sl Bs K hK=>ae Z (ct Z Z Z (Bs _ _ Z) (Bs _ _ Z) Z Z Z (ph Z) hK)) (eH ?_);refine nx 3 Z (oA h2 Z Z λ hk54 h2=>?_);exact nx 2 Z (eX _ (oi h2).symm (gE Z Z))
   refine fD (p:=k31=(Bt.Ax.length:Int)) [] h3 Z (λ G1 h3=>?_) λ G1 h3=>?_
   ·refine mD [(1,.ptr 1 0),(2,.ptr 2 0),(3,.ptr 3 0),(4,.p (eI i30)),(5,.p (eI k31))] Z ⟨Z,Z,Z,Z,Z,trivial⟩ Z (dR 3 Z ?_);refine dq (.p (eI (Bt.Ax.length:Int))) [21] Z (λ _ e _ q=>ae Z (mj (f:=aX) (l:=Bt.Ax) Z Z Z Z Z (e _ _ Z) Z q)) Z (dL (dt G1) Z ?_);refine dR 22 Z (dE Z ?_);exact nx 1 Z (eX _ (oi h3).symm (gE Z Z))
   refine fD (p:=i30<(Bt.AB.length:Int)) [] h3 Z (λ H1 h3=>?_) λ H1 h3=>?_
   ·refine cc' h3 λ DI h3=>cc' h3 λ E4 h3=>mD [(1,.ptr 1 0),(2,.ptr 2 0),(3,.ptr 3 0),(4,.p (eI i30)),(5,.p (eI k31))] Z ⟨Z,Z,Z,Z,Z,trivial⟩ Z (dR 3 Z ?_);refine dq (.p (eI (Bt.Ax.length:Int))) [21] Z (λ _ e _ q=>ae Z (mj (f:=aX) (l:=Bt.Ax) Z Z Z Z Z (e _ _ Z) Z q)) Z (dL (df G1) Z ?_);refine dR 4 Z (dq (.p (eI (Bt.AB.length:Int))) [24,27] Z (λ _ e _ q=>ff (mj (f:=aE) (l:=Bt.AB) Z Z Z Z Z (e _ _ Z) Z q) Z Z (e _ _ Z) (rfl)) Z ?_);refine dL (dt H1) Z (dR 4 Z ?_);refine dq (.rptr (ax.cs (lat Bt.AB i30))) [30,32,33] Z (λ _ e _ q=>ff (dw (f:=aE) (l:=Bt.AB) ax.cs Z Z Z Z Z Z (e _ _ Z) Z (e _ _ Z) DI ax.AD Y q) Z Z (e _ _ Z) (rfl)) Z (dR 5 Z ?_);refine dq (.rptr (aL.cs (lat Bt.Ax k31))) [30,38,39] Z (λ _ e _ q=>ff (dw (f:=aX) (l:=Bt.Ax) aL.cs Z Z Z Z Z Z (e _ _ Z) Z (e _ _ Z) E4 aL.AD Y q) Z Z (e _ _ Z) (rfl)) Z (dR 2 Z ?_);refine dq (.p (eB (Op.bytesLess ((lat Bt.AB i30).AA) ((lat Bt.Ax k31).AA)))) [30,36,42] Z (λ _ e _ q=>ff (jR Z Z Z (e _ _ Z) (e _ _ Z) Z q) Z Z (e _ _ Z) (rfl)) Z (dR 2 Z ?_);refine dE Z (nx 1 Z ?_);exact eX _ (oi h3).symm (gE Z Z)
   refine mD [(1,.ptr 1 0),(2,.ptr 2 0),(3,.ptr 3 0),(4,.p (eI i30)),(5,.p (eI k31))] Z ⟨Z,Z,Z,Z,Z,trivial⟩ Z (dR 3 Z ?_);refine dq (.p (eI (Bt.Ax.length:Int))) [21] Z (λ _ e _ q=>ae Z (mj (f:=aX) (l:=Bt.Ax) Z Z Z Z Z (e _ _ Z) Z q)) Z (dL (df G1) Z ?_);refine dR 4 Z (dq (.p (eI (Bt.AB.length:Int))) [24,27] Z (λ _ e _ q=>ff (mj (f:=aE) (l:=Bt.AB) Z Z Z Z Z (e _ _ Z) Z q) Z Z (e _ _ Z) (rfl)) Z ?_);refine dL (df H1) Z (dR 16 Z ?_);refine dE Z (nx 1 Z ?_);exact eX _ (oi h3).symm (gE Z Z)
  exact nx 2 Z (eXi _ (oi h1).symm (gE Z Z))
 refine nx 4 Z (oLl (f:=aE) Z Z ?_);refine nx 2 Z (fD [11,12] h2 Z (λ GF h2=>?_) λ GF h2=>?_)
 ·exact nx 7 Z (eX _ (oi h2).symm (gE Z Z))
 refine nx 3 Z (oLl (f:=aX) Z Z ?_);exact nx 3 Z (eX _ (oi h2).symm (gE Z Z))
def dW (n:Nat)(Bt:ap):Nat->Int->Option (Unit⊕Int)|0,_=>none|m+1,i13=>if i13<(Bt.Ax.length:Int) then(j8 n Bt i13).bind λ DY=>if DY=0 then ck (inR (i13+1))<|dW n Bt m (i13+1)else some (.inr DY)else some (.inl ())
def jC (n:Nat)(Bt:ap):Option Int :=(if 64<(Bt.AB.length:Int) then some true else some (decide (64<(Bt.Ax.length:Int))) : Option Bool).bind λ t2=>if t2=true then some 14 else(iA n Bt.AB false).bind λ r4=>if r4=0 then jn (dW n Bt n 0) λ _q32=>(jg n Bt.AB ([105,100]:Bk)).bind λ Ft=>if (!Ft.2)=true then some 12 else(if Ft.1.AZ=3 then if Ft.1.AF.Av=3 then some Ft.1.Ba else some true else some true : Option Bool).bind λ BQ=>if BQ=true then some 1 else(j2 n Bt).bind λ GN=>(ir n GN).bind λ r29=>some r29 else some r4
theorem pU (n:Nat)(Bt:ap)(r:Int)(h0:jC n Bt=some r):aC Tryz.prog 25 [.agg (ap.cs Bt)] (·=.p (eI r)):=by
 unfold jC at h0;refine aT good Tryz.func25 Z Z Z λ w0=>mP (λ v:Int=>.p (eI v)) ?_;refine nx 7 Z (bd h0 λ GT h1 h0=>?_);refine kN GT (λ F6=>⟨[(1,.ptr 1 0),(16,.p (eB F6))],[(1,(ap.cs Bt).map .p)]⟩) ?_ ?_
 ·refine nx 1 Z (fB [16] h0 Z (λ c3 h0=>?_) λ c3 h0=>?_)
  ·exact nx 6 Z (mQ (oi h0) Z (sr))
  refine nx 6 Z (bd h0 λ r4 e5 h0=>?_);refine oK (ma _ Bt.AB false _ e5) Z ⟨sr,sr,trivial⟩ Tryz.call52 Z (nx 8 Z ?_);refine fN [21] h0 Z (λ c6 h0=>?_) λ c6 h0=>?_
  ·refine nx 8 rfl ?_;obtain ⟨EW,h1,B8,hR0⟩:=fj h0;refine kEx 0 (λ v37:Unit=>EW=.inl v37) (λ v37=>⟨[(1,.ptr 1 0)],[(1,(ap.cs Bt).map .p)]⟩) (λ v37 hv=>?_) ?_
   ·have h0:=B8 _ hv;refine nx 5 Z (bd h0 λ Ft e21 h0=>?_);refine oK (mA _ Bt.AB ([105,100]:Bk) _ e21) Z ⟨sr,sr,trivial⟩ Tryz.call54 Z (nx 13 Z ?_);refine fB [43] h0 Z (λ c22 h0=>?_) λ c22 h0=>?_
    ·exact nx 6 Z (mQ (oi h0) Z (sr))
    refine nx 4 Z (bd h0 λ F0 h1 h0=>?_);refine kN F0 (λ Fp=>⟨[(1,.ptr 1 0),(56,.p (eB Fp))],[(1,(ap.cs Bt).map .p)]⟩) ?_ ?_
    ·refine nx 1 Z (fB [56] h0 Z (λ H3 h0=>?_) λ H3 h0=>?_)
     ·exact nx 6 Z (mQ (oi h0) Z (sr))
     refine nx 5 Z (bd h0 λ GN e28 h0=>?_);refine oK (qC _ Bt _ e28) Z ⟨sr,trivial⟩ Tryz.call56 Z (bd h0 λ r29 e30 h0=>?_);refine oK (lR _ GN _ e30) Z ⟨sr,trivial⟩ Tryz.call55 Z (nx 3 Z ?_);exact mQ (oi h0) Z (sr)
    refine nx 5 Z (fN [46,47] h1 Z (λ Dz h1=>?_) λ Dz h1=>?_)
    ·refine nx 6 Z (fN [51,52,53] h1 Z (λ Ff h1=>?_) λ Ff h1=>?_)
     ·exact nx 4 Z (eX _ (oi h1).symm (gE Z Z))
     exact nx 4 Z (eX _ (oi h1).symm (gE Z Z))
    exact nx 10 Z (eX _ (oi h1).symm (gE Z Z))
   refine lG (λ (FW:Int)=>⟨[(1,.ptr 1 0),(4,.p (eI FW))],[(1,(ap.cs Bt).map .p)]⟩) (λ m (FW:Int)=>dW n Bt m FW) Y 0 h1 (gE rfl rfl) ?_;rintro m i13 h1;replace h1:dW n Bt (m+1) i13=some EW:=h1;rw [dW] at h1;refine nx 6 rfl (oLl (f:=aX) rfl rfl ?_);refine nx 2 rfl (fD [27] h1 rfl (λ DN h1=>?_) λ DN h1=>?_)
   ·refine nx 8 Z (bd h1 λ DY F4 h1=>?_);refine oK (qH _ Bt i13 _ F4) Z ⟨sr,sr,trivial⟩ Tryz.call53 Z (nx 7 Z ?_);refine fN [34] h1 Z (λ DL h1=>?_) λ DL h1=>?_
    ·refine nx 4 Z (oA h1 Z Z λ Ds h1=>?_);exact nx 2 Z (eX (i13+1) h1 (gE Z Z))
    exact nx 7 Z (mQ (hR0 _ (oi h1).symm) Z (sr))
   exact nx 2 Z (eXi _ (oi h1).symm (gE Z Z))
  exact nx 7 Z (mQ (oi h0) Z (sr))
 refine nx 3 Z (oLl (f:=aE) Z Z ?_);refine nx 2 Z (fD [10,11] h1 Z (λ c1 h1=>?_) λ c1 h1=>?_)
 ·exact nx 6 Z (eX _ (oi h1).symm (gE Z Z))
 refine nx 2 Z (oLl (f:=aX) Z Z ?_);exact nx 3 Z (eX _ (oi h1).symm (gE Z Z))
def dk (n:Nat)(Bt:ap):Nat->Int->Option (Unit⊕Bool)|0,_=>none|m+1,i16=>if i16<(Bt.Ax.length:Int) then(ck ((0:Int)<=i16/\i16<(Bt.Ax.length:Int))<|(iy n ((lat Bt.Ax i16).AB)).bind λ FT=>if (!FT)=true then some true else ck ((0:Int)<=i16/\i16<(Bt.Ax.length:Int))<|some (decide (100<(((lat Bt.Ax i16).AA).length:Int))) : Option Bool).bind λ Dj=>if Dj=true then some (.inr false)else ck (inR (i16+1))<|dk n Bt m (i16+1)else some (.inl ())
def iJ (n:Nat)(Bt:ap):Option Bool :=((iy n Bt.AB).bind λ r1=>if (!r1)=true then some true else some (decide (10<(Bt.Ax.length:Int))) : Option Bool).bind λ t4=>if t4=true then some false else jn (dk n Bt n 0) λ _FY=>(jC n Bt).bind λ GN=>some (decide (GN=0))
theorem o1 (n:Nat)(Bt:ap)(r:Bool)(h0:iJ n Bt=some r):aC Tryz.prog 11 [.agg (ap.cs Bt)] (·=.p (eB r)):=by
 unfold iJ at h0;refine aT good Tryz.func11 Z Z Z λ w0=>mP (λ v:Bool=>.p (eB v)) ?_;refine nx 7 Z (bd h0 λ o32 h1 h0=>?_);refine kN o32 (λ v33=>⟨[(1,.ptr 1 0),(13,.p (eB v33))],[(1,(ap.cs Bt).map .p)]⟩) ?_ ?_
 ·refine nx 1 Z (fB [13] h0 Z (λ c5 h0=>?_) λ c5 h0=>?_)
  ·exact nx 6 Z (mQ (oi h0) Z (sr))
  refine nx 8 rfl ?_;obtain ⟨GT,h1,B8,hR0⟩:=fj h0;refine kEx 0 (λ F6:Unit=>GT=.inl F6) (λ F6=>⟨[(1,.ptr 1 0)],[(1,(ap.cs Bt).map .p)]⟩) (λ F6 hv=>?_) ?_
  ·have h0:=B8 _ hv;refine nx 4 Z (bd h0 λ GN e28 h0=>?_);refine oK (pU _ Bt _ e28) Z ⟨sr,trivial⟩ Tryz.call25 Z (nx 4 Z ?_);exact mQ (oi h0) Z (sr)
  refine lG (λ (GQ:Int)=>⟨[(1,.ptr 1 0),(3,.p (eI GQ))],[(1,(ap.cs Bt).map .p)]⟩) (λ m (GQ:Int)=>dk n Bt m GQ) Y 0 h1 (gE rfl rfl) ?_;rintro m i16 h1;replace h1:dk n Bt (m+1) i16=some GT:=h1;rw [dk] at h1;refine nx 6 rfl (oLl (f:=aX) rfl rfl ?_);refine nx 2 rfl (fD [18] h1 rfl (λ DL h1=>?_) λ DL h1=>?_)
  ·refine nx 5 Z (bd h1 λ o37 h2 h1=>?_);refine kN o37 (λ v38=>⟨[(1,.ptr 1 0),(3,.p (eI i16)),(38,.p (eB v38))],[(1,(ap.cs Bt).map .p)]⟩) ?_ ?_
   ·refine nx 1 Z (fB [38] h1 Z (λ Ff h1=>?_) λ Ff h1=>?_)
    ·exact nx 6 Z (mQ (hR0 _ (oi h1).symm) Z (sr))
    refine nx 4 Z (oA h1 Z Z λ FK h1=>?_);exact nx 2 Z (eX (i16+1) h1 (gE Z Z))
   refine nx 4 Z (oE h2 aL.AD Z Z Y λ Ds h2=>?_);refine nx 2 Z (bd h2 λ FT e20 h2=>?_);refine oK (lZ _ ((lat Bt.Ax i16).AB) _ e20) Z ⟨sr,trivial⟩ Tryz.call24 Z (nx 2 Z ?_);refine fB [28,29] h2 Z (λ Ey h2=>?_) λ Ey h2=>?_
   ·exact nx 10 Z (eX _ (oi h2).symm (gE Z Z))
   refine nx 3 Z (oE h2 aL.AD Z Z Y λ HV h2=>?_);refine nx 2 Z (oLs Z ?_);exact nx 3 Z (eX _ (oi h2).symm (gE Z Z))
  exact nx 2 Z (eXi _ (oi h1).symm (gE Z Z))
 refine nx 3 Z (bd h1 λ r1 e2 h1=>?_);refine oK (lZ _ Bt.AB _ e2) Z ⟨sr,trivial⟩ Tryz.call24 Z (nx 2 Z ?_);refine fB [7,8] h1 Z (λ c3 h1=>?_) λ c3 h1=>?_
 ·exact nx 6 Z (eX _ (oi h1).symm (gE Z Z))
 refine nx 2 Z (oLl (f:=aX) Z Z ?_);exact nx 3 Z (eX _ (oi h1).symm (gE Z Z))
def dP (a_0:List Bk)(BN:List Bk):Nat->Int->Option (Unit⊕Bool)|0,_=>none|m+1,i8=>if i8<(a_0.length:Int) then ck ((0:Int)<=i8/\i8<(a_0.length:Int))<|ck ((0:Int)<=i8/\i8<(BN.length:Int))<|if lat a_0 i8=lat BN i8 then ck (inR (i8+1))<|dP a_0 BN m (i8+1)else some (.inr false)else some (.inl ())
def jy (n:Nat)(a_0:List Bk)(BN:List Bk):Option Bool :=if (a_0.length:Int)=(BN.length:Int) then jn (dP a_0 BN n 0) λ _Fi=>some true else some false
theorem l5 (n:Nat)(a_0:List Bk)(BN:List Bk)(r:Bool)(h0:jy n a_0 BN=some r):aC Tryz.prog 12 [eL eS a_0,eL eS BN] (·=.p (eB r)):=by
 unfold jy at h0;refine aT good Tryz.func12 Z Z Z λ w0=>mP (λ v:Bool=>.p (eB v)) ?_;refine nx 8 Z (oLl (f:=eS) Z Z ?_);refine nx 1 Z (oLl (f:=eS) Z Z ?_);refine nx 2 Z (fN [10] h0 Z (λ c1 h0=>?_) λ c1 h0=>?_)
 ·refine nx 8 rfl ?_;obtain ⟨EE,h1,B8,hR0⟩:=fj h0;refine kEx 0 (λ DU:Unit=>EE=.inl DU) (λ DU=>⟨[],[]⟩) (λ DU hv=>?_) ?_
  ·have h0:=B8 _ hv;exact nx 6 Z (mQ (oi h0) Z (sr))
  refine lG (λ (EQ:Int)=>⟨[(0,.p (eL eS a_0)),(1,.p (eL eS BN)),(5,.p (eI EQ))],[]⟩) (λ m (EQ:Int)=>dP a_0 BN m EQ) Y 0 h1 (gE rfl rfl) ?_;rintro m i8 h1;replace h1:dP a_0 BN (m+1) i8=some EE:=h1;rw [dP] at h1;refine nx 5 rfl (oLl (f:=eS) rfl rfl ?_);refine nx 2 rfl (fD [14] h1 rfl (λ c9 h1=>?_) λ c9 h1=>?_)
  ·refine nx 5 Z (cc' h1 λ D6 h1=>?_);refine cc' h1 λ D5 h1=>mD [(0,.p (eL eS a_0)),(1,.p (eL eS BN)),(5,.p (eI i8))] Z ⟨Z,Z,Z,trivial⟩ Z (dR 2 Z ?_);refine dq (.rptr [eS (lat a_0 i8)]) [17,18] Z (λ _ e _ q=>ae Z (dw (f:=eS) (l:=a_0) (λ x=>[eS x]) Z Z Z Z Z Z (e _ _ Z) Z (e _ _ Z) D6 Y Y q)) Z (dR 3 Z ?_);refine dq (.rptr [eS (lat BN i8)]) [21,22] Z (λ _ e _ q=>ae Z (dw (f:=eS) (l:=BN) (λ x=>[eS x]) Z Z Z Z Z Z (e _ _ Z) Z (e _ _ Z) D5 Y Y q)) Z (dR 1 Z ?_);refine dq (.p (eB (!decide (lat a_0 i8=lat BN i8)))) [20,24] Z (λ _ e _ q=>ae Z (jR Z Z Z (e _ _ Z) (e _ _ Z) Z q)) Z (dE Z ?_);refine nx 1 Z (fN [25] h1 Z (λ Eg h1=>?_) λ Eg h1=>?_)
   ·refine nx 4 Z (oA h1 Z Z λ FL h1=>?_);exact nx 2 Z (eX (i8+1) h1 (gE Z Z))
   exact nx 6 Z (mQ (hR0 _ (oi h1).symm) Z (sr))
  exact nx 2 Z (eXi _ (oi h1).symm (gE Z Z))
 exact nx 6 Z (mQ (oi h0) Z (sr))
def jv (n:Nat)(BU:Bk)(y_1:Bk):Option Bool :=(if BU=y_1 then some false else if (BU.length:Int)<=50 then if (y_1.length:Int)<=50 then(eA BU).bind λ r4=>(eM n r4).bind λ r6=>if r6=0 then(eA y_1).bind λ r9=>(eM n r9).bind λ Do=>some (decide (Do=0))else some false else some false else some false : Option Bool).bind λ Cc=>some Cc
theorem p8 (n:Nat)(BU:Bk)(y_1:Bk)(r:Bool)(h0:jv n BU y_1=some r):aC Tryz.prog 18 [eS BU,eS y_1] (·=.p (eB r)):=by
 unfold jv at h0;refine aT good Tryz.func18 Z Z Z λ w0=>mP (λ v:Bool=>.p (eB v)) ?_;refine nx 5 Z (bd h0 λ El h1 h0=>?_);refine kN El (λ Eh=>⟨[(4,.p (eB Eh))],[]⟩) ?_ ?_
 ·exact nx 2 Z (mQ (oi h0) Z (sr))
 refine nx 3 Z (oS Z Z ?_);refine nx 1 Z (fN [7,8] h1 Z (λ c1 h1=>?_) λ c1 h1=>?_)
 ·exact nx 23 Z (eX _ (oi h1).symm (gE Z Z))
 refine nx 1 Z (oLs Z ?_);refine nx 3 Z (fD [11,12,13] h1 Z (λ c2 h1=>?_) λ c2 h1=>?_)
 ·refine nx 1 Z (oLs Z ?_);refine nx 3 Z (fD [16,17,18] h1 Z (λ c3 h1=>?_) λ c3 h1=>?_)
  ·refine nx 1 Z (bd h1 λ r4 e5 h1=>?_);refine oK (eg BU _ e5) Z ⟨sr,trivial⟩ Tryz.call22 Z (bd h1 λ r6 e7 h1=>?_);refine oK (iM _ r4 _ e7) Z ⟨sr,trivial⟩ Tryz.call38 Z (nx 3 Z ?_);refine fD [22,23,24] h1 Z (λ c8 h1=>?_) λ c8 h1=>?_
   ·refine nx 1 Z (bd h1 λ r9 GE h1=>?_);refine oK (eg y_1 _ GE) Z ⟨sr,trivial⟩ Tryz.call22 Z (bd h1 λ Do Eb h1=>?_);refine oK (iM _ r9 _ Eb) Z ⟨sr,trivial⟩ Tryz.call38 Z (nx 4 Z ?_);exact eX _ (oi h1).symm (gE Z Z)
   exact nx 7 Z (eX _ (oi h1).symm (gE Z Z))
  exact nx 13 Z (eX _ (oi h1).symm (gE Z Z))
 exact nx 18 Z (eX _ (oi h1).symm (gE Z Z))
def dr (Bu:aa)(key_1:Bk):Nat->Int->Option (Unit⊕(aa×Bool))|0,_=>none|m+1,i10=>(if i10<(Bu.Aw.length:Int) then some (decide (i10<(Bu.Ar.length:Int)))else some false : Option Bool).bind λ t12=>if t12=true then ck ((0:Int)<=i10/\i10<(Bu.Aw.length:Int))<|if lat Bu.Aw i10=key_1 then ck ((0:Int)<=i10/\i10<(Bu.Ar.length:Int))<|some (.inr ((lat Bu.Ar i10),true))else ck (inR (i10+1))<|dr Bu key_1 m (i10+1)else some (.inl ())
def gR (n:Nat)(Bu:aa)(key_1:Bk):Option (aa×Bool) :=if Bu.Av=5 then jn (dr Bu key_1 n 0) λ _Fy=>some ((aa.mk 0 0 ([]:Bk) [] []),false)else some ((aa.mk 0 0 ([]:Bk) [] []),false)
theorem iW (n:Nat)(Bu:aa)(key_1:Bk)(r:aa×Bool)(h0:gR n Bu key_1=some r):aC Tryz.prog 48 [.agg (aa.cs Bu),eS key_1] (·=.tuple [.p (.agg (aa.cs r.1)),.p (eB r.2)]):=by
 unfold gR at h0;refine aT good Tryz.func48 Z Z Z λ w0=>mP (λ v:aa×Bool=>.tuple [.p (.agg (aa.cs v.1)),.p (eB v.2)]) ?_;refine nx 13 Z (fN [9] h0 Z (λ c1 h0=>?_) λ c1 h0=>?_)
 ·refine nx 8 rfl ?_;obtain ⟨F1,h1,B8,hR0⟩:=fj h0;refine kEx 0 (λ F7:Unit=>F1=.inl F7) (λ F7=>⟨[(4,.ptr 4 0)],[(4,[.p (eI 0),.p (eI 0),.p (eS ([]:Bk)),.p (.val (.slice none 0 0)),.p (.val (.slice none 0 0))])]⟩) (λ F7 hv=>?_) ?_
  ·have h0:=B8 _ hv;exact nx 8 Z (mQ (oi h0) Z (ci ⟨b7 ⟨.inl Z,.inl Z,.inl Z,.inr ⟨Z,Z⟩,.inr ⟨Z,Z⟩,trivial⟩,sr,trivial⟩))
  refine lG (λ (DO:Int)=>⟨[(1,.p (eS key_1)),(2,.ptr 2 0),(4,.ptr 4 0),(6,.p (eI DO))],[(2,(aa.cs Bu).map .p),(4,[.p (eI 0),.p (eI 0),.p (eS ([]:Bk)),.p (.val (.slice none 0 0)),.p (.val (.slice none 0 0))])]⟩) (λ m (DO:Int)=>dr Bu key_1 m DO) Y 0 h1 (gE rfl rfl) ?_;rintro m i10 h1;replace h1:dr Bu key_1 (m+1) i10=some F1:=h1;rw [dr] at h1;refine nx 2 rfl (bd h1 λ Hv h2 h1=>?_);refine kN Hv (λ G6=>⟨[(1,.p (eS key_1)),(2,.ptr 2 0),(4,.ptr 4 0),(6,.p (eI i10)),(22,.p (eB G6))],[(2,(aa.cs Bu).map .p),(4,[.p (eI 0),.p (eI 0),.p (eS ([]:Bk)),.p (.val (.slice none 0 0)),.p (.val (.slice none 0 0))])]⟩) ?_ ?_
  ·refine nx 1 Z (fB [22] h1 Z (λ DT h1=>?_) λ DT h1=>?_)
   ·refine nx 9 Z (oE h1 Y Z Z Y λ DJ h1=>?_);refine nx 2 Z (oS Z Z ?_);refine nx 1 Z (fD [31] h1 Z (λ FP h1=>?_) λ FP h1=>?_)
    ·refine nx 6 Z (oE h1 aa.AD Z Z Y λ CZ h1=>?_);exact nx 5 Z (mQ (hR0 _ (oi h1).symm) Z (ci ⟨sr,sr,trivial⟩))
    refine nx 4 Z (oA h1 Z Z λ Es h1=>?_);exact nx 2 Z (eX (i10+1) h1 (gE Z Z))
   exact nx 2 Z (eXi _ (oi h1).symm (gE Z Z))
  refine nx 4 Z (oLl (f:=eS) Z Z ?_);refine nx 2 Z (fD [15,16] h2 Z (λ DC h2=>?_) λ DC h2=>?_)
  ·refine nx 3 Z (oLl (f:=ag) Z Z ?_);exact nx 3 Z (eX _ (oi h2).symm (gE Z Z))
  exact nx 7 Z (eX _ (oi h2).symm (gE Z Z))
 exact nx 8 Z (mQ (oi h0) Z (ci ⟨b7 ⟨.inl Z,.inl Z,.inl Z,.inr ⟨Z,Z⟩,.inr ⟨Z,Z⟩,trivial⟩,sr,trivial⟩))
def jE (n:Nat)(Bu:aa)(name_1:Bk):Option aa :=if Bu.Av=5 then(gR n Bu name_1).bind λ r2=>if (!r2.2)=true then some (aa.mk 0 0 ([]:Bk) [] [])else some r2.1 else some (aa.mk 0 0 ([]:Bk) [] [])
theorem oz (n:Nat)(Bu:aa)(name_1:Bk)(r:aa)(h0:jE n Bu name_1=some r):aC Tryz.prog 35 [.agg (aa.cs Bu),eS name_1] (·=.p (.agg (aa.cs r))):=by
 unfold jE at h0;refine aT good Tryz.func35 Z Z Z λ w0=>mP (λ v:aa=>.p (.agg (aa.cs v))) ?_;refine nx 12 Z (fN [9] h0 Z (λ c1 h0=>?_) λ c1 h0=>?_)
 ·refine nx 6 Z (bd h0 λ r2 e3 h0=>?_);refine oK (iW _ Bu name_1 _ e3) Z ⟨sr,sr,trivial⟩ Tryz.call48 Z (nx 13 Z ?_);refine fB [18] h0 Z (λ c4 h0=>?_) λ c4 h0=>?_
  ·exact nx 7 Z (mQ (oi h0) Z (b7 ⟨.inl Z,.inl Z,.inl Z,.inr ⟨Z,Z⟩,.inr ⟨Z,Z⟩,trivial⟩))
  exact nx 8 Z (mQ (oi h0) Z (sr))
 exact nx 7 Z (mQ (oi h0) Z (b7 ⟨.inl Z,.inl Z,.inl Z,.inr ⟨Z,Z⟩,.inr ⟨Z,Z⟩,trivial⟩))
def ep (a_0:aa)(BN:aa):Nat->Int->Option (Unit⊕Bool)|0,_=>none|m+1,i13=>if i13<(a_0.Aw.length:Int) then ck ((0:Int)<=i13/\i13<(a_0.Aw.length:Int))<|ck ((0:Int)<=i13/\i13<(BN.Aw.length:Int))<|if lat a_0.Aw i13=lat BN.Aw i13 then ck (inR (i13+1))<|ep a_0 BN m (i13+1)else some (.inr false)else some (.inl ())
def eu (CB:aa->aa->Option Bool)(a_0:aa)(BN:aa):Nat->Int->Option (Unit⊕Bool)|0,_=>none|m+1,i28=>if i28<(a_0.Ar.length:Int) then ck ((0:Int)<=i28/\i28<(a_0.Ar.length:Int))<|ck ((0:Int)<=i28/\i28<(BN.Ar.length:Int))<|(CB (lat a_0.Ar i28) (lat BN.Ar i28)).bind λ r32=>if (!r32)=true then some (.inr false)else ck (inR (i28+1))<|eu CB a_0 BN m (i28+1)else some (.inl ())
def fq:Nat->aa->aa->Option Bool|0,_,_=>none|n+1,a_0,BN=>(if a_0.Av=BN.Av then if a_0.Ay=BN.Ay then if a_0.Az=BN.Az then if (a_0.Ar.length:Int)=(BN.Ar.length:Int) then some (!decide ((a_0.Aw.length:Int)=(BN.Aw.length:Int)))else some true else some true else some true else some true : Option Bool).bind λ t5=>if t5=true then some false else jn (ep a_0 BN n 0) λ _GP=>jn (eu (fq n) a_0 BN n 0) λ _FX=>some true
theorem qm (n:Nat):∀ (a_0:aa) (BN:aa) (r:Bool),fq n a_0 BN=some r->aC Tryz.prog 81 [.agg (aa.cs a_0),.agg (aa.cs BN)] (·=.p (eB r)):=by
 induction n with
 | zero=>intro a_0 BN r h0; cases h0
 | succ n ih=>
 have CU:=ih;intro a_0 BN r h0;rw [fq] at h0;refine aT good Tryz.func81 Z Z Z λ w0=>mP (λ v:Bool=>.p (eB v)) ?_;refine nx 8 Z (bd h0 λ o40 h1 h0=>?_);refine kN o40 (λ v41=>⟨[(2,.ptr 2 0),(3,.ptr 3 0),(43,.p (eB v41))],[(2,(aa.cs a_0).map .p),(3,(aa.cs BN).map .p)]⟩) ?_ ?_
 ·refine nx 1 Z (fB [43] h0 Z (λ c6 h0=>?_) λ c6 h0=>?_)
  ·exact nx 6 Z (mQ (oi h0) Z (sr))
  refine nx 8 rfl ?_;obtain ⟨o42,h1,B8,hR0⟩:=fj h0;refine kEx 0 (λ G4:Unit=>o42=.inl G4) (λ G4=>⟨[(2,.ptr 2 0),(3,.ptr 3 0)],[(2,(aa.cs a_0).map .p),(3,(aa.cs BN).map .p)]⟩) (λ G4 hv=>?_) ?_
  ·have h0:=B8 _ hv;refine nx 7 rfl ?_;obtain ⟨Hs,h1,B8,hR0⟩:=fj h0;refine kEx 2 (λ F5:Unit=>Hs=.inl F5) (λ F5=>⟨[],[]⟩) (λ F5 hv=>?_) ?_
   ·have h0:=B8 _ hv;exact nx 6 Z (mQ (oi h0) Z (sr))
   refine lG (λ (Gb:Int)=>⟨[(2,.ptr 2 0),(3,.ptr 3 0),(6,.p (eI Gb))],[(2,(aa.cs a_0).map .p),(3,(aa.cs BN).map .p)]⟩) (λ m (Gb:Int)=>eu (fq n) a_0 BN m Gb) Y 0 h1 (gE rfl rfl) ?_;rintro m i28 h1;replace h1:eu (fq n) a_0 BN (m+1) i28=some Hs:=h1;rw [eu] at h1;refine nx 6 rfl (oLl (f:=ag) rfl rfl ?_);refine nx 2 rfl (fD [66] h1 rfl (λ GH h1=>?_) λ GH h1=>?_)
   ·refine nx 5 Z (cc' h1 λ D3 h1=>?_);refine cc' h1 λ D2 h1=>bd h1 λ r32 e33 h1=>mD [(2,.ptr 2 0),(3,.ptr 3 0),(6,.p (eI i28))] Z ⟨Z,Z,Z,trivial⟩ Z (dR 3 Z ?_);refine dq (.rptr (aa.cs (lat a_0.Ar i28))) [70,71] Z (λ _ e _ q=>ae Z (dw (f:=ag) (l:=a_0.Ar) aa.cs Z Z Z Z Z Z (e _ _ Z) Z (e _ _ Z) D3 aa.AD Y q)) Z (dR 4 Z ?_);refine dq (.rptr (aa.cs (lat BN.Ar i28))) [75,76] Z (λ _ e _ q=>ae Z (dw (f:=ag) (l:=BN.Ar) aa.cs Z Z Z Z Z Z (e _ _ Z) Z (e _ _ Z) D2 aa.AD Y q)) Z (dR 1 Z ?_);refine dq (.p (eB r32)) [73,78] Z (λ _ e _ q=>ae Z (aP (CU (lat a_0.Ar i28) (lat BN.Ar i28) _ e33) Z Z Z (am (e _ _ Z) (am (e _ _ Z) aO)) ⟨sr,sr,trivial⟩ Tryz.call81 Z q)) Z (dR 1 Z ?_);refine dE Z (nx 1 Z ?_);refine fB [80] h1 Z (λ GF h1=>?_) λ GF h1=>?_
    ·exact nx 6 Z (mQ (hR0 _ (oi h1).symm) Z (sr))
    refine nx 4 Z (oA h1 Z Z λ D1 h1=>?_);exact nx 2 Z (eX (i28+1) h1 (gE Z Z))
   exact nx 2 Z (eXi _ (oi h1).symm (gE Z Z))
  refine lG (λ (Dp:Int)=>⟨[(2,.ptr 2 0),(3,.ptr 3 0),(5,.p (eI Dp))],[(2,(aa.cs a_0).map .p),(3,(aa.cs BN).map .p)]⟩) (λ m (Dp:Int)=>ep a_0 BN m Dp) Y 0 h1 (gE rfl rfl) ?_;rintro m i13 h1;replace h1:ep a_0 BN (m+1) i13=some o42:=h1;rw [ep] at h1;refine nx 6 rfl (oLl (f:=eS) rfl rfl ?_);refine nx 2 rfl (fD [48] h1 rfl (λ DN h1=>?_) λ DN h1=>?_)
  ·refine nx 5 Z (cc' h1 λ Df h1=>?_);refine cc' h1 λ CZ h1=>mD [(2,.ptr 2 0),(3,.ptr 3 0),(5,.p (eI i13))] Z ⟨Z,Z,Z,trivial⟩ Z (dR 3 Z ?_);refine dq (.rptr [eS (lat a_0.Aw i13)]) [52,53] Z (λ _ e _ q=>ae Z (dw (f:=eS) (l:=a_0.Aw) (λ x=>[eS x]) Z Z Z Z Z Z (e _ _ Z) Z (e _ _ Z) Df Y Y q)) Z (dR 4 Z ?_);refine dq (.rptr [eS (lat BN.Aw i13)]) [57,58] Z (λ _ e _ q=>ae Z (dw (f:=eS) (l:=BN.Aw) (λ x=>[eS x]) Z Z Z Z Z Z (e _ _ Z) Z (e _ _ Z) CZ Y Y q)) Z (dR 1 Z ?_);refine dq (.p (eB (!decide (lat a_0.Aw i13=lat BN.Aw i13)))) [55,60] Z (λ _ e _ q=>ae Z (jR Z Z Z (e _ _ Z) (e _ _ Z) Z q)) Z (dE Z ?_);refine nx 1 Z (fN [61] h1 Z (λ DL h1=>?_) λ DL h1=>?_)
   ·refine nx 4 Z (oA h1 Z Z λ Ds h1=>?_);exact nx 2 Z (eX (i13+1) h1 (gE Z Z))
   exact nx 6 Z (mQ (hR0 _ (oi h1).symm) Z (sr))
  exact nx 2 Z (eXi _ (oi h1).symm (gE Z Z))
 refine nx 7 Z (fN [11,12] h1 Z (λ c1 h1=>?_) λ c1 h1=>?_)
 ·refine nx 7 Z (fN [17,18,19] h1 Z (λ c2 h1=>?_) λ c2 h1=>?_)
  ·refine nx 4 Z (oS Z Z ?_);refine nx 2 Z (fN [24,25,26] h1 Z (λ c3 h1=>?_) λ c3 h1=>?_)
   ·refine nx 2 Z (oLl (f:=ag) Z Z ?_);refine nx 2 Z (oLl (f:=ag) Z Z ?_);refine nx 3 Z (fN [33,34,35] h1 Z (λ c4 h1=>?_) λ c4 h1=>?_)
    ·refine nx 2 Z (oLl (f:=eS) Z Z ?_);refine nx 2 Z (oLl (f:=eS) Z Z ?_);exact nx 3 Z (eX _ (oi h1).symm (gE Z Z))
    exact nx 9 Z (eX _ (oi h1).symm (gE Z Z))
   exact nx 18 Z (eX _ (oi h1).symm (gE Z Z))
  exact nx 25 Z (eX _ (oi h1).symm (gE Z Z))
 exact nx 32 Z (eX _ (oi h1).symm (gE Z Z))
def dS (Cz:aa->Option Bool)(Bu:aa):Nat->Int->Option (Unit⊕Bool)|0,_=>none|m+1,i9=>if i9<(Bu.Ar.length:Int) then ck ((0:Int)<=i9/\i9<(Bu.Ar.length:Int))<|(Cz (lat Bu.Ar i9)).bind λ r12=>if (!r12)=true then some (.inr false)else ck (inR (i9+1))<|dS Cz Bu m (i9+1)else some (.inl ())
def et:Nat->aa->Option Bool|0,_=>none|n+1,Bu=>if Bu.Av=6 then some false else jn (dS (et n) Bu n 0) λ _q17=>some true
theorem lI (n:Nat):∀ (Bu:aa) (r:Bool),et n Bu=some r->aC Tryz.prog 82 [.agg (aa.cs Bu)] (·=.p (eB r)):=by
 induction n with
 | zero=>intro Bu r h0; cases h0
 | succ n ih=>
 have CS:=ih;intro Bu r h0;rw [et] at h0;refine aT good Tryz.func82 Z Z Z λ w0=>mP (λ v:Bool=>.p (eB v)) ?_;refine nx 12 Z (fD [6] h0 Z (λ c1 h0=>?_) λ c1 h0=>?_)
 ·exact nx 6 Z (mQ (oi h0) Z (sr))
 refine nx 8 rfl ?_;obtain ⟨o18,h1,B8,hR0⟩:=fj h0;refine kEx 0 (λ G8:Unit=>o18=.inl G8) (λ G8=>⟨[],[]⟩) (λ G8 hv=>?_) ?_
 ·have h0:=B8 _ hv;exact nx 6 Z (mQ (oi h0) Z (sr))
 refine lG (λ (q20:Int)=>⟨[(1,.ptr 1 0),(3,.p (eI q20))],[(1,(aa.cs Bu).map .p)]⟩) (λ m (q20:Int)=>dS (et n) Bu m q20) Y 0 h1 (gE rfl rfl) ?_;rintro m i9 h1;replace h1:dS (et n) Bu (m+1) i9=some o18:=h1;rw [dS] at h1;refine nx 6 rfl (oLl (f:=ag) rfl rfl ?_);refine nx 2 rfl (fD [11] h1 rfl (λ DD h1=>?_) λ DD h1=>?_)
 ·refine nx 9 Z (oE h1 aa.AD Z Z Y λ D5 h1=>?_);refine nx 1 Z (bd h1 λ r12 e13 h1=>?_);refine oK (CS (lat Bu.Ar i9) _ e13) Z ⟨sr,trivial⟩ Tryz.call82 Z (nx 2 Z ?_);refine fB [20] h1 Z (λ DN h1=>?_) λ DN h1=>?_
  ·exact nx 6 Z (mQ (hR0 _ (oi h1).symm) Z (sr))
  refine nx 4 Z (oA h1 Z Z λ Df h1=>?_);exact nx 2 Z (eX (i9+1) h1 (gE Z Z))
 exact nx 2 Z (eXi _ (oi h1).symm (gE Z Z))
def iQ (n:Nat)(a_0:aa)(BN:aa):Option Bool :=((fq n a_0 BN).bind λ r1=>if (!r1)=true then some true else(et n a_0).bind λ r4=>if (!r4)=true then some true else(et n BN).bind λ r7=>some (!r7) : Option Bool).bind λ t9=>some t9
theorem o8 (n:Nat)(a_0:aa)(BN:aa)(r:Bool)(h0:iQ n a_0 BN=some r):aC Tryz.prog 49 [.agg (aa.cs a_0),.agg (aa.cs BN)] (·=.p (eB r)):=by
 unfold iQ at h0;refine aT good Tryz.func49 Z Z Z λ w0=>mP (λ v:Bool=>.p (eB v)) ?_;refine nx 7 Z (bd h0 λ HA h1 h0=>?_);refine kN HA (λ G'=>⟨[(4,.p (eB G'))],[]⟩) ?_ ?_
 ·exact nx 2 Z (mQ (oi h0) Z (sr))
 refine nx 3 Z (bd h1 λ r1 e2 h1=>?_);refine oK (qm _ a_0 BN _ e2) Z ⟨sr,sr,trivial⟩ Tryz.call81 Z (nx 2 Z ?_);refine fB [8,9] h1 Z (λ c3 h1=>?_) λ c3 h1=>?_
 ·exact nx 11 Z (eX _ (oi h1).symm (gE Z Z))
 refine nx 1 Z (bd h1 λ r4 e5 h1=>?_);refine oK (lI _ a_0 _ e5) Z ⟨sr,trivial⟩ Tryz.call82 Z (nx 3 Z ?_);refine fB [12,13,14] h1 Z (λ c6 h1=>?_) λ c6 h1=>?_
 ·exact nx 6 Z (eX _ (oi h1).symm (gE Z Z))
 refine nx 1 Z (bd h1 λ r7 e8 h1=>?_);refine oK (lI _ BN _ e8) Z ⟨sr,trivial⟩ Tryz.call82 Z (nx 4 Z ?_);exact eX _ (oi h1).symm (gE Z Z)
def eG (Bu:aa)(key_1:Bk)(x_2:aa):Nat->Bool->Int->(List aa)->(List Bk)->Option (Bool×(List aa)×(List Bk))|0,_,_,_,_=>none|m+1,done27,i28,Di,Dh=>(if i28<(Bu.Aw.length:Int) then some (decide (i28<(Bu.Ar.length:Int)))else some false : Option Bool).bind λ t32=>if t32=true then(((if (!done27)=true then ck ((0:Int)<=i28/\i28<(Bu.Aw.length:Int))<|some (!Op.bytesLess (lat Bu.Aw i28) key_1)else some false : Option Bool).bind λ t36=>if t36=true then ck ((Dh.length+[key_1].length)*16<=140737488355328)<|ck ((Di.length+[x_2].length)*80<=140737488355328)<|some (true,Di++[x_2],Dh++[key_1])else some (done27,Di,Dh) : Option (Bool×(List aa)×(List Bk))).bind λ FU=>ck ((0:Int)<=i28/\i28<(Bu.Aw.length:Int))<|if lat Bu.Aw i28=key_1 then some (FU.1,FU.2.1,FU.2.2)else ck ((0:Int)<=i28/\i28<(Bu.Aw.length:Int))<|ck ((FU.2.2.length+[lat Bu.Aw i28].length)*16<=140737488355328)<|ck ((0:Int)<=i28/\i28<(Bu.Ar.length:Int))<|ck ((FU.2.1.length+[(lat Bu.Ar i28)].length)*80<=140737488355328)<|some (FU.1,FU.2.1++[(lat Bu.Ar i28)],FU.2.2++[lat Bu.Aw i28]) : Option (Bool×(List aa)×(List Bk))).bind λ FV=>ck (inR (i28+1))<|eG Bu key_1 x_2 m FV.1 (i28+1) FV.2.1 FV.2.2 else some (done27,Di,Dh)
def iz (n:Nat)(Bu:aa)(key_1:Bk)(x_2:aa):Option aa :=(eG Bu key_1 x_2 n false 0 [] []).bind λ Db=>(if (!Db.1)=true then ck ((Db.2.2.length+[key_1].length)*16<=140737488355328)<|ck ((Db.2.1.length+[x_2].length)*80<=140737488355328)<|some (Db.2.1++[x_2],Db.2.2++[key_1])else some (Db.2.1,Db.2.2) : Option ((List aa)×(List Bk))).bind λ q70=>some (aa.mk 5 0 ([]:Bk) q70.1 q70.2)
theorem kU (n:Nat)(Bu:aa)(key_1:Bk)(x_2:aa)(r:aa)(h0:iz n Bu key_1 x_2=some r):aC Tryz.prog 50 [.agg (aa.cs Bu),eS key_1,.agg (aa.cs x_2)] (·=.p (.agg (aa.cs r))):=by
 unfold iz at h0;refine aT good Tryz.func50 Z Z Z λ w0=>mP (λ v:aa=>.p (.agg (aa.cs v))) ?_;refine nx 22 Z (bd h0 λ o71 h1 h0=>?_);refine kE 0 o71 (λ v72=>⟨[(1,.p (eS key_1)),(5,.ptr 5 0),(6,.ptr 6 0),(7,.ptr 7 0),(8,.p (eB v72.1))],[(5,(aa.cs x_2).map .p),(6,[.p (eI 0),.p (eI 0),.p (eS ([]:Bk)),.p (.val (.slice none 0 0)),.p (.val (.slice none 0 0))]),(7,[.p (eI 5),.p (eI 0),.p (eS ([]:Bk)),.vec 73 5 0 (v72.2.1.map ag),.vec 63 1 0 (v72.2.2.map eS)])]⟩) ?_ ?_
 ·refine nx 2 Z (bd h0 λ o73 h1 h0=>?_);refine kN o73 (λ v74=>⟨[(6,.ptr 6 0),(7,.ptr 7 0)],[(6,[.p (eI 0),.p (eI 0),.p (eS ([]:Bk)),.p (.val (.slice none 0 0)),.p (.val (.slice none 0 0))]),(7,[.p (eI 5),.p (eI 0),.p (eS ([]:Bk)),.vec 87 5 0 (v74.1.map ag),.vec 81 1 0 (v74.2.map eS)])]⟩) ?_ ?_
  ·exact nx 7 Z (mQ (oi h0) Z (gb ⟨sr,sr,sr,AV.sub_vec _ _ _ _,AV.sub_vec _ _ _ _,trivial⟩))
  refine nx 5 Z (fB [76] h1 Z (λ c60 h1=>?_) λ c60 h1=>?_)
  ·refine nx 6 Z (mO Z (bE eS [key_1] Z Z Z Z Z Z Z Z Z Z Z Z Z Z ?_));refine cc' h1 λ hk61 h1=>mO Z (cX eS o71.2.2 [key_1] Z Z Z Z Z Z Z Z Z Z Z Z Z Y Z Z Z Z hk61 ?_);refine nx 7 Z (mO Z (bE ag [x_2] Z Z Z Z Z Z Z Z Z Z Z Z Z (by first|rfl|(simp only [d4,py,aa.AH]; done)|(simp only [d4,py,aa.AH]; rfl)) ?_));refine cc' h1 λ Gr h1=>mO Z (cX ag o71.2.1 [x_2] Z Z Z Z Z Z Z Z Z Z Z Z Z (λ x=>congrArg List.length (aa.AD x)) Z Z Z Z Gr ?_);exact nx 3 Z (eX _ (oi h1).symm (gE Z Z))
  exact nx 2 Z (eX _ (oi h1).symm (a8 (bz 63 81 Z Z Z Z Z) (a8 (bz 73 87 Z Z Z Z Z) (gE Z Z))))
 refine lG (λ (Fw:Bool×Int×(List aa)×(List Bk))=>⟨[(1,.p (eS key_1)),(3,.ptr 3 0),(5,.ptr 5 0),(6,.ptr 6 0),(7,.ptr 7 0),(8,.p (eB Fw.1)),(9,.p (eI Fw.2.1))],[(3,(aa.cs Bu).map .p),(5,(aa.cs x_2).map .p),(6,[.p (eI 0),.p (eI 0),.p (eS ([]:Bk)),.p (.val (.slice none 0 0)),.p (.val (.slice none 0 0))]),(7,[.p (eI 5),.p (eI 0),.p (eS ([]:Bk)),.vec 73 5 0 (Fw.2.2.1.map ag),.vec 63 1 0 (Fw.2.2.2.map eS)])]⟩) (λ m (Fw:Bool×Int×(List aa)×(List Bk))=>eG Bu key_1 x_2 m Fw.1 Fw.2.1 Fw.2.2.1 Fw.2.2.2) Y (false,0,[],[]) h1 (cr (g4 ⟨er rfl,er rfl,er rfl,er rfl,er rfl,er rfl,er rfl,trivial⟩ ⟨⟨_,rfl,⟨sr,sr,sr,sr,sr,trivial⟩⟩,⟨_,rfl,⟨sr,sr,sr,sr,sr,trivial⟩⟩,⟨_,rfl,⟨sr,sr,sr,sr,sr,trivial⟩⟩,⟨_,rfl,⟨sr,sr,sr,AV.sub_nilvec _ _ _,AV.sub_nilvec _ _ _,trivial⟩⟩,trivial⟩)) ?_;rintro m ⟨done27,i28,Di,Dh⟩ h1;replace h1:eG Bu key_1 x_2 (m+1) done27 i28 Di Dh=some o71:=h1;rw [eG] at h1;refine nx 2 rfl (bd h1 λ o76 h2 h1=>?_);refine kN o76 (λ v77=>⟨[(1,.p (eS key_1)),(3,.ptr 3 0),(5,.ptr 5 0),(6,.ptr 6 0),(7,.ptr 7 0),(8,.p (eB done27)),(9,.p (eI i28)),(22,.p (eB v77))],[(3,(aa.cs Bu).map .p),(5,(aa.cs x_2).map .p),(6,[.p (eI 0),.p (eI 0),.p (eS ([]:Bk)),.p (.val (.slice none 0 0)),.p (.val (.slice none 0 0))]),(7,[.p (eI 5),.p (eI 0),.p (eS ([]:Bk)),.vec 73 5 0 (Di.map ag),.vec 63 1 0 (Dh.map eS)])]⟩) ?_ ?_
 ·refine nx 1 Z (fB [22] h1 Z (λ H2 h1=>?_) λ H2 h1=>?_)
  ·refine nx 3 Z (bd h1 λ o78 h2 h1=>?_);refine kN o78 (λ v79=>⟨[(1,.p (eS key_1)),(3,.ptr 3 0),(5,.ptr 5 0),(6,.ptr 6 0),(7,.ptr 7 0),(8,.p (eB v79.1)),(9,.p (eI i28))],[(3,(aa.cs Bu).map .p),(5,(aa.cs x_2).map .p),(6,[.p (eI 0),.p (eI 0),.p (eS ([]:Bk)),.p (.val (.slice none 0 0)),.p (.val (.slice none 0 0))]),(7,[.p (eI 5),.p (eI 0),.p (eS ([]:Bk)),.vec 73 5 0 (v79.2.1.map ag),.vec 63 1 0 (v79.2.2.map eS)])]⟩) ?_ ?_
   ·refine nx 3 Z (oA h1 Z Z λ hk52 h1=>?_);exact nx 2 Z (eX (o78.1,i28+1,o78.2.1,o78.2.2) h1 (gE Z Z))
   refine nx 2 Z (bd h2 λ Cm h3 h2=>?_);refine kN Cm (λ v81=>⟨[(1,.p (eS key_1)),(3,.ptr 3 0),(5,.ptr 5 0),(6,.ptr 6 0),(7,.ptr 7 0),(8,.p (eB v81.1)),(9,.p (eI i28))],[(3,(aa.cs Bu).map .p),(5,(aa.cs x_2).map .p),(6,[.p (eI 0),.p (eI 0),.p (eS ([]:Bk)),.p (.val (.slice none 0 0)),.p (.val (.slice none 0 0))]),(7,[.p (eI 5),.p (eI 0),.p (eS ([]:Bk)),.vec 73 5 0 (v81.2.1.map ag),.vec 63 1 0 (v81.2.2.map eS)])]⟩) ?_ ?_
   ·refine nx 6 Z (oE h2 Y Z Z Y λ Eq h2=>?_);refine nx 2 Z (oS Z Z ?_);refine nx 1 Z (fN [54] h2 Z (λ c44 h2=>?_) λ c44 h2=>?_)
    ·exact nx 2 Z (eX _ (oi h2).symm (gE Z Z))
    refine nx 2 Z (cc' h2 λ DZ h2=>?_);refine cc' h2 λ FF h2=>mG (gE (t:=⟨[(1,.p (eS key_1)),(3,.ptr 3 0),(5,.ptr 5 0),(6,.ptr 6 0),(7,.ptr 7 0),(8,.p (eB Cm.1)),(9,.p (eI i28))],[(3,(aa.cs Bu).map .p),(5,(aa.cs x_2).map .p),(6,[.p (eI 0),.p (eI 0),.p (eS ([]:Bk)),.p (.val (.slice none 0 0)),.p (.val (.slice none 0 0))]),(7,[.p (eI 5),.p (eI 0),.p (eS ([]:Bk)),.vec 73 5 0 (Cm.2.1.map ag),.vec 63 1 0 (Cm.2.2.map eS)])]⟩) Z Z) (mS ⟨2,[8,10],(by3 (.some λ i=>Nat.beq i 63||Nat.beq i 63) .none .none),(λ _=>[(1,.p (eS key_1)),(3,.ptr 3 0),(5,.ptr 5 0),(6,.ptr 6 0),(7,.ptr 7 0),(8,.p (eB Cm.1)),(9,.p (eI i28))]),(by3 ([(3,[.p (eI Bu.Av),.p (eI Bu.Ay),.p (eS Bu.Az),.p (eL ag Bu.Ar),.p (eL eS Bu.Aw)]),(5,[.p (eI x_2.Av),.p (eI x_2.Ay),.p (eS x_2.Az),.p (eL ag x_2.Ar),.p (eL eS x_2.Aw)]),(6,[.p (eI 0),.p (eI 0),.p (eS ([]:Bk)),.p (.val (.slice none 0 0)),.p (.val (.slice none 0 0))]),(7,[.p (eI 5),.p (eI 0),.p (eS ([]:Bk)),.vec 73 5 0 (Cm.2.1.map ag),.vec 63 1 0 (Cm.2.2.map eS)])]) ([(3,[.p (eI Bu.Av),.p (eI Bu.Ay),.p (eS Bu.Az),.p (eL ag Bu.Ar),.p (eL eS Bu.Aw)]),(5,[.p (eI x_2.Av),.p (eI x_2.Ay),.p (eS x_2.Az),.p (eL ag x_2.Ar),.p (eL eS x_2.Aw)]),(6,[.p (eI 0),.p (eI 0),.p (eS ([]:Bk)),.p (.val (.slice none 0 0)),.p (.val (.slice none 0 0))]),(7,[.p (eI 5),.p (eI 0),.p (eS ([]:Bk)),.vec 73 5 0 (Cm.2.1.map ag),.p (eL eS Cm.2.2)])]) ([(7,[.p (eI 5),.p (eI 0),.p (eS ([]:Bk)),.vec 73 5 0 (Cm.2.1.map ag),.vec 63 1 0 ((Cm.2.2++[lat Bu.Aw i28]).map eS)]),(3,[.p (eI Bu.Av),.p (eI Bu.Ay),.p (eS Bu.Az),.p (eL ag Bu.Ar),.p (eL eS Bu.Aw)]),(5,[.p (eI x_2.Av),.p (eI x_2.Ay),.p (eS x_2.Az),.p (eL ag x_2.Ar),.p (eL eS x_2.Aw)]),(6,[.p (eI 0),.p (eI 0),.p (eS ([]:Bk)),.p (.val (.slice none 0 0)),.p (.val (.slice none 0 0))]),(7,[.p (eI 5),.p (eI 0),.p (eS ([]:Bk)),.vec 73 5 0 (Cm.2.1.map ag),.p (eL eS Cm.2.2)])]))⟩ Z Z Z ⟨Z,Z,Z,Z,Z,Z,Z,trivial⟩ (lt2 ⟨Z,Z,Z,Z,Z,Z,Z,trivial⟩ ⟨Z,Z,Z,Z,Z,Z,Z,trivial⟩) Z Z Z Z ?_);refine ah (λ _=>.ptr 7 4) Z Z Z (bp Z Z Y) (lt2 Z Z) (aj Z (af [(7,_)] ⟨.inl Z,trivial⟩ (λ sl Bs K hK=>ae Z (al Z Z Z Z Z Z Z Z (Bs _ _ Z) hK)) (af [(7,_)] ⟨.inl Z,trivial⟩ (λ sl Bs K hK=>ae Z (al Z Z Z Z Z Z Z Z (Bs _ _ Z) hK)) ai))) (ah (by3 (.vec 63 1 0 (Cm.2.2.map eS)) (.p (eL eS Cm.2.2)) (.p (eL eS Cm.2.2))) Z Z Z (bp Z Z Y) (lt2 Z Z) (aj Z (aj Z (af [(55,_)] ⟨.inr ⟨0,_,Z,Z,Z⟩,trivial⟩ (λ sl Bs K hK=>ae Z (bj Z Z Z Z Z (Bs _ _ Z) Z Z hK)) ai))) ?_);refine ah (λ _=>.ptr 3 4) Z Z Z (bp Z Z Y) (lt2 Z Z) (aj Z (af [(3,_)] ⟨.inl Z,trivial⟩ (λ sl Bs K hK=>ae Z (al Z Z Z Z Z Z Z Z (Bs _ _ Z) hK)) (af [(3,_)] ⟨.inl Z,trivial⟩ (λ sl Bs K hK=>ae Z (al Z Z Z Z Z Z Z Z (Bs _ _ Z) hK)) ai))) (ah (λ _=>.p (eL eS Bu.Aw)) Z Z Z (bp Z Z Y) (lt2 Z Z) (aj Z (af [(57,_)] ⟨.inr ⟨2,_,Z,Z,Z⟩,trivial⟩ (λ sl Bs K hK=>ae Z (bj Z Z Z Z Z (Bs _ _ Z) Z Z hK)) (af [(57,_)] ⟨.inr ⟨2,_,Z,Z,Z⟩,trivial⟩ (λ sl Bs K hK=>ae Z (bj Z Z Z Z Z (Bs _ _ Z) Z Z hK)) ai))) ?_);refine ah (λ _=>.p (eI i28)) Z Z Z (bp Z Z Y) (lt2 Z Z) (aj Z (af [(9,_)] ⟨.inl Z,trivial⟩ (λ sl Bs K hK=>ae Z (aW Z Z Z (Bs _ _ Z) hK)) (af [(9,_)] ⟨.inl Z,trivial⟩ (λ sl Bs K hK=>ae Z (aW Z Z Z (Bs _ _ Z) hK)) ai))) (ah (λ _=>.rptr [eS (lat Bu.Aw i28)]) Z Z Z (bp Z Z Y) (lt2 Z Z) (aj Z (af [(58,_),(59,_)] ⟨.inr ⟨3,_,Z,Z,Z⟩,.inr ⟨4,_,Z,Z,Z⟩,trivial⟩ (λ sl Bs K hK=>ae Z (dw (f:=eS) (l:=Bu.Aw) (λ x=>[eS x]) Z Z Z Z Z Z (Bs _ _ Z) Z (Bs _ _ Z) DZ Y Y hK)) (af [(58,_),(59,_)] ⟨.inr ⟨3,_,Z,Z,Z⟩,.inr ⟨4,_,Z,Z,Z⟩,trivial⟩ (λ sl Bs K hK=>ae Z (dw (f:=eS) (l:=Bu.Aw) (λ x=>[eS x]) Z Z Z Z Z Z (Bs _ _ Z) Z (Bs _ _ Z) DZ Y Y hK)) ai))) ?_);refine ah (λ _=>.p (eS (lat Bu.Aw i28))) Z Z Z (bp Z Z Y) (lt2 Z Z) (aj Z (af [(60,_)] ⟨.inr ⟨5,_,Z,Z,Z⟩,trivial⟩ (λ sl Bs K hK=>ae Z (da Z Z Z Z Z (Bs _ _ Z) Z hK)) (af [(60,_)] ⟨.inr ⟨5,_,Z,Z,Z⟩,trivial⟩ (λ sl Bs K hK=>ae Z (da Z Z Z Z Z (Bs _ _ Z) Z hK)) ai))) (ah (λ _=>.p (eL eS [lat Bu.Aw i28])) Z Z Z (bp Z Z Y) (lt2 Z Z) (aj Z (aj Z (af [(61,_)] ⟨.inr ⟨6,_,Z,Z,Z⟩,trivial⟩ (λ sl Bs K hK=>ae Z (bE eS [lat Bu.Aw i28] Z Z Z Z Z Z (bZ (Bs _ _ Z) Z dy) Z Z Z Z Z Z Z hK)) ai))) ?_);refine fh (λ _=>.vec 63 1 0 ((Cm.2.2++[lat Bu.Aw i28]).map eS)) [(56,_),(62,_)] Z ⟨.inr ⟨1,_,Z,Z,Z⟩,.inr ⟨7,_,Z,Z,Z⟩,trivial⟩ Z Z (bS Z Y) (lt2 (λ h=>absurd h (by decide)) Y) (λ sl Bs K hK=>ae Z (cX eS Cm.2.2 [lat Bu.Aw i28] Z Z Z Z Z Z Z Z (Bs _ _ Z) Z Z (Bs _ _ Z) Z Y Z Z Z Z FF hK)) (ah (λ _=>.ptr 7 4) Z Z Z (bp Z Z Y) (lt2 Z Z) (aj Z (af [(7,_)] ⟨.inl Z,trivial⟩ (λ sl Bs K hK=>ae Z (al Z Z Z Z Z Z Z Z (Bs _ _ Z) hK)) (aj Z ai))) ?_);refine cp [(63,_),(64,_)] Z ⟨.inr ⟨8,_,Z,Z,Z⟩,.inr ⟨9,_,Z,Z,Z⟩,trivial⟩ Z (λ sl Bs K hK=>ae Z (ct Z Z Z (Bs _ _ Z) (Bs _ _ Z) Z Z Z (ph Z) hK)) (eH ?_);refine nx 1 Z (cc' h2 λ FE h2=>?_);refine cc' h2 λ E2 h2=>mG (gE (t:=⟨[(1,.p (eS key_1)),(3,.ptr 3 0),(5,.ptr 5 0),(6,.ptr 6 0),(7,.ptr 7 0),(8,.p (eB Cm.1)),(9,.p (eI i28))],[(3,(aa.cs Bu).map .p),(5,(aa.cs x_2).map .p),(6,[.p (eI 0),.p (eI 0),.p (eS ([]:Bk)),.p (.val (.slice none 0 0)),.p (.val (.slice none 0 0))]),(7,[.p (eI 5),.p (eI 0),.p (eS ([]:Bk)),.vec 73 5 0 (Cm.2.1.map ag),.vec 63 1 0 ((Cm.2.2++[lat Bu.Aw i28]).map eS)])]⟩) Z Z) (mS ⟨2,[8,10],(by3 (.some λ i=>Nat.beq i 73||Nat.beq i 73) .none .none),(λ _=>[(1,.p (eS key_1)),(3,.ptr 3 0),(5,.ptr 5 0),(6,.ptr 6 0),(7,.ptr 7 0),(8,.p (eB Cm.1)),(9,.p (eI i28))]),(by3 ([(3,[.p (eI Bu.Av),.p (eI Bu.Ay),.p (eS Bu.Az),.p (eL ag Bu.Ar),.p (eL eS Bu.Aw)]),(5,[.p (eI x_2.Av),.p (eI x_2.Ay),.p (eS x_2.Az),.p (eL ag x_2.Ar),.p (eL eS x_2.Aw)]),(6,[.p (eI 0),.p (eI 0),.p (eS ([]:Bk)),.p (.val (.slice none 0 0)),.p (.val (.slice none 0 0))]),(7,[.p (eI 5),.p (eI 0),.p (eS ([]:Bk)),.vec 73 5 0 (Cm.2.1.map ag),.vec 63 1 0 ((Cm.2.2++[lat Bu.Aw i28]).map eS)])]) ([(3,[.p (eI Bu.Av),.p (eI Bu.Ay),.p (eS Bu.Az),.p (eL ag Bu.Ar),.p (eL eS Bu.Aw)]),(5,[.p (eI x_2.Av),.p (eI x_2.Ay),.p (eS x_2.Az),.p (eL ag x_2.Ar),.p (eL eS x_2.Aw)]),(6,[.p (eI 0),.p (eI 0),.p (eS ([]:Bk)),.p (.val (.slice none 0 0)),.p (.val (.slice none 0 0))]),(7,[.p (eI 5),.p (eI 0),.p (eS ([]:Bk)),.p (eL ag Cm.2.1),.vec 63 1 0 ((Cm.2.2++[lat Bu.Aw i28]).map eS)])]) ([(7,[.p (eI 5),.p (eI 0),.p (eS ([]:Bk)),.vec 73 5 0 ((Cm.2.1++[(lat Bu.Ar i28)]).map ag),.vec 63 1 0 ((Cm.2.2++[lat Bu.Aw i28]).map eS)]),(3,[.p (eI Bu.Av),.p (eI Bu.Ay),.p (eS Bu.Az),.p (eL ag Bu.Ar),.p (eL eS Bu.Aw)]),(5,[.p (eI x_2.Av),.p (eI x_2.Ay),.p (eS x_2.Az),.p (eL ag x_2.Ar),.p (eL eS x_2.Aw)]),(6,[.p (eI 0),.p (eI 0),.p (eS ([]:Bk)),.p (.val (.slice none 0 0)),.p (.val (.slice none 0 0))]),(7,[.p (eI 5),.p (eI 0),.p (eS ([]:Bk)),.p (eL ag Cm.2.1),.vec 63 1 0 ((Cm.2.2++[lat Bu.Aw i28]).map eS)])]))⟩ Z Z Z ⟨Z,Z,Z,Z,Z,Z,Z,trivial⟩ (lt2 ⟨Z,Z,Z,Z,Z,Z,Z,trivial⟩ ⟨Z,Z,Z,Z,Z,Z,Z,trivial⟩) Z Z Z Z ?_);refine ah (λ _=>.ptr 7 3) Z Z Z (bp Z Z Y) (lt2 Z Z) (aj Z (af [(7,_)] ⟨.inl Z,trivial⟩ (λ sl Bs K hK=>ae Z (al Z Z Z Z Z Z Z Z (Bs _ _ Z) hK)) (af [(7,_)] ⟨.inl Z,trivial⟩ (λ sl Bs K hK=>ae Z (al Z Z Z Z Z Z Z Z (Bs _ _ Z) hK)) ai))) (ah (by3 (.vec 73 5 0 (Cm.2.1.map ag)) (.p (eL ag Cm.2.1)) (.p (eL ag Cm.2.1))) Z Z Z (bp Z Z Y) (lt2 Z Z) (aj Z (aj Z (af [(65,_)] ⟨.inr ⟨0,_,Z,Z,Z⟩,trivial⟩ (λ sl Bs K hK=>ae Z (bj Z Z Z Z Z (Bs _ _ Z) Z Z hK)) ai))) ?_);refine ah (λ _=>.ptr 3 3) Z Z Z (bp Z Z Y) (lt2 Z Z) (aj Z (af [(3,_)] ⟨.inl Z,trivial⟩ (λ sl Bs K hK=>ae Z (al Z Z Z Z Z Z Z Z (Bs _ _ Z) hK)) (af [(3,_)] ⟨.inl Z,trivial⟩ (λ sl Bs K hK=>ae Z (al Z Z Z Z Z Z Z Z (Bs _ _ Z) hK)) ai))) (ah (λ _=>.p (eL ag Bu.Ar)) Z Z Z (bp Z Z Y) (lt2 Z Z) (aj Z (af [(67,_)] ⟨.inr ⟨2,_,Z,Z,Z⟩,trivial⟩ (λ sl Bs K hK=>ae Z (bj Z Z Z Z Z (Bs _ _ Z) Z Z hK)) (af [(67,_)] ⟨.inr ⟨2,_,Z,Z,Z⟩,trivial⟩ (λ sl Bs K hK=>ae Z (bj Z Z Z Z Z (Bs _ _ Z) Z Z hK)) ai))) ?_);refine ah (λ _=>.p (eI i28)) Z Z Z (bp Z Z Y) (lt2 Z Z) (aj Z (af [(9,_)] ⟨.inl Z,trivial⟩ (λ sl Bs K hK=>ae Z (aW Z Z Z (Bs _ _ Z) hK)) (af [(9,_)] ⟨.inl Z,trivial⟩ (λ sl Bs K hK=>ae Z (aW Z Z Z (Bs _ _ Z) hK)) ai))) (ah (λ _=>.rptr (aa.cs (lat Bu.Ar i28))) Z Z Z (bp Z Z Y) (lt2 Z Z) (aj Z (af [(68,_),(69,_)] ⟨.inr ⟨3,_,Z,Z,Z⟩,.inr ⟨4,_,Z,Z,Z⟩,trivial⟩ (λ sl Bs K hK=>ae Z (dw (f:=ag) (l:=Bu.Ar) aa.cs Z Z Z Z Z Z (Bs _ _ Z) Z (Bs _ _ Z) FE aa.AD Y hK)) (af [(68,_),(69,_)] ⟨.inr ⟨3,_,Z,Z,Z⟩,.inr ⟨4,_,Z,Z,Z⟩,trivial⟩ (λ sl Bs K hK=>ae Z (dw (f:=ag) (l:=Bu.Ar) aa.cs Z Z Z Z Z Z (Bs _ _ Z) Z (Bs _ _ Z) FE aa.AD Y hK)) ai))) ?_);refine ah (λ _=>.p (.agg (aa.cs (lat Bu.Ar i28)))) Z Z Z (bp Z Z Y) (lt2 Z Z) (aj Z (af [(70,_)] ⟨.inr ⟨5,_,Z,Z,Z⟩,trivial⟩ (λ sl Bs K hK=>ae Z (jb Z Z Z Z Z (Bs _ _ Z) Z hK)) (af [(70,_)] ⟨.inr ⟨5,_,Z,Z,Z⟩,trivial⟩ (λ sl Bs K hK=>ae Z (jb Z Z Z Z Z (Bs _ _ Z) Z hK)) ai))) (ah (λ _=>.p (eL ag [(lat Bu.Ar i28)])) Z Z Z (bp Z Z Y) (lt2 Z Z) (aj Z (aj Z (af [(71,_)] ⟨.inr ⟨6,_,Z,Z,Z⟩,trivial⟩ (λ sl Bs K hK=>ae Z (bE ag [(lat Bu.Ar i28)] Z Z Z Z Z Z (bZ (Bs _ _ Z) Z dy) Z Z Z Z Z Z (by first|rfl|(simp only [d4,py,aa.AH]; done)|(simp only [d4,py,aa.AH]; rfl)) hK)) ai))) ?_);refine fh (λ _=>.vec 73 5 0 ((Cm.2.1++[(lat Bu.Ar i28)]).map ag)) [(66,_),(72,_)] Z ⟨.inr ⟨1,_,Z,Z,Z⟩,.inr ⟨7,_,Z,Z,Z⟩,trivial⟩ Z Z (bS Z Y) (lt2 (λ h=>absurd h (by decide)) Y) (λ sl Bs K hK=>ae Z (cX ag Cm.2.1 [(lat Bu.Ar i28)] Z Z Z Z Z Z Z Z (Bs _ _ Z) Z Z (Bs _ _ Z) Z (λ x=>congrArg List.length (aa.AD x)) Z Z Z Z E2 hK)) (ah (λ _=>.ptr 7 3) Z Z Z (bp Z Z Y) (lt2 Z Z) (aj Z (af [(7,_)] ⟨.inl Z,trivial⟩ (λ sl Bs K hK=>ae Z (al Z Z Z Z Z Z Z Z (Bs _ _ Z) hK)) (aj Z ai))) ?_);refine cp [(73,_),(74,_)] Z ⟨.inr ⟨8,_,Z,Z,Z⟩,.inr ⟨9,_,Z,Z,Z⟩,trivial⟩ Z (λ sl Bs K hK=>ae Z (ct Z Z Z (Bs _ _ Z) (Bs _ _ Z) Z Z Z (ph Z) hK)) (eH ?_);exact nx 1 Z (eX _ (oi h2).symm (gE Z Z))
   refine nx 1 Z (bd h3 λ Hp h4 h3=>?_);refine kN Hp (λ v83=>⟨[(1,.p (eS key_1)),(3,.ptr 3 0),(5,.ptr 5 0),(6,.ptr 6 0),(7,.ptr 7 0),(8,.p (eB done27)),(9,.p (eI i28)),(35,.p (eB v83))],[(3,(aa.cs Bu).map .p),(5,(aa.cs x_2).map .p),(6,[.p (eI 0),.p (eI 0),.p (eS ([]:Bk)),.p (.val (.slice none 0 0)),.p (.val (.slice none 0 0))]),(7,[.p (eI 5),.p (eI 0),.p (eS ([]:Bk)),.vec 73 5 0 (Di.map ag),.vec 63 1 0 (Dh.map eS)])]⟩) ?_ ?_
   ·refine nx 1 Z (fB [35] h3 Z (λ G1 h3=>?_) λ G1 h3=>?_)
    ·refine nx 6 Z (mO Z (bE eS [key_1] Z Z Z Z Z Z Z Z Z Z Z Z Z Z ?_));refine cc' h3 λ E5 h3=>mO Z (cX eS Dh [key_1] Z Z Z Z Z Z Z Z Z Z Z Z Z Y Z Z Z Z E5 ?_);refine nx 8 Z (mO Z (bE ag [x_2] Z Z Z Z Z Z Z Z Z Z Z Z Z (by first|rfl|(simp only [d4,py,aa.AH]; done)|(simp only [d4,py,aa.AH]; rfl)) ?_));refine cc' h3 λ DI h3=>mO Z (cX ag Di [x_2] Z Z Z Z Z Z Z Z Z Z Z Z Z (λ x=>congrArg List.length (aa.AD x)) Z Z Z Z DI ?_);exact nx 6 Z (eX _ (oi h3).symm (a8 (bz 40 63 Z Z Z Z Z) (a8 (bz 46 73 Z Z Z Z Z) (gE Z Z))))
    exact nx 2 Z (eX _ (oi h3).symm (gE Z Z))
   refine nx 4 Z (fB [26,27] h4 Z (λ GF h4=>?_) λ GF h4=>?_)
   ·refine nx 3 Z (oE h4 Y Z Z Y λ D1 h4=>?_);refine nx 2 Z (oS Z Z ?_);exact nx 2 Z (eX _ (oi h4).symm (gE Z Z))
   exact nx 9 Z (eX _ (oi h4).symm (gE Z Z))
  exact nx 2 Z (eXi _ (oi h1).symm (gE Z Z))
 refine nx 4 Z (oLl (f:=eS) Z Z ?_);refine nx 2 Z (fD [15,16] h2 Z (λ GG h2=>?_) λ GG h2=>?_)
 ·refine nx 3 Z (oLl (f:=ag) Z Z ?_);exact nx 3 Z (eX _ (oi h2).symm (gE Z Z))
 exact nx 7 Z (eX _ (oi h2).symm (gE Z Z))
def ei (n:Nat)(l_0:List ax)(x_3:Bk)(y_4:Bk):Nat->Int->Int->Int->Bk->(List aa)->(List Bk)->Int->Int->Bk->(List aa)->(List Bk)->Option (Int×Int×Bk×(List aa)×(List Bk)×Int×Int×Bk×(List aa)×(List Bk))|0,_,_,_,_,_,_,_,_,_,_,_=>none|m+1,i67,C7,CV,C6,C5,C4,Ca,Cj,Ci,Ch,Cg=>if i67<(l_0.length:Int) then(ck ((0:Int)<=i67/\i67<(l_0.length:Int))<|if (!((lat l_0 i67).AQ))=true then some (C7,CV,C6,C5,C4,Ca,Cj,Ci,Ch,Cg)else ck ((0:Int)<=i67/\i67<(l_0.length:Int))<|(gR n (aa.mk C7 CV C6 C5 C4) ((lat l_0 i67).AA)).bind λ Cn=>ck ((0:Int)<=i67/\i67<(l_0.length:Int))<|(gR n (aa.mk Ca Cj Ci Ch Cg) ((lat l_0 i67).AA)).bind λ Cp=>ck ((0:Int)<=i67/\i67<(l_0.length:Int))<|(jE n (aa.mk C7 CV C6 C5 C4) ((lat l_0 i67).AA)).bind λ EM=>ck ((0:Int)<=i67/\i67<(l_0.length:Int))<|(jE n (aa.mk Ca Cj Ci Ch Cg) ((lat l_0 i67).AA)).bind λ FS=>(iQ n EM FS).bind λ FR=>((if Cn.2=true then some (!decide (Cn.1.Av=0))else some false : Option Bool).bind λ t96=>if t96=true then ck ((0:Int)<=i67/\i67<(l_0.length:Int))<|(eA x_3).bind λ r99=>(iz n (aa.mk C7 CV C6 C5 C4) ((lat l_0 i67).AA) r99).bind λ C'=>some (C'.Av,C'.Ay,C'.Az,C'.Ar,C'.Aw)else some (C7,CV,C6,C5,C4) : Option (Int×Int×Bk×(List aa)×(List Bk))).bind λ CE=>(if Cp.2=true then some (!decide (Cp.1.Av=0))else some false : Option Bool).bind λ t109=>if t109=true then if FR=true then ck ((0:Int)<=i67/\i67<(l_0.length:Int))<|(eA y_4).bind λ Fv=>(iz n (aa.mk Ca Cj Ci Ch Cg) ((lat l_0 i67).AA) Fv).bind λ C9=>some (CE.1,CE.2.1,CE.2.2.1,CE.2.2.2.1,CE.2.2.2.2,C9.Av,C9.Ay,C9.Az,C9.Ar,C9.Aw)else ck ((0:Int)<=i67/\i67<(l_0.length:Int))<|(eA x_3).bind λ Fu=>(iz n (aa.mk Ca Cj Ci Ch Cg) ((lat l_0 i67).AA) Fu).bind λ C8=>some (CE.1,CE.2.1,CE.2.2.1,CE.2.2.2.1,CE.2.2.2.2,C8.Av,C8.Ay,C8.Az,C8.Ar,C8.Aw)else some (CE.1,CE.2.1,CE.2.2.1,CE.2.2.2.1,CE.2.2.2.2,Ca,Cj,Ci,Ch,Cg) : Option (Int×Int×Bk×(List aa)×(List Bk)×Int×Int×Bk×(List aa)×(List Bk))).bind λ Dq=>ck (inR (i67+1))<|ei n l_0 x_3 y_4 m (i67+1) Dq.1 Dq.2.1 Dq.2.2.1 Dq.2.2.2.1 Dq.2.2.2.2.1 Dq.2.2.2.2.2.1 Dq.2.2.2.2.2.2.1 Dq.2.2.2.2.2.2.2.1 Dq.2.2.2.2.2.2.2.2.1 Dq.2.2.2.2.2.2.2.2.2 else some (C7,CV,C6,C5,C4,Ca,Cj,Ci,Ch,Cg)
def j9 (n:Nat)(l_0:List ax)(Ez:aa)(b_2:aa)(x_3:Bk)(y_4:Bk):Option (aa×aa) :=(ei n l_0 x_3 y_4 n 0 Ez.Av Ez.Ay Ez.Az Ez.Ar Ez.Aw b_2.Av b_2.Ay b_2.Az b_2.Ar b_2.Aw).bind λ Dr=>some ((aa.mk Dr.1 Dr.2.1 Dr.2.2.1 Dr.2.2.2.1 Dr.2.2.2.2.1),(aa.mk Dr.2.2.2.2.2.1 Dr.2.2.2.2.2.2.1 Dr.2.2.2.2.2.2.2.1 Dr.2.2.2.2.2.2.2.2.1 Dr.2.2.2.2.2.2.2.2.2))
theorem qT (n:Nat)(l_0:List ax)(Ez:aa)(b_2:aa)(x_3:Bk)(y_4:Bk)(r:aa×aa)(h0:j9 n l_0 Ez b_2 x_3 y_4=some r):aC Tryz.prog 19 [eL aE l_0,.agg (aa.cs Ez),.agg (aa.cs b_2),eS x_3,eS y_4] (·=.tuple [.p (.agg (aa.cs r.1)),.p (.agg (aa.cs r.2))]):=by
 unfold j9 at h0;refine aT good Tryz.func19 Z Z Z λ w0=>mP (λ v:aa×aa=>.tuple [.p (.agg (aa.cs v.1)),.p (.agg (aa.cs v.2))]) ?_;refine nx 13 Z (bd h0 λ BG h1 h0=>?_);refine kE 0 BG (λ Dl=>⟨[(6,.ptr 6 0),(7,.ptr 7 0),(10,.ptr 10 0),(11,.ptr 11 0)],[(6,[.p (eI Dl.1),.p (eI Dl.2.1),.p (eS Dl.2.2.1),.p (eL ag Dl.2.2.2.1),.p (eL eS Dl.2.2.2.2.1)]),(7,[.p (eI Dl.2.2.2.2.2.1),.p (eI Dl.2.2.2.2.2.2.1),.p (eS Dl.2.2.2.2.2.2.2.1),.p (eL ag Dl.2.2.2.2.2.2.2.2.1),.p (eL eS Dl.2.2.2.2.2.2.2.2.2)]),(10,[.p (eI 0),.p (eI 0),.p (eS ([]:Bk)),.p (.val (.slice none 0 0)),.p (.val (.slice none 0 0))]),(11,[.p (eI 0),.p (eI 0),.p (eS ([]:Bk)),.p (.val (.slice none 0 0)),.p (.val (.slice none 0 0))])]⟩) ?_ ?_
 ·refine nx 2 Z (mG (gE (t:=⟨[(6,.ptr 6 0),(7,.ptr 7 0),(10,.ptr 10 0),(11,.ptr 11 0)],[(6,[.p (eI BG.1),.p (eI BG.2.1),.p (eS BG.2.2.1),.p (eL ag BG.2.2.2.1),.p (eL eS BG.2.2.2.2.1)]),(7,[.p (eI BG.2.2.2.2.2.1),.p (eI BG.2.2.2.2.2.2.1),.p (eS BG.2.2.2.2.2.2.2.1),.p (eL ag BG.2.2.2.2.2.2.2.2.1),.p (eL eS BG.2.2.2.2.2.2.2.2.2)]),(10,[.p (eI 0),.p (eI 0),.p (eS ([]:Bk)),.p (.val (.slice none 0 0)),.p (.val (.slice none 0 0))]),(11,[.p (eI 0),.p (eI 0),.p (eS ([]:Bk)),.p (.val (.slice none 0 0)),.p (.val (.slice none 0 0))])]⟩) Z Z) ?_);refine mS ⟨2,[2,3],(λ _=>.none),(λ _=>[(6,.ptr 6 0),(7,.ptr 7 0),(10,.ptr 10 0),(11,.ptr 11 0)]),(by3 ([(6,[.p (eI BG.1),.p (eI BG.2.1),.p (eS BG.2.2.1),.p (eL ag BG.2.2.2.1),.p (eL eS BG.2.2.2.2.1)]),(7,[.p (eI BG.2.2.2.2.2.1),.p (eI BG.2.2.2.2.2.2.1),.p (eS BG.2.2.2.2.2.2.2.1),.p (eL ag BG.2.2.2.2.2.2.2.2.1),.p (eL eS BG.2.2.2.2.2.2.2.2.2)]),(10,[.p (eI 0),.p (eI 0),.p (eS ([]:Bk)),.p (.val (.slice none 0 0)),.p (.val (.slice none 0 0))]),(11,[.p (eI 0),.p (eI 0),.p (eS ([]:Bk)),.p (.val (.slice none 0 0)),.p (.val (.slice none 0 0))])]) ([(10,[.p (eI BG.1),.p (eI BG.2.1),.p (eS BG.2.2.1),.p (eL ag BG.2.2.2.1),.p (eL eS BG.2.2.2.2.1)]),(6,[.p (eI BG.1),.p (eI BG.2.1),.p (eS BG.2.2.1),.p (eL ag BG.2.2.2.1),.p (eL eS BG.2.2.2.2.1)]),(7,[.p (eI BG.2.2.2.2.2.1),.p (eI BG.2.2.2.2.2.2.1),.p (eS BG.2.2.2.2.2.2.2.1),.p (eL ag BG.2.2.2.2.2.2.2.2.1),.p (eL eS BG.2.2.2.2.2.2.2.2.2)]),(10,[.p (eI 0),.p (eI 0),.p (eS ([]:Bk)),.p (.val (.slice none 0 0)),.p (.val (.slice none 0 0))]),(11,[.p (eI 0),.p (eI 0),.p (eS ([]:Bk)),.p (.val (.slice none 0 0)),.p (.val (.slice none 0 0))])]) ([(11,[.p (eI BG.2.2.2.2.2.1),.p (eI BG.2.2.2.2.2.2.1),.p (eS BG.2.2.2.2.2.2.2.1),.p (eL ag BG.2.2.2.2.2.2.2.2.1),.p (eL eS BG.2.2.2.2.2.2.2.2.2)]),(10,[.p (eI BG.1),.p (eI BG.2.1),.p (eS BG.2.2.1),.p (eL ag BG.2.2.2.1),.p (eL eS BG.2.2.2.2.1)]),(6,[.p (eI BG.1),.p (eI BG.2.1),.p (eS BG.2.2.1),.p (eL ag BG.2.2.2.1),.p (eL eS BG.2.2.2.2.1)]),(7,[.p (eI BG.2.2.2.2.2.1),.p (eI BG.2.2.2.2.2.2.1),.p (eS BG.2.2.2.2.2.2.2.1),.p (eL ag BG.2.2.2.2.2.2.2.2.1),.p (eL eS BG.2.2.2.2.2.2.2.2.2)]),(10,[.p (eI 0),.p (eI 0),.p (eS ([]:Bk)),.p (.val (.slice none 0 0)),.p (.val (.slice none 0 0))]),(11,[.p (eI 0),.p (eI 0),.p (eS ([]:Bk)),.p (.val (.slice none 0 0)),.p (.val (.slice none 0 0))])]))⟩ Z Z Z ⟨Z,Z,Z,Z,trivial⟩ (lt2 ⟨Z,Z,Z,Z,trivial⟩ ⟨Z,Z,Z,Z,trivial⟩) Z Z Z Z (ah (λ _=>.p (.agg [eI BG.1,eI BG.2.1,eS BG.2.2.1,eL ag BG.2.2.2.1,eL eS BG.2.2.2.2.1])) Z Z Z (bp Z Z Y) (lt2 Z Z) (aj Z (aj Z (af [(6,_)] ⟨.inl Z,trivial⟩ (λ sl Bs K hK=>ae Z (aN Z Z Z Z Z (Bs _ _ Z) Z Z Z hK)) ai))) ?_);refine ah (λ _=>.p (.agg [eI BG.2.2.2.2.2.1,eI BG.2.2.2.2.2.2.1,eS BG.2.2.2.2.2.2.2.1,eL ag BG.2.2.2.2.2.2.2.2.1,eL eS BG.2.2.2.2.2.2.2.2.2])) Z Z Z (bp Z Z Y) (lt2 Z Z) (aj Z (af [(7,_)] ⟨.inl Z,trivial⟩ (λ sl Bs K hK=>ae Z (aN Z Z Z Z Z (Bs _ _ Z) Z Z Z hK)) (af [(7,_)] ⟨.inl Z,trivial⟩ (λ sl Bs K hK=>ae Z (aN Z Z Z Z Z (Bs _ _ Z) Z Z Z hK)) ai))) (cp [(10,_),(105,_)] Z ⟨.inl Z,.inr ⟨0,_,Z,Z,Z⟩,trivial⟩ Z (λ sl Bs K hK=>ae Z (ct Z Z Z (Bs _ _ Z) (Bs _ _ Z) Z Z Z (ph Z) hK)) ?_);refine cp [(11,_),(106,_)] Z ⟨.inl Z,.inr ⟨1,_,Z,Z,Z⟩,trivial⟩ Z (λ sl Bs K hK=>ae Z (ct Z Z Z (Bs _ _ Z) (Bs _ _ Z) Z Z Z (ph Z) hK)) (eH ?_);exact nx 2 Z (mQ (oi h0) Z (ci ⟨sr,sr,trivial⟩))
 refine lG (λ (B4:Int×Int×Int×Bk×(List aa)×(List Bk)×Int×Int×Bk×(List aa)×(List Bk))=>⟨[(0,.p (eL aE l_0)),(3,.p (eS x_3)),(4,.p (eS y_4)),(6,.ptr 6 0),(7,.ptr 7 0),(10,.ptr 10 0),(11,.ptr 11 0),(12,.p (eI B4.1))],[(6,[.p (eI B4.2.1),.p (eI B4.2.2.1),.p (eS B4.2.2.2.1),.p (eL ag B4.2.2.2.2.1),.p (eL eS B4.2.2.2.2.2.1)]),(7,[.p (eI B4.2.2.2.2.2.2.1),.p (eI B4.2.2.2.2.2.2.2.1),.p (eS B4.2.2.2.2.2.2.2.2.1),.p (eL ag B4.2.2.2.2.2.2.2.2.2.1),.p (eL eS B4.2.2.2.2.2.2.2.2.2.2)]),(10,[.p (eI 0),.p (eI 0),.p (eS ([]:Bk)),.p (.val (.slice none 0 0)),.p (.val (.slice none 0 0))]),(11,[.p (eI 0),.p (eI 0),.p (eS ([]:Bk)),.p (.val (.slice none 0 0)),.p (.val (.slice none 0 0))])]⟩) (λ m (B4:Int×Int×Int×Bk×(List aa)×(List Bk)×Int×Int×Bk×(List aa)×(List Bk))=>ei n l_0 x_3 y_4 m B4.1 B4.2.1 B4.2.2.1 B4.2.2.2.1 B4.2.2.2.2.1 B4.2.2.2.2.2.1 B4.2.2.2.2.2.2.1 B4.2.2.2.2.2.2.2.1 B4.2.2.2.2.2.2.2.2.1 B4.2.2.2.2.2.2.2.2.2.1 B4.2.2.2.2.2.2.2.2.2.2) Y (0,Ez.Av,Ez.Ay,Ez.Az,Ez.Ar,Ez.Aw,b_2.Av,b_2.Ay,b_2.Az,b_2.Ar,b_2.Aw) h1 (gE rfl rfl) ?_;rintro m ⟨i67,C7,CV,C6,C5,C4,Ca,Cj,Ci,Ch,Cg⟩ h1;replace h1:ei n l_0 x_3 y_4 (m+1) i67 C7 CV C6 C5 C4 Ca Cj Ci Ch Cg=some BG:=h1;rw [ei] at h1;refine nx 5 rfl (oLl (f:=aE) rfl rfl ?_);refine nx 2 rfl (fD [21] h1 rfl (λ c78 h1=>?_) λ c78 h1=>?_)
 ·refine nx 3 Z (bd h1 λ De h2 h1=>?_);refine kN De (λ Dk=>⟨[(0,.p (eL aE l_0)),(3,.p (eS x_3)),(4,.p (eS y_4)),(6,.ptr 6 0),(7,.ptr 7 0),(10,.ptr 10 0),(11,.ptr 11 0),(12,.p (eI i67))],[(6,[.p (eI Dk.1),.p (eI Dk.2.1),.p (eS Dk.2.2.1),.p (eL ag Dk.2.2.2.1),.p (eL eS Dk.2.2.2.2.1)]),(7,[.p (eI Dk.2.2.2.2.2.1),.p (eI Dk.2.2.2.2.2.2.1),.p (eS Dk.2.2.2.2.2.2.2.1),.p (eL ag Dk.2.2.2.2.2.2.2.2.1),.p (eL eS Dk.2.2.2.2.2.2.2.2.2)]),(10,[.p (eI 0),.p (eI 0),.p (eS ([]:Bk)),.p (.val (.slice none 0 0)),.p (.val (.slice none 0 0))]),(11,[.p (eI 0),.p (eI 0),.p (eS ([]:Bk)),.p (.val (.slice none 0 0)),.p (.val (.slice none 0 0))])]⟩) ?_ ?_
  ·refine nx 3 Z (oA h1 Z Z λ hk132 h1=>?_);exact nx 2 Z (eX (i67+1,De.1,De.2.1,De.2.2.1,De.2.2.2.1,De.2.2.2.2.1,De.2.2.2.2.2.1,De.2.2.2.2.2.2.1,De.2.2.2.2.2.2.2.1,De.2.2.2.2.2.2.2.2.1,De.2.2.2.2.2.2.2.2.2) h1 (gE Z Z))
  refine nx 6 Z (oE h2 ax.AD Z Z Y λ hk79 h2=>?_);refine nx 4 Z (fB [29] h2 Z (λ c80 h2=>?_) λ c80 h2=>?_)
  ·exact nx 2 Z (eX _ (oi h2).symm (gE Z Z))
  refine nx 3 Z (cc' h2 λ E1 h2=>?_);refine bd h2 λ Cn e83 h2=>mG (gE (t:=⟨[(0,.p (eL aE l_0)),(3,.p (eS x_3)),(4,.p (eS y_4)),(6,.ptr 6 0),(7,.ptr 7 0),(10,.ptr 10 0),(11,.ptr 11 0),(12,.p (eI i67))],[(6,[.p (eI C7),.p (eI CV),.p (eS C6),.p (eL ag C5),.p (eL eS C4)]),(7,[.p (eI Ca),.p (eI Cj),.p (eS Ci),.p (eL ag Ch),.p (eL eS Cg)]),(10,[.p (eI 0),.p (eI 0),.p (eS ([]:Bk)),.p (.val (.slice none 0 0)),.p (.val (.slice none 0 0))]),(11,[.p (eI 0),.p (eI 0),.p (eS ([]:Bk)),.p (.val (.slice none 0 0)),.p (.val (.slice none 0 0))])]⟩) Z Z) (mS ⟨2,[10,11],(by3 (.some λ i=>Nat.beq i 13) .none .none),(λ _=>[(0,.p (eL aE l_0)),(3,.p (eS x_3)),(4,.p (eS y_4)),(6,.ptr 6 0),(7,.ptr 7 0),(10,.ptr 10 0),(11,.ptr 11 0),(12,.p (eI i67))]),(by3 ([(6,[.p (eI C7),.p (eI CV),.p (eS C6),.p (eL ag C5),.p (eL eS C4)]),(7,[.p (eI Ca),.p (eI Cj),.p (eS Ci),.p (eL ag Ch),.p (eL eS Cg)]),(10,[.p (eI 0),.p (eI 0),.p (eS ([]:Bk)),.p (.val (.slice none 0 0)),.p (.val (.slice none 0 0))]),(11,[.p (eI 0),.p (eI 0),.p (eS ([]:Bk)),.p (.val (.slice none 0 0)),.p (.val (.slice none 0 0))])]) ([(13,[.p (eI 0),.p (eI 0),.p (eS ([]:Bk)),.p (.val (.slice none 0 0)),.p (.val (.slice none 0 0))]),(6,[.p (eI C7),.p (eI CV),.p (eS C6),.p (eL ag C5),.p (eL eS C4)]),(7,[.p (eI Ca),.p (eI Cj),.p (eS Ci),.p (eL ag Ch),.p (eL eS Cg)]),(10,[.p (eI 0),.p (eI 0),.p (eS ([]:Bk)),.p (.val (.slice none 0 0)),.p (.val (.slice none 0 0))]),(11,[.p (eI 0),.p (eI 0),.p (eS ([]:Bk)),.p (.val (.slice none 0 0)),.p (.val (.slice none 0 0))])]) ([(13,[.p (eI Cn.1.Av),.p (eI Cn.1.Ay),.p (eS Cn.1.Az),.p (eL ag Cn.1.Ar),.p (eL eS Cn.1.Aw)]),(13,[.p (eI 0),.p (eI 0),.p (eS ([]:Bk)),.p (.val (.slice none 0 0)),.p (.val (.slice none 0 0))]),(6,[.p (eI C7),.p (eI CV),.p (eS C6),.p (eL ag C5),.p (eL eS C4)]),(7,[.p (eI Ca),.p (eI Cj),.p (eS Ci),.p (eL ag Ch),.p (eL eS Cg)]),(10,[.p (eI 0),.p (eI 0),.p (eS ([]:Bk)),.p (.val (.slice none 0 0)),.p (.val (.slice none 0 0))]),(11,[.p (eI 0),.p (eI 0),.p (eS ([]:Bk)),.p (.val (.slice none 0 0)),.p (.val (.slice none 0 0))])]))⟩ Z Z Z ⟨Z,Z,Z,Z,Z,Z,Z,Z,trivial⟩ (lt2 ⟨Z,Z,Z,Z,Z,Z,Z,Z,trivial⟩ ⟨Z,Z,Z,Z,Z,Z,Z,Z,trivial⟩) Z Z Z Z ?_);refine ah (λ _=>.p (.agg [eI C7,eI CV,eS C6,eL ag C5,eL eS C4])) Z Z Z (bp Z Z Y) (lt2 Z Z) (aj Z (af [(6,_)] ⟨.inl Z,trivial⟩ (λ sl Bs K hK=>ae Z (aN Z Z Z Z Z (Bs _ _ Z) Z Z Z hK)) (af [(6,_)] ⟨.inl Z,trivial⟩ (λ sl Bs K hK=>ae Z (aN Z Z Z Z Z (Bs _ _ Z) Z Z Z hK)) ai))) (ah (λ _=>.p (eL aE l_0)) Z Z Z (bp Z Z Y) (lt2 Z Z) (aj Z (af [(0,_)] ⟨.inl Z,trivial⟩ (λ sl Bs K hK=>ae Z (aW Z Z Z (Bs _ _ Z) hK)) (af [(0,_)] ⟨.inl Z,trivial⟩ (λ sl Bs K hK=>ae Z (aW Z Z Z (Bs _ _ Z) hK)) ai))) ?_);refine ah (λ _=>.p (eI i67)) Z Z Z (bp Z Z Y) (lt2 Z Z) (aj Z (af [(12,_)] ⟨.inl Z,trivial⟩ (λ sl Bs K hK=>ae Z (aW Z Z Z (Bs _ _ Z) hK)) (af [(12,_)] ⟨.inl Z,trivial⟩ (λ sl Bs K hK=>ae Z (aW Z Z Z (Bs _ _ Z) hK)) ai))) (ah (λ _=>.rptr (ax.cs (lat l_0 i67))) Z Z Z (bp Z Z Y) (lt2 Z Z) (aj Z (af [(32,_),(33,_)] ⟨.inr ⟨1,_,Z,Z,Z⟩,.inr ⟨2,_,Z,Z,Z⟩,trivial⟩ (λ sl Bs K hK=>ae Z (dw (f:=aE) (l:=l_0) ax.cs Z Z Z Z Z Z (Bs _ _ Z) Z (Bs _ _ Z) E1 ax.AD Y hK)) (af [(32,_),(33,_)] ⟨.inr ⟨1,_,Z,Z,Z⟩,.inr ⟨2,_,Z,Z,Z⟩,trivial⟩ (λ sl Bs K hK=>ae Z (dw (f:=aE) (l:=l_0) ax.cs Z Z Z Z Z Z (Bs _ _ Z) Z (Bs _ _ Z) E1 ax.AD Y hK)) ai))) ?_);refine ah (λ _=>.rptr (List.drop 0 (ax.cs (lat l_0 i67)))) Z Z Z (bp Z Z Y) (lt2 Z Z) (aj Z (af [(34,_)] ⟨.inr ⟨3,_,Z,Z,Z⟩,trivial⟩ (λ sl Bs K hK=>ae Z (bG Z Z Z Z Z Z Z Z (Bs _ _ Z) hK)) (af [(34,_)] ⟨.inr ⟨3,_,Z,Z,Z⟩,trivial⟩ (λ sl Bs K hK=>ae Z (bG Z Z Z Z Z Z Z Z (Bs _ _ Z) hK)) ai))) (ah (λ _=>.p (eS ((lat l_0 i67).AA))) Z Z Z (bp Z Z Y) (lt2 Z Z) (aj Z (af [(35,_)] ⟨.inr ⟨4,_,Z,Z,Z⟩,trivial⟩ (λ sl Bs K hK=>ae Z (da Z Z Z Z Z (Bs _ _ Z) Z hK)) (af [(35,_)] ⟨.inr ⟨4,_,Z,Z,Z⟩,trivial⟩ (λ sl Bs K hK=>ae Z (da Z Z Z Z Z (Bs _ _ Z) Z hK)) ai))) ?_);refine ah (λ _=>.tuple [.p (.agg (aa.cs Cn.1)),.p (eB Cn.2)]) Z Z Z (bp Z Z Y) (lt2 Z Z) (aj Z (af [(31,_),(36,_)] ⟨.inr ⟨0,_,Z,Z,Z⟩,.inr ⟨5,_,Z,Z,Z⟩,trivial⟩ (λ sl Bs K hK=>ae Z (aP (iW _ (aa.mk C7 CV C6 C5 C4) ((lat l_0 i67).AA) _ e83) Z Z Z (am (Bs _ _ Z) (am (Bs _ _ Z) aO)) ⟨sr,sr,trivial⟩ Tryz.call48 Z hK)) (af [(31,_),(36,_)] ⟨.inr ⟨0,_,Z,Z,Z⟩,.inr ⟨5,_,Z,Z,Z⟩,trivial⟩ (λ sl Bs K hK=>ae Z (aP (iW _ (aa.mk C7 CV C6 C5 C4) ((lat l_0 i67).AA) _ e83) Z Z Z (am (Bs _ _ Z) (am (Bs _ _ Z) aO)) ⟨sr,sr,trivial⟩ Tryz.call48 Z hK)) ai))) (ah (λ _=>.tuple [.p (.agg (aa.cs Cn.1)),.p (eB Cn.2)]) Z Z Z (bp Z Z Y) (lt2 Z Z) (aj Z (af [(37,_)] ⟨.inr ⟨6,_,Z,Z,Z⟩,trivial⟩ (λ sl Bs K hK=>ae Z (aW Z Z Z (Bs _ _ Z) hK)) (af [(37,_)] ⟨.inr ⟨6,_,Z,Z,Z⟩,trivial⟩ (λ sl Bs K hK=>ae Z (aW Z Z Z (Bs _ _ Z) hK)) ai))) ?_);refine ah (λ _=>.p (.agg (aa.cs Cn.1))) Z Z Z (bp Z Z Y) (lt2 Z Z) (aj Z (af [(30,_)] ⟨.inr ⟨7,_,Z,Z,Z⟩,trivial⟩ (λ sl Bs K hK=>ae Z (eV Z Z Z (Bs _ _ Z) Z hK)) (af [(30,_)] ⟨.inr ⟨7,_,Z,Z,Z⟩,trivial⟩ (λ sl Bs K hK=>ae Z (eV Z Z Z (Bs _ _ Z) Z hK)) ai))) (ah (λ _=>.p (eB Cn.2)) Z Z Z (bp Z Z Y) (lt2 Z Z) (af [(30,_)] ⟨.inr ⟨7,_,Z,Z,Z⟩,trivial⟩ (λ sl Bs K hK=>ae Z (eV Z Z Z (Bs _ _ Z) Z hK)) (af [(30,_)] ⟨.inr ⟨7,_,Z,Z,Z⟩,trivial⟩ (λ sl Bs K hK=>ae Z (eV Z Z Z (Bs _ _ Z) Z hK)) (af [(30,_)] ⟨.inr ⟨7,_,Z,Z,Z⟩,trivial⟩ (λ sl Bs K hK=>ae Z (eV Z Z Z (Bs _ _ Z) Z hK)) ai))) ?_);refine fh (λ _=>.ptr 13 0) [] Z trivial Z Z (bS Z Y) (lt2 (λ h=>absurd h (by decide)) Y) (λ sl Bs K hK=>ae Z (kc Z Z Z Z Z hK)) (cp [(13,_),(38,_)] Z ⟨.inr ⟨10,_,Z,Z,Z⟩,.inr ⟨8,_,Z,Z,Z⟩,trivial⟩ Z (λ sl Bs K hK=>ae Z (ct Z Z Z (Bs _ _ Z) (Bs _ _ Z) Z Z Z (ph Z) hK)) ?_);refine ah (λ _=>.p (eB Cn.2)) Z Z Z (bp Z Z Y) (lt2 Z Z) (af [(39,_)] ⟨.inr ⟨9,_,Z,Z,Z⟩,trivial⟩ (λ sl Bs K hK=>ae Z (cv Z Z Z (Bs _ _ Z) hK)) (aj Z (aj Z ai))) (eH ?_);refine nx 2 Z (cc' h2 λ Gq h2=>?_);refine bd h2 λ Cp e86 h2=>mG (gE (t:=⟨[(0,.p (eL aE l_0)),(3,.p (eS x_3)),(4,.p (eS y_4)),(6,.ptr 6 0),(7,.ptr 7 0),(10,.ptr 10 0),(11,.ptr 11 0),(12,.p (eI i67)),(13,.ptr 13 0),(14,.p (eB Cn.2))],[(6,[.p (eI C7),.p (eI CV),.p (eS C6),.p (eL ag C5),.p (eL eS C4)]),(7,[.p (eI Ca),.p (eI Cj),.p (eS Ci),.p (eL ag Ch),.p (eL eS Cg)]),(10,[.p (eI 0),.p (eI 0),.p (eS ([]:Bk)),.p (.val (.slice none 0 0)),.p (.val (.slice none 0 0))]),(11,[.p (eI 0),.p (eI 0),.p (eS ([]:Bk)),.p (.val (.slice none 0 0)),.p (.val (.slice none 0 0))]),(13,(aa.cs Cn.1).map .p)]⟩) Z Z) (mS ⟨2,[10,11],(by3 (.some λ i=>Nat.beq i 15) .none .none),(λ _=>[(0,.p (eL aE l_0)),(3,.p (eS x_3)),(4,.p (eS y_4)),(6,.ptr 6 0),(7,.ptr 7 0),(10,.ptr 10 0),(11,.ptr 11 0),(12,.p (eI i67)),(13,.ptr 13 0),(14,.p (eB Cn.2))]),(by3 ([(6,[.p (eI C7),.p (eI CV),.p (eS C6),.p (eL ag C5),.p (eL eS C4)]),(7,[.p (eI Ca),.p (eI Cj),.p (eS Ci),.p (eL ag Ch),.p (eL eS Cg)]),(10,[.p (eI 0),.p (eI 0),.p (eS ([]:Bk)),.p (.val (.slice none 0 0)),.p (.val (.slice none 0 0))]),(11,[.p (eI 0),.p (eI 0),.p (eS ([]:Bk)),.p (.val (.slice none 0 0)),.p (.val (.slice none 0 0))]),(13,[.p (eI Cn.1.Av),.p (eI Cn.1.Ay),.p (eS Cn.1.Az),.p (eL ag Cn.1.Ar),.p (eL eS Cn.1.Aw)])]) ([(15,[.p (eI 0),.p (eI 0),.p (eS ([]:Bk)),.p (.val (.slice none 0 0)),.p (.val (.slice none 0 0))]),(6,[.p (eI C7),.p (eI CV),.p (eS C6),.p (eL ag C5),.p (eL eS C4)]),(7,[.p (eI Ca),.p (eI Cj),.p (eS Ci),.p (eL ag Ch),.p (eL eS Cg)]),(10,[.p (eI 0),.p (eI 0),.p (eS ([]:Bk)),.p (.val (.slice none 0 0)),.p (.val (.slice none 0 0))]),(11,[.p (eI 0),.p (eI 0),.p (eS ([]:Bk)),.p (.val (.slice none 0 0)),.p (.val (.slice none 0 0))]),(13,[.p (eI Cn.1.Av),.p (eI Cn.1.Ay),.p (eS Cn.1.Az),.p (eL ag Cn.1.Ar),.p (eL eS Cn.1.Aw)])]) ([(15,[.p (eI Cp.1.Av),.p (eI Cp.1.Ay),.p (eS Cp.1.Az),.p (eL ag Cp.1.Ar),.p (eL eS Cp.1.Aw)]),(15,[.p (eI 0),.p (eI 0),.p (eS ([]:Bk)),.p (.val (.slice none 0 0)),.p (.val (.slice none 0 0))]),(6,[.p (eI C7),.p (eI CV),.p (eS C6),.p (eL ag C5),.p (eL eS C4)]),(7,[.p (eI Ca),.p (eI Cj),.p (eS Ci),.p (eL ag Ch),.p (eL eS Cg)]),(10,[.p (eI 0),.p (eI 0),.p (eS ([]:Bk)),.p (.val (.slice none 0 0)),.p (.val (.slice none 0 0))]),(11,[.p (eI 0),.p (eI 0),.p (eS ([]:Bk)),.p (.val (.slice none 0 0)),.p (.val (.slice none 0 0))]),(13,[.p (eI Cn.1.Av),.p (eI Cn.1.Ay),.p (eS Cn.1.Az),.p (eL ag Cn.1.Ar),.p (eL eS Cn.1.Aw)])]))⟩ Z Z Z ⟨Z,Z,Z,Z,Z,Z,Z,Z,Z,Z,trivial⟩ (lt2 ⟨Z,Z,Z,Z,Z,Z,Z,Z,Z,Z,trivial⟩ ⟨Z,Z,Z,Z,Z,Z,Z,Z,Z,Z,trivial⟩) Z Z Z Z ?_);refine ah (λ _=>.p (.agg [eI Ca,eI Cj,eS Ci,eL ag Ch,eL eS Cg])) Z Z Z (bp Z Z Y) (lt2 Z Z) (aj Z (af [(7,_)] ⟨.inl Z,trivial⟩ (λ sl Bs K hK=>ae Z (aN Z Z Z Z Z (Bs _ _ Z) Z Z Z hK)) (af [(7,_)] ⟨.inl Z,trivial⟩ (λ sl Bs K hK=>ae Z (aN Z Z Z Z Z (Bs _ _ Z) Z Z Z hK)) ai))) (ah (λ _=>.p (eL aE l_0)) Z Z Z (bp Z Z Y) (lt2 Z Z) (aj Z (af [(0,_)] ⟨.inl Z,trivial⟩ (λ sl Bs K hK=>ae Z (aW Z Z Z (Bs _ _ Z) hK)) (af [(0,_)] ⟨.inl Z,trivial⟩ (λ sl Bs K hK=>ae Z (aW Z Z Z (Bs _ _ Z) hK)) ai))) ?_);refine ah (λ _=>.p (eI i67)) Z Z Z (bp Z Z Y) (lt2 Z Z) (aj Z (af [(12,_)] ⟨.inl Z,trivial⟩ (λ sl Bs K hK=>ae Z (aW Z Z Z (Bs _ _ Z) hK)) (af [(12,_)] ⟨.inl Z,trivial⟩ (λ sl Bs K hK=>ae Z (aW Z Z Z (Bs _ _ Z) hK)) ai))) (ah (λ _=>.rptr (ax.cs (lat l_0 i67))) Z Z Z (bp Z Z Y) (lt2 Z Z) (aj Z (af [(42,_),(43,_)] ⟨.inr ⟨1,_,Z,Z,Z⟩,.inr ⟨2,_,Z,Z,Z⟩,trivial⟩ (λ sl Bs K hK=>ae Z (dw (f:=aE) (l:=l_0) ax.cs Z Z Z Z Z Z (Bs _ _ Z) Z (Bs _ _ Z) Gq ax.AD Y hK)) (af [(42,_),(43,_)] ⟨.inr ⟨1,_,Z,Z,Z⟩,.inr ⟨2,_,Z,Z,Z⟩,trivial⟩ (λ sl Bs K hK=>ae Z (dw (f:=aE) (l:=l_0) ax.cs Z Z Z Z Z Z (Bs _ _ Z) Z (Bs _ _ Z) Gq ax.AD Y hK)) ai))) ?_);refine ah (λ _=>.rptr (List.drop 0 (ax.cs (lat l_0 i67)))) Z Z Z (bp Z Z Y) (lt2 Z Z) (aj Z (af [(44,_)] ⟨.inr ⟨3,_,Z,Z,Z⟩,trivial⟩ (λ sl Bs K hK=>ae Z (bG Z Z Z Z Z Z Z Z (Bs _ _ Z) hK)) (af [(44,_)] ⟨.inr ⟨3,_,Z,Z,Z⟩,trivial⟩ (λ sl Bs K hK=>ae Z (bG Z Z Z Z Z Z Z Z (Bs _ _ Z) hK)) ai))) (ah (λ _=>.p (eS ((lat l_0 i67).AA))) Z Z Z (bp Z Z Y) (lt2 Z Z) (aj Z (af [(45,_)] ⟨.inr ⟨4,_,Z,Z,Z⟩,trivial⟩ (λ sl Bs K hK=>ae Z (da Z Z Z Z Z (Bs _ _ Z) Z hK)) (af [(45,_)] ⟨.inr ⟨4,_,Z,Z,Z⟩,trivial⟩ (λ sl Bs K hK=>ae Z (da Z Z Z Z Z (Bs _ _ Z) Z hK)) ai))) ?_);refine ah (λ _=>.tuple [.p (.agg (aa.cs Cp.1)),.p (eB Cp.2)]) Z Z Z (bp Z Z Y) (lt2 Z Z) (aj Z (af [(41,_),(46,_)] ⟨.inr ⟨0,_,Z,Z,Z⟩,.inr ⟨5,_,Z,Z,Z⟩,trivial⟩ (λ sl Bs K hK=>ae Z (aP (iW _ (aa.mk Ca Cj Ci Ch Cg) ((lat l_0 i67).AA) _ e86) Z Z Z (am (Bs _ _ Z) (am (Bs _ _ Z) aO)) ⟨sr,sr,trivial⟩ Tryz.call48 Z hK)) (af [(41,_),(46,_)] ⟨.inr ⟨0,_,Z,Z,Z⟩,.inr ⟨5,_,Z,Z,Z⟩,trivial⟩ (λ sl Bs K hK=>ae Z (aP (iW _ (aa.mk Ca Cj Ci Ch Cg) ((lat l_0 i67).AA) _ e86) Z Z Z (am (Bs _ _ Z) (am (Bs _ _ Z) aO)) ⟨sr,sr,trivial⟩ Tryz.call48 Z hK)) ai))) (ah (λ _=>.tuple [.p (.agg (aa.cs Cp.1)),.p (eB Cp.2)]) Z Z Z (bp Z Z Y) (lt2 Z Z) (aj Z (af [(47,_)] ⟨.inr ⟨6,_,Z,Z,Z⟩,trivial⟩ (λ sl Bs K hK=>ae Z (aW Z Z Z (Bs _ _ Z) hK)) (af [(47,_)] ⟨.inr ⟨6,_,Z,Z,Z⟩,trivial⟩ (λ sl Bs K hK=>ae Z (aW Z Z Z (Bs _ _ Z) hK)) ai))) ?_);refine ah (λ _=>.p (.agg (aa.cs Cp.1))) Z Z Z (bp Z Z Y) (lt2 Z Z) (aj Z (af [(40,_)] ⟨.inr ⟨7,_,Z,Z,Z⟩,trivial⟩ (λ sl Bs K hK=>ae Z (eV Z Z Z (Bs _ _ Z) Z hK)) (af [(40,_)] ⟨.inr ⟨7,_,Z,Z,Z⟩,trivial⟩ (λ sl Bs K hK=>ae Z (eV Z Z Z (Bs _ _ Z) Z hK)) ai))) (ah (λ _=>.p (eB Cp.2)) Z Z Z (bp Z Z Y) (lt2 Z Z) (af [(40,_)] ⟨.inr ⟨7,_,Z,Z,Z⟩,trivial⟩ (λ sl Bs K hK=>ae Z (eV Z Z Z (Bs _ _ Z) Z hK)) (af [(40,_)] ⟨.inr ⟨7,_,Z,Z,Z⟩,trivial⟩ (λ sl Bs K hK=>ae Z (eV Z Z Z (Bs _ _ Z) Z hK)) (af [(40,_)] ⟨.inr ⟨7,_,Z,Z,Z⟩,trivial⟩ (λ sl Bs K hK=>ae Z (eV Z Z Z (Bs _ _ Z) Z hK)) ai))) ?_);refine fh (λ _=>.ptr 15 0) [] Z trivial Z Z (bS Z Y) (lt2 (λ h=>absurd h (by decide)) Y) (λ sl Bs K hK=>ae Z (kc Z Z Z Z Z hK)) (cp [(15,_),(48,_)] Z ⟨.inr ⟨10,_,Z,Z,Z⟩,.inr ⟨8,_,Z,Z,Z⟩,trivial⟩ Z (λ sl Bs K hK=>ae Z (ct Z Z Z (Bs _ _ Z) (Bs _ _ Z) Z Z Z (ph Z) hK)) ?_);refine ah (λ _=>.p (eB Cp.2)) Z Z Z (bp Z Z Y) (lt2 Z Z) (af [(49,_)] ⟨.inr ⟨9,_,Z,Z,Z⟩,trivial⟩ (λ sl Bs K hK=>ae Z (cv Z Z Z (Bs _ _ Z) hK)) (aj Z (aj Z ai))) (eH ?_);refine nx 2 Z (cc' h2 λ hk87 h2=>?_);refine bd h2 λ EM e89 h2=>cc' h2 λ Gp h2=>bd h2 λ FS e92 h2=>bd h2 λ FR e94 h2=>mD [(0,.p (eL aE l_0)),(3,.p (eS x_3)),(4,.p (eS y_4)),(6,.ptr 6 0),(7,.ptr 7 0),(10,.ptr 10 0),(11,.ptr 11 0),(12,.p (eI i67)),(13,.ptr 13 0),(14,.p (eB Cn.2)),(15,.ptr 15 0),(16,.p (eB Cp.2))] Z ⟨Z,Z,Z,Z,Z,Z,Z,Z,Z,Z,Z,Z,trivial⟩ Z (dR 3 Z ?_);refine dq (.rptr (ax.cs (lat l_0 i67))) [51,52] Z (λ _ e _ q=>ae Z (dw (f:=aE) (l:=l_0) ax.cs Z Z Z Z Z Z (e _ _ Z) Z (e _ _ Z) hk87 ax.AD Y q)) Z (dR 2 Z ?_);refine dq (.p (.agg (aa.cs EM))) [50,55] Z (λ _ e _ q=>ae Z (aP (oz _ (aa.mk C7 CV C6 C5 C4) ((lat l_0 i67).AA) _ e89) Z Z Z (am (e _ _ Z) (am (e _ _ Z) aO)) ⟨sr,sr,trivial⟩ Tryz.call35 Z q)) Z (dR 3 Z ?_);refine dq (.rptr (ax.cs (lat l_0 i67))) [58,59] Z (λ _ e _ q=>ae Z (dw (f:=aE) (l:=l_0) ax.cs Z Z Z Z Z Z (e _ _ Z) Z (e _ _ Z) Gp ax.AD Y q)) Z (dR 2 Z ?_);refine dq (.p (.agg (aa.cs FS))) [57,62] Z (λ _ e _ q=>ae Z (aP (oz _ (aa.mk Ca Cj Ci Ch Cg) ((lat l_0 i67).AA) _ e92) Z Z Z (am (e _ _ Z) (am (e _ _ Z) aO)) ⟨sr,sr,trivial⟩ Tryz.call35 Z q)) Z (dq (.p (eB FR)) [56,63] Z (λ _ e _ q=>ae Z (aP (o8 _ EM FS _ e94) Z Z Z (am (e _ _ Z) (am (e _ _ Z) aO)) ⟨sr,sr,trivial⟩ Tryz.call49 Z q)) Z ?_);refine dR 1 Z (dE Z ?_);refine nx 2 Z (bd h2 λ BP h3 h2=>?_);refine kN BP (λ EJ=>⟨[(0,.p (eL aE l_0)),(3,.p (eS x_3)),(4,.p (eS y_4)),(6,.ptr 6 0),(7,.ptr 7 0),(10,.ptr 10 0),(11,.ptr 11 0),(12,.p (eI i67)),(15,.ptr 15 0),(16,.p (eB Cp.2)),(17,.p (eB FR))],[(6,[.p (eI EJ.1),.p (eI EJ.2.1),.p (eS EJ.2.2.1),.p (eL ag EJ.2.2.2.1),.p (eL eS EJ.2.2.2.2)]),(7,[.p (eI Ca),.p (eI Cj),.p (eS Ci),.p (eL ag Ch),.p (eL eS Cg)]),(10,[.p (eI 0),.p (eI 0),.p (eS ([]:Bk)),.p (.val (.slice none 0 0)),.p (.val (.slice none 0 0))]),(11,[.p (eI 0),.p (eI 0),.p (eS ([]:Bk)),.p (.val (.slice none 0 0)),.p (.val (.slice none 0 0))]),(15,(aa.cs Cp.1).map .p)]⟩) ?_ ?_
  ·refine nx 2 Z (bd h2 λ o166 h3 h2=>?_);refine kN o166 (λ v167=>⟨[(0,.p (eL aE l_0)),(3,.p (eS x_3)),(4,.p (eS y_4)),(6,.ptr 6 0),(7,.ptr 7 0),(10,.ptr 10 0),(11,.ptr 11 0),(12,.p (eI i67)),(17,.p (eB FR)),(85,.p (eB v167))],[(6,[.p (eI BP.1),.p (eI BP.2.1),.p (eS BP.2.2.1),.p (eL ag BP.2.2.2.1),.p (eL eS BP.2.2.2.2)]),(7,[.p (eI Ca),.p (eI Cj),.p (eS Ci),.p (eL ag Ch),.p (eL eS Cg)]),(10,[.p (eI 0),.p (eI 0),.p (eS ([]:Bk)),.p (.val (.slice none 0 0)),.p (.val (.slice none 0 0))]),(11,[.p (eI 0),.p (eI 0),.p (eS ([]:Bk)),.p (.val (.slice none 0 0)),.p (.val (.slice none 0 0))])]⟩) ?_ ?_
   ·refine nx 1 Z (fB [85] h2 Z (λ c110 h2=>?_) λ c110 h2=>?_)
    ·refine nx 5 Z (fB [17,86] h2 Z (λ c111 h2=>?_) λ c111 h2=>?_)
     ·refine nx 1 Z (cc' h2 λ HX h2=>?_);refine bd h2 λ Fv e114 h2=>bd h2 λ C9 e116 h2=>mG (gE (t:=⟨[(0,.p (eL aE l_0)),(3,.p (eS x_3)),(4,.p (eS y_4)),(6,.ptr 6 0),(7,.ptr 7 0),(10,.ptr 10 0),(11,.ptr 11 0),(12,.p (eI i67))],[(6,[.p (eI BP.1),.p (eI BP.2.1),.p (eS BP.2.2.1),.p (eL ag BP.2.2.2.1),.p (eL eS BP.2.2.2.2)]),(7,[.p (eI Ca),.p (eI Cj),.p (eS Ci),.p (eL ag Ch),.p (eL eS Cg)]),(10,[.p (eI 0),.p (eI 0),.p (eS ([]:Bk)),.p (.val (.slice none 0 0)),.p (.val (.slice none 0 0))]),(11,[.p (eI 0),.p (eI 0),.p (eS ([]:Bk)),.p (.val (.slice none 0 0)),.p (.val (.slice none 0 0))])]⟩) Z Z) (mS ⟨1,[9],(λ _=>.none),(λ _=>[(0,.p (eL aE l_0)),(3,.p (eS x_3)),(4,.p (eS y_4)),(6,.ptr 6 0),(7,.ptr 7 0),(10,.ptr 10 0),(11,.ptr 11 0),(12,.p (eI i67))]),(by2 ([(6,[.p (eI BP.1),.p (eI BP.2.1),.p (eS BP.2.2.1),.p (eL ag BP.2.2.2.1),.p (eL eS BP.2.2.2.2)]),(7,[.p (eI Ca),.p (eI Cj),.p (eS Ci),.p (eL ag Ch),.p (eL eS Cg)]),(10,[.p (eI 0),.p (eI 0),.p (eS ([]:Bk)),.p (.val (.slice none 0 0)),.p (.val (.slice none 0 0))]),(11,[.p (eI 0),.p (eI 0),.p (eS ([]:Bk)),.p (.val (.slice none 0 0)),.p (.val (.slice none 0 0))])]) ([(7,[.p (eI C9.Av),.p (eI C9.Ay),.p (eS C9.Az),.p (eL ag C9.Ar),.p (eL eS C9.Aw)]),(6,[.p (eI BP.1),.p (eI BP.2.1),.p (eS BP.2.2.1),.p (eL ag BP.2.2.2.1),.p (eL eS BP.2.2.2.2)]),(7,[.p (eI Ca),.p (eI Cj),.p (eS Ci),.p (eL ag Ch),.p (eL eS Cg)]),(10,[.p (eI 0),.p (eI 0),.p (eS ([]:Bk)),.p (.val (.slice none 0 0)),.p (.val (.slice none 0 0))]),(11,[.p (eI 0),.p (eI 0),.p (eS ([]:Bk)),.p (.val (.slice none 0 0)),.p (.val (.slice none 0 0))])]))⟩ Z Z Z ⟨Z,Z,Z,Z,Z,Z,Z,Z,trivial⟩ (lt1 ⟨Z,Z,Z,Z,Z,Z,Z,Z,trivial⟩) Z Z Z Z ?_);refine ah (λ _=>.p (.agg [eI Ca,eI Cj,eS Ci,eL ag Ch,eL eS Cg])) Z Z Z (bS Z Y) (lt1 Z) (aj Z (af [(7,_)] ⟨.inl Z,trivial⟩ (λ sl Bs K hK=>ae Z (aN Z Z Z Z Z (Bs _ _ Z) Z Z Z hK)) ai)) (ah (λ _=>.p (eL aE l_0)) Z Z Z (bS Z Y) (lt1 Z) (aj Z (af [(0,_)] ⟨.inl Z,trivial⟩ (λ sl Bs K hK=>ae Z (aW Z Z Z (Bs _ _ Z) hK)) ai)) ?_);refine ah (λ _=>.p (eI i67)) Z Z Z (bS Z Y) (lt1 Z) (aj Z (af [(12,_)] ⟨.inl Z,trivial⟩ (λ sl Bs K hK=>ae Z (aW Z Z Z (Bs _ _ Z) hK)) ai)) (ah (λ _=>.rptr (ax.cs (lat l_0 i67))) Z Z Z (bS Z Y) (lt1 Z) (aj Z (af [(88,_),(89,_)] ⟨.inr ⟨1,_,Z,Z,Z⟩,.inr ⟨2,_,Z,Z,Z⟩,trivial⟩ (λ sl Bs K hK=>ae Z (dw (f:=aE) (l:=l_0) ax.cs Z Z Z Z Z Z (Bs _ _ Z) Z (Bs _ _ Z) HX ax.AD Y hK)) ai)) ?_);refine ah (λ _=>.rptr (List.drop 0 (ax.cs (lat l_0 i67)))) Z Z Z (bS Z Y) (lt1 Z) (aj Z (af [(90,_)] ⟨.inr ⟨3,_,Z,Z,Z⟩,trivial⟩ (λ sl Bs K hK=>ae Z (bG Z Z Z Z Z Z Z Z (Bs _ _ Z) hK)) ai)) (ah (λ _=>.p (eS ((lat l_0 i67).AA))) Z Z Z (bS Z Y) (lt1 Z) (aj Z (af [(91,_)] ⟨.inr ⟨4,_,Z,Z,Z⟩,trivial⟩ (λ sl Bs K hK=>ae Z (da Z Z Z Z Z (Bs _ _ Z) Z hK)) ai)) ?_);refine ah (λ _=>.p (eS y_4)) Z Z Z (bS Z Y) (lt1 Z) (aj Z (af [(4,_)] ⟨.inl Z,trivial⟩ (λ sl Bs K hK=>ae Z (aW Z Z Z (Bs _ _ Z) hK)) ai)) (ah (λ _=>.p (.agg (aa.cs Fv))) Z Z Z (bS Z Y) (lt1 Z) (aj Z (af [(93,_)] ⟨.inr ⟨6,_,Z,Z,Z⟩,trivial⟩ (λ sl Bs K hK=>ae Z (aP (eg y_4 _ e114) Z Z Z (am (Bs _ _ Z) aO) ⟨sr,trivial⟩ Tryz.call22 Z hK)) ai)) ?_);refine ah (λ _=>.p (.agg (aa.cs C9))) Z Z Z (bS Z Y) (lt1 Z) (aj Z (af [(87,_),(92,_),(94,_)] ⟨.inr ⟨0,_,Z,Z,Z⟩,.inr ⟨5,_,Z,Z,Z⟩,.inr ⟨7,_,Z,Z,Z⟩,trivial⟩ (λ sl Bs K hK=>ae Z (aP (kU _ (aa.mk Ca Cj Ci Ch Cg) ((lat l_0 i67).AA) Fv _ e116) Z Z Z (am (Bs _ _ Z) (am (Bs _ _ Z) (am (Bs _ _ Z) aO))) ⟨sr,sr,sr,trivial⟩ Tryz.call50 Z hK)) ai)) (cp [(7,_),(95,_)] Z ⟨.inl Z,.inr ⟨8,_,Z,Z,Z⟩,trivial⟩ Z (λ sl Bs K hK=>ae Z (ct Z Z Z (Bs _ _ Z) (Bs _ _ Z) Z Z Z (ph Z) hK)) ?_);refine eH (nx 1 Z ?_);exact eX _ (oi h2).symm (gE Z Z)
     refine nx 1 Z (cc' h2 λ HW h2=>?_);refine bd h2 λ Fu e119 h2=>bd h2 λ C8 e121 h2=>mG (gE (t:=⟨[(0,.p (eL aE l_0)),(3,.p (eS x_3)),(4,.p (eS y_4)),(6,.ptr 6 0),(7,.ptr 7 0),(10,.ptr 10 0),(11,.ptr 11 0),(12,.p (eI i67))],[(6,[.p (eI BP.1),.p (eI BP.2.1),.p (eS BP.2.2.1),.p (eL ag BP.2.2.2.1),.p (eL eS BP.2.2.2.2)]),(7,[.p (eI Ca),.p (eI Cj),.p (eS Ci),.p (eL ag Ch),.p (eL eS Cg)]),(10,[.p (eI 0),.p (eI 0),.p (eS ([]:Bk)),.p (.val (.slice none 0 0)),.p (.val (.slice none 0 0))]),(11,[.p (eI 0),.p (eI 0),.p (eS ([]:Bk)),.p (.val (.slice none 0 0)),.p (.val (.slice none 0 0))])]⟩) Z Z) (mS ⟨1,[9],(λ _=>.none),(λ _=>[(0,.p (eL aE l_0)),(3,.p (eS x_3)),(4,.p (eS y_4)),(6,.ptr 6 0),(7,.ptr 7 0),(10,.ptr 10 0),(11,.ptr 11 0),(12,.p (eI i67))]),(by2 ([(6,[.p (eI BP.1),.p (eI BP.2.1),.p (eS BP.2.2.1),.p (eL ag BP.2.2.2.1),.p (eL eS BP.2.2.2.2)]),(7,[.p (eI Ca),.p (eI Cj),.p (eS Ci),.p (eL ag Ch),.p (eL eS Cg)]),(10,[.p (eI 0),.p (eI 0),.p (eS ([]:Bk)),.p (.val (.slice none 0 0)),.p (.val (.slice none 0 0))]),(11,[.p (eI 0),.p (eI 0),.p (eS ([]:Bk)),.p (.val (.slice none 0 0)),.p (.val (.slice none 0 0))])]) ([(7,[.p (eI C8.Av),.p (eI C8.Ay),.p (eS C8.Az),.p (eL ag C8.Ar),.p (eL eS C8.Aw)]),(6,[.p (eI BP.1),.p (eI BP.2.1),.p (eS BP.2.2.1),.p (eL ag BP.2.2.2.1),.p (eL eS BP.2.2.2.2)]),(7,[.p (eI Ca),.p (eI Cj),.p (eS Ci),.p (eL ag Ch),.p (eL eS Cg)]),(10,[.p (eI 0),.p (eI 0),.p (eS ([]:Bk)),.p (.val (.slice none 0 0)),.p (.val (.slice none 0 0))]),(11,[.p (eI 0),.p (eI 0),.p (eS ([]:Bk)),.p (.val (.slice none 0 0)),.p (.val (.slice none 0 0))])]))⟩ Z Z Z ⟨Z,Z,Z,Z,Z,Z,Z,Z,trivial⟩ (lt1 ⟨Z,Z,Z,Z,Z,Z,Z,Z,trivial⟩) Z Z Z Z ?_);refine ah (λ _=>.p (.agg [eI Ca,eI Cj,eS Ci,eL ag Ch,eL eS Cg])) Z Z Z (bS Z Y) (lt1 Z) (aj Z (af [(7,_)] ⟨.inl Z,trivial⟩ (λ sl Bs K hK=>ae Z (aN Z Z Z Z Z (Bs _ _ Z) Z Z Z hK)) ai)) (ah (λ _=>.p (eL aE l_0)) Z Z Z (bS Z Y) (lt1 Z) (aj Z (af [(0,_)] ⟨.inl Z,trivial⟩ (λ sl Bs K hK=>ae Z (aW Z Z Z (Bs _ _ Z) hK)) ai)) ?_);refine ah (λ _=>.p (eI i67)) Z Z Z (bS Z Y) (lt1 Z) (aj Z (af [(12,_)] ⟨.inl Z,trivial⟩ (λ sl Bs K hK=>ae Z (aW Z Z Z (Bs _ _ Z) hK)) ai)) (ah (λ _=>.rptr (ax.cs (lat l_0 i67))) Z Z Z (bS Z Y) (lt1 Z) (aj Z (af [(97,_),(98,_)] ⟨.inr ⟨1,_,Z,Z,Z⟩,.inr ⟨2,_,Z,Z,Z⟩,trivial⟩ (λ sl Bs K hK=>ae Z (dw (f:=aE) (l:=l_0) ax.cs Z Z Z Z Z Z (Bs _ _ Z) Z (Bs _ _ Z) HW ax.AD Y hK)) ai)) ?_);refine ah (λ _=>.rptr (List.drop 0 (ax.cs (lat l_0 i67)))) Z Z Z (bS Z Y) (lt1 Z) (aj Z (af [(99,_)] ⟨.inr ⟨3,_,Z,Z,Z⟩,trivial⟩ (λ sl Bs K hK=>ae Z (bG Z Z Z Z Z Z Z Z (Bs _ _ Z) hK)) ai)) (ah (λ _=>.p (eS ((lat l_0 i67).AA))) Z Z Z (bS Z Y) (lt1 Z) (aj Z (af [(100,_)] ⟨.inr ⟨4,_,Z,Z,Z⟩,trivial⟩ (λ sl Bs K hK=>ae Z (da Z Z Z Z Z (Bs _ _ Z) Z hK)) ai)) ?_);refine ah (λ _=>.p (eS x_3)) Z Z Z (bS Z Y) (lt1 Z) (aj Z (af [(3,_)] ⟨.inl Z,trivial⟩ (λ sl Bs K hK=>ae Z (aW Z Z Z (Bs _ _ Z) hK)) ai)) (ah (λ _=>.p (.agg (aa.cs Fu))) Z Z Z (bS Z Y) (lt1 Z) (aj Z (af [(102,_)] ⟨.inr ⟨6,_,Z,Z,Z⟩,trivial⟩ (λ sl Bs K hK=>ae Z (aP (eg x_3 _ e119) Z Z Z (am (Bs _ _ Z) aO) ⟨sr,trivial⟩ Tryz.call22 Z hK)) ai)) ?_);refine ah (λ _=>.p (.agg (aa.cs C8))) Z Z Z (bS Z Y) (lt1 Z) (aj Z (af [(96,_),(101,_),(103,_)] ⟨.inr ⟨0,_,Z,Z,Z⟩,.inr ⟨5,_,Z,Z,Z⟩,.inr ⟨7,_,Z,Z,Z⟩,trivial⟩ (λ sl Bs K hK=>ae Z (aP (kU _ (aa.mk Ca Cj Ci Ch Cg) ((lat l_0 i67).AA) Fu _ e121) Z Z Z (am (Bs _ _ Z) (am (Bs _ _ Z) (am (Bs _ _ Z) aO))) ⟨sr,sr,sr,trivial⟩ Tryz.call50 Z hK)) ai)) (cp [(7,_),(104,_)] Z ⟨.inl Z,.inr ⟨8,_,Z,Z,Z⟩,trivial⟩ Z (λ sl Bs K hK=>ae Z (ct Z Z Z (Bs _ _ Z) (Bs _ _ Z) Z Z Z (ph Z) hK)) ?_);refine eH (nx 1 Z ?_);exact eX _ (oi h2).symm (gE Z Z)
    exact nx 2 Z (eX _ (oi h2).symm (gE Z Z))
   refine nx 3 Z (fB [16,80,81] h3 Z (λ c108 h3=>?_) λ c108 h3=>?_)
   ·exact nx 5 Z (eX _ (oi h3).symm (gE Z Z))
   exact nx 5 Z (eX _ (oi h3).symm (gE Z Z))
  refine nx 1 Z (bd h3 λ o168 h4 h3=>?_);refine kN o168 (λ v169=>⟨[(0,.p (eL aE l_0)),(3,.p (eS x_3)),(4,.p (eS y_4)),(6,.ptr 6 0),(7,.ptr 7 0),(10,.ptr 10 0),(11,.ptr 11 0),(12,.p (eI i67)),(15,.ptr 15 0),(16,.p (eB Cp.2)),(17,.p (eB FR)),(70,.p (eB v169))],[(6,[.p (eI C7),.p (eI CV),.p (eS C6),.p (eL ag C5),.p (eL eS C4)]),(7,[.p (eI Ca),.p (eI Cj),.p (eS Ci),.p (eL ag Ch),.p (eL eS Cg)]),(10,[.p (eI 0),.p (eI 0),.p (eS ([]:Bk)),.p (.val (.slice none 0 0)),.p (.val (.slice none 0 0))]),(11,[.p (eI 0),.p (eI 0),.p (eS ([]:Bk)),.p (.val (.slice none 0 0)),.p (.val (.slice none 0 0))]),(15,(aa.cs Cp.1).map .p)]⟩) ?_ ?_
  ·refine nx 1 Z (fB [70] h3 Z (λ c97 h3=>?_) λ c97 h3=>?_)
   ·refine nx 1 Z (cc' h3 λ hk98 h3=>?_);refine bd h3 λ r99 GD h3=>bd h3 λ C' e102 h3=>mG (gE (t:=⟨[(0,.p (eL aE l_0)),(3,.p (eS x_3)),(4,.p (eS y_4)),(6,.ptr 6 0),(7,.ptr 7 0),(10,.ptr 10 0),(11,.ptr 11 0),(12,.p (eI i67)),(15,.ptr 15 0),(16,.p (eB Cp.2)),(17,.p (eB FR))],[(6,[.p (eI C7),.p (eI CV),.p (eS C6),.p (eL ag C5),.p (eL eS C4)]),(7,[.p (eI Ca),.p (eI Cj),.p (eS Ci),.p (eL ag Ch),.p (eL eS Cg)]),(10,[.p (eI 0),.p (eI 0),.p (eS ([]:Bk)),.p (.val (.slice none 0 0)),.p (.val (.slice none 0 0))]),(11,[.p (eI 0),.p (eI 0),.p (eS ([]:Bk)),.p (.val (.slice none 0 0)),.p (.val (.slice none 0 0))]),(15,(aa.cs Cp.1).map .p)]⟩) Z Z) (mS ⟨1,[9],(λ _=>.none),(λ _=>[(0,.p (eL aE l_0)),(3,.p (eS x_3)),(4,.p (eS y_4)),(6,.ptr 6 0),(7,.ptr 7 0),(10,.ptr 10 0),(11,.ptr 11 0),(12,.p (eI i67)),(15,.ptr 15 0),(16,.p (eB Cp.2)),(17,.p (eB FR))]),(by2 ([(6,[.p (eI C7),.p (eI CV),.p (eS C6),.p (eL ag C5),.p (eL eS C4)]),(7,[.p (eI Ca),.p (eI Cj),.p (eS Ci),.p (eL ag Ch),.p (eL eS Cg)]),(10,[.p (eI 0),.p (eI 0),.p (eS ([]:Bk)),.p (.val (.slice none 0 0)),.p (.val (.slice none 0 0))]),(11,[.p (eI 0),.p (eI 0),.p (eS ([]:Bk)),.p (.val (.slice none 0 0)),.p (.val (.slice none 0 0))]),(15,[.p (eI Cp.1.Av),.p (eI Cp.1.Ay),.p (eS Cp.1.Az),.p (eL ag Cp.1.Ar),.p (eL eS Cp.1.Aw)])]) ([(6,[.p (eI C'.Av),.p (eI C'.Ay),.p (eS C'.Az),.p (eL ag C'.Ar),.p (eL eS C'.Aw)]),(6,[.p (eI C7),.p (eI CV),.p (eS C6),.p (eL ag C5),.p (eL eS C4)]),(7,[.p (eI Ca),.p (eI Cj),.p (eS Ci),.p (eL ag Ch),.p (eL eS Cg)]),(10,[.p (eI 0),.p (eI 0),.p (eS ([]:Bk)),.p (.val (.slice none 0 0)),.p (.val (.slice none 0 0))]),(11,[.p (eI 0),.p (eI 0),.p (eS ([]:Bk)),.p (.val (.slice none 0 0)),.p (.val (.slice none 0 0))]),(15,[.p (eI Cp.1.Av),.p (eI Cp.1.Ay),.p (eS Cp.1.Az),.p (eL ag Cp.1.Ar),.p (eL eS Cp.1.Aw)])]))⟩ Z Z Z ⟨Z,Z,Z,Z,Z,Z,Z,Z,Z,Z,Z,trivial⟩ (lt1 ⟨Z,Z,Z,Z,Z,Z,Z,Z,Z,Z,Z,trivial⟩) Z Z Z Z ?_);refine ah (λ _=>.p (.agg [eI C7,eI CV,eS C6,eL ag C5,eL eS C4])) Z Z Z (bS Z Y) (lt1 Z) (aj Z (af [(6,_)] ⟨.inl Z,trivial⟩ (λ sl Bs K hK=>ae Z (aN Z Z Z Z Z (Bs _ _ Z) Z Z Z hK)) ai)) (ah (λ _=>.p (eL aE l_0)) Z Z Z (bS Z Y) (lt1 Z) (aj Z (af [(0,_)] ⟨.inl Z,trivial⟩ (λ sl Bs K hK=>ae Z (aW Z Z Z (Bs _ _ Z) hK)) ai)) ?_);refine ah (λ _=>.p (eI i67)) Z Z Z (bS Z Y) (lt1 Z) (aj Z (af [(12,_)] ⟨.inl Z,trivial⟩ (λ sl Bs K hK=>ae Z (aW Z Z Z (Bs _ _ Z) hK)) ai)) (ah (λ _=>.rptr (ax.cs (lat l_0 i67))) Z Z Z (bS Z Y) (lt1 Z) (aj Z (af [(72,_),(73,_)] ⟨.inr ⟨1,_,Z,Z,Z⟩,.inr ⟨2,_,Z,Z,Z⟩,trivial⟩ (λ sl Bs K hK=>ae Z (dw (f:=aE) (l:=l_0) ax.cs Z Z Z Z Z Z (Bs _ _ Z) Z (Bs _ _ Z) hk98 ax.AD Y hK)) ai)) ?_);refine ah (λ _=>.rptr (List.drop 0 (ax.cs (lat l_0 i67)))) Z Z Z (bS Z Y) (lt1 Z) (aj Z (af [(74,_)] ⟨.inr ⟨3,_,Z,Z,Z⟩,trivial⟩ (λ sl Bs K hK=>ae Z (bG Z Z Z Z Z Z Z Z (Bs _ _ Z) hK)) ai)) (ah (λ _=>.p (eS ((lat l_0 i67).AA))) Z Z Z (bS Z Y) (lt1 Z) (aj Z (af [(75,_)] ⟨.inr ⟨4,_,Z,Z,Z⟩,trivial⟩ (λ sl Bs K hK=>ae Z (da Z Z Z Z Z (Bs _ _ Z) Z hK)) ai)) ?_);refine ah (λ _=>.p (eS x_3)) Z Z Z (bS Z Y) (lt1 Z) (aj Z (af [(3,_)] ⟨.inl Z,trivial⟩ (λ sl Bs K hK=>ae Z (aW Z Z Z (Bs _ _ Z) hK)) ai)) (ah (λ _=>.p (.agg (aa.cs r99))) Z Z Z (bS Z Y) (lt1 Z) (aj Z (af [(77,_)] ⟨.inr ⟨6,_,Z,Z,Z⟩,trivial⟩ (λ sl Bs K hK=>ae Z (aP (eg x_3 _ GD) Z Z Z (am (Bs _ _ Z) aO) ⟨sr,trivial⟩ Tryz.call22 Z hK)) ai)) ?_);refine ah (λ _=>.p (.agg (aa.cs C'))) Z Z Z (bS Z Y) (lt1 Z) (aj Z (af [(71,_),(76,_),(78,_)] ⟨.inr ⟨0,_,Z,Z,Z⟩,.inr ⟨5,_,Z,Z,Z⟩,.inr ⟨7,_,Z,Z,Z⟩,trivial⟩ (λ sl Bs K hK=>ae Z (aP (kU _ (aa.mk C7 CV C6 C5 C4) ((lat l_0 i67).AA) r99 _ e102) Z Z Z (am (Bs _ _ Z) (am (Bs _ _ Z) (am (Bs _ _ Z) aO))) ⟨sr,sr,sr,trivial⟩ Tryz.call50 Z hK)) ai)) (cp [(6,_),(79,_)] Z ⟨.inl Z,.inr ⟨8,_,Z,Z,Z⟩,trivial⟩ Z (λ sl Bs K hK=>ae Z (ct Z Z Z (Bs _ _ Z) (Bs _ _ Z) Z Z Z (ph Z) hK)) ?_);refine eH (nx 1 Z ?_);exact eX _ (oi h3).symm (gE Z Z)
   exact nx 2 Z (eX _ (oi h3).symm (gE Z Z))
  refine nx 3 Z (fB [14,65,66] h4 Z (λ c95 h4=>?_) λ c95 h4=>?_)
  ·exact nx 5 Z (eX _ (oi h4).symm (gE Z Z))
  exact nx 5 Z (eX _ (oi h4).symm (gE Z Z))
 exact nx 2 Z (eXi _ (oi h1).symm (gE Z Z))
def fu (n:Nat)(BI:au)(s_1:ap)(x_2:Bk)(y_3:Bk):Option Bool :=((iR n BI).bind λ r1=>if (!r1)=true then some true else(iJ n s_1).bind λ r4=>if (!r4)=true then some true else(jv n x_2 y_3).bind λ r7=>some (!r7) : Option Bool).bind λ t9=>if t9=true then(gI n).bind λ Do=>some Do else(j9 n s_1.AB BI.AL BI.AI x_2 y_3).bind λ Dn=>((dO n BI s_1).bind λ DY=>(dO n (au.mk BI.AO BI.AR BI.AF BI.AP BI.A1 Dn.1 Dn.2 BI.fID BI.AN BI.A2 BI.Bf BI.A8 BI.AY BI.A9) s_1).bind λ DX=>(jy n DY DX).bind λ FT=>if FT=true then(gI n).bind λ Dv=>some Dv else some false : Option Bool).bind λ t24=>some t24
theorem kF (n:Nat)(BI:au)(s_1:ap)(x_2:Bk)(y_3:Bk)(r:Bool)(h0:fu n BI s_1 x_2 y_3=some r):aC Tryz.prog 6 [.agg (au.cs BI),.agg (ap.cs s_1),eS x_2,eS y_3] (·=.p (eB r)):=by
 unfold fu at h0;refine aT good Tryz.func6 Z Z Z λ w0=>mP (λ v:Bool=>.p (eB v)) ?_;refine nx 8 Z (bd h0 λ Hu h1 h0=>?_);refine kN Hu (λ v28=>⟨[(2,.p (eS x_2)),(3,.p (eS y_3)),(4,.ptr 4 0),(5,.ptr 5 0),(23,.p (eB v28))],[(4,(au.cs BI).map .p),(5,(ap.cs s_1).map .p)]⟩) ?_ ?_
 ·refine nx 1 Z (fB [23] h0 Z (λ DD h0=>?_) λ DD h0=>?_)
  ·refine nx 3 Z (bd h0 λ Do Eb h0=>?_);refine oK (lJ _  _ Eb) Z trivial Tryz.call9 Z (nx 3 Z ?_);exact mQ (oi h0) Z (sr)
  refine nx 18 Z (bd h0 λ Dn GA h0=>?_);refine oK (qT _ s_1.AB BI.AL BI.AI x_2 y_3 _ GA) Z ⟨sr,sr,sr,sr,sr,trivial⟩ Tryz.call19 Z (nx 9 Z ?_);refine bd h0 λ Ge h1 h0=>kN Ge (λ FQ=>⟨[(8,.p (eB FQ))],[]⟩) ?_ ?_
  ·exact nx 2 Z (mQ (oi h0) Z (sr))
  refine bd h1 λ DY F4 h1=>bd h1 λ DX G0 h1=>bd h1 λ FT e20 h1=>fB (p:=FT) [] h1 Z (λ Ey h1=>?_) λ Ey h1=>?_
  ·refine bd h1 λ Dv Gy h1=>mD [(4,.ptr 4 0),(5,.ptr 5 0),(9,.ptr 9 0)] Z ⟨Z,Z,Z,trivial⟩ Z (dR 2 Z ?_);refine dq (.p (eL eS DY)) [40,41] Z (λ _ e _ q=>ae Z (aP (dH _ BI s_1 _ F4) Z Z Z (am (e _ _ Z) (am (e _ _ Z) aO)) ⟨sr,sr,trivial⟩ Tryz.call13 Z q)) Z (dR 2 Z ?_);refine dq (.p (eL eS DX)) [43,44] Z (λ _ e _ q=>ae Z (aP (dH _ (au.mk BI.AO BI.AR BI.AF BI.AP BI.A1 Dn.1 Dn.2 BI.fID BI.AN BI.A2 BI.Bf BI.A8 BI.AY BI.A9) s_1 _ G0) Z Z Z (am (e _ _ Z) (am (e _ _ Z) aO)) ⟨sr,sr,trivial⟩ Tryz.call13 Z q)) Z (dq (.p (eB FT)) [42,45] Z (λ _ e _ q=>ae Z (aP (l5 _ DY DX _ e20) Z Z Z (am (e _ _ Z) (am (e _ _ Z) aO)) ⟨sr,sr,trivial⟩ Tryz.call12 Z q)) Z ?_);refine dL (Ey) Z (dq (.p (eB Dv)) [47] Z (λ _ e _ q=>ff (aP (lJ _  _ Gy) Z Z Z aO trivial Tryz.call9 Z q) Z Z (e _ _ Z) (rfl)) Z ?_);refine dR 2 Z (dE Z ?_);exact nx 1 Z (eX _ (oi h1).symm (gE Z Z))
  refine mD [(4,.ptr 4 0),(5,.ptr 5 0),(9,.ptr 9 0)] Z ⟨Z,Z,Z,trivial⟩ Z (dR 2 Z ?_);refine dq (.p (eL eS DY)) [40,41] Z (λ _ e _ q=>ae Z (aP (dH _ BI s_1 _ F4) Z Z Z (am (e _ _ Z) (am (e _ _ Z) aO)) ⟨sr,sr,trivial⟩ Tryz.call13 Z q)) Z (dR 2 Z ?_);refine dq (.p (eL eS DX)) [43,44] Z (λ _ e _ q=>ae Z (aP (dH _ (au.mk BI.AO BI.AR BI.AF BI.AP BI.A1 Dn.1 Dn.2 BI.fID BI.AN BI.A2 BI.Bf BI.A8 BI.AY BI.A9) s_1 _ G0) Z Z Z (am (e _ _ Z) (am (e _ _ Z) aO)) ⟨sr,sr,trivial⟩ Tryz.call13 Z q)) Z (dq (.p (eB FT)) [42,45] Z (λ _ e _ q=>ae Z (aP (l5 _ DY DX _ e20) Z Z Z (am (e _ _ Z) (am (e _ _ Z) aO)) ⟨sr,sr,trivial⟩ Tryz.call12 Z q)) Z ?_);refine dL (Ey) Z (dR 3 Z ?_);refine dE Z (nx 1 Z ?_);exact eX _ (oi h1).symm (gE Z Z)
 refine nx 2 Z (bd h1 λ r1 e2 h1=>?_);refine oK (oX _ BI _ e2) Z ⟨sr,trivial⟩ Tryz.call10 Z (nx 2 Z ?_);refine fB [12,13] h1 Z (λ c3 h1=>?_) λ c3 h1=>?_
 ·exact nx 11 Z (eX _ (oi h1).symm (gE Z Z))
 refine nx 1 Z (bd h1 λ r4 e5 h1=>?_);refine oK (o1 _ s_1 _ e5) Z ⟨sr,trivial⟩ Tryz.call11 Z (nx 3 Z ?_);refine fB [16,17,18] h1 Z (λ c6 h1=>?_) λ c6 h1=>?_
 ·exact nx 6 Z (eX _ (oi h1).symm (gE Z Z))
 refine nx 2 Z (bd h1 λ r7 e8 h1=>?_);refine oK (p8 _ x_2 y_3 _ e8) Z ⟨sr,sr,trivial⟩ Tryz.call18 Z (nx 3 Z ?_);exact eX _ (oi h1).symm (gE Z Z)
end Go.Ab.R06
end
section
namespace Go.Ab
set_option autoImplicit false
theorem cw {α:Type}{tt:List (Nat×TI)}{n t s b:Nat}{cs:List PV}{z:List Value}(f:α->PV)(Q:α->Prop){e:Nat}(hl:look tt t=some ⟨.slice e,s,b,z⟩)(h:WTf tt n t cs)
  (he:∀ m x,m<n->WTf tt m e x.cells->x=mkE (((look tt e).map (·.k.isAgg)).getD false) x.cells->∃ y,x=f y/\Q y):∃ l:List α,cs=[eL f l]/\l.length*(((look tt e).map (·.bytes)).getD 0)<=a6/\∀ y∈l,Q y:=by
 cases n with
 | zero=>exact h.elim
 | succ n=>
  obtain ⟨l,h1,h2,h3⟩:=xf f Q hl h (λ x k1 k2=>he n x O k1 k2);exact ⟨l,h1,h2.2,h3⟩
inductive aa.Bd:aa->Prop where
 | mk {x:aa} (bKind:inR x.Av) (bNum:inR x.Ay) (bStr:x.Az.length<=a6) (bItems:x.Ar.length*80<=a6) (eItems:∀ y∈x.Ar,aa.Bd y) (bKeys:x.Aw.length*16<=a6) (eKeys:∀ y∈x.Aw,y.length<=a6):aa.Bd x
theorem aa.Bd.bKind {x:aa}(h:aa.Bd x):inR x.Av:=by cases h; assumption
theorem aa.Bd.bNum {x:aa}(h:aa.Bd x):inR x.Ay:=by cases h; assumption
theorem aa.Bd.bStr {x:aa}(h:aa.Bd x):x.Az.length<=a6:=by cases h; assumption
theorem aa.Bd.bItems {x:aa}(h:aa.Bd x):x.Ar.length*80<=a6:=by cases h; assumption
theorem aa.Bd.eItems {x:aa}(h:aa.Bd x):∀ y∈x.Ar,aa.Bd y:=by cases h; assumption
theorem aa.Bd.bKeys {x:aa}(h:aa.Bd x):x.Aw.length*16<=a6:=by cases h; assumption
theorem aa.Bd.eKeys {x:aa}(h:aa.Bd x):∀ y∈x.Aw,y.length<=a6:=by cases h; assumption
theorem aa.dec (n:Nat):(∀ cs,WTf tt n 31 cs->∃ x:aa,cs=aa.cs x/\aa.Bd x):=by
 induction n using Nat.strongRecOn with
 | _ n ih=>
 have En:∀ m,m<n->(∀ cs,WTf tt m 31 cs->∃ x:aa,cs=aa.cs x/\aa.Bd x):=λ m hm=>(ih m hm)
 intro cs h
 cases n with
 | zero=>exact h.elim
 | succ n=>
 have h0:=ce rfl h;obtain ⟨c0,q0,rfl,k0,h0⟩:=ay h0;obtain ⟨c1,q1,rfl,k1,h0⟩:=ay h0;obtain ⟨c2,q2,rfl,k2,h0⟩:=ay h0;obtain ⟨c3,q3,rfl,k3,h0⟩:=ay h0;obtain ⟨c4,q4,rfl,k4,h0⟩:=ay h0;have e:q4=[]:=h0;subst e;obtain ⟨x1,rfl,b2⟩:=gu rfl k0;obtain ⟨x3,rfl,b4⟩:=gu rfl k1;obtain ⟨x5,rfl,b6⟩:=bY rfl k2
 obtain ⟨x7,rfl,b8⟩:=cw ag (λ y=>aa.Bd y) rfl k3 (λ m9 y10 hm11 k12 k13=>by
  obtain ⟨x14,F4,b15⟩:=En _ O _ k12;exact ⟨x14,(gX F4 k13).trans (aa.AH _).symm,b15⟩
  )
 obtain ⟨x17,rfl,b18⟩:=cw eS (λ y=>y.length<=a6) rfl k4 (λ m19 y20 hm21 k22 k23=>by
  obtain ⟨x24,e26,b25⟩:=bY rfl k22;exact ⟨x24,kY e26 k23,b25⟩
  )
 exact ⟨aa.mk x1 x3 x5 x7 x17,Z,.mk b2 b4 b6 b8.1 b8.2 b18.1 b18.2⟩
inductive au.Bd:au->Prop where
 | mk {x:au} (bAddr:x.AO.length<=a6) (bDeposed:x.AR.length<=a6) (bType:x.AF.length<=a6) (bAction:inR x.AP) (bReason:inR x.A1) (bBefore:aa.Bd x.AL) (bAfter:aa.Bd x.AI) (bID:x.fID.length<=a6) (bReplace:x.AN.length*16<=a6) (eReplace:∀ y∈x.AN,y.length<=a6) (bDeps:x.AY.length*16<=a6) (eDeps:∀ y∈x.AY,y.length<=a6) (bOldDeps:x.A9.length*16<=a6) (eOldDeps:∀ y∈x.A9,y.length<=a6):au.Bd x
theorem au.Bd.bAddr {x:au}(h:au.Bd x):x.AO.length<=a6:=by cases h; assumption
theorem au.Bd.bDeposed {x:au}(h:au.Bd x):x.AR.length<=a6:=by cases h; assumption
theorem au.Bd.bType {x:au}(h:au.Bd x):x.AF.length<=a6:=by cases h; assumption
theorem au.Bd.bAction {x:au}(h:au.Bd x):inR x.AP:=by cases h; assumption
theorem au.Bd.bReason {x:au}(h:au.Bd x):inR x.A1:=by cases h; assumption
theorem au.Bd.bBefore {x:au}(h:au.Bd x):aa.Bd x.AL:=by cases h; assumption
theorem au.Bd.bAfter {x:au}(h:au.Bd x):aa.Bd x.AI:=by cases h; assumption
theorem au.Bd.bID {x:au}(h:au.Bd x):x.fID.length<=a6:=by cases h; assumption
theorem au.Bd.bReplace {x:au}(h:au.Bd x):x.AN.length*16<=a6:=by cases h; assumption
theorem au.Bd.eReplace {x:au}(h:au.Bd x):∀ y∈x.AN,y.length<=a6:=by cases h; assumption
theorem au.Bd.bDeps {x:au}(h:au.Bd x):x.AY.length*16<=a6:=by cases h; assumption
theorem au.Bd.eDeps {x:au}(h:au.Bd x):∀ y∈x.AY,y.length<=a6:=by cases h; assumption
theorem au.Bd.bOldDeps {x:au}(h:au.Bd x):x.A9.length*16<=a6:=by cases h; assumption
theorem au.Bd.eOldDeps {x:au}(h:au.Bd x):∀ y∈x.A9,y.length<=a6:=by cases h; assumption
theorem au.dec (n:Nat):(∀ cs,WTf tt n 33 cs->∃ x:au,cs=au.cs x/\au.Bd x):=by
 induction n using Nat.strongRecOn with
 | _ n ih=>
 have Gn:∀ m,m<n->(∀ cs,WTf tt m 33 cs->∃ x:au,cs=au.cs x/\au.Bd x):=λ m hm=>(ih m hm)
 intro cs h
 cases n with
 | zero=>exact h.elim
 | succ n=>
 have h0:=ce rfl h;obtain ⟨c0,q0,rfl,k0,h0⟩:=ay h0;obtain ⟨c1,q1,rfl,k1,h0⟩:=ay h0;obtain ⟨c2,q2,rfl,k2,h0⟩:=ay h0;obtain ⟨c3,q3,rfl,k3,h0⟩:=ay h0;obtain ⟨c4,q4,rfl,k4,h0⟩:=ay h0;obtain ⟨c5,q5,rfl,k5,h0⟩:=ay h0;obtain ⟨c6,q6,rfl,k6,h0⟩:=ay h0;obtain ⟨c7,q7,rfl,k7,h0⟩:=ay h0;obtain ⟨c8,q8,rfl,k8,h0⟩:=ay h0;obtain ⟨c9,q9,rfl,k9,h0⟩:=ay h0;obtain ⟨DD,q10,rfl,k10,h0⟩:=ay h0;obtain ⟨DC,q11,rfl,k11,h0⟩:=ay h0;obtain ⟨Eg,q12,rfl,k12,h0⟩:=ay h0;obtain ⟨DT,Gc,rfl,k13,h0⟩:=ay h0;have e:Gc=[]:=h0;subst e;obtain ⟨x27,rfl,b28⟩:=bY rfl k0;obtain ⟨x29,rfl,b30⟩:=bY rfl k1;obtain ⟨x31,rfl,b32⟩:=bY rfl k2;obtain ⟨x33,rfl,b34⟩:=gu rfl k3;obtain ⟨x35,rfl,b36⟩:=gu rfl k4;obtain ⟨x37,rfl,b38⟩:=aa.dec _ _ k5;obtain ⟨x39,rfl,b40⟩:=aa.dec _ _ k6;obtain ⟨x41,rfl,b42⟩:=bY rfl k7
 obtain ⟨x43,rfl,b44⟩:=cw eS (λ y=>y.length<=a6) rfl k8 (λ m45 y46 hm47 k48 k49=>by
  obtain ⟨x50,e52,b51⟩:=bY rfl k48;exact ⟨x50,kY e52 k49,b51⟩
  )
 obtain ⟨x53,rfl⟩:=eF rfl k9;obtain ⟨x55,rfl⟩:=eF rfl k10;obtain ⟨x57,rfl⟩:=eF rfl k11
 obtain ⟨x59,rfl,b60⟩:=cw eS (λ y=>y.length<=a6) rfl k12 (λ m61 y62 hm63 k64 k65=>by
  obtain ⟨x66,e68,b67⟩:=bY rfl k64;exact ⟨x66,kY e68 k65,b67⟩
  )
 obtain ⟨x69,rfl,b70⟩:=cw eS (λ y=>y.length<=a6) rfl k13 (λ m71 y72 hm73 k74 k75=>by
  obtain ⟨x76,e78,b77⟩:=bY rfl k74;exact ⟨x76,kY e78 k75,b77⟩
  )
 exact ⟨au.mk x27 x29 x31 x33 x35 x37 x39 x41 x43 x53 x55 x57 x59 x69,Z,.mk b28 b30 b32 b34 b36 b38 b40 b42 b44.1 b44.2 b60.1 b60.2 b70.1 b70.2⟩
inductive ak.Bd:ak->Prop where
 | mk {x:ak} (bKind:inR x.Av) (bElems:x.AG.length*56<=a6) (eElems:∀ y∈x.AG,ak.Bd y) (bNames:x.AC.length*16<=a6) (eNames:∀ y∈x.AC,y.length<=a6):ak.Bd x
theorem ak.Bd.bKind {x:ak}(h:ak.Bd x):inR x.Av:=by cases h; assumption
theorem ak.Bd.bElems {x:ak}(h:ak.Bd x):x.AG.length*56<=a6:=by cases h; assumption
theorem ak.Bd.eElems {x:ak}(h:ak.Bd x):∀ y∈x.AG,ak.Bd y:=by cases h; assumption
theorem ak.Bd.bNames {x:ak}(h:ak.Bd x):x.AC.length*16<=a6:=by cases h; assumption
theorem ak.Bd.eNames {x:ak}(h:ak.Bd x):∀ y∈x.AC,y.length<=a6:=by cases h; assumption
theorem ak.dec (n:Nat):(∀ cs,WTf tt n 104 cs->∃ x:ak,cs=ak.cs x/\ak.Bd x):=by
 induction n using Nat.strongRecOn with
 | _ n ih=>
 have EY:∀ m,m<n->(∀ cs,WTf tt m 104 cs->∃ x:ak,cs=ak.cs x/\ak.Bd x):=λ m hm=>(ih m hm)
 intro cs h
 cases n with
 | zero=>exact h.elim
 | succ n=>
 have h0:=ce rfl h;obtain ⟨c0,q0,rfl,k0,h0⟩:=ay h0;obtain ⟨c1,q1,rfl,k1,h0⟩:=ay h0;obtain ⟨c2,q2,rfl,k2,h0⟩:=ay h0;have e:q2=[]:=h0;subst e;obtain ⟨x79,rfl,b80⟩:=gu rfl k0
 obtain ⟨x81,rfl,b82⟩:=cw aA (λ y=>ak.Bd y) rfl k1 (λ m83 y84 hm85 k86 k87=>by
  obtain ⟨x88,e90,b89⟩:=EY _ O _ k86;exact ⟨x88,(gX e90 k87).trans (ak.AH _).symm,b89⟩
  )
 obtain ⟨x91,rfl,b92⟩:=cw eS (λ y=>y.length<=a6) rfl k2 (λ m93 y94 hm95 k96 k97=>by
  obtain ⟨x98,GD,b99⟩:=bY rfl k96;exact ⟨x98,kY GD k97,b99⟩
  )
 exact ⟨ak.mk x79 x81 x91,Z,.mk b80 b82.1 b82.2 b92.1 b92.2⟩
inductive ax.Bd:ax->Prop where
 | mk {x:ax} (bName:x.AA.length<=a6) (bType:ak.Bd x.AF) (bMode:inR x.AZ):ax.Bd x
theorem ax.Bd.bName {x:ax}(h:ax.Bd x):x.AA.length<=a6:=by cases h; assumption
theorem ax.Bd.bType {x:ax}(h:ax.Bd x):ak.Bd x.AF:=by cases h; assumption
theorem ax.Bd.bMode {x:ax}(h:ax.Bd x):inR x.AZ:=by cases h; assumption
theorem ax.dec (n:Nat):(∀ cs,WTf tt n 107 cs->∃ x:ax,cs=ax.cs x/\ax.Bd x):=by
 induction n using Nat.strongRecOn with
 | _ n ih=>
 have HF:∀ m,m<n->(∀ cs,WTf tt m 107 cs->∃ x:ax,cs=ax.cs x/\ax.Bd x):=λ m hm=>(ih m hm)
 intro cs h
 cases n with
 | zero=>exact h.elim
 | succ n=>
 have h0:=ce rfl h;obtain ⟨c0,q0,rfl,k0,h0⟩:=ay h0;obtain ⟨c1,q1,rfl,k1,h0⟩:=ay h0;obtain ⟨c2,q2,rfl,k2,h0⟩:=ay h0;obtain ⟨c3,q3,rfl,k3,h0⟩:=ay h0;obtain ⟨c4,q4,rfl,k4,h0⟩:=ay h0;obtain ⟨c5,q5,rfl,k5,h0⟩:=ay h0;have e:q5=[]:=h0;subst e;obtain ⟨x101,rfl,b102⟩:=bY rfl k0;obtain ⟨x103,rfl,b104⟩:=ak.dec _ _ k1;obtain ⟨x105,rfl,b106⟩:=gu rfl k2;obtain ⟨x107,rfl⟩:=eF rfl k3;obtain ⟨x109,rfl⟩:=eF rfl k4;obtain ⟨x111,rfl⟩:=eF rfl k5;exact ⟨ax.mk x101 x103 x105 x107 x109 x111,rfl,.mk b102 b104 b106⟩
inductive aL.Bd:aL->Prop where
 | mk {x:aL} (bName:x.AA.length<=a6) (bMin:inR x.A3) (bMax:inR x.A4) (bAttrs:x.AB.length*88<=a6) (eAttrs:∀ y∈x.AB,ax.Bd y):aL.Bd x
theorem aL.Bd.bName {x:aL}(h:aL.Bd x):x.AA.length<=a6:=by cases h; assumption
theorem aL.Bd.bMin {x:aL}(h:aL.Bd x):inR x.A3:=by cases h; assumption
theorem aL.Bd.bMax {x:aL}(h:aL.Bd x):inR x.A4:=by cases h; assumption
theorem aL.Bd.bAttrs {x:aL}(h:aL.Bd x):x.AB.length*88<=a6:=by cases h; assumption
theorem aL.Bd.eAttrs {x:aL}(h:aL.Bd x):∀ y∈x.AB,ax.Bd y:=by cases h; assumption
theorem aL.dec (n:Nat):(∀ cs,WTf tt n 71 cs->∃ x:aL,cs=aL.cs x/\aL.Bd x):=by
 induction n using Nat.strongRecOn with
 | _ n ih=>
 have Gm:∀ m,m<n->(∀ cs,WTf tt m 71 cs->∃ x:aL,cs=aL.cs x/\aL.Bd x):=λ m hm=>(ih m hm)
 intro cs h
 cases n with
 | zero=>exact h.elim
 | succ n=>
 have h0:=ce rfl h;obtain ⟨c0,q0,rfl,k0,h0⟩:=ay h0;obtain ⟨c1,q1,rfl,k1,h0⟩:=ay h0;obtain ⟨c2,q2,rfl,k2,h0⟩:=ay h0;obtain ⟨c3,q3,rfl,k3,h0⟩:=ay h0;obtain ⟨c4,q4,rfl,k4,h0⟩:=ay h0;have e:q4=[]:=h0;subst e;obtain ⟨x113,rfl,b114⟩:=bY rfl k0;obtain ⟨x115,rfl,b116⟩:=gu rfl k1;obtain ⟨x117,rfl,b118⟩:=gu rfl k2
 obtain ⟨x119,rfl,b120⟩:=cw aE (λ y=>ax.Bd y) rfl k3 (λ m121 y122 hm123 k124 k125=>by
  obtain ⟨x126,e128,b127⟩:=ax.dec _ _ k124;exact ⟨x126,(gX e128 k125).trans (ax.AH _).symm,b127⟩
  )
 obtain ⟨x129,rfl⟩:=eF rfl k4;exact ⟨aL.mk x113 x115 x117 x119 x129,rfl,.mk b114 b116 b118 b120.1 b120.2⟩
inductive ap.Bd:ap->Prop where
 | mk {x:ap} (bAttrs:x.AB.length*88<=a6) (eAttrs:∀ y∈x.AB,ax.Bd y) (bNested:x.Ax.length*64<=a6) (eNested:∀ y∈x.Ax,aL.Bd y):ap.Bd x
theorem ap.Bd.bAttrs {x:ap}(h:ap.Bd x):x.AB.length*88<=a6:=by cases h; assumption
theorem ap.Bd.eAttrs {x:ap}(h:ap.Bd x):∀ y∈x.AB,ax.Bd y:=by cases h; assumption
theorem ap.Bd.bNested {x:ap}(h:ap.Bd x):x.Ax.length*64<=a6:=by cases h; assumption
theorem ap.Bd.eNested {x:ap}(h:ap.Bd x):∀ y∈x.Ax,aL.Bd y:=by cases h; assumption
theorem ap.dec (n:Nat):(∀ cs,WTf tt n 37 cs->∃ x:ap,cs=ap.cs x/\ap.Bd x):=by
 induction n using Nat.strongRecOn with
 | _ n ih=>
 have Gl:∀ m,m<n->(∀ cs,WTf tt m 37 cs->∃ x:ap,cs=ap.cs x/\ap.Bd x):=λ m hm=>(ih m hm)
 intro cs h
 cases n with
 | zero=>exact h.elim
 | succ n=>
 have h0:=ce rfl h;obtain ⟨c0,q0,rfl,k0,h0⟩:=ay h0;obtain ⟨c1,q1,rfl,k1,h0⟩:=ay h0;have e:q1=[]:=h0;subst e
 obtain ⟨x131,rfl,b132⟩:=cw aE (λ y=>ax.Bd y) rfl k0 (λ m133 y134 hm135 k136 k137=>by
  obtain ⟨x138,e140,b139⟩:=ax.dec _ _ k136;exact ⟨x138,(gX e140 k137).trans (ax.AH _).symm,b139⟩
  )
 obtain ⟨x141,rfl,b142⟩:=cw aX (λ y=>aL.Bd y) rfl k1 (λ m143 y144 hm145 k146 k147=>by
  obtain ⟨x148,e150,b149⟩:=aL.dec _ _ k146;exact ⟨x148,(gX e150 k147).trans (aL.AH _).symm,b149⟩
  )
 exact ⟨ap.mk x131 x141,Z,.mk b132.1 b132.2 b142.1 b142.2⟩
inductive aD.Bd:aD->Prop where
 | mk {x:aD} (bTargets:x.Bb.length*16<=a6) (eTargets:∀ y∈x.Bb,y.length<=a6) (bReplace:x.AN.length*16<=a6) (eReplace:∀ y∈x.AN,y.length<=a6) (bRemote:aa.Bd x.AU) (bVars:aa.Bd x.AW):aD.Bd x
theorem aD.Bd.bTargets {x:aD}(h:aD.Bd x):x.Bb.length*16<=a6:=by cases h; assumption
theorem aD.Bd.eTargets {x:aD}(h:aD.Bd x):∀ y∈x.Bb,y.length<=a6:=by cases h; assumption
theorem aD.Bd.bReplace {x:aD}(h:aD.Bd x):x.AN.length*16<=a6:=by cases h; assumption
theorem aD.Bd.eReplace {x:aD}(h:aD.Bd x):∀ y∈x.AN,y.length<=a6:=by cases h; assumption
theorem aD.Bd.bRemote {x:aD}(h:aD.Bd x):aa.Bd x.AU:=by cases h; assumption
theorem aD.Bd.bVars {x:aD}(h:aD.Bd x):aa.Bd x.AW:=by cases h; assumption
theorem aD.dec (n:Nat):(∀ cs,WTf tt n 44 cs->∃ x:aD,cs=aD.cs x/\aD.Bd x):=by
 induction n using Nat.strongRecOn with
 | _ n ih=>
 have EG:∀ m,m<n->(∀ cs,WTf tt m 44 cs->∃ x:aD,cs=aD.cs x/\aD.Bd x):=λ m hm=>(ih m hm)
 intro cs h
 cases n with
 | zero=>exact h.elim
 | succ n=>
 have h0:=ce rfl h;obtain ⟨c0,q0,rfl,k0,h0⟩:=ay h0;obtain ⟨c1,q1,rfl,k1,h0⟩:=ay h0;obtain ⟨c2,q2,rfl,k2,h0⟩:=ay h0;obtain ⟨c3,q3,rfl,k3,h0⟩:=ay h0;obtain ⟨c4,q4,rfl,k4,h0⟩:=ay h0;obtain ⟨c5,q5,rfl,k5,h0⟩:=ay h0;have e:q5=[]:=h0;subst e;obtain ⟨x151,rfl⟩:=eF rfl k0;obtain ⟨x153,rfl⟩:=eF rfl k1
 obtain ⟨x155,rfl,b156⟩:=cw eS (λ y=>y.length<=a6) rfl k2 (λ m157 y158 hm159 k160 k161=>by
  obtain ⟨x162,e164,b163⟩:=bY rfl k160;exact ⟨x162,kY e164 k161,b163⟩
  )
 obtain ⟨x165,rfl,b166⟩:=cw eS (λ y=>y.length<=a6) rfl k3 (λ m167 y168 hm169 k170 k171=>by
  obtain ⟨x172,e174,b173⟩:=bY rfl k170;exact ⟨x172,kY e174 k171,b173⟩
  )
 obtain ⟨x175,rfl,b176⟩:=aa.dec _ _ k4;obtain ⟨x177,rfl,b178⟩:=aa.dec _ _ k5;exact ⟨aD.mk x151 x153 x155 x165 x175 x177,rfl,.mk b156.1 b156.2 b166.1 b166.2 b176 b178⟩
inductive aQ.Bd:aQ->Prop where
 | mk {x:aQ} (bAddr:x.AO.length<=a6) (bDeposed:x.AR.length<=a6) (bID:x.fID.length<=a6) (bType:x.AF.length<=a6) (bAttrs:aa.Bd x.AB) (bVersion:inR x.Bo) (bDeps:x.AY.length*16<=a6) (eDeps:∀ y∈x.AY,y.length<=a6):aQ.Bd x
theorem aQ.Bd.bAddr {x:aQ}(h:aQ.Bd x):x.AO.length<=a6:=by cases h; assumption
theorem aQ.Bd.bDeposed {x:aQ}(h:aQ.Bd x):x.AR.length<=a6:=by cases h; assumption
theorem aQ.Bd.bID {x:aQ}(h:aQ.Bd x):x.fID.length<=a6:=by cases h; assumption
theorem aQ.Bd.bType {x:aQ}(h:aQ.Bd x):x.AF.length<=a6:=by cases h; assumption
theorem aQ.Bd.bAttrs {x:aQ}(h:aQ.Bd x):aa.Bd x.AB:=by cases h; assumption
theorem aQ.Bd.bVersion {x:aQ}(h:aQ.Bd x):inR x.Bo:=by cases h; assumption
theorem aQ.Bd.bDeps {x:aQ}(h:aQ.Bd x):x.AY.length*16<=a6:=by cases h; assumption
theorem aQ.Bd.eDeps {x:aQ}(h:aQ.Bd x):∀ y∈x.AY,y.length<=a6:=by cases h; assumption
theorem aQ.dec (n:Nat):(∀ cs,WTf tt n 273 cs->∃ x:aQ,cs=aQ.cs x/\aQ.Bd x):=by
 induction n using Nat.strongRecOn with
 | _ n ih=>
 have FB:∀ m,m<n->(∀ cs,WTf tt m 273 cs->∃ x:aQ,cs=aQ.cs x/\aQ.Bd x):=λ m hm=>(ih m hm)
 intro cs h
 cases n with
 | zero=>exact h.elim
 | succ n=>
 have h0:=ce rfl h;obtain ⟨c0,q0,rfl,k0,h0⟩:=ay h0;obtain ⟨c1,q1,rfl,k1,h0⟩:=ay h0;obtain ⟨c2,q2,rfl,k2,h0⟩:=ay h0;obtain ⟨c3,q3,rfl,k3,h0⟩:=ay h0;obtain ⟨c4,q4,rfl,k4,h0⟩:=ay h0;obtain ⟨c5,q5,rfl,k5,h0⟩:=ay h0;obtain ⟨c6,q6,rfl,k6,h0⟩:=ay h0;obtain ⟨c7,q7,rfl,k7,h0⟩:=ay h0;obtain ⟨c8,q8,rfl,k8,h0⟩:=ay h0;have e:q8=[]:=h0;subst e;obtain ⟨x179,rfl,b180⟩:=bY rfl k0;obtain ⟨x181,rfl,b182⟩:=bY rfl k1;obtain ⟨x183,rfl,b184⟩:=bY rfl k2;obtain ⟨x185,rfl,b186⟩:=bY rfl k3;obtain ⟨x187,rfl,b188⟩:=aa.dec _ _ k4;obtain ⟨x189,rfl,b190⟩:=gu rfl k5;obtain ⟨x191,rfl⟩:=eF rfl k6;obtain ⟨x193,rfl⟩:=eF rfl k7
 obtain ⟨x195,rfl,b196⟩:=cw eS (λ y=>y.length<=a6) rfl k8 (λ m197 y198 hm199 k200 k201=>by
  obtain ⟨x202,e204,b203⟩:=bY rfl k200;exact ⟨x202,kY e204 k201,b203⟩
  )
 exact ⟨aQ.mk x179 x181 x183 x185 x187 x189 x191 x193 x195,Z,.mk b180 b182 b184 b186 b188 b190 b196.1 b196.2⟩
inductive bL.Bd:bL->Prop where
 | mk {x:bL} (bAddr:x.AO.length<=a6) (bType:x.AF.length<=a6) (bToken:x.Bp.length<=a6):bL.Bd x
theorem bL.Bd.bAddr {x:bL}(h:bL.Bd x):x.AO.length<=a6:=by cases h; assumption
theorem bL.Bd.bType {x:bL}(h:bL.Bd x):x.AF.length<=a6:=by cases h; assumption
theorem bL.Bd.bToken {x:bL}(h:bL.Bd x):x.Bp.length<=a6:=by cases h; assumption
theorem bL.dec (n:Nat):(∀ cs,WTf tt n 275 cs->∃ x:bL,cs=bL.cs x/\bL.Bd x):=by
 induction n using Nat.strongRecOn with
 | _ n ih=>
 have F2:∀ m,m<n->(∀ cs,WTf tt m 275 cs->∃ x:bL,cs=bL.cs x/\bL.Bd x):=λ m hm=>(ih m hm)
 intro cs h
 cases n with
 | zero=>exact h.elim
 | succ n=>
 have h0:=ce rfl h;obtain ⟨c0,q0,rfl,k0,h0⟩:=ay h0;obtain ⟨c1,q1,rfl,k1,h0⟩:=ay h0;obtain ⟨c2,q2,rfl,k2,h0⟩:=ay h0;have e:q2=[]:=h0;subst e;obtain ⟨x205,rfl,b206⟩:=bY rfl k0;obtain ⟨x207,rfl,b208⟩:=bY rfl k1;obtain ⟨x209,rfl,b210⟩:=bY rfl k2;exact ⟨bL.mk x205 x207 x209,rfl,.mk b206 b208 b210⟩
inductive aV.Bd:aV->Prop where
 | mk {x:aV} (bName:x.AA.length<=a6) (bValue:aa.Bd x.A0):aV.Bd x
theorem aV.Bd.bName {x:aV}(h:aV.Bd x):x.AA.length<=a6:=by cases h; assumption
theorem aV.Bd.bValue {x:aV}(h:aV.Bd x):aa.Bd x.A0:=by cases h; assumption
theorem aV.dec (n:Nat):(∀ cs,WTf tt n 277 cs->∃ x:aV,cs=aV.cs x/\aV.Bd x):=by
 induction n using Nat.strongRecOn with
 | _ n ih=>
 have EF:∀ m,m<n->(∀ cs,WTf tt m 277 cs->∃ x:aV,cs=aV.cs x/\aV.Bd x):=λ m hm=>(ih m hm)
 intro cs h
 cases n with
 | zero=>exact h.elim
 | succ n=>
 have h0:=ce rfl h;obtain ⟨c0,q0,rfl,k0,h0⟩:=ay h0;obtain ⟨c1,q1,rfl,k1,h0⟩:=ay h0;obtain ⟨c2,q2,rfl,k2,h0⟩:=ay h0;have e:q2=[]:=h0;subst e;obtain ⟨x211,rfl,b212⟩:=bY rfl k0;obtain ⟨x213,rfl,b214⟩:=aa.dec _ _ k1;obtain ⟨x215,rfl⟩:=eF rfl k2;exact ⟨aV.mk x211 x213 x215,rfl,.mk b212 b214⟩
inductive bO.Bd:bO->Prop where
 | mk {x:bO} (bLineage:x.Bg.length<=a6) (bSerial:inR x.Bh) (bInstances:x.Bc.length*184<=a6) (eInstances:∀ y∈x.Bc,aQ.Bd y) (bPending:x.Be.length*48<=a6) (ePending:∀ y∈x.Be,bL.Bd y) (bOutputs:x.AE.length*104<=a6) (eOutputs:∀ y∈x.AE,aV.Bd y):bO.Bd x
theorem bO.Bd.bLineage {x:bO}(h:bO.Bd x):x.Bg.length<=a6:=by cases h; assumption
theorem bO.Bd.bSerial {x:bO}(h:bO.Bd x):inR x.Bh:=by cases h; assumption
theorem bO.Bd.bInstances {x:bO}(h:bO.Bd x):x.Bc.length*184<=a6:=by cases h; assumption
theorem bO.Bd.eInstances {x:bO}(h:bO.Bd x):∀ y∈x.Bc,aQ.Bd y:=by cases h; assumption
theorem bO.Bd.bPending {x:bO}(h:bO.Bd x):x.Be.length*48<=a6:=by cases h; assumption
theorem bO.Bd.ePending {x:bO}(h:bO.Bd x):∀ y∈x.Be,bL.Bd y:=by cases h; assumption
theorem bO.Bd.bOutputs {x:bO}(h:bO.Bd x):x.AE.length*104<=a6:=by cases h; assumption
theorem bO.Bd.eOutputs {x:bO}(h:bO.Bd x):∀ y∈x.AE,aV.Bd y:=by cases h; assumption
theorem bO.dec (n:Nat):(∀ cs,WTf tt n 49 cs->∃ x:bO,cs=bO.cs x/\bO.Bd x):=by
 induction n using Nat.strongRecOn with
 | _ n ih=>
 have GW:∀ m,m<n->(∀ cs,WTf tt m 49 cs->∃ x:bO,cs=bO.cs x/\bO.Bd x):=λ m hm=>(ih m hm)
 intro cs h
 cases n with
 | zero=>exact h.elim
 | succ n=>
 have h0:=ce rfl h;obtain ⟨c0,q0,rfl,k0,h0⟩:=ay h0;obtain ⟨c1,q1,rfl,k1,h0⟩:=ay h0;obtain ⟨c2,q2,rfl,k2,h0⟩:=ay h0;obtain ⟨c3,q3,rfl,k3,h0⟩:=ay h0;obtain ⟨c4,q4,rfl,k4,h0⟩:=ay h0;have e:q4=[]:=h0;subst e;obtain ⟨x217,rfl,b218⟩:=bY rfl k0;obtain ⟨x219,rfl,b220⟩:=gu rfl k1
 obtain ⟨x221,rfl,b222⟩:=cw ii (λ y=>aQ.Bd y) rfl k2 (λ m223 y224 hm225 k226 k227=>by
  obtain ⟨x228,e230,b229⟩:=aQ.dec _ _ k226;exact ⟨x228,(gX e230 k227).trans (aQ.AH _).symm,b229⟩
  )
 obtain ⟨x231,rfl,b232⟩:=cw jk (λ y=>bL.Bd y) rfl k3 (λ m233 y234 hm235 k236 k237=>by
  obtain ⟨x238,e240,b239⟩:=bL.dec _ _ k236;exact ⟨x238,(gX e240 k237).trans (bL.AH _).symm,b239⟩
  )
 obtain ⟨x241,rfl,b242⟩:=cw fy (λ y=>aV.Bd y) rfl k4 (λ m243 y244 hm245 k246 k247=>by
  obtain ⟨x248,e250,b249⟩:=aV.dec _ _ k246;exact ⟨x248,(gX e250 k247).trans (aV.AH _).symm,b249⟩
  )
 exact ⟨bO.mk x217 x219 x221 x231 x241,Z,.mk b218 b220 b222.1 b222.2 b232.1 b232.2 b242.1 b242.2⟩
inductive cq.Bd:cq->Prop where
 | mk {x:cq} (bAddr:x.AO.length<=a6) (bDeposed:x.AR.length<=a6) (bBefore:aa.Bd x.AL) (bAfter:aa.Bd x.AI):cq.Bd x
theorem cq.Bd.bAddr {x:cq}(h:cq.Bd x):x.AO.length<=a6:=by cases h; assumption
theorem cq.Bd.bDeposed {x:cq}(h:cq.Bd x):x.AR.length<=a6:=by cases h; assumption
theorem cq.Bd.bBefore {x:cq}(h:cq.Bd x):aa.Bd x.AL:=by cases h; assumption
theorem cq.Bd.bAfter {x:cq}(h:cq.Bd x):aa.Bd x.AI:=by cases h; assumption
theorem cq.dec (n:Nat):(∀ cs,WTf tt n 85 cs->∃ x:cq,cs=cq.cs x/\cq.Bd x):=by
 induction n using Nat.strongRecOn with
 | _ n ih=>
 have GX:∀ m,m<n->(∀ cs,WTf tt m 85 cs->∃ x:cq,cs=cq.cs x/\cq.Bd x):=λ m hm=>(ih m hm)
 intro cs h
 cases n with
 | zero=>exact h.elim
 | succ n=>
 have h0:=ce rfl h;obtain ⟨c0,q0,rfl,k0,h0⟩:=ay h0;obtain ⟨c1,q1,rfl,k1,h0⟩:=ay h0;obtain ⟨c2,q2,rfl,k2,h0⟩:=ay h0;obtain ⟨c3,q3,rfl,k3,h0⟩:=ay h0;obtain ⟨c4,q4,rfl,k4,h0⟩:=ay h0;have e:q4=[]:=h0;subst e;obtain ⟨x251,rfl,b252⟩:=bY rfl k0;obtain ⟨x253,rfl,b254⟩:=bY rfl k1;obtain ⟨x255,rfl⟩:=eF rfl k2;obtain ⟨x257,rfl,b258⟩:=aa.dec _ _ k3;obtain ⟨x259,rfl,b260⟩:=aa.dec _ _ k4;exact ⟨cq.mk x251 x253 x255 x257 x259,rfl,.mk b252 b254 b258 b260⟩
inductive aH.Bd:aH->Prop where
 | mk {x:aH} (bName:x.AA.length<=a6) (bBefore:aa.Bd x.AL) (bAfter:aa.Bd x.AI):aH.Bd x
theorem aH.Bd.bName {x:aH}(h:aH.Bd x):x.AA.length<=a6:=by cases h; assumption
theorem aH.Bd.bBefore {x:aH}(h:aH.Bd x):aa.Bd x.AL:=by cases h; assumption
theorem aH.Bd.bAfter {x:aH}(h:aH.Bd x):aa.Bd x.AI:=by cases h; assumption
theorem aH.dec (n:Nat):(∀ cs,WTf tt n 87 cs->∃ x:aH,cs=aH.cs x/\aH.Bd x):=by
 induction n using Nat.strongRecOn with
 | _ n ih=>
 have Ep:∀ m,m<n->(∀ cs,WTf tt m 87 cs->∃ x:aH,cs=aH.cs x/\aH.Bd x):=λ m hm=>(ih m hm)
 intro cs h
 cases n with
 | zero=>exact h.elim
 | succ n=>
 have h0:=ce rfl h;obtain ⟨c0,q0,rfl,k0,h0⟩:=ay h0;obtain ⟨c1,q1,rfl,k1,h0⟩:=ay h0;obtain ⟨c2,q2,rfl,k2,h0⟩:=ay h0;obtain ⟨c3,q3,rfl,k3,h0⟩:=ay h0;have e:q3=[]:=h0;subst e;obtain ⟨x261,rfl,b262⟩:=bY rfl k0;obtain ⟨x263,rfl,b264⟩:=aa.dec _ _ k1;obtain ⟨x265,rfl,b266⟩:=aa.dec _ _ k2;obtain ⟨x267,rfl⟩:=eF rfl k3;exact ⟨aH.mk x261 x263 x265 x267,rfl,.mk b262 b264 b266⟩
inductive bu.Bd:bu->Prop where
 | mk {x:bu} (bAddr:x.AO.length<=a6) (bValue:aa.Bd x.A0):bu.Bd x
theorem bu.Bd.bAddr {x:bu}(h:bu.Bd x):x.AO.length<=a6:=by cases h; assumption
theorem bu.Bd.bValue {x:bu}(h:bu.Bd x):aa.Bd x.A0:=by cases h; assumption
theorem bu.dec (n:Nat):(∀ cs,WTf tt n 279 cs->∃ x:bu,cs=bu.cs x/\bu.Bd x):=by
 induction n using Nat.strongRecOn with
 | _ n ih=>
 have Fl:∀ m,m<n->(∀ cs,WTf tt m 279 cs->∃ x:bu,cs=bu.cs x/\bu.Bd x):=λ m hm=>(ih m hm)
 intro cs h
 cases n with
 | zero=>exact h.elim
 | succ n=>
 have h0:=ce rfl h;obtain ⟨c0,q0,rfl,k0,h0⟩:=ay h0;obtain ⟨c1,q1,rfl,k1,h0⟩:=ay h0;have e:q1=[]:=h0;subst e;obtain ⟨x269,rfl,b270⟩:=bY rfl k0;obtain ⟨x271,rfl,b272⟩:=aa.dec _ _ k1;exact ⟨bu.mk x269 x271,rfl,.mk b270 b272⟩
inductive d7.Bd:d7->Prop where
 | mk {x:d7} (bFrom:x.A5.length<=a6) (bTo:x.fTo.length<=a6) (bAt:inR x.fAt):d7.Bd x
theorem d7.Bd.bFrom {x:d7}(h:d7.Bd x):x.A5.length<=a6:=by cases h; assumption
theorem d7.Bd.bTo {x:d7}(h:d7.Bd x):x.fTo.length<=a6:=by cases h; assumption
theorem d7.Bd.bAt {x:d7}(h:d7.Bd x):inR x.fAt:=by cases h; assumption
theorem d7.dec (n:Nat):(∀ cs,WTf tt n 92 cs->∃ x:d7,cs=d7.cs x/\d7.Bd x):=by
 induction n using Nat.strongRecOn with
 | _ n ih=>
 have HE:∀ m,m<n->(∀ cs,WTf tt m 92 cs->∃ x:d7,cs=d7.cs x/\d7.Bd x):=λ m hm=>(ih m hm)
 intro cs h
 cases n with
 | zero=>exact h.elim
 | succ n=>
 have h0:=ce rfl h;obtain ⟨c0,q0,rfl,k0,h0⟩:=ay h0;obtain ⟨c1,q1,rfl,k1,h0⟩:=ay h0;obtain ⟨c2,q2,rfl,k2,h0⟩:=ay h0;have e:q2=[]:=h0;subst e;obtain ⟨x273,rfl,b274⟩:=bY rfl k0;obtain ⟨x275,rfl,b276⟩:=bY rfl k1;obtain ⟨x277,rfl,b278⟩:=gu rfl k2;exact ⟨d7.mk x273 x275 x277,rfl,.mk b274 b276 b278⟩
inductive bw.Bd:bw->Prop where
 | mk {x:bw} (bOptions:aD.Bd x.AM) (bBase:bO.Bd x.AX) (bChanges:x.AJ.length*320<=a6) (eChanges:∀ y∈x.AJ,au.Bd y) (bOutputs:x.AE.length*184<=a6) (eOutputs:∀ y∈x.AE,aH.Bd y) (bData:x.A'.length*96<=a6) (eData:∀ y∈x.A',bu.Bd y) (bDrift:x.A6.length*200<=a6) (eDrift:∀ y∈x.A6,cq.Bd y) (bMoved:x.AT.length*40<=a6) (eMoved:∀ y∈x.AT,d7.Bd y):bw.Bd x
theorem bw.Bd.bOptions {x:bw}(h:bw.Bd x):aD.Bd x.AM:=by cases h; assumption
theorem bw.Bd.bBase {x:bw}(h:bw.Bd x):bO.Bd x.AX:=by cases h; assumption
theorem bw.Bd.bChanges {x:bw}(h:bw.Bd x):x.AJ.length*320<=a6:=by cases h; assumption
theorem bw.Bd.eChanges {x:bw}(h:bw.Bd x):∀ y∈x.AJ,au.Bd y:=by cases h; assumption
theorem bw.Bd.bOutputs {x:bw}(h:bw.Bd x):x.AE.length*184<=a6:=by cases h; assumption
theorem bw.Bd.eOutputs {x:bw}(h:bw.Bd x):∀ y∈x.AE,aH.Bd y:=by cases h; assumption
theorem bw.Bd.bData {x:bw}(h:bw.Bd x):x.A'.length*96<=a6:=by cases h; assumption
theorem bw.Bd.eData {x:bw}(h:bw.Bd x):∀ y∈x.A',bu.Bd y:=by cases h; assumption
theorem bw.Bd.bDrift {x:bw}(h:bw.Bd x):x.A6.length*200<=a6:=by cases h; assumption
theorem bw.Bd.eDrift {x:bw}(h:bw.Bd x):∀ y∈x.A6,cq.Bd y:=by cases h; assumption
theorem bw.Bd.bMoved {x:bw}(h:bw.Bd x):x.AT.length*40<=a6:=by cases h; assumption
theorem bw.Bd.eMoved {x:bw}(h:bw.Bd x):∀ y∈x.AT,d7.Bd y:=by cases h; assumption
theorem bw.dec (n:Nat):(∀ cs,WTf tt n 56 cs->∃ x:bw,cs=bw.cs x/\bw.Bd x):=by
 induction n using Nat.strongRecOn with
 | _ n ih=>
 have HD:∀ m,m<n->(∀ cs,WTf tt m 56 cs->∃ x:bw,cs=bw.cs x/\bw.Bd x):=λ m hm=>(ih m hm)
 intro cs h
 cases n with
 | zero=>exact h.elim
 | succ n=>
 have h0:=ce rfl h;obtain ⟨c0,q0,rfl,k0,h0⟩:=ay h0;obtain ⟨c1,q1,rfl,k1,h0⟩:=ay h0;obtain ⟨c2,q2,rfl,k2,h0⟩:=ay h0;obtain ⟨c3,q3,rfl,k3,h0⟩:=ay h0;obtain ⟨c4,q4,rfl,k4,h0⟩:=ay h0;obtain ⟨c5,q5,rfl,k5,h0⟩:=ay h0;obtain ⟨c6,q6,rfl,k6,h0⟩:=ay h0;have e:q6=[]:=h0;subst e;obtain ⟨x279,rfl,b280⟩:=aD.dec _ _ k0;obtain ⟨x281,rfl,b282⟩:=bO.dec _ _ k1
 obtain ⟨x283,rfl,b284⟩:=cw db (λ y=>au.Bd y) rfl k2 (λ m285 y286 hm287 k288 k289=>by
  obtain ⟨x290,e292,b291⟩:=au.dec _ _ k288;exact ⟨x290,(gX e292 k289).trans (au.AH _).symm,b291⟩
  )
 obtain ⟨x293,rfl,b294⟩:=cw bV (λ y=>aH.Bd y) rfl k3 (λ m295 y296 hm297 k298 k299=>by
  obtain ⟨x300,e302,b301⟩:=aH.dec _ _ k298;exact ⟨x300,(gX e302 k299).trans (aH.AH _).symm,b301⟩
  )
 obtain ⟨x303,rfl,b304⟩:=cw ip (λ y=>bu.Bd y) rfl k4 (λ m305 y306 hm307 k308 k309=>by
  obtain ⟨x310,e312,b311⟩:=bu.dec _ _ k308;exact ⟨x310,(gX e312 k309).trans (bu.AH _).symm,b311⟩
  )
 obtain ⟨x313,rfl,b314⟩:=cw kq (λ y=>cq.Bd y) rfl k5 (λ m315 y316 hm317 k318 k319=>by
  obtain ⟨x320,e322,b321⟩:=cq.dec _ _ k318;exact ⟨x320,(gX e322 k319).trans (cq.AH _).symm,b321⟩
  )
 obtain ⟨x323,rfl,b324⟩:=cw lU (λ y=>d7.Bd y) rfl k6 (λ m325 y326 hm327 k328 k329=>by
  obtain ⟨x330,e332,b331⟩:=d7.dec _ _ k328;exact ⟨x330,(gX e332 k329).trans (d7.AH _).symm,b331⟩
  )
 exact ⟨bw.mk x279 x281 x283 x293 x303 x313 x323,Z,.mk b280 b282 b284.1 b284.2 b294.1 b294.2 b304.1 b304.2 b314.1 b314.2 b324.1 b324.2⟩
inductive aJ.Bd:aJ->Prop where
 | mk {x:aJ} (bName:x.AA.length<=a6) (bSchema:ap.Bd x.Bj) (bQuota:inR x.Bq):aJ.Bd x
theorem aJ.Bd.bName {x:aJ}(h:aJ.Bd x):x.AA.length<=a6:=by cases h; assumption
theorem aJ.Bd.bSchema {x:aJ}(h:aJ.Bd x):ap.Bd x.Bj:=by cases h; assumption
theorem aJ.Bd.bQuota {x:aJ}(h:aJ.Bd x):inR x.Bq:=by cases h; assumption
theorem aJ.dec (n:Nat):(∀ cs,WTf tt n 83 cs->∃ x:aJ,cs=aJ.cs x/\aJ.Bd x):=by
 induction n using Nat.strongRecOn with
 | _ n ih=>
 have Eo:∀ m,m<n->(∀ cs,WTf tt m 83 cs->∃ x:aJ,cs=aJ.cs x/\aJ.Bd x):=λ m hm=>(ih m hm)
 intro cs h
 cases n with
 | zero=>exact h.elim
 | succ n=>
 have h0:=ce rfl h;obtain ⟨c0,q0,rfl,k0,h0⟩:=ay h0;obtain ⟨c1,q1,rfl,k1,h0⟩:=ay h0;obtain ⟨c2,q2,rfl,k2,h0⟩:=ay h0;have e:q2=[]:=h0;subst e;obtain ⟨x333,rfl,b334⟩:=bY rfl k0;obtain ⟨x335,rfl,b336⟩:=ap.dec _ _ k1;obtain ⟨x337,rfl,b338⟩:=gu rfl k2;exact ⟨aJ.mk x333 x335 x337,rfl,.mk b334 b336 b338⟩
inductive fT.Bd:fT->Prop where
 | mk {x:fT} (bKind:inR x.Av) (bNum:inR x.Ay) (bStr:x.Az.length<=a6):fT.Bd x
theorem fT.Bd.bKind {x:fT}(h:fT.Bd x):inR x.Av:=by cases h; assumption
theorem fT.Bd.bNum {x:fT}(h:fT.Bd x):inR x.Ay:=by cases h; assumption
theorem fT.Bd.bStr {x:fT}(h:fT.Bd x):x.Az.length<=a6:=by cases h; assumption
theorem fT.dec (n:Nat):(∀ cs,WTf tt n 131 cs->∃ x:fT,cs=fT.cs x/\fT.Bd x):=by
 induction n using Nat.strongRecOn with
 | _ n ih=>
 have ih_TKey:∀ m,m<n->(∀ cs,WTf tt m 131 cs->∃ x:fT,cs=fT.cs x/\fT.Bd x):=λ m hm=>(ih m hm)
 intro cs h
 cases n with
 | zero=>exact h.elim
 | succ n=>
 have h0:=ce rfl h;obtain ⟨c0,q0,rfl,k0,h0⟩:=ay h0;obtain ⟨c1,q1,rfl,k1,h0⟩:=ay h0;obtain ⟨c2,q2,rfl,k2,h0⟩:=ay h0;have e:q2=[]:=h0;subst e;obtain ⟨x339,rfl,b340⟩:=gu rfl k0;obtain ⟨x341,rfl,b342⟩:=gu rfl k1;obtain ⟨x343,rfl,b344⟩:=bY rfl k2;exact ⟨fT.mk x339 x341 x343,rfl,.mk b340 b342 b344⟩
inductive bi.Bd:bi->Prop where
 | mk {x:bi} (bName:x.AA.length<=a6) (bKey:fT.Bd x.A7):bi.Bd x
theorem bi.Bd.bName {x:bi}(h:bi.Bd x):x.AA.length<=a6:=by cases h; assumption
theorem bi.Bd.bKey {x:bi}(h:bi.Bd x):fT.Bd x.A7:=by cases h; assumption
theorem bi.dec (n:Nat):(∀ cs,WTf tt n 167 cs->∃ x:bi,cs=bi.cs x/\bi.Bd x):=by
 induction n using Nat.strongRecOn with
 | _ n ih=>
 have EZ:∀ m,m<n->(∀ cs,WTf tt m 167 cs->∃ x:bi,cs=bi.cs x/\bi.Bd x):=λ m hm=>(ih m hm)
 intro cs h
 cases n with
 | zero=>exact h.elim
 | succ n=>
 have h0:=ce rfl h;obtain ⟨c0,q0,rfl,k0,h0⟩:=ay h0;obtain ⟨c1,q1,rfl,k1,h0⟩:=ay h0;have e:q1=[]:=h0;subst e;obtain ⟨x345,rfl,b346⟩:=bY rfl k0;obtain ⟨x347,rfl,b348⟩:=fT.dec _ _ k1;exact ⟨bi.mk x345 x347,rfl,.mk b346 b348⟩
inductive bK.Bd:bK->Prop where
 | mk {x:bK} (bModule:x.Bl.length*48<=a6) (eModule:∀ y∈x.Bl,bi.Bd y) (bType:x.AF.length<=a6) (bName:x.AA.length<=a6) (bKey:fT.Bd x.A7):bK.Bd x
theorem bK.Bd.bModule {x:bK}(h:bK.Bd x):x.Bl.length*48<=a6:=by cases h; assumption
theorem bK.Bd.eModule {x:bK}(h:bK.Bd x):∀ y∈x.Bl,bi.Bd y:=by cases h; assumption
theorem bK.Bd.bType {x:bK}(h:bK.Bd x):x.AF.length<=a6:=by cases h; assumption
theorem bK.Bd.bName {x:bK}(h:bK.Bd x):x.AA.length<=a6:=by cases h; assumption
theorem bK.Bd.bKey {x:bK}(h:bK.Bd x):fT.Bd x.A7:=by cases h; assumption
theorem bK.dec (n:Nat):(∀ cs,WTf tt n 133 cs->∃ x:bK,cs=bK.cs x/\bK.Bd x):=by
 induction n using Nat.strongRecOn with
 | _ n ih=>
 have F3:∀ m,m<n->(∀ cs,WTf tt m 133 cs->∃ x:bK,cs=bK.cs x/\bK.Bd x):=λ m hm=>(ih m hm)
 intro cs h
 cases n with
 | zero=>exact h.elim
 | succ n=>
 have h0:=ce rfl h;obtain ⟨c0,q0,rfl,k0,h0⟩:=ay h0;obtain ⟨c1,q1,rfl,k1,h0⟩:=ay h0;obtain ⟨c2,q2,rfl,k2,h0⟩:=ay h0;obtain ⟨c3,q3,rfl,k3,h0⟩:=ay h0;obtain ⟨c4,q4,rfl,k4,h0⟩:=ay h0;have e:q4=[]:=h0;subst e
 obtain ⟨x349,rfl,b350⟩:=cw jT (λ y=>bi.Bd y) rfl k0 (λ m351 y352 hm353 k354 k355=>by
  obtain ⟨x356,e358,b357⟩:=bi.dec _ _ k354;exact ⟨x356,(gX e358 k355).trans (bi.AH _).symm,b357⟩
  )
 obtain ⟨x359,rfl⟩:=eF rfl k1;obtain ⟨x361,rfl,b362⟩:=bY rfl k2;obtain ⟨x363,rfl,b364⟩:=bY rfl k3;obtain ⟨x365,rfl,b366⟩:=fT.dec _ _ k4;exact ⟨bK.mk x349 x359 x361 x363 x365,rfl,.mk b350.1 b350.2 b362 b364 b366⟩
inductive du.Bd:du->Prop where
 | mk {x:du} (brest:x.frest.length<=a6):du.Bd x
theorem du.Bd.brest {x:du}(h:du.Bd x):x.frest.length<=a6:=by cases h; assumption
theorem du.dec (n:Nat):(∀ cs,WTf tt n 165 cs->∃ x:du,cs=du.cs x/\du.Bd x):=by
 induction n using Nat.strongRecOn with
 | _ n ih=>
 have Gk:∀ m,m<n->(∀ cs,WTf tt m 165 cs->∃ x:du,cs=du.cs x/\du.Bd x):=λ m hm=>(ih m hm)
 intro cs h
 cases n with
 | zero=>exact h.elim
 | succ n=>
 have h0:=ce rfl h;obtain ⟨c0,q0,rfl,k0,h0⟩:=ay h0;obtain ⟨c1,q1,rfl,k1,h0⟩:=ay h0;have e:q1=[]:=h0;subst e;obtain ⟨x367,rfl,b368⟩:=bY rfl k0;obtain ⟨x369,rfl⟩:=eF rfl k1;exact ⟨du.mk x367 x369,rfl,.mk b368⟩
end Go.Ab
end
section
namespace Go.Ab.R06
open Go.Ab Go.Ab.RB Go.Lib
theorem se {P:Int->Prop}{i:Nat}(h:P ((i+1:Nat):Int)):P ((i:Int)+1):=by rwa [Int.natCast_add,Int.natCast_one] at h
def bS {α:Type}(p:α->α->Bool):List α->List α->Bool|[],[]=>true|x::r,y::q=>p x y&&bS p r q|_,_=>false
theorem pF (p:Nat->Bool):∀ (k i:Nat),mI p (i+1) k=mI (λ j=>p (j+1)) i k
 | 0,_=>rfl
 | k+1,i=>by simp only [mI]; rw [pF p k (i+1)]
theorem nr {α:Type} [Inhabited α] (p:α->α->Bool):∀ a b:List α,bS p a b=(decide (a.length=b.length)&&mI (λ i=>p (a.getD i default) (b.getD i default)) 0 a.length)
 | [],[]=>rfl
 | [],y::q=>by simp [bS]
 | x::r,[]=>by simp [bS]
 | x::r,y::q=>by
  simp only [bS,n8,mI,List.getD_cons_zero,ro];rw [nr p r q,pF];simp only [List.getD_cons_succ,Nat.add_right_cancel_iff]
  cases p x y <;> cases decide (r.length=q.length) <;> simp
theorem nw {f:Nat->Nat->Int->Option (Unit⊕Bool)}(len:Nat)(p:Nat->Bool)(h0:Ev2 (λ n m=>f n m (len:Int)) (·=.inl ()))
  (hs:∀ i:Nat,i<len->∀ P:Unit⊕Bool->Prop,(p i=true->Ev2 (λ n m=>f n m ((i:Int)+1)) P)->(p i=false->P (.inr false))->Ev2 (λ n m=>f n m (i:Int)) P) :
  ∀ k i,i+k=len->Ev2 (λ n m=>f n m (i:Int)) (·=if mI p i k=true then .inl () else .inr false):=by
 intro k
 induction k with
 | zero=>
  intro i hi; obtain rfl:i=len:=by omega
  exact h0
 | succ k ih=>
  intro i hi;refine hs i O _ (λ h=>?_) (λ h=>?_)
  ·have:=ih (i+1) O;rw [Int.natCast_add,Int.natCast_one] at this;simpa only [mI,h,Bool.true_and] using this
  ·simp [mI,h]
theorem su {f:Nat->Nat->Int->Option (Unit⊕Bool)}{len:Nat}{p:Nat->Bool}{k:Nat->Nat->Option Bool}{q:Bool}(h:Ev2 (λ n m=>f n m 0) (·=if mI p 0 len=true then .inl () else .inr false))
  (hk:Ev2 k (·=q)):Ev2 (λ n m=>jn (f n n 0) (λ _=>k n m)) (·=(mI p 0 len&&q)):=by
 refine ny (gM (bM (f:=λ n m=>f n m 0) h) (λ s hs=>?_));subst hs
 cases mI p 0 len with
 | true=>exact hk
 | false=>rfl
theorem nt {x:Bool}(h:(!x)=true):x=false:=by simpa using h
theorem nf {x:Bool}(h:¬ (!x)=true):x=true:=by simpa using h
def eqS (a b:Bk):Bool:=decide (a=b)
theorem zJ (a b:List Bk)(ha:a.length*16<=a6):Ev2 (λ n _=>cO n a b) (·=bS eqS a b):=by
 unfold a6 at ha;simp only [cO];rw [nr];refine ar (λ h=>?_) (λ h=>ac (by simp; omega));have h:a.length=b.length:=by omega
 rw [decide_eq_true h,Bool.true_and];rw [<- Bool.and_true (mI _ 0 a.length)];refine su (f:=λ n m i=>bD a b m i) (nw a.length _ ?_ (λ i hi P h1 h2=>?_) a.length 0 O) (ac rfl)
 ·refine bQ ?_;simp only [bD];exact bb O (ac Z)
 ·refine bQ ?_;simp only [bD];refine bo O (av O (av O (ar (λ h=>av (aZ O O) (h1 (decide_eq_true h))) (λ h=>ac (h2 (decide_eq_false h))))))
mutual
def eqV:aa->aa->Bool|.mk k n s l ks,.mk k' n' s' l' ks'=>decide (k=k')&&decide (n=n')&&eqS s s'&&bS eqS ks ks'&&uS l l'
def uS:List aa->List aa->Bool|[],[]=>true|x::r,y::q=>eqV x y&&uS r q|_,_=>false
end
theorem ve:∀ a b,uS a b=bS eqV a b
 | [],[]=>by simp only [uS,bS]
 | [],_::_=>by simp only [uS,bS]
 | _::_,[]=>by simp only [uS,bS]
 | x::r,y::q=>by simp only [uS,bS]; rw [ve r q]
theorem qk (a b:aa):eqV a b=(decide (a.Av=b.Av)&&decide (a.Ay=b.Ay)&&eqS a.Az b.Az&&bS eqS a.Aw b.Aw&&bS eqV a.Ar b.Ar):=by
 cases a; cases b
 simp only [eqV,ve,aa.Av,aa.Ay,aa.Az,aa.Aw,aa.Ar]
 rfl
theorem yy (a b:List aa)(ha:a.length*80<=a6)(e:Nat->aa->aa->Option Bool)(he:∀ x∈a,∀ y,Ev2 (λ n _=>e n x y) (·=eqV x y)) :
  Ev2 (λ n _=>bf n a b (e n)) (·=bS eqV a b):=by
 unfold a6 at ha;simp only [bf];rw [nr];refine ar (λ h=>?_) (λ h=>ac (by simp; omega));have h:a.length=b.length:=by omega
 rw [decide_eq_true h,Bool.true_and];rw [<- Bool.and_true (mI _ 0 a.length)];refine su (f:=λ n m i=>aB a b (e n) m i) (nw a.length _ ?_ (λ i hi P h1 h2=>?_) a.length 0 O) (ac rfl)
 ·refine bQ ?_;simp only [aB];exact bb O (ac Z)
 ·refine bQ ?_;simp only [aB];refine bo O (av O (av O (az _ (he _ (cC O) _) ?_)));exact ar (λ h=>ac (h2 (nt h))) (λ h=>av (aZ O O) (h1 (nf h)))
theorem uK {a:aa}(hb:aa.Bd a):∀ b,Ev2 (λ n _=>eO n a b) (·=eqV a b):=by
 induction hb with
 | @mk x bKind bNum bStr bItems eItems bKeys eKeys ih=>
  intro b;refine fC ?_;simp only [eO];rw [qk];refine aM (·=(decide (x.Av=b.Av)&&decide (x.Ay=b.Ay)&&eqS x.Az b.Az&&bS eqS x.Aw b.Aw&&bS eqV x.Ar b.Ar)) ?_ (λ t ht=>ac ht);refine ar (λ h1=>?_) (λ h1=>ac (by simp [h1]));refine ar (λ h2=>?_) (λ h2=>ac (by simp [h2]));refine ar (λ h3=>?_) (λ h3=>ac (by simp [h3,eqS]));refine az _ (zJ _ _ bKeys) ?_;simp only [h1,h2,h3,eqS,decide_true,Bool.true_and];refine ar (λ h4=>?_) (λ h4=>ac (by simp [Bool.eq_false_iff.2 h4]));exact az _ (yy _ _ bItems (λ n x0 x1=>eO n x0 x1) (λ x hx y=>ih x hx y)) (ac (by simp [h4]))
theorem tF {a:aa}(hb:aa.Bd a):∀ b,Ev2 (λ n _=>fq n a b) (·=eqV a b):=by
 induction hb with
 | @mk x bKind bNum bStr bItems eItems bKeys eKeys ih=>
  intro b;have l1:=bItems;have l2:=bKeys;unfold a6 at l1 l2;refine fC ?_;simp only [fq];rw [qk];refine az (!(decide (x.Av=b.Av)&&decide (x.Ay=b.Ay)&&eqS x.Az b.Az&&decide (x.Ar.length=b.Ar.length)&&decide (x.Aw.length=b.Aw.length))) ?_ ?_
  ·refine ar (λ h1=>?_) (λ h1=>ac (by simp [h1]));refine ar (λ h2=>?_) (λ h2=>ac (by simp [h2]));refine ar (λ h3=>?_) (λ h3=>ac (by simp [h3,eqS]));refine ar (λ h4=>ac ?_) (λ h4=>ac ?_)
   ·have h4:x.Ar.length=b.Ar.length:=by omega
    simp [h1,h2,h3,h4,eqS]; omega
   ·have h4:¬ x.Ar.length=b.Ar.length:=by omega
    simp [h4]
  ·rw [nr eqS,nr eqV];refine ar (λ h=>ac ?_) (λ h=>?_)
   ·simp only [Bool.not_eq_true',Bool.and_eq_false_iff] at h;rcases h with (((h|h)|h)|h)|h <;> simp [h]
   ·simp only [Bool.not_eq_true',Bool.not_eq_false,Bool.and_eq_true] at h;obtain ⟨⟨⟨⟨h1,h2⟩,h3⟩,h4⟩,h5⟩:=h;have h4':=of_decide_eq_true h4;have h5':=of_decide_eq_true h5;rw [h1,h2,h3,h4,h5];simp only [Bool.true_and];refine su (f:=λ n m i=>ep x b m i) (nw x.Aw.length _ ?_ (λ i hi P h1 h2=>?_) x.Aw.length 0 O) ?_
    ·refine bQ ?_;simp only [ep];exact bb O (ac Z)
    ·refine bQ ?_;simp only [ep];refine bo O (av O (av O (ar (λ h=>av (aZ O O) (h1 (decide_eq_true h))) (λ h=>ac (h2 (decide_eq_false h))))))
    ·rw [<- Bool.and_true (mI _ 0 x.Ar.length)];refine su (f:=λ n m i=>eu (fq n) x b m i) (nw x.Ar.length _ ?_ (λ i hi P h1 h2=>?_) x.Ar.length 0 O) (ac rfl)
     ·refine bQ ?_;simp only [eu];exact bb O (ac Z)
     ·refine bQ ?_;simp only [eu];refine bo O (av O (av O (az _ (ih _ (cC O) _) ?_)));exact ar (λ h=>ac (h2 (nt h))) (λ h=>av (aZ O O) (h1 (nf h)))
theorem d8 {α:Type} [Inhabited α] (l:List α){i:Nat}(h:i<l.length):l.drop i=lat l (i:Int)::l.drop (i+1):=by
 rw [vx,List.getD_eq_getElem?_getD,List.getElem?_eq_getElem h,rg];exact List.drop_eq_getElem_cons h
mutual
def bN:aa->Nat|.mk _ _ _ l _=>1+cn l
def cn:List aa->Nat|[]=>0|x::r=>bN x+cn r
end
theorem fH (v:aa):bN v=1+cn v.Ar:=by cases v; simp only [bN,aa.Ar]
theorem mM:∀ {l:List aa} {x:aa},x∈l->bN x<=cn l
 | y::r,x,h=>by
  rcases ur.1 h with rfl|h
  ·simp only [cn]; omega
  ·have:=mM h; simp only [cn]; omega
theorem yo {v:aa}(hb:aa.Bd v):∀ (nodes levels:Int),0<=nodes->nodes<=1000000->-1000000<=levels->levels<=1000000 ->
  Ev2 (λ n _=>eY n v nodes levels) (λ r=>-1<=r/\r<=nodes/\(0<=r->r=nodes-(bN v:Int))):=by
 induction hb with
 | @mk x bKind bNum bStr bItems eItems bKeys eKeys ih=>
  intro nodes levels h1 h2 h3 h4;have hl:=bItems;unfold a6 at hl;refine fC ?_;simp only [eY];refine az (decide (nodes<1\/levels<1)) (ar (λ h=>ac (by simp [h])) (λ h=>ac (by simp [h]))) (ar (λ _=>ac ⟨by omega,by omega,by omega⟩) (λ h=>?_));have h:¬ (nodes<1\/levels<1):=λ q=>h (decide_eq_true q);refine av (aZ O O) ?_
  have loop:∀ (k i:Nat) (c:Int),i+k=x.Ar.length->-1<=c->c<=1000000->Ev2 (λ n m=>dF (eY n) x levels m c (i:Int)) (λ s=>-1<=s/\s<=c/\(0<=s->s=c-(cn (x.Ar.drop i):Int))):=by
   intro k
   induction k with
   | zero=>
    intro i c hi h6 h7;refine bQ ?_;simp only [dF];refine az false (bb O (ac rfl)) (bb G (ac ⟨h6,by omega,λ _=>?_⟩));rw [List.drop_eq_nil_of_le O]; simp [cn]
   | succ k ihk=>
    intro i c hi h6 h7;refine bQ ?_;simp only [dF];refine az (decide (0<=c)) (bo O (ac rfl)) (ar (λ h8=>?_) (λ h8=>ac ⟨h6,by omega,λ h=>absurd (by simpa using h) h8⟩));have h8:0<=c:=by simpa using h8
    refine av O (av (aZ O O) ?_);refine aM _ (ih _ (Go.Ab.cC O) c (levels-1) h8 h7 O O) (λ q hq=>?_);refine av (aZ O O) ?_;refine gM (se (P:=λ j=>Ev2 (λ n m=>dF (eY n) x levels m q j) _) (ihk (i+1) q O hq.1 O)) (λ s hs=>⟨hs.1,by omega,λ h=>?_⟩);rw [d8 _ O];have a1:=hs.2.2 h;have a2:=hq.2.2 O;simp only [cn];omega
  refine aM _ (bM (f:=λ n m=>dF (eY n) x levels m (nodes-1) 0) (loop x.Ar.length 0 (nodes-1) O O O)) (λ s hs=>ac ⟨hs.1,by omega,λ h=>?_⟩);have:=hs.2.2 h;rw [fH];simp only [List.drop_zero] at this;omega
theorem yZ {v:aa}(hb:aa.Bd v):bN v<=100000->Ev2 (λ n _=>eT n v) (λ r=>0<=r/\r<=(bN v:Int)*9000000000000):=by
 induction hb with
 | @mk x bKind bNum bStr bItems eItems bKeys eKeys ih=>
  intro hn;have hl:=bItems;have hk:=bKeys;unfold a6 at hl hk;rw [fH] at hn ⊢;refine fC ?_;simp only [eT]
  have loop:∀ (k i:Nat) (c:Int),i+k=x.Ar.length->0<=c->c+(cn (x.Ar.drop i):Int)*9000000000000<=((1+cn x.Ar:Nat):Int)*9000000000000->Ev2 (λ n m=>dD (eT n) x m c (i:Int)) (λ s=>0<=s/\s<=((1+cn x.Ar:Nat):Int)*9000000000000):=by
   intro k
   induction k with
   | zero=>
    intro i c hi h6 h7;refine bQ ?_;simp only [dD];exact bb O (ac ⟨h6,by omega⟩)
   | succ k ihk=>
    intro i c hi h6 h7;have hd:=d8 x.Ar (i:=i) O;have hm:lat x.Ar (i:Int)∈x.Ar:=List.mem_of_mem_drop (hd ▸ List.mem_cons_self);have hle:=mM hm;rw [hd] at h7;simp only [cn] at h7;refine bQ ?_;simp only [dD];refine bo O (av O (aM _ (ih _ hm O) (λ q hq=>?_)));refine av (aZ O O) (av (aZ O O) ?_);exact se (P:=λ j=>Ev2 (λ n m=>dD (eT n) x m (c+q) j) _) (ihk (i+1) (c+q) O O O)
  refine aM _ (bM (f:=λ n m=>dD (eT n) x m (x.Aw.length:Int) 0) (loop x.Ar.length 0 (x.Aw.length:Int) O O  (by simp only [List.drop_zero]; omega))) (λ s hs=>ac hs)
theorem w9 {v:aa}(hb:aa.Bd v)(nodes:Int)(h1:0<=nodes)(h2:nodes<=100000):Ev2 (λ n _=>gJ n v nodes) (λ r=>r=true->(bN v:Int)<=nodes):=by
 simp only [gJ];refine aM (λ r=>r=true->(bN v:Int)<=nodes) ?_ (λ r hr=>ac hr);refine aM _ (yo hb nodes 40 h1 O (by decide) (by decide)) (λ r hr=>ar (λ h=>?_) (λ h=>ac (λ q=>by cases q)));have:=hr.2.2 h;exact aM _ (yZ hb O) (λ q hq=>av (aZ O O) (ac (λ _=>by omega)))
def Inc:List Bk->Prop|[]=>True|[_]=>True|x::y::r=>Op.bytesLess x y=true/\Inc (y::r)
structure xZ (v:aa):Prop where
 its:v.Av≠4->v.Av≠5->v.Ar=[]
 kys:v.Av≠5->v.Aw=[]
 len:v.Av=5->v.Aw.length=v.Ar.length
 inc:Inc v.Aw
 txt:∀ k∈v.Aw,k.length<=4096/\validD k=true
 z:v.Av=5->v.Ay=0/\v.Az=[]
 s:v.Az.length<=4096
inductive GV:aa->Prop where
 | mk {v:aa} (h:xZ v) (l:∀ x∈v.Ar,GV x):GV v
theorem GV.node {v:aa}(h:GV v):xZ v:=by cases h; assumption
theorem GV.its {v:aa}(h:GV v):∀ x∈v.Ar,GV x:=by cases h; assumption
theorem sP (s:Bk):Ev2 (λ n _=>ji n s) (λ r=>r=0->s.length<=4096/\validD s=true):=by
 simp only [ji];refine ar (λ h=>ac (λ q=>absurd q (by decide))) (λ h=>?_);refine az _ (wl s O) (ar (λ h2=>ac (λ q=>absurd q (by decide))) (λ h2=>ac (λ _=>?_)));exact ⟨by omega,by simpa [show s.length<=4096 by omega] using h2⟩
theorem uw (v:aa):Ev2 (λ _ _=>iU v) (λ r=>r=true->(v.Av≠4->v.Av≠5->v.Ar=[])/\(v.Av≠5->v.Aw=[])/\(v.Av=5->v.Aw.length=v.Ar.length)/\(v.Av=5->v.Ay=0/\v.Az=[])):=by
 unfold iU;refine aM (λ r=>r=true->v.Av=5->v.Ay=0) (ar (λ h=>ac (λ _ q=>by omega)) (λ _=>ar (λ h=>ar (λ _=>ac (λ _ q=>by omega)) (λ _=>ar (λ _=>ac (λ _ q=>by omega)) (λ _=>ac (λ _ q=>by omega)))) (λ _=>ac (λ q _=>by simpa using q)))) (λ b1 h1=>?_);refine aM (λ r=>r=true->v.Av=5->v.Az=[]) (ar (λ h=>ac (λ _ q=>by omega)) (λ _=>ac (λ q _=>by simpa using q))) (λ b2 h2=>?_);refine aM (λ r=>r=true->v.Av≠4->v.Av≠5->v.Ar=[]) (ar (λ h=>ac (λ _ q=>absurd h q)) (λ _=>ar (λ h=>ac (λ _ _ q=>absurd h q)) (λ _=>ac (λ q _ _=>by simpa using q)))) (λ b3 h3=>?_);refine aM (λ r=>r=true->(v.Av≠5->v.Aw=[])/\(v.Av=5->v.Aw.length=v.Ar.length)) (ar (λ h=>ar (λ q=>ac (λ _=>⟨λ p=>absurd h p,λ _=>by omega⟩)) (λ _=>ac (λ q=>by cases q))) (λ h=>ac (λ q=>⟨λ _=>by simpa using q,λ p=>absurd p h⟩))) (λ b4 h4=>?_);refine aM (λ r=>r=true->b1=true/\b2=true/\b3=true/\b4=true) ?_ (λ b hb=>ac (λ q=>⟨h3 (hb q).2.2.1,(h4 (hb q).2.2.2).1,(h4 (hb q).2.2.2).2,λ p=>⟨h1 (hb q).1 p,h2 (hb q).2.1 p⟩⟩));refine ar (λ _=>ar (λ _=>ar (λ q1=>ar (λ q2=>ar (λ q=>ac (λ p=>⟨q1,q2,q,p⟩)) (λ _=>ac (λ q=>by cases q))) (λ _=>ac (λ q=>by cases q))) (λ _=>ac (λ q=>by cases q))) (λ _=>ac (λ q=>by cases q))) (λ _=>ac (λ q=>by cases q))
theorem xT {x:Bk}{l:List Bk}(h:Inc l)(hx:∀ y∈l.head?,Op.bytesLess x y=true):Inc (x::l):=by
 cases l with
 | nil=>trivial
 | cons y r=>exact ⟨hx y Z,h⟩
theorem xB {v:aa}(hb:aa.Bd v):Ev2 (λ n _=>j1 n v) (λ r=>r=0->xZ v):=by
 have hk:=hb.bKeys;unfold a6 at hk;simp only [j1];refine aM _ (uw v) (λ b hs=>ar (λ _=>ac (λ q=>absurd q (by decide))) (λ h=>?_));obtain ⟨s1,s2,s3,s4⟩:=hs (by simpa using h);refine aM (λ _=>True) (ar (λ _=>aM (λ _=>True) (by unfold kj; repeat' (first|exact ac trivial|refine ar (λ _=>?_) (λ _=>?_)|refine aM (λ _=>True) ?_ (λ _ _=>?_))) (λ _ _=>ac trivial)) (λ _=>ac trivial)) (λ b5 _=>ar (λ _=>ac (λ q=>absurd q (by decide))) (λ _=>?_));refine aM _ (sP v.Az) (λ r hr=>ar (λ hr0=>?_) (λ h=>ac (λ q=>absurd q h)))
 have loop:∀ (k i:Nat),i+k=v.Aw.length->Ev2 (λ n m=>dC n v m (i:Int)) (λ r=>(∀ e,r=.inr e->e≠0)/\(r=.inl ()->Inc (v.Aw.drop i)/\(0<i->∀ y∈(v.Aw.drop i).head?,Op.bytesLess (lat v.Aw ((i:Int)-1)) y=true)/\∀ k∈v.Aw.drop i,k.length<=4096/\validD k=true)):=by
  intro k
  induction k with
  | zero=>
   intro i hi;refine bQ ?_;simp only [dC];refine bb O (ac ⟨λ e q=>(by cases q),λ _=>?_⟩);rw [List.drop_eq_nil_of_le O];exact ⟨trivial,λ _ y hy=>(by cases hy),λ k hk=>(by cases hk)⟩
  | succ k ih=>
   intro i hi;refine bQ ?_;simp only [dC];refine bo O (av O (aM _ (sP _) (λ r hr=>ar (λ h0=>?_) (λ h0=>ac ⟨λ e q=>(by cases q; exact h0),λ q=>(by cases q)⟩))));refine aM (λ t=>t=false->0<i->Op.bytesLess (lat v.Aw ((i:Int)-1)) (lat v.Aw (i:Int))=true) (ar (λ h1=>av (aZ O O) (av O (av O (ac (λ q _=>by simpa using q))))) (λ h1=>ac (λ _ q=>absurd q O))) (λ t ht=>ar (λ _=>ac ⟨λ e q=>(by cases q; decide),λ q=>(by cases q)⟩) (λ h1=>?_));refine av (aZ O O) ?_;refine gM (se (P:=λ j=>Ev2 (λ n m=>dC n v m j) _) (ih (i+1) O)) (λ r hr2=>⟨hr2.1,λ q=>?_⟩);obtain ⟨a1,a2,a3⟩:=hr2.2 q;rw [d8 _ O];refine ⟨xT a1 (λ y hy=>?_),λ h y hy=>?_,λ y hy=>?_⟩
   ·have:=a2 O y hy
    rwa [show ((i+1:Nat):Int)-1=(i:Int) by omega] at this
   ·cases hy; exact ht (by simpa using h1) h
   ·rcases ur.1 hy with rfl|hy
    ·exact hr h0
    ·exact a3 y hy
 obtain ⟨r,hr1,N,hN⟩:=bM (f:=λ n m=>dC n v m 0) (loop v.Aw.length 0 O)
 cases r with
 | inl u=>
  obtain ⟨a1,_,a3⟩:=hr1.2 rfl;exact qh () ⟨.inl (),rfl,N,hN⟩ (ac (λ _=>⟨s1,s2,s3,by simpa using a1,by simpa using a3,s4,(hr hr0).1⟩))
 | inr e=>exact sH e ⟨.inr e,Z,N,hN⟩ (λ q=>absurd q (hr1.1 e Z))
theorem vU {v:aa}(hb:aa.Bd v):∀ (level before:Int),0<=level->level<=33->0<=before->before<=4096->Ev2 (λ n _=>ew n v level before) (λ r=>0<=r.2/\r.2<=4096/\(r.1=0->GV v)):=by
 have hb0:=hb
 induction hb with
 | @mk x bKind bNum bStr bItems eItems bKeys eKeys ih=>
  intro level before h1 h2 h3 h4;have hl:=bItems;unfold a6 at hl;refine fC ?_;simp only [ew];refine ar (λ _=>ac ⟨h3,h4,λ q=>absurd (Int.ofNat.inj q) (by decide)⟩) (λ h5=>ar (λ _=>ac ⟨h3,h4,λ q=>absurd (Int.ofNat.inj q) (by decide)⟩) (λ h6=>?_));refine aM _ (xB hb0) (λ r hr=>ar (λ h0=>?_) (λ h0=>ac ⟨h3,h4,λ q=>absurd q h0⟩));have hnode:=hr h0;refine av (aZ O O) ?_
  have loop:∀ (k i:Nat) (c:Int),i+k=x.Ar.length->0<=c->c<=4096->Ev2 (λ n m=>dj (ew n) x level m c (i:Int)) (λ r=>(∀ e,r=.inr e->0<=e.2/\e.2<=4096/\e.1≠0)/\(∀ c',r=.inl c'->0<=c'/\c'<=4096/\∀ y∈x.Ar.drop i,GV y)):=by
   intro k
   induction k with
   | zero=>
    intro i c hi h7 h8;refine bQ ?_;simp only [dj];refine bb O (ac ⟨λ e q=>(by cases q),λ c' q=>?_⟩)
    cases q
    rw [List.drop_eq_nil_of_le O];exact ⟨h7,h8,λ y hy=>by cases hy⟩
   | succ k ihk=>
    intro i c hi h7 h8;have hd:=d8 x.Ar (i:=i) O;have hm:lat x.Ar (i:Int)∈x.Ar:=List.mem_of_mem_drop (hd ▸ List.mem_cons_self);refine bQ ?_;simp only [dj];refine bo O (av O (av (aZ O O) (aM _ (ih _ hm (eItems _ hm) (level+1) c O O  h7 h8) (λ q hq=>ar (λ hq0=>?_) (λ hq0=>ac ⟨λ e p=>(by cases p; exact ⟨hq.1,hq.2.1,hq0⟩),λ c' p=>(by cases p)⟩)))));refine av (aZ O O) ?_;refine gM (se (P:=λ j=>Ev2 (λ n m=>dj (ew n) x level m q.2 j) _) (ihk (i+1) q.2 O hq.1 hq.2.1)) (λ r hr2=>⟨hr2.1,λ c' p=>?_⟩);obtain ⟨a1,a2,a3⟩:=hr2.2 c' p;rw [hd];refine ⟨a1,a2,λ y hy=>?_⟩;rcases ur.1 hy with rfl|hy
    ·exact hq.2.2 hq0
    ·exact a3 y hy
  obtain ⟨r,hr1,N,hN⟩:=bM (f:=λ n m=>dj (ew n) x level m (before+1) 0) (loop x.Ar.length 0 (before+1) O O O)
  cases r with
  | inl c=>
   obtain ⟨a1,a2,a3⟩:=hr1.2 c rfl;exact qh c ⟨.inl c,rfl,N,hN⟩ (ac ⟨a1,a2,λ _=>.mk hnode (by simpa using a3)⟩)
  | inr e=>
   obtain ⟨a1,a2,a3⟩:=hr1.1 e rfl;exact sH e ⟨.inr e,rfl,N,hN⟩ ⟨a1,a2,λ q=>absurd q a3⟩
theorem rI {v:aa}(hb:aa.Bd v):Ev2 (λ n _=>eM n v) (λ r=>r=0->GV v):=by
 simp only [eM];exact aM _ (vU hb 1 0 (by decide) (by decide) (by decide) (by decide)) (λ r hr=>ac hr.2.2)
theorem lD:∀ a:Bk,Op.bytesLess a a=false
 | []=>rfl
 | a::x=>by simp [Op.bytesLess,lD x]
theorem xS:∀ {a b c:Bk},Op.bytesLess a b=true->Op.bytesLess b c=true->Op.bytesLess a c=true
 | _,[],_,h,_=>by simp [Op.bytesLess] at h
 | _,_::_,[],_,h=>by simp [Op.bytesLess] at h
 | [],_::_,_::_,_,_=>rfl
 | a::x,b::y,c::z,h1,h2=>by
  simp only [Op.bytesLess,Bool.or_eq_true,Bool.and_eq_true,decide_eq_true_eq,beq_iff_eq] at h1 h2 ⊢;rcases h1 with h1|⟨rfl,h1⟩
  ·rcases h2 with h2|⟨rfl,h2⟩
   ·exact .inl (UInt8.lt_trans h1 h2)
   ·exact .inl h1
  ·rcases h2 with h2|⟨rfl,h2⟩
   ·exact .inl h2
   ·exact .inr ⟨Z,xS h1 h2⟩
theorem uL:∀ {l:List Bk},Inc l->l.Pairwise λ a b=>Op.bytesLess a b=true
 | [],_=>.nil
 | [x],_=>List.pairwise_singleton _ _
 | x::y::r,h=>by
  have ih:=uL h.2;refine List.pairwise_cons.2 ⟨λ z hz=>?_,ih⟩;rcases ur.1 hz with rfl|hz
  ·exact h.1
  ·exact xS h.1 ((List.pairwise_cons.1 ih).1 z hz)
theorem qx {l:List Bk}(h:Inc l){i j:Nat}(hij:i<j)(hj:j<l.length):Op.bytesLess (lat l (i:Int)) (lat l (j:Int))=true:=by
 have:=List.pairwise_iff_getElem.1 (uL h) i j O hj hij;rw [ez _ _ (show i<l.length by omega),ez _ _ hj]; exact this
theorem wP (i j:Nat)(h:i+j<9223372036854775807):pi .u64 (IntKind.wrap .u64 ((i:Int)+(j:Int))) 1=(((i+j) / 2:Nat):Int):=by
 have e:IntKind.wrap .u64 ((i:Int)+(j:Int))=(i:Int)+(j:Int):=by
  simp [IntKind.wrap,IntKind.bits,IntKind.signed];omega
 rw [e];unfold pi;have:(2:Int)^(min (1:Int).toNat IntKind.u64.bits)=2:=by decide
 rw [this,Int.fdiv_eq_ediv_of_nonneg _ (by decide)];omega
theorem pq (x y:Bk):cmp_Less_string x y=some (Op.bytesLess x y):=by
 unfold cmp_Less_string cmp_isNaN_string;simp
theorem xL {l:List Bk}(hl:l.length<=1000000000000000)(h:Inc l){t:Nat}(ht:t<l.length):Ev2 (λ n _=>aY n l (lat l (t:Int))) (·=((t:Int),true)):=by
 simp only [aY]
 have loop:∀ (k i j:Nat),j-i<=k->i<=t->t<=j->j<=l.length->Ev2 (λ _ m=>aF l (lat l (t:Int)) m (i:Int) (j:Int)) (·=(t:Int)):=by
  intro k
  induction k with
  | zero=>
   intro i j hk h1 h2 h3;refine bQ ?_;simp only [aF];exact bb O (ac O)
  | succ k ih=>
   intro i j hk h1 h2 h3;refine bQ ?_;simp only [aF];rw [wP i j O];refine ar (λ hij=>?_) (λ hij=>ac O);by_cases hm:(i+j) / 2<t
   ·refine az ((((i+j) / 2+1:Nat):Int),(j:Int)) ?_ (ih _ j O O  h2 h3);refine av (aZ O O) (av (by decide) (av (aZ O O) (av O (az _ (dd (pq _ _) Z) (bo (qx h hm ht) (av (aZ O O) (ac ?_)))))));rw [Int.natCast_add]; rfl
   ·have hf:Op.bytesLess (lat l (((i+j) / 2:Nat):Int)) (lat l (t:Int))=false:=by
     rw [<- Bool.not_eq_true];intro q;rcases Nat.lt_or_ge t ((i+j) / 2) with h4|h4
     ·have:=xS (qx h h4 O) q;rw [lD] at this; cases this
     ·have:(i+j) / 2=t:=by omega
      rw [this,lD] at q; cases q
    refine az ((i:Int),(((i+j) / 2:Nat):Int)) ?_ (ih i _ O h1 O O);exact av (aZ O O) (av (by decide) (av (aZ O O) (av O (az _ (dd (pq _ _) Z) (bb (by rw [hf]; decide) (ac Z))))))
 refine az _ (bM (f:=λ _ m=>aF l (lat l (t:Int)) m 0 (l.length:Int)) (loop l.length 0 l.length O O O O)) ?_;exact az true (bo O (av O (bo Z (ac Z)))) (ac Z)
theorem pw {v y:aa}(h:y∈v.Ar):SizeOf.sizeOf y<SizeOf.sizeOf v:=by
 cases v
 simp only [aa.Ar] at h;have:=List.sizeOf_lt_of_mem h;simp only [aa.mk.sizeOf_spec];omega
theorem pE {α:Type} [Inhabited α] (l:List α)(i:Nat)(h:i<l.length):l.set i l[i]=l:=by
 apply List.ext_getElem G;intro j h1 h2;rw [List.getElem_set];split
 ·rename_i e; subst e; rfl
 ·rfl
theorem p6:∀ (N:Nat) (v:aa),SizeOf.sizeOf v<N->aa.Bd v->Ev2 (λ n _=>cg n v) (·=v):=by
 have hW:a6<=140737488355328:=by decide
 intro N
 induction N with
 | zero=>intro v h; omega
 | succ N ih=>
  intro v hv hb;have h1:=hb.bKeys; have h2:=hb.bItems;refine fC ?_;simp only [cg];refine av O (ar (λ h=>?_) (λ h=>av O ?_))
  ·have he:v.Ar=[]:=by simpa using h
   refine az () ?_ (ac (by cases v; simp only [aa.Ar] at he; subst he; rfl));refine bM (f:=λ n m=>eQ (cg n) m) (bQ ?_);simp only [eQ];exact bb G (ac (by trivial))
  ·have loop:∀ (k i:Nat),i+k=v.Ar.length->Ev2 (λ n m=>cU (cg n) v m (i:Int) v.Ar) (·=v.Ar):=by
    intro k
    induction k with
    | zero=>
     intro i hi;refine bQ ?_;simp only [cU];exact bb O (ac rfl)
    | succ k ihk=>
     intro i hi;have hil:i<v.Ar.length:=by omega
     refine bQ ?_;simp only [cU];refine bo O (av O ?_);rw [ez _ _ hil];have hmem:=List.getElem_mem hil;refine az _ (ih _ (by have:=pw hmem; omega) (hb.eItems _ hmem)) (av O (av (aZ O O) ?_));rw [Int.toNat_natCast,pE _ _ hil];have:=ihk (i+1) O;rw [Int.natCast_add,Int.natCast_one] at this;exact this
   exact az _ (bM (f:=λ n m=>cU (cg n) v m 0 v.Ar) (loop _ 0 (ro _))) (ac (aa.eta v))
end Go.Ab.R06
end
