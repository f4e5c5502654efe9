/- Texts of the proof, one behind the other. No statement is proved here. -/
import Derived.Test.YtapfhipodpbflaaGreatDoorZ46Ca
import Derived.Test.YtapfhipodpbflaaGreatDoorZ46Cb
import Derived.Test.YtapfhipodpbflaaGreatDoorZ46Cc
import Derived.Test.YtapfhipodpbflaaGreatDoorZ46Cd
set_option maxHeartbeats 4000000
section
namespace Go.Ab.R06
open Go.Proofs Go.Ab Go.Ab.RB
attribute [local irreducible] awp iJ bw aB dh AV.sub M dQ
def d5 (ES:aa->Int->Int->Option Int)(DC:aa)(levels_2:Int):Nat->Int->Int->Option Int|0,_,_=>none|m+1,n15,i16=>(if i16<(DC.Ar.length:Int) then some (decide (0<=n15))else some false : Option Bool).bind λ Fb=>if Fb=true then ck ((0:Int)<=i16/\i16<(DC.Ar.length:Int))<|ck (inR (levels_2-1))<|(ES (lat DC.Ar i16) n15 (levels_2-1)).bind λ FY=>ck (inR (i16+1))<|d5 ES DC levels_2 m FY (i16+1)else some n15
def fx:Nat->aa->Int->Int->Option Int|0,_,_,_=>none|n+1,DC,nodes_1,levels_2=>(if nodes_1<1 then some true else some (decide (levels_2<1)) : Option Bool).bind λ t2=>if t2=true then some (-1)else ck (inR (nodes_1-1))<|(d5 (fx n) DC levels_2 n (nodes_1-1) 0).bind λ n27=>some n27
theorem sF (n:Nat):∀ (DC:aa) (nodes_1:Int) (levels_2:Int) (r:Int),fx n DC nodes_1 levels_2=some r->aB Tryz.prog 69 [.agg (aa.cs DC),eI nodes_1,eI levels_2] (·=.p (eI r)):=by
 induction n with
 | zero=>intro DC nodes_1 levels_2 r h0; cases h0
 | succ n ih=>
 have E6:=ih;intro DC nodes_1 levels_2 r h0;rw [fx] at h0;refine aR good Tryz.func69 Z Z Z λ w0=>mP (λ v:Int=>.p (eI v)) ?_;refine nx 7 Z (bd h0 λ Ix h1 h0=>?_);refine kN Ix (λ Io=>⟨[(1,.p (eI nodes_1)),(2,.p (eI levels_2)),(3,.ptr 3 0),(14,.p (eB Io))],[(3,(aa.cs DC).map .p)]⟩) ?_ ?_
 ·refine nx 1 Z (fB [14] h0 Z (λ c3 h0=>?_) λ c3 h0=>?_)
  ·exact nx 6 Z (mQ (oi h0) Z (sr))
  refine nx 5 Z (oA h0 Z Z λ G5 h0=>?_);refine nx 8 Z (bd h0 λ FC h1 h0=>?_);refine kE 0 FC (λ Gu=>⟨[(7,.p (eI Gu))],[]⟩) ?_ ?_
  ·exact nx 7 Z (mQ (oi h0) Z (sr))
  refine lG (λ (Fe:Int×Int)=>⟨[(2,.p (eI levels_2)),(3,.ptr 3 0),(7,.p (eI Fe.1)),(8,.p (eI Fe.2))],[(3,(aa.cs DC).map .p)]⟩) (λ m (Fe:Int×Int)=>d5 (fx n) DC levels_2 m Fe.1 Fe.2) Y (nodes_1-1,0) h1 (gE rfl rfl) ?_;rintro m ⟨n15,i16⟩ h1;replace h1:d5 (fx n) DC levels_2 (m+1) n15 i16=some FC:=h1;rw [d5] at h1;refine nx 2 rfl (bd h1 λ Hk h2 h1=>?_);refine kN Hk (λ v37=>⟨[(2,.p (eI levels_2)),(3,.ptr 3 0),(7,.p (eI n15)),(8,.p (eI i16)),(25,.p (eB v37))],[(3,(aa.cs DC).map .p)]⟩) ?_ ?_
  ·refine nx 1 Z (fB [25] h1 Z (λ FW h1=>?_) λ FW h1=>?_)
   ·refine nx 8 Z (oE h1 aa.CM Z Z Y λ Ep h1=>?_);refine nx 3 Z (oA h1 Z Z λ GN h1=>?_);refine bd h1 λ FY Kd h1=>oK (E6 (lat DC.Ar i16) n15 (levels_2-1) _ Kd) Z ⟨sr,sr,sr,trivial⟩ Tryz.call69 Z (nx 4 Z ?_);exact oA h1 Z Z λ FQ h1=>nx 2 Z (eX (FY,i16+1) h1 (gE Z Z))
   exact nx 2 Z (eXi _ (oi h1).symm (gE Z Z))
  refine nx 4 Z (oLl (f:=ag) Z Z ?_);refine nx 2 Z (fD [21,22] h2 Z (λ FE h2=>?_) λ FE h2=>?_)
  ·exact nx 4 Z (eX _ (oi h2).symm (gE Z Z))
  exact nx 4 Z (eX _ (oi h2).symm (gE Z Z))
 refine nx 4 Z (fD [10,11] h1 Z (λ c1 h1=>?_) λ c1 h1=>?_)
 ·exact nx 4 Z (eX _ (oi h1).symm (gE Z Z))
 exact nx 4 Z (eX _ (oi h1).symm (gE Z Z))
def d7 (ET:aa->Option Int)(DC:aa):Nat->Int->Int->Option Int|0,_,_=>none|m+1,n9,i10=>if i10<(DC.Ar.length:Int) then ck ((0:Int)<=i10/\i10<(DC.Ar.length:Int))<|(ET (lat DC.Ar i10)).bind λ FH=>ck (inR (n9+FH))<|ck (inR (i10+1))<|d7 ET DC m (n9+FH) (i10+1)else some n9
def fH:Nat->aa->Option Int|0,_=>none|n+1,DC=>(d7 (fH n) DC n (DC.AT.length:Int) 0).bind λ n19=>some n19
theorem sw (n:Nat):∀ (DC:aa) (r:Int),fH n DC=some r->aB Tryz.prog 70 [.agg (aa.cs DC)] (·=.p (eI r)):=by
 induction n with
 | zero=>intro DC r h0; cases h0
 | succ n ih=>
 have E7:=ih;intro DC r h0;rw [fH] at h0;refine aR good Tryz.func70 Z Z Z λ w0=>mP (λ v:Int=>.p (eI v)) ?_;refine nx 9 Z (oLl (f:=eS) Z Z ?_);refine nx 8 Z (bd h0 λ Ih h1 h0=>?_);refine kE 0 Ih (λ Iq=>⟨[(3,.p (eI Iq))],[]⟩) ?_ ?_
 ·exact nx 7 Z (mQ (oi h0) Z (sr))
 refine lG (λ (F1:Int×Int)=>⟨[(1,.ptr 1 0),(3,.p (eI F1.1)),(4,.p (eI F1.2))],[(1,(aa.cs DC).map .p)]⟩) (λ m (F1:Int×Int)=>d7 (fH n) DC m F1.1 F1.2) Y ((DC.AT.length:Int),0) h1 (gE rfl rfl) ?_;rintro m ⟨n9,i10⟩ h1;replace h1:d7 (fH n) DC (m+1) n9 i10=some Ih:=h1;rw [d7] at h1;refine nx 6 rfl (oLl (f:=ag) rfl rfl ?_);refine nx 2 rfl (fD [12] h1 rfl (λ Fp h1=>?_) λ Fp h1=>?_)
 ·refine nx 9 Z (oE h1 aa.CM Z Z Y λ Fu h1=>?_);refine nx 1 Z (bd h1 λ FH IW h1=>?_);refine oK (E7 (lat DC.Ar i10) _ IW) Z ⟨sr,trivial⟩ Tryz.call70 Z (oA h1 Z Z λ E8 h1=>?_);refine nx 4 Z (oA h1 Z Z λ E3 h1=>?_);exact nx 2 Z (eX (n9+FH,i10+1) h1 (gE Z Z))
 exact nx 2 Z (eXi _ (oi h1).symm (gE Z Z))
def g6 (n:Nat)(DC:aa)(nodes_1:Int):Option Bool :=((fx n DC nodes_1 40).bind λ r1=>if 0<=r1 then(fH n DC).bind λ r4=>ck (inR (2*nodes_1))<|some (decide (r4<=2*nodes_1))else some false : Option Bool).bind λ t7=>some t7
theorem mC (n:Nat)(DC:aa)(nodes_1:Int)(r:Bool)(h0:g6 n DC nodes_1=some r):aB Tryz.prog 37 [.agg (aa.cs DC),eI nodes_1] (·=.p (eB r)):=by
 unfold g6 at h0;refine aR good Tryz.func37 Z Z Z λ w0=>mP (λ v:Bool=>.p (eB v)) ?_;refine nx 6 Z (bd h0 λ o9 h1 h0=>?_);refine kN o9 (λ HL=>⟨[(4,.p (eB HL))],[]⟩) ?_ ?_
 ·exact nx 2 Z (mQ (oi h0) Z (sr))
 refine nx 3 Z (bd h1 λ r1 e2 h1=>?_);refine oK (sF _ DC nodes_1 40 _ e2) Z ⟨sr,sr,sr,trivial⟩ Tryz.call69 Z (nx 2 Z ?_);refine fD [8,9] h1 Z (λ c3 h1=>?_) λ c3 h1=>?_
 ·refine nx 1 Z (bd h1 λ r4 e5 h1=>?_);refine oK (sw _ DC _ e5) Z ⟨sr,trivial⟩ Tryz.call70 Z (nx 1 Z ?_);exact oA h1 Z Z λ HE h1=>nx 4 Z (eX _ (oi h1).symm (gE Z Z))
 exact nx 8 Z (eX _ (oi h1).symm (gE Z Z))
def ji (DC:aa):Option Bool :=(if DC.AI=2 then some true else if DC.AI=1 then if DC.BY=0 then some true else if DC.BY=1 then some true else some (decide (DC.BY=0))else some (decide (DC.BY=0)) : Option Bool).bind λ num5=>(if DC.AI=3 then some true else some (decide (DC.CK=([]:Bk))) : Option Bool).bind λ str7=>(if DC.AI=4 then some true else if DC.AI=5 then some true else some (decide ((DC.Ar.length:Int)=0)) : Option Bool).bind λ items10=>(if DC.AI=5 then if (DC.AT.length:Int)=(DC.Ar.length:Int) then some true else some false else some (decide ((DC.AT.length:Int)=0)) : Option Bool).bind λ keys13=>(if 0<=DC.AI then if DC.AI<=6 then if num5=true then if str7=true then if items10=true then some keys13 else some false else some false else some false else some false else some false : Option Bool).bind λ Jo=>some Jo
theorem qA (DC:aa)(r:Bool)(h0:ji DC=some r):aB Tryz.prog 132 [.agg (aa.cs DC)] (·=.p (eB r)):=by
 unfold ji at h0;refine aR good Tryz.func132 Z Z Z λ w0=>mP (λ v:Bool=>.p (eB v)) ?_;refine nx 6 Z (bd h0 λ GA h1 h0=>?_);refine kN GA (λ Hw=>⟨[(1,.ptr 1 0),(3,.p (eB Hw))],[(1,(aa.cs DC).map .p)]⟩) ?_ ?_
 ·refine nx 2 Z (bd h0 λ o27 h1 h0=>?_);refine kN o27 (λ v28=>⟨[(1,.ptr 1 0),(3,.p (eB GA)),(4,.p (eB v28))],[(1,(aa.cs DC).map .p)]⟩) ?_ ?_
  ·refine nx 2 Z (bd h0 λ JL h1 h0=>?_);refine kN JL (λ I2=>⟨[(1,.ptr 1 0),(3,.p (eB GA)),(4,.p (eB o27)),(5,.p (eB I2))],[(1,(aa.cs DC).map .p)]⟩) ?_ ?_
   ·refine nx 2 Z (bd h0 λ Ix h1 h0=>?_);refine kN Ix (λ Io=>⟨[(1,.ptr 1 0),(3,.p (eB GA)),(4,.p (eB o27)),(5,.p (eB JL)),(6,.p (eB Io))],[(1,(aa.cs DC).map .p)]⟩) ?_ ?_
    ·refine nx 2 Z (bd h0 λ FC h1 h0=>?_);refine kN FC (λ Gu=>⟨[(2,.p (eB Gu))],[]⟩) ?_ ?_
     ·exact nx 2 Z (mQ (oi h0) Z (sr))
     refine nx 5 Z (fD [77,78] h1 Z (λ FF h1=>?_) λ FF h1=>?_)
     ·refine nx 5 Z (fD [81,82,83] h1 Z (λ H5 h1=>?_) λ H5 h1=>?_)
      ·refine nx 3 Z (fB [3,84,85,86] h1 Z (λ GX h1=>?_) λ GX h1=>?_)
       ·refine nx 3 Z (fB [4,87,88,89] h1 Z (λ FE h1=>?_) λ FE h1=>?_)
        ·refine nx 3 Z (fB [5,90,91,92] h1 Z (λ Ko h1=>?_) λ Ko h1=>?_)
         ·exact nx 4 Z (eX _ (oi h1).symm (gE Z Z))
         exact nx 4 Z (eX _ (oi h1).symm (gE Z Z))
        exact nx 7 Z (eX _ (oi h1).symm (gE Z Z))
       exact nx 10 Z (eX _ (oi h1).symm (gE Z Z))
      exact nx 13 Z (eX _ (oi h1).symm (gE Z Z))
     exact nx 18 Z (eX _ (oi h1).symm (gE Z Z))
    refine nx 5 Z (fD [54,55] h1 Z (λ Fp h1=>?_) λ Fp h1=>?_)
    ·refine nx 2 Z (oLl (f:=eS) Z Z ?_);refine nx 2 Z (oLl (f:=ag) Z Z ?_);refine nx 3 Z (fD [62,63,64] h1 Z (λ F4 h1=>?_) λ F4 h1=>?_)
     ·exact nx 12 Z (eX _ (oi h1).symm (gE Z Z))
     refine nx 4 Z (lT [68] (yZ Fp) Z ?_);exact nx 8 Z (eX _ (oi h1).symm (gE Z Z))
    refine nx 13 Z (lT [68] (Az Fp) Z ?_);refine nx 2 Z (oLl (f:=eS) Z Z ?_);exact nx 5 Z (eX _ (oi h1).symm (gE Z Z))
   refine nx 5 Z (fD [40,41] h1 Z (λ c8 h1=>?_) λ c8 h1=>?_)
   ·exact nx 12 Z (eX _ (oi h1).symm (gE Z Z))
   refine nx 5 Z (fD [44,45,46] h1 Z (λ c9 h1=>?_) λ c9 h1=>?_)
   ·exact nx 7 Z (eX _ (oi h1).symm (gE Z Z))
   refine nx 2 Z (oLl (f:=ag) Z Z ?_);exact nx 4 Z (eX _ (oi h1).symm (gE Z Z))
  refine nx 5 Z (fD [32,33] h1 Z (λ c6 h1=>?_) λ c6 h1=>?_)
  ·exact nx 6 Z (eX _ (oi h1).symm (gE Z Z))
  refine nx 2 Z (oS Z Z ?_);exact nx 3 Z (eX _ (oi h1).symm (gE Z Z))
 refine nx 5 Z (fD [9,10] h1 Z (λ c1 h1=>?_) λ c1 h1=>?_)
 ·exact nx 21 Z (eX _ (oi h1).symm (gE Z Z))
 refine nx 4 Z (fD [13,14] h1 Z (λ c2 h1=>?_) λ c2 h1=>?_)
 ·refine nx 4 Z (fD [17,18] h1 Z (λ c3 h1=>?_) λ c3 h1=>?_)
  ·exact nx 13 Z (eX _ (oi h1).symm (gE Z Z))
  refine nx 7 Z (fD [21,22,23,24,25] h1 Z (λ c4 h1=>?_) λ c4 h1=>?_)
  ·exact nx 6 Z (eX _ (oi h1).symm (gE Z Z))
  exact nx 6 Z (eX _ (oi h1).symm (gE Z Z))
 exact nx 17 Z (eX _ (oi h1).symm (gE Z Z))
def jM (n:Nat)(Dz:Bk):Option Int :=if 4096<(Dz.length:Int) then some 3 else(kb n Dz).bind λ r2=>if (!r2)=true then some 1 else some 0
theorem nY (n:Nat)(Dz:Bk)(r:Int)(h0:jM n Dz=some r):aB Tryz.prog 134 [eS Dz] (·=.p (eI r)):=by
 unfold jM at h0;refine aR good Tryz.func134 Z Z Z λ w0=>mP (λ v:Int=>.p (eI v)) ?_;refine nx 8 Z (oLs Z ?_);refine nx 2 Z (fD [5] h0 Z (λ c1 h0=>?_) λ c1 h0=>?_)
 ·exact nx 6 Z (mQ (oi h0) Z (sr))
 refine nx 6 Z (bd h0 λ r2 e3 h0=>?_);refine oK (rm _ Dz _ e3) Z ⟨sr,trivial⟩ Tryz.call159 Z (nx 2 Z ?_);refine fB [8] h0 Z (λ c4 h0=>?_) λ c4 h0=>?_
 ·exact nx 6 Z (mQ (oi h0) Z (sr))
 exact nx 7 Z (mQ (oi h0) Z (sr))
def dY (n:Nat)(DC:aa):Nat->Int->Option (Unit⊕Int)|0,_=>none|m+1,i25=>if i25<(DC.AT.length:Int) then ck ((0:Int)<=i25/\i25<(DC.AT.length:Int))<|(jM n (lat DC.AT i25)).bind λ Fh=>if Fh=0 then(if 0<i25 then ck (inR (i25-1))<|ck ((0:Int)<=i25-1/\i25-1<(DC.AT.length:Int))<|ck ((0:Int)<=i25/\i25<(DC.AT.length:Int))<|some (!Op.bytesLess (lat DC.AT (i25-1)) (lat DC.AT i25))else some false : Option Bool).bind λ Eh=>if Eh=true then some (.inr 1)else ck (inR (i25+1))<|dY n DC m (i25+1)else some (.inr Fh)else some (.inl ())
def kP (n:Nat)(DC:aa):Option Int :=(ji DC).bind λ r1=>if (!r1)=true then some 1 else(if DC.AI=2 then(lj DC.BY).bind λ r5=>some (!r5)else some false : Option Bool).bind λ t7=>if t7=true then some 5 else(jM n DC.CK).bind λ r9=>if r9=0 then jn (dY n DC n 0) λ _H8=>some 0 else some r9
theorem sA (n:Nat)(DC:aa)(r:Int)(h0:kP n DC=some r):aB Tryz.prog 104 [.agg (aa.cs DC)] (·=.p (eI r)):=by
 unfold kP at h0;refine aR good Tryz.func104 Z Z Z λ w0=>mP (λ v:Int=>.p (eI v)) ?_;refine nx 9 Z (bd h0 λ r1 e2 h0=>?_);refine oK (qA DC _ e2) Z ⟨sr,trivial⟩ Tryz.call132 Z (nx 2 Z ?_);refine fB [8] h0 Z (λ c3 h0=>?_) λ c3 h0=>?_
 ·exact nx 6 Z (mQ (oi h0) Z (sr))
 refine nx 4 Z (bd h0 λ o42 h1 h0=>?_);refine kN o42 (λ Jj=>⟨[(1,.ptr 1 0),(17,.p (eB Jj))],[(1,(aa.cs DC).map .p)]⟩) ?_ ?_
 ·refine nx 1 Z (fB [17] h0 Z (λ c8 h0=>?_) λ c8 h0=>?_)
  ·exact nx 6 Z (mQ (oi h0) Z (sr))
  refine nx 7 Z (bd h0 λ r9 Kg h0=>?_);refine oK (nY _ DC.CK _ Kg) Z ⟨sr,trivial⟩ Tryz.call134 Z (nx 7 Z ?_);refine fN [22] h0 Z (λ Fp h0=>?_) λ Fp h0=>?_
  ·refine nx 8 rfl ?_;obtain ⟨If,h1,Eg,hR0⟩:=fj h0;refine kEx 0 (λ HH:Unit=>If=.inl HH) (λ HH=>⟨[],[]⟩) (λ HH hv=>?_) ?_
   ·have h0:=Eg _ hv;exact nx 6 Z (mQ (oi h0) Z (sr))
   refine lG (λ (Gx:Int)=>⟨[(1,.ptr 1 0),(4,.p (eI Gx))],[(1,(aa.cs DC).map .p)]⟩) (λ m (Gx:Int)=>dY n DC m Gx) Y 0 h1 (gE rfl rfl) ?_;rintro m i25 h1;replace h1:dY n DC (m+1) i25=some If:=h1;rw [dY] at h1;refine nx 6 rfl (oLl (f:=eS) rfl rfl ?_);refine nx 2 rfl (fD [28] h1 rfl (λ Km h1=>?_) λ Km h1=>?_)
   ·refine nx 10 Z (oE h1 Y Z Z Y λ IP h1=>?_);refine nx 1 Z (bd h1 λ Fh IS h1=>?_);refine oK (nY _ (lat DC.AT i25) _ IS) Z ⟨sr,trivial⟩ Tryz.call134 Z (nx 7 Z ?_);refine fN [38] h1 Z (λ Gm h1=>?_) λ Gm h1=>?_
    ·refine nx 3 Z (bd h1 λ Fo h2 h1=>?_);refine kN Fo (λ HG=>⟨[(1,.ptr 1 0),(4,.p (eI i25)),(55,.p (eB HG))],[(1,(aa.cs DC).map .p)]⟩) ?_ ?_
     ·refine nx 1 Z (fB [55] h1 Z (λ GW h1=>?_) λ GW h1=>?_)
      ·exact nx 6 Z (mQ (hR0 _ (oi h1).symm) Z (sr))
      refine nx 4 Z (oA h1 Z Z λ Gb h1=>?_);exact nx 2 Z (eX (i25+1) h1 (gE Z Z))
     refine fD (p:=0<i25) [] h2 Z (λ Kl h2=>?_) λ Kl h2=>?_
     ·refine cc' h2 λ Gd h2=>cc' h2 λ H1 h2=>cc' h2 λ Hq h2=>mD [(1,.ptr 1 0),(4,.p (eI i25))] Z ⟨Z,Z,trivial⟩ Z (dR 1 Z ?_);refine dL (dt Kl) Z (dR 4 Z ?_);refine dq (.p (eI (i25-1))) [42,45] Z (λ _ e _ q=>fI (oQ Z Z Z (e _ _ Z) Z Z Gd q) Z Z (e _ _ Z) (rfl)) Z (dq (.rptr [eS (lat DC.AT (i25-1))]) [42,44,46] Z (λ _ e _ q=>fI (dV (f:=eS) (l:=DC.AT) (λ x=>[eS x]) Z Z Z Z Z Z (e _ _ Z) Z (e _ _ Z) H1 Y Y q) Z Z (e _ _ Z) (rfl)) Z ?_);refine dR 4 Z (dq (.rptr [eS (lat DC.AT i25)]) [42,50,51] Z (λ _ e _ q=>fI (dV (f:=eS) (l:=DC.AT) (λ x=>[eS x]) Z Z Z Z Z Z (e _ _ Z) Z (e _ _ Z) Hq Y Y q) Z Z (e _ _ Z) (rfl)) Z ?_);refine dR 1 Z (dq (.p (eB (!Op.bytesLess (lat DC.AT (i25-1)) (lat DC.AT i25)))) [42,48,53] Z (λ _ e _ q=>fI (kx Z Z Z (e _ _ Z) (e _ _ Z) Z q) Z Z (e _ _ Z) (rfl)) Z ?_);refine dR 1 Z (dE Z ?_);exact nx 1 Z (eX _ (oi h2).symm (gE Z Z))
     refine mD [(1,.ptr 1 0),(4,.p (eI i25))] Z ⟨Z,Z,trivial⟩ Z (dR 1 Z ?_);refine dL (df Kl) Z (dR 14 Z ?_);refine dE Z (nx 1 Z ?_);exact eX _ (oi h2).symm (gE Z Z)
    exact nx 7 Z (mQ (hR0 _ (oi h1).symm) Z (sr))
   exact nx 2 Z (eXi _ (oi h1).symm (gE Z Z))
  exact nx 7 Z (mQ (oi h0) Z (sr))
 refine nx 5 Z (fD [11,12] h1 Z (λ c4 h1=>?_) λ c4 h1=>?_)
 ·refine nx 2 Z (bd h1 λ r5 e6 h1=>?_);refine oK (rr DC.BY _ e6) Z ⟨sr,trivial⟩ Tryz.call133 Z (nx 3 Z ?_);exact eX _ (oi h1).symm (gE Z Z)
 exact nx 6 Z (eX _ (oi h1).symm (gE Z Z))
def cn (EF:aa->Int->Int->Option (Int×Int))(DC:aa)(DJ:Int):Nat->Int->Int->Option (Int⊕(Int×Int))|0,_,_=>none|m+1,n16,i17=>if i17<(DC.Ar.length:Int) then ck ((0:Int)<=i17/\i17<(DC.Ar.length:Int))<|ck (inR (DJ+1))<|(EF (lat DC.Ar i17) (DJ+1) n16).bind λ Ez=>if Ez.1=0 then ck (inR (i17+1))<|cn EF DC DJ m Ez.2 (i17+1)else some (.inr (Ez.1,Ez.2))else some (.inl n16)
def dl:Nat->aa->Int->Int->Option (Int×Int)|0,_,_,_=>none|n+1,DC,DJ,D6=>if 32<DJ then some (4,D6)else if 4096<=D6 then some (14,D6)else(kP n DC).bind λ r3=>if r3=0 then ck (inR (D6+1))<|jn (cn (dl n) DC DJ n (D6+1) 0) λ n27=>some (0,n27)else some (r3,D6)
theorem rG (n:Nat):∀ (DC:aa) (DJ:Int) (D6:Int) (r:Int×Int),dl n DC DJ D6=some r->aB Tryz.prog 71 [.agg (aa.cs DC),eI DJ,eI D6] (·=.tuple [.p (eI r.1),.p (eI r.2)]):=by
 induction n with
 | zero=>intro DC DJ D6 r h0; cases h0
 | succ n ih=>
 have E0:=ih;intro DC DJ D6 r h0;rw [dl] at h0;refine aR good Tryz.func71 Z Z Z λ w0=>mP (λ v:Int×Int=>.tuple [.p (eI v.1),.p (eI v.2)]) ?_;refine nx 12 Z (fD [14] h0 Z (λ c1 h0=>?_) λ c1 h0=>?_)
 ·exact nx 8 Z (mQ (oi h0) Z (cm ⟨sr,sr,trivial⟩))
 refine nx 8 Z (fD [17] h0 Z (λ c2 h0=>?_) λ c2 h0=>?_)
 ·exact nx 8 Z (mQ (oi h0) Z (cm ⟨sr,sr,trivial⟩))
 refine nx 6 Z (bd h0 λ r3 e4 h0=>?_);refine oK (sA _ DC _ e4) Z ⟨sr,trivial⟩ Tryz.call104 Z (nx 7 Z ?_);refine fN [22] h0 Z (λ c5 h0=>?_) λ c5 h0=>?_
 ·refine nx 5 rfl (oA h0 Z Z λ HE h0=>?_);refine nx 8 rfl ?_;obtain ⟨JL,h1,Eg,hR0⟩:=fj h0;refine kEx 0 (λ I2:Int=>JL=.inl I2) (λ I2=>⟨[(9,.p (eI I2))],[]⟩) (λ I2 hv=>?_) ?_
  ·have h0:=Eg _ hv;exact nx 8 Z (mQ (oi h0) Z (cm ⟨sr,sr,trivial⟩))
  refine lG (λ (JB:Int×Int)=>⟨[(1,.p (eI DJ)),(3,.ptr 3 0),(9,.p (eI JB.1)),(10,.p (eI JB.2))],[(3,(aa.cs DC).map .p)]⟩) (λ m (JB:Int×Int)=>cn (dl n) DC DJ m JB.1 JB.2) Y (D6+1,0) h1 (gE rfl rfl) ?_;rintro m ⟨n16,i17⟩ h1;replace h1:cn (dl n) DC DJ (m+1) n16 i17=some JL:=h1;rw [cn] at h1;refine nx 6 rfl (oLl (f:=ag) rfl rfl ?_);refine nx 2 rfl (fD [31] h1 rfl (λ Ko h1=>?_) λ Ko h1=>?_)
  ·refine nx 9 Z (oE h1 aa.CM Z Z Y λ Hr h1=>?_);refine nx 2 Z (oA h1 Z Z λ Ep h1=>?_);refine nx 1 Z (bd h1 λ Ez Hs h1=>?_);refine oK (E0 (lat DC.Ar i17) (DJ+1) n16 _ Hs) Z ⟨sr,sr,sr,trivial⟩ Tryz.call71 Z (nx 12 Z ?_);refine fN [47] h1 Z (λ FB h1=>?_) λ FB h1=>?_
   ·refine nx 8 Z (oA h1 Z Z λ FQ h1=>?_);exact nx 2 Z (eX (Ez.2,i17+1) h1 (gE Z Z))
   refine nx 8 Z (mG (gE (t:=⟨[(6,.p (eI Ez.1)),(7,.p (eI Ez.2))],[]⟩) Z Z) ?_);exact nx 1 Z (mQ (hR0 _ (oi h1).symm) Z (cm ⟨sr,sr,trivial⟩))
  exact nx 2 Z (eXi _ (oi h1).symm (gE Z Z))
 exact nx 9 Z (mQ (oi h0) Z (cm ⟨sr,sr,trivial⟩))
def et (n:Nat)(DC:aa):Option Int :=(dl n DC 1 0).bind λ r1=>some r1.1
theorem nu (n:Nat)(DC:aa)(r:Int)(h0:et n DC=some r):aB Tryz.prog 38 [.agg (aa.cs DC)] (·=.p (eI r)):=by
 unfold et at h0;refine aR good Tryz.func38 Z Z Z λ w0=>mP (λ v:Int=>.p (eI v)) ?_;refine nx 8 Z (bd h0 λ r1 e2 h0=>?_);refine oK (rG _ DC 1 0 _ e2) Z ⟨sr,sr,sr,trivial⟩ Tryz.call71 Z (nx 12 Z ?_);exact mQ (oi h0) Z (sr)
def iT (n:Nat)(DC:aa):Option Bool :=(if DC.AI=0 then(g6 n DC 60).bind λ r2=>if r2=true then(et n DC).bind λ r5=>some (decide (r5=0))else some false else if DC.AI=5 then(g6 n DC 60).bind λ r8=>if r8=true then(et n DC).bind λ Fi=>some (decide (Fi=0))else some false else some false : Option Bool).bind λ Et=>some Et
theorem mR (n:Nat)(DC:aa)(r:Bool)(h0:iT n DC=some r):aB Tryz.prog 23 [.agg (aa.cs DC)] (·=.p (eB r)):=by
 unfold iT at h0;refine aR good Tryz.func23 Z Z Z λ w0=>mP (λ v:Bool=>.p (eB v)) ?_;refine nx 6 Z (bd h0 λ Gs h1 h0=>?_);refine kN Gs (λ F5=>⟨[(2,.p (eB F5))],[]⟩) ?_ ?_
 ·exact nx 2 Z (mQ (oi h0) Z (sr))
 refine nx 5 Z (fD [5,6] h1 Z (λ c1 h1=>?_) λ c1 h1=>?_)
 ·refine nx 6 Z (bd h1 λ r2 e3 h1=>?_);refine oK (mC _ DC 60 _ e3) Z ⟨sr,sr,trivial⟩ Tryz.call37 Z (nx 2 Z ?_);refine fB [13,14,15] h1 Z (λ c4 h1=>?_) λ c4 h1=>?_
  ·refine nx 1 Z (bd h1 λ r5 e6 h1=>?_);refine oK (nu _ DC _ e6) Z ⟨sr,trivial⟩ Tryz.call38 Z (nx 4 Z ?_);exact eX _ (oi h1).symm (gE Z Z)
  exact nx 6 Z (eX _ (oi h1).symm (gE Z Z))
 refine nx 5 Z (fD [9,10,11] h1 Z (λ c7 h1=>?_) λ c7 h1=>?_)
 ·refine nx 1 Z (bd h1 λ r8 e9 h1=>?_);refine oK (mC _ DC 60 _ e9) Z ⟨sr,sr,trivial⟩ Tryz.call37 Z (nx 2 Z ?_);refine fB [13,14,15] h1 Z (λ Fq h1=>?_) λ Fq h1=>?_
  ·refine nx 1 Z (bd h1 λ Fi GU h1=>?_);refine oK (nu _ DC _ GU) Z ⟨sr,trivial⟩ Tryz.call38 Z (nx 4 Z ?_);exact eX _ (oi h1).symm (gE Z Z)
  exact nx 6 Z (eX _ (oi h1).symm (gE Z Z))
 exact nx 10 Z (eX _ (oi h1).symm (gE Z Z))
def jp (n:Nat)(DU:av):Option Bool :=(if 300<(DU.CZ.length:Int) then some true else if 300<(DU.C1.length:Int) then some true else some (decide (20<(DU.CX.length:Int))) : Option Bool).bind λ t3=>if t3=true then some false else((iT n DU.CS).bind λ r5=>if r5=true then(iT n DU.CR).bind λ r8=>if r8=true then some true else some (decide (DU.CR.AI=6))else some false : Option Bool).bind λ Ec=>some Ec
theorem qh (n:Nat)(DU:av)(r:Bool)(h0:jp n DU=some r):aB Tryz.prog 10 [.agg (av.cs DU)] (·=.p (eB r)):=by
 unfold jp at h0;refine aR good Tryz.func10 Z Z Z λ w0=>mP (λ v:Bool=>.p (eB v)) ?_;refine nx 7 Z (bd h0 λ o14 h1 h0=>?_);refine kN o14 (λ v15=>⟨[(1,.ptr 1 0),(18,.p (eB v15))],[(1,(av.cs DU).map .p)]⟩) ?_ ?_
 ·refine nx 1 Z (fB [18] h0 Z (λ c4 h0=>?_) λ c4 h0=>?_)
  ·exact nx 6 Z (mQ (oi h0) Z (sr))
  refine nx 3 Z (bd h0 λ Gr h1 h0=>?_);refine kN Gr (λ FJ=>⟨[(2,.p (eB FJ))],[]⟩) ?_ ?_
  ·exact nx 2 Z (mQ (oi h0) Z (sr))
  refine nx 3 Z (bd h1 λ r5 e6 h1=>?_);refine oK (mR _ DU.CS _ e6) Z ⟨sr,trivial⟩ Tryz.call23 Z (nx 1 Z ?_);refine fB [21,22] h1 Z (λ c7 h1=>?_) λ c7 h1=>?_
  ·refine nx 2 Z (bd h1 λ r8 e9 h1=>?_);refine oK (mR _ DU.CR _ e9) Z ⟨sr,trivial⟩ Tryz.call23 Z (nx 1 Z ?_);refine fB [25,26] h1 Z (λ Fq h1=>?_) λ Fq h1=>?_
   ·exact nx 8 Z (eX _ (oi h1).symm (gE Z Z))
   exact nx 8 Z (eX _ (oi h1).symm (gE Z Z))
  exact nx 12 Z (eX _ (oi h1).symm (gE Z Z))
 refine nx 3 Z (oLs Z ?_);refine nx 2 Z (fD [6,7] h1 Z (λ c1 h1=>?_) λ c1 h1=>?_)
 ·exact nx 12 Z (eX _ (oi h1).symm (gE Z Z))
 refine nx 2 Z (oLs Z ?_);refine nx 3 Z (fD [11,12,13] h1 Z (λ c2 h1=>?_) λ c2 h1=>?_)
 ·exact nx 6 Z (eX _ (oi h1).symm (gE Z Z))
 refine nx 2 Z (oLl (f:=eS) Z Z ?_);exact nx 3 Z (eX _ (oi h1).symm (gE Z Z))
def d6 (ER:ak->Int->Int->Option Int)(DL:ak)(levels_2:Int):Nat->Int->Int->Option Int|0,_,_=>none|m+1,n15,i16=>(if i16<(DL.CP.length:Int) then some (decide (0<=n15))else some false : Option Bool).bind λ Fb=>if Fb=true then ck ((0:Int)<=i16/\i16<(DL.CP.length:Int))<|ck (inR (levels_2-1))<|(ER (lat DL.CP i16) n15 (levels_2-1)).bind λ FY=>ck (inR (i16+1))<|d6 ER DL levels_2 m FY (i16+1)else some n15
def fE:Nat->ak->Int->Int->Option Int|0,_,_,_=>none|n+1,DL,nodes_1,levels_2=>(if nodes_1<1 then some true else some (decide (levels_2<1)) : Option Bool).bind λ t2=>if t2=true then some (-1)else ck (inR (nodes_1-1))<|(d6 (fE n) DL levels_2 n (nodes_1-1) 0).bind λ n27=>some n27
theorem sJ (n:Nat):∀ (DL:ak) (nodes_1:Int) (levels_2:Int) (r:Int),fE n DL nodes_1 levels_2=some r->aB Tryz.prog 83 [.agg (ak.cs DL),eI nodes_1,eI levels_2] (·=.p (eI r)):=by
 induction n with
 | zero=>intro DL nodes_1 levels_2 r h0; cases h0
 | succ n ih=>
 have E5:=ih;intro DL nodes_1 levels_2 r h0;rw [fE] at h0;refine aR good Tryz.func83 Z Z Z λ w0=>mP (λ v:Int=>.p (eI v)) ?_;refine nx 7 Z (bd h0 λ Ix h1 h0=>?_);refine kN Ix (λ Io=>⟨[(1,.p (eI nodes_1)),(2,.p (eI levels_2)),(3,.ptr 3 0),(14,.p (eB Io))],[(3,(ak.cs DL).map .p)]⟩) ?_ ?_
 ·refine nx 1 Z (fB [14] h0 Z (λ c3 h0=>?_) λ c3 h0=>?_)
  ·exact nx 6 Z (mQ (oi h0) Z (sr))
  refine nx 5 Z (oA h0 Z Z λ G5 h0=>?_);refine nx 8 Z (bd h0 λ FC h1 h0=>?_);refine kE 0 FC (λ Gu=>⟨[(7,.p (eI Gu))],[]⟩) ?_ ?_
  ·exact nx 7 Z (mQ (oi h0) Z (sr))
  refine lG (λ (Fe:Int×Int)=>⟨[(2,.p (eI levels_2)),(3,.ptr 3 0),(7,.p (eI Fe.1)),(8,.p (eI Fe.2))],[(3,(ak.cs DL).map .p)]⟩) (λ m (Fe:Int×Int)=>d6 (fE n) DL levels_2 m Fe.1 Fe.2) Y (nodes_1-1,0) h1 (gE rfl rfl) ?_;rintro m ⟨n15,i16⟩ h1;replace h1:d6 (fE n) DL levels_2 (m+1) n15 i16=some FC:=h1;rw [d6] at h1;refine nx 2 rfl (bd h1 λ Hk h2 h1=>?_);refine kN Hk (λ v37=>⟨[(2,.p (eI levels_2)),(3,.ptr 3 0),(7,.p (eI n15)),(8,.p (eI i16)),(25,.p (eB v37))],[(3,(ak.cs DL).map .p)]⟩) ?_ ?_
  ·refine nx 1 Z (fB [25] h1 Z (λ FW h1=>?_) λ FW h1=>?_)
   ·refine nx 8 Z (oE h1 ak.CM Z Z Y λ Ep h1=>?_);refine nx 3 Z (oA h1 Z Z λ GN h1=>?_);refine bd h1 λ FY Kd h1=>oK (E5 (lat DL.CP i16) n15 (levels_2-1) _ Kd) Z ⟨sr,sr,sr,trivial⟩ Tryz.call83 Z (nx 4 Z ?_);exact oA h1 Z Z λ FQ h1=>nx 2 Z (eX (FY,i16+1) h1 (gE Z Z))
   exact nx 2 Z (eXi _ (oi h1).symm (gE Z Z))
  refine nx 4 Z (oLl (f:=aE) Z Z ?_);refine nx 2 Z (fD [21,22] h2 Z (λ FE h2=>?_) λ FE h2=>?_)
  ·exact nx 4 Z (eX _ (oi h2).symm (gE Z Z))
  exact nx 4 Z (eX _ (oi h2).symm (gE Z Z))
 refine nx 4 Z (fD [10,11] h1 Z (λ c1 h1=>?_) λ c1 h1=>?_)
 ·exact nx 4 Z (eX _ (oi h1).symm (gE Z Z))
 exact nx 4 Z (eX _ (oi h1).symm (gE Z Z))
def dC (ED:ak->Option Int)(DL:ak):Nat->Int->Int->Option Int|0,_,_=>none|m+1,n9,i10=>if i10<(DL.CP.length:Int) then ck ((0:Int)<=i10/\i10<(DL.CP.length:Int))<|(ED (lat DL.CP i10)).bind λ FH=>ck (inR (n9+FH))<|ck (inR (i10+1))<|dC ED DL m (n9+FH) (i10+1)else some n9
def eW:Nat->ak->Option Int|0,_=>none|n+1,DL=>(dC (eW n) DL n (DL.CL.length:Int) 0).bind λ n19=>some n19
theorem se (n:Nat):∀ (DL:ak) (r:Int),eW n DL=some r->aB Tryz.prog 84 [.agg (ak.cs DL)] (·=.p (eI r)):=by
 induction n with
 | zero=>intro DL r h0; cases h0
 | succ n ih=>
 have EY:=ih;intro DL r h0;rw [eW] at h0;refine aR good Tryz.func84 Z Z Z λ w0=>mP (λ v:Int=>.p (eI v)) ?_;refine nx 9 Z (oLl (f:=eS) Z Z ?_);refine nx 8 Z (bd h0 λ Ih h1 h0=>?_);refine kE 0 Ih (λ Iq=>⟨[(3,.p (eI Iq))],[]⟩) ?_ ?_
 ·exact nx 7 Z (mQ (oi h0) Z (sr))
 refine lG (λ (F1:Int×Int)=>⟨[(1,.ptr 1 0),(3,.p (eI F1.1)),(4,.p (eI F1.2))],[(1,(ak.cs DL).map .p)]⟩) (λ m (F1:Int×Int)=>dC (eW n) DL m F1.1 F1.2) Y ((DL.CL.length:Int),0) h1 (gE rfl rfl) ?_;rintro m ⟨n9,i10⟩ h1;replace h1:dC (eW n) DL (m+1) n9 i10=some Ih:=h1;rw [dC] at h1;refine nx 6 rfl (oLl (f:=aE) rfl rfl ?_);refine nx 2 rfl (fD [12] h1 rfl (λ Fp h1=>?_) λ Fp h1=>?_)
 ·refine nx 9 Z (oE h1 ak.CM Z Z Y λ Fu h1=>?_);refine nx 1 Z (bd h1 λ FH IW h1=>?_);refine oK (EY (lat DL.CP i10) _ IW) Z ⟨sr,trivial⟩ Tryz.call84 Z (oA h1 Z Z λ E8 h1=>?_);refine nx 4 Z (oA h1 Z Z λ E3 h1=>?_);exact nx 2 Z (eX (n9+FH,i10+1) h1 (gE Z Z))
 exact nx 2 Z (eXi _ (oi h1).symm (gE Z Z))
def kh (n:Nat)(DL:ak)(nodes_1:Int):Option Bool :=((fE n DL nodes_1 40).bind λ r1=>if 0<=r1 then(eW n DL).bind λ r4=>ck (inR (2*nodes_1))<|some (decide (r4<=2*nodes_1))else some false : Option Bool).bind λ t7=>some t7
theorem qP (n:Nat)(DL:ak)(nodes_1:Int)(r:Bool)(h0:kh n DL nodes_1=some r):aB Tryz.prog 51 [.agg (ak.cs DL),eI nodes_1] (·=.p (eB r)):=by
 unfold kh at h0;refine aR good Tryz.func51 Z Z Z λ w0=>mP (λ v:Bool=>.p (eB v)) ?_;refine nx 6 Z (bd h0 λ o9 h1 h0=>?_);refine kN o9 (λ HL=>⟨[(4,.p (eB HL))],[]⟩) ?_ ?_
 ·exact nx 2 Z (mQ (oi h0) Z (sr))
 refine nx 3 Z (bd h1 λ r1 e2 h1=>?_);refine oK (sJ _ DL nodes_1 40 _ e2) Z ⟨sr,sr,sr,trivial⟩ Tryz.call83 Z (nx 2 Z ?_);refine fD [8,9] h1 Z (λ c3 h1=>?_) λ c3 h1=>?_
 ·refine nx 1 Z (bd h1 λ r4 e5 h1=>?_);refine oK (se _ DL _ e5) Z ⟨sr,trivial⟩ Tryz.call84 Z (nx 1 Z ?_);exact oA h1 Z Z λ HE h1=>nx 4 Z (eX _ (oi h1).symm (gE Z Z))
 exact nx 8 Z (eX _ (oi h1).symm (gE Z Z))
def ea (n:Nat)(l_0:List az):Nat->Int->Option (Unit⊕Bool)|0,_=>none|m+1,i12=>if i12<(l_0.length:Int) then(ck ((0:Int)<=i12/\i12<(l_0.length:Int))<|if 100<(((lat l_0 i12).By).length:Int) then some true else ck ((0:Int)<=i12/\i12<(l_0.length:Int))<|(kh n ((lat l_0 i12).CO) 15).bind λ G0=>some (!G0) : Option Bool).bind λ Jo=>if Jo=true then some (.inr false)else ck (inR (i12+1))<|ea n l_0 m (i12+1)else some (.inl ())
def ja (n:Nat)(l_0:List az):Option Bool :=if 10<(l_0.length:Int) then some false else jn (ea n l_0 n 0) λ _F1=>some true
theorem mt (n:Nat)(l_0:List az)(r:Bool)(h0:ja n l_0=some r):aB Tryz.prog 24 [eL aL l_0] (·=.p (eB r)):=by
 unfold ja at h0;refine aR good Tryz.func24 Z Z Z λ w0=>mP (λ v:Bool=>.p (eB v)) ?_;refine nx 8 Z (oLl (f:=aL) Z Z ?_);refine nx 2 Z (fD [6] h0 Z (λ c1 h0=>?_) λ c1 h0=>?_)
 ·exact nx 6 Z (mQ (oi h0) Z (sr))
 refine nx 8 rfl ?_;obtain ⟨GA,h1,Eg,hR0⟩:=fj h0;refine kEx 0 (λ Hw:Unit=>GA=.inl Hw) (λ Hw=>⟨[],[]⟩) (λ Hw hv=>?_) ?_
 ·have h0:=Eg _ hv;exact nx 6 Z (mQ (oi h0) Z (sr))
 refine lG (λ (Fz:Int)=>⟨[(0,.p (eL aL l_0)),(3,.p (eI Fz))],[]⟩) (λ m (Fz:Int)=>ea n l_0 m Fz) Y 0 h1 (gE rfl rfl) ?_;rintro m i12 h1;replace h1:ea n l_0 (m+1) i12=some GA:=h1;rw [ea] at h1;refine nx 5 rfl (oLl (f:=aL) rfl rfl ?_);refine nx 2 rfl (fD [10] h1 rfl (λ FI h1=>?_) λ FI h1=>?_)
 ·refine nx 5 Z (bd h1 λ o28 h2 h1=>?_);refine kN o28 (λ v29=>⟨[(0,.p (eL aL l_0)),(3,.p (eI i12)),(28,.p (eB v29))],[]⟩) ?_ ?_
  ·refine nx 1 Z (fB [28] h1 Z (λ c20 h1=>?_) λ c20 h1=>?_)
   ·exact nx 6 Z (mQ (hR0 _ (oi h1).symm) Z (sr))
   refine nx 4 Z (oA h1 Z Z λ GN h1=>?_);exact nx 2 Z (eX (i12+1) h1 (gE Z Z))
  refine nx 3 Z (oE h2 az.CM Z Z Y λ Fg h2=>?_);refine nx 2 Z (oLs Z ?_);refine nx 2 Z (fD [19,20] h2 Z (λ H5 h2=>?_) λ H5 h2=>?_)
  ·exact nx 9 Z (eX _ (oi h2).symm (gE Z Z))
  refine nx 2 Z (oE h2 az.CM Z Z Y λ E3 h2=>?_);refine nx 2 Z (bd h2 λ G0 Kf h2=>?_);refine oK (qP _ ((lat l_0 i12).CO) 15 _ Kf) Z ⟨sr,sr,trivial⟩ Tryz.call51 Z (nx 3 Z ?_);exact eX _ (oi h2).symm (gE Z Z)
 exact nx 2 Z (eXi _ (oi h1).symm (gE Z Z))
def hZ (DU:Int):Option Bool :=(if 97<=DU then if DU<=122 then some true else if 65<=DU then if DU<=90 then some true else some (decide (DU=95))else some (decide (DU=95))else if 65<=DU then if DU<=90 then some true else some (decide (DU=95))else some (decide (DU=95)) : Option Bool).bind λ t7=>some t7
theorem mj (DU:Int)(r:Bool)(h0:hZ DU=some r):aB Tryz.prog 114 [eK .u8 DU] (·=.p (eB r)):=by
 unfold hZ at h0;refine aR good Tryz.func114 Z Z Z λ w0=>mP (λ v:Bool=>.p (eB v)) ?_;refine nx 5 Z (bd h0 λ o9 h1 h0=>?_);refine kN o9 (λ HL=>⟨[(2,.p (eB HL))],[]⟩) ?_ ?_
 ·exact nx 2 Z (mQ (oi h0) Z (sr))
 refine nx 4 Z (fD [4,5] h1 Z (λ c1 h1=>?_) λ c1 h1=>?_)
 ·refine nx 4 Z (fD [7,8,9] h1 Z (λ c2 h1=>?_) λ c2 h1=>?_)
  ·exact nx 13 Z (eX _ (oi h1).symm (gE Z Z))
  refine nx 3 Z (fD [11,12] h1 Z (λ c3 h1=>?_) λ c3 h1=>?_)
  ·refine nx 5 Z (fD [14,15,16,17] h1 Z (λ c4 h1=>?_) λ c4 h1=>?_)
   ·exact nx 5 Z (eX _ (oi h1).symm (gE Z Z))
   exact nx 5 Z (eX _ (oi h1).symm (gE Z Z))
  exact nx 10 Z (eX _ (oi h1).symm (gE Z Z))
 refine nx 7 Z (fD [11,12] h1 Z (λ c5 h1=>?_) λ c5 h1=>?_)
 ·refine nx 5 Z (fD [14,15,16,17] h1 Z (λ c6 h1=>?_) λ c6 h1=>?_)
  ·exact nx 5 Z (eX _ (oi h1).symm (gE Z Z))
  exact nx 5 Z (eX _ (oi h1).symm (gE Z Z))
 exact nx 10 Z (eX _ (oi h1).symm (gE Z Z))
def cw (Dz:Bk):Nat->Int->Option (Unit⊕Bool)|0,_=>none|m+1,i20=>if i20<(Dz.length:Int) then(ck ((0:Int)<=i20/\i20<(Dz.length:Int))<|(hZ (byt Dz i20)).bind λ FX=>if (!FX)=true then ck ((0:Int)<=i20/\i20<(Dz.length:Int))<|if byt Dz i20<48 then some true else ck ((0:Int)<=i20/\i20<(Dz.length:Int))<|some (decide (57<byt Dz i20))else some false : Option Bool).bind λ Jn=>if Jn=true then some (.inr false)else ck (inR (i20+1))<|cw Dz m (i20+1)else some (.inl ())
def eD (n:Nat)(Dz:Bk):Option Bool :=(if Dz=([]:Bk) then some true else if 64<(Dz.length:Int) then some true else ck ((0:Int)<=0/\0<(Dz.length:Int))<|(hZ (byt Dz 0)).bind λ r4=>some (!r4) : Option Bool).bind λ t6=>if t6=true then some false else jn (cw Dz n 0) λ _q34=>some true
theorem iu (n:Nat)(Dz:Bk)(r:Bool)(h0:eD n Dz=some r):aB Tryz.prog 86 [eS Dz] (·=.p (eB r)):=by
 unfold eD at h0;refine aR good Tryz.func86 Z Z Z λ w0=>mP (λ v:Bool=>.p (eB v)) ?_;refine nx 6 Z (bd h0 λ Hk h1 h0=>?_);refine kN Hk (λ v37=>⟨[(0,.p (eS Dz)),(16,.p (eB v37))],[]⟩) ?_ ?_
 ·refine nx 1 Z (fB [16] h0 Z (λ c7 h0=>?_) λ c7 h0=>?_)
  ·exact nx 6 Z (mQ (oi h0) Z (sr))
  refine nx 8 rfl ?_;obtain ⟨Ig,h1,Eg,hR0⟩:=fj h0;refine kEx 0 (λ HI:Unit=>Ig=.inl HI) (λ HI=>⟨[],[]⟩) (λ HI hv=>?_) ?_
  ·have h0:=Eg _ hv;exact nx 6 Z (mQ (oi h0) Z (sr))
  refine lG (λ (H8:Int)=>⟨[(0,.p (eS Dz)),(3,.p (eI H8))],[]⟩) (λ m (H8:Int)=>cw Dz m H8) Y 0 h1 (gE rfl rfl) ?_;rintro m i20 h1;replace h1:cw Dz (m+1) i20=some Ig:=h1;rw [cw] at h1;refine nx 5 rfl (oLs rfl ?_);refine nx 2 rfl (fD [20] h1 rfl (λ Hv h1=>?_) λ Hv h1=>?_)
  ·refine nx 5 Z (bd h1 λ o41 h2 h1=>?_);refine kN o41 (λ v42=>⟨[(0,.p (eS Dz)),(3,.p (eI i20)),(39,.p (eB v42))],[]⟩) ?_ ?_
   ·refine nx 1 Z (fB [39] h1 Z (λ Gm h1=>?_) λ Gm h1=>?_)
    ·exact nx 6 Z (mQ (hR0 _ (oi h1).symm) Z (sr))
    refine nx 4 Z (oA h1 Z Z λ FO h1=>?_);exact nx 2 Z (eX (i20+1) h1 (gE Z Z))
   refine nx 3 Z (oI h2 Z λ FR h2=>?_);refine bd h2 λ FX IT h2=>oK (mj (byt Dz i20) _ IT) Z ⟨sr,trivial⟩ Tryz.call114 Z (nx 2 Z ?_);refine fB [27,28] h2 Z (λ IZ h2=>?_) λ IZ h2=>?_
   ·refine nx 2 Z (oI h2 Z λ GL h2=>?_);refine nx 2 Z (fD [32,33] h2 Z (λ H4 h2=>?_) λ H4 h2=>?_)
    ·exact nx 7 Z (eX _ (oi h2).symm (gE Z Z))
    refine nx 2 Z (oI h2 Z λ H2 h2=>?_);exact nx 4 Z (eX _ (oi h2).symm (gE Z Z))
   exact nx 12 Z (eX _ (oi h2).symm (gE Z Z))
  exact nx 2 Z (eXi _ (oi h1).symm (gE Z Z))
 refine nx 2 Z (oS Z Z ?_);refine nx 1 Z (fD [5,6] h1 Z (λ c1 h1=>?_) λ c1 h1=>?_)
 ·exact nx 11 Z (eX _ (oi h1).symm (gE Z Z))
 refine nx 1 Z (oLs Z ?_);refine nx 3 Z (fD [9,10,11] h1 Z (λ c2 h1=>?_) λ c2 h1=>?_)
 ·exact nx 6 Z (eX _ (oi h1).symm (gE Z Z))
 refine nx 1 Z (oI h1 Z λ GK h1=>?_);refine bd h1 λ r4 e5 h1=>oK (mj (byt Dz 0) _ e5) Z ⟨sr,trivial⟩ Tryz.call114 Z (nx 3 Z ?_);exact eX _ (oi h1).symm (gE Z Z)
def jw (DL:ak):Option Bool :=(if DL.AI<0 then some true else some (decide (6<DL.AI)) : Option Bool).bind λ t2=>if t2=true then some false else if DL.AI=6 then some (decide ((DL.CP.length:Int)=(DL.CL.length:Int)))else(if DL.AI=4 then some true else some (decide (DL.AI=5)) : Option Bool).bind λ t6=>if t6=true then(if (DL.CP.length:Int)=1 then some (decide ((DL.CL.length:Int)=0))else some false : Option Bool).bind λ t9=>some t9 else(if (DL.CP.length:Int)=0 then some (decide ((DL.CL.length:Int)=0))else some false : Option Bool).bind λ Ec=>some Ec
theorem qt (DL:ak)(r:Bool)(h0:jw DL=some r):aB Tryz.prog 115 [.agg (ak.cs DL)] (·=.p (eB r)):=by
 unfold jw at h0;refine aR good Tryz.func115 Z Z Z λ w0=>mP (λ v:Bool=>.p (eB v)) ?_;refine nx 7 Z (bd h0 λ Gr h1 h0=>?_);refine kN Gr (λ FJ=>⟨[(1,.ptr 1 0),(10,.p (eB FJ))],[(1,(ak.cs DL).map .p)]⟩) ?_ ?_
 ·refine nx 1 Z (fB [10] h0 Z (λ c3 h0=>?_) λ c3 h0=>?_)
  ·exact nx 6 Z (mQ (oi h0) Z (sr))
  refine nx 9 Z (fD [13] h0 Z (λ c4 h0=>?_) λ c4 h0=>?_)
  ·refine nx 5 Z (oLl (f:=aE) Z Z ?_);refine nx 2 Z (oLl (f:=eS) Z Z ?_);exact nx 4 Z (mQ (oi h0) Z (sr))
  refine nx 4 Z (bd h0 λ o18 h1 h0=>?_);refine kN o18 (λ Jk=>⟨[(1,.ptr 1 0),(28,.p (eB Jk))],[(1,(ak.cs DL).map .p)]⟩) ?_ ?_
  ·refine nx 1 Z (fB [28] h0 Z (λ c7 h0=>?_) λ c7 h0=>?_)
   ·refine nx 2 Z (bd h0 λ Ja h1 h0=>?_);refine kN Ja (λ Ir=>⟨[(2,.p (eB Ir))],[]⟩) ?_ ?_
    ·exact nx 2 Z (mQ (oi h0) Z (sr))
    refine nx 3 Z (oLl (f:=aE) Z Z ?_);refine nx 2 Z (fD [32,33] h1 Z (λ c8 h1=>?_) λ c8 h1=>?_)
    ·refine nx 2 Z (oLl (f:=eS) Z Z ?_);exact nx 4 Z (eX _ (oi h1).symm (gE Z Z))
    exact nx 7 Z (eX _ (oi h1).symm (gE Z Z))
   refine nx 3 Z (bd h0 λ HB h1 h0=>?_);refine kN HB (λ HJ=>⟨[(2,.p (eB HJ))],[]⟩) ?_ ?_
   ·exact nx 2 Z (mQ (oi h0) Z (sr))
   refine nx 3 Z (oLl (f:=aE) Z Z ?_);refine nx 2 Z (fD [42,43] h1 Z (λ Fq h1=>?_) λ Fq h1=>?_)
   ·refine nx 2 Z (oLl (f:=eS) Z Z ?_);exact nx 4 Z (eX _ (oi h1).symm (gE Z Z))
   exact nx 7 Z (eX _ (oi h1).symm (gE Z Z))
  refine nx 5 Z (fD [23,24] h1 Z (λ c5 h1=>?_) λ c5 h1=>?_)
  ·exact nx 5 Z (eX _ (oi h1).symm (gE Z Z))
  exact nx 5 Z (eX _ (oi h1).symm (gE Z Z))
 refine nx 5 Z (fD [5,6] h1 Z (λ c1 h1=>?_) λ c1 h1=>?_)
 ·exact nx 5 Z (eX _ (oi h1).symm (gE Z Z))
 exact nx 5 Z (eX _ (oi h1).symm (gE Z Z))
def ei (n:Nat)(DL:ak):Nat->Int->Option (Unit⊕Int)|0,_=>none|m+1,i18=>if i18<(DL.CL.length:Int) then ck ((0:Int)<=i18/\i18<(DL.CL.length:Int))<|(eD n (lat DL.CL i18)).bind λ Ez=>if (!Ez)=true then some (.inr 7)else(if 0<i18 then ck (inR (i18-1))<|ck ((0:Int)<=i18-1/\i18-1<(DL.CL.length:Int))<|ck ((0:Int)<=i18/\i18<(DL.CL.length:Int))<|some (!Op.bytesLess (lat DL.CL (i18-1)) (lat DL.CL i18))else some false : Option Bool).bind λ EC=>if EC=true then some (.inr 1)else ck (inR (i18+1))<|ei n DL m (i18+1)else some (.inl ())
def ep (EE:ak->Int->Option Int)(DL:ak)(DJ:Int):Nat->Int->Option (Unit⊕Int)|0,_=>none|m+1,i40=>if i40<(DL.CP.length:Int) then ck ((0:Int)<=i40/\i40<(DL.CP.length:Int))<|ck (inR (DJ+1))<|(EE (lat DL.CP i40) (DJ+1)).bind λ H6=>if H6=0 then ck (inR (i40+1))<|ep EE DL DJ m (i40+1)else some (.inr H6)else some (.inl ())
def fo:Nat->ak->Int->Option Int|0,_,_=>none|n+1,DL,DJ=>if 32<DJ then some 4 else(jw DL).bind λ r2=>if (!r2)=true then some 1 else jn (ei n DL n 0) λ _I7=>jn (ep (fo n) DL DJ n 0) λ _Jz=>some 0
theorem rX (n:Nat):∀ (DL:ak) (DJ:Int) (r:Int),fo n DL DJ=some r->aB Tryz.prog 87 [.agg (ak.cs DL),eI DJ] (·=.p (eI r)):=by
 induction n with
 | zero=>intro DL DJ r h0; cases h0
 | succ n ih=>
 have EZ:=ih;intro DL DJ r h0;rw [fo] at h0;refine aR good Tryz.func87 Z Z Z λ w0=>mP (λ v:Int=>.p (eI v)) ?_;refine nx 11 Z (fD [9] h0 Z (λ c1 h0=>?_) λ c1 h0=>?_)
 ·exact nx 6 Z (mQ (oi h0) Z (sr))
 refine nx 6 Z (bd h0 λ r2 e3 h0=>?_);refine oK (qt DL _ e3) Z ⟨sr,trivial⟩ Tryz.call115 Z (nx 2 Z ?_);refine fB [12] h0 Z (λ c4 h0=>?_) λ c4 h0=>?_
 ·exact nx 6 Z (mQ (oi h0) Z (sr))
 refine nx 8 rfl ?_;obtain ⟨Ie,h1,Eg,hR0⟩:=fj h0;refine kEx 0 (λ v53:Unit=>Ie=.inl v53) (λ v53=>⟨[(1,.p (eI DJ)),(2,.ptr 2 0)],[(2,(ak.cs DL).map .p)]⟩) (λ v53 hv=>?_) ?_
 ·have h0:=Eg _ hv;refine nx 7 rfl ?_;obtain ⟨o54,h1,Eg,hR0⟩:=fj h0;refine kEx 2 (λ v55:Unit=>o54=.inl v55) (λ v55=>⟨[],[]⟩) (λ v55 hv=>?_) ?_
  ·have h0:=Eg _ hv;exact nx 6 Z (mQ (oi h0) Z (sr))
  refine lG (λ (q56:Int)=>⟨[(1,.p (eI DJ)),(2,.ptr 2 0),(6,.p (eI q56))],[(2,(ak.cs DL).map .p)]⟩) (λ m (q56:Int)=>ep (fo n) DL DJ m q56) Y 0 h1 (gE rfl rfl) ?_;rintro m i40 h1;replace h1:ep (fo n) DL DJ (m+1) i40=some o54:=h1;rw [ep] at h1;refine nx 6 rfl (oLl (f:=aE) rfl rfl ?_);refine nx 2 rfl (fD [47] h1 rfl (λ c41 h1=>?_) λ c41 h1=>?_)
  ·refine nx 9 Z (oE h1 ak.CM Z Z Y λ Hp h1=>?_);refine nx 2 Z (oA h1 Z Z λ F' h1=>?_);refine bd h1 λ H6 e45 h1=>oK (EZ (lat DL.CP i40) (DJ+1) _ e45) Z ⟨sr,sr,trivial⟩ Tryz.call87 Z (nx 7 Z ?_);refine fN [59] h1 Z (λ c46 h1=>?_) λ c46 h1=>?_
   ·refine nx 4 Z (oA h1 Z Z λ F9 h1=>?_);exact nx 2 Z (eX (i40+1) h1 (gE Z Z))
   exact nx 7 Z (mQ (hR0 _ (oi h1).symm) Z (sr))
  exact nx 2 Z (eXi _ (oi h1).symm (gE Z Z))
 refine lG (λ (q57:Int)=>⟨[(1,.p (eI DJ)),(2,.ptr 2 0),(5,.p (eI q57))],[(2,(ak.cs DL).map .p)]⟩) (λ m (q57:Int)=>ei n DL m q57) Y 0 h1 (gE rfl rfl) ?_;rintro m i18 h1;replace h1:ei n DL (m+1) i18=some Ie:=h1;rw [ei] at h1;refine nx 6 rfl (oLl (f:=eS) rfl rfl ?_);refine nx 2 rfl (fD [17] h1 rfl (λ FW h1=>?_) λ FW h1=>?_)
 ·refine nx 10 Z (oE h1 Y Z Z Y λ Ep h1=>?_);refine nx 1 Z (bd h1 λ Ez Hs h1=>?_);refine oK (iu _ (lat DL.CL i18) _ Hs) Z ⟨sr,trivial⟩ Tryz.call86 Z (nx 2 Z ?_);refine fB [26] h1 Z (λ FB h1=>?_) λ FB h1=>?_
  ·exact nx 6 Z (mQ (hR0 _ (oi h1).symm) Z (sr))
  refine nx 3 Z (bd h1 λ o58 h2 h1=>?_);refine kN o58 (λ v59=>⟨[(1,.p (eI DJ)),(2,.ptr 2 0),(5,.p (eI i18)),(42,.p (eB v59))],[(2,(ak.cs DL).map .p)]⟩) ?_ ?_
  ·refine nx 1 Z (fB [42] h1 Z (λ IY h1=>?_) λ IY h1=>?_)
   ·exact nx 6 Z (mQ (hR0 _ (oi h1).symm) Z (sr))
   refine nx 4 Z (oA h1 Z Z λ Ge h1=>?_);exact nx 2 Z (eX (i18+1) h1 (gE Z Z))
  refine fD (p:=0<i18) [] h2 Z (λ Hu h2=>?_) λ Hu h2=>?_
  ·refine cc' h2 λ FP h2=>cc' h2 λ GL h2=>cc' h2 λ IP h2=>mD [(1,.p (eI DJ)),(2,.ptr 2 0),(5,.p (eI i18))] Z ⟨Z,Z,Z,trivial⟩ Z (dR 1 Z ?_);refine dL (dt Hu) Z (dR 4 Z ?_);refine dq (.p (eI (i18-1))) [29,32] Z (λ _ e _ q=>fI (oQ Z Z Z (e _ _ Z) Z Z FP q) Z Z (e _ _ Z) (rfl)) Z (dq (.rptr [eS (lat DL.CL (i18-1))]) [29,31,33] Z (λ _ e _ q=>fI (dV (f:=eS) (l:=DL.CL) (λ x=>[eS x]) Z Z Z Z Z Z (e _ _ Z) Z (e _ _ Z) GL Y Y q) Z Z (e _ _ Z) (rfl)) Z ?_);refine dR 4 Z (dq (.rptr [eS (lat DL.CL i18)]) [29,37,38] Z (λ _ e _ q=>fI (dV (f:=eS) (l:=DL.CL) (λ x=>[eS x]) Z Z Z Z Z Z (e _ _ Z) Z (e _ _ Z) IP Y Y q) Z Z (e _ _ Z) (rfl)) Z ?_);refine dR 1 Z (dq (.p (eB (!Op.bytesLess (lat DL.CL (i18-1)) (lat DL.CL i18)))) [29,35,40] Z (λ _ e _ q=>fI (kx Z Z Z (e _ _ Z) (e _ _ Z) Z q) Z Z (e _ _ Z) (rfl)) Z ?_);refine dR 1 Z (dE Z ?_);exact nx 1 Z (eX _ (oi h2).symm (gE Z Z))
  refine mD [(1,.p (eI DJ)),(2,.ptr 2 0),(5,.p (eI i18))] Z ⟨Z,Z,Z,trivial⟩ Z (dR 1 Z ?_);refine dL (df Hu) Z (dR 14 Z ?_);refine dE Z (nx 1 Z ?_);exact eX _ (oi h2).symm (gE Z Z)
 exact nx 2 Z (eXi _ (oi h1).symm (gE Z Z))
def jd (n:Nat)(DL:ak):Option Int :=(fo n DL 1).bind λ r1=>some r1
theorem nv (n:Nat)(DL:ak)(r:Int)(h0:jd n DL=some r):aB Tryz.prog 55 [.agg (ak.cs DL)] (·=.p (eI r)):=by
 unfold jd at h0;refine aR good Tryz.func55 Z Z Z λ w0=>mP (λ v:Int=>.p (eI v)) ?_;refine nx 8 Z (bd h0 λ r1 e2 h0=>?_);refine oK (rX _ DL 1 _ e2) Z ⟨sr,sr,trivial⟩ Tryz.call87 Z (nx 3 Z ?_);exact mQ (oi h0) Z (sr)
def iH (n:Nat)(a_0:az)(before_1:Bk)(first_2:Bool):Option Int :=(eD n a_0.By).bind λ r1=>if (!r1)=true then some 7 else(if (!first_2)=true then some (Op.bytesLess a_0.By before_1||decide (a_0.By=before_1))else some false : Option Bool).bind λ t5=>if t5=true then some 1 else(jd n a_0.CO).bind λ r7=>if r7=0 then(if a_0.C6<1 then some true else some (decide (4<a_0.C6)) : Option Bool).bind λ Ec=>if Ec=true then some 1 else(if a_0.Dg=true then if a_0.C6=1 then some true else some (decide (a_0.C6=2))else some false : Option Bool).bind λ t15=>if t15=true then some 1 else some 0 else some r7
theorem sG (n:Nat)(a_0:az)(before_1:Bk)(first_2:Bool)(r:Int)(h0:iH n a_0 before_1 first_2=some r):aB Tryz.prog 85 [.agg (az.cs a_0),eS before_1,eB first_2] (·=.p (eI r)):=by
 unfold iH at h0;refine aR good Tryz.func85 Z Z Z λ w0=>mP (λ v:Int=>.p (eI v)) ?_;refine nx 10 Z (bd h0 λ r1 e2 h0=>?_);refine oK (iu _ a_0.By _ e2) Z ⟨sr,trivial⟩ Tryz.call86 Z (nx 2 Z ?_);refine fB [11] h0 Z (λ c3 h0=>?_) λ c3 h0=>?_
 ·exact nx 6 Z (mQ (oi h0) Z (sr))
 refine nx 4 Z (bd h0 λ Ja h1 h0=>?_);refine kN Ja (λ Ir=>⟨[(3,.ptr 3 0),(19,.p (eB Ir))],[(3,(az.cs a_0).map .p)]⟩) ?_ ?_
 ·refine nx 1 Z (fB [19] h0 Z (λ c6 h0=>?_) λ c6 h0=>?_)
  ·exact nx 6 Z (mQ (oi h0) Z (sr))
  refine nx 6 Z (bd h0 λ r7 e8 h0=>?_);refine oK (nv _ a_0.CO _ e8) Z ⟨sr,trivial⟩ Tryz.call55 Z (nx 8 Z ?_);refine fN [24] h0 Z (λ c9 h0=>?_) λ c9 h0=>?_
  ·refine nx 4 Z (bd h0 λ HB h1 h0=>?_);refine kN HB (λ HJ=>⟨[(3,.ptr 3 0),(33,.p (eB HJ))],[(3,(az.cs a_0).map .p)]⟩) ?_ ?_
   ·refine nx 1 Z (fB [33] h0 Z (λ F4 h0=>?_) λ F4 h0=>?_)
    ·exact nx 6 Z (mQ (oi h0) Z (sr))
    refine nx 4 Z (bd h0 λ Iy h1 h0=>?_);refine kN Iy (λ Ip=>⟨[(45,.p (eB Ip))],[]⟩) ?_ ?_
    ·refine nx 1 Z (fB [45] h0 Z (λ GX h0=>?_) λ GX h0=>?_)
     ·exact nx 6 Z (mQ (oi h0) Z (sr))
     exact nx 7 Z (mQ (oi h0) Z (sr))
    refine nx 4 Z (fB [35,36] h1 Z (λ FI h1=>?_) λ FI h1=>?_)
    ·refine nx 4 Z (fD [39,40] h1 Z (λ FF h1=>?_) λ FF h1=>?_)
     ·exact nx 6 Z (eX _ (oi h1).symm (gE Z Z))
     exact nx 6 Z (eX _ (oi h1).symm (gE Z Z))
    exact nx 10 Z (eX _ (oi h1).symm (gE Z Z))
   refine nx 5 Z (fD [28,29] h1 Z (λ Fq h1=>?_) λ Fq h1=>?_)
   ·exact nx 5 Z (eX _ (oi h1).symm (gE Z Z))
   exact nx 5 Z (eX _ (oi h1).symm (gE Z Z))
  exact nx 7 Z (mQ (oi h0) Z (sr))
 refine nx 4 Z (fB [13,14] h1 Z (λ c4 h1=>?_) λ c4 h1=>?_)
 ·refine nx 3 Z (oS Z Z ?_);exact nx 2 Z (eX _ (oi h1).symm (gE Z Z))
 exact nx 6 Z (eX _ (oi h1).symm (gE Z Z))
def cx (n:Nat)(l_0:List az)(nested_1:Bool):Nat->Bk->Int->Option (Unit⊕Int)|0,_,_=>none|m+1,before16,i17=>if i17<(l_0.length:Int) then ck ((0:Int)<=i17/\i17<(l_0.length:Int))<|(iH n (lat l_0 i17) before16 (decide (i17=0))).bind λ Gp=>if Gp=0 then(if nested_1=true then ck ((0:Int)<=i17/\i17<(l_0.length:Int))<|if (lat l_0 i17).C6=1 then some false else ck ((0:Int)<=i17/\i17<(l_0.length:Int))<|some (!decide ((lat l_0 i17).C6=2))else some false : Option Bool).bind λ t27=>if t27=true then some (.inr 1)else ck ((0:Int)<=i17/\i17<(l_0.length:Int))<|ck (inR (i17+1))<|cx n l_0 nested_1 m ((lat l_0 i17).By) (i17+1)else some (.inr Gp)else some (.inl ())
def gm (n:Nat)(l_0:List az)(nested_1:Bool):Option Int :=jn (cx n l_0 nested_1 n ([]:Bk) 0) λ _q33=>some 0
theorem ns (n:Nat)(l_0:List az)(nested_1:Bool)(r:Int)(h0:gm n l_0 nested_1=some r):aB Tryz.prog 52 [eL aL l_0,eB nested_1] (·=.p (eI r)):=by
 unfold gm at h0;refine aR good Tryz.func52 Z Z Z λ w0=>mP (λ v:Int=>.p (eI v)) ?_;refine nx 14 rfl ?_;obtain ⟨o35,h1,Eg,hR0⟩:=fj h0;refine kEx 0 (λ v36:Unit=>o35=.inl v36) (λ v36=>⟨[],[]⟩) (λ v36 hv=>?_) ?_
 ·have h0:=Eg _ hv;exact nx 6 Z (mQ (oi h0) Z (sr))
 refine lG (λ (JA:Bk×Int)=>⟨[(0,.p (eL aL l_0)),(1,.p (eB nested_1)),(5,.p (eS JA.1)),(6,.p (eI JA.2))],[]⟩) (λ m (JA:Bk×Int)=>cx n l_0 nested_1 m JA.1 JA.2) Y (([]:Bk),0) h1 (gE rfl rfl) ?_;rintro m ⟨before16,i17⟩ h1;replace h1:cx n l_0 nested_1 (m+1) before16 i17=some o35:=h1;rw [cx] at h1;refine nx 5 rfl (oLl (f:=aL) rfl rfl ?_);refine nx 2 rfl (fD [11] h1 rfl (λ Ko h1=>?_) λ Ko h1=>?_)
 ·refine nx 8 Z (oE h1 az.CM Z Z Y λ Hr h1=>?_);refine nx 4 Z (bd h1 λ Gp Ke h1=>?_);refine oK (sG _ (lat l_0 i17) before16 (decide (i17=0)) _ Ke) Z ⟨sr,sr,sr,trivial⟩ Tryz.call85 Z (nx 8 Z ?_);refine fN [23] h1 Z (λ Kn h1=>?_) λ Kn h1=>?_
  ·refine nx 4 Z (bd h1 λ Ig h2 h1=>?_);refine kN Ig (λ HI=>⟨[(0,.p (eL aL l_0)),(1,.p (eB nested_1)),(6,.p (eI i17)),(41,.p (eB HI))],[]⟩) ?_ ?_
   ·refine nx 1 Z (fB [41] h1 Z (λ Ht h1=>?_) λ Ht h1=>?_)
    ·exact nx 6 Z (mQ (hR0 _ (oi h1).symm) Z (sr))
    refine nx 5 Z (oE h1 az.CM Z Z Y λ IN h1=>?_);refine nx 6 Z (oA h1 Z Z λ Ge h1=>?_);exact nx 2 Z (eX ((lat l_0 i17).By,i17+1) h1 (gE Z Z))
   refine nx 3 Z (fB [1,25,26] h2 Z (λ FB h2=>?_) λ FB h2=>?_)
   ·refine nx 2 Z (oE h2 az.CM Z Z Y λ FQ h2=>?_);refine nx 5 Z (fN [32,33,34] h2 Z (λ IZ h2=>?_) λ IZ h2=>?_)
    ·exact nx 8 Z (eX _ (oi h2).symm (b7 (gk ⟨er Z,⟨_,Z,nA FB.symm⟩,er Z,er Z,trivial⟩ trivial)))
    refine nx 2 Z (oE h2 az.CM Z Z Y λ GL h2=>?_);exact nx 5 Z (eX _ (oi h2).symm (b7 (gk ⟨er Z,⟨_,Z,nA FB.symm⟩,er Z,er Z,trivial⟩ trivial)))
   exact nx 16 Z (eX _ (oi h2).symm (b7 (gk ⟨er Z,⟨_,Z,nA FB.symm⟩,er Z,er Z,trivial⟩ trivial)))
  exact nx 7 Z (mQ (hR0 _ (oi h1).symm) Z (sr))
 exact nx 2 Z (eXi _ (oi h1).symm (gE Z Z))
def cQ (l_0:List az)(name_1:Bk):Nat->Int->Option (Unit⊕(az×Bool))|0,_=>none|m+1,i7=>if i7<(l_0.length:Int) then ck ((0:Int)<=i7/\i7<(l_0.length:Int))<|if (lat l_0 i7).By=name_1 then ck ((0:Int)<=i7/\i7<(l_0.length:Int))<|some (.inr ((lat l_0 i7),true))else ck (inR (i7+1))<|cQ l_0 name_1 m (i7+1)else some (.inl ())
def gq (n:Nat)(l_0:List az)(name_1:Bk):Option (az×Bool) :=jn (cQ l_0 name_1 n 0) λ _q14=>some ((az.mk ([]:Bk) (ak.mk 0 [] []) 0 false false false),false)
theorem lq (n:Nat)(l_0:List az)(name_1:Bk)(r:az×Bool)(h0:gq n l_0 name_1=some r):aB Tryz.prog 54 [eL aL l_0,eS name_1] (·=.tuple [.p (.agg (az.cs r.1)),.p (eB r.2)]):=by
 unfold gq at h0;refine aR good Tryz.func54 Z Z Z λ w0=>mP (λ v:az×Bool=>.tuple [.p (.agg (az.cs v.1)),.p (eB v.2)]) ?_;refine nx 11 rfl ?_;obtain ⟨Gs,h1,Eg,hR0⟩:=fj h0;refine kEx 0 (λ F5:Unit=>Gs=.inl F5) (λ F5=>⟨[(4,.ptr 4 0)],[(4,[.p (eS ([]:Bk)),.p (eI 0),.p (.val (.slice none 0 0)),.p (.val (.slice none 0 0)),.p (eI 0),.p (eB false),.p (eB false),.p (eB false)])]⟩) (λ F5 hv=>?_) ?_
 ·have h0:=Eg _ hv;exact nx 8 Z (mQ (oi h0) Z (cm ⟨b9 ⟨.inl Z,.inl Z,.inr ⟨Z,Z⟩,.inr ⟨Z,Z⟩,.inl Z,.inl Z,.inl Z,.inl Z,trivial⟩,sr,trivial⟩))
 refine lG (λ (Ib:Int)=>⟨[(0,.p (eL aL l_0)),(1,.p (eS name_1)),(4,.ptr 4 0),(6,.p (eI Ib))],[(4,[.p (eS ([]:Bk)),.p (eI 0),.p (.val (.slice none 0 0)),.p (.val (.slice none 0 0)),.p (eI 0),.p (eB false),.p (eB false),.p (eB false)])]⟩) (λ m (Ib:Int)=>cQ l_0 name_1 m Ib) Y 0 h1 (gE rfl rfl) ?_;rintro m i7 h1;replace h1:cQ l_0 name_1 (m+1) i7=some Gs:=h1;rw [cQ] at h1;refine nx 5 rfl (oLl (f:=aL) rfl rfl ?_);refine nx 2 rfl (fD [10] h1 rfl (λ c8 h1=>?_) λ c8 h1=>?_)
 ·refine nx 8 Z (oE h1 az.CM Z Z Y λ HU h1=>?_);refine nx 3 Z (oS Z Z ?_);refine nx 1 Z (fD [19] h1 Z (λ Fq h1=>?_) λ Fq h1=>?_)
  ·refine nx 5 Z (oE h1 az.CM Z Z Y λ FT h1=>?_);exact nx 5 Z (mQ (hR0 _ (oi h1).symm) Z (cm ⟨sr,sr,trivial⟩))
  refine nx 4 Z (oA h1 Z Z λ Fu h1=>?_);exact nx 2 Z (eX (i7+1) h1 (gE Z Z))
 exact nx 2 Z (eXi _ (oi h1).symm (gE Z Z))
def iI (n:Nat)(Dz:am)(DI:Int):Option Int :=ck ((0:Int)<=DI/\DI<(Dz.A'.length:Int))<|(eD n ((lat Dz.A' DI).By)).bind λ r2=>if (!r2)=true then some 7 else(if 0<DI then ck (inR (DI-1))<|ck ((0:Int)<=DI-1/\DI-1<(Dz.A'.length:Int))<|some (Op.bytesLess ((lat Dz.A' DI).By) ((lat Dz.A' (DI-1)).By)||decide ((lat Dz.A' DI).By=(lat Dz.A' (DI-1)).By))else some false : Option Bool).bind λ t8=>if t8=true then some 1 else(gq n Dz.B' ((lat Dz.A' DI).By)).bind λ El=>if El.2=true then some 8 else(if (lat Dz.A' DI).C7<0 then some true else if (lat Dz.A' DI).C8<(lat Dz.A' DI).C7 then some true else some (decide (256<(lat Dz.A' DI).C8)) : Option Bool).bind λ t15=>if t15=true then some 1 else if 64<(((lat Dz.A' DI).B').length:Int) then some 14 else(gm n ((lat Dz.A' DI).B') true).bind λ Fs=>some Fs
theorem sn (n:Nat)(Dz:am)(DI:Int)(r:Int)(h0:iI n Dz DI=some r):aB Tryz.prog 53 [.agg (am.cs Dz),eI DI] (·=.p (eI r)):=by
 unfold iI at h0;refine aR good Tryz.func53 Z Z Z λ w0=>mP (λ v:Int=>.p (eI v)) ?_;refine nx 10 Z (oE h0 aD.CM Z Z Y λ FU h0=>?_);refine nx 9 Z (bd h0 λ r2 e3 h0=>?_);refine oK (iu _ ((lat Dz.A' DI).By) _ e3) Z ⟨sr,trivial⟩ Tryz.call86 Z (nx 2 Z ?_);refine fB [16] h0 Z (λ c4 h0=>?_) λ c4 h0=>?_
 ·exact nx 6 Z (mQ (oi h0) Z (sr))
 refine nx 4 Z (bd h0 λ HB h1 h0=>?_);refine kN HB (λ HJ=>⟨[(2,.ptr 2 0),(5,.ptr 5 0),(30,.p (eB HJ))],[(2,(am.cs Dz).map .p),(5,(aD.cs (lat Dz.A' DI)).map .p)]⟩) ?_ ?_
 ·refine nx 1 Z (fB [30] h0 Z (λ c9 h0=>?_) λ c9 h0=>?_)
  ·exact nx 6 Z (mQ (oi h0) Z (sr))
  refine nx 8 Z (bd h0 λ El Gt h0=>?_);refine oK (lq _ Dz.B' ((lat Dz.A' DI).By) _ Gt) Z ⟨sr,sr,trivial⟩ Tryz.call54 Z (nx 12 Z ?_);refine fB [7,38,39] h0 Z (λ F4 h0=>?_) λ F4 h0=>?_
  ·exact nx 6 Z (mQ (oi h0) Z (sr))
  refine nx 4 Z (bd h0 λ Iy h1 h0=>?_);refine kN Iy (λ Ip=>⟨[(5,.ptr 5 0),(54,.p (eB Ip))],[(5,(aD.cs (lat Dz.A' DI)).map .p)]⟩) ?_ ?_
  ·refine nx 1 Z (fB [54] h0 Z (λ GX h0=>?_) λ GX h0=>?_)
   ·exact nx 6 Z (mQ (oi h0) Z (sr))
   refine nx 7 Z (oLl (f:=aL) Z Z ?_);refine nx 2 Z (fD [58] h0 Z (λ FE h0=>?_) λ FE h0=>?_)
   ·exact nx 6 Z (mQ (oi h0) Z (sr))
   refine nx 6 Z (bd h0 λ Fs IU h0=>?_);refine oK (ns _ ((lat Dz.A' DI).B') true _ IU) Z ⟨sr,sr,trivial⟩ Tryz.call52 Z (nx 3 Z ?_);exact mQ (oi h0) Z (sr)
  refine nx 5 Z (fD [42,43] h1 Z (λ FI h1=>?_) λ FI h1=>?_)
  ·exact nx 12 Z (eX _ (oi h1).symm (gE Z Z))
  refine nx 7 Z (fD [48,49,50] h1 Z (λ FF h1=>?_) λ FF h1=>?_)
  ·exact nx 5 Z (eX _ (oi h1).symm (gE Z Z))
  exact nx 5 Z (eX _ (oi h1).symm (gE Z Z))
 refine fD (p:=0<DI) [] h1 Z (λ c5 h1=>?_) λ c5 h1=>?_
 ·refine cc' h1 λ HE h1=>cc' h1 λ J1 h1=>mD [(1,.p (eI DI)),(2,.ptr 2 0),(5,.ptr 5 0)] Z ⟨Z,Z,Z,trivial⟩ Z (dR 1 Z ?_);refine dL (dt c5) Z (dR 6 Z ?_);refine dq (.p (eI (DI-1))) [19,24] Z (λ _ e _ q=>fI (oQ Z Z Z (e _ _ Z) Z Z HE q) Z Z (e _ _ Z) (rfl)) Z (dq (.rptr (aD.cs (lat Dz.A' (DI-1)))) [19,23,25] Z (λ _ e _ q=>fI (dV (f:=aO) (l:=Dz.A') aD.cs Z Z Z Z Z Z (e _ _ Z) Z (e _ _ Z) J1 aD.CM Y q) Z Z (e _ _ Z) (rfl)) Z ?_);refine dR 2 Z (dq (.p (eB (Op.bytesLess ((lat Dz.A' DI).By) ((lat Dz.A' (DI-1)).By)||decide ((lat Dz.A' DI).By=(lat Dz.A' (DI-1)).By)))) [19,21,28] Z (λ _ e _ q=>fI (kx Z Z Z (e _ _ Z) (e _ _ Z) Z q) Z Z (e _ _ Z) (rfl)) Z ?_);refine dR 1 Z (dE Z ?_);exact nx 1 Z (eX _ (oi h1).symm (gE Z Z))
 refine mD [(1,.p (eI DI)),(2,.ptr 2 0),(5,.ptr 5 0)] Z ⟨Z,Z,Z,trivial⟩ Z (dR 1 Z ?_);refine dL (df c5) Z (dR 12 Z ?_);refine dE Z (nx 1 Z ?_);exact eX _ (oi h1).symm (gE Z Z)
def dO (l_0:List az):Nat->Int->(List ak)->(List Bk)->Option ((List ak)×(List Bk))|0,_,_,_=>none|m+1,i10,Fw,Ey=>if i10<(l_0.length:Int) then ck ((0:Int)<=i10/\i10<(l_0.length:Int))<|ck ((Ey.length+[(lat l_0 i10).By].length)*16<=140737488355328)<|ck ((0:Int)<=i10/\i10<(l_0.length:Int))<|ck ((Fw.length+[((lat l_0 i10).CO)].length)*56<=140737488355328)<|ck (inR (i10+1))<|dO l_0 m (i10+1) (Fw++[((lat l_0 i10).CO)]) (Ey++[(lat l_0 i10).By])else some (Fw,Ey)
def jr (n:Nat)(l_0:List az):Option ak :=(dO l_0 n 0 [] []).bind λ Ia=>some (ak.mk 6 Ia.1 Ia.2)
theorem qD (n:Nat)(l_0:List az)(r:ak)(h0:jr n l_0=some r):aB Tryz.prog 88 [eL aL l_0] (·=.p (.agg (ak.cs r))):=by
 unfold jr at h0;refine aR good Tryz.func88 Z Z Z λ w0=>mP (λ v:ak=>.p (.agg (ak.cs v))) ?_;refine nx 16 Z (bd h0 λ GA h1 h0=>?_);refine kE 0 GA (λ Hw=>⟨[(2,.ptr 2 0),(3,.ptr 3 0)],[(2,[.p (eI 0),.p (.val (.slice none 0 0)),.p (.val (.slice none 0 0))]),(3,[.p (eI 6),.vec 30 3 0 (Hw.1.map aE),.vec 20 1 0 (Hw.2.map eS)])]⟩) ?_ ?_
 ·exact nx 7 Z (mQ (oi h0) Z (ga ⟨sr,AV.sub_vec _ _ _ _,AV.sub_vec _ _ _ _,trivial⟩))
 refine lG (λ (Fz:Int×(List ak)×(List Bk))=>⟨[(0,.p (eL aL l_0)),(2,.ptr 2 0),(3,.ptr 3 0),(4,.p (eI Fz.1))],[(2,[.p (eI 0),.p (.val (.slice none 0 0)),.p (.val (.slice none 0 0))]),(3,[.p (eI 6),.vec 30 3 0 (Fz.2.1.map aE),.vec 20 1 0 (Fz.2.2.map eS)])]⟩) (λ m (Fz:Int×(List ak)×(List Bk))=>dO l_0 m Fz.1 Fz.2.1 Fz.2.2) Y (0,[],[]) h1 (b7 (gk ⟨er rfl,er rfl,er rfl,er rfl,trivial⟩ ⟨⟨_,rfl,⟨sr,sr,sr,trivial⟩⟩,⟨_,rfl,⟨sr,AV.sub_nilvec _ _ _,AV.sub_nilvec _ _ _,trivial⟩⟩,trivial⟩)) ?_;rintro m ⟨i10,Fw,Ey⟩ h1;replace h1:dO l_0 (m+1) i10 Fw Ey=some GA:=h1;rw [dO] at h1;refine nx 5 rfl (oLl (f:=aL) rfl rfl ?_);refine nx 2 rfl (fD [9] h1 rfl (λ FI h1=>?_) λ FI h1=>?_)
 ·refine nx 5 Z (cc' h1 λ Fg h1=>?_);refine cc' h1 λ E8 h1=>mG (gE (t:=⟨[(0,.p (eL aL l_0)),(2,.ptr 2 0),(3,.ptr 3 0),(4,.p (eI i10))],[(2,[.p (eI 0),.p (.val (.slice none 0 0)),.p (.val (.slice none 0 0))]),(3,[.p (eI 6),.vec 30 3 0 (Fw.map aE),.vec 20 1 0 (Ey.map eS)])]⟩) Z Z) (mS ⟨2,[8,10],(by3 (.some λ i=>Nat.beq i 20||Nat.beq i 20) .none .none),(λ _=>[(0,.p (eL aL l_0)),(2,.ptr 2 0),(3,.ptr 3 0),(4,.p (eI i10))]),(by3 ([(2,[.p (eI 0),.p (.val (.slice none 0 0)),.p (.val (.slice none 0 0))]),(3,[.p (eI 6),.vec 30 3 0 (Fw.map aE),.vec 20 1 0 (Ey.map eS)])]) ([(2,[.p (eI 0),.p (.val (.slice none 0 0)),.p (.val (.slice none 0 0))]),(3,[.p (eI 6),.vec 30 3 0 (Fw.map aE),.p (eL eS Ey)])]) ([(3,[.p (eI 6),.vec 30 3 0 (Fw.map aE),.vec 20 1 0 ((Ey++[(lat l_0 i10).By]).map eS)]),(2,[.p (eI 0),.p (.val (.slice none 0 0)),.p (.val (.slice none 0 0))]),(3,[.p (eI 6),.vec 30 3 0 (Fw.map aE),.p (eL eS Ey)])]))⟩ Z Z Z ⟨Z,Z,Z,Z,trivial⟩ (lt2 ⟨Z,Z,Z,Z,trivial⟩ ⟨Z,Z,Z,Z,trivial⟩) Z Z Z Z ?_);refine ai (λ _=>.ptr 3 2) Z Z Z (bq Z Z Y) (lt2 Z Z) (ah Z (af [(3,_)] ⟨.inl Z,trivial⟩ (λ sl Dy K hK=>ae Z (au Z Z Z Z Z Z Z Z (Dy _ _ Z) hK)) (af [(3,_)] ⟨.inl Z,trivial⟩ (λ sl Dy K hK=>ae Z (au Z Z Z Z Z Z Z Z (Dy _ _ Z) hK)) aj))) (ai (by3 (.vec 20 1 0 (Ey.map eS)) (.p (eL eS Ey)) (.p (eL eS Ey))) Z Z Z (bq Z Z Y) (lt2 Z Z) (ah Z (ah Z (af [(12,_)] ⟨.inr ⟨0,_,Z,Z,Z⟩,trivial⟩ (λ sl Dy K hK=>ae Z (bh Z Z Z Z Z (Dy _ _ Z) Z Z hK)) aj))) ?_);refine ai (λ _=>.p (eL aL l_0)) Z Z Z (bq Z Z Y) (lt2 Z Z) (ah Z (af [(0,_)] ⟨.inl Z,trivial⟩ (λ sl Dy K hK=>ae Z (bo Z Z Z (Dy _ _ Z) hK)) (af [(0,_)] ⟨.inl Z,trivial⟩ (λ sl Dy K hK=>ae Z (bo Z Z Z (Dy _ _ Z) hK)) aj))) (ai (λ _=>.p (eI i10)) Z Z Z (bq Z Z Y) (lt2 Z Z) (ah Z (af [(4,_)] ⟨.inl Z,trivial⟩ (λ sl Dy K hK=>ae Z (bo Z Z Z (Dy _ _ Z) hK)) (af [(4,_)] ⟨.inl Z,trivial⟩ (λ sl Dy K hK=>ae Z (bo Z Z Z (Dy _ _ Z) hK)) aj))) ?_);refine ai (λ _=>.rptr (az.cs (lat l_0 i10))) Z Z Z (bq Z Z Y) (lt2 Z Z) (ah Z (af [(14,_),(15,_)] ⟨.inr ⟨2,_,Z,Z,Z⟩,.inr ⟨3,_,Z,Z,Z⟩,trivial⟩ (λ sl Dy K hK=>ae Z (dV (f:=aL) (l:=l_0) az.cs Z Z Z Z Z Z (Dy _ _ Z) Z (Dy _ _ Z) Fg az.CM Y hK)) (af [(14,_),(15,_)] ⟨.inr ⟨2,_,Z,Z,Z⟩,.inr ⟨3,_,Z,Z,Z⟩,trivial⟩ (λ sl Dy K hK=>ae Z (dV (f:=aL) (l:=l_0) az.cs Z Z Z Z Z Z (Dy _ _ Z) Z (Dy _ _ Z) Fg az.CM Y hK)) aj))) (ai (λ _=>.rptr (List.drop 0 (az.cs (lat l_0 i10)))) Z Z Z (bq Z Z Y) (lt2 Z Z) (ah Z (af [(16,_)] ⟨.inr ⟨4,_,Z,Z,Z⟩,trivial⟩ (λ sl Dy K hK=>ae Z (cP Z Z Z Z Z Z Z Z (Dy _ _ Z) hK)) (af [(16,_)] ⟨.inr ⟨4,_,Z,Z,Z⟩,trivial⟩ (λ sl Dy K hK=>ae Z (cP Z Z Z Z Z Z Z Z (Dy _ _ Z) hK)) aj))) ?_);refine ai (λ _=>.p (eS ((lat l_0 i10).By))) Z Z Z (bq Z Z Y) (lt2 Z Z) (ah Z (af [(17,_)] ⟨.inr ⟨5,_,Z,Z,Z⟩,trivial⟩ (λ sl Dy K hK=>ae Z (eA Z Z Z Z Z (Dy _ _ Z) Z hK)) (af [(17,_)] ⟨.inr ⟨5,_,Z,Z,Z⟩,trivial⟩ (λ sl Dy K hK=>ae Z (eA Z Z Z Z Z (Dy _ _ Z) Z hK)) aj))) (ai (λ _=>.p (eL eS [(lat l_0 i10).By])) Z Z Z (bq Z Z Y) (lt2 Z Z) (ah Z (ah Z (af [(18,_)] ⟨.inr ⟨6,_,Z,Z,Z⟩,trivial⟩ (λ sl Dy K hK=>ae Z (bE eS [(lat l_0 i10).By] Z Z Z Z Z Z (ce (Dy _ _ Z) Z dU) Z Z Z Z Z Z Z hK)) aj))) ?_);refine eF (λ _=>.vec 20 1 0 ((Ey++[(lat l_0 i10).By]).map eS)) [(13,_),(19,_)] Z ⟨.inr ⟨1,_,Z,Z,Z⟩,.inr ⟨7,_,Z,Z,Z⟩,trivial⟩ Z Z (cU Z Y) (lt2 (λ h=>absurd h (by decide)) Y) (λ sl Dy K hK=>ae Z (du eS Ey [(lat l_0 i10).By] Z Z Z Z Z Z Z Z (Dy _ _ Z) Z Z (Dy _ _ Z) Z Y Z Z Z Z E8 hK)) (ai (λ _=>.ptr 3 2) Z Z Z (bq Z Z Y) (lt2 Z Z) (ah Z (af [(3,_)] ⟨.inl Z,trivial⟩ (λ sl Dy K hK=>ae Z (au Z Z Z Z Z Z Z Z (Dy _ _ Z) hK)) (ah Z aj))) ?_);refine cK [(20,_),(21,_)] Z ⟨.inr ⟨8,_,Z,Z,Z⟩,.inr ⟨9,_,Z,Z,Z⟩,trivial⟩ Z (λ sl Dy K hK=>ae Z (cR Z Z Z (Dy _ _ Z) (Dy _ _ Z) Z Z Z (ph Z) hK)) (gg ?_);refine nx 1 Z (cc' h1 λ E3 h1=>?_);refine cc' h1 λ FS h1=>mG (gE (t:=⟨[(0,.p (eL aL l_0)),(2,.ptr 2 0),(3,.ptr 3 0),(4,.p (eI i10))],[(2,[.p (eI 0),.p (.val (.slice none 0 0)),.p (.val (.slice none 0 0))]),(3,[.p (eI 6),.vec 30 3 0 (Fw.map aE),.vec 20 1 0 ((Ey++[(lat l_0 i10).By]).map eS)])]⟩) Z Z) (mS ⟨2,[8,10],(by3 (.some λ i=>Nat.beq i 30||Nat.beq i 30) .none .none),(λ _=>[(0,.p (eL aL l_0)),(2,.ptr 2 0),(3,.ptr 3 0),(4,.p (eI i10))]),(by3 ([(2,[.p (eI 0),.p (.val (.slice none 0 0)),.p (.val (.slice none 0 0))]),(3,[.p (eI 6),.vec 30 3 0 (Fw.map aE),.vec 20 1 0 ((Ey++[(lat l_0 i10).By]).map eS)])]) ([(2,[.p (eI 0),.p (.val (.slice none 0 0)),.p (.val (.slice none 0 0))]),(3,[.p (eI 6),.p (eL aE Fw),.vec 20 1 0 ((Ey++[(lat l_0 i10).By]).map eS)])]) ([(3,[.p (eI 6),.vec 30 3 0 ((Fw++[((lat l_0 i10).CO)]).map aE),.vec 20 1 0 ((Ey++[(lat l_0 i10).By]).map eS)]),(2,[.p (eI 0),.p (.val (.slice none 0 0)),.p (.val (.slice none 0 0))]),(3,[.p (eI 6),.p (eL aE Fw),.vec 20 1 0 ((Ey++[(lat l_0 i10).By]).map eS)])]))⟩ Z Z Z ⟨Z,Z,Z,Z,trivial⟩ (lt2 ⟨Z,Z,Z,Z,trivial⟩ ⟨Z,Z,Z,Z,trivial⟩) Z Z Z Z ?_);refine ai (λ _=>.ptr 3 1) Z Z Z (bq Z Z Y) (lt2 Z Z) (ah Z (af [(3,_)] ⟨.inl Z,trivial⟩ (λ sl Dy K hK=>ae Z (au Z Z Z Z Z Z Z Z (Dy _ _ Z) hK)) (af [(3,_)] ⟨.inl Z,trivial⟩ (λ sl Dy K hK=>ae Z (au Z Z Z Z Z Z Z Z (Dy _ _ Z) hK)) aj))) (ai (by3 (.vec 30 3 0 (Fw.map aE)) (.p (eL aE Fw)) (.p (eL aE Fw))) Z Z Z (bq Z Z Y) (lt2 Z Z) (ah Z (ah Z (af [(22,_)] ⟨.inr ⟨0,_,Z,Z,Z⟩,trivial⟩ (λ sl Dy K hK=>ae Z (bh Z Z Z Z Z (Dy _ _ Z) Z Z hK)) aj))) ?_);refine ai (λ _=>.p (eL aL l_0)) Z Z Z (bq Z Z Y) (lt2 Z Z) (ah Z (af [(0,_)] ⟨.inl Z,trivial⟩ (λ sl Dy K hK=>ae Z (bo Z Z Z (Dy _ _ Z) hK)) (af [(0,_)] ⟨.inl Z,trivial⟩ (λ sl Dy K hK=>ae Z (bo Z Z Z (Dy _ _ Z) hK)) aj))) (ai (λ _=>.p (eI i10)) Z Z Z (bq Z Z Y) (lt2 Z Z) (ah Z (af [(4,_)] ⟨.inl Z,trivial⟩ (λ sl Dy K hK=>ae Z (bo Z Z Z (Dy _ _ Z) hK)) (af [(4,_)] ⟨.inl Z,trivial⟩ (λ sl Dy K hK=>ae Z (bo Z Z Z (Dy _ _ Z) hK)) aj))) ?_);refine ai (λ _=>.rptr (az.cs (lat l_0 i10))) Z Z Z (bq Z Z Y) (lt2 Z Z) (ah Z (af [(24,_),(25,_)] ⟨.inr ⟨2,_,Z,Z,Z⟩,.inr ⟨3,_,Z,Z,Z⟩,trivial⟩ (λ sl Dy K hK=>ae Z (dV (f:=aL) (l:=l_0) az.cs Z Z Z Z Z Z (Dy _ _ Z) Z (Dy _ _ Z) E3 az.CM Y hK)) (af [(24,_),(25,_)] ⟨.inr ⟨2,_,Z,Z,Z⟩,.inr ⟨3,_,Z,Z,Z⟩,trivial⟩ (λ sl Dy K hK=>ae Z (dV (f:=aL) (l:=l_0) az.cs Z Z Z Z Z Z (Dy _ _ Z) Z (Dy _ _ Z) E3 az.CM Y hK)) aj))) (ai (λ _=>.rptr (List.drop 1 (az.cs (lat l_0 i10)))) Z Z Z (bq Z Z Y) (lt2 Z Z) (ah Z (af [(26,_)] ⟨.inr ⟨4,_,Z,Z,Z⟩,trivial⟩ (λ sl Dy K hK=>ae Z (cP Z Z Z Z Z Z Z Z (Dy _ _ Z) hK)) (af [(26,_)] ⟨.inr ⟨4,_,Z,Z,Z⟩,trivial⟩ (λ sl Dy K hK=>ae Z (cP Z Z Z Z Z Z Z Z (Dy _ _ Z) hK)) aj))) ?_);refine ai (λ _=>.p (.agg (ak.cs ((lat l_0 i10).CO)))) Z Z Z (bq Z Z Y) (lt2 Z Z) (ah Z (af [(27,_)] ⟨.inr ⟨5,_,Z,Z,Z⟩,trivial⟩ (λ sl Dy K hK=>ae Z (jR Z Z Z Z Z (Dy _ _ Z) Z hK)) (af [(27,_)] ⟨.inr ⟨5,_,Z,Z,Z⟩,trivial⟩ (λ sl Dy K hK=>ae Z (jR Z Z Z Z Z (Dy _ _ Z) Z hK)) aj))) (ai (λ _=>.p (eL aE [((lat l_0 i10).CO)])) Z Z Z (bq Z Z Y) (lt2 Z Z) (ah Z (ah Z (af [(28,_)] ⟨.inr ⟨6,_,Z,Z,Z⟩,trivial⟩ (λ sl Dy K hK=>ae Z (bE aE [((lat l_0 i10).CO)] Z Z Z Z Z Z (ce (Dy _ _ Z) Z dU) Z Z Z Z Z Z (by first|rfl|(simp only [mv,py,ak.CQ]; done)|(simp only [mv,py,ak.CQ]; rfl)) hK)) aj))) ?_);refine eF (λ _=>.vec 30 3 0 ((Fw++[((lat l_0 i10).CO)]).map aE)) [(23,_),(29,_)] Z ⟨.inr ⟨1,_,Z,Z,Z⟩,.inr ⟨7,_,Z,Z,Z⟩,trivial⟩ Z Z (cU Z Y) (lt2 (λ h=>absurd h (by decide)) Y) (λ sl Dy K hK=>ae Z (du aE Fw [((lat l_0 i10).CO)] Z Z Z Z Z Z Z Z (Dy _ _ Z) Z Z (Dy _ _ Z) Z (λ x=>congrArg List.length (ak.CM x)) Z Z Z Z FS hK)) (ai (λ _=>.ptr 3 1) Z Z Z (bq Z Z Y) (lt2 Z Z) (ah Z (af [(3,_)] ⟨.inl Z,trivial⟩ (λ sl Dy K hK=>ae Z (au Z Z Z Z Z Z Z Z (Dy _ _ Z) hK)) (ah Z aj))) ?_);refine cK [(30,_),(31,_)] Z ⟨.inr ⟨8,_,Z,Z,Z⟩,.inr ⟨9,_,Z,Z,Z⟩,trivial⟩ Z (λ sl Dy K hK=>ae Z (cR Z Z Z (Dy _ _ Z) (Dy _ _ Z) Z Z Z (ph Z) hK)) (gg ?_);refine nx 3 Z (oA h1 Z Z λ Ff h1=>?_);exact nx 2 Z (eX (i10+1,Fw++[((lat l_0 i10).CO)],Ey++[(lat l_0 i10).By]) h1 (gE Z Z))
 exact nx 2 Z (eXi _ (oi h1).symm (gE Z Z))
def bZ (n:Nat)(Dz:am):Nat->Int->Int->(List ak)->(List Bk)->Option ((List ak)×(List Bk))|0,_,_,_,_=>none|m+1,i30,k31,Eo,Eq=>(if i30<(Dz.B'.length:Int) then some true else some (decide (k31<(Dz.A'.length:Int))) : Option Bool).bind λ Eh=>if Eh=true then((if k31=(Dz.A'.length:Int) then some true else if i30<(Dz.B'.length:Int) then ck ((0:Int)<=i30/\i30<(Dz.B'.length:Int))<|ck ((0:Int)<=k31/\k31<(Dz.A'.length:Int))<|some (Op.bytesLess ((lat Dz.B' i30).By) ((lat Dz.A' k31).By))else some false : Option Bool).bind λ t41=>if t41=true then ck ((0:Int)<=i30/\i30<(Dz.B'.length:Int))<|ck ((Eq.length+[(lat Dz.B' i30).By].length)*16<=140737488355328)<|ck ((0:Int)<=i30/\i30<(Dz.B'.length:Int))<|ck ((Eo.length+[((lat Dz.B' i30).CO)].length)*56<=140737488355328)<|ck (inR (i30+1))<|some (i30+1,k31,Eo++[((lat Dz.B' i30).CO)],Eq++[(lat Dz.B' i30).By])else ck ((0:Int)<=k31/\k31<(Dz.A'.length:Int))<|ck ((Eq.length+[(lat Dz.A' k31).By].length)*16<=140737488355328)<|ck ((0:Int)<=k31/\k31<(Dz.A'.length:Int))<|(jr n ((lat Dz.A' k31).B')).bind λ Fy=>ck ((Eo.length+([(ak.mk 4 [Fy] [])]).length)*56<=140737488355328)<|ck (inR (k31+1))<|some (i30,k31+1,Eo++([(ak.mk 4 [Fy] [])]),Eq++[(lat Dz.A' k31).By]) : Option (Int×Int×(List ak)×(List Bk))).bind λ q67=>bZ n Dz m q67.1 q67.2.1 q67.2.2.1 q67.2.2.2 else some (Eo,Eq)
def fw (n:Nat)(Dz:am):Option ak :=(bZ n Dz n 0 0 [] []).bind λ FZ=>some (ak.mk 6 FZ.1 FZ.2)
theorem nR (n:Nat)(Dz:am)(r:ak)(h0:fw n Dz=some r):aB Tryz.prog 56 [.agg (am.cs Dz)] (·=.p (.agg (ak.cs r))):=by
 unfold fw at h0;refine aR good Tryz.func56 Z Z Z λ w0=>mP (λ v:ak=>.p (.agg (ak.cs v))) ?_;refine nx 18 Z (bd h0 λ HP h1 h0=>?_);refine kE 0 HP (λ v70=>⟨[(2,.ptr 2 0),(3,.ptr 3 0)],[(2,[.p (eI 0),.p (.val (.slice none 0 0)),.p (.val (.slice none 0 0))]),(3,[.p (eI 6),.vec 93 3 0 (v70.1.map aE),.vec 79 1 0 (v70.2.map eS)])]⟩) ?_ ?_
 ·exact nx 7 Z (mQ (oi h0) Z (ga ⟨sr,AV.sub_vec _ _ _ _,AV.sub_vec _ _ _ _,trivial⟩))
 refine lG (λ (HN:Int×Int×(List ak)×(List Bk))=>⟨[(1,.ptr 1 0),(2,.ptr 2 0),(3,.ptr 3 0),(4,.p (eI HN.1)),(5,.p (eI HN.2.1))],[(1,(am.cs Dz).map .p),(2,[.p (eI 0),.p (.val (.slice none 0 0)),.p (.val (.slice none 0 0))]),(3,[.p (eI 6),.vec 93 3 0 (HN.2.2.1.map aE),.vec 79 1 0 (HN.2.2.2.map eS)])]⟩) (λ m (HN:Int×Int×(List ak)×(List Bk))=>bZ n Dz m HN.1 HN.2.1 HN.2.2.1 HN.2.2.2) Y (0,0,[],[]) h1 (b7 (gk ⟨er rfl,er rfl,er rfl,er rfl,er rfl,trivial⟩ ⟨⟨_,rfl,⟨sr,sr,trivial⟩⟩,⟨_,rfl,⟨sr,sr,sr,trivial⟩⟩,⟨_,rfl,⟨sr,AV.sub_nilvec _ _ _,AV.sub_nilvec _ _ _,trivial⟩⟩,trivial⟩)) ?_;rintro m ⟨i30,k31,Eo,Eq⟩ h1;replace h1:bZ n Dz (m+1) i30 k31 Eo Eq=some HP:=h1;rw [bZ] at h1;refine nx 2 rfl (bd h1 λ o72 h2 h1=>?_);refine kN o72 (λ v73=>⟨[(1,.ptr 1 0),(2,.ptr 2 0),(3,.ptr 3 0),(4,.p (eI i30)),(5,.p (eI k31)),(18,.p (eB v73))],[(1,(am.cs Dz).map .p),(2,[.p (eI 0),.p (.val (.slice none 0 0)),.p (.val (.slice none 0 0))]),(3,[.p (eI 6),.vec 93 3 0 (Eo.map aE),.vec 79 1 0 (Eq.map eS)])]⟩) ?_ ?_
 ·refine nx 1 Z (fB [18] h1 Z (λ GW h1=>?_) λ GW h1=>?_)
  ·refine nx 2 Z (bd h1 λ Ic h2 h1=>?_);refine kN Ic (λ v75=>⟨[(1,.ptr 1 0),(2,.ptr 2 0),(3,.ptr 3 0),(4,.p (eI v75.1)),(5,.p (eI v75.2.1))],[(1,(am.cs Dz).map .p),(2,[.p (eI 0),.p (.val (.slice none 0 0)),.p (.val (.slice none 0 0))]),(3,[.p (eI 6),.vec 93 3 0 (v75.2.2.1.map aE),.vec 79 1 0 (v75.2.2.2.map eS)])]⟩) ?_ ?_
   ·exact nx 1 Z (eX (Ic.1,Ic.2.1,Ic.2.2.1,Ic.2.2.2) h1 (gE Z Z))
   refine nx 2 Z (bd h2 λ o76 h3 h2=>?_);refine kN o76 (λ v77=>⟨[(1,.ptr 1 0),(2,.ptr 2 0),(3,.ptr 3 0),(4,.p (eI i30)),(5,.p (eI k31)),(45,.p (eB v77))],[(1,(am.cs Dz).map .p),(2,[.p (eI 0),.p (.val (.slice none 0 0)),.p (.val (.slice none 0 0))]),(3,[.p (eI 6),.vec 93 3 0 (Eo.map aE),.vec 79 1 0 (Eq.map eS)])]⟩) ?_ ?_
   ·refine nx 1 Z (fB [45] h2 Z (λ IX h2=>?_) λ IX h2=>?_)
    ·refine nx 2 Z (cc' h2 λ F' h2=>?_);refine cc' h2 λ H0 h2=>mG (gE (t:=⟨[(1,.ptr 1 0),(2,.ptr 2 0),(3,.ptr 3 0),(4,.p (eI i30)),(5,.p (eI k31))],[(1,(am.cs Dz).map .p),(2,[.p (eI 0),.p (.val (.slice none 0 0)),.p (.val (.slice none 0 0))]),(3,[.p (eI 6),.vec 93 3 0 (Eo.map aE),.vec 79 1 0 (Eq.map eS)])]⟩) Z Z) (mS ⟨2,[9,11],(by3 (.some λ i=>Nat.beq i 79||Nat.beq i 55) .none .none),(λ _=>[(1,.ptr 1 0),(2,.ptr 2 0),(3,.ptr 3 0),(4,.p (eI i30)),(5,.p (eI k31))]),(by3 ([(1,[.p (eL aL Dz.B'),.p (eL aO Dz.A')]),(2,[.p (eI 0),.p (.val (.slice none 0 0)),.p (.val (.slice none 0 0))]),(3,[.p (eI 6),.vec 93 3 0 (Eo.map aE),.vec 79 1 0 (Eq.map eS)])]) ([(1,[.p (eL aL Dz.B'),.p (eL aO Dz.A')]),(2,[.p (eI 0),.p (.val (.slice none 0 0)),.p (.val (.slice none 0 0))]),(3,[.p (eI 6),.vec 93 3 0 (Eo.map aE),.p (eL eS Eq)])]) ([(3,[.p (eI 6),.vec 93 3 0 (Eo.map aE),.vec 55 1 0 ((Eq++[(lat Dz.B' i30).By]).map eS)]),(1,[.p (eL aL Dz.B'),.p (eL aO Dz.A')]),(2,[.p (eI 0),.p (.val (.slice none 0 0)),.p (.val (.slice none 0 0))]),(3,[.p (eI 6),.vec 93 3 0 (Eo.map aE),.p (eL eS Eq)])]))⟩ Z Z Z ⟨Z,Z,Z,Z,Z,trivial⟩ (lt2 ⟨Z,Z,Z,Z,Z,trivial⟩ ⟨Z,Z,Z,Z,Z,trivial⟩) Z Z Z Z ?_);refine ai (λ _=>.ptr 3 2) Z Z Z (bq Z Z Y) (lt2 Z Z) (ah Z (af [(3,_)] ⟨.inl Z,trivial⟩ (λ sl Dy K hK=>ae Z (au Z Z Z Z Z Z Z Z (Dy _ _ Z) hK)) (af [(3,_)] ⟨.inl Z,trivial⟩ (λ sl Dy K hK=>ae Z (au Z Z Z Z Z Z Z Z (Dy _ _ Z) hK)) aj))) (ai (by3 (.vec 79 1 0 (Eq.map eS)) (.p (eL eS Eq)) (.p (eL eS Eq))) Z Z Z (bq Z Z Y) (lt2 Z Z) (ah Z (ah Z (af [(46,_)] ⟨.inr ⟨0,_,Z,Z,Z⟩,trivial⟩ (λ sl Dy K hK=>ae Z (bh Z Z Z Z Z (Dy _ _ Z) Z Z hK)) aj))) ?_);refine ai (λ _=>.ptr 1 0) Z Z Z (bq Z Z Y) (lt2 Z Z) (ah Z (af [(1,_)] ⟨.inl Z,trivial⟩ (λ sl Dy K hK=>ae Z (au Z Z Z Z Z Z Z Z (Dy _ _ Z) hK)) (af [(1,_)] ⟨.inl Z,trivial⟩ (λ sl Dy K hK=>ae Z (au Z Z Z Z Z Z Z Z (Dy _ _ Z) hK)) aj))) (ai (λ _=>.p (eL aL Dz.B')) Z Z Z (bq Z Z Y) (lt2 Z Z) (ah Z (af [(48,_)] ⟨.inr ⟨2,_,Z,Z,Z⟩,trivial⟩ (λ sl Dy K hK=>ae Z (bh Z Z Z Z Z (Dy _ _ Z) Z Z hK)) (af [(48,_)] ⟨.inr ⟨2,_,Z,Z,Z⟩,trivial⟩ (λ sl Dy K hK=>ae Z (bh Z Z Z Z Z (Dy _ _ Z) Z Z hK)) aj))) ?_);refine ai (λ _=>.p (eI i30)) Z Z Z (bq Z Z Y) (lt2 Z Z) (ah Z (af [(4,_)] ⟨.inl Z,trivial⟩ (λ sl Dy K hK=>ae Z (bo Z Z Z (Dy _ _ Z) hK)) (af [(4,_)] ⟨.inl Z,trivial⟩ (λ sl Dy K hK=>ae Z (bo Z Z Z (Dy _ _ Z) hK)) aj))) (ai (λ _=>.rptr (az.cs (lat Dz.B' i30))) Z Z Z (bq Z Z Y) (lt2 Z Z) (ah Z (af [(49,_),(50,_)] ⟨.inr ⟨3,_,Z,Z,Z⟩,.inr ⟨4,_,Z,Z,Z⟩,trivial⟩ (λ sl Dy K hK=>ae Z (dV (f:=aL) (l:=Dz.B') az.cs Z Z Z Z Z Z (Dy _ _ Z) Z (Dy _ _ Z) F' az.CM Y hK)) (af [(49,_),(50,_)] ⟨.inr ⟨3,_,Z,Z,Z⟩,.inr ⟨4,_,Z,Z,Z⟩,trivial⟩ (λ sl Dy K hK=>ae Z (dV (f:=aL) (l:=Dz.B') az.cs Z Z Z Z Z Z (Dy _ _ Z) Z (Dy _ _ Z) F' az.CM Y hK)) aj))) ?_);refine ai (λ _=>.rptr (List.drop 0 (az.cs (lat Dz.B' i30)))) Z Z Z (bq Z Z Y) (lt2 Z Z) (ah Z (af [(51,_)] ⟨.inr ⟨5,_,Z,Z,Z⟩,trivial⟩ (λ sl Dy K hK=>ae Z (cP Z Z Z Z Z Z Z Z (Dy _ _ Z) hK)) (af [(51,_)] ⟨.inr ⟨5,_,Z,Z,Z⟩,trivial⟩ (λ sl Dy K hK=>ae Z (cP Z Z Z Z Z Z Z Z (Dy _ _ Z) hK)) aj))) (ai (λ _=>.p (eS ((lat Dz.B' i30).By))) Z Z Z (bq Z Z Y) (lt2 Z Z) (ah Z (af [(52,_)] ⟨.inr ⟨6,_,Z,Z,Z⟩,trivial⟩ (λ sl Dy K hK=>ae Z (eA Z Z Z Z Z (Dy _ _ Z) Z hK)) (af [(52,_)] ⟨.inr ⟨6,_,Z,Z,Z⟩,trivial⟩ (λ sl Dy K hK=>ae Z (eA Z Z Z Z Z (Dy _ _ Z) Z hK)) aj))) ?_);refine ai (λ _=>.p (eL eS [(lat Dz.B' i30).By])) Z Z Z (bq Z Z Y) (lt2 Z Z) (ah Z (ah Z (af [(53,_)] ⟨.inr ⟨7,_,Z,Z,Z⟩,trivial⟩ (λ sl Dy K hK=>ae Z (bE eS [(lat Dz.B' i30).By] Z Z Z Z Z Z (ce (Dy _ _ Z) Z dU) Z Z Z Z Z Z Z hK)) aj))) (eF (λ _=>.vec 55 1 0 ((Eq++[(lat Dz.B' i30).By]).map eS)) [(47,_),(54,_)] Z ⟨.inr ⟨1,_,Z,Z,Z⟩,.inr ⟨8,_,Z,Z,Z⟩,trivial⟩ Z Z (cU Z Y) (lt2 (λ h=>absurd h (by decide)) Y) (λ sl Dy K hK=>ae Z (du eS Eq [(lat Dz.B' i30).By] Z Z Z Z Z Z Z Z (Dy _ _ Z) Z Z (Dy _ _ Z) Z Y Z Z Z Z H0 hK)) ?_);refine ai (λ _=>.ptr 3 2) Z Z Z (bq Z Z Y) (lt2 Z Z) (ah Z (af [(3,_)] ⟨.inl Z,trivial⟩ (λ sl Dy K hK=>ae Z (au Z Z Z Z Z Z Z Z (Dy _ _ Z) hK)) (ah Z aj))) (cK [(55,_),(56,_)] Z ⟨.inr ⟨9,_,Z,Z,Z⟩,.inr ⟨10,_,Z,Z,Z⟩,trivial⟩ Z (λ sl Dy K hK=>ae Z (cR Z Z Z (Dy _ _ Z) (Dy _ _ Z) Z Z Z (ph Z) hK)) ?_);refine gg (nx 2 Z ?_);refine cc' h2 λ GH h2=>cc' h2 λ Ho h2=>mG (gE (t:=⟨[(1,.ptr 1 0),(2,.ptr 2 0),(3,.ptr 3 0),(4,.p (eI i30)),(5,.p (eI k31))],[(1,(am.cs Dz).map .p),(2,[.p (eI 0),.p (.val (.slice none 0 0)),.p (.val (.slice none 0 0))]),(3,[.p (eI 6),.vec 93 3 0 (Eo.map aE),.vec 55 1 0 ((Eq++[(lat Dz.B' i30).By]).map eS)])]⟩) Z Z) (mS ⟨2,[9,11],(by3 (.some λ i=>Nat.beq i 93||Nat.beq i 66) .none .none),(λ _=>[(1,.ptr 1 0),(2,.ptr 2 0),(3,.ptr 3 0),(4,.p (eI i30)),(5,.p (eI k31))]),(by3 ([(1,[.p (eL aL Dz.B'),.p (eL aO Dz.A')]),(2,[.p (eI 0),.p (.val (.slice none 0 0)),.p (.val (.slice none 0 0))]),(3,[.p (eI 6),.vec 93 3 0 (Eo.map aE),.vec 55 1 0 ((Eq++[(lat Dz.B' i30).By]).map eS)])]) ([(1,[.p (eL aL Dz.B'),.p (eL aO Dz.A')]),(2,[.p (eI 0),.p (.val (.slice none 0 0)),.p (.val (.slice none 0 0))]),(3,[.p (eI 6),.p (eL aE Eo),.vec 55 1 0 ((Eq++[(lat Dz.B' i30).By]).map eS)])]) ([(3,[.p (eI 6),.vec 66 3 0 ((Eo++[((lat Dz.B' i30).CO)]).map aE),.vec 55 1 0 ((Eq++[(lat Dz.B' i30).By]).map eS)]),(1,[.p (eL aL Dz.B'),.p (eL aO Dz.A')]),(2,[.p (eI 0),.p (.val (.slice none 0 0)),.p (.val (.slice none 0 0))]),(3,[.p (eI 6),.p (eL aE Eo),.vec 55 1 0 ((Eq++[(lat Dz.B' i30).By]).map eS)])]))⟩ Z Z Z ⟨Z,Z,Z,Z,Z,trivial⟩ (lt2 ⟨Z,Z,Z,Z,Z,trivial⟩ ⟨Z,Z,Z,Z,Z,trivial⟩) Z Z Z Z ?_);refine ai (λ _=>.ptr 3 1) Z Z Z (bq Z Z Y) (lt2 Z Z) (ah Z (af [(3,_)] ⟨.inl Z,trivial⟩ (λ sl Dy K hK=>ae Z (au Z Z Z Z Z Z Z Z (Dy _ _ Z) hK)) (af [(3,_)] ⟨.inl Z,trivial⟩ (λ sl Dy K hK=>ae Z (au Z Z Z Z Z Z Z Z (Dy _ _ Z) hK)) aj))) (ai (by3 (.vec 93 3 0 (Eo.map aE)) (.p (eL aE Eo)) (.p (eL aE Eo))) Z Z Z (bq Z Z Y) (lt2 Z Z) (ah Z (ah Z (af [(57,_)] ⟨.inr ⟨0,_,Z,Z,Z⟩,trivial⟩ (λ sl Dy K hK=>ae Z (bh Z Z Z Z Z (Dy _ _ Z) Z Z hK)) aj))) ?_);refine ai (λ _=>.ptr 1 0) Z Z Z (bq Z Z Y) (lt2 Z Z) (ah Z (af [(1,_)] ⟨.inl Z,trivial⟩ (λ sl Dy K hK=>ae Z (au Z Z Z Z Z Z Z Z (Dy _ _ Z) hK)) (af [(1,_)] ⟨.inl Z,trivial⟩ (λ sl Dy K hK=>ae Z (au Z Z Z Z Z Z Z Z (Dy _ _ Z) hK)) aj))) (ai (λ _=>.p (eL aL Dz.B')) Z Z Z (bq Z Z Y) (lt2 Z Z) (ah Z (af [(59,_)] ⟨.inr ⟨2,_,Z,Z,Z⟩,trivial⟩ (λ sl Dy K hK=>ae Z (bh Z Z Z Z Z (Dy _ _ Z) Z Z hK)) (af [(59,_)] ⟨.inr ⟨2,_,Z,Z,Z⟩,trivial⟩ (λ sl Dy K hK=>ae Z (bh Z Z Z Z Z (Dy _ _ Z) Z Z hK)) aj))) ?_);refine ai (λ _=>.p (eI i30)) Z Z Z (bq Z Z Y) (lt2 Z Z) (ah Z (af [(4,_)] ⟨.inl Z,trivial⟩ (λ sl Dy K hK=>ae Z (bo Z Z Z (Dy _ _ Z) hK)) (af [(4,_)] ⟨.inl Z,trivial⟩ (λ sl Dy K hK=>ae Z (bo Z Z Z (Dy _ _ Z) hK)) aj))) (ai (λ _=>.rptr (az.cs (lat Dz.B' i30))) Z Z Z (bq Z Z Y) (lt2 Z Z) (ah Z (af [(60,_),(61,_)] ⟨.inr ⟨3,_,Z,Z,Z⟩,.inr ⟨4,_,Z,Z,Z⟩,trivial⟩ (λ sl Dy K hK=>ae Z (dV (f:=aL) (l:=Dz.B') az.cs Z Z Z Z Z Z (Dy _ _ Z) Z (Dy _ _ Z) GH az.CM Y hK)) (af [(60,_),(61,_)] ⟨.inr ⟨3,_,Z,Z,Z⟩,.inr ⟨4,_,Z,Z,Z⟩,trivial⟩ (λ sl Dy K hK=>ae Z (dV (f:=aL) (l:=Dz.B') az.cs Z Z Z Z Z Z (Dy _ _ Z) Z (Dy _ _ Z) GH az.CM Y hK)) aj))) ?_);refine ai (λ _=>.rptr (List.drop 1 (az.cs (lat Dz.B' i30)))) Z Z Z (bq Z Z Y) (lt2 Z Z) (ah Z (af [(62,_)] ⟨.inr ⟨5,_,Z,Z,Z⟩,trivial⟩ (λ sl Dy K hK=>ae Z (cP Z Z Z Z Z Z Z Z (Dy _ _ Z) hK)) (af [(62,_)] ⟨.inr ⟨5,_,Z,Z,Z⟩,trivial⟩ (λ sl Dy K hK=>ae Z (cP Z Z Z Z Z Z Z Z (Dy _ _ Z) hK)) aj))) (ai (λ _=>.p (.agg (ak.cs ((lat Dz.B' i30).CO)))) Z Z Z (bq Z Z Y) (lt2 Z Z) (ah Z (af [(63,_)] ⟨.inr ⟨6,_,Z,Z,Z⟩,trivial⟩ (λ sl Dy K hK=>ae Z (jR Z Z Z Z Z (Dy _ _ Z) Z hK)) (af [(63,_)] ⟨.inr ⟨6,_,Z,Z,Z⟩,trivial⟩ (λ sl Dy K hK=>ae Z (jR Z Z Z Z Z (Dy _ _ Z) Z hK)) aj))) ?_);refine ai (λ _=>.p (eL aE [((lat Dz.B' i30).CO)])) Z Z Z (bq Z Z Y) (lt2 Z Z) (ah Z (ah Z (af [(64,_)] ⟨.inr ⟨7,_,Z,Z,Z⟩,trivial⟩ (λ sl Dy K hK=>ae Z (bE aE [((lat Dz.B' i30).CO)] Z Z Z Z Z Z (ce (Dy _ _ Z) Z dU) Z Z Z Z Z Z (by first|rfl|(simp only [mv,py,ak.CQ]; done)|(simp only [mv,py,ak.CQ]; rfl)) hK)) aj))) (eF (λ _=>.vec 66 3 0 ((Eo++[((lat Dz.B' i30).CO)]).map aE)) [(58,_),(65,_)] Z ⟨.inr ⟨1,_,Z,Z,Z⟩,.inr ⟨8,_,Z,Z,Z⟩,trivial⟩ Z Z (cU Z Y) (lt2 (λ h=>absurd h (by decide)) Y) (λ sl Dy K hK=>ae Z (du aE Eo [((lat Dz.B' i30).CO)] Z Z Z Z Z Z Z Z (Dy _ _ Z) Z Z (Dy _ _ Z) Z (λ x=>congrArg List.length (ak.CM x)) Z Z Z Z Ho hK)) ?_);refine ai (λ _=>.ptr 3 1) Z Z Z (bq Z Z Y) (lt2 Z Z) (ah Z (af [(3,_)] ⟨.inl Z,trivial⟩ (λ sl Dy K hK=>ae Z (au Z Z Z Z Z Z Z Z (Dy _ _ Z) hK)) (ah Z aj))) (cK [(66,_),(67,_)] Z ⟨.inr ⟨9,_,Z,Z,Z⟩,.inr ⟨10,_,Z,Z,Z⟩,trivial⟩ Z (λ sl Dy K hK=>ae Z (cR Z Z Z (Dy _ _ Z) (Dy _ _ Z) Z Z Z (ph Z) hK)) ?_);refine gg (nx 3 Z ?_);exact oA h2 Z Z λ F9 h2=>nx 2 Z (eX _ (oi h2).symm (bj (bI 55 79 Z Z Z Z Z) (bj (bI 66 93 Z Z Z Z Z) (gE Z Z))))
    refine nx 2 Z (cc' h2 λ IM h2=>?_);refine cc' h2 λ IL h2=>mG (gE (t:=⟨[(1,.ptr 1 0),(2,.ptr 2 0),(3,.ptr 3 0),(4,.p (eI i30)),(5,.p (eI k31))],[(1,(am.cs Dz).map .p),(2,[.p (eI 0),.p (.val (.slice none 0 0)),.p (.val (.slice none 0 0))]),(3,[.p (eI 6),.vec 93 3 0 (Eo.map aE),.vec 79 1 0 (Eq.map eS)])]⟩) Z Z) (mS ⟨2,[9,11],(by3 (.some λ i=>Nat.beq i 79||Nat.beq i 79) .none .none),(λ _=>[(1,.ptr 1 0),(2,.ptr 2 0),(3,.ptr 3 0),(4,.p (eI i30)),(5,.p (eI k31))]),(by3 ([(1,[.p (eL aL Dz.B'),.p (eL aO Dz.A')]),(2,[.p (eI 0),.p (.val (.slice none 0 0)),.p (.val (.slice none 0 0))]),(3,[.p (eI 6),.vec 93 3 0 (Eo.map aE),.vec 79 1 0 (Eq.map eS)])]) ([(1,[.p (eL aL Dz.B'),.p (eL aO Dz.A')]),(2,[.p (eI 0),.p (.val (.slice none 0 0)),.p (.val (.slice none 0 0))]),(3,[.p (eI 6),.vec 93 3 0 (Eo.map aE),.p (eL eS Eq)])]) ([(3,[.p (eI 6),.vec 93 3 0 (Eo.map aE),.vec 79 1 0 ((Eq++[(lat Dz.A' k31).By]).map eS)]),(1,[.p (eL aL Dz.B'),.p (eL aO Dz.A')]),(2,[.p (eI 0),.p (.val (.slice none 0 0)),.p (.val (.slice none 0 0))]),(3,[.p (eI 6),.vec 93 3 0 (Eo.map aE),.p (eL eS Eq)])]))⟩ Z Z Z ⟨Z,Z,Z,Z,Z,trivial⟩ (lt2 ⟨Z,Z,Z,Z,Z,trivial⟩ ⟨Z,Z,Z,Z,Z,trivial⟩) Z Z Z Z ?_);refine ai (λ _=>.ptr 3 2) Z Z Z (bq Z Z Y) (lt2 Z Z) (ah Z (af [(3,_)] ⟨.inl Z,trivial⟩ (λ sl Dy K hK=>ae Z (au Z Z Z Z Z Z Z Z (Dy _ _ Z) hK)) (af [(3,_)] ⟨.inl Z,trivial⟩ (λ sl Dy K hK=>ae Z (au Z Z Z Z Z Z Z Z (Dy _ _ Z) hK)) aj))) (ai (by3 (.vec 79 1 0 (Eq.map eS)) (.p (eL eS Eq)) (.p (eL eS Eq))) Z Z Z (bq Z Z Y) (lt2 Z Z) (ah Z (ah Z (af [(70,_)] ⟨.inr ⟨0,_,Z,Z,Z⟩,trivial⟩ (λ sl Dy K hK=>ae Z (bh Z Z Z Z Z (Dy _ _ Z) Z Z hK)) aj))) ?_);refine ai (λ _=>.ptr 1 1) Z Z Z (bq Z Z Y) (lt2 Z Z) (ah Z (af [(1,_)] ⟨.inl Z,trivial⟩ (λ sl Dy K hK=>ae Z (au Z Z Z Z Z Z Z Z (Dy _ _ Z) hK)) (af [(1,_)] ⟨.inl Z,trivial⟩ (λ sl Dy K hK=>ae Z (au Z Z Z Z Z Z Z Z (Dy _ _ Z) hK)) aj))) (ai (λ _=>.p (eL aO Dz.A')) Z Z Z (bq Z Z Y) (lt2 Z Z) (ah Z (af [(72,_)] ⟨.inr ⟨2,_,Z,Z,Z⟩,trivial⟩ (λ sl Dy K hK=>ae Z (bh Z Z Z Z Z (Dy _ _ Z) Z Z hK)) (af [(72,_)] ⟨.inr ⟨2,_,Z,Z,Z⟩,trivial⟩ (λ sl Dy K hK=>ae Z (bh Z Z Z Z Z (Dy _ _ Z) Z Z hK)) aj))) ?_);refine ai (λ _=>.p (eI k31)) Z Z Z (bq Z Z Y) (lt2 Z Z) (ah Z (af [(5,_)] ⟨.inl Z,trivial⟩ (λ sl Dy K hK=>ae Z (bo Z Z Z (Dy _ _ Z) hK)) (af [(5,_)] ⟨.inl Z,trivial⟩ (λ sl Dy K hK=>ae Z (bo Z Z Z (Dy _ _ Z) hK)) aj))) (ai (λ _=>.rptr (aD.cs (lat Dz.A' k31))) Z Z Z (bq Z Z Y) (lt2 Z Z) (ah Z (af [(73,_),(74,_)] ⟨.inr ⟨3,_,Z,Z,Z⟩,.inr ⟨4,_,Z,Z,Z⟩,trivial⟩ (λ sl Dy K hK=>ae Z (dV (f:=aO) (l:=Dz.A') aD.cs Z Z Z Z Z Z (Dy _ _ Z) Z (Dy _ _ Z) IM aD.CM Y hK)) (af [(73,_),(74,_)] ⟨.inr ⟨3,_,Z,Z,Z⟩,.inr ⟨4,_,Z,Z,Z⟩,trivial⟩ (λ sl Dy K hK=>ae Z (dV (f:=aO) (l:=Dz.A') aD.cs Z Z Z Z Z Z (Dy _ _ Z) Z (Dy _ _ Z) IM aD.CM Y hK)) aj))) ?_);refine ai (λ _=>.rptr (List.drop 0 (aD.cs (lat Dz.A' k31)))) Z Z Z (bq Z Z Y) (lt2 Z Z) (ah Z (af [(75,_)] ⟨.inr ⟨5,_,Z,Z,Z⟩,trivial⟩ (λ sl Dy K hK=>ae Z (cP Z Z Z Z Z Z Z Z (Dy _ _ Z) hK)) (af [(75,_)] ⟨.inr ⟨5,_,Z,Z,Z⟩,trivial⟩ (λ sl Dy K hK=>ae Z (cP Z Z Z Z Z Z Z Z (Dy _ _ Z) hK)) aj))) (ai (λ _=>.p (eS ((lat Dz.A' k31).By))) Z Z Z (bq Z Z Y) (lt2 Z Z) (ah Z (af [(76,_)] ⟨.inr ⟨6,_,Z,Z,Z⟩,trivial⟩ (λ sl Dy K hK=>ae Z (eA Z Z Z Z Z (Dy _ _ Z) Z hK)) (af [(76,_)] ⟨.inr ⟨6,_,Z,Z,Z⟩,trivial⟩ (λ sl Dy K hK=>ae Z (eA Z Z Z Z Z (Dy _ _ Z) Z hK)) aj))) ?_);refine ai (λ _=>.p (eL eS [(lat Dz.A' k31).By])) Z Z Z (bq Z Z Y) (lt2 Z Z) (ah Z (ah Z (af [(77,_)] ⟨.inr ⟨7,_,Z,Z,Z⟩,trivial⟩ (λ sl Dy K hK=>ae Z (bE eS [(lat Dz.A' k31).By] Z Z Z Z Z Z (ce (Dy _ _ Z) Z dU) Z Z Z Z Z Z Z hK)) aj))) (eF (λ _=>.vec 79 1 0 ((Eq++[(lat Dz.A' k31).By]).map eS)) [(71,_),(78,_)] Z ⟨.inr ⟨1,_,Z,Z,Z⟩,.inr ⟨8,_,Z,Z,Z⟩,trivial⟩ Z Z (cU Z Y) (lt2 (λ h=>absurd h (by decide)) Y) (λ sl Dy K hK=>ae Z (du eS Eq [(lat Dz.A' k31).By] Z Z Z Z Z Z Z Z (Dy _ _ Z) Z Z (Dy _ _ Z) Z Y Z Z Z Z IL hK)) ?_);refine ai (λ _=>.ptr 3 2) Z Z Z (bq Z Z Y) (lt2 Z Z) (ah Z (af [(3,_)] ⟨.inl Z,trivial⟩ (λ sl Dy K hK=>ae Z (au Z Z Z Z Z Z Z Z (Dy _ _ Z) hK)) (ah Z aj))) (cK [(79,_),(80,_)] Z ⟨.inr ⟨9,_,Z,Z,Z⟩,.inr ⟨10,_,Z,Z,Z⟩,trivial⟩ Z (λ sl Dy K hK=>ae Z (cR Z Z Z (Dy _ _ Z) (Dy _ _ Z) Z Z Z (ph Z) hK)) ?_);refine gg (nx 2 Z ?_);refine cc' h2 λ IK h2=>bd h2 λ Fy J' h2=>cc' h2 λ F8 h2=>mG (gE (t:=⟨[(1,.ptr 1 0),(2,.ptr 2 0),(3,.ptr 3 0),(4,.p (eI i30)),(5,.p (eI k31))],[(1,(am.cs Dz).map .p),(2,[.p (eI 0),.p (.val (.slice none 0 0)),.p (.val (.slice none 0 0))]),(3,[.p (eI 6),.vec 93 3 0 (Eo.map aE),.vec 79 1 0 ((Eq++[(lat Dz.A' k31).By]).map eS)])]⟩) Z Z) (mS ⟨2,[12,14],(by3 (.some λ i=>Nat.beq i 93||Nat.beq i 93) .none .none),(λ _=>[(1,.ptr 1 0),(2,.ptr 2 0),(3,.ptr 3 0),(4,.p (eI i30)),(5,.p (eI k31))]),(by3 ([(1,[.p (eL aL Dz.B'),.p (eL aO Dz.A')]),(2,[.p (eI 0),.p (.val (.slice none 0 0)),.p (.val (.slice none 0 0))]),(3,[.p (eI 6),.vec 93 3 0 (Eo.map aE),.vec 79 1 0 ((Eq++[(lat Dz.A' k31).By]).map eS)])]) ([(1,[.p (eL aL Dz.B'),.p (eL aO Dz.A')]),(2,[.p (eI 0),.p (.val (.slice none 0 0)),.p (.val (.slice none 0 0))]),(3,[.p (eI 6),.p (eL aE Eo),.vec 79 1 0 ((Eq++[(lat Dz.A' k31).By]).map eS)])]) ([(3,[.p (eI 6),.vec 93 3 0 ((Eo++([(ak.mk 4 [Fy] [])])).map aE),.vec 79 1 0 ((Eq++[(lat Dz.A' k31).By]).map eS)]),(1,[.p (eL aL Dz.B'),.p (eL aO Dz.A')]),(2,[.p (eI 0),.p (.val (.slice none 0 0)),.p (.val (.slice none 0 0))]),(3,[.p (eI 6),.p (eL aE Eo),.vec 79 1 0 ((Eq++[(lat Dz.A' k31).By]).map eS)])]))⟩ Z Z Z ⟨Z,Z,Z,Z,Z,trivial⟩ (lt2 ⟨Z,Z,Z,Z,Z,trivial⟩ ⟨Z,Z,Z,Z,Z,trivial⟩) Z Z Z Z ?_);refine ai (λ _=>.ptr 3 1) Z Z Z (bq Z Z Y) (lt2 Z Z) (ah Z (af [(3,_)] ⟨.inl Z,trivial⟩ (λ sl Dy K hK=>ae Z (au Z Z Z Z Z Z Z Z (Dy _ _ Z) hK)) (af [(3,_)] ⟨.inl Z,trivial⟩ (λ sl Dy K hK=>ae Z (au Z Z Z Z Z Z Z Z (Dy _ _ Z) hK)) aj))) (ai (by3 (.vec 93 3 0 (Eo.map aE)) (.p (eL aE Eo)) (.p (eL aE Eo))) Z Z Z (bq Z Z Y) (lt2 Z Z) (ah Z (ah Z (af [(81,_)] ⟨.inr ⟨0,_,Z,Z,Z⟩,trivial⟩ (λ sl Dy K hK=>ae Z (bh Z Z Z Z Z (Dy _ _ Z) Z Z hK)) aj))) ?_);refine ai (λ _=>.ptr 1 1) Z Z Z (bq Z Z Y) (lt2 Z Z) (ah Z (af [(1,_)] ⟨.inl Z,trivial⟩ (λ sl Dy K hK=>ae Z (au Z Z Z Z Z Z Z Z (Dy _ _ Z) hK)) (af [(1,_)] ⟨.inl Z,trivial⟩ (λ sl Dy K hK=>ae Z (au Z Z Z Z Z Z Z Z (Dy _ _ Z) hK)) aj))) (ai (λ _=>.p (eL aO Dz.A')) Z Z Z (bq Z Z Y) (lt2 Z Z) (ah Z (af [(83,_)] ⟨.inr ⟨2,_,Z,Z,Z⟩,trivial⟩ (λ sl Dy K hK=>ae Z (bh Z Z Z Z Z (Dy _ _ Z) Z Z hK)) (af [(83,_)] ⟨.inr ⟨2,_,Z,Z,Z⟩,trivial⟩ (λ sl Dy K hK=>ae Z (bh Z Z Z Z Z (Dy _ _ Z) Z Z hK)) aj))) ?_);refine ai (λ _=>.p (eI k31)) Z Z Z (bq Z Z Y) (lt2 Z Z) (ah Z (af [(5,_)] ⟨.inl Z,trivial⟩ (λ sl Dy K hK=>ae Z (bo Z Z Z (Dy _ _ Z) hK)) (af [(5,_)] ⟨.inl Z,trivial⟩ (λ sl Dy K hK=>ae Z (bo Z Z Z (Dy _ _ Z) hK)) aj))) (ai (λ _=>.rptr (aD.cs (lat Dz.A' k31))) Z Z Z (bq Z Z Y) (lt2 Z Z) (ah Z (af [(84,_),(85,_)] ⟨.inr ⟨3,_,Z,Z,Z⟩,.inr ⟨4,_,Z,Z,Z⟩,trivial⟩ (λ sl Dy K hK=>ae Z (dV (f:=aO) (l:=Dz.A') aD.cs Z Z Z Z Z Z (Dy _ _ Z) Z (Dy _ _ Z) IK aD.CM Y hK)) (af [(84,_),(85,_)] ⟨.inr ⟨3,_,Z,Z,Z⟩,.inr ⟨4,_,Z,Z,Z⟩,trivial⟩ (λ sl Dy K hK=>ae Z (dV (f:=aO) (l:=Dz.A') aD.cs Z Z Z Z Z Z (Dy _ _ Z) Z (Dy _ _ Z) IK aD.CM Y hK)) aj))) ?_);refine ai (λ _=>.rptr (List.drop 3 (aD.cs (lat Dz.A' k31)))) Z Z Z (bq Z Z Y) (lt2 Z Z) (ah Z (af [(86,_)] ⟨.inr ⟨5,_,Z,Z,Z⟩,trivial⟩ (λ sl Dy K hK=>ae Z (cP Z Z Z Z Z Z Z Z (Dy _ _ Z) hK)) (af [(86,_)] ⟨.inr ⟨5,_,Z,Z,Z⟩,trivial⟩ (λ sl Dy K hK=>ae Z (cP Z Z Z Z Z Z Z Z (Dy _ _ Z) hK)) aj))) (ai (λ _=>.p (eL aL ((lat Dz.A' k31).B'))) Z Z Z (bq Z Z Y) (lt2 Z Z) (ah Z (af [(87,_)] ⟨.inr ⟨6,_,Z,Z,Z⟩,trivial⟩ (λ sl Dy K hK=>ae Z (eA Z Z Z Z Z (Dy _ _ Z) Z hK)) (af [(87,_)] ⟨.inr ⟨6,_,Z,Z,Z⟩,trivial⟩ (λ sl Dy K hK=>ae Z (eA Z Z Z Z Z (Dy _ _ Z) Z hK)) aj))) ?_);refine ai (λ _=>.p (.agg (ak.cs Fy))) Z Z Z (bq Z Z Y) (lt2 Z Z) (ah Z (ah Z (af [(88,_)] ⟨.inr ⟨7,_,Z,Z,Z⟩,trivial⟩ (λ sl Dy K hK=>ae Z (aI (qD _ ((lat Dz.A' k31).B') _ J') Z Z Z (ap (Dy _ _ Z) aJ) ⟨sr,trivial⟩ Tryz.call88 Z hK)) aj))) (ai (λ _=>.p (eL aE [Fy])) Z Z Z (bq Z Z Y) (lt2 Z Z) (ah Z (af [(89,_)] ⟨.inr ⟨8,_,Z,Z,Z⟩,trivial⟩ (λ sl Dy K hK=>ae Z (bE aE [Fy] Z Z Z Z Z Z (ce (Dy _ _ Z) Z dU) Z Z Z Z Z Z (by first|rfl|(simp only [mv,py,ak.CQ]; done)|(simp only [mv,py,ak.CQ]; rfl)) hK)) (af [(89,_)] ⟨.inr ⟨8,_,Z,Z,Z⟩,trivial⟩ (λ sl Dy K hK=>ae Z (bE aE [Fy] Z Z Z Z Z Z (ce (Dy _ _ Z) Z dU) Z Z Z Z Z Z (by first|rfl|(simp only [mv,py,ak.CQ]; done)|(simp only [mv,py,ak.CQ]; rfl)) hK)) aj))) ?_);refine ai (λ _=>.p (.agg (ak.cs (ak.mk 4 [Fy] [])))) Z Z Z (bq Z Z Y) (lt2 Z Z) (ah Z (af [(90,_)] ⟨.inr ⟨9,_,Z,Z,Z⟩,trivial⟩ (λ sl Dy K hK=>ae Z (mV (y:=.p (.agg (ak.cs (ak.mk 4 [Fy] [])))) (λ _ hq=>lE Z Z Z Z Z Z (fG Z (fG (Dy _ _ Z) lL)) Z Z hq) (b9 ⟨.inl Z,.inl Z,.inr ⟨Z,Z⟩,trivial⟩) hK)) (af [(90,_)] ⟨.inr ⟨9,_,Z,Z,Z⟩,trivial⟩ (λ sl Dy K hK=>ae Z (mV (y:=.p (.agg (ak.cs (ak.mk 4 [Fy] [])))) (λ _ hq=>lE Z Z Z Z Z Z (fG Z (fG (Dy _ _ Z) lL)) Z Z hq) (b9 ⟨.inl Z,.inl Z,.inr ⟨Z,Z⟩,trivial⟩) hK)) aj))) (ai (λ _=>.p (eL aE ([(ak.mk 4 [Fy] [])]))) Z Z Z (bq Z Z Y) (lt2 Z Z) (ah Z (ah Z (af [(91,_)] ⟨.inr ⟨10,_,Z,Z,Z⟩,trivial⟩ (λ sl Dy K hK=>ae Z (bE aE [(ak.mk 4 [Fy] [])] Z Z Z Z Z Z (ce (Dy _ _ Z) Z dU) Z Z Z Z Z Z (by first|rfl|(simp only [mv,py,ak.CQ]; done)|(simp only [mv,py,ak.CQ]; rfl)) hK)) aj))) ?_);refine eF (λ _=>.vec 93 3 0 ((Eo++([(ak.mk 4 [Fy] [])])).map aE)) [(82,_),(92,_)] Z ⟨.inr ⟨1,_,Z,Z,Z⟩,.inr ⟨11,_,Z,Z,Z⟩,trivial⟩ Z Z (cU Z Y) (lt2 (λ h=>absurd h (by decide)) Y) (λ sl Dy K hK=>ae Z (du aE Eo ([(ak.mk 4 [Fy] [])]) Z Z Z Z Z Z Z Z (Dy _ _ Z) Z Z (Dy _ _ Z) Z (λ x=>congrArg List.length (ak.CM x)) Z Z Z Z F8 hK)) (ai (λ _=>.ptr 3 1) Z Z Z (bq Z Z Y) (lt2 Z Z) (ah Z (af [(3,_)] ⟨.inl Z,trivial⟩ (λ sl Dy K hK=>ae Z (au Z Z Z Z Z Z Z Z (Dy _ _ Z) hK)) (ah Z aj))) ?_);refine cK [(93,_),(94,_)] Z ⟨.inr ⟨12,_,Z,Z,Z⟩,.inr ⟨13,_,Z,Z,Z⟩,trivial⟩ Z (λ sl Dy K hK=>ae Z (cR Z Z Z (Dy _ _ Z) (Dy _ _ Z) Z Z Z (ph Z) hK)) (gg ?_);refine nx 3 Z (oA h2 Z Z λ hk54 h2=>?_);exact nx 2 Z (eX _ (oi h2).symm (gE Z Z))
   refine fD (p:=k31=(Dz.A'.length:Int)) [] h3 Z (λ Jg h3=>?_) λ Jg h3=>?_
   ·refine mD [(1,.ptr 1 0),(2,.ptr 2 0),(3,.ptr 3 0),(4,.p (eI i30)),(5,.p (eI k31))] Z ⟨Z,Z,Z,Z,Z,trivial⟩ Z (dR 3 Z ?_);refine dq (.p (eI (Dz.A'.length:Int))) [21] Z (λ _ e _ q=>ae Z (nL (f:=aO) (l:=Dz.A') Z Z Z Z Z (e _ _ Z) Z q)) Z (dL (dt Jg) Z ?_);refine dR 22 Z (dE Z ?_);exact nx 1 Z (eX _ (oi h3).symm (gE Z Z))
   refine fD (p:=i30<(Dz.B'.length:Int)) [] h3 Z (λ Kj h3=>?_) λ Kj h3=>?_
   ·refine cc' h3 λ FN h3=>cc' h3 λ Ga h3=>mD [(1,.ptr 1 0),(2,.ptr 2 0),(3,.ptr 3 0),(4,.p (eI i30)),(5,.p (eI k31))] Z ⟨Z,Z,Z,Z,Z,trivial⟩ Z (dR 3 Z ?_);refine dq (.p (eI (Dz.A'.length:Int))) [21] Z (λ _ e _ q=>ae Z (nL (f:=aO) (l:=Dz.A') Z Z Z Z Z (e _ _ Z) Z q)) Z (dL (df Jg) Z ?_);refine dR 4 Z (dq (.p (eI (Dz.B'.length:Int))) [24,27] Z (λ _ e _ q=>fI (nL (f:=aL) (l:=Dz.B') Z Z Z Z Z (e _ _ Z) Z q) Z Z (e _ _ Z) (rfl)) Z ?_);refine dL (dt Kj) Z (dR 4 Z ?_);refine dq (.rptr (az.cs (lat Dz.B' i30))) [30,32,33] Z (λ _ e _ q=>fI (dV (f:=aL) (l:=Dz.B') az.cs Z Z Z Z Z Z (e _ _ Z) Z (e _ _ Z) FN az.CM Y q) Z Z (e _ _ Z) (rfl)) Z (dR 5 Z ?_);refine dq (.rptr (aD.cs (lat Dz.A' k31))) [30,38,39] Z (λ _ e _ q=>fI (dV (f:=aO) (l:=Dz.A') aD.cs Z Z Z Z Z Z (e _ _ Z) Z (e _ _ Z) Ga aD.CM Y q) Z Z (e _ _ Z) (rfl)) Z (dR 2 Z ?_);refine dq (.p (eB (Op.bytesLess ((lat Dz.B' i30).By) ((lat Dz.A' k31).By)))) [30,36,42] Z (λ _ e _ q=>fI (kx Z Z Z (e _ _ Z) (e _ _ Z) Z q) Z Z (e _ _ Z) (rfl)) Z (dR 2 Z ?_);refine dE Z (nx 1 Z ?_);exact eX _ (oi h3).symm (gE Z Z)
   refine mD [(1,.ptr 1 0),(2,.ptr 2 0),(3,.ptr 3 0),(4,.p (eI i30)),(5,.p (eI k31))] Z ⟨Z,Z,Z,Z,Z,trivial⟩ Z (dR 3 Z ?_);refine dq (.p (eI (Dz.A'.length:Int))) [21] Z (λ _ e _ q=>ae Z (nL (f:=aO) (l:=Dz.A') Z Z Z Z Z (e _ _ Z) Z q)) Z (dL (df Jg) Z ?_);refine dR 4 Z (dq (.p (eI (Dz.B'.length:Int))) [24,27] Z (λ _ e _ q=>fI (nL (f:=aL) (l:=Dz.B') Z Z Z Z Z (e _ _ Z) Z q) Z Z (e _ _ Z) (rfl)) Z ?_);refine dL (df Kj) Z (dR 16 Z ?_);refine dE Z (nx 1 Z ?_);exact eX _ (oi h3).symm (gE Z Z)
  exact nx 2 Z (eXi _ (oi h1).symm (gE Z Z))
 refine nx 4 Z (oLl (f:=aL) Z Z ?_);refine nx 2 Z (fD [11,12] h2 Z (λ Kk h2=>?_) λ Kk h2=>?_)
 ·exact nx 7 Z (eX _ (oi h2).symm (gE Z Z))
 refine nx 3 Z (oLl (f:=aO) Z Z ?_);exact nx 3 Z (eX _ (oi h2).symm (gE Z Z))
def eh (n:Nat)(Dz:am):Nat->Int->Option (Unit⊕Int)|0,_=>none|m+1,i13=>if i13<(Dz.A'.length:Int) then(iI n Dz i13).bind λ G1=>if G1=0 then ck (inR (i13+1))<|eh n Dz m (i13+1)else some (.inr G1)else some (.inl ())
def iV (n:Nat)(Dz:am):Option Int :=(if 64<(Dz.B'.length:Int) then some true else some (decide (64<(Dz.A'.length:Int))) : Option Bool).bind λ t2=>if t2=true then some 14 else(gm n Dz.B' false).bind λ r4=>if r4=0 then jn (eh n Dz n 0) λ _q32=>(gq n Dz.B' ([105,100]:Bk)).bind λ Gp=>if (!Gp.2)=true then some 12 else(if Gp.1.C6=3 then if Gp.1.CO.AI=3 then some Gp.1.Dg else some true else some true : Option Bool).bind λ D7=>if D7=true then some 1 else(fw n Dz).bind λ I5=>(jd n I5).bind λ r29=>some r29 else some r4
theorem rW (n:Nat)(Dz:am)(r:Int)(h0:iV n Dz=some r):aB Tryz.prog 25 [.agg (am.cs Dz)] (·=.p (eI r)):=by
 unfold iV at h0;refine aR good Tryz.func25 Z Z Z λ w0=>mP (λ v:Int=>.p (eI v)) ?_;refine nx 7 Z (bd h0 λ I' h1 h0=>?_);refine kN I' (λ Im=>⟨[(1,.ptr 1 0),(16,.p (eB Im))],[(1,(am.cs Dz).map .p)]⟩) ?_ ?_
 ·refine nx 1 Z (fB [16] h0 Z (λ c3 h0=>?_) λ c3 h0=>?_)
  ·exact nx 6 Z (mQ (oi h0) Z (sr))
  refine nx 6 Z (bd h0 λ r4 e5 h0=>?_);refine oK (ns _ Dz.B' false _ e5) Z ⟨sr,sr,trivial⟩ Tryz.call52 Z (nx 8 Z ?_);refine fN [21] h0 Z (λ c6 h0=>?_) λ c6 h0=>?_
  ·refine nx 8 rfl ?_;obtain ⟨Hk,h1,Eg,hR0⟩:=fj h0;refine kEx 0 (λ v37:Unit=>Hk=.inl v37) (λ v37=>⟨[(1,.ptr 1 0)],[(1,(am.cs Dz).map .p)]⟩) (λ v37 hv=>?_) ?_
   ·have h0:=Eg _ hv;refine nx 5 Z (bd h0 λ Gp Ke h0=>?_);refine oK (lq _ Dz.B' ([105,100]:Bk) _ Ke) Z ⟨sr,sr,trivial⟩ Tryz.call54 Z (nx 13 Z ?_);refine fB [43] h0 Z (λ Kn h0=>?_) λ Kn h0=>?_
    ·exact nx 6 Z (mQ (oi h0) Z (sr))
    refine nx 4 Z (bd h0 λ Ig h1 h0=>?_);refine kN Ig (λ HI=>⟨[(1,.ptr 1 0),(56,.p (eB HI))],[(1,(am.cs Dz).map .p)]⟩) ?_ ?_
    ·refine nx 1 Z (fB [56] h0 Z (λ Km h0=>?_) λ Km h0=>?_)
     ·exact nx 6 Z (mQ (oi h0) Z (sr))
     refine nx 5 Z (bd h0 λ I5 e28 h0=>?_);refine oK (nR _ Dz _ e28) Z ⟨sr,trivial⟩ Tryz.call56 Z (bd h0 λ r29 e30 h0=>?_);refine oK (nv _ I5 _ e30) Z ⟨sr,trivial⟩ Tryz.call55 Z (nx 3 Z ?_);exact mQ (oi h0) Z (sr)
    refine nx 5 Z (fN [46,47] h1 Z (λ FB h1=>?_) λ FB h1=>?_)
    ·refine nx 6 Z (fN [51,52,53] h1 Z (λ Hu h1=>?_) λ Hu h1=>?_)
     ·exact nx 4 Z (eX _ (oi h1).symm (gE Z Z))
     exact nx 4 Z (eX _ (oi h1).symm (gE Z Z))
    exact nx 10 Z (eX _ (oi h1).symm (gE Z Z))
   refine lG (λ (H8:Int)=>⟨[(1,.ptr 1 0),(4,.p (eI H8))],[(1,(am.cs Dz).map .p)]⟩) (λ m (H8:Int)=>eh n Dz m H8) Y 0 h1 (gE rfl rfl) ?_;rintro m i13 h1;replace h1:eh n Dz (m+1) i13=some Hk:=h1;rw [eh] at h1;refine nx 6 rfl (oLl (f:=aO) rfl rfl ?_);refine nx 2 rfl (fD [27] h1 rfl (λ FF h1=>?_) λ FF h1=>?_)
   ·refine nx 8 Z (bd h1 λ G1 IV h1=>?_);refine oK (sn _ Dz i13 _ IV) Z ⟨sr,sr,trivial⟩ Tryz.call53 Z (nx 7 Z ?_);refine fN [34] h1 Z (λ FE h1=>?_) λ FE h1=>?_
    ·refine nx 4 Z (oA h1 Z Z λ Ff h1=>?_);exact nx 2 Z (eX (i13+1) h1 (gE Z Z))
    exact nx 7 Z (mQ (hR0 _ (oi h1).symm) Z (sr))
   exact nx 2 Z (eXi _ (oi h1).symm (gE Z Z))
  exact nx 7 Z (mQ (oi h0) Z (sr))
 refine nx 3 Z (oLl (f:=aL) Z Z ?_);refine nx 2 Z (fD [10,11] h1 Z (λ c1 h1=>?_) λ c1 h1=>?_)
 ·exact nx 6 Z (eX _ (oi h1).symm (gE Z Z))
 refine nx 2 Z (oLl (f:=aO) Z Z ?_);exact nx 3 Z (eX _ (oi h1).symm (gE Z Z))
def dI (n:Nat)(Dz:am):Nat->Int->Option (Unit⊕Bool)|0,_=>none|m+1,i16=>if i16<(Dz.A'.length:Int) then(ck ((0:Int)<=i16/\i16<(Dz.A'.length:Int))<|(ja n ((lat Dz.A' i16).B')).bind λ I6=>if (!I6)=true then some true else ck ((0:Int)<=i16/\i16<(Dz.A'.length:Int))<|some (decide (100<(((lat Dz.A' i16).By).length:Int))) : Option Bool).bind λ Fl=>if Fl=true then some (.inr false)else ck (inR (i16+1))<|dI n Dz m (i16+1)else some (.inl ())
def jD (n:Nat)(Dz:am):Option Bool :=((ja n Dz.B').bind λ r1=>if (!r1)=true then some true else some (decide (10<(Dz.A'.length:Int))) : Option Bool).bind λ t4=>if t4=true then some false else jn (dI n Dz n 0) λ _H'=>(iV n Dz).bind λ I5=>some (decide (I5=0))
theorem qq (n:Nat)(Dz:am)(r:Bool)(h0:jD n Dz=some r):aB Tryz.prog 11 [.agg (am.cs Dz)] (·=.p (eB r)):=by
 unfold jD at h0;refine aR good Tryz.func11 Z Z Z λ w0=>mP (λ v:Bool=>.p (eB v)) ?_;refine nx 7 Z (bd h0 λ o32 h1 h0=>?_);refine kN o32 (λ v33=>⟨[(1,.ptr 1 0),(13,.p (eB v33))],[(1,(am.cs Dz).map .p)]⟩) ?_ ?_
 ·refine nx 1 Z (fB [13] h0 Z (λ c5 h0=>?_) λ c5 h0=>?_)
  ·exact nx 6 Z (mQ (oi h0) Z (sr))
  refine nx 8 rfl ?_;obtain ⟨I',h1,Eg,hR0⟩:=fj h0;refine kEx 0 (λ Im:Unit=>I'=.inl Im) (λ Im=>⟨[(1,.ptr 1 0)],[(1,(am.cs Dz).map .p)]⟩) (λ Im hv=>?_) ?_
  ·have h0:=Eg _ hv;refine nx 4 Z (bd h0 λ I5 e28 h0=>?_);refine oK (rW _ Dz _ e28) Z ⟨sr,trivial⟩ Tryz.call25 Z (nx 4 Z ?_);exact mQ (oi h0) Z (sr)
  refine lG (λ (I9:Int)=>⟨[(1,.ptr 1 0),(3,.p (eI I9))],[(1,(am.cs Dz).map .p)]⟩) (λ m (I9:Int)=>dI n Dz m I9) Y 0 h1 (gE rfl rfl) ?_;rintro m i16 h1;replace h1:dI n Dz (m+1) i16=some I':=h1;rw [dI] at h1;refine nx 6 rfl (oLl (f:=aO) rfl rfl ?_);refine nx 2 rfl (fD [18] h1 rfl (λ FE h1=>?_) λ FE h1=>?_)
  ·refine nx 5 Z (bd h1 λ o37 h2 h1=>?_);refine kN o37 (λ v38=>⟨[(1,.ptr 1 0),(3,.p (eI i16)),(38,.p (eB v38))],[(1,(am.cs Dz).map .p)]⟩) ?_ ?_
   ·refine nx 1 Z (fB [38] h1 Z (λ Hu h1=>?_) λ Hu h1=>?_)
    ·exact nx 6 Z (mQ (hR0 _ (oi h1).symm) Z (sr))
    refine nx 4 Z (oA h1 Z Z λ FP h1=>?_);exact nx 2 Z (eX (i16+1) h1 (gE Z Z))
   refine nx 4 Z (oE h2 aD.CM Z Z Y λ Ff h2=>?_);refine nx 2 Z (bd h2 λ I6 e20 h2=>?_);refine oK (mt _ ((lat Dz.A' i16).B') _ e20) Z ⟨sr,trivial⟩ Tryz.call24 Z (nx 2 Z ?_);refine fB [28,29] h2 Z (λ Hv h2=>?_) λ Hv h2=>?_
   ·exact nx 10 Z (eX _ (oi h2).symm (gE Z Z))
   refine nx 3 Z (oE h2 aD.CM Z Z Y λ FR h2=>?_);refine nx 2 Z (oLs Z ?_);exact nx 3 Z (eX _ (oi h2).symm (gE Z Z))
  exact nx 2 Z (eXi _ (oi h1).symm (gE Z Z))
 refine nx 3 Z (bd h1 λ r1 e2 h1=>?_);refine oK (mt _ Dz.B' _ e2) Z ⟨sr,trivial⟩ Tryz.call24 Z (nx 2 Z ?_);refine fB [7,8] h1 Z (λ c3 h1=>?_) λ c3 h1=>?_
 ·exact nx 6 Z (eX _ (oi h1).symm (gE Z Z))
 refine nx 2 Z (oLl (f:=aO) Z Z ?_);exact nx 3 Z (eX _ (oi h1).symm (gE Z Z))
def ek (a_0:List Bk)(D5:List Bk):Nat->Int->Option (Unit⊕Bool)|0,_=>none|m+1,i8=>if i8<(a_0.length:Int) then ck ((0:Int)<=i8/\i8<(a_0.length:Int))<|ck ((0:Int)<=i8/\i8<(D5.length:Int))<|if lat a_0 i8=lat D5 i8 then ck (inR (i8+1))<|ek a_0 D5 m (i8+1)else some (.inr false)else some (.inl ())
def j8 (n:Nat)(a_0:List Bk)(D5:List Bk):Option Bool :=if (a_0.length:Int)=(D5.length:Int) then jn (ek a_0 D5 n 0) λ _Gq=>some true else some false
theorem nD (n:Nat)(a_0:List Bk)(D5:List Bk)(r:Bool)(h0:j8 n a_0 D5=some r):aB Tryz.prog 12 [eL eS a_0,eL eS D5] (·=.p (eB r)):=by
 unfold j8 at h0;refine aR good Tryz.func12 Z Z Z λ w0=>mP (λ v:Bool=>.p (eB v)) ?_;refine nx 8 Z (oLl (f:=eS) Z Z ?_);refine nx 1 Z (oLl (f:=eS) Z Z ?_);refine nx 2 Z (fN [10] h0 Z (λ c1 h0=>?_) λ c1 h0=>?_)
 ·refine nx 8 rfl ?_;obtain ⟨Gr,h1,Eg,hR0⟩:=fj h0;refine kEx 0 (λ FJ:Unit=>Gr=.inl FJ) (λ FJ=>⟨[],[]⟩) (λ FJ hv=>?_) ?_
  ·have h0:=Eg _ hv;exact nx 6 Z (mQ (oi h0) Z (sr))
  refine lG (λ (Hc:Int)=>⟨[(0,.p (eL eS a_0)),(1,.p (eL eS D5)),(5,.p (eI Hc))],[]⟩) (λ m (Hc:Int)=>ek a_0 D5 m Hc) Y 0 h1 (gE rfl rfl) ?_;rintro m i8 h1;replace h1:ek a_0 D5 (m+1) i8=some Gr:=h1;rw [ek] at h1;refine nx 5 rfl (oLl (f:=eS) rfl rfl ?_);refine nx 2 rfl (fD [14] h1 rfl (λ c9 h1=>?_) λ c9 h1=>?_)
  ·refine nx 5 Z (cc' h1 λ Fv h1=>?_);refine cc' h1 λ FT h1=>mD [(0,.p (eL eS a_0)),(1,.p (eL eS D5)),(5,.p (eI i8))] Z ⟨Z,Z,Z,trivial⟩ Z (dR 2 Z ?_);refine dq (.rptr [eS (lat a_0 i8)]) [17,18] Z (λ _ e _ q=>ae Z (dV (f:=eS) (l:=a_0) (λ x=>[eS x]) Z Z Z Z Z Z (e _ _ Z) Z (e _ _ Z) Fv Y Y q)) Z (dR 3 Z ?_);refine dq (.rptr [eS (lat D5 i8)]) [21,22] Z (λ _ e _ q=>ae Z (dV (f:=eS) (l:=D5) (λ x=>[eS x]) Z Z Z Z Z Z (e _ _ Z) Z (e _ _ Z) FT Y Y q)) Z (dR 1 Z ?_);refine dq (.p (eB (!decide (lat a_0 i8=lat D5 i8)))) [20,24] Z (λ _ e _ q=>ae Z (kx Z Z Z (e _ _ Z) (e _ _ Z) Z q)) Z (dE Z ?_);refine nx 1 Z (fN [25] h1 Z (λ F4 h1=>?_) λ F4 h1=>?_)
   ·refine nx 4 Z (oA h1 Z Z λ Gf h1=>?_);exact nx 2 Z (eX (i8+1) h1 (gE Z Z))
   exact nx 6 Z (mQ (hR0 _ (oi h1).symm) Z (sr))
  exact nx 2 Z (eXi _ (oi h1).symm (gE Z Z))
 exact nx 6 Z (mQ (oi h0) Z (sr))
def dM (DC:aa)(key_1:Bk):Nat->Int->Option (Unit⊕(aa×Bool))|0,_=>none|m+1,i10=>(if i10<(DC.AT.length:Int) then some (decide (i10<(DC.Ar.length:Int)))else some false : Option Bool).bind λ t12=>if t12=true then ck ((0:Int)<=i10/\i10<(DC.AT.length:Int))<|if lat DC.AT i10=key_1 then ck ((0:Int)<=i10/\i10<(DC.Ar.length:Int))<|some (.inr ((lat DC.Ar i10),true))else ck (inR (i10+1))<|dM DC key_1 m (i10+1)else some (.inl ())
def lI (n:Nat)(DC:aa)(key_1:Bk):Option (aa×Bool) :=if DC.AI=5 then jn (dM DC key_1 n 0) λ _HO=>some ((aa.mk 0 0 ([]:Bk) [] []),false)else some ((aa.mk 0 0 ([]:Bk) [] []),false)
theorem tI (n:Nat)(DC:aa)(key_1:Bk)(r:aa×Bool)(h0:lI n DC key_1=some r):aB Tryz.prog 48 [.agg (aa.cs DC),eS key_1] (·=.tuple [.p (.agg (aa.cs r.1)),.p (eB r.2)]):=by
 unfold lI at h0;refine aR good Tryz.func48 Z Z Z λ w0=>mP (λ v:aa×Bool=>.tuple [.p (.agg (aa.cs v.1)),.p (eB v.2)]) ?_;refine nx 13 Z (fN [9] h0 Z (λ c1 h0=>?_) λ c1 h0=>?_)
 ·refine nx 8 rfl ?_;obtain ⟨Ih,h1,Eg,hR0⟩:=fj h0;refine kEx 0 (λ Iq:Unit=>Ih=.inl Iq) (λ Iq=>⟨[(4,.ptr 4 0)],[(4,[.p (eI 0),.p (eI 0),.p (eS ([]:Bk)),.p (.val (.slice none 0 0)),.p (.val (.slice none 0 0))])]⟩) (λ Iq hv=>?_) ?_
  ·have h0:=Eg _ hv;exact nx 8 Z (mQ (oi h0) Z (cm ⟨b9 ⟨.inl Z,.inl Z,.inl Z,.inr ⟨Z,Z⟩,.inr ⟨Z,Z⟩,trivial⟩,sr,trivial⟩))
  refine lG (λ (F1:Int)=>⟨[(1,.p (eS key_1)),(2,.ptr 2 0),(4,.ptr 4 0),(6,.p (eI F1))],[(2,(aa.cs DC).map .p),(4,[.p (eI 0),.p (eI 0),.p (eS ([]:Bk)),.p (.val (.slice none 0 0)),.p (.val (.slice none 0 0))])]⟩) (λ m (F1:Int)=>dM DC key_1 m F1) Y 0 h1 (gE rfl rfl) ?_;rintro m i10 h1;replace h1:dM DC key_1 (m+1) i10=some Ih:=h1;rw [dM] at h1;refine nx 2 rfl (bd h1 λ Iy h2 h1=>?_);refine kN Iy (λ Ip=>⟨[(1,.p (eS key_1)),(2,.ptr 2 0),(4,.ptr 4 0),(6,.p (eI i10)),(22,.p (eB Ip))],[(2,(aa.cs DC).map .p),(4,[.p (eI 0),.p (eI 0),.p (eS ([]:Bk)),.p (.val (.slice none 0 0)),.p (.val (.slice none 0 0))])]⟩) ?_ ?_
  ·refine nx 1 Z (fB [22] h1 Z (λ FI h1=>?_) λ FI h1=>?_)
   ·refine nx 9 Z (oE h1 Y Z Z Y λ Fg h1=>?_);refine nx 2 Z (oS Z Z ?_);refine nx 1 Z (fD [31] h1 Z (λ H5 h1=>?_) λ H5 h1=>?_)
    ·refine nx 6 Z (oE h1 aa.CM Z Z Y λ E3 h1=>?_);exact nx 5 Z (mQ (hR0 _ (oi h1).symm) Z (cm ⟨sr,sr,trivial⟩))
    refine nx 4 Z (oA h1 Z Z λ FS h1=>?_);exact nx 2 Z (eX (i10+1) h1 (gE Z Z))
   exact nx 2 Z (eXi _ (oi h1).symm (gE Z Z))
  refine nx 4 Z (oLl (f:=eS) Z Z ?_);refine nx 2 Z (fD [15,16] h2 Z (λ Fp h2=>?_) λ Fp h2=>?_)
  ·refine nx 3 Z (oLl (f:=ag) Z Z ?_);exact nx 3 Z (eX _ (oi h2).symm (gE Z Z))
  exact nx 7 Z (eX _ (oi h2).symm (gE Z Z))
 exact nx 8 Z (mQ (oi h0) Z (cm ⟨b9 ⟨.inl Z,.inl Z,.inl Z,.inr ⟨Z,Z⟩,.inr ⟨Z,Z⟩,trivial⟩,sr,trivial⟩))
def gY (n:Nat)(DC:aa)(name_1:Bk):Option aa :=if DC.AI=5 then(lI n DC name_1).bind λ r2=>if (!r2.2)=true then some (aa.mk 0 0 ([]:Bk) [] [])else some r2.1 else some (aa.mk 0 0 ([]:Bk) [] [])
theorem iX (n:Nat)(DC:aa)(name_1:Bk)(r:aa)(h0:gY n DC name_1=some r):aB Tryz.prog 35 [.agg (aa.cs DC),eS name_1] (·=.p (.agg (aa.cs r))):=by
 unfold gY at h0;refine aR good Tryz.func35 Z Z Z λ w0=>mP (λ v:aa=>.p (.agg (aa.cs v))) ?_;refine nx 12 Z (fN [9] h0 Z (λ c1 h0=>?_) λ c1 h0=>?_)
 ·refine nx 6 Z (bd h0 λ r2 e3 h0=>?_);refine oK (tI _ DC name_1 _ e3) Z ⟨sr,sr,trivial⟩ Tryz.call48 Z (nx 13 Z ?_);refine fB [18] h0 Z (λ c4 h0=>?_) λ c4 h0=>?_
  ·exact nx 7 Z (mQ (oi h0) Z (b9 ⟨.inl Z,.inl Z,.inl Z,.inr ⟨Z,Z⟩,.inr ⟨Z,Z⟩,trivial⟩))
  exact nx 8 Z (mQ (oi h0) Z (sr))
 exact nx 7 Z (mQ (oi h0) Z (b9 ⟨.inl Z,.inl Z,.inl Z,.inr ⟨Z,Z⟩,.inr ⟨Z,Z⟩,trivial⟩))
def eV (a_0:aa)(D5:aa):Nat->Int->Option (Unit⊕Bool)|0,_=>none|m+1,i13=>if i13<(a_0.AT.length:Int) then ck ((0:Int)<=i13/\i13<(a_0.AT.length:Int))<|ck ((0:Int)<=i13/\i13<(D5.AT.length:Int))<|if lat a_0.AT i13=lat D5.AT i13 then ck (inR (i13+1))<|eV a_0 D5 m (i13+1)else some (.inr false)else some (.inl ())
def eR (EH:aa->aa->Option Bool)(a_0:aa)(D5:aa):Nat->Int->Option (Unit⊕Bool)|0,_=>none|m+1,i28=>if i28<(a_0.Ar.length:Int) then ck ((0:Int)<=i28/\i28<(a_0.Ar.length:Int))<|ck ((0:Int)<=i28/\i28<(D5.Ar.length:Int))<|(EH (lat a_0.Ar i28) (lat D5.Ar i28)).bind λ r32=>if (!r32)=true then some (.inr false)else ck (inR (i28+1))<|eR EH a_0 D5 m (i28+1)else some (.inl ())
def fP:Nat->aa->aa->Option Bool|0,_,_=>none|n+1,a_0,D5=>(if a_0.AI=D5.AI then if a_0.BY=D5.BY then if a_0.CK=D5.CK then if (a_0.Ar.length:Int)=(D5.Ar.length:Int) then some (!decide ((a_0.AT.length:Int)=(D5.AT.length:Int)))else some true else some true else some true else some true : Option Bool).bind λ t5=>if t5=true then some false else jn (eV a_0 D5 n 0) λ _I8=>jn (eR (fP n) a_0 D5 n 0) λ _H9=>some true
theorem rT (n:Nat):∀ (a_0:aa) (D5:aa) (r:Bool),fP n a_0 D5=some r->aB Tryz.prog 81 [.agg (aa.cs a_0),.agg (aa.cs D5)] (·=.p (eB r)):=by
 induction n with
 | zero=>intro a_0 D5 r h0; cases h0
 | succ n ih=>
 have E2:=ih;intro a_0 D5 r h0;rw [fP] at h0;refine aR good Tryz.func81 Z Z Z λ w0=>mP (λ v:Bool=>.p (eB v)) ?_;refine nx 8 Z (bd h0 λ o40 h1 h0=>?_);refine kN o40 (λ v41=>⟨[(2,.ptr 2 0),(3,.ptr 3 0),(43,.p (eB v41))],[(2,(aa.cs a_0).map .p),(3,(aa.cs D5).map .p)]⟩) ?_ ?_
 ·refine nx 1 Z (fB [43] h0 Z (λ c6 h0=>?_) λ c6 h0=>?_)
  ·exact nx 6 Z (mQ (oi h0) Z (sr))
  refine nx 8 rfl ?_;obtain ⟨o42,h1,Eg,hR0⟩:=fj h0;refine kEx 0 (λ Jj:Unit=>o42=.inl Jj) (λ Jj=>⟨[(2,.ptr 2 0),(3,.ptr 3 0)],[(2,(aa.cs a_0).map .p),(3,(aa.cs D5).map .p)]⟩) (λ Jj hv=>?_) ?_
  ·have h0:=Eg _ hv;refine nx 7 rfl ?_;obtain ⟨If,h1,Eg,hR0⟩:=fj h0;refine kEx 2 (λ HH:Unit=>If=.inl HH) (λ HH=>⟨[],[]⟩) (λ HH hv=>?_) ?_
   ·have h0:=Eg _ hv;exact nx 6 Z (mQ (oi h0) Z (sr))
   refine lG (λ (Gx:Int)=>⟨[(2,.ptr 2 0),(3,.ptr 3 0),(6,.p (eI Gx))],[(2,(aa.cs a_0).map .p),(3,(aa.cs D5).map .p)]⟩) (λ m (Gx:Int)=>eR (fP n) a_0 D5 m Gx) Y 0 h1 (gE rfl rfl) ?_;rintro m i28 h1;replace h1:eR (fP n) a_0 D5 (m+1) i28=some If:=h1;rw [eR] at h1;refine nx 6 rfl (oLl (f:=ag) rfl rfl ?_);refine nx 2 rfl (fD [66] h1 rfl (λ IY h1=>?_) λ IY h1=>?_)
   ·refine nx 5 Z (cc' h1 λ Ge h1=>?_);refine cc' h1 λ FO h1=>bd h1 λ r32 e33 h1=>mD [(2,.ptr 2 0),(3,.ptr 3 0),(6,.p (eI i28))] Z ⟨Z,Z,Z,trivial⟩ Z (dR 3 Z ?_);refine dq (.rptr (aa.cs (lat a_0.Ar i28))) [70,71] Z (λ _ e _ q=>ae Z (dV (f:=ag) (l:=a_0.Ar) aa.cs Z Z Z Z Z Z (e _ _ Z) Z (e _ _ Z) Ge aa.CM Y q)) Z (dR 4 Z ?_);refine dq (.rptr (aa.cs (lat D5.Ar i28))) [75,76] Z (λ _ e _ q=>ae Z (dV (f:=ag) (l:=D5.Ar) aa.cs Z Z Z Z Z Z (e _ _ Z) Z (e _ _ Z) FO aa.CM Y q)) Z (dR 1 Z ?_);refine dq (.p (eB r32)) [73,78] Z (λ _ e _ q=>ae Z (aI (E2 (lat a_0.Ar i28) (lat D5.Ar i28) _ e33) Z Z Z (ap (e _ _ Z) (ap (e _ _ Z) aJ)) ⟨sr,sr,trivial⟩ Tryz.call81 Z q)) Z (dR 1 Z ?_);refine dE Z (nx 1 Z ?_);refine fB [80] h1 Z (λ Kk h1=>?_) λ Kk h1=>?_
    ·exact nx 6 Z (mQ (hR0 _ (oi h1).symm) Z (sr))
    refine nx 4 Z (oA h1 Z Z λ GJ h1=>?_);exact nx 2 Z (eX (i28+1) h1 (gE Z Z))
   exact nx 2 Z (eXi _ (oi h1).symm (gE Z Z))
  refine lG (λ (Ft:Int)=>⟨[(2,.ptr 2 0),(3,.ptr 3 0),(5,.p (eI Ft))],[(2,(aa.cs a_0).map .p),(3,(aa.cs D5).map .p)]⟩) (λ m (Ft:Int)=>eV a_0 D5 m Ft) Y 0 h1 (gE rfl rfl) ?_;rintro m i13 h1;replace h1:eV a_0 D5 (m+1) i13=some o42:=h1;rw [eV] at h1;refine nx 6 rfl (oLl (f:=eS) rfl rfl ?_);refine nx 2 rfl (fD [48] h1 rfl (λ FF h1=>?_) λ FF h1=>?_)
  ·refine nx 5 Z (cc' h1 λ E8 h1=>?_);refine cc' h1 λ E3 h1=>mD [(2,.ptr 2 0),(3,.ptr 3 0),(5,.p (eI i13))] Z ⟨Z,Z,Z,trivial⟩ Z (dR 3 Z ?_);refine dq (.rptr [eS (lat a_0.AT i13)]) [52,53] Z (λ _ e _ q=>ae Z (dV (f:=eS) (l:=a_0.AT) (λ x=>[eS x]) Z Z Z Z Z Z (e _ _ Z) Z (e _ _ Z) E8 Y Y q)) Z (dR 4 Z ?_);refine dq (.rptr [eS (lat D5.AT i13)]) [57,58] Z (λ _ e _ q=>ae Z (dV (f:=eS) (l:=D5.AT) (λ x=>[eS x]) Z Z Z Z Z Z (e _ _ Z) Z (e _ _ Z) E3 Y Y q)) Z (dR 1 Z ?_);refine dq (.p (eB (!decide (lat a_0.AT i13=lat D5.AT i13)))) [55,60] Z (λ _ e _ q=>ae Z (kx Z Z Z (e _ _ Z) (e _ _ Z) Z q)) Z (dE Z ?_);refine nx 1 Z (fN [61] h1 Z (λ FE h1=>?_) λ FE h1=>?_)
   ·refine nx 4 Z (oA h1 Z Z λ Ff h1=>?_);exact nx 2 Z (eX (i13+1) h1 (gE Z Z))
   exact nx 6 Z (mQ (hR0 _ (oi h1).symm) Z (sr))
  exact nx 2 Z (eXi _ (oi h1).symm (gE Z Z))
 refine nx 7 Z (fN [11,12] h1 Z (λ c1 h1=>?_) λ c1 h1=>?_)
 ·refine nx 7 Z (fN [17,18,19] h1 Z (λ c2 h1=>?_) λ c2 h1=>?_)
  ·refine nx 4 Z (oS Z Z ?_);refine nx 2 Z (fN [24,25,26] h1 Z (λ c3 h1=>?_) λ c3 h1=>?_)
   ·refine nx 2 Z (oLl (f:=ag) Z Z ?_);refine nx 2 Z (oLl (f:=ag) Z Z ?_);refine nx 3 Z (fN [33,34,35] h1 Z (λ c4 h1=>?_) λ c4 h1=>?_)
    ·refine nx 2 Z (oLl (f:=eS) Z Z ?_);refine nx 2 Z (oLl (f:=eS) Z Z ?_);exact nx 3 Z (eX _ (oi h1).symm (gE Z Z))
    exact nx 9 Z (eX _ (oi h1).symm (gE Z Z))
   exact nx 18 Z (eX _ (oi h1).symm (gE Z Z))
  exact nx 25 Z (eX _ (oi h1).symm (gE Z Z))
 exact nx 32 Z (eX _ (oi h1).symm (gE Z Z))
def ec (EG:aa->Option Bool)(DC:aa):Nat->Int->Option (Unit⊕Bool)|0,_=>none|m+1,i9=>if i9<(DC.Ar.length:Int) then ck ((0:Int)<=i9/\i9<(DC.Ar.length:Int))<|(EG (lat DC.Ar i9)).bind λ HM=>if (!HM)=true then some (.inr false)else ck (inR (i9+1))<|ec EG DC m (i9+1)else some (.inl ())
def eY:Nat->aa->Option Bool|0,_=>none|n+1,DC=>if DC.AI=6 then some false else jn (ec (eY n) DC n 0) λ _Ib=>some true
theorem mT (n:Nat):∀ (DC:aa) (r:Bool),eY n DC=some r->aB Tryz.prog 82 [.agg (aa.cs DC)] (·=.p (eB r)):=by
 induction n with
 | zero=>intro DC r h0; cases h0
 | succ n ih=>
 have E1:=ih;intro DC r h0;rw [eY] at h0;refine aR good Tryz.func82 Z Z Z λ w0=>mP (λ v:Bool=>.p (eB v)) ?_;refine nx 12 Z (fD [6] h0 Z (λ c1 h0=>?_) λ c1 h0=>?_)
 ·exact nx 6 Z (mQ (oi h0) Z (sr))
 refine nx 8 rfl ?_;obtain ⟨o18,h1,Eg,hR0⟩:=fj h0;refine kEx 0 (λ Jk:Unit=>o18=.inl Jk) (λ Jk=>⟨[],[]⟩) (λ Jk hv=>?_) ?_
 ·have h0:=Eg _ hv;exact nx 6 Z (mQ (oi h0) Z (sr))
 refine lG (λ (q20:Int)=>⟨[(1,.ptr 1 0),(3,.p (eI q20))],[(1,(aa.cs DC).map .p)]⟩) (λ m (q20:Int)=>ec (eY n) DC m q20) Y 0 h1 (gE rfl rfl) ?_;rintro m i9 h1;replace h1:ec (eY n) DC (m+1) i9=some o18:=h1;rw [ec] at h1;refine nx 6 rfl (oLl (f:=ag) rfl rfl ?_);refine nx 2 rfl (fD [11] h1 rfl (λ Fq h1=>?_) λ Fq h1=>?_)
 ·refine nx 9 Z (oE h1 aa.CM Z Z Y λ FT h1=>?_);refine nx 1 Z (bd h1 λ HM e13 h1=>?_);refine oK (E1 (lat DC.Ar i9) _ e13) Z ⟨sr,trivial⟩ Tryz.call82 Z (nx 2 Z ?_);refine fB [20] h1 Z (λ FF h1=>?_) λ FF h1=>?_
  ·exact nx 6 Z (mQ (hR0 _ (oi h1).symm) Z (sr))
  refine nx 4 Z (oA h1 Z Z λ E8 h1=>?_);exact nx 2 Z (eX (i9+1) h1 (gE Z Z))
 exact nx 2 Z (eXi _ (oi h1).symm (gE Z Z))
def jv (n:Nat)(a_0:aa)(D5:aa):Option Bool :=((fP n a_0 D5).bind λ r1=>if (!r1)=true then some true else(eY n a_0).bind λ r4=>if (!r4)=true then some true else(eY n D5).bind λ r7=>some (!r7) : Option Bool).bind λ t9=>some t9
theorem qv (n:Nat)(a_0:aa)(D5:aa)(r:Bool)(h0:jv n a_0 D5=some r):aB Tryz.prog 49 [.agg (aa.cs a_0),.agg (aa.cs D5)] (·=.p (eB r)):=by
 unfold jv at h0;refine aR good Tryz.func49 Z Z Z λ w0=>mP (λ v:Bool=>.p (eB v)) ?_;refine nx 7 Z (bd h0 λ JO h1 h0=>?_);refine kN JO (λ Jm=>⟨[(4,.p (eB Jm))],[]⟩) ?_ ?_
 ·exact nx 2 Z (mQ (oi h0) Z (sr))
 refine nx 3 Z (bd h1 λ r1 e2 h1=>?_);refine oK (rT _ a_0 D5 _ e2) Z ⟨sr,sr,trivial⟩ Tryz.call81 Z (nx 2 Z ?_);refine fB [8,9] h1 Z (λ c3 h1=>?_) λ c3 h1=>?_
 ·exact nx 11 Z (eX _ (oi h1).symm (gE Z Z))
 refine nx 1 Z (bd h1 λ r4 e5 h1=>?_);refine oK (mT _ a_0 _ e5) Z ⟨sr,trivial⟩ Tryz.call82 Z (nx 3 Z ?_);refine fB [12,13,14] h1 Z (λ c6 h1=>?_) λ c6 h1=>?_
 ·exact nx 6 Z (eX _ (oi h1).symm (gE Z Z))
 refine nx 1 Z (bd h1 λ r7 e8 h1=>?_);refine oK (mT _ D5 _ e8) Z ⟨sr,trivial⟩ Tryz.call82 Z (nx 4 Z ?_);exact eX _ (oi h1).symm (gE Z Z)
end Go.Ab.R06
end
section
namespace Go.Ab
set_option autoImplicit false
theorem cE {α:Type}{tt:List (Nat×TI)}{n t s b:Nat}{cs:List PV}{z:List Value}(f:α->PV)(Q:α->Prop){e:Nat}(hl:look tt t=some ⟨.slice e,s,b,z⟩)(h:WTf tt n t cs)
  (he:∀ m x,m<n->WTf tt m e x.cells->x=mkE (((look tt e).map (·.k.isAgg)).getD false) x.cells->∃ y,x=f y/\Q y):∃ l:List α,cs=[eL f l]/\l.length*(((look tt e).map (·.bytes)).getD 0)<=a8/\∀ y∈l,Q y:=by
 cases n with
 | zero=>exact h.elim
 | succ n=>
  obtain ⟨l,h1,h2,h3⟩:=zL f Q hl h (λ x k1 k2=>he n x O k1 k2);exact ⟨l,h1,h2.2,h3⟩
inductive aa.Bd:aa->Prop where
 | mk {x:aa} (bKind:inR x.AI) (bNum:inR x.BY) (bStr:x.CK.length<=a8) (bItems:x.Ar.length*80<=a8) (eItems:∀ y∈x.Ar,aa.Bd y) (bKeys:x.AT.length*16<=a8) (eKeys:∀ y∈x.AT,y.length<=a8):aa.Bd x
theorem aa.Bd.bKind {x:aa}(h:aa.Bd x):inR x.AI:=by cases h; assumption
theorem aa.Bd.bNum {x:aa}(h:aa.Bd x):inR x.BY:=by cases h; assumption
theorem aa.Bd.bStr {x:aa}(h:aa.Bd x):x.CK.length<=a8:=by cases h; assumption
theorem aa.Bd.bItems {x:aa}(h:aa.Bd x):x.Ar.length*80<=a8:=by cases h; assumption
theorem aa.Bd.eItems {x:aa}(h:aa.Bd x):∀ y∈x.Ar,aa.Bd y:=by cases h; assumption
theorem aa.Bd.bKeys {x:aa}(h:aa.Bd x):x.AT.length*16<=a8:=by cases h; assumption
theorem aa.Bd.eKeys {x:aa}(h:aa.Bd x):∀ y∈x.AT,y.length<=a8:=by cases h; assumption
theorem aa.dec (n:Nat):(∀ cs,WTf tt n 31 cs->∃ x:aa,cs=aa.cs x/\aa.Bd x):=by
 induction n using Nat.strongRecOn with
 | _ n ih=>
 have GD:∀ m,m<n->(∀ cs,WTf tt m 31 cs->∃ x:aa,cs=aa.cs x/\aa.Bd x):=λ m hm=>(ih m hm)
 intro cs h
 cases n with
 | zero=>exact h.elim
 | succ n=>
 have h0:=cp rfl h;obtain ⟨c0,q0,rfl,k0,h0⟩:=aA h0;obtain ⟨c1,q1,rfl,k1,h0⟩:=aA h0;obtain ⟨c2,q2,rfl,k2,h0⟩:=aA h0;obtain ⟨c3,q3,rfl,k3,h0⟩:=aA h0;obtain ⟨c4,q4,rfl,k4,h0⟩:=aA h0;have e:q4=[]:=h0;subst e;obtain ⟨x1,rfl,b2⟩:=gQ rfl k0;obtain ⟨x3,rfl,b4⟩:=gQ rfl k1;obtain ⟨x5,rfl,b6⟩:=ci rfl k2
 obtain ⟨x7,rfl,b8⟩:=cE ag (λ y=>aa.Bd y) rfl k3 (λ m9 y10 hm11 k12 k13=>by
  obtain ⟨x14,IV,b15⟩:=GD _ O _ k12;exact ⟨x14,(im IV k13).trans (aa.CQ _).symm,b15⟩
  )
 obtain ⟨x17,rfl,b18⟩:=cE eS (λ y=>y.length<=a8) rfl k4 (λ m19 y20 hm21 k22 k23=>by
  obtain ⟨x24,Kb,b25⟩:=ci rfl k22;exact ⟨x24,mB Kb k23,b25⟩
  )
 exact ⟨aa.mk x1 x3 x5 x7 x17,Z,.mk b2 b4 b6 b8.1 b8.2 b18.1 b18.2⟩
inductive av.Bd:av->Prop where
 | mk {x:av} (bAddr:x.CZ.length<=a8) (bDeposed:x.C1.length<=a8) (bType:x.CO.length<=a8) (bAction:inR x.CW) (bReason:inR x.C') (bBefore:aa.Bd x.CS) (bAfter:aa.Bd x.CR) (bID:x.fID.length<=a8) (bReplace:x.CX.length*16<=a8) (eReplace:∀ y∈x.CX,y.length<=a8) (bDeps:x.Da.length*16<=a8) (eDeps:∀ y∈x.Da,y.length<=a8) (bOldDeps:x.Dl.length*16<=a8) (eOldDeps:∀ y∈x.Dl,y.length<=a8):av.Bd x
theorem av.Bd.bAddr {x:av}(h:av.Bd x):x.CZ.length<=a8:=by cases h; assumption
theorem av.Bd.bDeposed {x:av}(h:av.Bd x):x.C1.length<=a8:=by cases h; assumption
theorem av.Bd.bType {x:av}(h:av.Bd x):x.CO.length<=a8:=by cases h; assumption
theorem av.Bd.bAction {x:av}(h:av.Bd x):inR x.CW:=by cases h; assumption
theorem av.Bd.bReason {x:av}(h:av.Bd x):inR x.C':=by cases h; assumption
theorem av.Bd.bBefore {x:av}(h:av.Bd x):aa.Bd x.CS:=by cases h; assumption
theorem av.Bd.bAfter {x:av}(h:av.Bd x):aa.Bd x.CR:=by cases h; assumption
theorem av.Bd.bID {x:av}(h:av.Bd x):x.fID.length<=a8:=by cases h; assumption
theorem av.Bd.bReplace {x:av}(h:av.Bd x):x.CX.length*16<=a8:=by cases h; assumption
theorem av.Bd.eReplace {x:av}(h:av.Bd x):∀ y∈x.CX,y.length<=a8:=by cases h; assumption
theorem av.Bd.bDeps {x:av}(h:av.Bd x):x.Da.length*16<=a8:=by cases h; assumption
theorem av.Bd.eDeps {x:av}(h:av.Bd x):∀ y∈x.Da,y.length<=a8:=by cases h; assumption
theorem av.Bd.bOldDeps {x:av}(h:av.Bd x):x.Dl.length*16<=a8:=by cases h; assumption
theorem av.Bd.eOldDeps {x:av}(h:av.Bd x):∀ y∈x.Dl,y.length<=a8:=by cases h; assumption
theorem av.dec (n:Nat):(∀ cs,WTf tt n 33 cs->∃ x:av,cs=av.cs x/\av.Bd x):=by
 induction n using Nat.strongRecOn with
 | _ n ih=>
 have IG:∀ m,m<n->(∀ cs,WTf tt m 33 cs->∃ x:av,cs=av.cs x/\av.Bd x):=λ m hm=>(ih m hm)
 intro cs h
 cases n with
 | zero=>exact h.elim
 | succ n=>
 have h0:=cp rfl h;obtain ⟨c0,q0,rfl,k0,h0⟩:=aA h0;obtain ⟨c1,q1,rfl,k1,h0⟩:=aA h0;obtain ⟨c2,q2,rfl,k2,h0⟩:=aA h0;obtain ⟨c3,q3,rfl,k3,h0⟩:=aA h0;obtain ⟨c4,q4,rfl,k4,h0⟩:=aA h0;obtain ⟨c5,q5,rfl,k5,h0⟩:=aA h0;obtain ⟨c6,q6,rfl,k6,h0⟩:=aA h0;obtain ⟨c7,q7,rfl,k7,h0⟩:=aA h0;obtain ⟨c8,q8,rfl,k8,h0⟩:=aA h0;obtain ⟨c9,q9,rfl,k9,h0⟩:=aA h0;obtain ⟨Fq,q10,rfl,k10,h0⟩:=aA h0;obtain ⟨Fp,q11,rfl,k11,h0⟩:=aA h0;obtain ⟨F4,q12,rfl,k12,h0⟩:=aA h0;obtain ⟨FI,Iu,rfl,k13,h0⟩:=aA h0;have e:Iu=[]:=h0;subst e;obtain ⟨x27,rfl,b28⟩:=ci rfl k0;obtain ⟨x29,rfl,b30⟩:=ci rfl k1;obtain ⟨x31,rfl,b32⟩:=ci rfl k2;obtain ⟨x33,rfl,b34⟩:=gQ rfl k3;obtain ⟨x35,rfl,b36⟩:=gQ rfl k4;obtain ⟨x37,rfl,b38⟩:=aa.dec _ _ k5;obtain ⟨x39,rfl,b40⟩:=aa.dec _ _ k6;obtain ⟨x41,rfl,b42⟩:=ci rfl k7
 obtain ⟨x43,rfl,b44⟩:=cE eS (λ y=>y.length<=a8) rfl k8 (λ m45 y46 hm47 k48 k49=>by
  obtain ⟨x50,J',b51⟩:=ci rfl k48;exact ⟨x50,mB J' k49,b51⟩
  )
 obtain ⟨x53,rfl⟩:=fh rfl k9;obtain ⟨x55,rfl⟩:=fh rfl k10;obtain ⟨x57,rfl⟩:=fh rfl k11
 obtain ⟨x59,rfl,b60⟩:=cE eS (λ y=>y.length<=a8) rfl k12 (λ m61 y62 hm63 k64 k65=>by
  obtain ⟨x66,e68,b67⟩:=ci rfl k64;exact ⟨x66,mB e68 k65,b67⟩
  )
 obtain ⟨x69,rfl,b70⟩:=cE eS (λ y=>y.length<=a8) rfl k13 (λ m71 y72 hm73 k74 k75=>by
  obtain ⟨x76,e78,b77⟩:=ci rfl k74;exact ⟨x76,mB e78 k75,b77⟩
  )
 exact ⟨av.mk x27 x29 x31 x33 x35 x37 x39 x41 x43 x53 x55 x57 x59 x69,Z,.mk b28 b30 b32 b34 b36 b38 b40 b42 b44.1 b44.2 b60.1 b60.2 b70.1 b70.2⟩
inductive ak.Bd:ak->Prop where
 | mk {x:ak} (bKind:inR x.AI) (bElems:x.CP.length*56<=a8) (eElems:∀ y∈x.CP,ak.Bd y) (bNames:x.CL.length*16<=a8) (eNames:∀ y∈x.CL,y.length<=a8):ak.Bd x
theorem ak.Bd.bKind {x:ak}(h:ak.Bd x):inR x.AI:=by cases h; assumption
theorem ak.Bd.bElems {x:ak}(h:ak.Bd x):x.CP.length*56<=a8:=by cases h; assumption
theorem ak.Bd.eElems {x:ak}(h:ak.Bd x):∀ y∈x.CP,ak.Bd y:=by cases h; assumption
theorem ak.Bd.bNames {x:ak}(h:ak.Bd x):x.CL.length*16<=a8:=by cases h; assumption
theorem ak.Bd.eNames {x:ak}(h:ak.Bd x):∀ y∈x.CL,y.length<=a8:=by cases h; assumption
theorem ak.dec (n:Nat):(∀ cs,WTf tt n 104 cs->∃ x:ak,cs=ak.cs x/\ak.Bd x):=by
 induction n using Nat.strongRecOn with
 | _ n ih=>
 have Hl:∀ m,m<n->(∀ cs,WTf tt m 104 cs->∃ x:ak,cs=ak.cs x/\ak.Bd x):=λ m hm=>(ih m hm)
 intro cs h
 cases n with
 | zero=>exact h.elim
 | succ n=>
 have h0:=cp rfl h;obtain ⟨c0,q0,rfl,k0,h0⟩:=aA h0;obtain ⟨c1,q1,rfl,k1,h0⟩:=aA h0;obtain ⟨c2,q2,rfl,k2,h0⟩:=aA h0;have e:q2=[]:=h0;subst e;obtain ⟨x79,rfl,b80⟩:=gQ rfl k0
 obtain ⟨x81,rfl,b82⟩:=cE aE (λ y=>ak.Bd y) rfl k1 (λ m83 y84 hm85 k86 k87=>by
  obtain ⟨x88,e90,b89⟩:=Hl _ O _ k86;exact ⟨x88,(im e90 k87).trans (ak.CQ _).symm,b89⟩
  )
 obtain ⟨x91,rfl,b92⟩:=cE eS (λ y=>y.length<=a8) rfl k2 (λ m93 y94 hm95 k96 k97=>by
  obtain ⟨x98,e100,b99⟩:=ci rfl k96;exact ⟨x98,mB e100 k97,b99⟩
  )
 exact ⟨ak.mk x79 x81 x91,Z,.mk b80 b82.1 b82.2 b92.1 b92.2⟩
inductive az.Bd:az->Prop where
 | mk {x:az} (bName:x.By.length<=a8) (bType:ak.Bd x.CO) (bMode:inR x.C6):az.Bd x
theorem az.Bd.bName {x:az}(h:az.Bd x):x.By.length<=a8:=by cases h; assumption
theorem az.Bd.bType {x:az}(h:az.Bd x):ak.Bd x.CO:=by cases h; assumption
theorem az.Bd.bMode {x:az}(h:az.Bd x):inR x.C6:=by cases h; assumption
theorem az.dec (n:Nat):(∀ cs,WTf tt n 107 cs->∃ x:az,cs=az.cs x/\az.Bd x):=by
 induction n using Nat.strongRecOn with
 | _ n ih=>
 have JS:∀ m,m<n->(∀ cs,WTf tt m 107 cs->∃ x:az,cs=az.cs x/\az.Bd x):=λ m hm=>(ih m hm)
 intro cs h
 cases n with
 | zero=>exact h.elim
 | succ n=>
 have h0:=cp rfl h;obtain ⟨c0,q0,rfl,k0,h0⟩:=aA h0;obtain ⟨c1,q1,rfl,k1,h0⟩:=aA h0;obtain ⟨c2,q2,rfl,k2,h0⟩:=aA h0;obtain ⟨c3,q3,rfl,k3,h0⟩:=aA h0;obtain ⟨c4,q4,rfl,k4,h0⟩:=aA h0;obtain ⟨c5,q5,rfl,k5,h0⟩:=aA h0;have e:q5=[]:=h0;subst e;obtain ⟨x101,rfl,b102⟩:=ci rfl k0;obtain ⟨x103,rfl,b104⟩:=ak.dec _ _ k1;obtain ⟨x105,rfl,b106⟩:=gQ rfl k2;obtain ⟨x107,rfl⟩:=fh rfl k3;obtain ⟨x109,rfl⟩:=fh rfl k4;obtain ⟨x111,rfl⟩:=fh rfl k5;exact ⟨az.mk x101 x103 x105 x107 x109 x111,rfl,.mk b102 b104 b106⟩
inductive aD.Bd:aD->Prop where
 | mk {x:aD} (bName:x.By.length<=a8) (bMin:inR x.C7) (bMax:inR x.C8) (bAttrs:x.B'.length*88<=a8) (eAttrs:∀ y∈x.B',az.Bd y):aD.Bd x
theorem aD.Bd.bName {x:aD}(h:aD.Bd x):x.By.length<=a8:=by cases h; assumption
theorem aD.Bd.bMin {x:aD}(h:aD.Bd x):inR x.C7:=by cases h; assumption
theorem aD.Bd.bMax {x:aD}(h:aD.Bd x):inR x.C8:=by cases h; assumption
theorem aD.Bd.bAttrs {x:aD}(h:aD.Bd x):x.B'.length*88<=a8:=by cases h; assumption
theorem aD.Bd.eAttrs {x:aD}(h:aD.Bd x):∀ y∈x.B',az.Bd y:=by cases h; assumption
theorem aD.dec (n:Nat):(∀ cs,WTf tt n 71 cs->∃ x:aD,cs=aD.cs x/\aD.Bd x):=by
 induction n using Nat.strongRecOn with
 | _ n ih=>
 have IF:∀ m,m<n->(∀ cs,WTf tt m 71 cs->∃ x:aD,cs=aD.cs x/\aD.Bd x):=λ m hm=>(ih m hm)
 intro cs h
 cases n with
 | zero=>exact h.elim
 | succ n=>
 have h0:=cp rfl h;obtain ⟨c0,q0,rfl,k0,h0⟩:=aA h0;obtain ⟨c1,q1,rfl,k1,h0⟩:=aA h0;obtain ⟨c2,q2,rfl,k2,h0⟩:=aA h0;obtain ⟨c3,q3,rfl,k3,h0⟩:=aA h0;obtain ⟨c4,q4,rfl,k4,h0⟩:=aA h0;have e:q4=[]:=h0;subst e;obtain ⟨x113,rfl,b114⟩:=ci rfl k0;obtain ⟨x115,rfl,b116⟩:=gQ rfl k1;obtain ⟨x117,rfl,b118⟩:=gQ rfl k2
 obtain ⟨x119,rfl,b120⟩:=cE aL (λ y=>az.Bd y) rfl k3 (λ m121 y122 hm123 k124 k125=>by
  obtain ⟨x126,e128,b127⟩:=az.dec _ _ k124;exact ⟨x126,(im e128 k125).trans (az.CQ _).symm,b127⟩
  )
 obtain ⟨x129,rfl⟩:=fh rfl k4;exact ⟨aD.mk x113 x115 x117 x119 x129,rfl,.mk b114 b116 b118 b120.1 b120.2⟩
inductive am.Bd:am->Prop where
 | mk {x:am} (bAttrs:x.B'.length*88<=a8) (eAttrs:∀ y∈x.B',az.Bd y) (bNested:x.A'.length*64<=a8) (eNested:∀ y∈x.A',aD.Bd y):am.Bd x
theorem am.Bd.bAttrs {x:am}(h:am.Bd x):x.B'.length*88<=a8:=by cases h; assumption
theorem am.Bd.eAttrs {x:am}(h:am.Bd x):∀ y∈x.B',az.Bd y:=by cases h; assumption
theorem am.Bd.bNested {x:am}(h:am.Bd x):x.A'.length*64<=a8:=by cases h; assumption
theorem am.Bd.eNested {x:am}(h:am.Bd x):∀ y∈x.A',aD.Bd y:=by cases h; assumption
theorem am.dec (n:Nat):(∀ cs,WTf tt n 37 cs->∃ x:am,cs=am.cs x/\am.Bd x):=by
 induction n using Nat.strongRecOn with
 | _ n ih=>
 have IE:∀ m,m<n->(∀ cs,WTf tt m 37 cs->∃ x:am,cs=am.cs x/\am.Bd x):=λ m hm=>(ih m hm)
 intro cs h
 cases n with
 | zero=>exact h.elim
 | succ n=>
 have h0:=cp rfl h;obtain ⟨c0,q0,rfl,k0,h0⟩:=aA h0;obtain ⟨c1,q1,rfl,k1,h0⟩:=aA h0;have e:q1=[]:=h0;subst e
 obtain ⟨x131,rfl,b132⟩:=cE aL (λ y=>az.Bd y) rfl k0 (λ m133 y134 hm135 k136 k137=>by
  obtain ⟨x138,e140,b139⟩:=az.dec _ _ k136;exact ⟨x138,(im e140 k137).trans (az.CQ _).symm,b139⟩
  )
 obtain ⟨x141,rfl,b142⟩:=cE aO (λ y=>aD.Bd y) rfl k1 (λ m143 y144 hm145 k146 k147=>by
  obtain ⟨x148,e150,b149⟩:=aD.dec _ _ k146;exact ⟨x148,(im e150 k147).trans (aD.CQ _).symm,b149⟩
  )
 exact ⟨am.mk x131 x141,Z,.mk b132.1 b132.2 b142.1 b142.2⟩
inductive aG.Bd:aG->Prop where
 | mk {x:aG} (bTargets:x.Dh.length*16<=a8) (eTargets:∀ y∈x.Dh,y.length<=a8) (bReplace:x.CX.length*16<=a8) (eReplace:∀ y∈x.CX,y.length<=a8) (bRemote:aa.Bd x.C3) (bVars:aa.Bd x.C4):aG.Bd x
theorem aG.Bd.bTargets {x:aG}(h:aG.Bd x):x.Dh.length*16<=a8:=by cases h; assumption
theorem aG.Bd.eTargets {x:aG}(h:aG.Bd x):∀ y∈x.Dh,y.length<=a8:=by cases h; assumption
theorem aG.Bd.bReplace {x:aG}(h:aG.Bd x):x.CX.length*16<=a8:=by cases h; assumption
theorem aG.Bd.eReplace {x:aG}(h:aG.Bd x):∀ y∈x.CX,y.length<=a8:=by cases h; assumption
theorem aG.Bd.bRemote {x:aG}(h:aG.Bd x):aa.Bd x.C3:=by cases h; assumption
theorem aG.Bd.bVars {x:aG}(h:aG.Bd x):aa.Bd x.C4:=by cases h; assumption
theorem aG.dec (n:Nat):(∀ cs,WTf tt n 44 cs->∃ x:aG,cs=aG.cs x/\aG.Bd x):=by
 induction n using Nat.strongRecOn with
 | _ n ih=>
 have G4:∀ m,m<n->(∀ cs,WTf tt m 44 cs->∃ x:aG,cs=aG.cs x/\aG.Bd x):=λ m hm=>(ih m hm)
 intro cs h
 cases n with
 | zero=>exact h.elim
 | succ n=>
 have h0:=cp rfl h;obtain ⟨c0,q0,rfl,k0,h0⟩:=aA h0;obtain ⟨c1,q1,rfl,k1,h0⟩:=aA h0;obtain ⟨c2,q2,rfl,k2,h0⟩:=aA h0;obtain ⟨c3,q3,rfl,k3,h0⟩:=aA h0;obtain ⟨c4,q4,rfl,k4,h0⟩:=aA h0;obtain ⟨c5,q5,rfl,k5,h0⟩:=aA h0;have e:q5=[]:=h0;subst e;obtain ⟨x151,rfl⟩:=fh rfl k0;obtain ⟨x153,rfl⟩:=fh rfl k1
 obtain ⟨x155,rfl,b156⟩:=cE eS (λ y=>y.length<=a8) rfl k2 (λ m157 y158 hm159 k160 k161=>by
  obtain ⟨x162,e164,b163⟩:=ci rfl k160;exact ⟨x162,mB e164 k161,b163⟩
  )
 obtain ⟨x165,rfl,b166⟩:=cE eS (λ y=>y.length<=a8) rfl k3 (λ m167 y168 hm169 k170 k171=>by
  obtain ⟨x172,e174,b173⟩:=ci rfl k170;exact ⟨x172,mB e174 k171,b173⟩
  )
 obtain ⟨x175,rfl,b176⟩:=aa.dec _ _ k4;obtain ⟨x177,rfl,b178⟩:=aa.dec _ _ k5;exact ⟨aG.mk x151 x153 x155 x165 x175 x177,rfl,.mk b156.1 b156.2 b166.1 b166.2 b176 b178⟩
inductive aW.Bd:aW->Prop where
 | mk {x:aW} (bAddr:x.CZ.length<=a8) (bDeposed:x.C1.length<=a8) (bID:x.fID.length<=a8) (bType:x.CO.length<=a8) (bAttrs:aa.Bd x.B') (bVersion:inR x.Dt) (bDeps:x.Da.length*16<=a8) (eDeps:∀ y∈x.Da,y.length<=a8):aW.Bd x
theorem aW.Bd.bAddr {x:aW}(h:aW.Bd x):x.CZ.length<=a8:=by cases h; assumption
theorem aW.Bd.bDeposed {x:aW}(h:aW.Bd x):x.C1.length<=a8:=by cases h; assumption
theorem aW.Bd.bID {x:aW}(h:aW.Bd x):x.fID.length<=a8:=by cases h; assumption
theorem aW.Bd.bType {x:aW}(h:aW.Bd x):x.CO.length<=a8:=by cases h; assumption
theorem aW.Bd.bAttrs {x:aW}(h:aW.Bd x):aa.Bd x.B':=by cases h; assumption
theorem aW.Bd.bVersion {x:aW}(h:aW.Bd x):inR x.Dt:=by cases h; assumption
theorem aW.Bd.bDeps {x:aW}(h:aW.Bd x):x.Da.length*16<=a8:=by cases h; assumption
theorem aW.Bd.eDeps {x:aW}(h:aW.Bd x):∀ y∈x.Da,y.length<=a8:=by cases h; assumption
theorem aW.dec (n:Nat):(∀ cs,WTf tt n 273 cs->∃ x:aW,cs=aW.cs x/\aW.Bd x):=by
 induction n using Nat.strongRecOn with
 | _ n ih=>
 have HT:∀ m,m<n->(∀ cs,WTf tt m 273 cs->∃ x:aW,cs=aW.cs x/\aW.Bd x):=λ m hm=>(ih m hm)
 intro cs h
 cases n with
 | zero=>exact h.elim
 | succ n=>
 have h0:=cp rfl h;obtain ⟨c0,q0,rfl,k0,h0⟩:=aA h0;obtain ⟨c1,q1,rfl,k1,h0⟩:=aA h0;obtain ⟨c2,q2,rfl,k2,h0⟩:=aA h0;obtain ⟨c3,q3,rfl,k3,h0⟩:=aA h0;obtain ⟨c4,q4,rfl,k4,h0⟩:=aA h0;obtain ⟨c5,q5,rfl,k5,h0⟩:=aA h0;obtain ⟨c6,q6,rfl,k6,h0⟩:=aA h0;obtain ⟨c7,q7,rfl,k7,h0⟩:=aA h0;obtain ⟨c8,q8,rfl,k8,h0⟩:=aA h0;have e:q8=[]:=h0;subst e;obtain ⟨x179,rfl,b180⟩:=ci rfl k0;obtain ⟨x181,rfl,b182⟩:=ci rfl k1;obtain ⟨x183,rfl,b184⟩:=ci rfl k2;obtain ⟨x185,rfl,b186⟩:=ci rfl k3;obtain ⟨x187,rfl,b188⟩:=aa.dec _ _ k4;obtain ⟨x189,rfl,b190⟩:=gQ rfl k5;obtain ⟨x191,rfl⟩:=fh rfl k6;obtain ⟨x193,rfl⟩:=fh rfl k7
 obtain ⟨x195,rfl,b196⟩:=cE eS (λ y=>y.length<=a8) rfl k8 (λ m197 y198 hm199 k200 k201=>by
  obtain ⟨x202,e204,b203⟩:=ci rfl k200;exact ⟨x202,mB e204 k201,b203⟩
  )
 exact ⟨aW.mk x179 x181 x183 x185 x187 x189 x191 x193 x195,Z,.mk b180 b182 b184 b186 b188 b190 b196.1 b196.2⟩
inductive bO.Bd:bO->Prop where
 | mk {x:bO} (bAddr:x.CZ.length<=a8) (bType:x.CO.length<=a8) (bToken:x.Du.length<=a8):bO.Bd x
theorem bO.Bd.bAddr {x:bO}(h:bO.Bd x):x.CZ.length<=a8:=by cases h; assumption
theorem bO.Bd.bType {x:bO}(h:bO.Bd x):x.CO.length<=a8:=by cases h; assumption
theorem bO.Bd.bToken {x:bO}(h:bO.Bd x):x.Du.length<=a8:=by cases h; assumption
theorem bO.dec (n:Nat):(∀ cs,WTf tt n 275 cs->∃ x:bO,cs=bO.cs x/\bO.Bd x):=by
 induction n using Nat.strongRecOn with
 | _ n ih=>
 have Ij:∀ m,m<n->(∀ cs,WTf tt m 275 cs->∃ x:bO,cs=bO.cs x/\bO.Bd x):=λ m hm=>(ih m hm)
 intro cs h
 cases n with
 | zero=>exact h.elim
 | succ n=>
 have h0:=cp rfl h;obtain ⟨c0,q0,rfl,k0,h0⟩:=aA h0;obtain ⟨c1,q1,rfl,k1,h0⟩:=aA h0;obtain ⟨c2,q2,rfl,k2,h0⟩:=aA h0;have e:q2=[]:=h0;subst e;obtain ⟨x205,rfl,b206⟩:=ci rfl k0;obtain ⟨x207,rfl,b208⟩:=ci rfl k1;obtain ⟨x209,rfl,b210⟩:=ci rfl k2;exact ⟨bO.mk x205 x207 x209,rfl,.mk b206 b208 b210⟩
inductive a6.Bd:a6->Prop where
 | mk {x:a6} (bName:x.By.length<=a8) (bValue:aa.Bd x.C9):a6.Bd x
theorem a6.Bd.bName {x:a6}(h:a6.Bd x):x.By.length<=a8:=by cases h; assumption
theorem a6.Bd.bValue {x:a6}(h:a6.Bd x):aa.Bd x.C9:=by cases h; assumption
theorem a6.dec (n:Nat):(∀ cs,WTf tt n 277 cs->∃ x:a6,cs=a6.cs x/\a6.Bd x):=by
 induction n using Nat.strongRecOn with
 | _ n ih=>
 have G3:∀ m,m<n->(∀ cs,WTf tt m 277 cs->∃ x:a6,cs=a6.cs x/\a6.Bd x):=λ m hm=>(ih m hm)
 intro cs h
 cases n with
 | zero=>exact h.elim
 | succ n=>
 have h0:=cp rfl h;obtain ⟨c0,q0,rfl,k0,h0⟩:=aA h0;obtain ⟨c1,q1,rfl,k1,h0⟩:=aA h0;obtain ⟨c2,q2,rfl,k2,h0⟩:=aA h0;have e:q2=[]:=h0;subst e;obtain ⟨x211,rfl,b212⟩:=ci rfl k0;obtain ⟨x213,rfl,b214⟩:=aa.dec _ _ k1;obtain ⟨x215,rfl⟩:=fh rfl k2;exact ⟨a6.mk x211 x213 x215,rfl,.mk b212 b214⟩
inductive bQ.Bd:bQ->Prop where
 | mk {x:bQ} (bLineage:x.Dm.length<=a8) (bSerial:inR x.Dn) (bInstances:x.Di.length*184<=a8) (eInstances:∀ y∈x.Di,aW.Bd y) (bPending:x.Dj.length*48<=a8) (ePending:∀ y∈x.Dj,bO.Bd y) (bOutputs:x.CN.length*104<=a8) (eOutputs:∀ y∈x.CN,a6.Bd y):bQ.Bd x
theorem bQ.Bd.bLineage {x:bQ}(h:bQ.Bd x):x.Dm.length<=a8:=by cases h; assumption
theorem bQ.Bd.bSerial {x:bQ}(h:bQ.Bd x):inR x.Dn:=by cases h; assumption
theorem bQ.Bd.bInstances {x:bQ}(h:bQ.Bd x):x.Di.length*184<=a8:=by cases h; assumption
theorem bQ.Bd.eInstances {x:bQ}(h:bQ.Bd x):∀ y∈x.Di,aW.Bd y:=by cases h; assumption
theorem bQ.Bd.bPending {x:bQ}(h:bQ.Bd x):x.Dj.length*48<=a8:=by cases h; assumption
theorem bQ.Bd.ePending {x:bQ}(h:bQ.Bd x):∀ y∈x.Dj,bO.Bd y:=by cases h; assumption
theorem bQ.Bd.bOutputs {x:bQ}(h:bQ.Bd x):x.CN.length*104<=a8:=by cases h; assumption
theorem bQ.Bd.eOutputs {x:bQ}(h:bQ.Bd x):∀ y∈x.CN,a6.Bd y:=by cases h; assumption
theorem bQ.dec (n:Nat):(∀ cs,WTf tt n 49 cs->∃ x:bQ,cs=bQ.cs x/\bQ.Bd x):=by
 induction n using Nat.strongRecOn with
 | _ n ih=>
 have Jb:∀ m,m<n->(∀ cs,WTf tt m 49 cs->∃ x:bQ,cs=bQ.cs x/\bQ.Bd x):=λ m hm=>(ih m hm)
 intro cs h
 cases n with
 | zero=>exact h.elim
 | succ n=>
 have h0:=cp rfl h;obtain ⟨c0,q0,rfl,k0,h0⟩:=aA h0;obtain ⟨c1,q1,rfl,k1,h0⟩:=aA h0;obtain ⟨c2,q2,rfl,k2,h0⟩:=aA h0;obtain ⟨c3,q3,rfl,k3,h0⟩:=aA h0;obtain ⟨c4,q4,rfl,k4,h0⟩:=aA h0;have e:q4=[]:=h0;subst e;obtain ⟨x217,rfl,b218⟩:=ci rfl k0;obtain ⟨x219,rfl,b220⟩:=gQ rfl k1
 obtain ⟨x221,rfl,b222⟩:=cE iK (λ y=>aW.Bd y) rfl k2 (λ m223 y224 hm225 k226 k227=>by
  obtain ⟨x228,e230,b229⟩:=aW.dec _ _ k226;exact ⟨x228,(im e230 k227).trans (aW.CQ _).symm,b229⟩
  )
 obtain ⟨x231,rfl,b232⟩:=cE jT (λ y=>bO.Bd y) rfl k3 (λ m233 y234 hm235 k236 k237=>by
  obtain ⟨x238,e240,b239⟩:=bO.dec _ _ k236;exact ⟨x238,(im e240 k237).trans (bO.CQ _).symm,b239⟩
  )
 obtain ⟨x241,rfl,b242⟩:=cE fX (λ y=>a6.Bd y) rfl k4 (λ m243 y244 hm245 k246 k247=>by
  obtain ⟨x248,e250,b249⟩:=a6.dec _ _ k246;exact ⟨x248,(im e250 k247).trans (a6.CQ _).symm,b249⟩
  )
 exact ⟨bQ.mk x217 x219 x221 x231 x241,Z,.mk b218 b220 b222.1 b222.2 b232.1 b232.2 b242.1 b242.2⟩
inductive cy.Bd:cy->Prop where
 | mk {x:cy} (bAddr:x.CZ.length<=a8) (bDeposed:x.C1.length<=a8) (bBefore:aa.Bd x.CS) (bAfter:aa.Bd x.CR):cy.Bd x
theorem cy.Bd.bAddr {x:cy}(h:cy.Bd x):x.CZ.length<=a8:=by cases h; assumption
theorem cy.Bd.bDeposed {x:cy}(h:cy.Bd x):x.C1.length<=a8:=by cases h; assumption
theorem cy.Bd.bBefore {x:cy}(h:cy.Bd x):aa.Bd x.CS:=by cases h; assumption
theorem cy.Bd.bAfter {x:cy}(h:cy.Bd x):aa.Bd x.CR:=by cases h; assumption
theorem cy.dec (n:Nat):(∀ cs,WTf tt n 85 cs->∃ x:cy,cs=cy.cs x/\cy.Bd x):=by
 induction n using Nat.strongRecOn with
 | _ n ih=>
 have Jc:∀ m,m<n->(∀ cs,WTf tt m 85 cs->∃ x:cy,cs=cy.cs x/\cy.Bd x):=λ m hm=>(ih m hm)
 intro cs h
 cases n with
 | zero=>exact h.elim
 | succ n=>
 have h0:=cp rfl h;obtain ⟨c0,q0,rfl,k0,h0⟩:=aA h0;obtain ⟨c1,q1,rfl,k1,h0⟩:=aA h0;obtain ⟨c2,q2,rfl,k2,h0⟩:=aA h0;obtain ⟨c3,q3,rfl,k3,h0⟩:=aA h0;obtain ⟨c4,q4,rfl,k4,h0⟩:=aA h0;have e:q4=[]:=h0;subst e;obtain ⟨x251,rfl,b252⟩:=ci rfl k0;obtain ⟨x253,rfl,b254⟩:=ci rfl k1;obtain ⟨x255,rfl⟩:=fh rfl k2;obtain ⟨x257,rfl,b258⟩:=aa.dec _ _ k3;obtain ⟨x259,rfl,b260⟩:=aa.dec _ _ k4;exact ⟨cy.mk x251 x253 x255 x257 x259,rfl,.mk b252 b254 b258 b260⟩
inductive aN.Bd:aN->Prop where
 | mk {x:aN} (bName:x.By.length<=a8) (bBefore:aa.Bd x.CS) (bAfter:aa.Bd x.CR):aN.Bd x
theorem aN.Bd.bName {x:aN}(h:aN.Bd x):x.By.length<=a8:=by cases h; assumption
theorem aN.Bd.bBefore {x:aN}(h:aN.Bd x):aa.Bd x.CS:=by cases h; assumption
theorem aN.Bd.bAfter {x:aN}(h:aN.Bd x):aa.Bd x.CR:=by cases h; assumption
theorem aN.dec (n:Nat):(∀ cs,WTf tt n 87 cs->∃ x:aN,cs=aN.cs x/\aN.Bd x):=by
 induction n using Nat.strongRecOn with
 | _ n ih=>
 have GF:∀ m,m<n->(∀ cs,WTf tt m 87 cs->∃ x:aN,cs=aN.cs x/\aN.Bd x):=λ m hm=>(ih m hm)
 intro cs h
 cases n with
 | zero=>exact h.elim
 | succ n=>
 have h0:=cp rfl h;obtain ⟨c0,q0,rfl,k0,h0⟩:=aA h0;obtain ⟨c1,q1,rfl,k1,h0⟩:=aA h0;obtain ⟨c2,q2,rfl,k2,h0⟩:=aA h0;obtain ⟨c3,q3,rfl,k3,h0⟩:=aA h0;have e:q3=[]:=h0;subst e;obtain ⟨x261,rfl,b262⟩:=ci rfl k0;obtain ⟨x263,rfl,b264⟩:=aa.dec _ _ k1;obtain ⟨x265,rfl,b266⟩:=aa.dec _ _ k2;obtain ⟨x267,rfl⟩:=fh rfl k3;exact ⟨aN.mk x261 x263 x265 x267,rfl,.mk b262 b264 b266⟩
inductive bs.Bd:bs->Prop where
 | mk {x:bs} (bAddr:x.CZ.length<=a8) (bValue:aa.Bd x.C9):bs.Bd x
theorem bs.Bd.bAddr {x:bs}(h:bs.Bd x):x.CZ.length<=a8:=by cases h; assumption
theorem bs.Bd.bValue {x:bs}(h:bs.Bd x):aa.Bd x.C9:=by cases h; assumption
theorem bs.dec (n:Nat):(∀ cs,WTf tt n 279 cs->∃ x:bs,cs=bs.cs x/\bs.Bd x):=by
 induction n using Nat.strongRecOn with
 | _ n ih=>
 have HD:∀ m,m<n->(∀ cs,WTf tt m 279 cs->∃ x:bs,cs=bs.cs x/\bs.Bd x):=λ m hm=>(ih m hm)
 intro cs h
 cases n with
 | zero=>exact h.elim
 | succ n=>
 have h0:=cp rfl h;obtain ⟨c0,q0,rfl,k0,h0⟩:=aA h0;obtain ⟨c1,q1,rfl,k1,h0⟩:=aA h0;have e:q1=[]:=h0;subst e;obtain ⟨x269,rfl,b270⟩:=ci rfl k0;obtain ⟨x271,rfl,b272⟩:=aa.dec _ _ k1;exact ⟨bs.mk x269 x271,rfl,.mk b270 b272⟩
inductive eu.Bd:eu->Prop where
 | mk {x:eu} (bFrom:x.Db.length<=a8) (bTo:x.fTo.length<=a8) (bAt:inR x.fAt):eu.Bd x
theorem eu.Bd.bFrom {x:eu}(h:eu.Bd x):x.Db.length<=a8:=by cases h; assumption
theorem eu.Bd.bTo {x:eu}(h:eu.Bd x):x.fTo.length<=a8:=by cases h; assumption
theorem eu.Bd.bAt {x:eu}(h:eu.Bd x):inR x.fAt:=by cases h; assumption
theorem eu.dec (n:Nat):(∀ cs,WTf tt n 92 cs->∃ x:eu,cs=eu.cs x/\eu.Bd x):=by
 induction n using Nat.strongRecOn with
 | _ n ih=>
 have JR:∀ m,m<n->(∀ cs,WTf tt m 92 cs->∃ x:eu,cs=eu.cs x/\eu.Bd x):=λ m hm=>(ih m hm)
 intro cs h
 cases n with
 | zero=>exact h.elim
 | succ n=>
 have h0:=cp rfl h;obtain ⟨c0,q0,rfl,k0,h0⟩:=aA h0;obtain ⟨c1,q1,rfl,k1,h0⟩:=aA h0;obtain ⟨c2,q2,rfl,k2,h0⟩:=aA h0;have e:q2=[]:=h0;subst e;obtain ⟨x273,rfl,b274⟩:=ci rfl k0;obtain ⟨x275,rfl,b276⟩:=ci rfl k1;obtain ⟨x277,rfl,b278⟩:=gQ rfl k2;exact ⟨eu.mk x273 x275 x277,rfl,.mk b274 b276 b278⟩
inductive bA.Bd:bA->Prop where
 | mk {x:bA} (bOptions:aG.Bd x.CY) (bBase:bQ.Bd x.C5) (bChanges:x.CU.length*320<=a8) (eChanges:∀ y∈x.CU,av.Bd y) (bOutputs:x.CN.length*184<=a8) (eOutputs:∀ y∈x.CN,aN.Bd y) (bData:x.De.length*96<=a8) (eData:∀ y∈x.De,bs.Bd y) (bDrift:x.Dc.length*200<=a8) (eDrift:∀ y∈x.Dc,cy.Bd y) (bMoved:x.C2.length*40<=a8) (eMoved:∀ y∈x.C2,eu.Bd y):bA.Bd x
theorem bA.Bd.bOptions {x:bA}(h:bA.Bd x):aG.Bd x.CY:=by cases h; assumption
theorem bA.Bd.bBase {x:bA}(h:bA.Bd x):bQ.Bd x.C5:=by cases h; assumption
theorem bA.Bd.bChanges {x:bA}(h:bA.Bd x):x.CU.length*320<=a8:=by cases h; assumption
theorem bA.Bd.eChanges {x:bA}(h:bA.Bd x):∀ y∈x.CU,av.Bd y:=by cases h; assumption
theorem bA.Bd.bOutputs {x:bA}(h:bA.Bd x):x.CN.length*184<=a8:=by cases h; assumption
theorem bA.Bd.eOutputs {x:bA}(h:bA.Bd x):∀ y∈x.CN,aN.Bd y:=by cases h; assumption
theorem bA.Bd.bData {x:bA}(h:bA.Bd x):x.De.length*96<=a8:=by cases h; assumption
theorem bA.Bd.eData {x:bA}(h:bA.Bd x):∀ y∈x.De,bs.Bd y:=by cases h; assumption
theorem bA.Bd.bDrift {x:bA}(h:bA.Bd x):x.Dc.length*200<=a8:=by cases h; assumption
theorem bA.Bd.eDrift {x:bA}(h:bA.Bd x):∀ y∈x.Dc,cy.Bd y:=by cases h; assumption
theorem bA.Bd.bMoved {x:bA}(h:bA.Bd x):x.C2.length*40<=a8:=by cases h; assumption
theorem bA.Bd.eMoved {x:bA}(h:bA.Bd x):∀ y∈x.C2,eu.Bd y:=by cases h; assumption
theorem bA.dec (n:Nat):(∀ cs,WTf tt n 56 cs->∃ x:bA,cs=bA.cs x/\bA.Bd x):=by
 induction n using Nat.strongRecOn with
 | _ n ih=>
 have JQ:∀ m,m<n->(∀ cs,WTf tt m 56 cs->∃ x:bA,cs=bA.cs x/\bA.Bd x):=λ m hm=>(ih m hm)
 intro cs h
 cases n with
 | zero=>exact h.elim
 | succ n=>
 have h0:=cp rfl h;obtain ⟨c0,q0,rfl,k0,h0⟩:=aA h0;obtain ⟨c1,q1,rfl,k1,h0⟩:=aA h0;obtain ⟨c2,q2,rfl,k2,h0⟩:=aA h0;obtain ⟨c3,q3,rfl,k3,h0⟩:=aA h0;obtain ⟨c4,q4,rfl,k4,h0⟩:=aA h0;obtain ⟨c5,q5,rfl,k5,h0⟩:=aA h0;obtain ⟨c6,q6,rfl,k6,h0⟩:=aA h0;have e:q6=[]:=h0;subst e;obtain ⟨x279,rfl,b280⟩:=aG.dec _ _ k0;obtain ⟨x281,rfl,b282⟩:=bQ.dec _ _ k1
 obtain ⟨x283,rfl,b284⟩:=cE dD (λ y=>av.Bd y) rfl k2 (λ m285 y286 hm287 k288 k289=>by
  obtain ⟨x290,e292,b291⟩:=av.dec _ _ k288;exact ⟨x290,(im e292 k289).trans (av.CQ _).symm,b291⟩
  )
 obtain ⟨x293,rfl,b294⟩:=cE bV (λ y=>aN.Bd y) rfl k3 (λ m295 y296 hm297 k298 k299=>by
  obtain ⟨x300,e302,b301⟩:=aN.dec _ _ k298;exact ⟨x300,(im e302 k299).trans (aN.CQ _).symm,b301⟩
  )
 obtain ⟨x303,rfl,b304⟩:=cE iZ (λ y=>bs.Bd y) rfl k4 (λ m305 y306 hm307 k308 k309=>by
  obtain ⟨x310,e312,b311⟩:=bs.dec _ _ k308;exact ⟨x310,(im e312 k309).trans (bs.CQ _).symm,b311⟩
  )
 obtain ⟨x313,rfl,b314⟩:=cE lf (λ y=>cy.Bd y) rfl k5 (λ m315 y316 hm317 k318 k319=>by
  obtain ⟨x320,e322,b321⟩:=cy.dec _ _ k318;exact ⟨x320,(im e322 k319).trans (cy.CQ _).symm,b321⟩
  )
 obtain ⟨x323,rfl,b324⟩:=cE np (λ y=>eu.Bd y) rfl k6 (λ m325 y326 hm327 k328 k329=>by
  obtain ⟨x330,e332,b331⟩:=eu.dec _ _ k328;exact ⟨x330,(im e332 k329).trans (eu.CQ _).symm,b331⟩
  )
 exact ⟨bA.mk x279 x281 x283 x293 x303 x313 x323,Z,.mk b280 b282 b284.1 b284.2 b294.1 b294.2 b304.1 b304.2 b314.1 b314.2 b324.1 b324.2⟩
inductive aQ.Bd:aQ->Prop where
 | mk {x:aQ} (bName:x.By.length<=a8) (bSchema:am.Bd x.Dp) (bQuota:inR x.Dv):aQ.Bd x
theorem aQ.Bd.bName {x:aQ}(h:aQ.Bd x):x.By.length<=a8:=by cases h; assumption
theorem aQ.Bd.bSchema {x:aQ}(h:aQ.Bd x):am.Bd x.Dp:=by cases h; assumption
theorem aQ.Bd.bQuota {x:aQ}(h:aQ.Bd x):inR x.Dv:=by cases h; assumption
theorem aQ.dec (n:Nat):(∀ cs,WTf tt n 83 cs->∃ x:aQ,cs=aQ.cs x/\aQ.Bd x):=by
 induction n using Nat.strongRecOn with
 | _ n ih=>
 have GE:∀ m,m<n->(∀ cs,WTf tt m 83 cs->∃ x:aQ,cs=aQ.cs x/\aQ.Bd x):=λ m hm=>(ih m hm)
 intro cs h
 cases n with
 | zero=>exact h.elim
 | succ n=>
 have h0:=cp rfl h;obtain ⟨c0,q0,rfl,k0,h0⟩:=aA h0;obtain ⟨c1,q1,rfl,k1,h0⟩:=aA h0;obtain ⟨c2,q2,rfl,k2,h0⟩:=aA h0;have e:q2=[]:=h0;subst e;obtain ⟨x333,rfl,b334⟩:=ci rfl k0;obtain ⟨x335,rfl,b336⟩:=am.dec _ _ k1;obtain ⟨x337,rfl,b338⟩:=gQ rfl k2;exact ⟨aQ.mk x333 x335 x337,rfl,.mk b334 b336 b338⟩
inductive gt.Bd:gt->Prop where
 | mk {x:gt} (bKind:inR x.AI) (bNum:inR x.BY) (bStr:x.CK.length<=a8):gt.Bd x
theorem gt.Bd.bKind {x:gt}(h:gt.Bd x):inR x.AI:=by cases h; assumption
theorem gt.Bd.bNum {x:gt}(h:gt.Bd x):inR x.BY:=by cases h; assumption
theorem gt.Bd.bStr {x:gt}(h:gt.Bd x):x.CK.length<=a8:=by cases h; assumption
theorem gt.dec (n:Nat):(∀ cs,WTf tt n 131 cs->∃ x:gt,cs=gt.cs x/\gt.Bd x):=by
 induction n using Nat.strongRecOn with
 | _ n ih=>
 have ih_TKey:∀ m,m<n->(∀ cs,WTf tt m 131 cs->∃ x:gt,cs=gt.cs x/\gt.Bd x):=λ m hm=>(ih m hm)
 intro cs h
 cases n with
 | zero=>exact h.elim
 | succ n=>
 have h0:=cp rfl h;obtain ⟨c0,q0,rfl,k0,h0⟩:=aA h0;obtain ⟨c1,q1,rfl,k1,h0⟩:=aA h0;obtain ⟨c2,q2,rfl,k2,h0⟩:=aA h0;have e:q2=[]:=h0;subst e;obtain ⟨x339,rfl,b340⟩:=gQ rfl k0;obtain ⟨x341,rfl,b342⟩:=gQ rfl k1;obtain ⟨x343,rfl,b344⟩:=ci rfl k2;exact ⟨gt.mk x339 x341 x343,rfl,.mk b340 b342 b344⟩
inductive bi.Bd:bi->Prop where
 | mk {x:bi} (bName:x.By.length<=a8) (bKey:gt.Bd x.Dd):bi.Bd x
theorem bi.Bd.bName {x:bi}(h:bi.Bd x):x.By.length<=a8:=by cases h; assumption
theorem bi.Bd.bKey {x:bi}(h:bi.Bd x):gt.Bd x.Dd:=by cases h; assumption
theorem bi.dec (n:Nat):(∀ cs,WTf tt n 167 cs->∃ x:bi,cs=bi.cs x/\bi.Bd x):=by
 induction n using Nat.strongRecOn with
 | _ n ih=>
 have Hm:∀ m,m<n->(∀ cs,WTf tt m 167 cs->∃ x:bi,cs=bi.cs x/\bi.Bd x):=λ m hm=>(ih m hm)
 intro cs h
 cases n with
 | zero=>exact h.elim
 | succ n=>
 have h0:=cp rfl h;obtain ⟨c0,q0,rfl,k0,h0⟩:=aA h0;obtain ⟨c1,q1,rfl,k1,h0⟩:=aA h0;have e:q1=[]:=h0;subst e;obtain ⟨x345,rfl,b346⟩:=ci rfl k0;obtain ⟨x347,rfl,b348⟩:=gt.dec _ _ k1;exact ⟨bi.mk x345 x347,rfl,.mk b346 b348⟩
inductive bM.Bd:bM->Prop where
 | mk {x:bM} (bModule:x.Dq.length*48<=a8) (eModule:∀ y∈x.Dq,bi.Bd y) (bType:x.CO.length<=a8) (bName:x.By.length<=a8) (bKey:gt.Bd x.Dd):bM.Bd x
theorem bM.Bd.bModule {x:bM}(h:bM.Bd x):x.Dq.length*48<=a8:=by cases h; assumption
theorem bM.Bd.eModule {x:bM}(h:bM.Bd x):∀ y∈x.Dq,bi.Bd y:=by cases h; assumption
theorem bM.Bd.bType {x:bM}(h:bM.Bd x):x.CO.length<=a8:=by cases h; assumption
theorem bM.Bd.bName {x:bM}(h:bM.Bd x):x.By.length<=a8:=by cases h; assumption
theorem bM.Bd.bKey {x:bM}(h:bM.Bd x):gt.Bd x.Dd:=by cases h; assumption
theorem bM.dec (n:Nat):(∀ cs,WTf tt n 133 cs->∃ x:bM,cs=bM.cs x/\bM.Bd x):=by
 induction n using Nat.strongRecOn with
 | _ n ih=>
 have Ik:∀ m,m<n->(∀ cs,WTf tt m 133 cs->∃ x:bM,cs=bM.cs x/\bM.Bd x):=λ m hm=>(ih m hm)
 intro cs h
 cases n with
 | zero=>exact h.elim
 | succ n=>
 have h0:=cp rfl h;obtain ⟨c0,q0,rfl,k0,h0⟩:=aA h0;obtain ⟨c1,q1,rfl,k1,h0⟩:=aA h0;obtain ⟨c2,q2,rfl,k2,h0⟩:=aA h0;obtain ⟨c3,q3,rfl,k3,h0⟩:=aA h0;obtain ⟨c4,q4,rfl,k4,h0⟩:=aA h0;have e:q4=[]:=h0;subst e
 obtain ⟨x349,rfl,b350⟩:=cE ky (λ y=>bi.Bd y) rfl k0 (λ m351 y352 hm353 k354 k355=>by
  obtain ⟨x356,e358,b357⟩:=bi.dec _ _ k354;exact ⟨x356,(im e358 k355).trans (bi.CQ _).symm,b357⟩
  )
 obtain ⟨x359,rfl⟩:=fh rfl k1;obtain ⟨x361,rfl,b362⟩:=ci rfl k2;obtain ⟨x363,rfl,b364⟩:=ci rfl k3;obtain ⟨x365,rfl,b366⟩:=gt.dec _ _ k4;exact ⟨bM.mk x349 x359 x361 x363 x365,rfl,.mk b350.1 b350.2 b362 b364 b366⟩
inductive dG.Bd:dG->Prop where
 | mk {x:dG} (brest:x.frest.length<=a8):dG.Bd x
theorem dG.Bd.brest {x:dG}(h:dG.Bd x):x.frest.length<=a8:=by cases h; assumption
theorem dG.dec (n:Nat):(∀ cs,WTf tt n 165 cs->∃ x:dG,cs=dG.cs x/\dG.Bd x):=by
 induction n using Nat.strongRecOn with
 | _ n ih=>
 have ID:∀ m,m<n->(∀ cs,WTf tt m 165 cs->∃ x:dG,cs=dG.cs x/\dG.Bd x):=λ m hm=>(ih m hm)
 intro cs h
 cases n with
 | zero=>exact h.elim
 | succ n=>
 have h0:=cp rfl h;obtain ⟨c0,q0,rfl,k0,h0⟩:=aA h0;obtain ⟨c1,q1,rfl,k1,h0⟩:=aA h0;have e:q1=[]:=h0;subst e;obtain ⟨x367,rfl,b368⟩:=ci rfl k0;obtain ⟨x369,rfl⟩:=fh rfl k1;exact ⟨dG.mk x367 x369,rfl,.mk b368⟩
end Go.Ab
end
section
namespace Go.Ab.R06
open Go.Ab Go.Ab.RB Go.Lib
theorem rb {P:Int->Prop}{i:Nat}(h:P ((i+1:Nat):Int)):P ((i:Int)+1):=by rwa [Int.natCast_add,Int.natCast_one] at h
def cU {α:Type}(p:α->α->Bool):List α->List α->Bool|[],[]=>true|x::r,y::q=>p x y&&cU p r q|_,_=>false
theorem rD (p:Nat->Bool):∀ (k i:Nat),oy p (i+1) k=oy (λ j=>p (j+1)) i k
 | 0,_=>rfl
 | k+1,i=>by simp only [oy]; rw [rD p k (i+1)]
theorem oT {α:Type} [Inhabited α] (p:α->α->Bool):∀ a b:List α,cU p a b=(decide (a.length=b.length)&&oy (λ i=>p (a.getD i default) (b.getD i default)) 0 a.length)
 | [],[]=>rfl
 | [],y::q=>by simp [cU]
 | x::r,[]=>by simp [cU]
 | x::r,y::q=>by
  simp only [cU,bx,oy,List.getD_cons_zero,th];rw [oT p r q,rD];simp only [List.getD_cons_succ,Nat.add_right_cancel_iff]
  cases p x y <;> cases decide (r.length=q.length) <;> simp
theorem o1 {f:Nat->Nat->Int->Option (Unit⊕Bool)}(len:Nat)(p:Nat->Bool)(h0:Ev2 (λ n m=>f n m (len:Int)) (·=.inl ()))
  (hs:∀ i:Nat,i<len->∀ P:Unit⊕Bool->Prop,(p i=true->Ev2 (λ n m=>f n m ((i:Int)+1)) P)->(p i=false->P (.inr false))->Ev2 (λ n m=>f n m (i:Int)) P) :
  ∀ k i,i+k=len->Ev2 (λ n m=>f n m (i:Int)) (·=if oy p i k=true then .inl () else .inr false):=by
 intro k
 induction k with
 | zero=>
  intro i hi;obtain rfl:i=len:=by omega
  exact h0
 | succ k ih=>
  intro i hi;refine hs i O _ (λ h=>?_) (λ h=>?_)
  ·have:=ih (i+1) O;rw [Int.natCast_add,Int.natCast_one] at this;simpa only [oy,h,Bool.true_and] using this
  ·simp [oy,h]
theorem uj {f:Nat->Nat->Int->Option (Unit⊕Bool)}{len:Nat}{p:Nat->Bool}{k:Nat->Nat->Option Bool}{q:Bool}(h:Ev2 (λ n m=>f n m 0) (·=if oy p 0 len=true then .inl () else .inr false))
  (hk:Ev2 k (·=q)):Ev2 (λ n m=>jn (f n n 0) (λ _=>k n m)) (·=(oy p 0 len&&q)):=by
 refine li (ib (bp (f:=λ n m=>f n m 0) h) (λ s hs=>?_));subst hs
 cases oy p 0 len with
 | true=>exact hk
 | false=>rfl
theorem nt {x:Bool}(h:(!x)=true):x=false:=by simpa using h
theorem nf {x:Bool}(h:¬ (!x)=true):x=true:=by simpa using h
def eqS (a b:Bk):Bool:=decide (a=b)
theorem BU (a b:List Bk)(ha:a.length*16<=a8):Ev2 (λ n _=>de n a b) (·=cU eqS a b):=by
 unfold a8 at ha;simp only [de];rw [oT];refine ar (λ h=>?_) (λ h=>ac (by simp; omega));have h:a.length=b.length:=by omega
 rw [decide_eq_true h,Bool.true_and];rw [<- Bool.and_true (oy _ 0 a.length)];refine uj (f:=λ n m i=>bH a b m i) (o1 a.length _ ?_ (λ i hi P h1 h2=>?_) a.length 0 O) (ac rfl)
 ·refine bD ?_;simp only [bH];exact aU O (ac Z)
 ·refine bD ?_;simp only [bH];refine aV O (al O (al O (ar (λ h=>al (aM O O) (h1 (decide_eq_true h))) (λ h=>ac (h2 (decide_eq_false h))))))
mutual
def eqV:aa->aa->Bool|.mk k n s l ks,.mk k' n' s' l' ks'=>decide (k=k')&&decide (n=n')&&eqS s s'&&cU eqS ks ks'&&vO l l'
def vO:List aa->List aa->Bool|[],[]=>true|x::r,y::q=>eqV x y&&vO r q|_,_=>false
end
theorem xo:∀ a b,vO a b=cU eqV a b
 | [],[]=>by simp only [vO,cU]
 | [],_::_=>by simp only [vO,cU]
 | _::_,[]=>by simp only [vO,cU]
 | x::r,y::q=>by simp only [vO,cU]; rw [xo r q]
theorem yy (a b:aa):eqV a b=(decide (a.AI=b.AI)&&decide (a.BY=b.BY)&&eqS a.CK b.CK&&cU eqS a.AT b.AT&&cU eqV a.Ar b.Ar):=by
 cases a; cases b
 simp only [eqV,xo,aa.AI,aa.BY,aa.CK,aa.AT,aa.Ar]
 rfl
theorem AH (a b:List aa)(ha:a.length*80<=a8)(e:Nat->aa->aa->Option Bool)(he:∀ x∈a,∀ y,Ev2 (λ n _=>e n x y) (·=eqV x y)) :
  Ev2 (λ n _=>bc n a b (e n)) (·=cU eqV a b):=by
 unfold a8 at ha;simp only [bc];rw [oT];refine ar (λ h=>?_) (λ h=>ac (by simp; omega));have h:a.length=b.length:=by omega
 rw [decide_eq_true h,Bool.true_and];rw [<- Bool.and_true (oy _ 0 a.length)];refine uj (f:=λ n m i=>aF a b (e n) m i) (o1 a.length _ ?_ (λ i hi P h1 h2=>?_) a.length 0 O) (ac rfl)
 ·refine bD ?_;simp only [aF];exact aU O (ac Z)
 ·refine bD ?_;simp only [aF];refine aV O (al O (al O (ax _ (he _ (bK O) _) ?_)));exact ar (λ h=>ac (h2 (nt h))) (λ h=>al (aM O O) (h1 (nf h)))
theorem wq {a:aa}(hb:aa.Bd a):∀ b,Ev2 (λ n _=>fq n a b) (·=eqV a b):=by
 induction hb with
 | @mk x bKind bNum bStr bItems eItems bKeys eKeys ih=>
  intro b;refine d8 ?_;simp only [fq];rw [yy];refine aK (·=(decide (x.AI=b.AI)&&decide (x.BY=b.BY)&&eqS x.CK b.CK&&cU eqS x.AT b.AT&&cU eqV x.Ar b.Ar)) ?_ (λ t ht=>ac ht);refine ar (λ h1=>?_) (λ h1=>ac (by simp [h1]));refine ar (λ h2=>?_) (λ h2=>ac (by simp [h2]));refine ar (λ h3=>?_) (λ h3=>ac (by simp [h3,eqS]));refine ax _ (BU _ _ bKeys) ?_;simp only [h1,h2,h3,eqS,decide_true,Bool.true_and];refine ar (λ h4=>?_) (λ h4=>ac (by simp [Bool.eq_false_iff.2 h4]));exact ax _ (AH _ _ bItems (λ n x0 x1=>fq n x0 x1) (λ x hx y=>ih x hx y)) (ac (by simp [h4]))
theorem uX {a:aa}(hb:aa.Bd a):∀ b,Ev2 (λ n _=>fP n a b) (·=eqV a b):=by
 induction hb with
 | @mk x bKind bNum bStr bItems eItems bKeys eKeys ih=>
  intro b;have l1:=bItems;have l2:=bKeys;unfold a8 at l1 l2;refine d8 ?_;simp only [fP];rw [yy];refine ax (!(decide (x.AI=b.AI)&&decide (x.BY=b.BY)&&eqS x.CK b.CK&&decide (x.Ar.length=b.Ar.length)&&decide (x.AT.length=b.AT.length))) ?_ ?_
  ·refine ar (λ h1=>?_) (λ h1=>ac (by simp [h1]));refine ar (λ h2=>?_) (λ h2=>ac (by simp [h2]));refine ar (λ h3=>?_) (λ h3=>ac (by simp [h3,eqS]));refine ar (λ h4=>ac ?_) (λ h4=>ac ?_)
   ·have h4:x.Ar.length=b.Ar.length:=by omega
    simp [h1,h2,h3,h4,eqS]; omega
   ·have h4:¬ x.Ar.length=b.Ar.length:=by omega
    simp [h4]
  ·rw [oT eqS,oT eqV];refine ar (λ h=>ac ?_) (λ h=>?_)
   ·simp only [Bool.not_eq_true',Bool.and_eq_false_iff] at h;rcases h with (((h|h)|h)|h)|h <;> simp [h]
   ·simp only [Bool.not_eq_true',Bool.not_eq_false,Bool.and_eq_true] at h;obtain ⟨⟨⟨⟨h1,h2⟩,h3⟩,h4⟩,h5⟩:=h;have h4':=of_decide_eq_true h4;have h5':=of_decide_eq_true h5;rw [h1,h2,h3,h4,h5];simp only [Bool.true_and];refine uj (f:=λ n m i=>eV x b m i) (o1 x.AT.length _ ?_ (λ i hi P h1 h2=>?_) x.AT.length 0 O) ?_
    ·refine bD ?_;simp only [eV];exact aU O (ac Z)
    ·refine bD ?_;simp only [eV];refine aV O (al O (al O (ar (λ h=>al (aM O O) (h1 (decide_eq_true h))) (λ h=>ac (h2 (decide_eq_false h))))))
    ·rw [<- Bool.and_true (oy _ 0 x.Ar.length)];refine uj (f:=λ n m i=>eR (fP n) x b m i) (o1 x.Ar.length _ ?_ (λ i hi P h1 h2=>?_) x.Ar.length 0 O) (ac rfl)
     ·refine bD ?_;simp only [eR];exact aU O (ac Z)
     ·refine bD ?_;simp only [eR];refine aV O (al O (al O (ax _ (ih _ (bK O) _) ?_)));exact ar (λ h=>ac (h2 (nt h))) (λ h=>al (aM O O) (h1 (nf h)))
theorem dX {α:Type} [Inhabited α] (l:List α){i:Nat}(h:i<l.length):l.drop i=lat l (i:Int)::l.drop (i+1):=by
 rw [xt,List.getD_eq_getElem?_getD,List.getElem?_eq_getElem h,ro];exact List.drop_eq_getElem_cons h
mutual
def bW:aa->Nat|.mk _ _ _ l _=>1+bR l
def bR:List aa->Nat|[]=>0|x::r=>bW x+bR r
end
theorem fL (v:aa):bW v=1+bR v.Ar:=by cases v; simp only [bW,aa.Ar]
theorem lY:∀ {l:List aa} {x:aa},x∈l->bW x<=bR l
 | y::r,x,h=>by
  rcases wr.1 h with rfl|h
  ·simp only [bR]; omega
  ·have:=lY h; simp only [bR]; omega
theorem A7 {v:aa}(hb:aa.Bd v):∀ (nodes levels:Int),0<=nodes->nodes<=1000000->-1000000<=levels->levels<=1000000 ->
  Ev2 (λ n _=>fx n v nodes levels) (λ r=>-1<=r/\r<=nodes/\(0<=r->r=nodes-(bW v:Int))):=by
 induction hb with
 | @mk x bKind bNum bStr bItems eItems bKeys eKeys ih=>
  intro nodes levels h1 h2 h3 h4;have hl:=bItems;unfold a8 at hl;refine d8 ?_;simp only [fx];refine ax (decide (nodes<1\/levels<1)) (ar (λ h=>ac (by simp [h])) (λ h=>ac (by simp [h]))) (ar (λ _=>ac ⟨by omega,by omega,by omega⟩) (λ h=>?_));have h:¬ (nodes<1\/levels<1):=λ q=>h (decide_eq_true q);refine al (aM O O) ?_
  have loop:∀ (k i:Nat) (c:Int),i+k=x.Ar.length->-1<=c->c<=1000000->Ev2 (λ n m=>d5 (fx n) x levels m c (i:Int)) (λ s=>-1<=s/\s<=c/\(0<=s->s=c-(bR (x.Ar.drop i):Int))):=by
   intro k
   induction k with
   | zero=>
    intro i c hi h6 h7;refine bD ?_;simp only [d5];refine ax false (aU O (ac rfl)) (aU G (ac ⟨h6,by omega,λ _=>?_⟩));rw [List.drop_eq_nil_of_le O]; simp [bR]
   | succ k ihk=>
    intro i c hi h6 h7;refine bD ?_;simp only [d5];refine ax (decide (0<=c)) (aV O (ac rfl)) (ar (λ h8=>?_) (λ h8=>ac ⟨h6,by omega,λ h=>absurd (by simpa using h) h8⟩));have h8:0<=c:=by simpa using h8
    refine al O (al (aM O O) ?_);refine aK _ (ih _ (Go.Ab.bK O) c (levels-1) h8 h7 O O) (λ q hq=>?_);refine al (aM O O) ?_;refine ib (rb (P:=λ j=>Ev2 (λ n m=>d5 (fx n) x levels m q j) _) (ihk (i+1) q O hq.1 O)) (λ s hs=>⟨hs.1,by omega,λ h=>?_⟩);rw [dX _ O];have a1:=hs.2.2 h;have a2:=hq.2.2 O;simp only [bR];omega
  refine aK _ (bp (f:=λ n m=>d5 (fx n) x levels m (nodes-1) 0) (loop x.Ar.length 0 (nodes-1) O O O)) (λ s hs=>ac ⟨hs.1,by omega,λ h=>?_⟩);have:=hs.2.2 h;rw [fL];simp only [List.drop_zero] at this;omega
theorem Bb {v:aa}(hb:aa.Bd v):bW v<=100000->Ev2 (λ n _=>fH n v) (λ r=>0<=r/\r<=(bW v:Int)*9000000000000):=by
 induction hb with
 | @mk x bKind bNum bStr bItems eItems bKeys eKeys ih=>
  intro hn;have hl:=bItems;have hk:=bKeys;unfold a8 at hl hk;rw [fL] at hn ⊢;refine d8 ?_;simp only [fH]
  have loop:∀ (k i:Nat) (c:Int),i+k=x.Ar.length->0<=c->c+(bR (x.Ar.drop i):Int)*9000000000000<=((1+bR x.Ar:Nat):Int)*9000000000000->Ev2 (λ n m=>d7 (fH n) x m c (i:Int)) (λ s=>0<=s/\s<=((1+bR x.Ar:Nat):Int)*9000000000000):=by
   intro k
   induction k with
   | zero=>
    intro i c hi h6 h7;refine bD ?_;simp only [d7];exact aU O (ac ⟨h6,by omega⟩)
   | succ k ihk=>
    intro i c hi h6 h7;have hd:=dX x.Ar (i:=i) O;have hm:lat x.Ar (i:Int)∈x.Ar:=List.mem_of_mem_drop (hd ▸ List.mem_cons_self);have hle:=lY hm;rw [hd] at h7;simp only [bR] at h7;refine bD ?_;simp only [d7];refine aV O (al O (aK _ (ih _ hm O) (λ q hq=>?_)));refine al (aM O O) (al (aM O O) ?_);exact rb (P:=λ j=>Ev2 (λ n m=>d7 (fH n) x m (c+q) j) _) (ihk (i+1) (c+q) O O O)
  refine aK _ (bp (f:=λ n m=>d7 (fH n) x m (x.AT.length:Int) 0) (loop x.Ar.length 0 (x.AT.length:Int) O O  (by simp only [List.drop_zero]; omega))) (λ s hs=>ac hs)
theorem zh {v:aa}(hb:aa.Bd v)(nodes:Int)(h1:0<=nodes)(h2:nodes<=100000):Ev2 (λ n _=>g6 n v nodes) (λ r=>r=true->(bW v:Int)<=nodes):=by
 simp only [g6];refine aK (λ r=>r=true->(bW v:Int)<=nodes) ?_ (λ r hr=>ac hr);refine aK _ (A7 hb nodes 40 h1 O (by decide) (by decide)) (λ r hr=>ar (λ h=>?_) (λ h=>ac (λ q=>by cases q)));have:=hr.2.2 h;exact aK _ (Bb hb O) (λ q hq=>al (aM O O) (ac (λ _=>by omega)))
def Inc:List Bk->Prop|[]=>True|[_]=>True|x::y::r=>Op.bytesLess x y=true/\Inc (y::r)
structure zw (v:aa):Prop where
 its:v.AI≠4->v.AI≠5->v.Ar=[]
 kys:v.AI≠5->v.AT=[]
 len:v.AI=5->v.AT.length=v.Ar.length
 inc:Inc v.AT
 txt:∀ k∈v.AT,k.length<=4096/\validD k=true
 z:v.AI=5->v.BY=0/\v.CK=[]
 s:v.CK.length<=4096
 z4:v.AI=4->v.BY=0/\v.CK=[]
 rg:0<=v.AI/\v.AI<=6
 nm:v.AI=2->-oo<=v.BY/\v.BY<=oo
inductive GV:aa->Prop where
 | mk {v:aa} (h:zw v) (l:∀ x∈v.Ar,GV x):GV v
theorem GV.node {v:aa}(h:GV v):zw v:=by cases h; assumption
theorem GV.its {v:aa}(h:GV v):∀ x∈v.Ar,GV x:=by cases h; assumption
theorem vg (s:Bk):Ev2 (λ n _=>jM n s) (λ r=>r=0->s.length<=4096/\validD s=true):=by
 simp only [jM];refine ar (λ h=>ac (λ q=>absurd q (by decide))) (λ h=>?_);refine ax _ (xD s O) (ar (λ h2=>ac (λ q=>absurd q (by decide))) (λ h2=>ac (λ _=>?_)));exact ⟨by omega,by simpa [show s.length<=4096 by omega] using h2⟩
theorem vH (v:aa):Ev2 (λ _ _=>ji v) (λ r=>r=true->(v.AI≠4->v.AI≠5->v.Ar=[])/\(v.AI≠5->v.AT=[])/\(v.AI=5->v.AT.length=v.Ar.length)/\(v.AI=5\/v.AI=4->v.BY=0/\v.CK=[])/\0<=v.AI/\v.AI<=6):=by
 unfold ji;refine aK (λ r=>r=true->(v.AI=5\/v.AI=4)->v.BY=0) (ar (λ h=>ac (λ _ q=>by omega)) (λ _=>ar (λ h=>ar (λ _=>ac (λ _ q=>by omega)) (λ _=>ar (λ _=>ac (λ _ q=>by omega)) (λ _=>ac (λ _ q=>by omega)))) (λ _=>ac (λ q _=>by simpa using q)))) (λ b1 h1=>?_);refine aK (λ r=>r=true->(v.AI=5\/v.AI=4)->v.CK=[]) (ar (λ h=>ac (λ _ q=>by omega)) (λ _=>ac (λ q _=>by simpa using q))) (λ b2 h2=>?_);refine aK (λ r=>r=true->v.AI≠4->v.AI≠5->v.Ar=[]) (ar (λ h=>ac (λ _ q=>absurd h q)) (λ _=>ar (λ h=>ac (λ _ _ q=>absurd h q)) (λ _=>ac (λ q _ _=>by simpa using q)))) (λ b3 h3=>?_);refine aK (λ r=>r=true->(v.AI≠5->v.AT=[])/\(v.AI=5->v.AT.length=v.Ar.length)) (ar (λ h=>ar (λ q=>ac (λ _=>⟨λ p=>absurd h p,λ _=>by omega⟩)) (λ _=>ac (λ q=>by cases q))) (λ h=>ac (λ q=>⟨λ _=>by simpa using q,λ p=>absurd p h⟩))) (λ b4 h4=>?_);refine aK (λ r=>r=true->(b1=true/\b2=true/\b3=true/\b4=true)/\0<=v.AI/\v.AI<=6) ?_ (λ b hb=>ac (λ q=>⟨h3 (hb q).1.2.2.1,(h4 (hb q).1.2.2.2).1,(h4 (hb q).1.2.2.2).2,λ p=>⟨h1 (hb q).1.1 p,h2 (hb q).1.2.1 p⟩,(hb q).2⟩));refine ar (λ r1=>ar (λ r2=>ar (λ q1=>ar (λ q2=>ar (λ q=>ac (λ p=>⟨⟨q1,q2,q,p⟩,r1,r2⟩)) (λ _=>ac (λ q=>by cases q))) (λ _=>ac (λ q=>by cases q))) (λ _=>ac (λ q=>by cases q))) (λ _=>ac (λ q=>by cases q))) (λ _=>ac (λ q=>by cases q))
theorem y3 {x:Bk}{l:List Bk}(h:Inc l)(hx:∀ y∈l.head?,Op.bytesLess x y=true):Inc (x::l):=by
 cases l with
 | nil=>trivial
 | cons y r=>exact ⟨hx y Z,h⟩
theorem u6 {v:aa}(hb:aa.Bd v):Ev2 (λ n _=>kP n v) (λ r=>r=0->zw v):=by
 have hk:=hb.bKeys;unfold a8 at hk;simp only [kP];refine aK _ (vH v) (λ b hs=>ar (λ _=>ac (λ q=>absurd q (by decide))) (λ h=>?_));obtain ⟨s1,s2,s3,s4,s5⟩:=hs (by simpa using h);refine aK (λ b=>b=false->v.AI=2->-oo<=v.BY/\v.BY<=oo) (ar (λ _=>aK (λ r=>r=true->-oo<=v.BY/\v.BY<=oo) (by unfold lj; exact aK (λ r=>r=true->-oo<=v.BY/\v.BY<=oo) (ar (λ k1=>ac (λ k2=>⟨k1,of_decide_eq_true k2⟩)) (λ _=>ac (λ k2=>by cases k2))) (λ _ h=>ac h)) (λ r h=>ac (λ q _=>h (by simpa using q)))) (λ h=>ac (λ _ q=>absurd q h))) (λ b5 h5=>ar (λ _=>ac (λ q=>absurd q (by decide))) (λ hb5=>?_));refine aK _ (vg v.CK) (λ r hr=>ar (λ hr0=>?_) (λ h=>ac (λ q=>absurd q h)))
 have loop:∀ (k i:Nat),i+k=v.AT.length->Ev2 (λ n m=>dY n v m (i:Int)) (λ r=>(∀ e,r=.inr e->e≠0)/\(r=.inl ()->Inc (v.AT.drop i)/\(0<i->∀ y∈(v.AT.drop i).head?,Op.bytesLess (lat v.AT ((i:Int)-1)) y=true)/\∀ k∈v.AT.drop i,k.length<=4096/\validD k=true)):=by
  intro k
  induction k with
  | zero=>
   intro i hi;refine bD ?_;simp only [dY];refine aU O (ac ⟨λ e q=>(by cases q),λ _=>?_⟩);rw [List.drop_eq_nil_of_le O];exact ⟨trivial,λ _ y hy=>(by cases hy),λ k hk=>(by cases hk)⟩
  | succ k ih=>
   intro i hi;refine bD ?_;simp only [dY];refine aV O (al O (aK _ (vg _) (λ r hr=>ar (λ h0=>?_) (λ h0=>ac ⟨λ e q=>(by cases q; exact h0),λ q=>(by cases q)⟩))));refine aK (λ t=>t=false->0<i->Op.bytesLess (lat v.AT ((i:Int)-1)) (lat v.AT (i:Int))=true) (ar (λ h1=>al (aM O O) (al O (al O (ac (λ q _=>by simpa using q))))) (λ h1=>ac (λ _ q=>absurd q O))) (λ t ht=>ar (λ _=>ac ⟨λ e q=>(by cases q; decide),λ q=>(by cases q)⟩) (λ h1=>?_));refine al (aM O O) ?_;refine ib (rb (P:=λ j=>Ev2 (λ n m=>dY n v m j) _) (ih (i+1) O)) (λ r hr2=>⟨hr2.1,λ q=>?_⟩);obtain ⟨a1,a2,a3⟩:=hr2.2 q;rw [dX _ O];refine ⟨y3 a1 (λ y hy=>?_),λ h y hy=>?_,λ y hy=>?_⟩
   ·have:=a2 O y hy
    rwa [show ((i+1:Nat):Int)-1=(i:Int) by omega] at this
   ·cases hy; exact ht (by simpa using h1) h
   ·rcases wr.1 hy with rfl|hy
    ·exact hr h0
    ·exact a3 y hy
 obtain ⟨r,hr1,N,hN⟩:=bp (f:=λ n m=>dY n v m 0) (loop v.AT.length 0 O)
 cases r with
 | inl u=>
  obtain ⟨a1,_,a3⟩:=hr1.2 rfl;exact rn () ⟨.inl (),rfl,N,hN⟩ (ac (λ _=>⟨s1,s2,s3,by simpa using a1,by simpa using a3,λ q=>s4 (.inl q),(hr hr0).1,λ q=>s4 (.inr q),s5,h5 (by simpa using hb5)⟩))
 | inr e=>exact tZ e ⟨.inr e,Z,N,hN⟩ (λ q=>absurd q (hr1.1 e Z))
theorem xF {v:aa}(hb:aa.Bd v):∀ (level before:Int),0<=level->level<=33->0<=before->before<=4096->Ev2 (λ n _=>dl n v level before) (λ r=>0<=r.2/\r.2<=4096/\(r.1=0->GV v)):=by
 have hb0:=hb
 induction hb with
 | @mk x bKind bNum bStr bItems eItems bKeys eKeys ih=>
  intro level before h1 h2 h3 h4;have hl:=bItems;unfold a8 at hl;refine d8 ?_;simp only [dl];refine ar (λ _=>ac ⟨h3,h4,λ q=>absurd (Int.ofNat.inj q) (by decide)⟩) (λ h5=>ar (λ _=>ac ⟨h3,h4,λ q=>absurd (Int.ofNat.inj q) (by decide)⟩) (λ h6=>?_));refine aK _ (u6 hb0) (λ r hr=>ar (λ h0=>?_) (λ h0=>ac ⟨h3,h4,λ q=>absurd q h0⟩));have hnode:=hr h0;refine al (aM O O) ?_
  have loop:∀ (k i:Nat) (c:Int),i+k=x.Ar.length->0<=c->c<=4096->Ev2 (λ n m=>cn (dl n) x level m c (i:Int)) (λ r=>(∀ e,r=.inr e->0<=e.2/\e.2<=4096/\e.1≠0)/\(∀ c',r=.inl c'->0<=c'/\c'<=4096/\∀ y∈x.Ar.drop i,GV y)):=by
   intro k
   induction k with
   | zero=>
    intro i c hi h7 h8;refine bD ?_;simp only [cn];refine aU O (ac ⟨λ e q=>(by cases q),λ c' q=>?_⟩)
    cases q
    rw [List.drop_eq_nil_of_le O];exact ⟨h7,h8,λ y hy=>by cases hy⟩
   | succ k ihk=>
    intro i c hi h7 h8;have hd:=dX x.Ar (i:=i) O;have hm:lat x.Ar (i:Int)∈x.Ar:=List.mem_of_mem_drop (hd ▸ List.mem_cons_self);refine bD ?_;simp only [cn];refine aV O (al O (al (aM O O) (aK _ (ih _ hm (eItems _ hm) (level+1) c O O  h7 h8) (λ q hq=>ar (λ hq0=>?_) (λ hq0=>ac ⟨λ e p=>(by cases p; exact ⟨hq.1,hq.2.1,hq0⟩),λ c' p=>(by cases p)⟩)))));refine al (aM O O) ?_;refine ib (rb (P:=λ j=>Ev2 (λ n m=>cn (dl n) x level m q.2 j) _) (ihk (i+1) q.2 O hq.1 hq.2.1)) (λ r hr2=>⟨hr2.1,λ c' p=>?_⟩);obtain ⟨a1,a2,a3⟩:=hr2.2 c' p;rw [hd];refine ⟨a1,a2,λ y hy=>?_⟩;rcases wr.1 hy with rfl|hy
    ·exact hq.2.2 hq0
    ·exact a3 y hy
  obtain ⟨r,hr1,N,hN⟩:=bp (f:=λ n m=>cn (dl n) x level m (before+1) 0) (loop x.Ar.length 0 (before+1) O O O)
  cases r with
  | inl c=>
   obtain ⟨a1,a2,a3⟩:=hr1.2 c rfl;exact rn c ⟨.inl c,rfl,N,hN⟩ (ac ⟨a1,a2,λ _=>.mk hnode (by simpa using a3)⟩)
  | inr e=>
   obtain ⟨a1,a2,a3⟩:=hr1.1 e rfl;exact tZ e ⟨.inr e,rfl,N,hN⟩ ⟨a1,a2,λ q=>absurd q a3⟩
theorem yp {v:aa}(hb:aa.Bd v):Ev2 (λ n _=>et n v) (λ r=>r=0->GV v):=by
 simp only [et];exact aK _ (xF hb 1 0 (by decide) (by decide) (by decide) (by decide)) (λ r hr=>ac hr.2.2)
theorem pt:∀ a:Bk,Op.bytesLess a a=false
 | []=>rfl
 | a::x=>by simp [Op.bytesLess,pt x]
theorem w7:∀ {a b c:Bk},Op.bytesLess a b=true->Op.bytesLess b c=true->Op.bytesLess a c=true
 | _,[],_,h,_=>by simp [Op.bytesLess] at h
 | _,_::_,[],_,h=>by simp [Op.bytesLess] at h
 | [],_::_,_::_,_,_=>rfl
 | a::x,b::y,c::z,h1,h2=>by
  simp only [Op.bytesLess,Bool.or_eq_true,Bool.and_eq_true,decide_eq_true_eq,beq_iff_eq] at h1 h2 ⊢;rcases h1 with h1|⟨rfl,h1⟩
  ·rcases h2 with h2|⟨rfl,h2⟩
   ·exact .inl (UInt8.lt_trans h1 h2)
   ·exact .inl h1
  ·rcases h2 with h2|⟨rfl,h2⟩
   ·exact .inl h2
   ·exact .inr ⟨Z,w7 h1 h2⟩
theorem rJ:∀ a b:Bk,Op.bytesLess a b=true\/a=b\/Op.bytesLess b a=true
 | [],[]=>.inr (.inl Z)
 | [],_::_=>.inl Z
 | _::_,[]=>.inr (.inr Z)
 | a::x,b::y=>by
  simp only [Op.bytesLess,Bool.or_eq_true,Bool.and_eq_true,decide_eq_true_eq,beq_iff_eq,List.cons.injEq];rcases Nat.lt_trichotomy a.toNat b.toNat with h|h|h
  ·exact .inl (.inl (UInt8.lt_iff_toNat_lt.2 h))
  ·have e:a=b:=UInt8.toNat_inj.1 h;subst e;rcases rJ x y with h|h|h
   ·exact .inl (.inr ⟨Z,h⟩)
   ·exact .inr (.inl ⟨Z,h⟩)
   ·exact .inr (.inr (.inr ⟨Z,h⟩))
  ·exact .inr (.inr (.inl (UInt8.lt_iff_toNat_lt.2 h)))
theorem uh:∀ {l:List Bk},Inc l->l.Pairwise λ a b=>Op.bytesLess a b=true
 | [],_=>.nil
 | [x],_=>List.pairwise_singleton _ _
 | x::y::r,h=>by
  have ih:=uh h.2;refine List.pairwise_cons.2 ⟨λ z hz=>?_,ih⟩;rcases wr.1 hz with rfl|hz
  ·exact h.1
  ·exact w7 h.1 ((List.pairwise_cons.1 ih).1 z hz)
theorem vM {l:List Bk}(h:Inc l){i j:Nat}(hij:i<j)(hj:j<l.length):Op.bytesLess (lat l (i:Int)) (lat l (j:Int))=true:=by
 have:=List.pairwise_iff_getElem.1 (uh h) i j O hj hij;rw [cZ _ _ (show i<l.length by omega),cZ _ _ hj]; exact this
theorem vT (i j:Nat)(h:i+j<9223372036854775807):qy .u64 (IntKind.wrap .u64 ((i:Int)+(j:Int))) 1=(((i+j) / 2:Nat):Int):=by
 have e:IntKind.wrap .u64 ((i:Int)+(j:Int))=(i:Int)+(j:Int):=by
  simp [IntKind.wrap,IntKind.bits,IntKind.signed];omega
 rw [e];unfold qy;have:(2:Int)^(min (1:Int).toNat IntKind.u64.bits)=2:=by decide
 rw [this,Int.fdiv_eq_ediv_of_nonneg _ (by decide)];omega
theorem nH (x y:Bk):cmp_Less_string x y=some (Op.bytesLess x y):=by
 unfold cmp_Less_string cmp_isNaN_string;simp
theorem za {l:List Bk}(hl:l.length<=1000000000000000)(h:Inc l){t:Nat}(ht:t<l.length):Ev2 (λ n _=>aT n l (lat l (t:Int))) (·=((t:Int),true)):=by
 simp only [aT]
 have loop:∀ (k i j:Nat),j-i<=k->i<=t->t<=j->j<=l.length->Ev2 (λ _ m=>ay l (lat l (t:Int)) m (i:Int) (j:Int)) (·=(t:Int)):=by
  intro k
  induction k with
  | zero=>
   intro i j hk h1 h2 h3;refine bD ?_;simp only [ay];exact aU O (ac O)
  | succ k ih=>
   intro i j hk h1 h2 h3;refine bD ?_;simp only [ay];rw [vT i j O];refine ar (λ hij=>?_) (λ hij=>ac O);by_cases hm:(i+j) / 2<t
   ·refine ax ((((i+j) / 2+1:Nat):Int),(j:Int)) ?_ (ih _ j O O  h2 h3);refine al (aM O O) (al (by decide) (al (aM O O) (al O (ax _ (cu (nH _ _) Z) (aV (vM h hm ht) (al (aM O O) (ac ?_)))))));rw [Int.natCast_add]; rfl
   ·have hf:Op.bytesLess (lat l (((i+j) / 2:Nat):Int)) (lat l (t:Int))=false:=by
     rw [<- Bool.not_eq_true];intro q;rcases Nat.lt_or_ge t ((i+j) / 2) with h4|h4
     ·have:=w7 (vM h h4 O) q;rw [pt] at this; cases this
     ·have:(i+j) / 2=t:=by omega
      rw [this,pt] at q; cases q
    refine ax ((i:Int),(((i+j) / 2:Nat):Int)) ?_ (ih i _ O h1 O O);exact al (aM O O) (al (by decide) (al (aM O O) (al O (ax _ (cu (nH _ _) Z) (aU (by rw [hf]; decide) (ac Z))))))
 refine ax _ (bp (f:=λ _ m=>ay l (lat l (t:Int)) m 0 (l.length:Int)) (loop l.length 0 l.length O O O O)) ?_;exact ax true (aV O (al O (aV Z (ac Z)))) (ac Z)
theorem oU {v y:aa}(h:y∈v.Ar):SizeOf.sizeOf y<SizeOf.sizeOf v:=by
 cases v
 simp only [aa.Ar] at h;have:=List.sizeOf_lt_of_mem h;simp only [aa.mk.sizeOf_spec];omega
theorem qQ {α:Type} [Inhabited α] (l:List α)(i:Nat)(h:i<l.length):l.set i l[i]=l:=by
 apply List.ext_getElem G;intro j h1 h2;rw [List.getElem_set];split
 ·rename_i e; subst e; rfl
 ·rfl
theorem qY:∀ (N:Nat) (v:aa),SizeOf.sizeOf v<N->aa.Bd v->Ev2 (λ n _=>cq n v) (·=v):=by
 have hW:a8<=140737488355328:=by decide
 intro N
 induction N with
 | zero=>intro v h; omega
 | succ N ih=>
  intro v hv hb;have h1:=hb.bKeys; have h2:=hb.bItems;refine d8 ?_;simp only [cq];refine al O (ar (λ h=>?_) (λ h=>al O ?_))
  ·have he:v.Ar=[]:=by simpa using h
   refine ax () ?_ (ac (by cases v; simp only [aa.Ar] at he; subst he; rfl));refine bp (f:=λ n m=>fu (cq n) m) (bD ?_);simp only [fu];exact aU G (ac (by trivial))
  ·have loop:∀ (k i:Nat),i+k=v.Ar.length->Ev2 (λ n m=>dv (cq n) v m (i:Int) v.Ar) (·=v.Ar):=by
    intro k
    induction k with
    | zero=>
     intro i hi;refine bD ?_;simp only [dv];exact aU O (ac rfl)
    | succ k ihk=>
     intro i hi;have hil:i<v.Ar.length:=by omega
     refine bD ?_;simp only [dv];refine aV O (al O ?_);rw [cZ _ _ hil];have hmem:=List.getElem_mem hil;refine ax _ (ih _ (by have:=oU hmem; omega) (hb.eItems _ hmem)) (al O (al (aM O O) ?_));rw [Int.toNat_natCast,qQ _ _ hil];have:=ihk (i+1) O;rw [Int.natCast_add,Int.natCast_one] at this;exact this
   exact ax _ (bp (f:=λ n m=>dv (cq n) v m 0 v.Ar) (loop _ 0 (th _))) (ac (aa.eta v))
theorem cr {σ ρ:Type}(F:Nat->Nat->Int->σ->Option ρ)(len:Nat)(I:Nat->σ->Prop){P:ρ->Prop}
  (step:∀ (i:Nat) (s:σ),i<len->I i s->(∀ s',I (i+1) s'->Ev2 (λ n m=>F n m ((i:Int)+1) s') P)->Ev2 (λ n m=>F n (m+1) (i:Int) s) P)
  (fin:∀ s,I len s->Ev2 (λ n m=>F n (m+1) (len:Int) s) P):∀ (s:σ),I 0 s->Ev2 (λ n m=>F n m 0 s) P:=by
 have loop:∀ (k i:Nat) (s:σ),i+k=len->I i s->Ev2 (λ n m=>F n m (i:Int) s) P:=by
  intro k
  induction k with
  | zero=>
   intro i s hi h;obtain rfl:i=len:=by omega
   exact bD (fin s h)
  | succ k ih=>
   intro i s hi h;exact bD (step i s O h (λ s' h'=>rb (P:=λ j=>Ev2 (λ n m=>F n m j s') P) (ih (i+1) s' O h')))
 exact λ s h=>loop len 0 s O h
theorem pJ {ρ:Type}(F:Nat->Nat->Int->Option (Unit⊕ρ))(len:Nat)(I:Nat->Prop)(Q:ρ->Prop)
  (step:∀ (i:Nat),i<len->I i->∀ P:Unit⊕ρ->Prop,(∀ e,Q e->P (.inr e))->(I (i+1)->Ev2 (λ n m=>F n m ((i:Int)+1)) P)->Ev2 (λ n m=>F n (m+1) (i:Int)) P)
  (fin:Ev2 (λ n m=>F n (m+1) (len:Int)) (·=.inl ())) (h0:I 0):Ev2 (λ n m=>F n m 0) (λ r=>(r=.inl ()/\I len)\/∃ e,r=.inr e/\Q e):=by
 refine cr (λ n m i (_:Unit)=>F n m i) len (λ i _=>I i) (P:=λ r=>(r=.inl ()/\I len)\/∃ e,r=.inr e/\Q e) (λ i _ hi h k=>step i hi h _ (λ e he=>.inr ⟨e,rfl,he⟩) (λ h'=>k () h')) (λ _ h=>ib fin (λ r hr=>.inl ⟨hr,h⟩)) () h0
theorem pg {α β:Type}{P:α->Prop}{g:Nat->Nat->Option (Unit⊕α)}{k:Nat->Nat->Unit->Option α}{I:Prop}{Q:α->Prop}(h:Ev2 g (λ r=>(r=.inl ()/\I)\/∃ e,r=.inr e/\Q e))
  (h1:I->Ev2 (λ n m=>k n m ()) P) (h2:∀ e,Q e->P e) (_:β->β):Ev2 (λ n m=>jn (g n m) (k n m)) P :=
 li (ib h (λ r hr=>by
  rcases hr with ⟨rfl,h⟩|⟨e,rfl,h⟩
  ·exact h1 h
  ·exact h2 e h))
theorem zy {v:ak}(hb:ak.Bd v):Ev2 (λ n _=>cV n v) (·=v):=by
 have hW:a8<=140737488355328:=by decide
 induction hb with
 | @mk v bKind h2 eElems h1 eNames ih=>
  refine d8 ?_;simp only [cV];refine al O (ar (λ h=>?_) (λ h=>al O ?_))
  ·have he:v.CP=[]:=by simpa using h
   refine ax () ?_ (ac (by cases v; simp only [ak.CP] at he; subst he; rfl));refine bp (f:=λ n m=>fK (cV n) m) (bD ?_);simp only [fK];exact aU G (ac (by trivial))
  ·refine ax v.CP (bp (f:=λ n m=>dH (cV n) v m 0 v.CP) ?_) (ac (by cases v; rfl));refine cr (λ n m i (l:List ak)=>dH (cV n) v m i l) v.CP.length (λ _ l=>l=v.CP) (λ i l hi hl k=>?_) (λ l hl=>?_) _ rfl
   ·subst hl;simp only [dH];refine aV O (al O (ax _ (ih _ (Go.Ab.bK O)) (al O (al (aM O O) ?_))));exact k _ (by rw [cZ _ _ hi,Int.toNat_natCast]; exact qQ _ _ hi)
   ·subst hl;simp only [dH];exact aU O (ac rfl)
def uP (l:List az):Prop:=l.length<=10/\∀ a∈l,a.By.length<=100
theorem di {α:Type} [Inhabited α] (l:List α){i:Nat}(h:i<l.length):l.take (i+1)=l.take i++[lat l (i:Int)]:=by
 rw [cZ _ _ h,List.take_succ_eq_append_getElem h]
theorem nF {l:List az}(hl:l.length<=64)(hb:∀ a∈l,ak.Bd a.CO):Ev2 (λ n _=>gK n l) (·=ak.mk 6 (l.map az.CO) (l.map az.By)):=by
 simp only [gK];refine ax (l.map az.CO,l.map az.By) (bp (f:=λ n m=>dw n l m 0 [] []) ?_) (ac rfl);refine cr (λ n m i (s:List ak×List Bk)=>dw n l m i s.1 s.2) l.length (λ i s=>s=((l.take i).map az.CO,(l.take i).map az.By)) (λ i s hi hs k=>?_) (λ s hs=>?_) ([],[]) rfl
 ·subst hs;simp only [dw];refine aV O (al O (al (by simp only [cl,qr,ur]; omega) (ax _ (zy (hb _ (Go.Ab.bK O))) (al (by simp only [cl,qr,ur]; omega) (al (aM O O) ?_)))));exact k (_,_) (by simp only [di l hi,List.map_append,mv,py])
 ·subst hs;simp only [dw];exact aU O (ac (by simp only [List.take_length]))
mutual
def l8:ak->Nat|ak.mk _ l _=>1+ia l
def ia:List ak->Nat|[]=>0|x::r=>l8 x+ia r
end
theorem sM (v:ak):l8 v=1+ia v.CP:=by cases v; simp only [l8,ak.CP]
theorem re:∀ {l:List ak} {x:ak},x∈l->l8 x<=ia l
 | y::r,x,h=>by
  rcases wr.1 h with rfl|h
  ·simp only [ia]; omega
  ·have:=re h; simp only [ia]; omega
theorem zd {v:ak}(hb:ak.Bd v):∀ (nodes levels:Int),0<=nodes->nodes<=1000000->-1000000<=levels->levels<=1000000 ->
  Ev2 (λ n _=>fE n v nodes levels) (λ r=>-1<=r/\r<=nodes/\(0<=r->r=nodes-(l8 v:Int))):=by
 induction hb with
 | @mk x bKind bItems eItems bKeys eKeys ih=>
  intro nodes levels h1 h2 h3 h4;have hl:=bItems;unfold a8 at hl;refine d8 ?_;simp only [fE];refine ax (decide (nodes<1\/levels<1)) (ar (λ h=>ac (by simp [h])) (λ h=>ac (by simp [h]))) (ar (λ _=>ac ⟨by omega,by omega,by omega⟩) (λ h=>?_));have h:¬ (nodes<1\/levels<1):=λ q=>h (decide_eq_true q);refine al (aM O O) ?_
  have loop:∀ (k i:Nat) (c:Int),i+k=x.CP.length->-1<=c->c<=1000000->Ev2 (λ n m=>d6 (fE n) x levels m c (i:Int)) (λ s=>-1<=s/\s<=c/\(0<=s->s=c-(ia (x.CP.drop i):Int))):=by
   intro k
   induction k with
   | zero=>
    intro i c hi h6 h7;refine bD ?_;simp only [d6];refine ax false (aU O (ac rfl)) (aU G (ac ⟨h6,by omega,λ _=>?_⟩));rw [List.drop_eq_nil_of_le O]; simp [ia]
   | succ k ihk=>
    intro i c hi h6 h7;refine bD ?_;simp only [d6];refine ax (decide (0<=c)) (aV O (ac rfl)) (ar (λ h8=>?_) (λ h8=>ac ⟨h6,by omega,λ h=>absurd (by simpa using h) h8⟩));have h8:0<=c:=by simpa using h8
    refine al O (al (aM O O) ?_);refine aK _ (ih _ (Go.Ab.bK O) c (levels-1) h8 h7 O O) (λ q hq=>?_);refine al (aM O O) ?_;refine ib (rb (P:=λ j=>Ev2 (λ n m=>d6 (fE n) x levels m q j) _) (ihk (i+1) q O hq.1 O)) (λ s hs=>⟨hs.1,by omega,λ h=>?_⟩);rw [dX _ O];have a1:=hs.2.2 h;have a2:=hq.2.2 O;simp only [ia];omega
  refine aK _ (bp (f:=λ n m=>d6 (fE n) x levels m (nodes-1) 0) (loop x.CP.length 0 (nodes-1) O O O)) (λ s hs=>ac ⟨hs.1,by omega,λ h=>?_⟩);have:=hs.2.2 h;rw [sM];simp only [List.drop_zero] at this;omega
theorem xJ {v:ak}(hb:ak.Bd v):l8 v<=100000->Ev2 (λ n _=>eW n v) (λ r=>0<=r/\r<=(l8 v:Int)*9000000000000):=by
 induction hb with
 | @mk x bKind bItems eItems bKeys eKeys ih=>
  intro hn;have hl:=bItems;have hk:=bKeys;unfold a8 at hl hk;rw [sM] at hn ⊢;refine d8 ?_;simp only [eW]
  have loop:∀ (k i:Nat) (c:Int),i+k=x.CP.length->0<=c->c+(ia (x.CP.drop i):Int)*9000000000000<=((1+ia x.CP:Nat):Int)*9000000000000->Ev2 (λ n m=>dC (eW n) x m c (i:Int)) (λ s=>0<=s/\s<=((1+ia x.CP:Nat):Int)*9000000000000):=by
   intro k
   induction k with
   | zero=>
    intro i c hi h6 h7;refine bD ?_;simp only [dC];exact aU O (ac ⟨h6,by omega⟩)
   | succ k ihk=>
    intro i c hi h6 h7;have hd:=dX x.CP (i:=i) O;have hm:lat x.CP (i:Int)∈x.CP:=List.mem_of_mem_drop (hd ▸ List.mem_cons_self);have hle:=re hm;rw [hd] at h7;simp only [ia] at h7;refine bD ?_;simp only [dC];refine aV O (al O (aK _ (ih _ hm O) (λ q hq=>?_)));refine al (aM O O) (al (aM O O) ?_);exact rb (P:=λ j=>Ev2 (λ n m=>dC (eW n) x m (c+q) j) _) (ihk (i+1) (c+q) O O O)
  refine aK _ (bp (f:=λ n m=>dC (eW n) x m (x.CL.length:Int) 0) (loop x.CP.length 0 (x.CL.length:Int) O O  (by simp only [List.drop_zero]; omega))) (λ s hs=>ac hs)
theorem xU {v:ak}(hb:ak.Bd v)(nodes:Int)(h1:0<=nodes)(h2:nodes<=100000):Ev2 (λ n _=>kh n v nodes) (λ r=>r=true->(l8 v:Int)<=nodes):=by
 simp only [kh];refine aK (λ r=>r=true->(l8 v:Int)<=nodes) ?_ (λ r hr=>ac hr);refine aK _ (zd hb nodes 40 h1 O (by decide) (by decide)) (λ r hr=>ar (λ h=>?_) (λ h=>ac (λ q=>by cases q)));have:=hr.2.2 h;exact aK _ (xJ hb O) (λ q hq=>al (aM O O) (ac (λ _=>by omega)))
theorem qJ (l:List Bk)(x:Bk)(hl:l.length<=1000000000000000):Ev2 (λ n _=>aT n l x) (λ r=>0<=r.1/\r.1<=(l.length:Int)/\(r.2=true->r.1<(l.length:Int)/\lat l r.1=x)):=by
 simp only [aT]
 have loop:∀ (k i j:Nat),j-i<=k->i<=j->j<=l.length->Ev2 (λ _ m=>ay l x m (i:Int) (j:Int)) (λ r=>0<=r/\r<=(l.length:Int)):=by
  intro k
  induction k with
  | zero=>
   intro i j hk h2 h3;refine bD ?_;simp only [ay];exact aU O (ac O)
  | succ k ih=>
   intro i j hk h2 h3;refine bD ?_;simp only [ay];rw [vT i j O];refine ar (λ hij=>?_) (λ hij=>ac O);by_cases hm:Op.bytesLess (lat l (((i+j) / 2:Nat):Int)) x=true
   ·refine ax ((((i+j) / 2+1:Nat):Int),(j:Int)) ?_ (ih _ j O O  h3);refine al (aM O O) (al (by decide) (al (aM O O) (al O (ax _ (cu (nH _ _) Z) (aV hm (al (aM O O) (ac ?_)))))));rw [Int.natCast_add]; rfl
   ·refine ax ((i:Int),(((i+j) / 2:Nat):Int)) ?_ (ih i _ O O O);exact al (aM O O) (al (by decide) (al (aM O O) (al O (ax _ (cu (nH _ _) Z) (aU hm (ac Z))))))
 refine aK _ (bp (f:=λ _ m=>ay l x m 0 (l.length:Int)) (loop l.length 0 l.length O O O)) (λ r hr=>?_);refine aK (λ b=>b=true->r<(l.length:Int)/\lat l r=x) ?_ (λ b hb=>ac ⟨hr.1,hr.2,hb⟩);refine ar (λ h=>al O (ar (λ h2=>ac (λ _=>⟨h,h2⟩)) (λ _=>al O ?_))) (λ _=>ac (λ q=>by cases q));have nn:∀ y:Bk,slices_isNaN_string y=some false:=λ y=>by unfold slices_isNaN_string; simp
 exact ax _ (cu (nn _) rfl) (aU (by decide) (ac (λ q=>by cases q)))
structure m8 (s:am):Prop where
 a:uP s.B'
 n:s.A'.length<=10
 m:∀ x∈s.A',uP x.B'/\x.By.length<=100
structure BdS (s:am):Prop where
 a:∀ x∈s.B',ak.Bd x.CO
 n:∀ k∈s.A',∀ x∈k.B',ak.Bd x.CO
theorem nq {α:Type}{l:List α}{i:Nat}{x y:α}(h:y∈ip l i x):y∈l\/y=x:=by
 unfold ip at h;rcases sm.1 h with h|h
 ·exact .inl (List.mem_of_mem_take h)
 ·rcases wr.1 h with h|h
  ·exact .inr h
  ·exact .inl (List.mem_of_mem_drop h)
theorem iY {α:Type}{l:List α}{i:Nat}{x:α}(h:i<=l.length):(ip l i x).length=l.length+1:=by
 unfold ip; simp only [bt,bx,qr,List.length_drop]; omega
theorem Ay {s:am}(hs:m8 s)(hb:BdS s):Ev2 (λ n _=>ff n s) (λ r=>r.CL.length<=20/\∀ x∈r.CL,x.length<=100):=by
 have hn:=hs.n;have ha:=hs.a.1;simp only [ff];refine ax _ (nF O hb.a) ?_;refine aK (λ r=>r.2.length<=20/\∀ x∈r.2,x.length<=100) (bp (f:=λ n m=>cz n s m 0 (s.B'.map az.CO) (s.B'.map az.By)) ?_) (λ r hr=>ac hr);refine cr (λ n m i (t:List ak×List Bk)=>cz n s m i t.1 t.2) s.A'.length (λ i t=>t.1.length=t.2.length/\t.2.length=s.B'.length+i/\∀ x∈t.2,x.length<=100) (λ i t hi ht k=>?_) (λ t ht=>?_) (s.B'.map az.CO,s.B'.map az.By) ?_
 ·obtain ⟨h1,h2,h3⟩:=ht;have hm:lat s.A' (i:Int)∈s.A':=Go.Ab.bK O;have hk:=hs.m _ hm;have FU:=hk.1.1;simp only [cz];refine aV O (al O (aK _ (qJ t.2 _ O) (λ r hr=>?_)));obtain ⟨r1,r2,_⟩:=hr;obtain ⟨j,hj⟩:∃ j:Nat,r.1=j:=⟨r.1.toNat,by omega⟩
  unfold cX;refine ax (ip t.2 j (lat s.A' (i:Int)).By) (al O (al Z (al O (ac (by rw [hj]; rfl))))) ?_;refine ax _ (nF O (hb.n _ hm)) ?_;unfold ct;refine ax (ip t.1 j (ak.mk 4 [ak.mk 6 ((lat s.A' (i:Int)).B'.map az.CO) ((lat s.A' (i:Int)).B'.map az.By)] [])) (al O (al Z (al O (ac (by rw [hj]; rfl))))) ?_;refine al (aM O O) (k (_,_) ⟨?_,?_,λ x hx=>?_⟩)
  ·show (ip t.1 j _).length=(ip t.2 j _).length;rw [iY (show j<=t.1.length by omega),iY (show j<=t.2.length by omega),h1]
  ·show (ip t.2 j _).length=_;rw [iY (show j<=t.2.length by omega)]; omega
  ·rcases nq hx with h|rfl
   ·exact h3 x h
   ·exact hk.2
 ·obtain ⟨h1,h2,h3⟩:=ht;simp only [cz];exact aU O (ac ⟨by simp only; omega,h3⟩)
 ·refine ⟨by simp,by simp,λ x hx=>?_⟩;obtain ⟨a,ha,rfl⟩:=List.mem_map.1 hx;exact hs.a.2 a ha
theorem uT (c:Int):Ev2 (λ _ _=>hZ c) (λ _=>True):=by
 unfold hZ;exact aK (λ _=>True) (by repeat' (first|exact ac trivial|refine ar (λ _=>?_) (λ _=>?_))) (λ _ _=>ac trivial)
theorem o8 (s:Bk):Ev2 (λ n _=>eD n s) (λ _=>True):=by
 simp only [eD];refine aK (λ r=>r=false->s.length<=64) (ar (λ _=>ac (λ q=>by cases q)) (λ h=>ar (λ _=>ac (λ q=>by cases q)) (λ h2=>al ?_ (aK _ (uT _) (λ _ _=>ac (λ _=>by omega)))))) (λ r hr=>ar (λ _=>ac trivial) (λ h=>?_))
 ·have:=List.length_pos_iff.2 h; omega
 have hl:=hr (by simpa using h);refine pg (I:=True) (Q:=λ _=>True) (bp (f:=λ _ m=>cw s m 0) ?_) (λ _=>ac trivial) (λ _ _=>trivial) (id:Nat->Nat);refine pJ (λ _ m i=>cw s m i) s.length (λ _=>True) (λ _=>True) (λ i hi _ P h1 h2=>?_) ?_ trivial
 ·simp only [cw];refine aV O (aK (λ _=>True) (al O (aK _ (uT _) (λ _ _=>ar (λ _=>al O (ar (λ _=>ac trivial) (λ _=>al O (ac trivial)))) (λ _=>ac trivial)))) (λ r _=>ar (λ _=>ac (h1 _ trivial)) (λ _=>al (aM O O) (h2 trivial))))
 ·simp only [cw];exact aU O (ac rfl)
theorem xM (t:ak):Ev2 (λ _ _=>jw t) (λ _=>True):=by
 unfold jw
 repeat' (first|exact ac trivial|refine ar (λ _=>?_) (λ _=>?_)|refine aK (λ _=>True) ?_ (λ _ _=>?_))
theorem yz {t:ak}(hb:ak.Bd t):∀ level:Int,0<=level->level<=1000->Ev2 (λ n _=>fo n t level) (λ _=>True):=by
 induction hb with
 | @mk t bKind h2 eElems h1 eNames ih=>
  intro level l1 l2;unfold a8 at h1 h2;refine d8 ?_;simp only [fo];refine ar (λ _=>ac trivial) (λ hl=>aK _ (xM t) (λ b _=>ar (λ _=>ac trivial) (λ _=>?_)));refine pg (I:=True) (Q:=λ _=>True) (bp (f:=λ n m=>ei n t m 0) ?_) (λ _=>?_) (λ _ _=>trivial) (id:Nat->Nat)
  ·refine pJ (λ n m i=>ei n t m i) t.CL.length (λ _=>True) (λ _=>True) (λ i hi _ P h1 h2=>?_) ?_ trivial
   ·simp only [ei];refine aV O (al O (aK _ (o8 _) (λ r _=>ar (λ _=>ac (h1 _ trivial)) (λ _=>aK (λ _=>True) (ar (λ _=>al (aM O O) (al O (al O (ac trivial)))) (λ _=>ac trivial)) (λ _ _=>ar (λ _=>ac (h1 _ trivial)) (λ _=>al (aM O O) (h2 trivial)))))))
   ·simp only [ei];exact aU O (ac rfl)
  refine pg (I:=True) (Q:=λ _=>True) (bp (f:=λ n m=>ep (fo n) t level m 0) ?_) (λ _=>ac trivial) (λ _ _=>trivial) (id:Nat->Nat);refine pJ (λ n m i=>ep (fo n) t level m i) t.CP.length (λ _=>True) (λ _=>True) (λ i hi _ P h1 h2=>?_) ?_ trivial
  ·simp only [ep];refine aV O (al O (al (aM O O) (aK _ (ih _ (Go.Ab.bK O) (level+1) O O) (λ r _=>ar (λ _=>al (aM O O) (h2 trivial)) (λ _=>ac (h1 _ trivial))))))
  ·simp only [ep];exact aU O (ac rfl)
theorem rK {t:ak}(hb:ak.Bd t):Ev2 (λ n _=>jd n t) (λ _=>True):=by
 simp only [jd];exact aK _ (yz hb 1 (by decide) (by decide)) (λ _ _=>ac trivial)
theorem AL {a:az}(hb:ak.Bd a.CO)(x:Bk)(b:Bool):Ev2 (λ n _=>iH n a x b) (λ _=>True):=by
 simp only [iH];refine aK _ (o8 _) (λ _ _=>ar (λ _=>ac trivial) (λ _=>aK (λ _=>True) (ar (λ _=>ac trivial) (λ _=>ac trivial)) (λ _ _=>ar (λ _=>ac trivial) (λ _=>aK _ (rK hb) (λ _ _=>ar (λ _=>?_) (λ _=>ac trivial))))));refine aK (λ _=>True) (ar (λ _=>ac trivial) (λ _=>ac trivial)) (λ _ _=>ar (λ _=>ac trivial) (λ _=>aK (λ _=>True) (ar (λ _=>ar (λ _=>ac trivial) (λ _=>ac trivial)) (λ _=>ac trivial)) (λ _ _=>ar (λ _=>ac trivial) (λ _=>ac trivial))))
theorem y8 {l:List az}(hl:l.length<=64)(hb:∀ a∈l,ak.Bd a.CO)(c:Bool):Ev2 (λ n _=>gm n l c) (λ _=>True):=by
 simp only [gm];refine li (bp (f:=λ n m=>cx n l c m [] 0) ?_);refine cr (λ n m i (s:Bk)=>cx n l c m s i) l.length (λ _ _=>True) (λ i s hi _ k=>?_) (λ s _=>?_) [] trivial
 ·simp only [cx];refine aV O (al O (aK _ (AL (hb _ (Go.Ab.bK O)) _ _) (λ r _=>ar (λ _=>?_) (λ _=>ac trivial))));refine aK (λ _=>True) (ar (λ _=>al O (ar (λ _=>ac trivial) (λ _=>al O (ac trivial)))) (λ _=>ac trivial)) (λ _ _=>ar (λ _=>ac trivial) (λ _=>al O (al (aM O O) (k _ trivial))))
 ·simp only [cx];exact aU O (ac (ac trivial))
theorem xl {l:List az}(hl:l.length<=64)(x:Bk):Ev2 (λ n _=>gq n l x) (λ _=>True):=by
 simp only [gq];refine li (bp (f:=λ _ m=>cQ l x m 0) ?_);refine cr (λ _ m i (_:Unit)=>cQ l x m i) l.length (λ _ _=>True) (λ i s hi _ k=>?_) (λ s _=>?_) () trivial
 ·simp only [cQ];exact aV O (al O (ar (λ _=>al O (ac trivial)) (λ _=>al (aM O O) (k () trivial))))
 ·simp only [cQ];exact aU O (ac (ac trivial))
theorem CJ {s:am}(hs:m8 s)(hb:BdS s)(i:Nat)(hi:i<s.A'.length):Ev2 (λ n _=>iI n s (i:Int)) (λ _=>True):=by
 have hn:=hs.n;have ha:=hs.a.1;have hm:lat s.A' (i:Int)∈s.A':=Go.Ab.bK O;simp only [iI];refine al O (aK _ (o8 _) (λ _ _=>ar (λ _=>ac trivial) (λ _=>aK (λ _=>True) (ar (λ _=>al (aM O O) (al O (ac trivial))) (λ _=>ac trivial)) (λ _ _=>ar (λ _=>ac trivial) (λ _=>?_)))));refine aK _ (xl O _) (λ _ _=>ar (λ _=>ac trivial) (λ _=>aK (λ _=>True) (ar (λ _=>ac trivial) (λ _=>ar (λ _=>ac trivial) (λ _=>ac trivial))) (λ _ _=>ar (λ _=>ac trivial) (λ _=>ar (λ _=>ac trivial) (λ _=>?_)))));exact aK _ (y8 O (hb.n _ hm) _) (λ _ _=>ac trivial)
theorem qZ {l:List az}(hl:l.length<=64):Ev2 (λ n _=>jr n l) (·=ak.mk 6 (l.map az.CO) (l.map az.By)):=by
 simp only [jr];refine ax (l.map az.CO,l.map az.By) (bp (f:=λ _ m=>dO l m 0 [] []) ?_) (ac rfl);refine cr (λ _ m i (s:List ak×List Bk)=>dO l m i s.1 s.2) l.length (λ i s=>s=((l.take i).map az.CO,(l.take i).map az.By)) (λ i s hi hs k=>?_) (λ s hs=>?_) ([],[]) rfl
 ·subst hs;simp only [dO];refine aV O (al O (al (by simp only [cl,qr,ur]; omega) (al O (al (by simp only [cl,qr,ur]; omega) (al (aM O O) ?_)))));exact k (_,_) (by simp only [di l hi,List.map_append,mv,py])
 ·subst hs;simp only [dO];exact aU O (ac (by simp only [List.take_length]))
theorem B8 {l:List az}(h:uP l)(hb:∀ a∈l,ak.Bd a.CO):ak.Bd (ak.mk 6 (l.map az.CO) (l.map az.By)):=by
 have h1:=h.1;refine .mk (aM (by simp only [ak.AI]; omega) (by simp only [ak.AI]; omega)) (by simp only [ak.CP,cl]; unfold a8; omega) (λ y hy=>?_) (by simp only [ak.CL,cl]; unfold a8; omega) (λ y hy=>?_)
 ·simp only [ak.CP,List.mem_map] at hy;obtain ⟨a,ha,rfl⟩:=hy;exact hb a ha
 ·simp only [ak.CL,List.mem_map] at hy;obtain ⟨a,ha,rfl⟩:=hy;have:=h.2 a ha;unfold a8; omega
theorem yA {s:am}(hs:m8 s)(hb:BdS s):Ev2 (λ n _=>fw n s) (λ r=>ak.Bd r):=by
 have hn:=hs.n;have ha:=hs.a.1;simp only [fw]
 let I:List ak×List Bk->Nat->Prop:=λ t k=>t.1.length=k/\t.2.length=k/\(∀ y∈t.1,ak.Bd y)/\∀ y∈t.2,y.length<=100
 refine aK (λ t=>I t (s.B'.length+s.A'.length)) ?_ (λ t ht=>ac ?_)
 ·have loop:∀ (k i j:Nat) (t:List ak×List Bk),i<=s.B'.length->j<=s.A'.length->i+j+k=s.B'.length+s.A'.length->I t (i+j)->Ev2 (λ n m=>bZ n s m (i:Int) (j:Int) t.1 t.2) (λ t=>I t (s.B'.length+s.A'.length)):=by
   intro k
   induction k with
   | zero=>
    intro i j t hi hj hk hI;refine bD ?_;simp only [bZ];refine ax false (aU O (ac (decide_eq_false O))) (aU (by decide) (ac ?_));rw [show s.B'.length+s.A'.length=i+j by omega]; exact hI
   | succ k ih=>
    intro i j t hi hj hk hI;obtain ⟨t1,t2⟩:=t;obtain ⟨i1,i2,i3,i4⟩:=hI;simp only at i1 i2 i3 i4;refine bD ?_;simp only [bZ];refine ax true (ar (λ _=>ac rfl) (λ _=>ac (decide_eq_true O))) (aV rfl ?_);refine ub ?_;refine aK (λ b=>(b=true->i<s.B'.length)/\(b=false->j<s.A'.length)) (ar (λ h=>ac ⟨λ _=>by omega,λ q=>by cases q⟩) (λ h=>ar (λ h2=>al O (al O (ac ⟨λ _=>by omega,λ _=>by omega⟩))) (λ h2=>ac ⟨λ q=>(by cases q),λ _=>by omega⟩))) (λ b hb2=>ar (λ h=>?_) (λ h=>?_))
    ·have hi':=hb2.1 h;refine al O (al (by simp only [ur]; omega) (al O (al (by simp only [ur]; omega) (al (aM O O) (ac ?_)))));refine rb (P:=λ z=>Ev2 (λ n m=>bZ n s m z (j:Int) _ _) _) (ih (i+1) j (_,_) O hj O ⟨by simp only [bt,ur]; omega,by simp only [bt,ur]; omega,λ y hy=>?_,λ y hy=>?_⟩)
     ·rcases sm.1 hy with hy|hy
      ·exact i3 y hy
      ·rw [List.mem_singleton.1 hy]; exact hb.a _ (Go.Ab.bK O)
     ·rcases sm.1 hy with hy|hy
      ·exact i4 y hy
      ·rw [List.mem_singleton.1 hy]; exact hs.a.2 _ (Go.Ab.bK O)
    ·have hj':=hb2.2 (by simpa using h);have hm:lat s.A' (j:Int)∈s.A':=Go.Ab.bK O;have hk:=hs.m _ hm;have FU:=hk.1.1;refine al O (al (by simp only [ur]; omega) (al O (ax _ (qZ O) (al (by simp only [ur]; omega) (al (aM O O) (ac ?_))))));refine rb (P:=λ z=>Ev2 (λ n m=>bZ n s m (i:Int) z _ _) _) (ih i (j+1) (_,_) hi O O  ⟨by simp only [bt,ur]; omega,by simp only [bt,ur]; omega,λ y hy=>?_,λ y hy=>?_⟩)
     ·rcases sm.1 hy with hy|hy
      ·exact i3 y hy
      ·rw [List.mem_singleton.1 hy];refine .mk (aM (by simp only [ak.AI]; omega) (by simp only [ak.AI]; omega)) (by simp only [ak.CP,ur]; unfold a8; omega) (λ y hy=>?_) (by simp only [ak.CL,d4]; omega) (λ y hy=>by cases hy);rw [List.mem_singleton.1 hy];exact B8 hk.1 (hb.n _ hm)
     ·rcases sm.1 hy with hy|hy
      ·exact i4 y hy
      ·rw [List.mem_singleton.1 hy]; exact hk.2
  exact bp (f:=λ n m=>bZ n s m 0 0 [] []) (loop (s.B'.length+s.A'.length) 0 0 ([],[]) O O O ⟨rfl,rfl,λ y hy=>by (cases hy),λ y hy=>by (cases hy)⟩)
 ·obtain ⟨i1,i2,i3,i4⟩:=ht;refine .mk (aM (by simp only [ak.AI]; omega) (by simp only [ak.AI]; omega)) (by simp only [ak.CP]; unfold a8; omega) i3 (by simp only [ak.CL]; unfold a8; omega) (λ y hy=>?_);have:=i4 y hy;unfold a8; omega
theorem tw {l:List az}(hb:∀ a∈l,ak.Bd a.CO):Ev2 (λ n _=>ja n l) (λ r=>r=true->uP l):=by
 simp only [ja];refine ar (λ _=>ac (λ q=>by cases q)) (λ hl=>?_);refine pg (I:=∀ j:Nat,j<l.length->(lat l (j:Int)).By.length<=100) (Q:=λ e=>e=false) (bp (f:=λ n m=>ea n l m 0) ?_) (λ h=>ac (λ _=>⟨by omega,λ a ha=>?_⟩)) (λ e he q=>by rw [he] at q; cases q) (id:Nat->Nat)
 ·refine pJ (λ n m i=>ea n l m i) l.length (λ i=>∀ j:Nat,j<i->(lat l (j:Int)).By.length<=100) (λ e=>e=false) (λ i hi hI P h1 h2=>?_) ?_ (λ j hj=>by omega)
  ·simp only [ea];refine aV O (aK (λ r=>r=false->(lat l (i:Int)).By.length<=100) (al O (ar (λ _=>ac (λ q=>by cases q)) (λ h=>al O (aK _ (xU (hb _ (Go.Ab.bK O)) 15 (by decide) (by decide)) (λ _ _=>ac (λ _=>by omega)))))) (λ r hr=>ar (λ _=>ac (h1 _ rfl)) (λ h=>al (aM O O) (h2 (λ j hj=>?_)))));rcases Nat.lt_or_ge j i with h3|h3
   ·exact hI j h3
   ·obtain rfl:j=i:=by omega
    exact hr (by simpa using h)
  ·simp only [ea];exact aU O (ac rfl)
 ·obtain ⟨j,hj,rfl⟩:=List.getElem_of_mem ha;rw [<- cZ l j hj];exact h j hj
theorem vv {s:am}{Q:Prop}(hl:s.A'.length<=10000000000000)(hb:BdS s)(hQ:m8 s->Ev2 (λ n _=>iV n s) (λ r=>r=0->Q)):Ev2 (λ n _=>jD n s) (λ r=>r=true->m8 s/\Q):=by
 simp only [jD];refine aK (λ r=>r=false->uP s.B'/\s.A'.length<=10) (aK _ (tw hb.a) (λ r hr=>ar (λ _=>ac (λ q=>by cases q)) (λ h=>ac (λ q=>⟨hr (nf h),by have:=of_decide_eq_false q; omega⟩)))) (λ r hr=>ar (λ _=>ac (λ q=>by cases q)) (λ h=>?_));obtain ⟨ha,hn⟩:=hr (by simpa using h);refine pg (I:=∀ j:Nat,j<s.A'.length->uP (lat s.A' (j:Int)).B'/\(lat s.A' (j:Int)).By.length<=100) (Q:=λ e=>e=false) (bp (f:=λ n m=>dI n s m 0) ?_) (λ h=>?_) (λ e he q=>by rw [he] at q; cases q) (id:Nat->Nat)
 ·refine pJ (λ n m i=>dI n s m i) s.A'.length (λ i=>∀ j:Nat,j<i->uP (lat s.A' (j:Int)).B'/\(lat s.A' (j:Int)).By.length<=100) (λ e=>e=false) (λ i hi hI P h1 h2=>?_) ?_ (λ j hj=>by omega)
  ·simp only [dI];refine aV O (aK (λ r=>r=false->uP (lat s.A' (i:Int)).B'/\(lat s.A' (i:Int)).By.length<=100) (al O (aK _ (tw (hb.n _ (Go.Ab.bK O))) (λ r hr=>ar (λ _=>ac (λ q=>by cases q)) (λ h=>al O (ac (λ q=>⟨hr (nf h),by have:=of_decide_eq_false q; omega⟩)))))) (λ r hr=>ar (λ _=>ac (h1 _ rfl)) (λ h=>al (aM O O) (h2 (λ j hj=>?_)))));rcases Nat.lt_or_ge j i with h3|h3
   ·exact hI j h3
   ·obtain rfl:j=i:=by omega
    exact hr (by simpa using h)
  ·simp only [dI];exact aU O (ac rfl)
 ·have hs:m8 s:=⟨ha,hn,λ x hx=>by obtain ⟨j,hj,rfl⟩:=List.getElem_of_mem hx; rw [<- cZ s.A' j hj]; exact h j hj⟩
  exact aK _ (hQ hs) (λ _ hr=>ac (λ z=>⟨hs,hr (of_decide_eq_true z)⟩))
def VV (v:aa):Prop:=GV v/\aa.Bd v
theorem VV.item {v x:aa}(h:VV v)(hx:x∈v.Ar):VV x:=⟨h.1.its _ hx,h.2.eItems _ hx⟩
theorem VV.kl {v:aa}(h:VV v):v.AT.length<=1000000000000000:=by
 have:=h.2.bKeys;unfold a8 at this; omega
theorem VV.il {v:aa}(h:VV v):v.Ar.length<=1000000000000000:=by
 have:=h.2.bItems;unfold a8 at this; omega
theorem VV.with {v:aa}(h:VV v){l:List aa}(hl:l.length=v.Ar.length)(hx:∀ x∈l,VV x):VV (aa.mk v.AI v.BY v.CK l v.AT):=by
 have n:=h.1.node;refine ⟨.mk ⟨λ a b=>?_,n.kys,λ a=>(n.len a).trans hl.symm,n.inc,n.txt,n.z,n.s,n.z4,n.rg,n.nm⟩ (λ x hm=>(hx x hm).1),.mk h.2.bKind h.2.bNum h.2.bStr (by simp only [aa.Ar,hl]; exact h.2.bItems) (λ x hm=>(hx x hm).2) h.2.bKeys h.2.eKeys⟩;have:=n.its a b;rw [this] at hl;exact List.length_eq_zero_iff.1 hl
theorem w6 {k:Int}{s:Bk}(h5:k≠5)(h4:k≠4)(hr:0<=k/\k<=6)(hk:inR k)(h:s.length<=4096):VV (aa.mk k 0 s [] []):=by
 have z:∀ n:Nat,(0:Nat)*n<=a8:=λ n=>by rw [Nat.zero_mul]; exact Nat.zero_le _
 exact ⟨.mk ⟨λ _ _=>rfl,λ _=>rfl,λ q=>absurd q h5,trivial,λ k hk=>(by cases hk),λ q=>absurd q h5,h,λ q=>absurd q h4,hr,λ _=>⟨show -oo<=(0:Int) by decide,show (0:Int)<=oo by decide⟩⟩ (λ x hx=>by cases hx),.mk hk (aM (show (-9223372036854775808:Int)<=0 by decide) (show (0:Int)<=9223372036854775807 by decide)) (show s.length<=a8 by unfold a8; omega) (z 80) (λ x hx=>by cases hx) (z 16) (λ x hx=>by cases hx)⟩
theorem AB {s:Bk}(h:s.length<=4096):VV (aa.mk 3 0 s [] []):=w6 (by decide) (by decide) (by decide) (aM (by decide) (by decide)) h
theorem xb:VV (aa.mk 0 0 [] [] []):=w6 (by decide) (by decide) (by decide) (aM (by decide) (by decide)) G
theorem vS:∀ (N:Nat) (v:aa),SizeOf.sizeOf v<N->aa.Bd v->Ev2 (λ n _=>cS n v) (·=v):=by
 have hW:a8<=140737488355328:=by decide
 intro N
 induction N with
 | zero=>intro v h; omega
 | succ N ih=>
  intro v hv hb;have h1:=hb.bKeys; have h2:=hb.bItems;refine d8 ?_;simp only [cS];refine al O (ax v.Ar (d8 ?_) (ac (by cases v; rfl)));simp only [kr];refine ar (λ h=>ac (by symm; exact List.length_eq_zero_iff.1 O)) (λ h=>al O (ax v.Ar (bp (f:=λ n m=>dP (cS n) v.Ar m [] 0) ?_) (ac rfl)));refine cr (λ n m i (l:List aa)=>dP (cS n) v.Ar m l i) v.Ar.length (λ i l=>l=v.Ar.take i) (λ i l hi hl k=>?_) (λ l hl=>?_) [] rfl
  ·subst hl;have hm:lat v.Ar (i:Int)∈v.Ar:=Go.Ab.bK O;have hz:=oU hm;simp only [dP];refine aV O (al O (ax _ (ih _ O (hb.eItems _ hm)) (al (by simp only [qr,ur]; omega) (al (aM O O) (k _ ?_)))));rw [di _ hi,aa.eta]
  ·subst hl;simp only [dP];exact aU O (ac (List.take_length))
theorem Ao {v:aa}(h:VV v):Ev2 (λ n _=>cS n v) (·=v):=vS _ v (Nat.lt_succ_self _) h.2
def lN:List Bk->List aa->Bk->Option aa|k::ks,x::xs,q=>if k=q then some x else lN ks xs q|_,_,_=>none
def lK:List Bk->List aa->Bk->aa->List aa|k::ks,x::xs,q,w=>if k=q then w::xs else x::lK ks xs q w|_,xs,_,_=>xs
def cG (v:aa)(q:Bk):Option aa:=if v.AI=5 then lN v.AT v.Ar q else none
def od (v:aa)(q:Bk)(w:aa):aa:=aa.mk v.AI v.BY v.CK (lK v.AT v.Ar q w) v.AT
def u3:aa:=aa.mk 0 0 [] [] []
def isN (o:Option aa):aa×Bool:=match o with|some x=>(x,true)|none=>(u3,false)
def ofP (v:aa)(q:Bk):aa:=(cG v q).getD u3
theorem mH:∀ (ks:List Bk) (xs:List aa) (q:Bk) (w:aa),(lK ks xs q w).length=xs.length
 | [],xs,q,w=>by cases xs <;> rfl
 | _::_,[],q,w=>rfl
 | k::ks,x::xs,q,w=>by
  simp only [lK];split
  ·rfl
  ·simp only [bx,mH ks xs q w]
theorem rt:∀ (ks:List Bk) (xs:List aa) (q:Bk) (w y:aa),y∈lK ks xs q w->y∈xs\/y=w
 | [],xs,q,w,y,h=>by cases xs <;> exact .inl h
 | _::_,[],q,w,y,h=>.inl h
 | k::ks,x::xs,q,w,y,h=>by
  simp only [lK] at h;split at h
  ·rcases wr.1 h with h|h
   ·exact .inr h
   ·exact .inl (List.mem_cons_of_mem _ h)
  ·rcases wr.1 h with h|h
   ·exact .inl (h ▸ List.mem_cons_self)
   ·rcases rt ks xs q w y h with h|h
    ·exact .inl (List.mem_cons_of_mem _ h)
    ·exact .inr h
theorem nB:∀ (ks:List Bk) (xs:List aa) (q:Bk) (y:aa),lN ks xs q=some y->y∈xs
 | [],xs,q,y,h=>by cases xs <;> cases h
 | _::_,[],q,y,h=>by cases h
 | k::ks,x::xs,q,y,h=>by
  simp only [lN] at h;split at h
  ·cases h; exact List.mem_cons_self
  ·exact List.mem_cons_of_mem _ (nB ks xs q y h)
theorem uZ:∀ (ks:List Bk) (xs:List aa) (q p:Bk) (w:aa),lN ks (lK ks xs q w) p=if p=q then (lN ks xs q).map (λ _=>w) else lN ks xs p
 | [],xs,q,p,w=>by cases xs <;> simp [lN]
 | _::_,[],q,p,w=>by simp [lK,lN]
 | k::ks,x::xs,q,p,w=>by
  have ih:=uZ ks xs q p w;by_cases h:k=q
  ·subst h;by_cases h2:p=k
   ·subst h2; simp [lK,lN]
   ·have h3:¬ k=p:=λ e=>h2 e.symm;simp [lK,lN,h2,h3]
  ·by_cases h2:p=q
   ·subst h2;simp only [lK,lN,if_neg h,if_true] at ih ⊢;exact ih
   ·simp only [lK,lN,if_neg h,if_neg h2] at ih ⊢;by_cases h3:k=p
    ·simp only [h3,if_true]
    ·simp only [if_neg h3]; exact ih
theorem get_put (v:aa)(q p:Bk)(w:aa):cG (od v q w) p=if p=q then (cG v q).map (λ _=>w) else cG v p:=by
 have e1:(od v q w).AI=v.AI:=rfl;have e2:(od v q w).AT=v.AT:=rfl;have e3:(od v q w).Ar=lK v.AT v.Ar q w:=rfl;unfold cG;rw [e1,e2,e3];by_cases h:v.AI=5
 ·rw [if_pos h,if_pos h,if_pos h]; exact uZ _ _ _ _ _
 ·rw [if_neg h,if_neg h,if_neg h]; split <;> rfl
theorem oW {v x:aa}{q:Bk}(w:aa)(h:cG v q=some x):cG (od v q w) q=some w:=by rw [get_put,if_pos Z,h]; rfl
theorem rC {v:aa}{q p:Bk}(w:aa)(h:p≠q):cG (od v q w) p=cG v p:=by rw [get_put,if_neg h]
theorem VV.get {v x:aa}{q:Bk}(h:VV v)(hx:cG v q=some x):VV x:=by
 unfold cG at hx;split at hx
 ·exact h.item (nB _ _ _ _ hx)
 ·cases hx
theorem VV.put {v w:aa}(q:Bk)(h:VV v)(hw:VV w):VV (od v q w):=by
 refine h.with (mH _ _ _ _) (λ x hx=>?_)
 rcases rt _ _ _ _ _ hx with hx|rfl
 ·exact h.item hx
 ·exact hw
theorem VV.of {v:aa}(h:VV v)(q:Bk):VV (ofP v q):=by
 unfold ofP
 cases hx:cG v q with
 | some x=>exact h.get hx
 | none=>exact xb
theorem uo:∀ (ks:List Bk) (xs:List aa),ks.Pairwise (λ a b=>Op.bytesLess a b=true)->ks.length=xs.length->∀ (t:Nat) (ht:t<ks.length) (w:aa),lN ks xs ks[t]=xs[t]?/\lK ks xs ks[t] w=xs.set t w
 | [],_,_,_,t,ht,_=>by simp at ht
 | _::_,[],_,h,_,_,_=>by simp at h
 | k::ks,x::xs,hp,hl,0,ht,w=>by simp [lN,lK]
 | k::ks,x::xs,hp,hl,t+1,ht,w=>by
  have hp2:=List.pairwise_cons.1 hp;have ht2:t<ks.length:=by simpa using ht
  have ih:=uo ks xs hp2.2 (by simpa using hl) t ht2 w
  have DZ:¬ k=ks[t]:=λ e=>by
   have:=hp2.1 ks[t] (List.getElem_mem ht2);rw [<- e,pt] at this; cases this
  simp only [List.getElem_cons_succ,lN,lK,if_neg DZ,List.getElem?_cons_succ,List.set_cons_succ,ih.1,ih.2,and_self]
theorem sO:∀ (ks:List Bk) (xs:List aa) (q:Bk),q ∉ ks->lN ks xs q=none
 | [],xs,q,h=>by cases xs <;> rfl
 | _::_,[],q,h=>rfl
 | k::ks,x::xs,q,h=>by
  simp only [lN];rw [if_neg (λ e=>h (by rw [e]; exact List.mem_cons_self))];exact sO ks xs q (λ m=>h (List.mem_cons_of_mem _ m))
theorem Cg {v:aa}(h:VV v)(q:Bk)(h5:v.AI=5):(∃ t:Nat,t<v.AT.length/\t<v.Ar.length/\q=lat v.AT (t:Int)/\cG v q=some (lat v.Ar (t:Int))/\∀ w,lK v.AT v.Ar q w=v.Ar.set t w)\/(q ∉ v.AT/\cG v q=none):=by
 have hl:=h.1.node.len h5;by_cases hq:q∈v.AT
 ·obtain ⟨t,ht,rfl⟩:=List.getElem_of_mem hq;have ha:=λ w=>uo v.AT v.Ar (uh h.1.node.inc) hl t ht w;refine .inl ⟨t,ht,by omega,(cZ _ _ ht).symm,?_,λ w=>(ha w).2⟩;unfold cG;rw [if_pos h5,(ha u3).1,cZ _ _ (show t<v.Ar.length by omega),List.getElem?_eq_getElem]
 ·refine .inr ⟨hq,?_⟩;unfold cG;rw [if_pos h5];exact sO _ _ _ hq
theorem Bm {l:List Bk}(hl:l.length<=1000000000000000){q:Bk}(h:q ∉ l):Ev2 (λ n _=>aT n l q) (λ r=>r.2=false) :=
 ib (qJ l q hl) (λ r hr=>by
  cases e:r.2 with
  | false=>rfl
  | true=>exact absurd ((hr.2.2 e).2 ▸ Go.Ab.bK ⟨hr.1,(hr.2.2 e).1⟩) h)
theorem ul {v:aa}(h:VV v)(q:Bk):Ev2 (λ n _=>gb n v q) (·=isN (cG v q)):=by
 simp only [gb];by_cases h5:v.AI=5
 ·rcases Cg h q h5 with ⟨t,t1,t2,rfl,e,_⟩|⟨hq,e⟩
  ·rw [e];refine ax _ (za h.kl h.1.node.inc t1) (ax false (aV h5 (aU G (ac (decide_eq_false O)))) (aU (by decide) (al O ?_)));exact ax _ (Ao (h.item (Go.Ab.bK O))) (ac (congrArg (λ z=>(z,true)) (aa.eta _)))
  ·rw [e];exact aK _ (Bm h.kl hq) (λ r hr=>ax true (aV h5 (aV (by simp [hr]) (ac rfl))) (aV rfl (ac rfl)))
 ·have e:cG v q=none:=by unfold cG; rw [if_neg h5]
  rw [e];exact aK _ (qJ v.AT q h.kl) (λ r _=>ax true (aU h5 (ac rfl)) (aV rfl (ac rfl)))
theorem xw {v w x:aa}(h:VV v)(hw:VV w){q:Bk}(hx:cG v q=some x):Ev2 (λ n _=>kH n v q w) (·=od v q w):=by
 have h5:v.AI=5:=by
  unfold cG at hx;split at hx
  ·assumption
  ·cases hx
 rcases Cg h q h5 with ⟨t,t1,t2,rfl,e,es⟩|⟨hq,e⟩
 ·simp only [kH];refine ax _ (Ao h) (ax _ (za h.kl h.1.node.inc t1) (ax false (aU (by simp only; omega) (aV rfl (ac (decide_eq_false (by simp only; omega))))) (aU (by decide) (aU G (ax _ (Ao hw) (al (by simp only; omega) (ac ?_)))))));unfold od qm;rw [es,Int.toNat_natCast]
 ·rw [e] at hx; cases hx
theorem zP {v:aa}(h:VV v)(q:Bk):Ev2 (λ n _=>lI n v q) (·=isN (cG v q)):=by
 have hil:=h.il;have hkl:=h.kl;simp only [lI];refine ar (λ h5=>?_) (λ h5=>ac (by unfold cG; rw [if_neg h5]; rfl));have hl:=h.1.node.len h5;rcases Cg h q h5 with ⟨t,t1,t2,e0,e,_⟩|⟨hq,e⟩
 ·rw [e];refine tZ (isN (some (lat v.Ar (t:Int)))) (bp (f:=λ _ m=>dM v q m 0) ?_) rfl;refine cr (λ _ m i (_:Unit)=>dM v q m i) v.AT.length (λ i _=>i<=t) (λ i _ hi hle k=>?_) (λ _ hle=>absurd hle O) () (Nat.zero_le _);simp only [dM];refine ax true (aV O (ac (decide_eq_true O))) (aV rfl (al O ?_));by_cases hit:i=t
  ·subst hit;exact aV e0.symm (al O (ac rfl))
  ·refine aU (λ q2=>?_) (al (aM O O) (k () O));have:=vM h.1.node.inc (show i<t by omega) t1;rw [q2,<- e0,pt] at this; cases this
 ·rw [e];refine rn () (bp (f:=λ _ m=>dM v q m 0) ?_) (ac rfl);refine cr (λ _ m i (_:Unit)=>dM v q m i) v.AT.length (λ i _=>True) (λ i _ hi _ k=>?_) (λ _ _=>?_) () trivial
  ·simp only [dM];exact ax true (aV O (ac (decide_eq_true O))) (aV rfl (al O (aU (λ q2=>hq (q2 ▸ Go.Ab.bK O)) (al (aM O O) (k () trivial)))))
  ·simp only [dM];exact ax false (aU O (ac rfl)) (aU (by decide) (ac rfl))
theorem AJ {v:aa}(h:VV v)(q:Bk):Ev2 (λ n _=>gY n v q) (·=ofP v q):=by
 simp only [gY];refine ar (λ h5=>ax _ (zP h q) ?_) (λ h5=>ac (by unfold ofP cG; rw [if_neg h5]; rfl));unfold ofP
 cases cG v q with
 | some x=>exact aU (by simp [isN]) (ac Z)
 | none=>exact aV (by simp [isN]) (ac Z)
mutual
def md:aa->Bool|.mk k _ _ l _=>!decide (k=6)&&jt l
def jt:List aa->Bool|[]=>true|x::r=>md x&&jt r
end
theorem tj (v:aa):md v=(!decide (v.AI=6)&&jt v.Ar):=by cases v; simp only [md,aa.AI,aa.Ar]; rfl
theorem pP {l:List aa}{i:Nat}(h:i<l.length):jt (l.drop i)=(md (lat l (i:Int))&&jt (l.drop (i+1))):=by
 rw [dX l h]; simp only [jt]
theorem vi {v:aa}(hb:aa.Bd v):Ev2 (λ n _=>gn n v) (·=md v):=by
 induction hb with
 | @mk v bKind bNum bStr bItems eItems bKeys eKeys ih=>
  have hl:=bItems;unfold a8 at hl;refine d8 ?_;simp only [gn];rw [tj];refine ax (!decide (v.AI=6)&&jt v.Ar) (ar (λ h=>ac (by simp [h])) (λ h=>?_)) (ac Z);refine ax (!jt v.Ar) ?_ (ac (by simp [h]));unfold cj cv;refine aK (λ r=>decide (0<=r)=!jt v.Ar) ?_ (λ r hr=>ac hr);refine li (bp (f:=λ n m=>aX v.Ar (λ x0=>fY n x0) m 0) ?_);refine cr (λ n m i (_:Unit)=>aX v.Ar (λ x0=>fY n x0) m i) v.Ar.length (λ i _=>jt v.Ar=jt (v.Ar.drop i)) (λ i _ hi hI k=>?_) (λ _ hI=>?_) () G
  ·simp only [aX];have hm:lat v.Ar (i:Int)∈v.Ar:=Go.Ab.bK O;refine aV O (al O (ax (!md (lat v.Ar (i:Int))) (d8 ?_) ?_))
   ·simp only [fY];exact ax _ (ih _ hm) (ac rfl)
   ·rw [pP hi] at hI;refine ar (λ h=>ac ?_) (λ h=>al (aM O O) (k () ?_))
    ·simp only;rw [hI,nt h,Bool.false_and];simp
    ·rw [hI,nf h,Bool.true_and]
  ·simp only [aX];refine aU O (ac (ac ?_));rw [hI,List.drop_length]
   rfl
theorem tl {v:aa}(hb:aa.Bd v):Ev2 (λ n _=>eY n v) (·=md v):=by
 induction hb with
 | @mk v bKind bNum bStr bItems eItems bKeys eKeys ih=>
  have hl:=bItems;unfold a8 at hl;refine d8 ?_;simp only [eY];rw [tj];refine ar (λ h=>ac (by simp [h])) (λ h=>?_);refine li (bp (f:=λ n m=>ec (eY n) v m 0) ?_);refine cr (λ n m i (_:Unit)=>ec (eY n) v m i) v.Ar.length (λ i _=>jt v.Ar=jt (v.Ar.drop i)) (λ i _ hi hI k=>?_) (λ _ hI=>?_) () G
  ·simp only [ec];have hm:lat v.Ar (i:Int)∈v.Ar:=Go.Ab.bK O;rw [pP hi] at hI;refine aV O (al O (ax _ (ih _ hm) ?_));refine ar (λ h2=>ac ?_) (λ h2=>al (aM O O) (k () ?_))
   ·simp only;rw [hI,nt h2,Bool.false_and,Bool.and_false]
   ·rw [hI,nf h2,Bool.true_and]
  ·simp only [ec];refine aU O (ac (ac ?_));rw [hI,List.drop_length];simp [h,jt]
def j6 (a b:aa):Bool:=!eqV a b||!md a||!md b
theorem yq {a b:aa}(ha:aa.Bd a)(hb:aa.Bd b):Ev2 (λ n _=>iA n a b) (·=j6 a b):=by
 simp only [iA];refine ax (j6 a b) ?_ (ac rfl);unfold j6;refine ax _ (wq ha b) (ar (λ h=>ac (by simp [nt h])) (λ h=>?_));refine ax _ (vi ha) (ar (λ h2=>ac (by simp [nt h2])) (λ h2=>?_));exact ax _ (vi hb) (ac (by simp [nf h,nf h2]))
theorem vQ {a b:aa}(ha:aa.Bd a)(hb:aa.Bd b):Ev2 (λ n _=>jv n a b) (·=j6 a b):=by
 simp only [jv];refine ax (j6 a b) ?_ (ac rfl);unfold j6;refine ax _ (uX ha b) (ar (λ h=>ac (by simp [nt h])) (λ h=>?_));refine ax _ (tl ha) (ar (λ h2=>ac (by simp [nt h2])) (λ h2=>?_));exact ax _ (tl hb) (ac (by simp [nf h,nf h2]))
def cW (names:List Bk)(a b:aa):List Bk:=names.filter λ q=>j6 (ofP a q) (ofP b q)
def ye:aa:=aa.mk 3 0 [40,115,101,110,115,105,116,105,118,101,41] [] []
def seen (o:Option aa):Bool:=match o with|some x=>!decide (x.AI=0)|none=>false
def ju (v:aa)(a:az):aa:=if a.C0=true/\seen (cG v a.By)=true then od v a.By ye else v
def jh (v:aa)(l:List az):aa:=l.foldl ju v
theorem zv:VV ye:=AB (by decide)
theorem pC {o:Option aa}(h:seen o=true):∃ x,o=some x/\x.AI≠0:=by
 cases o with
 | none=>cases h
 | some x=>exact ⟨x,Z,by simpa [seen] using h⟩
theorem VV.stepA {v:aa}(h:VV v)(a:az):VV (ju v a):=by
 unfold R06.ju;split
 ·exact h.put _ zv
 ·exact h
theorem VV.hid {v:aa}(h:VV v):∀ l,VV (jh v l):=by
 intro l
 induction l generalizing v with
 | nil=>exact h
 | cons a l ih=>exact ih (h.stepA a)
theorem s7 {v:aa}(h:VV v){l:List az}(hl:l.length<=1000):Ev2 (λ n _=>gJ n v l) (·=jh v l):=by
 simp only [gJ];refine ax ((jh v l).AI,(jh v l).BY,(jh v l).CK,(jh v l).Ar,(jh v l).AT) (bp (f:=λ n m=>dx n l m 0 v.AI v.BY v.CK v.Ar v.AT) ?_) (ac (aa.eta _));refine cr (λ n m i (s:aa)=>dx n l m i s.AI s.BY s.CK s.Ar s.AT) l.length (λ i s=>s=jh v (l.take i)) (λ i s hi hs k=>?_) (λ s hs=>?_) v rfl
 ·subst hs;have hv:=h.hid (l.take i);simp only [dx];rw [aa.eta]
  have e1:jh v (l.take (i+1))=ju (jh v (l.take i)) (lat l (i:Int)):=by
   rw [di l hi]; unfold jh; rw [List.foldl_append]; rfl
  refine aV O (ax ((jh v (l.take (i+1))).AI,(jh v (l.take (i+1))).BY,(jh v (l.take (i+1))).CK,(jh v (l.take (i+1))).Ar,(jh v (l.take (i+1))).AT) (al O ?_) (al (aM O O) (k (jh v (l.take (i+1))) Z)));generalize jh v (l.take i)=u at hv e1;rw [e1];refine ax _ (ul hv _) (ax (decide ((lat l (i:Int)).C0=true/\seen (cG u (lat l (i:Int)).By)=true)) ?_ (ar (λ h2=>?_) (λ h2=>ac ?_)))
  ·cases e:cG u (lat l (i:Int)).By with
   | none=>exact aU (by simp [isN]) (ac (by simp [seen]))
   | some x=>
    refine aV Z (ar (λ h3=>ac ?_) (λ h3=>ac (by simp [h3])));rw [show decide ((lat l (i:Int)).C0=true/\seen (some x)=true)=seen (some x) from by simp [h3]]
    rfl
  ·have h2:=of_decide_eq_true h2;obtain ⟨x,hx,_⟩:=pC h2.2;refine ax ye (ac rfl) (ax _ (xw hv zv hx) (ac ?_));unfold ju;rw [if_pos h2]
  ·have h2:¬ ((lat l (i:Int)).C0=true/\seen (cG u (lat l (i:Int)).By)=true):=λ q=>h2 (decide_eq_true q);unfold ju;rw [if_neg h2]
 ·subst hs;simp only [dx];exact aU O (ac (by rw [List.take_length]))
def jI (l:List az)(x:aa):aa:=if x.AI=5 then jh x l else x
def o0 (v:aa)(l:List aa):aa:=aa.mk v.AI v.BY v.CK l v.AT
def eH (v:aa)(n:aD):aa:=match cG v n.By with
 | some l=>if l.AI=4 then od v n.By (o0 l (l.Ar.map (jI n.B'))) else v
 | none=>v
def eJ (s:am)(v:aa):aa:=if v.AI=5 then s.A'.foldl eH (jh v s.B') else v
theorem VV.hidX {x:aa}(h:VV x)(l:List az):VV (jI l x):=by
 unfold R06.jI;split
 ·exact h.hid l
 ·exact h
theorem VV.withI {v:aa}(h:VV v)(l:List az):VV (o0 v (v.Ar.map (R06.jI l))):=by
 refine h.with (cl _) (λ x hx=>?_)
 obtain ⟨y,hy,rfl⟩:=List.mem_map.1 hx;exact (h.item hy).hidX l
theorem VV.stepN {v:aa}(h:VV v)(n:aD):VV (eH v n):=by
 unfold R06.eH;split
 ·rename_i l hl;split
  ·exact h.put _ ((h.get hl).withI _)
  ·exact h
 ·exact h
theorem VV.foldN {v:aa}(h:VV v):∀ l:List aD,VV (l.foldl R06.eH v):=by
 intro l
 induction l generalizing v with
 | nil=>exact h
 | cons a l ih=>exact ih (h.stepN a)
theorem VV.mask {v:aa}(h:VV v)(s:am):VV (eJ s v):=by
 unfold eJ;split
 ·exact (h.hid _).foldN _
 ·exact h
theorem vo {l:List aa}(f:aa->aa){i:Nat}(hi:i<l.length):((l.take i).map f++l.drop i).set i (f (lat l (i:Int)))=(l.take (i+1)).map f++l.drop (i+1):=by
 have DD:((l.take i).map f).length=i:=by rw [cl,qr]; omega
 rw [di l hi,dX l hi,List.set_append,if_neg O,DD,Nat.sub_self,List.set_cons_zero,List.map_append,List.append_assoc]
 rfl
theorem wS {l:List aa}(f:aa->aa){i:Nat}(hi:i<l.length):lat ((l.take i).map f++l.drop i) (i:Int)=lat l (i:Int):=by
 have DD:((l.take i).map f).length=i:=by rw [cl,qr]; omega
 rw [cZ _ _ (by rw [bt,DD,List.length_drop]; omega),List.getElem_append_right O];simp only [DD,Nat.sub_self,List.getElem_drop,Nat.add_zero];exact (cZ _ _ hi).symm
theorem Cv {v:aa}(h:VV v):Ev2 (λ n _=>cq n v) (·=v):=qY _ v (Nat.lt_succ_self _) h.2
theorem AM {s:am}(hs:m8 s){v:aa}(h:VV v):Ev2 (λ n _=>fR n s v) (·=eJ s v):=by
 have hn:=hs.n;have ha:=hs.a.1;simp only [fR];unfold eJ;refine ax _ (Cv h) (ar (λ h5=>?_) (λ h5=>ac (by rw [if_neg h5])));rw [if_pos h5];refine ax _ (s7 h O) ?_;have hv:=h.hid s.B';generalize jh v s.B'=u at hv
 have key:∀ R,R=s.A'.foldl eH u->Ev2 (λ n m=>dF n s m 0 u.AI u.BY u.CK u.Ar u.AT) (·=(R.AI,R.BY,R.CK,R.Ar,R.AT)):=by
  rintro R rfl;refine cr (λ n m i (t:aa)=>dF n s m i t.AI t.BY t.CK t.Ar t.AT) s.A'.length (λ i t=>t=(s.A'.take i).foldl eH u) (λ i t hi ht k=>?_) (λ t ht=>?_) u rfl
  ·subst ht;have hw:=hv.foldN (s.A'.take i);have hm:lat s.A' (i:Int)∈s.A':=Go.Ab.bK O;have hna:=(hs.m _ hm).1.1;simp only [dF];rw [aa.eta]
   have e1:(s.A'.take (i+1)).foldl eH u=eH ((s.A'.take i).foldl eH u) (lat s.A' (i:Int)):=by
    rw [di _ hi,List.foldl_append]; rfl
   refine aV O (ax (((s.A'.take (i+1)).foldl eH u).AI,((s.A'.take (i+1)).foldl eH u).BY,((s.A'.take (i+1)).foldl eH u).CK,((s.A'.take (i+1)).foldl eH u).Ar,((s.A'.take (i+1)).foldl eH u).AT) (al O ?_) (al (aM O O) (k _ Z)));generalize (s.A'.take i).foldl eH u=t at hw e1;rw [e1];refine ax _ (ul hw _) ?_;unfold eH
   cases e:cG t (lat s.A' (i:Int)).By with
   | none=>exact ax true (aV (by simp [isN]) (ac Z)) (aV Z (ac Z))
   | some l=>
    have hl:=hw.get e;have hil:=hl.2.bItems;unfold a8 at hil;refine ax (!decide (l.AI=4)) (aU (by simp [isN]) (ac Z)) (ar (λ h4=>ac ?_) (λ h4=>?_))
    ·have h4:¬ l.AI=4:=by simpa using h4
     simp only [if_neg h4]
    ·have h4:l.AI=4:=by simpa using h4
     simp only [if_pos h4];refine ax (l.Ar.map (jI (lat s.A' (i:Int)).B')) (bp (f:=λ n m=>d9 n s (i:Int) (isN (some l)) m l.Ar 0) ?_) ?_
     ·refine cr (λ n m j (x:List aa)=>d9 n s (i:Int) (isN (some l)) m x j) l.Ar.length (λ j x=>x=(l.Ar.take j).map (jI (lat s.A' (i:Int)).B')++l.Ar.drop j) (λ j x hj hx k2=>?_) (λ x hx=>?_) l.Ar Z
      ·subst hx
       have DD:((l.Ar.take j).map (jI (lat s.A' (i:Int)).B')++l.Ar.drop j).length=l.Ar.length:=by
        rw [bt,cl,qr,List.length_drop]; omega
       simp only [d9];have hy:VV (lat l.Ar (j:Int)):=hl.item (Go.Ab.bK O);refine aV (by simp only [isN]; omega) (ax ((l.Ar.take (j+1)).map (jI (lat s.A' (i:Int)).B')++l.Ar.drop (j+1)) (al O ?_) (al (aM O O) (k2 _ rfl)));rw [wS _ hj,<- vo _ hj];refine ar (λ h6=>ax _ (s7 hy O) (al O (ac ?_))) (λ h6=>ac ?_)
       ·unfold qm jI;rw [if_pos h6,Int.toNat_natCast]
       ·have:jI (lat s.A' (i:Int)).B' (lat l.Ar (j:Int))=lat l.Ar (j:Int):=by unfold jI; rw [if_neg h6]
        rw [this];have h7:=wS (jI (lat s.A' (i:Int)).B') hj;rw [cZ _ _ O] at h7;rw [<- h7];exact (qQ _ _ O).symm
      ·subst hx;simp only [d9];exact aU (by simp only [isN]; omega) (ac (by rw [List.take_length,List.drop_length,List.append_nil]))
     ·exact ax _ (xw hw (hl.withI _) e) (ac Z)
  ·subst ht;simp only [dF];exact aU O (ac (by rw [List.take_length]))
 exact ax _ (bp (f:=λ n m=>dF n s m 0 u.AI u.BY u.CK u.Ar u.AT) (key _ Z)) (ac (aa.eta _))
theorem pW:∀ (ks:List Bk) (xs:List aa) (q:Bk) (w x:aa),lN ks xs q=some x->bW w<=bW x->bR (lK ks xs q w)<=bR xs
 | [],xs,_,_,_,h,_=>by cases xs <;> cases h
 | _::_,[],_,_,_,h,_=>by cases h
 | k::ks,y::xs,q,w,x,h,hw=>by
  simp only [lN] at h;simp only [lK];split
  ·rename_i e;rw [if_pos e] at h
   cases h
   simp only [bR]; omega
  ·rename_i e;rw [if_neg e] at h;have:=pW ks xs q w x h hw;simp only [bR]; omega
theorem sY {v w x:aa}{q:Bk}(h:cG v q=some x)(hw:bW w<=bW x):bW (od v q w)<=bW v:=by
 unfold cG at h;split at h
 ·have:=pW _ _ _ _ _ h hw;rw [fL,fL v];unfold od;simp only [aa.Ar] at this ⊢;omega
 ·cases h
theorem xB (v:aa):1<=bW v:=by rw [fL]; omega
theorem uM (v:aa)(a:az):bW (ju v a)<=bW v:=by
 unfold ju;split
 ·rename_i h;obtain ⟨x,hx,_⟩:=pC h.2;exact sY hx (xB x)
 ·exact n7 _
theorem pB:∀ (l:List az) (v:aa),bW (jh v l)<=bW v
 | [],_v=>n7 _
 | a::l,v=>Nat.le_trans (pB l (ju v a)) (uM v a)
theorem qc (f:aa->aa)(h:∀ x,bW (f x)<=bW x):∀ l:List aa,bR (l.map f)<=bR l
 | []=>n7 _
 | x::l=>by
  have h1:=h x;have:=qc f h l;simp only [mv,bR]; omega
theorem uN (v:aa)(n:aD):bW (eH v n)<=bW v:=by
 unfold eH;split
 ·rename_i l hl;split
  ·refine sY hl ?_;have:=qc (jI n.B') (λ x=>by unfold jI; split; exact pB _ _; exact n7 _) l.Ar;rw [fL,fL l];unfold o0;simp only [aa.Ar] at this ⊢;omega
  ·exact n7 _
 ·exact n7 _
theorem qd:∀ (l:List aD) (v:aa),bW (l.foldl eH v)<=bW v
 | [],_v=>n7 _
 | a::l,v=>Nat.le_trans (qd l (eH v a)) (uN v a)
theorem wa (s:am)(v:aa):bW (eJ s v)<=bW v:=by
 unfold eJ;split
 ·exact Nat.le_trans (qd _ _) (pB _ _)
 ·exact n7 _
theorem xA {v x:aa}{q:Bk}(h:cG v q=some x):bW x<=bW v:=by
 unfold cG at h;split at h
 ·have:=lY (nB _ _ _ _ h);rw [fL v]; omega
 ·cases h
def kR (v:aa):Bk :=if v.AI=1 then (if v.BY=1 then [116,114,117,101] else [102,97,108,115,101]) else if v.AI=2 then itoa v.BY else if v.AI=3 then nw v.CK else if v.AI=4 then [91,93] else if v.AI=5 then [123,125] else if v.AI=6 then [40,117,110,107,110,111,119,110,41] else [110,117,108,108]
def lu (k:Int)(ks:List Bk)(i:Nat):Bk:=if k=5/\i<ks.length then nw (lat ks (i:Int))++[58,32] else []
mutual
def l9:aa->Bk|.mk k n s l ks=>if l.isEmpty=true then kR (.mk k n s l ks) else (if k=5 then [123] else [91])++iO k ks 0 l++(if k=5 then [125] else [93])
def iO (k:Int)(ks:List Bk):Nat->List aa->Bk|_,[]=>[]|i,x::r=>(if 0<i then [44,32] else [])++lu k ks i++l9 x++iO k ks (i+1) r
end
theorem oY (v:aa):l9 v=if v.Ar.isEmpty=true then kR v else (if v.AI=5 then [123] else [91])++iO v.AI v.AT 0 v.Ar++(if v.AI=5 then [125] else [93]):=by cases v; simp only [l9,aa.Ar,aa.AI,aa.AT]; rfl
theorem mc (s:Bk):(nw s).length<=6*s.length+2:=by
 have:=rA s;unfold nw;simp only [bx,bt,d4]; omega
theorem wz {n:Int}(h:inR n):(itoa n).length<=21:=by
 have h1:=h.1;have h2:=h.2;unfold itoa;split
 ·have:=qM 19 n.natAbs O;simp only [bx]; omega
 ·have:=qM 19 n.toNat O;omega
theorem sW {v:aa}(h:VV v):(kR v).length<=24600:=by
 have h1:=h.1.node.s;have h2:=wz h.2.bNum;have h3:=mc v.CK;unfold kR
 repeat' (first|(simp only [bx,d4]; omega)|omega|split)
theorem lM {v:aa}(h:VV v)(i:Nat):(lu v.AI v.AT i).length<=24600:=by
 unfold lu;split
 ·rename_i hi;have h1:=(h.1.node.txt _ (Go.Ab.bK (l:=v.AT) (i:=(i:Int)) O)).1;have h3:=mc (lat v.AT (i:Int));simp only [bt,bx,d4]; omega
 ·simp
theorem AK:∀ (N:Nat) (v:aa),SizeOf.sizeOf v<N->VV v->(l9 v).length+25000<=50000*bW v:=by
 intro N
 induction N with
 | zero=>intro v h; omega
 | succ N ih=>
  intro v hN h;rw [oY,fL];have hs:=sW h
  have key:∀ (l:List aa) (i:Nat),(∀ x∈l,x∈v.Ar)->(iO v.AI v.AT i l).length<=50000*bR l:=by
   intro l
   induction l with
   | nil=>intro i _; simp [iO]
   | cons x r ihr=>
    intro i hm;have a1:=ih x (by have:=oU (hm x List.mem_cons_self); omega) (h.item (hm x List.mem_cons_self));have a2:=ihr (i+1) (λ y hy=>hm y (List.mem_cons_of_mem _ hy));have a3:=lM h i;have a4:(if 0<i then ([44,32]:Bk) else []).length<=2:=by split <;> simp
    simp only [iO,bR,bt];omega
  split
  ·omega
  ·have a:=key v.Ar 0 (λ _ hx=>hx);have b1:(if v.AI=5 then ([123]:Bk) else [91]).length=1:=by split <;> rfl
   have b2:(if v.AI=5 then ([125]:Bk) else [93]).length=1:=by split <;> rfl
   simp only [bt];omega
theorem fM {v:aa}(h:VV v):(l9 v).length+25000<=50000*bW v:=AK _ v (Nat.lt_succ_self _) h
theorem x8 {v:aa}(h:VV v):Ev2 (λ n _=>gh n v) (·=kR v):=by
 have h1:=h.1.node.s;simp only [gh];unfold kR;refine ar (λ a=>?_) (λ a=>?_)
 ·rw [if_pos a];exact ar (λ b=>ac (by rw [if_pos b])) (λ b=>ac (by rw [if_neg b]))
 ·rw [if_neg a];refine ar (λ b=>?_) (λ b=>?_)
  ·rw [if_pos b];refine ax (itoa v.BY) ?_ (ac rfl);simp only [jW];unfold strconv_Itoa;exact ax (itoa v.BY) (al h.2.bNum (ac rfl)) (ac rfl)
  ·rw [if_neg b];refine ar (λ c=>?_) (λ c=>?_)
   ·rw [if_pos c];exact ax _ (uA _ O) (ac rfl)
   ·rw [if_neg c];refine ar (λ d=>ac (by rw [if_pos d])) (λ d=>?_);rw [if_neg d];refine ar (λ e=>ac (by rw [if_pos e])) (λ e=>?_);rw [if_neg e];exact ar (λ f=>ac (by rw [if_pos f])) (λ f=>ac (by rw [if_neg f]))
theorem zm {v:aa}(h:VV v)(i:Nat):Ev2 (λ n _=>gv n v (i:Int)) (·=lu v.AI v.AT i):=by
 simp only [gv];unfold lu;refine ax (decide (v.AI=5/\i<v.AT.length)) (ar (λ a=>ac (by simp [a])) (λ a=>ac (by simp [a]))) (ar (λ a=>?_) (λ a=>?_))
 ·have a:=of_decide_eq_true a;have h1:=(h.1.node.txt _ (Go.Ab.bK (l:=v.AT) (i:=(i:Int)) O)).1;have h3:=mc (lat v.AT (i:Int));rw [if_pos a];exact al O (ax _ (uA _ O) (al (by simp only [bx,d4]; omega) (ac Z)))
 ·rw [if_neg (λ q=>a (decide_eq_true q))];exact ac rfl
theorem xI:∀ (N:Nat) (v:aa),SizeOf.sizeOf v<N->VV v->∀ b:Bk,b.length+50000*bW v<=10000000000->Ev2 (λ n _=>dp n (aH.mk b) v) (·=aH.mk (b++l9 v)):=by
 intro N
 induction N with
 | zero=>intro v h; omega
 | succ N ih=>
  intro v hN h b hb;have hs:=sW h;have hil:=h.il;have hfl:=fM h;rw [fL] at hb;refine d8 ?_;simp only [dp];rw [oY];refine ar (λ a=>?_) (λ a=>?_)
  ·have a:v.Ar=[]:=List.length_eq_zero_iff.1 O;rw [if_pos (by rw [a]; rfl)];refine ax _ (x8 h) ?_;rw [tU b (kR v) O];exact ac Z
  ·have a':¬ v.Ar.isEmpty=true:=by
    intro q;have:v.Ar=[]:=by simpa using q
    rw [this] at a; exact a rfl
   rw [if_neg a'];refine ax ((if v.AI=5 then ([123]:Bk) else [91]),(if v.AI=5 then ([125]:Bk) else [93])) (by unfold iB; exact ar (λ c=>ac (by simp [c])) (λ c=>ac (by simp [c]))) ?_;have b1:(if v.AI=5 then ([123]:Bk) else [91]).length=1:=by split <;> rfl
   have b2:(if v.AI=5 then ([125]:Bk) else [93]).length=1:=by split <;> rfl
   generalize (if v.AI=5 then ([123]:Bk) else [91])=o at b1;generalize (if v.AI=5 then ([125]:Bk) else [93])=e at b2;simp only;rw [tU b o O];refine ax _ (ac Z) ?_;refine ax (b++o++iO v.AI v.AT 0 v.Ar) (bp (f:=λ n m=>cH n (dp n) v m 0 (b++o)) ?_) ?_
   ·have nE:∀ (l:List aa) (i:Nat) (x:aa),iO v.AI v.AT i (l++[x])=iO v.AI v.AT i l++((if 0<i+l.length then [44,32] else [])++lu v.AI v.AT (i+l.length)++l9 x):=by
     intro l
     induction l with
     | nil=>intro i x; simp only [List.nil_append,iO,List.append_nil,d4,Nat.add_zero]
     | cons y r ihr=>
      intro i x;simp only [List.cons_append,iO,ihr,bx,List.append_assoc];rw [show i+1+r.length=i+(r.length+1) by omega]
    have mz:∀ (l:List aa) (i:Nat),(∀ x∈l,x∈v.Ar)->(iO v.AI v.AT i l).length<=50000*bR l:=by
     intro l
     induction l with
     | nil=>intro i _; simp [iO]
     | cons x r ihr=>
      intro i hm;have a1:=fM (h.item (hm x List.mem_cons_self));have a2:=ihr (i+1) (λ y hy=>hm y (List.mem_cons_of_mem _ hy));have a3:=lM h i;have a4:(if 0<i then ([44,32]:Bk) else []).length<=2:=by split <;> simp
      simp only [iO,bR,bt];omega
    have nodes_app:∀ l r:List aa,bR (l++r)=bR l+bR r:=by
     intro l r
     induction l with
     | nil=>simp [bR]
     | cons x l ihl=>simp only [List.cons_append,bR,ihl]; omega
    refine cr (λ n m i (f:Bk)=>cH n (dp n) v m i f) v.Ar.length (λ i f=>f=b++o++iO v.AI v.AT 0 (v.Ar.take i)) (λ i f hi hf k=>?_) (λ f hf=>?_) (b++o) (by simp [iO])
    ·subst hf;have hm:lat v.Ar (i:Int)∈v.Ar:=Go.Ab.bK O;have hx:=h.item hm;have c1:=mz (v.Ar.take i) 0 (λ x hx=>List.mem_of_mem_take hx);have c2:=fM hx;have c3:=lM h i
     have c4:bR (v.Ar.take i)+bW (lat v.Ar (i:Int))+bR (v.Ar.drop (i+1))=bR v.Ar:=by
      have:=nodes_app (v.Ar.take i) (v.Ar.drop i);rw [List.take_append_drop,dX _ hi] at this;simp only [bR] at this; omega
     have c5:((if 0<i then ([44,32]:Bk) else []).length)<=2:=by split <;> simp
     have hsn:=nE (v.Ar.take i) 0 (lat v.Ar (i:Int));rw [<- di _ hi,qr,show min i v.Ar.length=i by omega,th] at hsn;have c6:(b++o).length=b.length+1:=by rw [bt]; omega
     simp only [cH];generalize hq:(if 0<i then ([44,32]:Bk) else [])=sp at c5 hsn;have hg:((b++o)++iO v.AI v.AT 0 (v.Ar.take i)).length=b.length+1+(iO v.AI v.AT 0 (v.Ar.take i)).length:=by rw [bt,c6]
     generalize hg0:(b++o)++iO v.AI v.AT 0 (v.Ar.take i)=g at hg;refine aV O (al O (ax (g++sp) ?_ ?_))
     ·refine ar (λ q=>?_) (λ q=>ac ?_)
      ·rw [if_pos O] at hq;subst hq;rw [tU g [44,32] (by simp only [bx,d4]; omega)];exact ac rfl
      ·rw [if_neg O] at hq;subst hq;simp
     ·refine ax _ (zm h i) ?_;rw [tU (g++sp) _ (by rw [bt]; omega)];refine ax _ (ac Z) ?_;refine ax _ (ih _ (by have:=oU hm; omega) hx (g++sp++lu v.AI v.AT i) (by simp only [bt]; omega)) (al (aM O O) (k _ ?_));rw [hsn,<- hg0];simp only [List.append_assoc]
    ·subst hf;simp only [cH];exact aU O (ac (by rw [List.take_length]))
   ·have hfl2:(iO v.AI v.AT 0 v.Ar).length<=50000*bW v:=by
     rw [oY,if_neg a'] at hfl;simp only [bt] at hfl;omega
    rw [fL] at hfl2;rw [tU _ e (by simp only [bt]; omega)];exact ac (by simp only [List.append_assoc])
theorem rj {v:aa}(h:VV v)(hn:bW v<=100000):Ev2 (λ n _=>eG n v) (·=l9 v):=by
 have hf:=fM h;simp only [eG];refine ax _ (xI _ v (Nat.lt_succ_self _) h [] (by simp only [d4]; omega)) ?_;exact ax (l9 v,aH.mk (l9 v)) (cu (bstr (l9 v) O) Z) (ac Z)
end Go.Ab.R06
end
