/- Texts of the proof, one behind the other. No statement is proved here. -/
import Derived.Test.YtapfhipodpbflaaGreatDoorZ46Na
import Derived.Test.YtapfhipodpbflaaGreatDoorZ46Nb
import Derived.Test.YtapfhipodpbflaaGreatDoorZ46Nc
import Derived.Test.YtapfhipodpbflaaGreatDoorZ46Nd
import Derived.Test.YtapfhipodpbflaaGreatDoorZ46Ne
set_option maxHeartbeats 4000000
section
namespace Go.Ab.R06
open Go.Proofs Go.Ab Go.Ab.RB
attribute [local irreducible] awp jc bG aB cq AV.sub M dO
def d5 (F7:aa->Int->Int->Option Int)(E8:aa)(levels_2:Int):Nat->Int->Int->Option Int|0,_,_=>none|m+1,n15,i16=>(if i16<(E8.AI.length:Int) then some (decide (0<=n15))else some false : Option Bool).bind λ Gp=>if Gp=true then ck ((0:Int)<=i16/\i16<(E8.AI.length:Int))<|ck (inR (levels_2-1))<|(F7 (lat E8.AI i16) n15 (levels_2-1)).bind λ Hc=>ck (inR (i16+1))<|d5 F7 E8 levels_2 m Hc (i16+1)else some n15
def fH:Nat->aa->Int->Int->Option Int|0,_,_,_=>none|n+1,E8,nodes_1,levels_2=>(if nodes_1<1 then some true else some (decide (levels_2<1)) : Option Bool).bind λ t2=>if t2=true then some (-1)else ck (inR (nodes_1-1))<|(d5 (fH n) E8 levels_2 n (nodes_1-1) 0).bind λ n27=>some n27
theorem sS (n:Nat):∀ (E8:aa) (nodes_1:Int) (levels_2:Int) (r:Int),fH n E8 nodes_1 levels_2=some r->aB Tryz.prog 69 [.agg (aa.cs E8),eI nodes_1,eI levels_2] (·=.p (eI r)):=by
 induction n with
 | zero=>intro E8 nodes_1 levels_2 r h0; cases h0
 | succ n ih=>
 have Gi:=ih;intro E8 nodes_1 levels_2 r h0;rw [fH] at h0;refine aZ good Tryz.func69 Z Z Z λ w0=>mP (λ v:Int=>.p (eI v)) ?_;refine nx 7 Z (bd h0 λ KZ h1 h0=>?_);refine kN KZ (λ Ky=>⟨[(1,.p (eI nodes_1)),(2,.p (eI levels_2)),(3,.ptr 3 0),(14,.p (eB Ky))],[(3,(aa.cs E8).map .p)]⟩) ?_ ?_
 ·refine nx 1 Z (fB [14] h0 Z (λ c3 h0=>?_) λ c3 h0=>?_)
  ·exact nx 6 Z (mQ (oi h0) Z (sr))
  refine nx 5 Z (oA h0 Z Z λ IM h0=>?_);refine nx 8 Z (bd h0 λ G0 h1 h0=>?_);refine kE 0 G0 (λ It=>⟨[(7,.p (eI It))],[]⟩) ?_ ?_
  ·exact nx 7 Z (mQ (oi h0) Z (sr))
  refine lG (λ (FG:Int×Int)=>⟨[(2,.p (eI levels_2)),(3,.ptr 3 0),(7,.p (eI FG.1)),(8,.p (eI FG.2))],[(3,(aa.cs E8).map .p)]⟩) (λ m (FG:Int×Int)=>d5 (fH n) E8 levels_2 m FG.1 FG.2) Y (nodes_1-1,0) h1 (gE rfl rfl) ?_;rintro m ⟨n15,i16⟩ h1;replace h1:d5 (fH n) E8 levels_2 (m+1) n15 i16=some G0:=h1;rw [d5] at h1;refine nx 2 rfl (bd h1 λ Hv h2 h1=>?_);refine kN Hv (λ v37=>⟨[(2,.p (eI levels_2)),(3,.ptr 3 0),(7,.p (eI n15)),(8,.p (eI i16)),(25,.p (eB v37))],[(3,(aa.cs E8).map .p)]⟩) ?_ ?_
  ·refine nx 1 Z (fB [25] h1 Z (λ GI h1=>?_) λ GI h1=>?_)
   ·refine nx 8 Z (oE h1 aa.Eh Z Z Y λ FI h1=>?_);refine nx 3 Z (oA h1 Z Z λ GR h1=>?_);refine bd h1 λ Hc LG h1=>oK (Gi (lat E8.AI i16) n15 (levels_2-1) _ LG) Z ⟨sr,sr,sr,trivial⟩ Tryz.call69 Z (nx 4 Z ?_);exact oA h1 Z Z λ GQ h1=>nx 2 Z (eX (Hc,i16+1) h1 (gE Z Z))
   exact nx 2 Z (eXi _ (oi h1).symm (gE Z Z))
  refine nx 4 Z (oLl (f:=ah) Z Z ?_);refine nx 2 Z (fD [21,22] h2 Z (λ G9 h2=>?_) λ G9 h2=>?_)
  ·exact nx 4 Z (eX _ (oi h2).symm (gE Z Z))
  exact nx 4 Z (eX _ (oi h2).symm (gE Z Z))
 refine nx 4 Z (fD [10,11] h1 Z (λ c1 h1=>?_) λ c1 h1=>?_)
 ·exact nx 4 Z (eX _ (oi h1).symm (gE Z Z))
 exact nx 4 Z (eX _ (oi h1).symm (gE Z Z))
def dX (F8:aa->Option Int)(E8:aa):Nat->Int->Int->Option Int|0,_,_=>none|m+1,n9,i10=>if i10<(E8.AI.length:Int) then ck ((0:Int)<=i10/\i10<(E8.AI.length:Int))<|(F8 (lat E8.AI i10)).bind λ Gx=>ck (inR (n9+Gx))<|ck (inR (i10+1))<|dX F8 E8 m (n9+Gx) (i10+1)else some n9
def fI:Nat->aa->Option Int|0,_=>none|n+1,E8=>(dX (fI n) E8 n (E8.A'.length:Int) 0).bind λ n19=>some n19
theorem sE (n:Nat):∀ (E8:aa) (r:Int),fI n E8=some r->aB Tryz.prog 70 [.agg (aa.cs E8)] (·=.p (eI r)):=by
 induction n with
 | zero=>intro E8 r h0; cases h0
 | succ n ih=>
 have Gj:=ih;intro E8 r h0;rw [fI] at h0;refine aZ good Tryz.func70 Z Z Z λ w0=>mP (λ v:Int=>.p (eI v)) ?_;refine nx 9 Z (oLl (f:=eS) Z Z ?_);refine nx 8 Z (bd h0 λ K4 h1 h0=>?_);refine kE 0 K4 (λ v22=>⟨[(3,.p (eI v22))],[]⟩) ?_ ?_
 ·exact nx 7 Z (mQ (oi h0) Z (sr))
 refine lG (λ (Io:Int×Int)=>⟨[(1,.ptr 1 0),(3,.p (eI Io.1)),(4,.p (eI Io.2))],[(1,(aa.cs E8).map .p)]⟩) (λ m (Io:Int×Int)=>dX (fI n) E8 m Io.1 Io.2) Y ((E8.A'.length:Int),0) h1 (gE rfl rfl) ?_;rintro m ⟨n9,i10⟩ h1;replace h1:dX (fI n) E8 (m+1) n9 i10=some K4:=h1;rw [dX] at h1;refine nx 6 rfl (oLl (f:=ah) rfl rfl ?_);refine nx 2 rfl (fD [12] h1 rfl (λ GB h1=>?_) λ GB h1=>?_)
 ·refine nx 9 Z (oE h1 aa.Eh Z Z Y λ Gt h1=>?_);refine nx 1 Z (bd h1 λ Gx Jg h1=>?_);refine oK (Gj (lat E8.AI i10) _ Jg) Z ⟨sr,trivial⟩ Tryz.call70 Z (oA h1 Z Z λ Gs h1=>?_);refine nx 4 Z (oA h1 Z Z λ Gk h1=>?_);exact nx 2 Z (eX (n9+Gx,i10+1) h1 (gE Z Z))
 exact nx 2 Z (eXi _ (oi h1).symm (gE Z Z))
def fP (n:Nat)(E8:aa)(nodes_1:Int):Option Bool :=((fH n E8 nodes_1 40).bind λ r1=>if 0<=r1 then(fI n E8).bind λ r4=>ck (inR (2*nodes_1))<|some (decide (r4<=2*nodes_1))else some false : Option Bool).bind λ t7=>some t7
theorem jz (n:Nat)(E8:aa)(nodes_1:Int)(r:Bool)(h0:fP n E8 nodes_1=some r):aB Tryz.prog 37 [.agg (aa.cs E8),eI nodes_1] (·=.p (eB r)):=by
 unfold fP at h0;refine aZ good Tryz.func37 Z Z Z λ w0=>mP (λ v:Bool=>.p (eB v)) ?_;refine nx 6 Z (bd h0 λ o9 h1 h0=>?_);refine kN o9 (λ I6=>⟨[(4,.p (eB I6))],[]⟩) ?_ ?_
 ·exact nx 2 Z (mQ (oi h0) Z (sr))
 refine nx 3 Z (bd h1 λ r1 e2 h1=>?_);refine oK (sS _ E8 nodes_1 40 _ e2) Z ⟨sr,sr,sr,trivial⟩ Tryz.call69 Z (nx 2 Z ?_);refine fD [8,9] h1 Z (λ c3 h1=>?_) λ c3 h1=>?_
 ·refine nx 1 Z (bd h1 λ r4 e5 h1=>?_);refine oK (sE _ E8 _ e5) Z ⟨sr,trivial⟩ Tryz.call70 Z (nx 1 Z ?_);exact oA h1 Z Z λ JY h1=>nx 4 Z (eX _ (oi h1).symm (gE Z Z))
 exact nx 8 Z (eX _ (oi h1).symm (gE Z Z))
def jN (E8:aa):Option Bool :=(if E8.Ar=2 then some true else if E8.Ar=1 then if E8.BY=0 then some true else if E8.BY=1 then some true else some (decide (E8.BY=0))else some (decide (E8.BY=0)) : Option Bool).bind λ num5=>(if E8.Ar=3 then some true else some (decide (E8.B'=([]:Az))) : Option Bool).bind λ str7=>(if E8.Ar=4 then some true else if E8.Ar=5 then some true else some (decide ((E8.AI.length:Int)=0)) : Option Bool).bind λ items10=>(if E8.Ar=5 then if (E8.A'.length:Int)=(E8.AI.length:Int) then some true else some false else some (decide ((E8.A'.length:Int)=0)) : Option Bool).bind λ keys13=>(if 0<=E8.Ar then if E8.Ar<=6 then if num5=true then if str7=true then if items10=true then some keys13 else some false else some false else some false else some false else some false : Option Bool).bind λ FW=>some FW
theorem qS (E8:aa)(r:Bool)(h0:jN E8=some r):aB Tryz.prog 132 [.agg (aa.cs E8)] (·=.p (eB r)):=by
 unfold jN at h0;refine aZ good Tryz.func132 Z Z Z λ w0=>mP (λ v:Bool=>.p (eB v)) ?_;refine nx 6 Z (bd h0 λ HM h1 h0=>?_);refine kN HM (λ IU=>⟨[(1,.ptr 1 0),(3,.p (eB IU))],[(1,(aa.cs E8).map .p)]⟩) ?_ ?_
 ·refine nx 2 Z (bd h0 λ o27 h1 h0=>?_);refine kN o27 (λ v28=>⟨[(1,.ptr 1 0),(3,.p (eB HM)),(4,.p (eB v28))],[(1,(aa.cs E8).map .p)]⟩) ?_ ?_
  ·refine nx 2 Z (bd h0 λ K0 h1 h0=>?_);refine kN K0 (λ Kg=>⟨[(1,.ptr 1 0),(3,.p (eB HM)),(4,.p (eB o27)),(5,.p (eB Kg))],[(1,(aa.cs E8).map .p)]⟩) ?_ ?_
   ·refine nx 2 Z (bd h0 λ KZ h1 h0=>?_);refine kN KZ (λ Ky=>⟨[(1,.ptr 1 0),(3,.p (eB HM)),(4,.p (eB o27)),(5,.p (eB K0)),(6,.p (eB Ky))],[(1,(aa.cs E8).map .p)]⟩) ?_ ?_
    ·refine nx 2 Z (bd h0 λ G0 h1 h0=>?_);refine kN G0 (λ It=>⟨[(2,.p (eB It))],[]⟩) ?_ ?_
     ·exact nx 2 Z (mQ (oi h0) Z (sr))
     refine nx 5 Z (fD [77,78] h1 Z (λ IT h1=>?_) λ IT h1=>?_)
     ·refine nx 5 Z (fD [81,82,83] h1 Z (λ IS h1=>?_) λ IS h1=>?_)
      ·refine nx 3 Z (fB [3,84,85,86] h1 Z (λ Ih h1=>?_) λ Ih h1=>?_)
       ·refine nx 3 Z (fB [4,87,88,89] h1 Z (λ G9 h1=>?_) λ G9 h1=>?_)
        ·refine nx 3 Z (fB [5,90,91,92] h1 Z (λ Jl h1=>?_) λ Jl h1=>?_)
         ·exact nx 4 Z (eX _ (oi h1).symm (gE Z Z))
         exact nx 4 Z (eX _ (oi h1).symm (gE Z Z))
        exact nx 7 Z (eX _ (oi h1).symm (gE Z Z))
       exact nx 10 Z (eX _ (oi h1).symm (gE Z Z))
      exact nx 13 Z (eX _ (oi h1).symm (gE Z Z))
     exact nx 18 Z (eX _ (oi h1).symm (gE Z Z))
    refine nx 5 Z (fD [54,55] h1 Z (λ GB h1=>?_) λ GB h1=>?_)
    ·refine nx 2 Z (oLl (f:=eS) Z Z ?_);refine nx 2 Z (oLl (f:=ah) Z Z ?_);refine nx 3 Z (fD [62,63,64] h1 Z (λ Hy h1=>?_) λ Hy h1=>?_)
     ·exact nx 12 Z (eX _ (oi h1).symm (gE Z Z))
     refine nx 4 Z (lT [68] (vD GB) Z ?_);exact nx 8 Z (eX _ (oi h1).symm (gE Z Z))
    refine nx 13 Z (lT [68] (xG GB) Z ?_);refine nx 2 Z (oLl (f:=eS) Z Z ?_);exact nx 5 Z (eX _ (oi h1).symm (gE Z Z))
   refine nx 5 Z (fD [40,41] h1 Z (λ c8 h1=>?_) λ c8 h1=>?_)
   ·exact nx 12 Z (eX _ (oi h1).symm (gE Z Z))
   refine nx 5 Z (fD [44,45,46] h1 Z (λ c9 h1=>?_) λ c9 h1=>?_)
   ·exact nx 7 Z (eX _ (oi h1).symm (gE Z Z))
   refine nx 2 Z (oLl (f:=ah) Z Z ?_);exact nx 4 Z (eX _ (oi h1).symm (gE Z Z))
  refine nx 5 Z (fD [32,33] h1 Z (λ c6 h1=>?_) λ c6 h1=>?_)
  ·exact nx 6 Z (eX _ (oi h1).symm (gE Z Z))
  refine nx 2 Z (oS Z Z ?_);exact nx 3 Z (eX _ (oi h1).symm (gE Z Z))
 refine nx 5 Z (fD [9,10] h1 Z (λ c1 h1=>?_) λ c1 h1=>?_)
 ·exact nx 21 Z (eX _ (oi h1).symm (gE Z Z))
 refine nx 4 Z (fD [13,14] h1 Z (λ c2 h1=>?_) λ c2 h1=>?_)
 ·refine nx 4 Z (fD [17,18] h1 Z (λ c3 h1=>?_) λ c3 h1=>?_)
  ·exact nx 13 Z (eX _ (oi h1).symm (gE Z Z))
  refine nx 7 Z (fD [21,22,23,24,25] h1 Z (λ c4 h1=>?_) λ c4 h1=>?_)
  ·exact nx 6 Z (eX _ (oi h1).symm (gE Z Z))
  exact nx 6 Z (eX _ (oi h1).symm (gE Z Z))
 exact nx 17 Z (eX _ (oi h1).symm (gE Z Z))
def jU (n:Nat)(E5:Az):Option Int :=if 4096<(E5.length:Int) then some 3 else(kk n E5).bind λ r2=>if (!r2)=true then some 1 else some 0
theorem nY (n:Nat)(E5:Az)(r:Int)(h0:jU n E5=some r):aB Tryz.prog 134 [eS E5] (·=.p (eI r)):=by
 unfold jU at h0;refine aZ good Tryz.func134 Z Z Z λ w0=>mP (λ v:Int=>.p (eI v)) ?_;refine nx 8 Z (oLs Z ?_);refine nx 2 Z (fD [5] h0 Z (λ c1 h0=>?_) λ c1 h0=>?_)
 ·exact nx 6 Z (mQ (oi h0) Z (sr))
 refine nx 6 Z (bd h0 λ r2 e3 h0=>?_);refine oK (rD _ E5 _ e3) Z ⟨sr,trivial⟩ Tryz.call159 Z (nx 2 Z ?_);refine fB [8] h0 Z (λ c4 h0=>?_) λ c4 h0=>?_
 ·exact nx 6 Z (mQ (oi h0) Z (sr))
 exact nx 7 Z (mQ (oi h0) Z (sr))
def dY (n:Nat)(E8:aa):Nat->Int->Option (Unit⊕Int)|0,_=>none|m+1,i25=>if i25<(E8.A'.length:Int) then ck ((0:Int)<=i25/\i25<(E8.A'.length:Int))<|(jU n (lat E8.A' i25)).bind λ GK=>if GK=0 then(if 0<i25 then ck (inR (i25-1))<|ck ((0:Int)<=i25-1/\i25-1<(E8.A'.length:Int))<|ck ((0:Int)<=i25/\i25<(E8.A'.length:Int))<|some (!Op.bytesLess (lat E8.A' (i25-1)) (lat E8.A' i25))else some false : Option Bool).bind λ KA=>if KA=true then some (.inr 1)else ck (inR (i25+1))<|dY n E8 m (i25+1)else some (.inr GK)else some (.inl ())
def ln (n:Nat)(E8:aa):Option Int :=(jN E8).bind λ r1=>if (!r1)=true then some 1 else(if E8.Ar=2 then(lA E8.BY).bind λ r5=>some (!r5)else some false : Option Bool).bind λ t7=>if t7=true then some 5 else(jU n E8.B').bind λ r9=>if r9=0 then jn (dY n E8 n 0) λ _HG=>some 0 else some r9
theorem sI (n:Nat)(E8:aa)(r:Int)(h0:ln n E8=some r):aB Tryz.prog 104 [.agg (aa.cs E8)] (·=.p (eI r)):=by
 unfold ln at h0;refine aZ good Tryz.func104 Z Z Z λ w0=>mP (λ v:Int=>.p (eI v)) ?_;refine nx 9 Z (bd h0 λ r1 e2 h0=>?_);refine oK (qS E8 _ e2) Z ⟨sr,trivial⟩ Tryz.call132 Z (nx 2 Z ?_);refine fB [8] h0 Z (λ c3 h0=>?_) λ c3 h0=>?_
 ·exact nx 6 Z (mQ (oi h0) Z (sr))
 refine nx 4 Z (bd h0 λ Js h1 h0=>?_);refine kN Js (λ v43=>⟨[(1,.ptr 1 0),(17,.p (eB v43))],[(1,(aa.cs E8).map .p)]⟩) ?_ ?_
 ·refine nx 1 Z (fB [17] h0 Z (λ c8 h0=>?_) λ c8 h0=>?_)
  ·exact nx 6 Z (mQ (oi h0) Z (sr))
  refine nx 7 Z (bd h0 λ r9 Jh h0=>?_);refine oK (nY _ E8.B' _ Jh) Z ⟨sr,trivial⟩ Tryz.call134 Z (nx 7 Z ?_);refine fN [22] h0 Z (λ GB h0=>?_) λ GB h0=>?_
  ·refine nx 8 rfl ?_;obtain ⟨o44,h1,FE,hR0⟩:=ew h0;refine kEx 0 (λ Kv:Unit=>o44=.inl Kv) (λ Kv=>⟨[],[]⟩) (λ Kv hv=>?_) ?_
   ·have h0:=FE _ hv;exact nx 6 Z (mQ (oi h0) Z (sr))
   refine lG (λ (I7:Int)=>⟨[(1,.ptr 1 0),(4,.p (eI I7))],[(1,(aa.cs E8).map .p)]⟩) (λ m (I7:Int)=>dY n E8 m I7) Y 0 h1 (gE rfl rfl) ?_;rintro m i25 h1;replace h1:dY n E8 (m+1) i25=some o44:=h1;rw [dY] at h1;refine nx 6 rfl (oLl (f:=eS) rfl rfl ?_);refine nx 2 rfl (fD [28] h1 rfl (λ LK h1=>?_) λ LK h1=>?_)
   ·refine nx 10 Z (oE h1 Y Z Z Y λ H5 h1=>?_);refine nx 1 Z (bd h1 λ GK LF h1=>?_);refine oK (nY _ (lat E8.A' i25) _ LF) Z ⟨sr,trivial⟩ Tryz.call134 Z (nx 7 Z ?_);refine fN [38] h1 Z (λ Ic h1=>?_) λ Ic h1=>?_
    ·refine nx 3 Z (bd h1 λ JM h2 h1=>?_);refine kN JM (λ Ku=>⟨[(1,.ptr 1 0),(4,.p (eI i25)),(55,.p (eB Ku))],[(1,(aa.cs E8).map .p)]⟩) ?_ ?_
     ·refine nx 1 Z (fB [55] h1 Z (λ Ji h1=>?_) λ Ji h1=>?_)
      ·exact nx 6 Z (mQ (hR0 _ (oi h1).symm) Z (sr))
      refine nx 4 Z (oA h1 Z Z λ IN h1=>?_);exact nx 2 Z (eX (i25+1) h1 (gE Z Z))
     refine fD (p:=0<i25) [] h2 Z (λ Jj h2=>?_) λ Jj h2=>?_
     ·refine cc' h2 λ H1 h2=>cc' h2 λ H0 h2=>cc' h2 λ HY h2=>mD [(1,.ptr 1 0),(4,.p (eI i25))] Z ⟨Z,Z,trivial⟩ Z (dR 1 Z ?_);refine dL (dt Jj) Z (dR 4 Z ?_);refine dq (.p (eI (i25-1))) [42,45] Z (λ _ e _ q=>ff (pi Z Z Z (e _ _ Z) Z Z H1 q) Z Z (e _ _ Z) (rfl)) Z (dq (.rptr [eS (lat E8.A' (i25-1))]) [42,44,46] Z (λ _ e _ q=>ff (g5 (f:=eS) (l:=E8.A') (λ x=>[eS x]) Z Z Z Z Z Z (e _ _ Z) Z (e _ _ Z) H0 Y Y q) Z Z (e _ _ Z) (rfl)) Z ?_);refine dR 4 Z (dq (.rptr [eS (lat E8.A' i25)]) [42,50,51] Z (λ _ e _ q=>ff (g5 (f:=eS) (l:=E8.A') (λ x=>[eS x]) Z Z Z Z Z Z (e _ _ Z) Z (e _ _ Z) HY Y Y q) Z Z (e _ _ Z) (rfl)) Z ?_);refine dR 1 Z (dq (.p (eB (!Op.bytesLess (lat E8.A' (i25-1)) (lat E8.A' i25)))) [42,48,53] Z (λ _ e _ q=>ff (kH Z Z Z (e _ _ Z) (e _ _ Z) Z q) Z Z (e _ _ Z) (rfl)) Z ?_);refine dR 1 Z (dE Z ?_);exact nx 1 Z (eX _ (oi h2).symm (gE Z Z))
     refine mD [(1,.ptr 1 0),(4,.p (eI i25))] Z ⟨Z,Z,trivial⟩ Z (dR 1 Z ?_);refine dL (df Jj) Z (dR 14 Z ?_);refine dE Z (nx 1 Z ?_);exact eX _ (oi h2).symm (gE Z Z)
    exact nx 7 Z (mQ (hR0 _ (oi h1).symm) Z (sr))
   exact nx 2 Z (eXi _ (oi h1).symm (gE Z Z))
  exact nx 7 Z (mQ (oi h0) Z (sr))
 refine nx 5 Z (fD [11,12] h1 Z (λ c4 h1=>?_) λ c4 h1=>?_)
 ·refine nx 2 Z (bd h1 λ r5 e6 h1=>?_);refine oK (rt E8.BY _ e6) Z ⟨sr,trivial⟩ Tryz.call133 Z (nx 3 Z ?_);exact eX _ (oi h1).symm (gE Z Z)
 exact nx 6 Z (eX _ (oi h1).symm (gE Z Z))
def dC (FZ:aa->Int->Int->Option (Int×Int))(E8:aa)(Fb:Int):Nat->Int->Int->Option (Int⊕(Int×Int))|0,_,_=>none|m+1,n16,i17=>if i17<(E8.AI.length:Int) then ck ((0:Int)<=i17/\i17<(E8.AI.length:Int))<|ck (inR (Fb+1))<|(FZ (lat E8.AI i17) (Fb+1) n16).bind λ FT=>if FT.1=0 then ck (inR (i17+1))<|dC FZ E8 Fb m FT.2 (i17+1)else some (.inr (FT.1,FT.2))else some (.inl n16)
def eV:Nat->aa->Int->Int->Option (Int×Int)|0,_,_,_=>none|n+1,E8,Fb,Fs=>if 32<Fb then some (4,Fs)else if 4096<=Fs then some (14,Fs)else(ln n E8).bind λ r3=>if r3=0 then ck (inR (Fs+1))<|jn (dC (eV n) E8 Fb n (Fs+1) 0) λ n27=>some (0,n27)else some (r3,Fs)
theorem rV (n:Nat):∀ (E8:aa) (Fb:Int) (Fs:Int) (r:Int×Int),eV n E8 Fb Fs=some r->aB Tryz.prog 71 [.agg (aa.cs E8),eI Fb,eI Fs] (·=.tuple [.p (eI r.1),.p (eI r.2)]):=by
 induction n with
 | zero=>intro E8 Fb Fs r h0; cases h0
 | succ n ih=>
 have Ge:=ih;intro E8 Fb Fs r h0;rw [eV] at h0;refine aZ good Tryz.func71 Z Z Z λ w0=>mP (λ v:Int×Int=>.tuple [.p (eI v.1),.p (eI v.2)]) ?_;refine nx 12 Z (fD [14] h0 Z (λ c1 h0=>?_) λ c1 h0=>?_)
 ·exact nx 8 Z (mQ (oi h0) Z (bj ⟨sr,sr,trivial⟩))
 refine nx 8 Z (fD [17] h0 Z (λ c2 h0=>?_) λ c2 h0=>?_)
 ·exact nx 8 Z (mQ (oi h0) Z (bj ⟨sr,sr,trivial⟩))
 refine nx 6 Z (bd h0 λ r3 e4 h0=>?_);refine oK (sI _ E8 _ e4) Z ⟨sr,trivial⟩ Tryz.call104 Z (nx 7 Z ?_);refine fN [22] h0 Z (λ c5 h0=>?_) λ c5 h0=>?_
 ·refine nx 5 rfl (oA h0 Z Z λ JY h0=>?_);refine nx 8 rfl ?_;obtain ⟨K0,h1,FE,hR0⟩:=ew h0;refine kEx 0 (λ Kg:Int=>K0=.inl Kg) (λ Kg=>⟨[(9,.p (eI Kg))],[]⟩) (λ Kg hv=>?_) ?_
  ·have h0:=FE _ hv;exact nx 8 Z (mQ (oi h0) Z (bj ⟨sr,sr,trivial⟩))
  refine lG (λ (JD:Int×Int)=>⟨[(1,.p (eI Fb)),(3,.ptr 3 0),(9,.p (eI JD.1)),(10,.p (eI JD.2))],[(3,(aa.cs E8).map .p)]⟩) (λ m (JD:Int×Int)=>dC (eV n) E8 Fb m JD.1 JD.2) Y (Fs+1,0) h1 (gE rfl rfl) ?_;rintro m ⟨n16,i17⟩ h1;replace h1:dC (eV n) E8 Fb (m+1) n16 i17=some K0:=h1;rw [dC] at h1;refine nx 6 rfl (oLl (f:=ah) rfl rfl ?_);refine nx 2 rfl (fD [31] h1 rfl (λ Jl h1=>?_) λ Jl h1=>?_)
  ·refine nx 9 Z (oE h1 aa.Eh Z Z Y λ Hm h1=>?_);refine nx 2 Z (oA h1 Z Z λ FI h1=>?_);refine nx 1 Z (bd h1 λ FT IR h1=>?_);refine oK (Ge (lat E8.AI i17) (Fb+1) n16 _ IR) Z ⟨sr,sr,sr,trivial⟩ Tryz.call71 Z (nx 12 Z ?_);refine fN [47] h1 Z (λ GM h1=>?_) λ GM h1=>?_
   ·refine nx 8 Z (oA h1 Z Z λ GQ h1=>?_);exact nx 2 Z (eX (FT.2,i17+1) h1 (gE Z Z))
   refine nx 8 Z (mG (gE (t:=⟨[(6,.p (eI FT.1)),(7,.p (eI FT.2))],[]⟩) Z Z) ?_);exact nx 1 Z (mQ (hR0 _ (oi h1).symm) Z (bj ⟨sr,sr,trivial⟩))
  exact nx 2 Z (eXi _ (oi h1).symm (gE Z Z))
 exact nx 9 Z (mQ (oi h0) Z (bj ⟨sr,sr,trivial⟩))
def fc (n:Nat)(E8:aa):Option Int :=(eV n E8 1 0).bind λ r1=>some r1.1
theorem jC (n:Nat)(E8:aa)(r:Int)(h0:fc n E8=some r):aB Tryz.prog 38 [.agg (aa.cs E8)] (·=.p (eI r)):=by
 unfold fc at h0;refine aZ good Tryz.func38 Z Z Z λ w0=>mP (λ v:Int=>.p (eI v)) ?_;refine nx 8 Z (bd h0 λ r1 e2 h0=>?_);refine oK (rV _ E8 1 0 _ e2) Z ⟨sr,sr,sr,trivial⟩ Tryz.call71 Z (nx 12 Z ?_);exact mQ (oi h0) Z (sr)
def fO (n:Nat)(E8:aa):Option Bool :=(if E8.Ar=0 then(fP n E8 60).bind λ r2=>if r2=true then(fc n E8).bind λ r5=>some (decide (r5=0))else some false else if E8.Ar=5 then(fP n E8 60).bind λ r8=>if r8=true then(fc n E8).bind λ FH=>some (decide (FH=0))else some false else some false : Option Bool).bind λ Ii=>some Ii
theorem jx (n:Nat)(E8:aa)(r:Bool)(h0:fO n E8=some r):aB Tryz.prog 23 [.agg (aa.cs E8)] (·=.p (eB r)):=by
 unfold fO at h0;refine aZ good Tryz.func23 Z Z Z λ w0=>mP (λ v:Bool=>.p (eB v)) ?_;refine nx 6 Z (bd h0 λ HO h1 h0=>?_);refine kN HO (λ HA=>⟨[(2,.p (eB HA))],[]⟩) ?_ ?_
 ·exact nx 2 Z (mQ (oi h0) Z (sr))
 refine nx 5 Z (fD [5,6] h1 Z (λ c1 h1=>?_) λ c1 h1=>?_)
 ·refine nx 6 Z (bd h1 λ r2 e3 h1=>?_);refine oK (jz _ E8 60 _ e3) Z ⟨sr,sr,trivial⟩ Tryz.call37 Z (nx 2 Z ?_);refine fB [13,14,15] h1 Z (λ c4 h1=>?_) λ c4 h1=>?_
  ·refine nx 1 Z (bd h1 λ r5 e6 h1=>?_);refine oK (jC _ E8 _ e6) Z ⟨sr,trivial⟩ Tryz.call38 Z (nx 4 Z ?_);exact eX _ (oi h1).symm (gE Z Z)
  exact nx 6 Z (eX _ (oi h1).symm (gE Z Z))
 refine nx 5 Z (fD [9,10,11] h1 Z (λ c7 h1=>?_) λ c7 h1=>?_)
 ·refine nx 1 Z (bd h1 λ r8 e9 h1=>?_);refine oK (jz _ E8 60 _ e9) Z ⟨sr,sr,trivial⟩ Tryz.call37 Z (nx 2 Z ?_);refine fB [13,14,15] h1 Z (λ GD h1=>?_) λ GD h1=>?_
  ·refine nx 1 Z (bd h1 λ FH Hh h1=>?_);refine oK (jC _ E8 _ Hh) Z ⟨sr,trivial⟩ Tryz.call38 Z (nx 4 Z ?_);exact eX _ (oi h1).symm (gE Z Z)
  exact nx 6 Z (eX _ (oi h1).symm (gE Z Z))
 exact nx 10 Z (eX _ (oi h1).symm (gE Z Z))
def iy (n:Nat)(Fv:ax):Option Bool :=(if 300<(Fv.Er.length:Int) then some true else if 300<(Fv.Ex.length:Int) then some true else some (decide (20<(Fv.Es.length:Int))) : Option Bool).bind λ t3=>if t3=true then some false else((fO n Fv.Ek).bind λ r5=>if r5=true then(fO n Fv.Ej).bind λ r8=>if r8=true then some true else some (decide (Fv.Ej.Ar=6))else some false : Option Bool).bind λ FB=>some FB
theorem qR (n:Nat)(Fv:ax)(r:Bool)(h0:iy n Fv=some r):aB Tryz.prog 10 [.agg (ax.cs Fv)] (·=.p (eB r)):=by
 unfold iy at h0;refine aZ good Tryz.func10 Z Z Z λ w0=>mP (λ v:Bool=>.p (eB v)) ?_;refine nx 7 Z (bd h0 λ o14 h1 h0=>?_);refine kN o14 (λ v15=>⟨[(1,.ptr 1 0),(18,.p (eB v15))],[(1,(ax.cs Fv).map .p)]⟩) ?_ ?_
 ·refine nx 1 Z (fB [18] h0 Z (λ c4 h0=>?_) λ c4 h0=>?_)
  ·exact nx 6 Z (mQ (oi h0) Z (sr))
  refine nx 3 Z (bd h0 λ IG h1 h0=>?_);refine kN IG (λ Hz=>⟨[(2,.p (eB Hz))],[]⟩) ?_ ?_
  ·exact nx 2 Z (mQ (oi h0) Z (sr))
  refine nx 3 Z (bd h1 λ r5 e6 h1=>?_);refine oK (jx _ Fv.Ek _ e6) Z ⟨sr,trivial⟩ Tryz.call23 Z (nx 1 Z ?_);refine fB [21,22] h1 Z (λ c7 h1=>?_) λ c7 h1=>?_
  ·refine nx 2 Z (bd h1 λ r8 e9 h1=>?_);refine oK (jx _ Fv.Ej _ e9) Z ⟨sr,trivial⟩ Tryz.call23 Z (nx 1 Z ?_);refine fB [25,26] h1 Z (λ GD h1=>?_) λ GD h1=>?_
   ·exact nx 8 Z (eX _ (oi h1).symm (gE Z Z))
   exact nx 8 Z (eX _ (oi h1).symm (gE Z Z))
  exact nx 12 Z (eX _ (oi h1).symm (gE Z Z))
 refine nx 3 Z (oLs Z ?_);refine nx 2 Z (fD [6,7] h1 Z (λ c1 h1=>?_) λ c1 h1=>?_)
 ·exact nx 12 Z (eX _ (oi h1).symm (gE Z Z))
 refine nx 2 Z (oLs Z ?_);refine nx 3 Z (fD [11,12,13] h1 Z (λ c2 h1=>?_) λ c2 h1=>?_)
 ·exact nx 6 Z (eX _ (oi h1).symm (gE Z Z))
 refine nx 2 Z (oLl (f:=eS) Z Z ?_);exact nx 3 Z (eX _ (oi h1).symm (gE Z Z))
def dZ (F6:ag->Int->Int->Option Int)(Fg:ag)(levels_2:Int):Nat->Int->Int->Option Int|0,_,_=>none|m+1,n15,i16=>(if i16<(Fg.Em.length:Int) then some (decide (0<=n15))else some false : Option Bool).bind λ Gp=>if Gp=true then ck ((0:Int)<=i16/\i16<(Fg.Em.length:Int))<|ck (inR (levels_2-1))<|(F6 (lat Fg.Em i16) n15 (levels_2-1)).bind λ Hc=>ck (inR (i16+1))<|dZ F6 Fg levels_2 m Hc (i16+1)else some n15
def fG:Nat->ag->Int->Int->Option Int|0,_,_,_=>none|n+1,Fg,nodes_1,levels_2=>(if nodes_1<1 then some true else some (decide (levels_2<1)) : Option Bool).bind λ t2=>if t2=true then some (-1)else ck (inR (nodes_1-1))<|(dZ (fG n) Fg levels_2 n (nodes_1-1) 0).bind λ n27=>some n27
theorem sP (n:Nat):∀ (Fg:ag) (nodes_1:Int) (levels_2:Int) (r:Int),fG n Fg nodes_1 levels_2=some r->aB Tryz.prog 83 [.agg (ag.cs Fg),eI nodes_1,eI levels_2] (·=.p (eI r)):=by
 induction n with
 | zero=>intro Fg nodes_1 levels_2 r h0; cases h0
 | succ n ih=>
 have Gg:=ih;intro Fg nodes_1 levels_2 r h0;rw [fG] at h0;refine aZ good Tryz.func83 Z Z Z λ w0=>mP (λ v:Int=>.p (eI v)) ?_;refine nx 7 Z (bd h0 λ KZ h1 h0=>?_);refine kN KZ (λ Ky=>⟨[(1,.p (eI nodes_1)),(2,.p (eI levels_2)),(3,.ptr 3 0),(14,.p (eB Ky))],[(3,(ag.cs Fg).map .p)]⟩) ?_ ?_
 ·refine nx 1 Z (fB [14] h0 Z (λ c3 h0=>?_) λ c3 h0=>?_)
  ·exact nx 6 Z (mQ (oi h0) Z (sr))
  refine nx 5 Z (oA h0 Z Z λ IM h0=>?_);refine nx 8 Z (bd h0 λ G0 h1 h0=>?_);refine kE 0 G0 (λ It=>⟨[(7,.p (eI It))],[]⟩) ?_ ?_
  ·exact nx 7 Z (mQ (oi h0) Z (sr))
  refine lG (λ (FG:Int×Int)=>⟨[(2,.p (eI levels_2)),(3,.ptr 3 0),(7,.p (eI FG.1)),(8,.p (eI FG.2))],[(3,(ag.cs Fg).map .p)]⟩) (λ m (FG:Int×Int)=>dZ (fG n) Fg levels_2 m FG.1 FG.2) Y (nodes_1-1,0) h1 (gE rfl rfl) ?_;rintro m ⟨n15,i16⟩ h1;replace h1:dZ (fG n) Fg levels_2 (m+1) n15 i16=some G0:=h1;rw [dZ] at h1;refine nx 2 rfl (bd h1 λ Hv h2 h1=>?_);refine kN Hv (λ v37=>⟨[(2,.p (eI levels_2)),(3,.ptr 3 0),(7,.p (eI n15)),(8,.p (eI i16)),(25,.p (eB v37))],[(3,(ag.cs Fg).map .p)]⟩) ?_ ?_
  ·refine nx 1 Z (fB [25] h1 Z (λ GI h1=>?_) λ GI h1=>?_)
   ·refine nx 8 Z (oE h1 ag.Eh Z Z Y λ FI h1=>?_);refine nx 3 Z (oA h1 Z Z λ GR h1=>?_);refine bd h1 λ Hc LG h1=>oK (Gg (lat Fg.Em i16) n15 (levels_2-1) _ LG) Z ⟨sr,sr,sr,trivial⟩ Tryz.call83 Z (nx 4 Z ?_);exact oA h1 Z Z λ GQ h1=>nx 2 Z (eX (Hc,i16+1) h1 (gE Z Z))
   exact nx 2 Z (eXi _ (oi h1).symm (gE Z Z))
  refine nx 4 Z (oLl (f:=aD) Z Z ?_);refine nx 2 Z (fD [21,22] h2 Z (λ G9 h2=>?_) λ G9 h2=>?_)
  ·exact nx 4 Z (eX _ (oi h2).symm (gE Z Z))
  exact nx 4 Z (eX _ (oi h2).symm (gE Z Z))
 refine nx 4 Z (fD [10,11] h1 Z (λ c1 h1=>?_) λ c1 h1=>?_)
 ·exact nx 4 Z (eX _ (oi h1).symm (gE Z Z))
 exact nx 4 Z (eX _ (oi h1).symm (gE Z Z))
def dD (FX:ag->Option Int)(Fg:ag):Nat->Int->Int->Option Int|0,_,_=>none|m+1,n9,i10=>if i10<(Fg.Em.length:Int) then ck ((0:Int)<=i10/\i10<(Fg.Em.length:Int))<|(FX (lat Fg.Em i10)).bind λ Gx=>ck (inR (n9+Gx))<|ck (inR (i10+1))<|dD FX Fg m (n9+Gx) (i10+1)else some n9
def eQ:Nat->ag->Option Int|0,_=>none|n+1,Fg=>(dD (eQ n) Fg n (Fg.Df.length:Int) 0).bind λ n19=>some n19
theorem rB (n:Nat):∀ (Fg:ag) (r:Int),eQ n Fg=some r->aB Tryz.prog 84 [.agg (ag.cs Fg)] (·=.p (eI r)):=by
 induction n with
 | zero=>intro Fg r h0; cases h0
 | succ n ih=>
 have Gc:=ih;intro Fg r h0;rw [eQ] at h0;refine aZ good Tryz.func84 Z Z Z λ w0=>mP (λ v:Int=>.p (eI v)) ?_;refine nx 9 Z (oLl (f:=eS) Z Z ?_);refine nx 8 Z (bd h0 λ K4 h1 h0=>?_);refine kE 0 K4 (λ v22=>⟨[(3,.p (eI v22))],[]⟩) ?_ ?_
 ·exact nx 7 Z (mQ (oi h0) Z (sr))
 refine lG (λ (Io:Int×Int)=>⟨[(1,.ptr 1 0),(3,.p (eI Io.1)),(4,.p (eI Io.2))],[(1,(ag.cs Fg).map .p)]⟩) (λ m (Io:Int×Int)=>dD (eQ n) Fg m Io.1 Io.2) Y ((Fg.Df.length:Int),0) h1 (gE rfl rfl) ?_;rintro m ⟨n9,i10⟩ h1;replace h1:dD (eQ n) Fg (m+1) n9 i10=some K4:=h1;rw [dD] at h1;refine nx 6 rfl (oLl (f:=aD) rfl rfl ?_);refine nx 2 rfl (fD [12] h1 rfl (λ GB h1=>?_) λ GB h1=>?_)
 ·refine nx 9 Z (oE h1 ag.Eh Z Z Y λ Gt h1=>?_);refine nx 1 Z (bd h1 λ Gx Jg h1=>?_);refine oK (Gc (lat Fg.Em i10) _ Jg) Z ⟨sr,trivial⟩ Tryz.call84 Z (oA h1 Z Z λ Gs h1=>?_);refine nx 4 Z (oA h1 Z Z λ Gk h1=>?_);exact nx 2 Z (eX (n9+Gx,i10+1) h1 (gE Z Z))
 exact nx 2 Z (eXi _ (oi h1).symm (gE Z Z))
def km (n:Nat)(Fg:ag)(nodes_1:Int):Option Bool :=((fG n Fg nodes_1 40).bind λ r1=>if 0<=r1 then(eQ n Fg).bind λ r4=>ck (inR (2*nodes_1))<|some (decide (r4<=2*nodes_1))else some false : Option Bool).bind λ t7=>some t7
theorem rA (n:Nat)(Fg:ag)(nodes_1:Int)(r:Bool)(h0:km n Fg nodes_1=some r):aB Tryz.prog 51 [.agg (ag.cs Fg),eI nodes_1] (·=.p (eB r)):=by
 unfold km at h0;refine aZ good Tryz.func51 Z Z Z λ w0=>mP (λ v:Bool=>.p (eB v)) ?_;refine nx 6 Z (bd h0 λ o9 h1 h0=>?_);refine kN o9 (λ I6=>⟨[(4,.p (eB I6))],[]⟩) ?_ ?_
 ·exact nx 2 Z (mQ (oi h0) Z (sr))
 refine nx 3 Z (bd h1 λ r1 e2 h1=>?_);refine oK (sP _ Fg nodes_1 40 _ e2) Z ⟨sr,sr,sr,trivial⟩ Tryz.call83 Z (nx 2 Z ?_);refine fD [8,9] h1 Z (λ c3 h1=>?_) λ c3 h1=>?_
 ·refine nx 1 Z (bd h1 λ r4 e5 h1=>?_);refine oK (rB _ Fg _ e5) Z ⟨sr,trivial⟩ Tryz.call84 Z (nx 1 Z ?_);exact oA h1 Z Z λ JY h1=>nx 4 Z (eX _ (oi h1).symm (gE Z Z))
 exact nx 8 Z (eX _ (oi h1).symm (gE Z Z))
def d9 (n:Nat)(l_0:List aF):Nat->Int->Option (Unit⊕Bool)|0,_=>none|m+1,i12=>if i12<(l_0.length:Int) then(ck ((0:Int)<=i12/\i12<(l_0.length:Int))<|if 100<(((lat l_0 i12).By).length:Int) then some true else ck ((0:Int)<=i12/\i12<(l_0.length:Int))<|(km n ((lat l_0 i12).Ei) 15).bind λ Hd=>some (!Hd) : Option Bool).bind λ FW=>if FW=true then some (.inr false)else ck (inR (i12+1))<|d9 n l_0 m (i12+1)else some (.inl ())
def jg (n:Nat)(l_0:List aF):Option Bool :=if 10<(l_0.length:Int) then some false else jn (d9 n l_0 n 0) λ _Io=>some true
theorem nk (n:Nat)(l_0:List aF)(r:Bool)(h0:jg n l_0=some r):aB Tryz.prog 24 [eL a8 l_0] (·=.p (eB r)):=by
 unfold jg at h0;refine aZ good Tryz.func24 Z Z Z λ w0=>mP (λ v:Bool=>.p (eB v)) ?_;refine nx 8 Z (oLl (f:=a8) Z Z ?_);refine nx 2 Z (fD [6] h0 Z (λ c1 h0=>?_) λ c1 h0=>?_)
 ·exact nx 6 Z (mQ (oi h0) Z (sr))
 refine nx 8 rfl ?_;obtain ⟨HM,h1,FE,hR0⟩:=ew h0;refine kEx 0 (λ IU:Unit=>HM=.inl IU) (λ IU=>⟨[],[]⟩) (λ IU hv=>?_) ?_
 ·have h0:=FE _ hv;exact nx 6 Z (mQ (oi h0) Z (sr))
 refine lG (λ (GL:Int)=>⟨[(0,.p (eL a8 l_0)),(3,.p (eI GL))],[]⟩) (λ m (GL:Int)=>d9 n l_0 m GL) Y 0 h1 (gE rfl rfl) ?_;rintro m i12 h1;replace h1:d9 n l_0 (m+1) i12=some HM:=h1;rw [d9] at h1;refine nx 5 rfl (oLl (f:=a8) rfl rfl ?_);refine nx 2 rfl (fD [10] h1 rfl (λ GA h1=>?_) λ GA h1=>?_)
 ·refine nx 5 Z (bd h1 λ Km h2 h1=>?_);refine kN Km (λ Kh=>⟨[(0,.p (eL a8 l_0)),(3,.p (eI i12)),(28,.p (eB Kh))],[]⟩) ?_ ?_
  ·refine nx 1 Z (fB [28] h1 Z (λ c20 h1=>?_) λ c20 h1=>?_)
   ·exact nx 6 Z (mQ (hR0 _ (oi h1).symm) Z (sr))
   refine nx 4 Z (oA h1 Z Z λ GR h1=>?_);exact nx 2 Z (eX (i12+1) h1 (gE Z Z))
  refine nx 3 Z (oE h2 aF.Eh Z Z Y λ GG h2=>?_);refine nx 2 Z (oLs Z ?_);refine nx 2 Z (fD [19,20] h2 Z (λ IS h2=>?_) λ IS h2=>?_)
  ·exact nx 9 Z (eX _ (oi h2).symm (gE Z Z))
  refine nx 2 Z (oE h2 aF.Eh Z Z Y λ Gk h2=>?_);refine nx 2 Z (bd h2 λ Hd J7 h2=>?_);refine oK (rA _ ((lat l_0 i12).Ei) 15 _ J7) Z ⟨sr,sr,trivial⟩ Tryz.call51 Z (nx 3 Z ?_);exact eX _ (oi h2).symm (gE Z Z)
 exact nx 2 Z (eXi _ (oi h1).symm (gE Z Z))
def iw (Fv:Int):Option Bool :=(if 97<=Fv then if Fv<=122 then some true else if 65<=Fv then if Fv<=90 then some true else some (decide (Fv=95))else some (decide (Fv=95))else if 65<=Fv then if Fv<=90 then some true else some (decide (Fv=95))else some (decide (Fv=95)) : Option Bool).bind λ t7=>some t7
theorem mC (Fv:Int)(r:Bool)(h0:iw Fv=some r):aB Tryz.prog 114 [eK .u8 Fv] (·=.p (eB r)):=by
 unfold iw at h0;refine aZ good Tryz.func114 Z Z Z λ w0=>mP (λ v:Bool=>.p (eB v)) ?_;refine nx 5 Z (bd h0 λ o9 h1 h0=>?_);refine kN o9 (λ I6=>⟨[(2,.p (eB I6))],[]⟩) ?_ ?_
 ·exact nx 2 Z (mQ (oi h0) Z (sr))
 refine nx 4 Z (fD [4,5] h1 Z (λ c1 h1=>?_) λ c1 h1=>?_)
 ·refine nx 4 Z (fD [7,8,9] h1 Z (λ c2 h1=>?_) λ c2 h1=>?_)
  ·exact nx 13 Z (eX _ (oi h1).symm (gE Z Z))
  refine nx 3 Z (fD [11,12] h1 Z (λ c3 h1=>?_) λ c3 h1=>?_)
  ·refine nx 5 Z (fD [14,15,16,17] h1 Z (λ c4 h1=>?_) λ c4 h1=>?_)
   ·exact nx 5 Z (eX _ (oi h1).symm (gE Z Z))
   exact nx 5 Z (eX _ (oi h1).symm (gE Z Z))
  exact nx 10 Z (eX _ (oi h1).symm (gE Z Z))
 refine nx 7 Z (fD [11,12] h1 Z (λ c5 h1=>?_) λ c5 h1=>?_)
 ·refine nx 5 Z (fD [14,15,16,17] h1 Z (λ c6 h1=>?_) λ c6 h1=>?_)
  ·exact nx 5 Z (eX _ (oi h1).symm (gE Z Z))
  exact nx 5 Z (eX _ (oi h1).symm (gE Z Z))
 exact nx 10 Z (eX _ (oi h1).symm (gE Z Z))
def cD (E5:Az):Nat->Int->Option (Unit⊕Bool)|0,_=>none|m+1,i20=>if i20<(E5.length:Int) then(ck ((0:Int)<=i20/\i20<(E5.length:Int))<|(iw (byt E5 i20)).bind λ Hb=>if (!Hb)=true then ck ((0:Int)<=i20/\i20<(E5.length:Int))<|if byt E5 i20<48 then some true else ck ((0:Int)<=i20/\i20<(E5.length:Int))<|some (decide (57<byt E5 i20))else some false : Option Bool).bind λ t29=>if t29=true then some (.inr false)else ck (inR (i20+1))<|cD E5 m (i20+1)else some (.inl ())
def eC (n:Nat)(E5:Az):Option Bool :=(if E5=([]:Az) then some true else if 64<(E5.length:Int) then some true else ck ((0:Int)<=0/\0<(E5.length:Int))<|(iw (byt E5 0)).bind λ r4=>some (!r4) : Option Bool).bind λ t6=>if t6=true then some false else jn (cD E5 n 0) λ _q34=>some true
theorem iI (n:Nat)(E5:Az)(r:Bool)(h0:eC n E5=some r):aB Tryz.prog 86 [eS E5] (·=.p (eB r)):=by
 unfold eC at h0;refine aZ good Tryz.func86 Z Z Z λ w0=>mP (λ v:Bool=>.p (eB v)) ?_;refine nx 6 Z (bd h0 λ Hv h1 h0=>?_);refine kN Hv (λ v37=>⟨[(0,.p (eS E5)),(16,.p (eB v37))],[]⟩) ?_ ?_
 ·refine nx 1 Z (fB [16] h0 Z (λ c7 h0=>?_) λ c7 h0=>?_)
  ·exact nx 6 Z (mQ (oi h0) Z (sr))
  refine nx 8 rfl ?_;obtain ⟨IZ,h1,FE,hR0⟩:=ew h0;refine kEx 0 (λ Is:Unit=>IZ=.inl Is) (λ Is=>⟨[],[]⟩) (λ Is hv=>?_) ?_
  ·have h0:=FE _ hv;exact nx 6 Z (mQ (oi h0) Z (sr))
  refine lG (λ (HG:Int)=>⟨[(0,.p (eS E5)),(3,.p (eI HG))],[]⟩) (λ m (HG:Int)=>cD E5 m HG) Y 0 h1 (gE rfl rfl) ?_;rintro m i20 h1;replace h1:cD E5 (m+1) i20=some IZ:=h1;rw [cD] at h1;refine nx 5 rfl (oLs rfl ?_);refine nx 2 rfl (fD [20] h1 rfl (λ c21 h1=>?_) λ c21 h1=>?_)
  ·refine nx 5 Z (bd h1 λ KX h2 h1=>?_);refine kN KX (λ Hs=>⟨[(0,.p (eS E5)),(3,.p (eI i20)),(39,.p (eB Hs))],[]⟩) ?_ ?_
   ·refine nx 1 Z (fB [39] h1 Z (λ Ic h1=>?_) λ Ic h1=>?_)
    ·exact nx 6 Z (mQ (hR0 _ (oi h1).symm) Z (sr))
    refine nx 4 Z (oA h1 Z Z λ H2 h1=>?_);exact nx 2 Z (eX (i20+1) h1 (gE Z Z))
   refine nx 3 Z (oI h2 Z λ H7 h2=>?_);refine bd h2 λ Hb J4 h2=>oK (mC (byt E5 i20) _ J4) Z ⟨sr,trivial⟩ Tryz.call114 Z (nx 2 Z ?_);refine fB [27,28] h2 Z (λ G8 h2=>?_) λ G8 h2=>?_
   ·refine nx 2 Z (oI h2 Z λ Gr h2=>?_);refine nx 2 Z (fD [32,33] h2 Z (λ If h2=>?_) λ If h2=>?_)
    ·exact nx 7 Z (eX _ (oi h2).symm (gE Z Z))
    refine nx 2 Z (oI h2 Z λ H4 h2=>?_);exact nx 4 Z (eX _ (oi h2).symm (gE Z Z))
   exact nx 12 Z (eX _ (oi h2).symm (gE Z Z))
  exact nx 2 Z (eXi _ (oi h1).symm (gE Z Z))
 refine nx 2 Z (oS Z Z ?_);refine nx 1 Z (fD [5,6] h1 Z (λ c1 h1=>?_) λ c1 h1=>?_)
 ·exact nx 11 Z (eX _ (oi h1).symm (gE Z Z))
 refine nx 1 Z (oLs Z ?_);refine nx 3 Z (fD [9,10,11] h1 Z (λ c2 h1=>?_) λ c2 h1=>?_)
 ·exact nx 6 Z (eX _ (oi h1).symm (gE Z Z))
 refine nx 1 Z (oI h1 Z λ Hg h1=>?_);refine bd h1 λ r4 e5 h1=>oK (mC (byt E5 0) _ e5) Z ⟨sr,trivial⟩ Tryz.call114 Z (nx 3 Z ?_);exact eX _ (oi h1).symm (gE Z Z)
def jK (Fg:ag):Option Bool :=(if Fg.Ar<0 then some true else some (decide (6<Fg.Ar)) : Option Bool).bind λ t2=>if t2=true then some false else if Fg.Ar=6 then some (decide ((Fg.Em.length:Int)=(Fg.Df.length:Int)))else(if Fg.Ar=4 then some true else some (decide (Fg.Ar=5)) : Option Bool).bind λ t6=>if t6=true then(if (Fg.Em.length:Int)=1 then some (decide ((Fg.Df.length:Int)=0))else some false : Option Bool).bind λ t9=>some t9 else(if (Fg.Em.length:Int)=0 then some (decide ((Fg.Df.length:Int)=0))else some false : Option Bool).bind λ FB=>some FB
theorem qD (Fg:ag)(r:Bool)(h0:jK Fg=some r):aB Tryz.prog 115 [.agg (ag.cs Fg)] (·=.p (eB r)):=by
 unfold jK at h0;refine aZ good Tryz.func115 Z Z Z λ w0=>mP (λ v:Bool=>.p (eB v)) ?_;refine nx 7 Z (bd h0 λ IG h1 h0=>?_);refine kN IG (λ Hz=>⟨[(1,.ptr 1 0),(10,.p (eB Hz))],[(1,(ag.cs Fg).map .p)]⟩) ?_ ?_
 ·refine nx 1 Z (fB [10] h0 Z (λ c3 h0=>?_) λ c3 h0=>?_)
  ·exact nx 6 Z (mQ (oi h0) Z (sr))
  refine nx 9 Z (fD [13] h0 Z (λ c4 h0=>?_) λ c4 h0=>?_)
  ·refine nx 5 Z (oLl (f:=aD) Z Z ?_);refine nx 2 Z (oLl (f:=eS) Z Z ?_);exact nx 4 Z (mQ (oi h0) Z (sr))
  refine nx 4 Z (bd h0 λ o18 h1 h0=>?_);refine kN o18 (λ v19=>⟨[(1,.ptr 1 0),(28,.p (eB v19))],[(1,(ag.cs Fg).map .p)]⟩) ?_ ?_
  ·refine nx 1 Z (fB [28] h0 Z (λ c7 h0=>?_) λ c7 h0=>?_)
   ·refine nx 2 Z (bd h0 λ Kn h1 h0=>?_);refine kN Kn (λ v21=>⟨[(2,.p (eB v21))],[]⟩) ?_ ?_
    ·exact nx 2 Z (mQ (oi h0) Z (sr))
    refine nx 3 Z (oLl (f:=aD) Z Z ?_);refine nx 2 Z (fD [32,33] h1 Z (λ c8 h1=>?_) λ c8 h1=>?_)
    ·refine nx 2 Z (oLl (f:=eS) Z Z ?_);exact nx 4 Z (eX _ (oi h1).symm (gE Z Z))
    exact nx 7 Z (eX _ (oi h1).symm (gE Z Z))
   refine nx 3 Z (bd h0 λ K3 h1 h0=>?_);refine kN K3 (λ Kz=>⟨[(2,.p (eB Kz))],[]⟩) ?_ ?_
   ·exact nx 2 Z (mQ (oi h0) Z (sr))
   refine nx 3 Z (oLl (f:=aD) Z Z ?_);refine nx 2 Z (fD [42,43] h1 Z (λ GD h1=>?_) λ GD h1=>?_)
   ·refine nx 2 Z (oLl (f:=eS) Z Z ?_);exact nx 4 Z (eX _ (oi h1).symm (gE Z Z))
   exact nx 7 Z (eX _ (oi h1).symm (gE Z Z))
  refine nx 5 Z (fD [23,24] h1 Z (λ c5 h1=>?_) λ c5 h1=>?_)
  ·exact nx 5 Z (eX _ (oi h1).symm (gE Z Z))
  exact nx 5 Z (eX _ (oi h1).symm (gE Z Z))
 refine nx 5 Z (fD [5,6] h1 Z (λ c1 h1=>?_) λ c1 h1=>?_)
 ·exact nx 5 Z (eX _ (oi h1).symm (gE Z Z))
 exact nx 5 Z (eX _ (oi h1).symm (gE Z Z))
def ea (n:Nat)(Fg:ag):Nat->Int->Option (Unit⊕Int)|0,_=>none|m+1,i18=>if i18<(Fg.Df.length:Int) then ck ((0:Int)<=i18/\i18<(Fg.Df.length:Int))<|(eC n (lat Fg.Df i18)).bind λ FT=>if (!FT)=true then some (.inr 7)else(if 0<i18 then ck (inR (i18-1))<|ck ((0:Int)<=i18-1/\i18-1<(Fg.Df.length:Int))<|ck ((0:Int)<=i18/\i18<(Fg.Df.length:Int))<|some (!Op.bytesLess (lat Fg.Df (i18-1)) (lat Fg.Df i18))else some false : Option Bool).bind λ FQ=>if FQ=true then some (.inr 1)else ck (inR (i18+1))<|ea n Fg m (i18+1)else some (.inl ())
def d6 (FY:ag->Int->Option Int)(Fg:ag)(Fb:Int):Nat->Int->Option (Unit⊕Int)|0,_=>none|m+1,i40=>if i40<(Fg.Em.length:Int) then ck ((0:Int)<=i40/\i40<(Fg.Em.length:Int))<|ck (inR (Fb+1))<|(FY (lat Fg.Em i40) (Fb+1)).bind λ r44=>if r44=0 then ck (inR (i40+1))<|d6 FY Fg Fb m (i40+1)else some (.inr r44)else some (.inl ())
def fy:Nat->ag->Int->Option Int|0,_,_=>none|n+1,Fg,Fb=>if 32<Fb then some 4 else(jK Fg).bind λ r2=>if (!r2)=true then some 1 else jn (ea n Fg n 0) λ _Kk=>jn (d6 (fy n) Fg Fb n 0) λ _KL=>some 0
theorem rL (n:Nat):∀ (Fg:ag) (Fb:Int) (r:Int),fy n Fg Fb=some r->aB Tryz.prog 87 [.agg (ag.cs Fg),eI Fb] (·=.p (eI r)):=by
 induction n with
 | zero=>intro Fg Fb r h0; cases h0
 | succ n ih=>
 have Gd:=ih;intro Fg Fb r h0;rw [fy] at h0;refine aZ good Tryz.func87 Z Z Z λ w0=>mP (λ v:Int=>.p (eI v)) ?_;refine nx 11 Z (fD [9] h0 Z (λ c1 h0=>?_) λ c1 h0=>?_)
 ·exact nx 6 Z (mQ (oi h0) Z (sr))
 refine nx 6 Z (bd h0 λ r2 e3 h0=>?_);refine oK (qD Fg _ e3) Z ⟨sr,trivial⟩ Tryz.call115 Z (nx 2 Z ?_);refine fB [12] h0 Z (λ c4 h0=>?_) λ c4 h0=>?_
 ·exact nx 6 Z (mQ (oi h0) Z (sr))
 refine nx 8 rfl ?_;obtain ⟨Jr,h1,FE,hR0⟩:=ew h0;refine kEx 0 (λ v53:Unit=>Jr=.inl v53) (λ v53=>⟨[(1,.p (eI Fb)),(2,.ptr 2 0)],[(2,(ag.cs Fg).map .p)]⟩) (λ v53 hv=>?_) ?_
 ·have h0:=FE _ hv;refine nx 7 rfl ?_;obtain ⟨o54,h1,FE,hR0⟩:=ew h0;refine kEx 2 (λ v55:Unit=>o54=.inl v55) (λ v55=>⟨[],[]⟩) (λ v55 hv=>?_) ?_
  ·have h0:=FE _ hv;exact nx 6 Z (mQ (oi h0) Z (sr))
  refine lG (λ (q56:Int)=>⟨[(1,.p (eI Fb)),(2,.ptr 2 0),(6,.p (eI q56))],[(2,(ag.cs Fg).map .p)]⟩) (λ m (q56:Int)=>d6 (fy n) Fg Fb m q56) Y 0 h1 (gE rfl rfl) ?_;rintro m i40 h1;replace h1:d6 (fy n) Fg Fb (m+1) i40=some o54:=h1;rw [d6] at h1;refine nx 6 rfl (oLl (f:=aD) rfl rfl ?_);refine nx 2 rfl (fD [47] h1 rfl (λ c41 h1=>?_) λ c41 h1=>?_)
  ·refine nx 9 Z (oE h1 ag.Eh Z Z Y λ HV h1=>?_);refine nx 2 Z (oA h1 Z Z λ Jc h1=>?_);refine bd h1 λ r44 LA h1=>oK (Gd (lat Fg.Em i40) (Fb+1) _ LA) Z ⟨sr,sr,trivial⟩ Tryz.call87 Z (nx 7 Z ?_);refine fN [59] h1 Z (λ c46 h1=>?_) λ c46 h1=>?_
   ·refine nx 4 Z (oA h1 Z Z λ hk47 h1=>?_);exact nx 2 Z (eX (i40+1) h1 (gE Z Z))
   exact nx 7 Z (mQ (hR0 _ (oi h1).symm) Z (sr))
  exact nx 2 Z (eXi _ (oi h1).symm (gE Z Z))
 refine lG (λ (q57:Int)=>⟨[(1,.p (eI Fb)),(2,.ptr 2 0),(5,.p (eI q57))],[(2,(ag.cs Fg).map .p)]⟩) (λ m (q57:Int)=>ea n Fg m q57) Y 0 h1 (gE rfl rfl) ?_;rintro m i18 h1;replace h1:ea n Fg (m+1) i18=some Jr:=h1;rw [ea] at h1;refine nx 6 rfl (oLl (f:=eS) rfl rfl ?_);refine nx 2 rfl (fD [17] h1 rfl (λ GI h1=>?_) λ GI h1=>?_)
 ·refine nx 10 Z (oE h1 Y Z Z Y λ FI h1=>?_);refine nx 1 Z (bd h1 λ FT IR h1=>?_);refine oK (iI _ (lat Fg.Df i18) _ IR) Z ⟨sr,trivial⟩ Tryz.call86 Z (nx 2 Z ?_);refine fB [26] h1 Z (λ GM h1=>?_) λ GM h1=>?_
  ·exact nx 6 Z (mQ (hR0 _ (oi h1).symm) Z (sr))
  refine nx 3 Z (bd h1 λ o58 h2 h1=>?_);refine kN o58 (λ v59=>⟨[(1,.p (eI Fb)),(2,.ptr 2 0),(5,.p (eI i18)),(42,.p (eB v59))],[(2,(ag.cs Fg).map .p)]⟩) ?_ ?_
  ·refine nx 1 Z (fB [42] h1 Z (λ Jk h1=>?_) λ Jk h1=>?_)
   ·exact nx 6 Z (mQ (hR0 _ (oi h1).symm) Z (sr))
   refine nx 4 Z (oA h1 Z Z λ H3 h1=>?_);exact nx 2 Z (eX (i18+1) h1 (gE Z Z))
  refine fD (p:=0<i18) [] h2 Z (λ Ig h2=>?_) λ Ig h2=>?_
  ·refine cc' h2 λ H6 h2=>cc' h2 λ Gr h2=>cc' h2 λ H5 h2=>mD [(1,.p (eI Fb)),(2,.ptr 2 0),(5,.p (eI i18))] Z ⟨Z,Z,Z,trivial⟩ Z (dR 1 Z ?_);refine dL (dt Ig) Z (dR 4 Z ?_);refine dq (.p (eI (i18-1))) [29,32] Z (λ _ e _ q=>ff (pi Z Z Z (e _ _ Z) Z Z H6 q) Z Z (e _ _ Z) (rfl)) Z (dq (.rptr [eS (lat Fg.Df (i18-1))]) [29,31,33] Z (λ _ e _ q=>ff (g5 (f:=eS) (l:=Fg.Df) (λ x=>[eS x]) Z Z Z Z Z Z (e _ _ Z) Z (e _ _ Z) Gr Y Y q) Z Z (e _ _ Z) (rfl)) Z ?_);refine dR 4 Z (dq (.rptr [eS (lat Fg.Df i18)]) [29,37,38] Z (λ _ e _ q=>ff (g5 (f:=eS) (l:=Fg.Df) (λ x=>[eS x]) Z Z Z Z Z Z (e _ _ Z) Z (e _ _ Z) H5 Y Y q) Z Z (e _ _ Z) (rfl)) Z ?_);refine dR 1 Z (dq (.p (eB (!Op.bytesLess (lat Fg.Df (i18-1)) (lat Fg.Df i18)))) [29,35,40] Z (λ _ e _ q=>ff (kH Z Z Z (e _ _ Z) (e _ _ Z) Z q) Z Z (e _ _ Z) (rfl)) Z ?_);refine dR 1 Z (dE Z ?_);exact nx 1 Z (eX _ (oi h2).symm (gE Z Z))
  refine mD [(1,.p (eI Fb)),(2,.ptr 2 0),(5,.p (eI i18))] Z ⟨Z,Z,Z,trivial⟩ Z (dR 1 Z ?_);refine dL (df Ig) Z (dR 14 Z ?_);refine dE Z (nx 1 Z ?_);exact eX _ (oi h2).symm (gE Z Z)
 exact nx 2 Z (eXi _ (oi h1).symm (gE Z Z))
def jr (n:Nat)(Fg:ag):Option Int :=(fy n Fg 1).bind λ r1=>some r1
theorem mM (n:Nat)(Fg:ag)(r:Int)(h0:jr n Fg=some r):aB Tryz.prog 55 [.agg (ag.cs Fg)] (·=.p (eI r)):=by
 unfold jr at h0;refine aZ good Tryz.func55 Z Z Z λ w0=>mP (λ v:Int=>.p (eI v)) ?_;refine nx 8 Z (bd h0 λ r1 e2 h0=>?_);refine oK (rL _ Fg 1 _ e2) Z ⟨sr,sr,trivial⟩ Tryz.call87 Z (nx 3 Z ?_);exact mQ (oi h0) Z (sr)
def lq (n:Nat)(a_0:aF)(before_1:Az)(first_2:Bool):Option Int :=(eC n a_0.By).bind λ r1=>if (!r1)=true then some 7 else(if (!first_2)=true then some (Op.bytesLess a_0.By before_1||decide (a_0.By=before_1))else some false : Option Bool).bind λ t5=>if t5=true then some 1 else(jr n a_0.Ei).bind λ r7=>if r7=0 then(if a_0.EC<1 then some true else some (decide (4<a_0.EC)) : Option Bool).bind λ FB=>if FB=true then some 1 else(if a_0.EM=true then if a_0.EC=1 then some true else some (decide (a_0.EC=2))else some false : Option Bool).bind λ t15=>if t15=true then some 1 else some 0 else some r7
theorem sX (n:Nat)(a_0:aF)(before_1:Az)(first_2:Bool)(r:Int)(h0:lq n a_0 before_1 first_2=some r):aB Tryz.prog 85 [.agg (aF.cs a_0),eS before_1,eB first_2] (·=.p (eI r)):=by
 unfold lq at h0;refine aZ good Tryz.func85 Z Z Z λ w0=>mP (λ v:Int=>.p (eI v)) ?_;refine nx 10 Z (bd h0 λ r1 e2 h0=>?_);refine oK (iI _ a_0.By _ e2) Z ⟨sr,trivial⟩ Tryz.call86 Z (nx 2 Z ?_);refine fB [11] h0 Z (λ c3 h0=>?_) λ c3 h0=>?_
 ·exact nx 6 Z (mQ (oi h0) Z (sr))
 refine nx 4 Z (bd h0 λ Kn h1 h0=>?_);refine kN Kn (λ v21=>⟨[(3,.ptr 3 0),(19,.p (eB v21))],[(3,(aF.cs a_0).map .p)]⟩) ?_ ?_
 ·refine nx 1 Z (fB [19] h0 Z (λ c6 h0=>?_) λ c6 h0=>?_)
  ·exact nx 6 Z (mQ (oi h0) Z (sr))
  refine nx 6 Z (bd h0 λ r7 e8 h0=>?_);refine oK (mM _ a_0.Ei _ e8) Z ⟨sr,trivial⟩ Tryz.call55 Z (nx 8 Z ?_);refine fN [24] h0 Z (λ c9 h0=>?_) λ c9 h0=>?_
  ·refine nx 4 Z (bd h0 λ K3 h1 h0=>?_);refine kN K3 (λ Kz=>⟨[(3,.ptr 3 0),(33,.p (eB Kz))],[(3,(aF.cs a_0).map .p)]⟩) ?_ ?_
   ·refine nx 1 Z (fB [33] h0 Z (λ Hy h0=>?_) λ Hy h0=>?_)
    ·exact nx 6 Z (mQ (oi h0) Z (sr))
    refine nx 4 Z (bd h0 λ o24 h1 h0=>?_);refine kN o24 (λ v25=>⟨[(45,.p (eB v25))],[]⟩) ?_ ?_
    ·refine nx 1 Z (fB [45] h0 Z (λ Ih h0=>?_) λ Ih h0=>?_)
     ·exact nx 6 Z (mQ (oi h0) Z (sr))
     exact nx 7 Z (mQ (oi h0) Z (sr))
    refine nx 4 Z (fB [35,36] h1 Z (λ GA h1=>?_) λ GA h1=>?_)
    ·refine nx 4 Z (fD [39,40] h1 Z (λ IT h1=>?_) λ IT h1=>?_)
     ·exact nx 6 Z (eX _ (oi h1).symm (gE Z Z))
     exact nx 6 Z (eX _ (oi h1).symm (gE Z Z))
    exact nx 10 Z (eX _ (oi h1).symm (gE Z Z))
   refine nx 5 Z (fD [28,29] h1 Z (λ GD h1=>?_) λ GD h1=>?_)
   ·exact nx 5 Z (eX _ (oi h1).symm (gE Z Z))
   exact nx 5 Z (eX _ (oi h1).symm (gE Z Z))
  exact nx 7 Z (mQ (oi h0) Z (sr))
 refine nx 4 Z (fB [13,14] h1 Z (λ c4 h1=>?_) λ c4 h1=>?_)
 ·refine nx 3 Z (oS Z Z ?_);exact nx 2 Z (eX _ (oi h1).symm (gE Z Z))
 exact nx 6 Z (eX _ (oi h1).symm (gE Z Z))
def ef (n:Nat)(l_0:List aF)(nested_1:Bool):Nat->Az->Int->Option (Unit⊕Int)|0,_,_=>none|m+1,before16,i17=>if i17<(l_0.length:Int) then ck ((0:Int)<=i17/\i17<(l_0.length:Int))<|(lq n (lat l_0 i17) before16 (decide (i17=0))).bind λ F0=>if F0=0 then(if nested_1=true then ck ((0:Int)<=i17/\i17<(l_0.length:Int))<|if (lat l_0 i17).EC=1 then some false else ck ((0:Int)<=i17/\i17<(l_0.length:Int))<|some (!decide ((lat l_0 i17).EC=2))else some false : Option Bool).bind λ t27=>if t27=true then some (.inr 1)else ck ((0:Int)<=i17/\i17<(l_0.length:Int))<|ck (inR (i17+1))<|ef n l_0 nested_1 m ((lat l_0 i17).By) (i17+1)else some (.inr F0)else some (.inl ())
def jk (n:Nat)(l_0:List aF)(nested_1:Bool):Option Int :=jn (ef n l_0 nested_1 n ([]:Az) 0) λ _q33=>some 0
theorem mL (n:Nat)(l_0:List aF)(nested_1:Bool)(r:Int)(h0:jk n l_0 nested_1=some r):aB Tryz.prog 52 [eL a8 l_0,eB nested_1] (·=.p (eI r)):=by
 unfold jk at h0;refine aZ good Tryz.func52 Z Z Z λ w0=>mP (λ v:Int=>.p (eI v)) ?_;refine nx 14 rfl ?_;obtain ⟨o35,h1,FE,hR0⟩:=ew h0;refine kEx 0 (λ v36:Unit=>o35=.inl v36) (λ v36=>⟨[],[]⟩) (λ v36 hv=>?_) ?_
 ·have h0:=FE _ hv;exact nx 6 Z (mQ (oi h0) Z (sr))
 refine lG (λ (KN:Az×Int)=>⟨[(0,.p (eL a8 l_0)),(1,.p (eB nested_1)),(5,.p (eS KN.1)),(6,.p (eI KN.2))],[]⟩) (λ m (KN:Az×Int)=>ef n l_0 nested_1 m KN.1 KN.2) Y (([]:Az),0) h1 (gE rfl rfl) ?_;rintro m ⟨before16,i17⟩ h1;replace h1:ef n l_0 nested_1 (m+1) before16 i17=some o35:=h1;rw [ef] at h1;refine nx 5 rfl (oLl (f:=a8) rfl rfl ?_);refine nx 2 rfl (fD [11] h1 rfl (λ Jl h1=>?_) λ Jl h1=>?_)
 ·refine nx 8 Z (oE h1 aF.Eh Z Z Y λ Hm h1=>?_);refine nx 4 Z (bd h1 λ F0 J5 h1=>?_);refine oK (sX _ (lat l_0 i17) before16 (decide (i17=0)) _ J5) Z ⟨sr,sr,sr,trivial⟩ Tryz.call85 Z (nx 8 Z ?_);refine fN [23] h1 Z (λ Kd h1=>?_) λ Kd h1=>?_
  ·refine nx 4 Z (bd h1 λ IZ h2 h1=>?_);refine kN IZ (λ Is=>⟨[(0,.p (eL a8 l_0)),(1,.p (eB nested_1)),(6,.p (eI i17)),(41,.p (eB Is))],[]⟩) ?_ ?_
   ·refine nx 1 Z (fB [41] h1 Z (λ Ie h1=>?_) λ Ie h1=>?_)
    ·exact nx 6 Z (mQ (hR0 _ (oi h1).symm) Z (sr))
    refine nx 5 Z (oE h1 aF.Eh Z Z Y λ Je h1=>?_);refine nx 6 Z (oA h1 Z Z λ H3 h1=>?_);exact nx 2 Z (eX ((lat l_0 i17).By,i17+1) h1 (gE Z Z))
   refine nx 3 Z (fB [1,25,26] h2 Z (λ GM h2=>?_) λ GM h2=>?_)
   ·refine nx 2 Z (oE h2 aF.Eh Z Z Y λ GQ h2=>?_);refine nx 5 Z (fN [32,33,34] h2 Z (λ G8 h2=>?_) λ G8 h2=>?_)
    ·exact nx 8 Z (eX _ (oi h2).symm (cF (iB ⟨er Z,⟨_,Z,m7 GM.symm⟩,er Z,er Z,trivial⟩ trivial)))
    refine nx 2 Z (oE h2 aF.Eh Z Z Y λ Gr h2=>?_);exact nx 5 Z (eX _ (oi h2).symm (cF (iB ⟨er Z,⟨_,Z,m7 GM.symm⟩,er Z,er Z,trivial⟩ trivial)))
   exact nx 16 Z (eX _ (oi h2).symm (cF (iB ⟨er Z,⟨_,Z,m7 GM.symm⟩,er Z,er Z,trivial⟩ trivial)))
  exact nx 7 Z (mQ (hR0 _ (oi h1).symm) Z (sr))
 exact nx 2 Z (eXi _ (oi h1).symm (gE Z Z))
def eO (l_0:List aF)(name_1:Az):Nat->Int->Option (Unit⊕(aF×Bool))|0,_=>none|m+1,i7=>if i7<(l_0.length:Int) then ck ((0:Int)<=i7/\i7<(l_0.length:Int))<|if (lat l_0 i7).By=name_1 then ck ((0:Int)<=i7/\i7<(l_0.length:Int))<|some (.inr ((lat l_0 i7),true))else ck (inR (i7+1))<|eO l_0 name_1 m (i7+1)else some (.inl ())
def jT (n:Nat)(l_0:List aF)(name_1:Az):Option (aF×Bool) :=jn (eO l_0 name_1 n 0) λ _q14=>some ((aF.mk ([]:Az) (ag.mk 0 [] []) 0 false false false),false)
theorem oc (n:Nat)(l_0:List aF)(name_1:Az)(r:aF×Bool)(h0:jT n l_0 name_1=some r):aB Tryz.prog 54 [eL a8 l_0,eS name_1] (·=.tuple [.p (.agg (aF.cs r.1)),.p (eB r.2)]):=by
 unfold jT at h0;refine aZ good Tryz.func54 Z Z Z λ w0=>mP (λ v:aF×Bool=>.tuple [.p (.agg (aF.cs v.1)),.p (eB v.2)]) ?_;refine nx 11 rfl ?_;obtain ⟨HO,h1,FE,hR0⟩:=ew h0;refine kEx 0 (λ HA:Unit=>HO=.inl HA) (λ HA=>⟨[(4,.ptr 4 0)],[(4,[.p (eS ([]:Az)),.p (eI 0),.p (.val (.slice none 0 0)),.p (.val (.slice none 0 0)),.p (eI 0),.p (eB false),.p (eB false),.p (eB false)])]⟩) (λ HA hv=>?_) ?_
 ·have h0:=FE _ hv;exact nx 8 Z (mQ (oi h0) Z (bj ⟨cv ⟨.inl Z,.inl Z,.inr ⟨Z,Z⟩,.inr ⟨Z,Z⟩,.inl Z,.inl Z,.inl Z,.inl Z,trivial⟩,sr,trivial⟩))
 refine lG (λ (q17:Int)=>⟨[(0,.p (eL a8 l_0)),(1,.p (eS name_1)),(4,.ptr 4 0),(6,.p (eI q17))],[(4,[.p (eS ([]:Az)),.p (eI 0),.p (.val (.slice none 0 0)),.p (.val (.slice none 0 0)),.p (eI 0),.p (eB false),.p (eB false),.p (eB false)])]⟩) (λ m (q17:Int)=>eO l_0 name_1 m q17) Y 0 h1 (gE rfl rfl) ?_;rintro m i7 h1;replace h1:eO l_0 name_1 (m+1) i7=some HO:=h1;rw [eO] at h1;refine nx 5 rfl (oLl (f:=a8) rfl rfl ?_);refine nx 2 rfl (fD [10] h1 rfl (λ c8 h1=>?_) λ c8 h1=>?_)
 ·refine nx 8 Z (oE h1 aF.Eh Z Z Y λ hk9 h1=>?_);refine nx 3 Z (oS Z Z ?_);refine nx 1 Z (fD [19] h1 Z (λ GD h1=>?_) λ GD h1=>?_)
  ·refine nx 5 Z (oE h1 aF.Eh Z Z Y λ H8 h1=>?_);exact nx 5 Z (mQ (hR0 _ (oi h1).symm) Z (bj ⟨sr,sr,trivial⟩))
  refine nx 4 Z (oA h1 Z Z λ Gt h1=>?_);exact nx 2 Z (eX (i7+1) h1 (gE Z Z))
 exact nx 2 Z (eXi _ (oi h1).symm (gE Z Z))
def kZ (n:Nat)(E5:au)(Fa:Int):Option Int :=ck ((0:Int)<=Fa/\Fa<(E5.AT.length:Int))<|(eC n ((lat E5.AT Fa).By)).bind λ r2=>if (!r2)=true then some 7 else(if 0<Fa then ck (inR (Fa-1))<|ck ((0:Int)<=Fa-1/\Fa-1<(E5.AT.length:Int))<|some (Op.bytesLess ((lat E5.AT Fa).By) ((lat E5.AT (Fa-1)).By)||decide ((lat E5.AT Fa).By=(lat E5.AT (Fa-1)).By))else some false : Option Bool).bind λ t8=>if t8=true then some 1 else(jT n E5.C' ((lat E5.AT Fa).By)).bind λ Gl=>if Gl.2=true then some 8 else(if (lat E5.AT Fa).EI<0 then some true else if (lat E5.AT Fa).EJ<(lat E5.AT Fa).EI then some true else some (decide (256<(lat E5.AT Fa).EJ)) : Option Bool).bind λ t15=>if t15=true then some 1 else if 64<(((lat E5.AT Fa).C').length:Int) then some 14 else(jk n ((lat E5.AT Fa).C') true).bind λ GE=>some GE
theorem sW (n:Nat)(E5:au)(Fa:Int)(r:Int)(h0:kZ n E5 Fa=some r):aB Tryz.prog 53 [.agg (au.cs E5),eI Fa] (·=.p (eI r)):=by
 unfold kZ at h0;refine aZ good Tryz.func53 Z Z Z λ w0=>mP (λ v:Int=>.p (eI v)) ?_;refine nx 10 Z (oE h0 aR.Eh Z Z Y λ Hw h0=>?_);refine nx 9 Z (bd h0 λ r2 e3 h0=>?_);refine oK (iI _ ((lat E5.AT Fa).By) _ e3) Z ⟨sr,trivial⟩ Tryz.call86 Z (nx 2 Z ?_);refine fB [16] h0 Z (λ c4 h0=>?_) λ c4 h0=>?_
 ·exact nx 6 Z (mQ (oi h0) Z (sr))
 refine nx 4 Z (bd h0 λ K3 h1 h0=>?_);refine kN K3 (λ Kz=>⟨[(2,.ptr 2 0),(5,.ptr 5 0),(30,.p (eB Kz))],[(2,(au.cs E5).map .p),(5,(aR.cs (lat E5.AT Fa)).map .p)]⟩) ?_ ?_
 ·refine nx 1 Z (fB [30] h0 Z (λ c9 h0=>?_) λ c9 h0=>?_)
  ·exact nx 6 Z (mQ (oi h0) Z (sr))
  refine nx 8 Z (bd h0 λ Gl J9 h0=>?_);refine oK (oc _ E5.C' ((lat E5.AT Fa).By) _ J9) Z ⟨sr,sr,trivial⟩ Tryz.call54 Z (nx 12 Z ?_);refine fB [7,38,39] h0 Z (λ Hy h0=>?_) λ Hy h0=>?_
  ·exact nx 6 Z (mQ (oi h0) Z (sr))
  refine nx 4 Z (bd h0 λ o24 h1 h0=>?_);refine kN o24 (λ v25=>⟨[(5,.ptr 5 0),(54,.p (eB v25))],[(5,(aR.cs (lat E5.AT Fa)).map .p)]⟩) ?_ ?_
  ·refine nx 1 Z (fB [54] h0 Z (λ Ih h0=>?_) λ Ih h0=>?_)
   ·exact nx 6 Z (mQ (oi h0) Z (sr))
   refine nx 7 Z (oLl (f:=a8) Z Z ?_);refine nx 2 Z (fD [58] h0 Z (λ G9 h0=>?_) λ G9 h0=>?_)
   ·exact nx 6 Z (mQ (oi h0) Z (sr))
   refine nx 6 Z (bd h0 λ GE J6 h0=>?_);refine oK (mL _ ((lat E5.AT Fa).C') true _ J6) Z ⟨sr,sr,trivial⟩ Tryz.call52 Z (nx 3 Z ?_);exact mQ (oi h0) Z (sr)
  refine nx 5 Z (fD [42,43] h1 Z (λ GA h1=>?_) λ GA h1=>?_)
  ·exact nx 12 Z (eX _ (oi h1).symm (gE Z Z))
  refine nx 7 Z (fD [48,49,50] h1 Z (λ IT h1=>?_) λ IT h1=>?_)
  ·exact nx 5 Z (eX _ (oi h1).symm (gE Z Z))
  exact nx 5 Z (eX _ (oi h1).symm (gE Z Z))
 refine fD (p:=0<Fa) [] h1 Z (λ c5 h1=>?_) λ c5 h1=>?_
 ·refine cc' h1 λ JY h1=>cc' h1 λ Lo h1=>mD [(1,.p (eI Fa)),(2,.ptr 2 0),(5,.ptr 5 0)] Z ⟨Z,Z,Z,trivial⟩ Z (dR 1 Z ?_);refine dL (dt c5) Z (dR 6 Z ?_);refine dq (.p (eI (Fa-1))) [19,24] Z (λ _ e _ q=>ff (pi Z Z Z (e _ _ Z) Z Z JY q) Z Z (e _ _ Z) (rfl)) Z (dq (.rptr (aR.cs (lat E5.AT (Fa-1)))) [19,23,25] Z (λ _ e _ q=>ff (g5 (f:=bc) (l:=E5.AT) aR.cs Z Z Z Z Z Z (e _ _ Z) Z (e _ _ Z) Lo aR.Eh Y q) Z Z (e _ _ Z) (rfl)) Z ?_);refine dR 2 Z (dq (.p (eB (Op.bytesLess ((lat E5.AT Fa).By) ((lat E5.AT (Fa-1)).By)||decide ((lat E5.AT Fa).By=(lat E5.AT (Fa-1)).By)))) [19,21,28] Z (λ _ e _ q=>ff (kH Z Z Z (e _ _ Z) (e _ _ Z) Z q) Z Z (e _ _ Z) (rfl)) Z ?_);refine dR 1 Z (dE Z ?_);exact nx 1 Z (eX _ (oi h1).symm (gE Z Z))
 refine mD [(1,.p (eI Fa)),(2,.ptr 2 0),(5,.ptr 5 0)] Z ⟨Z,Z,Z,trivial⟩ Z (dR 1 Z ?_);refine dL (df c5) Z (dR 12 Z ?_);refine dE Z (nx 1 Z ?_);exact eX _ (oi h1).symm (gE Z Z)
def dI (l_0:List aF):Nat->Int->(List ag)->(List Az)->Option ((List ag)×(List Az))|0,_,_,_=>none|m+1,i10,GH,FS=>if i10<(l_0.length:Int) then ck ((0:Int)<=i10/\i10<(l_0.length:Int))<|ck ((FS.length+[(lat l_0 i10).By].length)*16<=140737488355328)<|ck ((0:Int)<=i10/\i10<(l_0.length:Int))<|ck ((GH.length+[((lat l_0 i10).Ei)].length)*56<=140737488355328)<|ck (inR (i10+1))<|dI l_0 m (i10+1) (GH++[((lat l_0 i10).Ei)]) (FS++[(lat l_0 i10).By])else some (GH,FS)
def jP (n:Nat)(l_0:List aF):Option ag :=(dI l_0 n 0 [] []).bind λ q24=>some (ag.mk 6 q24.1 q24.2)
theorem qP (n:Nat)(l_0:List aF)(r:ag)(h0:jP n l_0=some r):aB Tryz.prog 88 [eL a8 l_0] (·=.p (.agg (ag.cs r))):=by
 unfold jP at h0;refine aZ good Tryz.func88 Z Z Z λ w0=>mP (λ v:ag=>.p (.agg (ag.cs v))) ?_;refine nx 16 Z (bd h0 λ HM h1 h0=>?_);refine kE 0 HM (λ IU=>⟨[(2,.ptr 2 0),(3,.ptr 3 0)],[(2,[.p (eI 0),.p (.val (.slice none 0 0)),.p (.val (.slice none 0 0))]),(3,[.p (eI 6),.vec 30 3 0 (IU.1.map aD),.vec 20 1 0 (IU.2.map eS)])]⟩) ?_ ?_
 ·exact nx 7 Z (mQ (oi h0) Z (gG ⟨sr,AV.sub_vec _ _ _ _,AV.sub_vec _ _ _ _,trivial⟩))
 refine lG (λ (GL:Int×(List ag)×(List Az))=>⟨[(0,.p (eL a8 l_0)),(2,.ptr 2 0),(3,.ptr 3 0),(4,.p (eI GL.1))],[(2,[.p (eI 0),.p (.val (.slice none 0 0)),.p (.val (.slice none 0 0))]),(3,[.p (eI 6),.vec 30 3 0 (GL.2.1.map aD),.vec 20 1 0 (GL.2.2.map eS)])]⟩) (λ m (GL:Int×(List ag)×(List Az))=>dI l_0 m GL.1 GL.2.1 GL.2.2) Y (0,[],[]) h1 (cF (iB ⟨er rfl,er rfl,er rfl,er rfl,trivial⟩ ⟨⟨_,rfl,⟨sr,sr,sr,trivial⟩⟩,⟨_,rfl,⟨sr,AV.sub_nilvec _ _ _,AV.sub_nilvec _ _ _,trivial⟩⟩,trivial⟩)) ?_;rintro m ⟨i10,GH,FS⟩ h1;replace h1:dI l_0 (m+1) i10 GH FS=some HM:=h1;rw [dI] at h1;refine nx 5 rfl (oLl (f:=a8) rfl rfl ?_);refine nx 2 rfl (fD [9] h1 rfl (λ GA h1=>?_) λ GA h1=>?_)
 ·refine nx 5 Z (cc' h1 λ GG h1=>?_);refine cc' h1 λ Gs h1=>mG (gE (t:=⟨[(0,.p (eL a8 l_0)),(2,.ptr 2 0),(3,.ptr 3 0),(4,.p (eI i10))],[(2,[.p (eI 0),.p (.val (.slice none 0 0)),.p (.val (.slice none 0 0))]),(3,[.p (eI 6),.vec 30 3 0 (GH.map aD),.vec 20 1 0 (FS.map eS)])]⟩) Z Z) (mS ⟨2,[8,10],(by3 (.some λ i=>Nat.beq i 20||Nat.beq i 20) .none .none),(λ _=>[(0,.p (eL a8 l_0)),(2,.ptr 2 0),(3,.ptr 3 0),(4,.p (eI i10))]),(by3 ([(2,[.p (eI 0),.p (.val (.slice none 0 0)),.p (.val (.slice none 0 0))]),(3,[.p (eI 6),.vec 30 3 0 (GH.map aD),.vec 20 1 0 (FS.map eS)])]) ([(2,[.p (eI 0),.p (.val (.slice none 0 0)),.p (.val (.slice none 0 0))]),(3,[.p (eI 6),.vec 30 3 0 (GH.map aD),.p (eL eS FS)])]) ([(3,[.p (eI 6),.vec 30 3 0 (GH.map aD),.vec 20 1 0 ((FS++[(lat l_0 i10).By]).map eS)]),(2,[.p (eI 0),.p (.val (.slice none 0 0)),.p (.val (.slice none 0 0))]),(3,[.p (eI 6),.vec 30 3 0 (GH.map aD),.p (eL eS FS)])]))⟩ Z Z Z ⟨Z,Z,Z,Z,trivial⟩ (lt2 ⟨Z,Z,Z,Z,trivial⟩ ⟨Z,Z,Z,Z,trivial⟩) Z Z Z Z ?_);refine ak (λ _=>.ptr 3 2) Z Z Z (bR Z Z Y) (lt2 Z Z) (ai Z (af [(3,_)] ⟨.inl Z,trivial⟩ (λ sl E6 K hK=>ae Z (ap Z Z Z Z Z Z Z Z (E6 _ _ Z) hK)) (af [(3,_)] ⟨.inl Z,trivial⟩ (λ sl E6 K hK=>ae Z (ap Z Z Z Z Z Z Z Z (E6 _ _ Z) hK)) aj))) (ak (by3 (.vec 20 1 0 (FS.map eS)) (.p (eL eS FS)) (.p (eL eS FS))) Z Z Z (bR Z Z Y) (lt2 Z Z) (ai Z (ai Z (af [(12,_)] ⟨.inr ⟨0,_,Z,Z,Z⟩,trivial⟩ (λ sl E6 K hK=>ae Z (bv Z Z Z Z Z (E6 _ _ Z) Z Z hK)) aj))) ?_);refine ak (λ _=>.p (eL a8 l_0)) Z Z Z (bR Z Z Y) (lt2 Z Z) (ai Z (af [(0,_)] ⟨.inl Z,trivial⟩ (λ sl E6 K hK=>ae Z (bH Z Z Z (E6 _ _ Z) hK)) (af [(0,_)] ⟨.inl Z,trivial⟩ (λ sl E6 K hK=>ae Z (bH Z Z Z (E6 _ _ Z) hK)) aj))) (ak (λ _=>.p (eI i10)) Z Z Z (bR Z Z Y) (lt2 Z Z) (ai Z (af [(4,_)] ⟨.inl Z,trivial⟩ (λ sl E6 K hK=>ae Z (bH Z Z Z (E6 _ _ Z) hK)) (af [(4,_)] ⟨.inl Z,trivial⟩ (λ sl E6 K hK=>ae Z (bH Z Z Z (E6 _ _ Z) hK)) aj))) ?_);refine ak (λ _=>.rptr (aF.cs (lat l_0 i10))) Z Z Z (bR Z Z Y) (lt2 Z Z) (ai Z (af [(14,_),(15,_)] ⟨.inr ⟨2,_,Z,Z,Z⟩,.inr ⟨3,_,Z,Z,Z⟩,trivial⟩ (λ sl E6 K hK=>ae Z (g5 (f:=a8) (l:=l_0) aF.cs Z Z Z Z Z Z (E6 _ _ Z) Z (E6 _ _ Z) GG aF.Eh Y hK)) (af [(14,_),(15,_)] ⟨.inr ⟨2,_,Z,Z,Z⟩,.inr ⟨3,_,Z,Z,Z⟩,trivial⟩ (λ sl E6 K hK=>ae Z (g5 (f:=a8) (l:=l_0) aF.cs Z Z Z Z Z Z (E6 _ _ Z) Z (E6 _ _ Z) GG aF.Eh Y hK)) aj))) (ak (λ _=>.rptr (List.drop 0 (aF.cs (lat l_0 i10)))) Z Z Z (bR Z Z Y) (lt2 Z Z) (ai Z (af [(16,_)] ⟨.inr ⟨4,_,Z,Z,Z⟩,trivial⟩ (λ sl E6 K hK=>ae Z (cQ Z Z Z Z Z Z Z Z (E6 _ _ Z) hK)) (af [(16,_)] ⟨.inr ⟨4,_,Z,Z,Z⟩,trivial⟩ (λ sl E6 K hK=>ae Z (cQ Z Z Z Z Z Z Z Z (E6 _ _ Z) hK)) aj))) ?_);refine ak (λ _=>.p (eS ((lat l_0 i10).By))) Z Z Z (bR Z Z Y) (lt2 Z Z) (ai Z (af [(17,_)] ⟨.inr ⟨5,_,Z,Z,Z⟩,trivial⟩ (λ sl E6 K hK=>ae Z (iq Z Z Z Z Z (E6 _ _ Z) Z hK)) (af [(17,_)] ⟨.inr ⟨5,_,Z,Z,Z⟩,trivial⟩ (λ sl E6 K hK=>ae Z (iq Z Z Z Z Z (E6 _ _ Z) Z hK)) aj))) (ak (λ _=>.p (eL eS [(lat l_0 i10).By])) Z Z Z (bR Z Z Y) (lt2 Z Z) (ai Z (ai Z (af [(18,_)] ⟨.inr ⟨6,_,Z,Z,Z⟩,trivial⟩ (λ sl E6 K hK=>ae Z (bM eS [(lat l_0 i10).By] Z Z Z Z Z Z (cj (E6 _ _ Z) Z dS) Z Z Z Z Z Z Z hK)) aj))) ?_);refine fL (λ _=>.vec 20 1 0 ((FS++[(lat l_0 i10).By]).map eS)) [(13,_),(19,_)] Z ⟨.inr ⟨1,_,Z,Z,Z⟩,.inr ⟨7,_,Z,Z,Z⟩,trivial⟩ Z Z (cV Z Y) (lt2 (λ h=>absurd h (by decide)) Y) (λ sl E6 K hK=>ae Z (cW eS FS [(lat l_0 i10).By] Z Z Z Z Z Z Z Z (E6 _ _ Z) Z Z (E6 _ _ Z) Z Y Z Z Z Z Gs hK)) (ak (λ _=>.ptr 3 2) Z Z Z (bR Z Z Y) (lt2 Z Z) (ai Z (af [(3,_)] ⟨.inl Z,trivial⟩ (λ sl E6 K hK=>ae Z (ap Z Z Z Z Z Z Z Z (E6 _ _ Z) hK)) (ai Z aj))) ?_);refine ep [(20,_),(21,_)] Z ⟨.inr ⟨8,_,Z,Z,Z⟩,.inr ⟨9,_,Z,Z,Z⟩,trivial⟩ Z (λ sl E6 K hK=>ae Z (eA Z Z Z (E6 _ _ Z) (E6 _ _ Z) Z Z Z (py Z) hK)) (gV ?_);refine nx 1 Z (cc' h1 λ Gk h1=>?_);refine cc' h1 λ IP h1=>mG (gE (t:=⟨[(0,.p (eL a8 l_0)),(2,.ptr 2 0),(3,.ptr 3 0),(4,.p (eI i10))],[(2,[.p (eI 0),.p (.val (.slice none 0 0)),.p (.val (.slice none 0 0))]),(3,[.p (eI 6),.vec 30 3 0 (GH.map aD),.vec 20 1 0 ((FS++[(lat l_0 i10).By]).map eS)])]⟩) Z Z) (mS ⟨2,[8,10],(by3 (.some λ i=>Nat.beq i 30||Nat.beq i 30) .none .none),(λ _=>[(0,.p (eL a8 l_0)),(2,.ptr 2 0),(3,.ptr 3 0),(4,.p (eI i10))]),(by3 ([(2,[.p (eI 0),.p (.val (.slice none 0 0)),.p (.val (.slice none 0 0))]),(3,[.p (eI 6),.vec 30 3 0 (GH.map aD),.vec 20 1 0 ((FS++[(lat l_0 i10).By]).map eS)])]) ([(2,[.p (eI 0),.p (.val (.slice none 0 0)),.p (.val (.slice none 0 0))]),(3,[.p (eI 6),.p (eL aD GH),.vec 20 1 0 ((FS++[(lat l_0 i10).By]).map eS)])]) ([(3,[.p (eI 6),.vec 30 3 0 ((GH++[((lat l_0 i10).Ei)]).map aD),.vec 20 1 0 ((FS++[(lat l_0 i10).By]).map eS)]),(2,[.p (eI 0),.p (.val (.slice none 0 0)),.p (.val (.slice none 0 0))]),(3,[.p (eI 6),.p (eL aD GH),.vec 20 1 0 ((FS++[(lat l_0 i10).By]).map eS)])]))⟩ Z Z Z ⟨Z,Z,Z,Z,trivial⟩ (lt2 ⟨Z,Z,Z,Z,trivial⟩ ⟨Z,Z,Z,Z,trivial⟩) Z Z Z Z ?_);refine ak (λ _=>.ptr 3 1) Z Z Z (bR Z Z Y) (lt2 Z Z) (ai Z (af [(3,_)] ⟨.inl Z,trivial⟩ (λ sl E6 K hK=>ae Z (ap Z Z Z Z Z Z Z Z (E6 _ _ Z) hK)) (af [(3,_)] ⟨.inl Z,trivial⟩ (λ sl E6 K hK=>ae Z (ap Z Z Z Z Z Z Z Z (E6 _ _ Z) hK)) aj))) (ak (by3 (.vec 30 3 0 (GH.map aD)) (.p (eL aD GH)) (.p (eL aD GH))) Z Z Z (bR Z Z Y) (lt2 Z Z) (ai Z (ai Z (af [(22,_)] ⟨.inr ⟨0,_,Z,Z,Z⟩,trivial⟩ (λ sl E6 K hK=>ae Z (bv Z Z Z Z Z (E6 _ _ Z) Z Z hK)) aj))) ?_);refine ak (λ _=>.p (eL a8 l_0)) Z Z Z (bR Z Z Y) (lt2 Z Z) (ai Z (af [(0,_)] ⟨.inl Z,trivial⟩ (λ sl E6 K hK=>ae Z (bH Z Z Z (E6 _ _ Z) hK)) (af [(0,_)] ⟨.inl Z,trivial⟩ (λ sl E6 K hK=>ae Z (bH Z Z Z (E6 _ _ Z) hK)) aj))) (ak (λ _=>.p (eI i10)) Z Z Z (bR Z Z Y) (lt2 Z Z) (ai Z (af [(4,_)] ⟨.inl Z,trivial⟩ (λ sl E6 K hK=>ae Z (bH Z Z Z (E6 _ _ Z) hK)) (af [(4,_)] ⟨.inl Z,trivial⟩ (λ sl E6 K hK=>ae Z (bH Z Z Z (E6 _ _ Z) hK)) aj))) ?_);refine ak (λ _=>.rptr (aF.cs (lat l_0 i10))) Z Z Z (bR Z Z Y) (lt2 Z Z) (ai Z (af [(24,_),(25,_)] ⟨.inr ⟨2,_,Z,Z,Z⟩,.inr ⟨3,_,Z,Z,Z⟩,trivial⟩ (λ sl E6 K hK=>ae Z (g5 (f:=a8) (l:=l_0) aF.cs Z Z Z Z Z Z (E6 _ _ Z) Z (E6 _ _ Z) Gk aF.Eh Y hK)) (af [(24,_),(25,_)] ⟨.inr ⟨2,_,Z,Z,Z⟩,.inr ⟨3,_,Z,Z,Z⟩,trivial⟩ (λ sl E6 K hK=>ae Z (g5 (f:=a8) (l:=l_0) aF.cs Z Z Z Z Z Z (E6 _ _ Z) Z (E6 _ _ Z) Gk aF.Eh Y hK)) aj))) (ak (λ _=>.rptr (List.drop 1 (aF.cs (lat l_0 i10)))) Z Z Z (bR Z Z Y) (lt2 Z Z) (ai Z (af [(26,_)] ⟨.inr ⟨4,_,Z,Z,Z⟩,trivial⟩ (λ sl E6 K hK=>ae Z (cQ Z Z Z Z Z Z Z Z (E6 _ _ Z) hK)) (af [(26,_)] ⟨.inr ⟨4,_,Z,Z,Z⟩,trivial⟩ (λ sl E6 K hK=>ae Z (cQ Z Z Z Z Z Z Z Z (E6 _ _ Z) hK)) aj))) ?_);refine ak (λ _=>.p (.agg (ag.cs ((lat l_0 i10).Ei)))) Z Z Z (bR Z Z Y) (lt2 Z Z) (ai Z (af [(27,_)] ⟨.inr ⟨5,_,Z,Z,Z⟩,trivial⟩ (λ sl E6 K hK=>ae Z (lL Z Z Z Z Z (E6 _ _ Z) Z hK)) (af [(27,_)] ⟨.inr ⟨5,_,Z,Z,Z⟩,trivial⟩ (λ sl E6 K hK=>ae Z (lL Z Z Z Z Z (E6 _ _ Z) Z hK)) aj))) (ak (λ _=>.p (eL aD [((lat l_0 i10).Ei)])) Z Z Z (bR Z Z Y) (lt2 Z Z) (ai Z (ai Z (af [(28,_)] ⟨.inr ⟨6,_,Z,Z,Z⟩,trivial⟩ (λ sl E6 K hK=>ae Z (bM aD [((lat l_0 i10).Ei)] Z Z Z Z Z Z (cj (E6 _ _ Z) Z dS) Z Z Z Z Z Z (by first|rfl|(simp only [n6,ph,ag.Eo]; done)|(simp only [n6,ph,ag.Eo]; rfl)) hK)) aj))) ?_);refine fL (λ _=>.vec 30 3 0 ((GH++[((lat l_0 i10).Ei)]).map aD)) [(23,_),(29,_)] Z ⟨.inr ⟨1,_,Z,Z,Z⟩,.inr ⟨7,_,Z,Z,Z⟩,trivial⟩ Z Z (cV Z Y) (lt2 (λ h=>absurd h (by decide)) Y) (λ sl E6 K hK=>ae Z (cW aD GH [((lat l_0 i10).Ei)] Z Z Z Z Z Z Z Z (E6 _ _ Z) Z Z (E6 _ _ Z) Z (λ x=>congrArg List.length (ag.Eh x)) Z Z Z Z IP hK)) (ak (λ _=>.ptr 3 1) Z Z Z (bR Z Z Y) (lt2 Z Z) (ai Z (af [(3,_)] ⟨.inl Z,trivial⟩ (λ sl E6 K hK=>ae Z (ap Z Z Z Z Z Z Z Z (E6 _ _ Z) hK)) (ai Z aj))) ?_);refine ep [(30,_),(31,_)] Z ⟨.inr ⟨8,_,Z,Z,Z⟩,.inr ⟨9,_,Z,Z,Z⟩,trivial⟩ Z (λ sl E6 K hK=>ae Z (eA Z Z Z (E6 _ _ Z) (E6 _ _ Z) Z Z Z (py Z) hK)) (gV ?_);refine nx 3 Z (oA h1 Z Z λ GT h1=>?_);exact nx 2 Z (eX (i10+1,GH++[((lat l_0 i10).Ei)],FS++[(lat l_0 i10).By]) h1 (gE Z Z))
 exact nx 2 Z (eXi _ (oi h1).symm (gE Z Z))
def dA (n:Nat)(E5:au):Nat->Int->Int->(List ag)->(List Az)->Option ((List ag)×(List Az))|0,_,_,_,_=>none|m+1,i30,k31,FF,FN=>(if i30<(E5.C'.length:Int) then some true else some (decide (k31<(E5.AT.length:Int))) : Option Bool).bind λ KA=>if KA=true then((if k31=(E5.AT.length:Int) then some true else if i30<(E5.C'.length:Int) then ck ((0:Int)<=i30/\i30<(E5.C'.length:Int))<|ck ((0:Int)<=k31/\k31<(E5.AT.length:Int))<|some (Op.bytesLess ((lat E5.C' i30).By) ((lat E5.AT k31).By))else some false : Option Bool).bind λ t41=>if t41=true then ck ((0:Int)<=i30/\i30<(E5.C'.length:Int))<|ck ((FN.length+[(lat E5.C' i30).By].length)*16<=140737488355328)<|ck ((0:Int)<=i30/\i30<(E5.C'.length:Int))<|ck ((FF.length+[((lat E5.C' i30).Ei)].length)*56<=140737488355328)<|ck (inR (i30+1))<|some (i30+1,k31,FF++[((lat E5.C' i30).Ei)],FN++[(lat E5.C' i30).By])else ck ((0:Int)<=k31/\k31<(E5.AT.length:Int))<|ck ((FN.length+[(lat E5.AT k31).By].length)*16<=140737488355328)<|ck ((0:Int)<=k31/\k31<(E5.AT.length:Int))<|(jP n ((lat E5.AT k31).C')).bind λ Hl=>ck ((FF.length+([(ag.mk 4 [Hl] [])]).length)*56<=140737488355328)<|ck (inR (k31+1))<|some (i30,k31+1,FF++([(ag.mk 4 [Hl] [])]),FN++[(lat E5.AT k31).By]) : Option (Int×Int×(List ag)×(List Az))).bind λ q67=>dA n E5 m q67.1 q67.2.1 q67.2.2.1 q67.2.2.2 else some (FF,FN)
def lk (n:Nat)(E5:au):Option ag :=(dA n E5 n 0 0 [] []).bind λ He=>some (ag.mk 6 He.1 He.2)
theorem sC (n:Nat)(E5:au)(r:ag)(h0:lk n E5=some r):aB Tryz.prog 56 [.agg (au.cs E5)] (·=.p (.agg (ag.cs r))):=by
 unfold lk at h0;refine aZ good Tryz.func56 Z Z Z λ w0=>mP (λ v:ag=>.p (.agg (ag.cs v))) ?_;refine nx 18 Z (bd h0 λ o69 h1 h0=>?_);refine kE 0 o69 (λ v70=>⟨[(2,.ptr 2 0),(3,.ptr 3 0)],[(2,[.p (eI 0),.p (.val (.slice none 0 0)),.p (.val (.slice none 0 0))]),(3,[.p (eI 6),.vec 93 3 0 (v70.1.map aD),.vec 79 1 0 (v70.2.map eS)])]⟩) ?_ ?_
 ·exact nx 7 Z (mQ (oi h0) Z (gG ⟨sr,AV.sub_vec _ _ _ _,AV.sub_vec _ _ _ _,trivial⟩))
 refine lG (λ (HE:Int×Int×(List ag)×(List Az))=>⟨[(1,.ptr 1 0),(2,.ptr 2 0),(3,.ptr 3 0),(4,.p (eI HE.1)),(5,.p (eI HE.2.1))],[(1,(au.cs E5).map .p),(2,[.p (eI 0),.p (.val (.slice none 0 0)),.p (.val (.slice none 0 0))]),(3,[.p (eI 6),.vec 93 3 0 (HE.2.2.1.map aD),.vec 79 1 0 (HE.2.2.2.map eS)])]⟩) (λ m (HE:Int×Int×(List ag)×(List Az))=>dA n E5 m HE.1 HE.2.1 HE.2.2.1 HE.2.2.2) Y (0,0,[],[]) h1 (cF (iB ⟨er rfl,er rfl,er rfl,er rfl,er rfl,trivial⟩ ⟨⟨_,rfl,⟨sr,sr,trivial⟩⟩,⟨_,rfl,⟨sr,sr,sr,trivial⟩⟩,⟨_,rfl,⟨sr,AV.sub_nilvec _ _ _,AV.sub_nilvec _ _ _,trivial⟩⟩,trivial⟩)) ?_;rintro m ⟨i30,k31,FF,FN⟩ h1;replace h1:dA n E5 (m+1) i30 k31 FF FN=some o69:=h1;rw [dA] at h1;refine nx 2 rfl (bd h1 λ o72 h2 h1=>?_);refine kN o72 (λ v73=>⟨[(1,.ptr 1 0),(2,.ptr 2 0),(3,.ptr 3 0),(4,.p (eI i30)),(5,.p (eI k31)),(18,.p (eB v73))],[(1,(au.cs E5).map .p),(2,[.p (eI 0),.p (.val (.slice none 0 0)),.p (.val (.slice none 0 0))]),(3,[.p (eI 6),.vec 93 3 0 (FF.map aD),.vec 79 1 0 (FN.map eS)])]⟩) ?_ ?_
 ·refine nx 1 Z (fB [18] h1 Z (λ Ji h1=>?_) λ Ji h1=>?_)
  ·refine nx 2 Z (bd h1 λ KV h2 h1=>?_);refine kN KV (λ v75=>⟨[(1,.ptr 1 0),(2,.ptr 2 0),(3,.ptr 3 0),(4,.p (eI v75.1)),(5,.p (eI v75.2.1))],[(1,(au.cs E5).map .p),(2,[.p (eI 0),.p (.val (.slice none 0 0)),.p (.val (.slice none 0 0))]),(3,[.p (eI 6),.vec 93 3 0 (v75.2.2.1.map aD),.vec 79 1 0 (v75.2.2.2.map eS)])]⟩) ?_ ?_
   ·exact nx 1 Z (eX (KV.1,KV.2.1,KV.2.2.1,KV.2.2.2) h1 (gE Z Z))
   refine nx 2 Z (bd h2 λ o76 h3 h2=>?_);refine kN o76 (λ v77=>⟨[(1,.ptr 1 0),(2,.ptr 2 0),(3,.ptr 3 0),(4,.p (eI i30)),(5,.p (eI k31)),(45,.p (eB v77))],[(1,(au.cs E5).map .p),(2,[.p (eI 0),.p (.val (.slice none 0 0)),.p (.val (.slice none 0 0))]),(3,[.p (eI 6),.vec 93 3 0 (FF.map aD),.vec 79 1 0 (FN.map eS)])]⟩) ?_ ?_
   ·refine nx 1 Z (fB [45] h2 Z (λ c42 h2=>?_) λ c42 h2=>?_)
    ·refine nx 2 Z (cc' h2 λ Jc h2=>?_);refine cc' h2 λ Lw h2=>mG (gE (t:=⟨[(1,.ptr 1 0),(2,.ptr 2 0),(3,.ptr 3 0),(4,.p (eI i30)),(5,.p (eI k31))],[(1,(au.cs E5).map .p),(2,[.p (eI 0),.p (.val (.slice none 0 0)),.p (.val (.slice none 0 0))]),(3,[.p (eI 6),.vec 93 3 0 (FF.map aD),.vec 79 1 0 (FN.map eS)])]⟩) Z Z) (mS ⟨2,[9,11],(by3 (.some λ i=>Nat.beq i 79||Nat.beq i 55) .none .none),(λ _=>[(1,.ptr 1 0),(2,.ptr 2 0),(3,.ptr 3 0),(4,.p (eI i30)),(5,.p (eI k31))]),(by3 ([(1,[.p (eL a8 E5.C'),.p (eL bc E5.AT)]),(2,[.p (eI 0),.p (.val (.slice none 0 0)),.p (.val (.slice none 0 0))]),(3,[.p (eI 6),.vec 93 3 0 (FF.map aD),.vec 79 1 0 (FN.map eS)])]) ([(1,[.p (eL a8 E5.C'),.p (eL bc E5.AT)]),(2,[.p (eI 0),.p (.val (.slice none 0 0)),.p (.val (.slice none 0 0))]),(3,[.p (eI 6),.vec 93 3 0 (FF.map aD),.p (eL eS FN)])]) ([(3,[.p (eI 6),.vec 93 3 0 (FF.map aD),.vec 55 1 0 ((FN++[(lat E5.C' i30).By]).map eS)]),(1,[.p (eL a8 E5.C'),.p (eL bc E5.AT)]),(2,[.p (eI 0),.p (.val (.slice none 0 0)),.p (.val (.slice none 0 0))]),(3,[.p (eI 6),.vec 93 3 0 (FF.map aD),.p (eL eS FN)])]))⟩ Z Z Z ⟨Z,Z,Z,Z,Z,trivial⟩ (lt2 ⟨Z,Z,Z,Z,Z,trivial⟩ ⟨Z,Z,Z,Z,Z,trivial⟩) Z Z Z Z ?_);refine ak (λ _=>.ptr 3 2) Z Z Z (bR Z Z Y) (lt2 Z Z) (ai Z (af [(3,_)] ⟨.inl Z,trivial⟩ (λ sl E6 K hK=>ae Z (ap Z Z Z Z Z Z Z Z (E6 _ _ Z) hK)) (af [(3,_)] ⟨.inl Z,trivial⟩ (λ sl E6 K hK=>ae Z (ap Z Z Z Z Z Z Z Z (E6 _ _ Z) hK)) aj))) (ak (by3 (.vec 79 1 0 (FN.map eS)) (.p (eL eS FN)) (.p (eL eS FN))) Z Z Z (bR Z Z Y) (lt2 Z Z) (ai Z (ai Z (af [(46,_)] ⟨.inr ⟨0,_,Z,Z,Z⟩,trivial⟩ (λ sl E6 K hK=>ae Z (bv Z Z Z Z Z (E6 _ _ Z) Z Z hK)) aj))) ?_);refine ak (λ _=>.ptr 1 0) Z Z Z (bR Z Z Y) (lt2 Z Z) (ai Z (af [(1,_)] ⟨.inl Z,trivial⟩ (λ sl E6 K hK=>ae Z (ap Z Z Z Z Z Z Z Z (E6 _ _ Z) hK)) (af [(1,_)] ⟨.inl Z,trivial⟩ (λ sl E6 K hK=>ae Z (ap Z Z Z Z Z Z Z Z (E6 _ _ Z) hK)) aj))) (ak (λ _=>.p (eL a8 E5.C')) Z Z Z (bR Z Z Y) (lt2 Z Z) (ai Z (af [(48,_)] ⟨.inr ⟨2,_,Z,Z,Z⟩,trivial⟩ (λ sl E6 K hK=>ae Z (bv Z Z Z Z Z (E6 _ _ Z) Z Z hK)) (af [(48,_)] ⟨.inr ⟨2,_,Z,Z,Z⟩,trivial⟩ (λ sl E6 K hK=>ae Z (bv Z Z Z Z Z (E6 _ _ Z) Z Z hK)) aj))) ?_);refine ak (λ _=>.p (eI i30)) Z Z Z (bR Z Z Y) (lt2 Z Z) (ai Z (af [(4,_)] ⟨.inl Z,trivial⟩ (λ sl E6 K hK=>ae Z (bH Z Z Z (E6 _ _ Z) hK)) (af [(4,_)] ⟨.inl Z,trivial⟩ (λ sl E6 K hK=>ae Z (bH Z Z Z (E6 _ _ Z) hK)) aj))) (ak (λ _=>.rptr (aF.cs (lat E5.C' i30))) Z Z Z (bR Z Z Y) (lt2 Z Z) (ai Z (af [(49,_),(50,_)] ⟨.inr ⟨3,_,Z,Z,Z⟩,.inr ⟨4,_,Z,Z,Z⟩,trivial⟩ (λ sl E6 K hK=>ae Z (g5 (f:=a8) (l:=E5.C') aF.cs Z Z Z Z Z Z (E6 _ _ Z) Z (E6 _ _ Z) Jc aF.Eh Y hK)) (af [(49,_),(50,_)] ⟨.inr ⟨3,_,Z,Z,Z⟩,.inr ⟨4,_,Z,Z,Z⟩,trivial⟩ (λ sl E6 K hK=>ae Z (g5 (f:=a8) (l:=E5.C') aF.cs Z Z Z Z Z Z (E6 _ _ Z) Z (E6 _ _ Z) Jc aF.Eh Y hK)) aj))) ?_);refine ak (λ _=>.rptr (List.drop 0 (aF.cs (lat E5.C' i30)))) Z Z Z (bR Z Z Y) (lt2 Z Z) (ai Z (af [(51,_)] ⟨.inr ⟨5,_,Z,Z,Z⟩,trivial⟩ (λ sl E6 K hK=>ae Z (cQ Z Z Z Z Z Z Z Z (E6 _ _ Z) hK)) (af [(51,_)] ⟨.inr ⟨5,_,Z,Z,Z⟩,trivial⟩ (λ sl E6 K hK=>ae Z (cQ Z Z Z Z Z Z Z Z (E6 _ _ Z) hK)) aj))) (ak (λ _=>.p (eS ((lat E5.C' i30).By))) Z Z Z (bR Z Z Y) (lt2 Z Z) (ai Z (af [(52,_)] ⟨.inr ⟨6,_,Z,Z,Z⟩,trivial⟩ (λ sl E6 K hK=>ae Z (iq Z Z Z Z Z (E6 _ _ Z) Z hK)) (af [(52,_)] ⟨.inr ⟨6,_,Z,Z,Z⟩,trivial⟩ (λ sl E6 K hK=>ae Z (iq Z Z Z Z Z (E6 _ _ Z) Z hK)) aj))) ?_);refine ak (λ _=>.p (eL eS [(lat E5.C' i30).By])) Z Z Z (bR Z Z Y) (lt2 Z Z) (ai Z (ai Z (af [(53,_)] ⟨.inr ⟨7,_,Z,Z,Z⟩,trivial⟩ (λ sl E6 K hK=>ae Z (bM eS [(lat E5.C' i30).By] Z Z Z Z Z Z (cj (E6 _ _ Z) Z dS) Z Z Z Z Z Z Z hK)) aj))) (fL (λ _=>.vec 55 1 0 ((FN++[(lat E5.C' i30).By]).map eS)) [(47,_),(54,_)] Z ⟨.inr ⟨1,_,Z,Z,Z⟩,.inr ⟨8,_,Z,Z,Z⟩,trivial⟩ Z Z (cV Z Y) (lt2 (λ h=>absurd h (by decide)) Y) (λ sl E6 K hK=>ae Z (cW eS FN [(lat E5.C' i30).By] Z Z Z Z Z Z Z Z (E6 _ _ Z) Z Z (E6 _ _ Z) Z Y Z Z Z Z Lw hK)) ?_);refine ak (λ _=>.ptr 3 2) Z Z Z (bR Z Z Y) (lt2 Z Z) (ai Z (af [(3,_)] ⟨.inl Z,trivial⟩ (λ sl E6 K hK=>ae Z (ap Z Z Z Z Z Z Z Z (E6 _ _ Z) hK)) (ai Z aj))) (ep [(55,_),(56,_)] Z ⟨.inr ⟨9,_,Z,Z,Z⟩,.inr ⟨10,_,Z,Z,Z⟩,trivial⟩ Z (λ sl E6 K hK=>ae Z (eA Z Z Z (E6 _ _ Z) (E6 _ _ Z) Z Z Z (py Z) hK)) ?_);refine gV (nx 2 Z ?_);refine cc' h2 λ Jb h2=>cc' h2 λ Ja h2=>mG (gE (t:=⟨[(1,.ptr 1 0),(2,.ptr 2 0),(3,.ptr 3 0),(4,.p (eI i30)),(5,.p (eI k31))],[(1,(au.cs E5).map .p),(2,[.p (eI 0),.p (.val (.slice none 0 0)),.p (.val (.slice none 0 0))]),(3,[.p (eI 6),.vec 93 3 0 (FF.map aD),.vec 55 1 0 ((FN++[(lat E5.C' i30).By]).map eS)])]⟩) Z Z) (mS ⟨2,[9,11],(by3 (.some λ i=>Nat.beq i 93||Nat.beq i 66) .none .none),(λ _=>[(1,.ptr 1 0),(2,.ptr 2 0),(3,.ptr 3 0),(4,.p (eI i30)),(5,.p (eI k31))]),(by3 ([(1,[.p (eL a8 E5.C'),.p (eL bc E5.AT)]),(2,[.p (eI 0),.p (.val (.slice none 0 0)),.p (.val (.slice none 0 0))]),(3,[.p (eI 6),.vec 93 3 0 (FF.map aD),.vec 55 1 0 ((FN++[(lat E5.C' i30).By]).map eS)])]) ([(1,[.p (eL a8 E5.C'),.p (eL bc E5.AT)]),(2,[.p (eI 0),.p (.val (.slice none 0 0)),.p (.val (.slice none 0 0))]),(3,[.p (eI 6),.p (eL aD FF),.vec 55 1 0 ((FN++[(lat E5.C' i30).By]).map eS)])]) ([(3,[.p (eI 6),.vec 66 3 0 ((FF++[((lat E5.C' i30).Ei)]).map aD),.vec 55 1 0 ((FN++[(lat E5.C' i30).By]).map eS)]),(1,[.p (eL a8 E5.C'),.p (eL bc E5.AT)]),(2,[.p (eI 0),.p (.val (.slice none 0 0)),.p (.val (.slice none 0 0))]),(3,[.p (eI 6),.p (eL aD FF),.vec 55 1 0 ((FN++[(lat E5.C' i30).By]).map eS)])]))⟩ Z Z Z ⟨Z,Z,Z,Z,Z,trivial⟩ (lt2 ⟨Z,Z,Z,Z,Z,trivial⟩ ⟨Z,Z,Z,Z,Z,trivial⟩) Z Z Z Z ?_);refine ak (λ _=>.ptr 3 1) Z Z Z (bR Z Z Y) (lt2 Z Z) (ai Z (af [(3,_)] ⟨.inl Z,trivial⟩ (λ sl E6 K hK=>ae Z (ap Z Z Z Z Z Z Z Z (E6 _ _ Z) hK)) (af [(3,_)] ⟨.inl Z,trivial⟩ (λ sl E6 K hK=>ae Z (ap Z Z Z Z Z Z Z Z (E6 _ _ Z) hK)) aj))) (ak (by3 (.vec 93 3 0 (FF.map aD)) (.p (eL aD FF)) (.p (eL aD FF))) Z Z Z (bR Z Z Y) (lt2 Z Z) (ai Z (ai Z (af [(57,_)] ⟨.inr ⟨0,_,Z,Z,Z⟩,trivial⟩ (λ sl E6 K hK=>ae Z (bv Z Z Z Z Z (E6 _ _ Z) Z Z hK)) aj))) ?_);refine ak (λ _=>.ptr 1 0) Z Z Z (bR Z Z Y) (lt2 Z Z) (ai Z (af [(1,_)] ⟨.inl Z,trivial⟩ (λ sl E6 K hK=>ae Z (ap Z Z Z Z Z Z Z Z (E6 _ _ Z) hK)) (af [(1,_)] ⟨.inl Z,trivial⟩ (λ sl E6 K hK=>ae Z (ap Z Z Z Z Z Z Z Z (E6 _ _ Z) hK)) aj))) (ak (λ _=>.p (eL a8 E5.C')) Z Z Z (bR Z Z Y) (lt2 Z Z) (ai Z (af [(59,_)] ⟨.inr ⟨2,_,Z,Z,Z⟩,trivial⟩ (λ sl E6 K hK=>ae Z (bv Z Z Z Z Z (E6 _ _ Z) Z Z hK)) (af [(59,_)] ⟨.inr ⟨2,_,Z,Z,Z⟩,trivial⟩ (λ sl E6 K hK=>ae Z (bv Z Z Z Z Z (E6 _ _ Z) Z Z hK)) aj))) ?_);refine ak (λ _=>.p (eI i30)) Z Z Z (bR Z Z Y) (lt2 Z Z) (ai Z (af [(4,_)] ⟨.inl Z,trivial⟩ (λ sl E6 K hK=>ae Z (bH Z Z Z (E6 _ _ Z) hK)) (af [(4,_)] ⟨.inl Z,trivial⟩ (λ sl E6 K hK=>ae Z (bH Z Z Z (E6 _ _ Z) hK)) aj))) (ak (λ _=>.rptr (aF.cs (lat E5.C' i30))) Z Z Z (bR Z Z Y) (lt2 Z Z) (ai Z (af [(60,_),(61,_)] ⟨.inr ⟨3,_,Z,Z,Z⟩,.inr ⟨4,_,Z,Z,Z⟩,trivial⟩ (λ sl E6 K hK=>ae Z (g5 (f:=a8) (l:=E5.C') aF.cs Z Z Z Z Z Z (E6 _ _ Z) Z (E6 _ _ Z) Jb aF.Eh Y hK)) (af [(60,_),(61,_)] ⟨.inr ⟨3,_,Z,Z,Z⟩,.inr ⟨4,_,Z,Z,Z⟩,trivial⟩ (λ sl E6 K hK=>ae Z (g5 (f:=a8) (l:=E5.C') aF.cs Z Z Z Z Z Z (E6 _ _ Z) Z (E6 _ _ Z) Jb aF.Eh Y hK)) aj))) ?_);refine ak (λ _=>.rptr (List.drop 1 (aF.cs (lat E5.C' i30)))) Z Z Z (bR Z Z Y) (lt2 Z Z) (ai Z (af [(62,_)] ⟨.inr ⟨5,_,Z,Z,Z⟩,trivial⟩ (λ sl E6 K hK=>ae Z (cQ Z Z Z Z Z Z Z Z (E6 _ _ Z) hK)) (af [(62,_)] ⟨.inr ⟨5,_,Z,Z,Z⟩,trivial⟩ (λ sl E6 K hK=>ae Z (cQ Z Z Z Z Z Z Z Z (E6 _ _ Z) hK)) aj))) (ak (λ _=>.p (.agg (ag.cs ((lat E5.C' i30).Ei)))) Z Z Z (bR Z Z Y) (lt2 Z Z) (ai Z (af [(63,_)] ⟨.inr ⟨6,_,Z,Z,Z⟩,trivial⟩ (λ sl E6 K hK=>ae Z (lL Z Z Z Z Z (E6 _ _ Z) Z hK)) (af [(63,_)] ⟨.inr ⟨6,_,Z,Z,Z⟩,trivial⟩ (λ sl E6 K hK=>ae Z (lL Z Z Z Z Z (E6 _ _ Z) Z hK)) aj))) ?_);refine ak (λ _=>.p (eL aD [((lat E5.C' i30).Ei)])) Z Z Z (bR Z Z Y) (lt2 Z Z) (ai Z (ai Z (af [(64,_)] ⟨.inr ⟨7,_,Z,Z,Z⟩,trivial⟩ (λ sl E6 K hK=>ae Z (bM aD [((lat E5.C' i30).Ei)] Z Z Z Z Z Z (cj (E6 _ _ Z) Z dS) Z Z Z Z Z Z (by first|rfl|(simp only [n6,ph,ag.Eo]; done)|(simp only [n6,ph,ag.Eo]; rfl)) hK)) aj))) (fL (λ _=>.vec 66 3 0 ((FF++[((lat E5.C' i30).Ei)]).map aD)) [(58,_),(65,_)] Z ⟨.inr ⟨1,_,Z,Z,Z⟩,.inr ⟨8,_,Z,Z,Z⟩,trivial⟩ Z Z (cV Z Y) (lt2 (λ h=>absurd h (by decide)) Y) (λ sl E6 K hK=>ae Z (cW aD FF [((lat E5.C' i30).Ei)] Z Z Z Z Z Z Z Z (E6 _ _ Z) Z Z (E6 _ _ Z) Z (λ x=>congrArg List.length (ag.Eh x)) Z Z Z Z Ja hK)) ?_);refine ak (λ _=>.ptr 3 1) Z Z Z (bR Z Z Y) (lt2 Z Z) (ai Z (af [(3,_)] ⟨.inl Z,trivial⟩ (λ sl E6 K hK=>ae Z (ap Z Z Z Z Z Z Z Z (E6 _ _ Z) hK)) (ai Z aj))) (ep [(66,_),(67,_)] Z ⟨.inr ⟨9,_,Z,Z,Z⟩,.inr ⟨10,_,Z,Z,Z⟩,trivial⟩ Z (λ sl E6 K hK=>ae Z (eA Z Z Z (E6 _ _ Z) (E6 _ _ Z) Z Z Z (py Z) hK)) ?_);refine gV (nx 3 Z ?_);exact oA h2 Z Z λ hk47 h2=>nx 2 Z (eX _ (oi h2).symm (aT (bu 55 79 Z Z Z Z Z) (aT (bu 66 93 Z Z Z Z Z) (gE Z Z))))
    refine nx 2 Z (cc' h2 λ J1 h2=>?_);refine cc' h2 λ Lv h2=>mG (gE (t:=⟨[(1,.ptr 1 0),(2,.ptr 2 0),(3,.ptr 3 0),(4,.p (eI i30)),(5,.p (eI k31))],[(1,(au.cs E5).map .p),(2,[.p (eI 0),.p (.val (.slice none 0 0)),.p (.val (.slice none 0 0))]),(3,[.p (eI 6),.vec 93 3 0 (FF.map aD),.vec 79 1 0 (FN.map eS)])]⟩) Z Z) (mS ⟨2,[9,11],(by3 (.some λ i=>Nat.beq i 79||Nat.beq i 79) .none .none),(λ _=>[(1,.ptr 1 0),(2,.ptr 2 0),(3,.ptr 3 0),(4,.p (eI i30)),(5,.p (eI k31))]),(by3 ([(1,[.p (eL a8 E5.C'),.p (eL bc E5.AT)]),(2,[.p (eI 0),.p (.val (.slice none 0 0)),.p (.val (.slice none 0 0))]),(3,[.p (eI 6),.vec 93 3 0 (FF.map aD),.vec 79 1 0 (FN.map eS)])]) ([(1,[.p (eL a8 E5.C'),.p (eL bc E5.AT)]),(2,[.p (eI 0),.p (.val (.slice none 0 0)),.p (.val (.slice none 0 0))]),(3,[.p (eI 6),.vec 93 3 0 (FF.map aD),.p (eL eS FN)])]) ([(3,[.p (eI 6),.vec 93 3 0 (FF.map aD),.vec 79 1 0 ((FN++[(lat E5.AT k31).By]).map eS)]),(1,[.p (eL a8 E5.C'),.p (eL bc E5.AT)]),(2,[.p (eI 0),.p (.val (.slice none 0 0)),.p (.val (.slice none 0 0))]),(3,[.p (eI 6),.vec 93 3 0 (FF.map aD),.p (eL eS FN)])]))⟩ Z Z Z ⟨Z,Z,Z,Z,Z,trivial⟩ (lt2 ⟨Z,Z,Z,Z,Z,trivial⟩ ⟨Z,Z,Z,Z,Z,trivial⟩) Z Z Z Z ?_);refine ak (λ _=>.ptr 3 2) Z Z Z (bR Z Z Y) (lt2 Z Z) (ai Z (af [(3,_)] ⟨.inl Z,trivial⟩ (λ sl E6 K hK=>ae Z (ap Z Z Z Z Z Z Z Z (E6 _ _ Z) hK)) (af [(3,_)] ⟨.inl Z,trivial⟩ (λ sl E6 K hK=>ae Z (ap Z Z Z Z Z Z Z Z (E6 _ _ Z) hK)) aj))) (ak (by3 (.vec 79 1 0 (FN.map eS)) (.p (eL eS FN)) (.p (eL eS FN))) Z Z Z (bR Z Z Y) (lt2 Z Z) (ai Z (ai Z (af [(70,_)] ⟨.inr ⟨0,_,Z,Z,Z⟩,trivial⟩ (λ sl E6 K hK=>ae Z (bv Z Z Z Z Z (E6 _ _ Z) Z Z hK)) aj))) ?_);refine ak (λ _=>.ptr 1 1) Z Z Z (bR Z Z Y) (lt2 Z Z) (ai Z (af [(1,_)] ⟨.inl Z,trivial⟩ (λ sl E6 K hK=>ae Z (ap Z Z Z Z Z Z Z Z (E6 _ _ Z) hK)) (af [(1,_)] ⟨.inl Z,trivial⟩ (λ sl E6 K hK=>ae Z (ap Z Z Z Z Z Z Z Z (E6 _ _ Z) hK)) aj))) (ak (λ _=>.p (eL bc E5.AT)) Z Z Z (bR Z Z Y) (lt2 Z Z) (ai Z (af [(72,_)] ⟨.inr ⟨2,_,Z,Z,Z⟩,trivial⟩ (λ sl E6 K hK=>ae Z (bv Z Z Z Z Z (E6 _ _ Z) Z Z hK)) (af [(72,_)] ⟨.inr ⟨2,_,Z,Z,Z⟩,trivial⟩ (λ sl E6 K hK=>ae Z (bv Z Z Z Z Z (E6 _ _ Z) Z Z hK)) aj))) ?_);refine ak (λ _=>.p (eI k31)) Z Z Z (bR Z Z Y) (lt2 Z Z) (ai Z (af [(5,_)] ⟨.inl Z,trivial⟩ (λ sl E6 K hK=>ae Z (bH Z Z Z (E6 _ _ Z) hK)) (af [(5,_)] ⟨.inl Z,trivial⟩ (λ sl E6 K hK=>ae Z (bH Z Z Z (E6 _ _ Z) hK)) aj))) (ak (λ _=>.rptr (aR.cs (lat E5.AT k31))) Z Z Z (bR Z Z Y) (lt2 Z Z) (ai Z (af [(73,_),(74,_)] ⟨.inr ⟨3,_,Z,Z,Z⟩,.inr ⟨4,_,Z,Z,Z⟩,trivial⟩ (λ sl E6 K hK=>ae Z (g5 (f:=bc) (l:=E5.AT) aR.cs Z Z Z Z Z Z (E6 _ _ Z) Z (E6 _ _ Z) J1 aR.Eh Y hK)) (af [(73,_),(74,_)] ⟨.inr ⟨3,_,Z,Z,Z⟩,.inr ⟨4,_,Z,Z,Z⟩,trivial⟩ (λ sl E6 K hK=>ae Z (g5 (f:=bc) (l:=E5.AT) aR.cs Z Z Z Z Z Z (E6 _ _ Z) Z (E6 _ _ Z) J1 aR.Eh Y hK)) aj))) ?_);refine ak (λ _=>.rptr (List.drop 0 (aR.cs (lat E5.AT k31)))) Z Z Z (bR Z Z Y) (lt2 Z Z) (ai Z (af [(75,_)] ⟨.inr ⟨5,_,Z,Z,Z⟩,trivial⟩ (λ sl E6 K hK=>ae Z (cQ Z Z Z Z Z Z Z Z (E6 _ _ Z) hK)) (af [(75,_)] ⟨.inr ⟨5,_,Z,Z,Z⟩,trivial⟩ (λ sl E6 K hK=>ae Z (cQ Z Z Z Z Z Z Z Z (E6 _ _ Z) hK)) aj))) (ak (λ _=>.p (eS ((lat E5.AT k31).By))) Z Z Z (bR Z Z Y) (lt2 Z Z) (ai Z (af [(76,_)] ⟨.inr ⟨6,_,Z,Z,Z⟩,trivial⟩ (λ sl E6 K hK=>ae Z (iq Z Z Z Z Z (E6 _ _ Z) Z hK)) (af [(76,_)] ⟨.inr ⟨6,_,Z,Z,Z⟩,trivial⟩ (λ sl E6 K hK=>ae Z (iq Z Z Z Z Z (E6 _ _ Z) Z hK)) aj))) ?_);refine ak (λ _=>.p (eL eS [(lat E5.AT k31).By])) Z Z Z (bR Z Z Y) (lt2 Z Z) (ai Z (ai Z (af [(77,_)] ⟨.inr ⟨7,_,Z,Z,Z⟩,trivial⟩ (λ sl E6 K hK=>ae Z (bM eS [(lat E5.AT k31).By] Z Z Z Z Z Z (cj (E6 _ _ Z) Z dS) Z Z Z Z Z Z Z hK)) aj))) (fL (λ _=>.vec 79 1 0 ((FN++[(lat E5.AT k31).By]).map eS)) [(71,_),(78,_)] Z ⟨.inr ⟨1,_,Z,Z,Z⟩,.inr ⟨8,_,Z,Z,Z⟩,trivial⟩ Z Z (cV Z Y) (lt2 (λ h=>absurd h (by decide)) Y) (λ sl E6 K hK=>ae Z (cW eS FN [(lat E5.AT k31).By] Z Z Z Z Z Z Z Z (E6 _ _ Z) Z Z (E6 _ _ Z) Z Y Z Z Z Z Lv hK)) ?_);refine ak (λ _=>.ptr 3 2) Z Z Z (bR Z Z Y) (lt2 Z Z) (ai Z (af [(3,_)] ⟨.inl Z,trivial⟩ (λ sl E6 K hK=>ae Z (ap Z Z Z Z Z Z Z Z (E6 _ _ Z) hK)) (ai Z aj))) (ep [(79,_),(80,_)] Z ⟨.inr ⟨9,_,Z,Z,Z⟩,.inr ⟨10,_,Z,Z,Z⟩,trivial⟩ Z (λ sl E6 K hK=>ae Z (eA Z Z Z (E6 _ _ Z) (E6 _ _ Z) Z Z Z (py Z) hK)) ?_);refine gV (nx 2 Z ?_);refine cc' h2 λ Lu h2=>bd h2 λ Hl e52 h2=>cc' h2 λ Lt h2=>mG (gE (t:=⟨[(1,.ptr 1 0),(2,.ptr 2 0),(3,.ptr 3 0),(4,.p (eI i30)),(5,.p (eI k31))],[(1,(au.cs E5).map .p),(2,[.p (eI 0),.p (.val (.slice none 0 0)),.p (.val (.slice none 0 0))]),(3,[.p (eI 6),.vec 93 3 0 (FF.map aD),.vec 79 1 0 ((FN++[(lat E5.AT k31).By]).map eS)])]⟩) Z Z) (mS ⟨2,[12,14],(by3 (.some λ i=>Nat.beq i 93||Nat.beq i 93) .none .none),(λ _=>[(1,.ptr 1 0),(2,.ptr 2 0),(3,.ptr 3 0),(4,.p (eI i30)),(5,.p (eI k31))]),(by3 ([(1,[.p (eL a8 E5.C'),.p (eL bc E5.AT)]),(2,[.p (eI 0),.p (.val (.slice none 0 0)),.p (.val (.slice none 0 0))]),(3,[.p (eI 6),.vec 93 3 0 (FF.map aD),.vec 79 1 0 ((FN++[(lat E5.AT k31).By]).map eS)])]) ([(1,[.p (eL a8 E5.C'),.p (eL bc E5.AT)]),(2,[.p (eI 0),.p (.val (.slice none 0 0)),.p (.val (.slice none 0 0))]),(3,[.p (eI 6),.p (eL aD FF),.vec 79 1 0 ((FN++[(lat E5.AT k31).By]).map eS)])]) ([(3,[.p (eI 6),.vec 93 3 0 ((FF++([(ag.mk 4 [Hl] [])])).map aD),.vec 79 1 0 ((FN++[(lat E5.AT k31).By]).map eS)]),(1,[.p (eL a8 E5.C'),.p (eL bc E5.AT)]),(2,[.p (eI 0),.p (.val (.slice none 0 0)),.p (.val (.slice none 0 0))]),(3,[.p (eI 6),.p (eL aD FF),.vec 79 1 0 ((FN++[(lat E5.AT k31).By]).map eS)])]))⟩ Z Z Z ⟨Z,Z,Z,Z,Z,trivial⟩ (lt2 ⟨Z,Z,Z,Z,Z,trivial⟩ ⟨Z,Z,Z,Z,Z,trivial⟩) Z Z Z Z ?_);refine ak (λ _=>.ptr 3 1) Z Z Z (bR Z Z Y) (lt2 Z Z) (ai Z (af [(3,_)] ⟨.inl Z,trivial⟩ (λ sl E6 K hK=>ae Z (ap Z Z Z Z Z Z Z Z (E6 _ _ Z) hK)) (af [(3,_)] ⟨.inl Z,trivial⟩ (λ sl E6 K hK=>ae Z (ap Z Z Z Z Z Z Z Z (E6 _ _ Z) hK)) aj))) (ak (by3 (.vec 93 3 0 (FF.map aD)) (.p (eL aD FF)) (.p (eL aD FF))) Z Z Z (bR Z Z Y) (lt2 Z Z) (ai Z (ai Z (af [(81,_)] ⟨.inr ⟨0,_,Z,Z,Z⟩,trivial⟩ (λ sl E6 K hK=>ae Z (bv Z Z Z Z Z (E6 _ _ Z) Z Z hK)) aj))) ?_);refine ak (λ _=>.ptr 1 1) Z Z Z (bR Z Z Y) (lt2 Z Z) (ai Z (af [(1,_)] ⟨.inl Z,trivial⟩ (λ sl E6 K hK=>ae Z (ap Z Z Z Z Z Z Z Z (E6 _ _ Z) hK)) (af [(1,_)] ⟨.inl Z,trivial⟩ (λ sl E6 K hK=>ae Z (ap Z Z Z Z Z Z Z Z (E6 _ _ Z) hK)) aj))) (ak (λ _=>.p (eL bc E5.AT)) Z Z Z (bR Z Z Y) (lt2 Z Z) (ai Z (af [(83,_)] ⟨.inr ⟨2,_,Z,Z,Z⟩,trivial⟩ (λ sl E6 K hK=>ae Z (bv Z Z Z Z Z (E6 _ _ Z) Z Z hK)) (af [(83,_)] ⟨.inr ⟨2,_,Z,Z,Z⟩,trivial⟩ (λ sl E6 K hK=>ae Z (bv Z Z Z Z Z (E6 _ _ Z) Z Z hK)) aj))) ?_);refine ak (λ _=>.p (eI k31)) Z Z Z (bR Z Z Y) (lt2 Z Z) (ai Z (af [(5,_)] ⟨.inl Z,trivial⟩ (λ sl E6 K hK=>ae Z (bH Z Z Z (E6 _ _ Z) hK)) (af [(5,_)] ⟨.inl Z,trivial⟩ (λ sl E6 K hK=>ae Z (bH Z Z Z (E6 _ _ Z) hK)) aj))) (ak (λ _=>.rptr (aR.cs (lat E5.AT k31))) Z Z Z (bR Z Z Y) (lt2 Z Z) (ai Z (af [(84,_),(85,_)] ⟨.inr ⟨3,_,Z,Z,Z⟩,.inr ⟨4,_,Z,Z,Z⟩,trivial⟩ (λ sl E6 K hK=>ae Z (g5 (f:=bc) (l:=E5.AT) aR.cs Z Z Z Z Z Z (E6 _ _ Z) Z (E6 _ _ Z) Lu aR.Eh Y hK)) (af [(84,_),(85,_)] ⟨.inr ⟨3,_,Z,Z,Z⟩,.inr ⟨4,_,Z,Z,Z⟩,trivial⟩ (λ sl E6 K hK=>ae Z (g5 (f:=bc) (l:=E5.AT) aR.cs Z Z Z Z Z Z (E6 _ _ Z) Z (E6 _ _ Z) Lu aR.Eh Y hK)) aj))) ?_);refine ak (λ _=>.rptr (List.drop 3 (aR.cs (lat E5.AT k31)))) Z Z Z (bR Z Z Y) (lt2 Z Z) (ai Z (af [(86,_)] ⟨.inr ⟨5,_,Z,Z,Z⟩,trivial⟩ (λ sl E6 K hK=>ae Z (cQ Z Z Z Z Z Z Z Z (E6 _ _ Z) hK)) (af [(86,_)] ⟨.inr ⟨5,_,Z,Z,Z⟩,trivial⟩ (λ sl E6 K hK=>ae Z (cQ Z Z Z Z Z Z Z Z (E6 _ _ Z) hK)) aj))) (ak (λ _=>.p (eL a8 ((lat E5.AT k31).C'))) Z Z Z (bR Z Z Y) (lt2 Z Z) (ai Z (af [(87,_)] ⟨.inr ⟨6,_,Z,Z,Z⟩,trivial⟩ (λ sl E6 K hK=>ae Z (iq Z Z Z Z Z (E6 _ _ Z) Z hK)) (af [(87,_)] ⟨.inr ⟨6,_,Z,Z,Z⟩,trivial⟩ (λ sl E6 K hK=>ae Z (iq Z Z Z Z Z (E6 _ _ Z) Z hK)) aj))) ?_);refine ak (λ _=>.p (.agg (ag.cs Hl))) Z Z Z (bR Z Z Y) (lt2 Z Z) (ai Z (ai Z (af [(88,_)] ⟨.inr ⟨7,_,Z,Z,Z⟩,trivial⟩ (λ sl E6 K hK=>ae Z (bA (qP _ ((lat E5.AT k31).C') _ e52) Z Z Z (az (E6 _ _ Z) bz) ⟨sr,trivial⟩ Tryz.call88 Z hK)) aj))) (ak (λ _=>.p (eL aD [Hl])) Z Z Z (bR Z Z Y) (lt2 Z Z) (ai Z (af [(89,_)] ⟨.inr ⟨8,_,Z,Z,Z⟩,trivial⟩ (λ sl E6 K hK=>ae Z (bM aD [Hl] Z Z Z Z Z Z (cj (E6 _ _ Z) Z dS) Z Z Z Z Z Z (by first|rfl|(simp only [n6,ph,ag.Eo]; done)|(simp only [n6,ph,ag.Eo]; rfl)) hK)) (af [(89,_)] ⟨.inr ⟨8,_,Z,Z,Z⟩,trivial⟩ (λ sl E6 K hK=>ae Z (bM aD [Hl] Z Z Z Z Z Z (cj (E6 _ _ Z) Z dS) Z Z Z Z Z Z (by first|rfl|(simp only [n6,ph,ag.Eo]; done)|(simp only [n6,ph,ag.Eo]; rfl)) hK)) aj))) ?_);refine ak (λ _=>.p (.agg (ag.cs (ag.mk 4 [Hl] [])))) Z Z Z (bR Z Z Y) (lt2 Z Z) (ai Z (af [(90,_)] ⟨.inr ⟨9,_,Z,Z,Z⟩,trivial⟩ (λ sl E6 K hK=>ae Z (mN (y:=.p (.agg (ag.cs (ag.mk 4 [Hl] [])))) (λ _ hq=>lV Z Z Z Z Z Z (fF Z (fF (E6 _ _ Z) lU)) Z Z hq) (cv ⟨.inl Z,.inl Z,.inr ⟨Z,Z⟩,trivial⟩) hK)) (af [(90,_)] ⟨.inr ⟨9,_,Z,Z,Z⟩,trivial⟩ (λ sl E6 K hK=>ae Z (mN (y:=.p (.agg (ag.cs (ag.mk 4 [Hl] [])))) (λ _ hq=>lV Z Z Z Z Z Z (fF Z (fF (E6 _ _ Z) lU)) Z Z hq) (cv ⟨.inl Z,.inl Z,.inr ⟨Z,Z⟩,trivial⟩) hK)) aj))) (ak (λ _=>.p (eL aD ([(ag.mk 4 [Hl] [])]))) Z Z Z (bR Z Z Y) (lt2 Z Z) (ai Z (ai Z (af [(91,_)] ⟨.inr ⟨10,_,Z,Z,Z⟩,trivial⟩ (λ sl E6 K hK=>ae Z (bM aD [(ag.mk 4 [Hl] [])] Z Z Z Z Z Z (cj (E6 _ _ Z) Z dS) Z Z Z Z Z Z (by first|rfl|(simp only [n6,ph,ag.Eo]; done)|(simp only [n6,ph,ag.Eo]; rfl)) hK)) aj))) ?_);refine fL (λ _=>.vec 93 3 0 ((FF++([(ag.mk 4 [Hl] [])])).map aD)) [(82,_),(92,_)] Z ⟨.inr ⟨1,_,Z,Z,Z⟩,.inr ⟨11,_,Z,Z,Z⟩,trivial⟩ Z Z (cV Z Y) (lt2 (λ h=>absurd h (by decide)) Y) (λ sl E6 K hK=>ae Z (cW aD FF ([(ag.mk 4 [Hl] [])]) Z Z Z Z Z Z Z Z (E6 _ _ Z) Z Z (E6 _ _ Z) Z (λ x=>congrArg List.length (ag.Eh x)) Z Z Z Z Lt hK)) (ak (λ _=>.ptr 3 1) Z Z Z (bR Z Z Y) (lt2 Z Z) (ai Z (af [(3,_)] ⟨.inl Z,trivial⟩ (λ sl E6 K hK=>ae Z (ap Z Z Z Z Z Z Z Z (E6 _ _ Z) hK)) (ai Z aj))) ?_);refine ep [(93,_),(94,_)] Z ⟨.inr ⟨12,_,Z,Z,Z⟩,.inr ⟨13,_,Z,Z,Z⟩,trivial⟩ Z (λ sl E6 K hK=>ae Z (eA Z Z Z (E6 _ _ Z) (E6 _ _ Z) Z Z Z (py Z) hK)) (gV ?_);refine nx 3 Z (oA h2 Z Z λ hk54 h2=>?_);exact nx 2 Z (eX _ (oi h2).symm (gE Z Z))
   refine fD (p:=k31=(E5.AT.length:Int)) [] h3 Z (λ c37 h3=>?_) λ c37 h3=>?_
   ·refine mD [(1,.ptr 1 0),(2,.ptr 2 0),(3,.ptr 3 0),(4,.p (eI i30)),(5,.p (eI k31))] Z ⟨Z,Z,Z,Z,Z,trivial⟩ Z (dR 3 Z ?_);refine dq (.p (eI (E5.AT.length:Int))) [21] Z (λ _ e _ q=>ae Z (nK (f:=bc) (l:=E5.AT) Z Z Z Z Z (e _ _ Z) Z q)) Z (dL (dt c37) Z ?_);refine dR 22 Z (dE Z ?_);exact nx 1 Z (eX _ (oi h3).symm (gE Z Z))
   refine fD (p:=i30<(E5.C'.length:Int)) [] h3 Z (λ Kb h3=>?_) λ Kb h3=>?_
   ·refine cc' h3 λ HW h3=>cc' h3 λ IL h3=>mD [(1,.ptr 1 0),(2,.ptr 2 0),(3,.ptr 3 0),(4,.p (eI i30)),(5,.p (eI k31))] Z ⟨Z,Z,Z,Z,Z,trivial⟩ Z (dR 3 Z ?_);refine dq (.p (eI (E5.AT.length:Int))) [21] Z (λ _ e _ q=>ae Z (nK (f:=bc) (l:=E5.AT) Z Z Z Z Z (e _ _ Z) Z q)) Z (dL (df c37) Z ?_);refine dR 4 Z (dq (.p (eI (E5.C'.length:Int))) [24,27] Z (λ _ e _ q=>ff (nK (f:=a8) (l:=E5.C') Z Z Z Z Z (e _ _ Z) Z q) Z Z (e _ _ Z) (rfl)) Z ?_);refine dL (dt Kb) Z (dR 4 Z ?_);refine dq (.rptr (aF.cs (lat E5.C' i30))) [30,32,33] Z (λ _ e _ q=>ff (g5 (f:=a8) (l:=E5.C') aF.cs Z Z Z Z Z Z (e _ _ Z) Z (e _ _ Z) HW aF.Eh Y q) Z Z (e _ _ Z) (rfl)) Z (dR 5 Z ?_);refine dq (.rptr (aR.cs (lat E5.AT k31))) [30,38,39] Z (λ _ e _ q=>ff (g5 (f:=bc) (l:=E5.AT) aR.cs Z Z Z Z Z Z (e _ _ Z) Z (e _ _ Z) IL aR.Eh Y q) Z Z (e _ _ Z) (rfl)) Z (dR 2 Z ?_);refine dq (.p (eB (Op.bytesLess ((lat E5.C' i30).By) ((lat E5.AT k31).By)))) [30,36,42] Z (λ _ e _ q=>ff (kH Z Z Z (e _ _ Z) (e _ _ Z) Z q) Z Z (e _ _ Z) (rfl)) Z (dR 2 Z ?_);refine dE Z (nx 1 Z ?_);exact eX _ (oi h3).symm (gE Z Z)
   refine mD [(1,.ptr 1 0),(2,.ptr 2 0),(3,.ptr 3 0),(4,.p (eI i30)),(5,.p (eI k31))] Z ⟨Z,Z,Z,Z,Z,trivial⟩ Z (dR 3 Z ?_);refine dq (.p (eI (E5.AT.length:Int))) [21] Z (λ _ e _ q=>ae Z (nK (f:=bc) (l:=E5.AT) Z Z Z Z Z (e _ _ Z) Z q)) Z (dL (df c37) Z ?_);refine dR 4 Z (dq (.p (eI (E5.C'.length:Int))) [24,27] Z (λ _ e _ q=>ff (nK (f:=a8) (l:=E5.C') Z Z Z Z Z (e _ _ Z) Z q) Z Z (e _ _ Z) (rfl)) Z ?_);refine dL (df Kb) Z (dR 16 Z ?_);refine dE Z (nx 1 Z ?_);exact eX _ (oi h3).symm (gE Z Z)
  exact nx 2 Z (eXi _ (oi h1).symm (gE Z Z))
 refine nx 4 Z (oLl (f:=a8) Z Z ?_);refine nx 2 Z (fD [11,12] h2 Z (λ c34 h2=>?_) λ c34 h2=>?_)
 ·exact nx 7 Z (eX _ (oi h2).symm (gE Z Z))
 refine nx 3 Z (oLl (f:=bc) Z Z ?_);exact nx 3 Z (eX _ (oi h2).symm (gE Z Z))
def ek (n:Nat)(E5:au):Nat->Int->Option (Unit⊕Int)|0,_=>none|m+1,i13=>if i13<(E5.AT.length:Int) then(kZ n E5 i13).bind λ GZ=>if GZ=0 then ck (inR (i13+1))<|ek n E5 m (i13+1)else some (.inr GZ)else some (.inl ())
def ji (n:Nat)(E5:au):Option Int :=(if 64<(E5.C'.length:Int) then some true else some (decide (64<(E5.AT.length:Int))) : Option Bool).bind λ t2=>if t2=true then some 14 else(jk n E5.C' false).bind λ r4=>if r4=0 then jn (ek n E5 n 0) λ _q32=>(jT n E5.C' ([105,100]:Az)).bind λ F0=>if (!F0.2)=true then some 12 else(if F0.1.EC=3 then if F0.1.Ei.Ar=3 then some F0.1.EM else some true else some true : Option Bool).bind λ Fu=>if Fu=true then some 1 else(lk n E5).bind λ Kj=>(jr n Kj).bind λ Jo=>some Jo else some r4
theorem rT (n:Nat)(E5:au)(r:Int)(h0:ji n E5=some r):aB Tryz.prog 25 [.agg (au.cs E5)] (·=.p (eI r)):=by
 unfold ji at h0;refine aZ good Tryz.func25 Z Z Z λ w0=>mP (λ v:Int=>.p (eI v)) ?_;refine nx 7 Z (bd h0 λ Jt h1 h0=>?_);refine kN Jt (λ GO=>⟨[(1,.ptr 1 0),(16,.p (eB GO))],[(1,(au.cs E5).map .p)]⟩) ?_ ?_
 ·refine nx 1 Z (fB [16] h0 Z (λ c3 h0=>?_) λ c3 h0=>?_)
  ·exact nx 6 Z (mQ (oi h0) Z (sr))
  refine nx 6 Z (bd h0 λ r4 e5 h0=>?_);refine oK (mL _ E5.C' false _ e5) Z ⟨sr,sr,trivial⟩ Tryz.call52 Z (nx 8 Z ?_);refine fN [21] h0 Z (λ c6 h0=>?_) λ c6 h0=>?_
  ·refine nx 8 rfl ?_;obtain ⟨Hv,h1,FE,hR0⟩:=ew h0;refine kEx 0 (λ v37:Unit=>Hv=.inl v37) (λ v37=>⟨[(1,.ptr 1 0)],[(1,(au.cs E5).map .p)]⟩) (λ v37 hv=>?_) ?_
   ·have h0:=FE _ hv;refine nx 5 Z (bd h0 λ F0 J5 h0=>?_);refine oK (oc _ E5.C' ([105,100]:Az) _ J5) Z ⟨sr,sr,trivial⟩ Tryz.call54 Z (nx 13 Z ?_);refine fB [43] h0 Z (λ Kd h0=>?_) λ Kd h0=>?_
    ·exact nx 6 Z (mQ (oi h0) Z (sr))
    refine nx 4 Z (bd h0 λ IZ h1 h0=>?_);refine kN IZ (λ Is=>⟨[(1,.ptr 1 0),(56,.p (eB Is))],[(1,(au.cs E5).map .p)]⟩) ?_ ?_
    ·refine nx 1 Z (fB [56] h0 Z (λ LK h0=>?_) λ LK h0=>?_)
     ·exact nx 6 Z (mQ (oi h0) Z (sr))
     refine nx 5 Z (bd h0 λ Kj e28 h0=>?_);refine oK (sC _ E5 _ e28) Z ⟨sr,trivial⟩ Tryz.call56 Z (bd h0 λ Jo e30 h0=>?_);refine oK (mM _ Kj _ e30) Z ⟨sr,trivial⟩ Tryz.call55 Z (nx 3 Z ?_);exact mQ (oi h0) Z (sr)
    refine nx 5 Z (fN [46,47] h1 Z (λ GM h1=>?_) λ GM h1=>?_)
    ·refine nx 6 Z (fN [51,52,53] h1 Z (λ Ig h1=>?_) λ Ig h1=>?_)
     ·exact nx 4 Z (eX _ (oi h1).symm (gE Z Z))
     exact nx 4 Z (eX _ (oi h1).symm (gE Z Z))
    exact nx 10 Z (eX _ (oi h1).symm (gE Z Z))
   refine lG (λ (HG:Int)=>⟨[(1,.ptr 1 0),(4,.p (eI HG))],[(1,(au.cs E5).map .p)]⟩) (λ m (HG:Int)=>ek n E5 m HG) Y 0 h1 (gE rfl rfl) ?_;rintro m i13 h1;replace h1:ek n E5 (m+1) i13=some Hv:=h1;rw [ek] at h1;refine nx 6 rfl (oLl (f:=bc) rfl rfl ?_);refine nx 2 rfl (fD [27] h1 rfl (λ IT h1=>?_) λ IT h1=>?_)
   ·refine nx 8 Z (bd h1 λ GZ J8 h1=>?_);refine oK (sW _ E5 i13 _ J8) Z ⟨sr,sr,trivial⟩ Tryz.call53 Z (nx 7 Z ?_);refine fN [34] h1 Z (λ G9 h1=>?_) λ G9 h1=>?_
    ·refine nx 4 Z (oA h1 Z Z λ GT h1=>?_);exact nx 2 Z (eX (i13+1) h1 (gE Z Z))
    exact nx 7 Z (mQ (hR0 _ (oi h1).symm) Z (sr))
   exact nx 2 Z (eXi _ (oi h1).symm (gE Z Z))
  exact nx 7 Z (mQ (oi h0) Z (sr))
 refine nx 3 Z (oLl (f:=a8) Z Z ?_);refine nx 2 Z (fD [10,11] h1 Z (λ c1 h1=>?_) λ c1 h1=>?_)
 ·exact nx 6 Z (eX _ (oi h1).symm (gE Z Z))
 refine nx 2 Z (oLl (f:=bc) Z Z ?_);exact nx 3 Z (eX _ (oi h1).symm (gE Z Z))
def dG (n:Nat)(E5:au):Nat->Int->Option (Unit⊕Bool)|0,_=>none|m+1,i16=>if i16<(E5.AT.length:Int) then(ck ((0:Int)<=i16/\i16<(E5.AT.length:Int))<|(jg n ((lat E5.AT i16).C')).bind λ r19=>if (!r19)=true then some true else ck ((0:Int)<=i16/\i16<(E5.AT.length:Int))<|some (decide (100<(((lat E5.AT i16).By).length:Int))) : Option Bool).bind λ Gw=>if Gw=true then some (.inr false)else ck (inR (i16+1))<|dG n E5 m (i16+1)else some (.inl ())
def iu (n:Nat)(E5:au):Option Bool :=((jg n E5.C').bind λ r1=>if (!r1)=true then some true else some (decide (10<(E5.AT.length:Int))) : Option Bool).bind λ t4=>if t4=true then some false else jn (dG n E5 n 0) λ _Jp=>(ji n E5).bind λ Kj=>some (decide (Kj=0))
theorem qQ (n:Nat)(E5:au)(r:Bool)(h0:iu n E5=some r):aB Tryz.prog 11 [.agg (au.cs E5)] (·=.p (eB r)):=by
 unfold iu at h0;refine aZ good Tryz.func11 Z Z Z λ w0=>mP (λ v:Bool=>.p (eB v)) ?_;refine nx 7 Z (bd h0 λ KY h1 h0=>?_);refine kN KY (λ Kx=>⟨[(1,.ptr 1 0),(13,.p (eB Kx))],[(1,(au.cs E5).map .p)]⟩) ?_ ?_
 ·refine nx 1 Z (fB [13] h0 Z (λ c5 h0=>?_) λ c5 h0=>?_)
  ·exact nx 6 Z (mQ (oi h0) Z (sr))
  refine nx 8 rfl ?_;obtain ⟨Jt,h1,FE,hR0⟩:=ew h0;refine kEx 0 (λ GO:Unit=>Jt=.inl GO) (λ GO=>⟨[(1,.ptr 1 0)],[(1,(au.cs E5).map .p)]⟩) (λ GO hv=>?_) ?_
  ·have h0:=FE _ hv;refine nx 4 Z (bd h0 λ Kj e28 h0=>?_);refine oK (rT _ E5 _ e28) Z ⟨sr,trivial⟩ Tryz.call25 Z (nx 4 Z ?_);exact mQ (oi h0) Z (sr)
  refine lG (λ (Im:Int)=>⟨[(1,.ptr 1 0),(3,.p (eI Im))],[(1,(au.cs E5).map .p)]⟩) (λ m (Im:Int)=>dG n E5 m Im) Y 0 h1 (gE rfl rfl) ?_;rintro m i16 h1;replace h1:dG n E5 (m+1) i16=some Jt:=h1;rw [dG] at h1;refine nx 6 rfl (oLl (f:=bc) rfl rfl ?_);refine nx 2 rfl (fD [18] h1 rfl (λ G9 h1=>?_) λ G9 h1=>?_)
  ·refine nx 5 Z (bd h1 λ o37 h2 h1=>?_);refine kN o37 (λ v38=>⟨[(1,.ptr 1 0),(3,.p (eI i16)),(38,.p (eB v38))],[(1,(au.cs E5).map .p)]⟩) ?_ ?_
   ·refine nx 1 Z (fB [38] h1 Z (λ Ig h1=>?_) λ Ig h1=>?_)
    ·exact nx 6 Z (mQ (hR0 _ (oi h1).symm) Z (sr))
    refine nx 4 Z (oA h1 Z Z λ H6 h1=>?_);exact nx 2 Z (eX (i16+1) h1 (gE Z Z))
   refine nx 4 Z (oE h2 aR.Eh Z Z Y λ GT h2=>?_);refine nx 2 Z (bd h2 λ r19 e20 h2=>?_);refine oK (nk _ ((lat E5.AT i16).C') _ e20) Z ⟨sr,trivial⟩ Tryz.call24 Z (nx 2 Z ?_);refine fB [28,29] h2 Z (λ c21 h2=>?_) λ c21 h2=>?_
   ·exact nx 10 Z (eX _ (oi h2).symm (gE Z Z))
   refine nx 3 Z (oE h2 aR.Eh Z Z Y λ H7 h2=>?_);refine nx 2 Z (oLs Z ?_);exact nx 3 Z (eX _ (oi h2).symm (gE Z Z))
  exact nx 2 Z (eXi _ (oi h1).symm (gE Z Z))
 refine nx 3 Z (bd h1 λ r1 e2 h1=>?_);refine oK (nk _ E5.C' _ e2) Z ⟨sr,trivial⟩ Tryz.call24 Z (nx 2 Z ?_);refine fB [7,8] h1 Z (λ c3 h1=>?_) λ c3 h1=>?_
 ·exact nx 6 Z (eX _ (oi h1).symm (gE Z Z))
 refine nx 2 Z (oLl (f:=bc) Z Z ?_);exact nx 3 Z (eX _ (oi h1).symm (gE Z Z))
def fv (types_1:List ar)(i27:Int):Nat->Int->Option (Unit⊕(Unit⊕Bool))|0,_=>none|m+1,k39=>if k39<i27 then ck ((0:Int)<=k39/\k39<(types_1.length:Int))<|ck ((0:Int)<=i27/\i27<(types_1.length:Int))<|if (lat types_1 k39).By=(lat types_1 i27).By then some (.inr (.inr false))else ck (inR (k39+1))<|fv types_1 i27 m (k39+1)else some (.inl ())
def fu (n:Nat)(types_1:List ar):Nat->Int->Option (Unit⊕Bool)|0,_=>none|m+1,i27=>if i27<(types_1.length:Int) then ck ((0:Int)<=i27/\i27<(types_1.length:Int))<|(iu n ((lat types_1 i27).EF)).bind λ IX=>if (!IX)=true then some (.inr false)else jn (fv types_1 i27 n 0) λ _HH=>ck (inR (i27+1))<|fu n types_1 m (i27+1)else some (.inl ())
def fq (n:Nat)(E7:ba):Nat->Int->Option (Unit⊕Bool)|0,_=>none|m+1,i55=>if i55<(E7.En.length:Int) then ck ((0:Int)<=i55/\i55<(E7.En.length:Int))<|(iy n (lat E7.En i55)).bind λ Fz=>if (!Fz)=true then some (.inr false)else ck (inR (i55+1))<|fq n E7 m (i55+1)else some (.inl ())
def fo (n:Nat)(E7:ba):Nat->Int->Option (Unit⊕Bool)|0,_=>none|m+1,i77=>if i77<(E7.Et.length:Int) then(ck ((0:Int)<=i77/\i77<(E7.Et.length:Int))<|(fO n ((lat E7.Et i77).Ek)).bind λ r80=>if (!r80)=true then some true else ck ((0:Int)<=i77/\i77<(E7.Et.length:Int))<|(fO n ((lat E7.Et i77).Ej)).bind λ r84=>if (!r84)=true then some true else ck ((0:Int)<=i77/\i77<(E7.Et.length:Int))<|some (decide (300<(((lat E7.Et i77).Er).length:Int))) : Option Bool).bind λ t88=>if t88=true then some (.inr false)else ck (inR (i77+1))<|fo n E7 m (i77+1)else some (.inl ())
def fp (n:Nat)(E7:ba):Nat->Int->Option (Unit⊕Bool)|0,_=>none|m+1,i109=>if i109<(E7.D'.length:Int) then ck ((0:Int)<=i109/\i109<(E7.D'.length:Int))<|((fP n ((lat E7.D' i109).Ek) 60).bind λ KF=>if (!KF)=true then some true else(fP n ((lat E7.D' i109).Ej) 60).bind λ KE=>if (!KE)=true then some true else(fc n ((lat E7.D' i109).Ek)).bind λ KD=>if KD=0 then(fc n ((lat E7.D' i109).Ej)).bind λ KC=>some (!decide (KC=0))else some true : Option Bool).bind λ t123=>if t123=true then some (.inr false)else ck (inR (i109+1))<|fp n E7 m (i109+1)else some (.inl ())
def l6 (n:Nat)(E7:ba)(types_1:List ar):Option Bool :=(if 8<(E7.En.length:Int) then some true else if 8<(E7.Et.length:Int) then some true else if 8<(E7.Eu.length:Int) then some true else if 8<(E7.D'.length:Int) then some true else some (decide (8<(types_1.length:Int))) : Option Bool).bind λ t5=>if t5=true then some false else jn (fu n types_1 n 0) λ _HJ=>jn (fq n E7 n 0) λ _q130=>jn (fo n E7 n 0) λ _q131=>jn (fp n E7 n 0) λ _q133=>some true
theorem ug (n:Nat)(E7:ba)(types_1:List ar)(r:Bool)(h0:l6 n E7 types_1=some r):aB Tryz.prog 15 [.agg (ba.cs E7),eL aQ types_1] (·=.p (eB r)):=by
 unfold l6 at h0;refine aZ good Tryz.func15 Z Z Z λ w0=>mP (λ v:Bool=>.p (eB v)) ?_;refine nx 7 Z (bd h0 λ o135 h1 h0=>?_);refine kN o135 (λ v136=>⟨[(1,.p (eL aQ types_1)),(2,.ptr 2 0),(37,.p (eB v136))],[(2,(ba.cs E7).map .p)]⟩) ?_ ?_
 ·refine nx 1 Z (fB [37] h0 Z (λ c6 h0=>?_) λ c6 h0=>?_)
  ·exact nx 6 Z (mQ (oi h0) Z (sr))
  refine nx 8 rfl ?_;obtain ⟨K9,h1,FE,hR0⟩:=ew h0;refine kEx 0 (λ v138:Unit=>K9=.inl v138) (λ v138=>⟨[(2,.ptr 2 0)],[(2,(ba.cs E7).map .p)]⟩) (λ v138 hv=>?_) ?_
  ·have h0:=FE _ hv;refine nx 7 rfl ?_;obtain ⟨K8,h1,FE,hR0⟩:=ew h0;refine kEx 4 (λ JA:Unit=>K8=.inl JA) (λ JA=>⟨[(2,.ptr 2 0)],[(2,(ba.cs E7).map .p)]⟩) (λ JA hv=>?_) ?_
   ·have h0:=FE _ hv;refine nx 7 rfl ?_;obtain ⟨K7,h1,FE,hR0⟩:=ew h0;refine kEx 6 (λ Jz:Unit=>K7=.inl Jz) (λ Jz=>⟨[(2,.ptr 2 0)],[(2,(ba.cs E7).map .p)]⟩) (λ Jz hv=>?_) ?_
    ·have h0:=FE _ hv;refine nx 7 rfl ?_;obtain ⟨K6,h1,FE,hR0⟩:=ew h0;refine kEx 8 (λ Jy:Unit=>K6=.inl Jy) (λ Jy=>⟨[],[]⟩) (λ Jy hv=>?_) ?_
     ·have h0:=FE _ hv;exact nx 6 Z (mQ (oi h0) Z (sr))
     refine lG (λ (JJ:Int)=>⟨[(2,.ptr 2 0),(9,.p (eI JJ))],[(2,(ba.cs E7).map .p)]⟩) (λ m (JJ:Int)=>fp n E7 m JJ) Y 0 h1 (gE rfl rfl) ?_;rintro m i109 h1;replace h1:fp n E7 (m+1) i109=some K6:=h1;rw [fp] at h1;refine nx 6 rfl (oLl (f:=bT) rfl rfl ?_);refine nx 2 rfl (fD [120] h1 rfl (λ c110 h1=>?_) λ c110 h1=>?_)
     ·refine nx 9 Z (oE h1 aK.Eh Z Z Y λ hk111 h1=>?_);refine nx 5 Z (bd h1 λ o146 h2 h1=>?_);refine kN o146 (λ v147=>⟨[(2,.ptr 2 0),(9,.p (eI i109)),(149,.p (eB v147))],[(2,(ba.cs E7).map .p)]⟩) ?_ ?_
      ·refine nx 1 Z (fB [149] h1 Z (λ c124 h1=>?_) λ c124 h1=>?_)
       ·exact nx 6 Z (mQ (hR0 _ (oi h1).symm) Z (sr))
       refine nx 4 Z (oA h1 Z Z λ hk125 h1=>?_);exact nx 2 Z (eX (i109+1) h1 (gE Z Z))
      refine nx 3 Z (bd h2 λ KF e113 h2=>?_);refine oK (jz _ ((lat E7.D' i109).Ek) 60 _ e113) Z ⟨sr,sr,trivial⟩ Tryz.call37 Z (nx 2 Z ?_);refine fB [131,132] h2 Z (λ c114 h2=>?_) λ c114 h2=>?_
      ·exact nx 18 Z (eX _ (oi h2).symm (gE Z Z))
      refine nx 2 Z (bd h2 λ KE e116 h2=>?_);refine oK (jz _ ((lat E7.D' i109).Ej) 60 _ e116) Z ⟨sr,sr,trivial⟩ Tryz.call37 Z (nx 3 Z ?_);refine fB [136,137,138] h2 Z (λ c117 h2=>?_) λ c117 h2=>?_
      ·exact nx 12 Z (eX _ (oi h2).symm (gE Z Z))
      refine nx 2 Z (bd h2 λ KD e119 h2=>?_);refine oK (jC _ ((lat E7.D' i109).Ek) _ e119) Z ⟨sr,trivial⟩ Tryz.call38 Z (nx 3 Z ?_);refine fN [142,143,144] h2 Z (λ c120 h2=>?_) λ c120 h2=>?_
      ·refine nx 2 Z (bd h2 λ KC e122 h2=>?_);refine oK (jC _ ((lat E7.D' i109).Ej) _ e122) Z ⟨sr,trivial⟩ Tryz.call38 Z (nx 3 Z ?_);exact eX _ (oi h2).symm (gE Z Z)
      exact nx 6 Z (eX _ (oi h2).symm (gE Z Z))
     exact nx 2 Z (eXi _ (oi h1).symm (gE Z Z))
    refine lG (λ (JI:Int)=>⟨[(2,.ptr 2 0),(8,.p (eI JI))],[(2,(ba.cs E7).map .p)]⟩) (λ m (JI:Int)=>fo n E7 m JI) Y 0 h1 (gE rfl rfl) ?_;rintro m i77 h1;replace h1:fo n E7 (m+1) i77=some K7:=h1;rw [fo] at h1;refine nx 6 rfl (oLl (f:=j6) rfl rfl ?_);refine nx 2 rfl (fD [85] h1 rfl (λ c78 h1=>?_) λ c78 h1=>?_)
    ·refine nx 5 Z (bd h1 λ o149 h2 h1=>?_);refine kN o149 (λ v150=>⟨[(2,.ptr 2 0),(8,.p (eI i77)),(115,.p (eB v150))],[(2,(ba.cs E7).map .p)]⟩) ?_ ?_
     ·refine nx 1 Z (fB [115] h1 Z (λ c89 h1=>?_) λ c89 h1=>?_)
      ·exact nx 6 Z (mQ (hR0 _ (oi h1).symm) Z (sr))
      refine nx 4 Z (oA h1 Z Z λ JW h1=>?_);exact nx 2 Z (eX (i77+1) h1 (gE Z Z))
     refine nx 4 Z (oE h2 b9.Eh Z Z Y λ hk79 h2=>?_);refine nx 2 Z (bd h2 λ r80 e81 h2=>?_);refine oK (jx _ ((lat E7.Et i77).Ek) _ e81) Z ⟨sr,trivial⟩ Tryz.call23 Z (nx 2 Z ?_);refine fB [95,96] h2 Z (λ c82 h2=>?_) λ c82 h2=>?_
     ·exact nx 20 Z (eX _ (oi h2).symm (gE Z Z))
     refine nx 3 Z (oE h2 b9.Eh Z Z Y λ hk83 h2=>?_);refine nx 2 Z (bd h2 λ r84 e85 h2=>?_);refine oK (jx _ ((lat E7.Et i77).Ej) _ e85) Z ⟨sr,trivial⟩ Tryz.call23 Z (nx 3 Z ?_);refine fB [104,105,106] h2 Z (λ c86 h2=>?_) λ c86 h2=>?_
     ·exact nx 10 Z (eX _ (oi h2).symm (gE Z Z))
     refine nx 3 Z (oE h2 b9.Eh Z Z Y λ hk87 h2=>?_);refine nx 2 Z (oLs Z ?_);exact nx 3 Z (eX _ (oi h2).symm (gE Z Z))
    exact nx 2 Z (eXi _ (oi h1).symm (gE Z Z))
   refine lG (λ (JH:Int)=>⟨[(2,.ptr 2 0),(7,.p (eI JH))],[(2,(ba.cs E7).map .p)]⟩) (λ m (JH:Int)=>fq n E7 m JH) Y 0 h1 (gE rfl rfl) ?_;rintro m i55 h1;replace h1:fq n E7 (m+1) i55=some K8:=h1;rw [fq] at h1;refine nx 6 rfl (oLl (f:=dd) rfl rfl ?_);refine nx 2 rfl (fD [71] h1 rfl (λ LH h1=>?_) λ LH h1=>?_)
   ·refine nx 9 Z (oE h1 ax.Eh Z Z Y λ JZ h1=>?_);refine nx 1 Z (bd h1 λ Fz Lz h1=>?_);refine oK (qR _ (lat E7.En i55) _ Lz) Z ⟨sr,trivial⟩ Tryz.call10 Z (nx 2 Z ?_);refine fB [80] h1 Z (λ c60 h1=>?_) λ c60 h1=>?_
    ·exact nx 6 Z (mQ (hR0 _ (oi h1).symm) Z (sr))
    refine nx 4 Z (oA h1 Z Z λ hk61 h1=>?_);exact nx 2 Z (eX (i55+1) h1 (gE Z Z))
   exact nx 2 Z (eXi _ (oi h1).symm (gE Z Z))
  refine lG (λ (JG:Int)=>⟨[(1,.p (eL aQ types_1)),(2,.ptr 2 0),(5,.p (eI JG))],[(2,(ba.cs E7).map .p)]⟩) (λ m (JG:Int)=>fu n types_1 m JG) Y 0 h1 (gE rfl rfl) ?_;rintro m i27 h1;replace h1:fu n types_1 (m+1) i27=some K9:=h1;rw [fu] at h1;refine nx 5 rfl (oLl (f:=aQ) rfl rfl ?_);refine nx 2 rfl (fD [41] h1 rfl (λ Ie h1=>?_) λ Ie h1=>?_)
  ·refine nx 9 Z (oE h1 ar.Eh Z Z Y λ Je h1=>?_);refine nx 2 Z (bd h1 λ IX LE h1=>?_);refine oK (qQ _ ((lat types_1 i27).EF) _ LE) Z ⟨sr,trivial⟩ Tryz.call11 Z (nx 2 Z ?_);refine fB [50] h1 Z (λ Kc h1=>?_) λ Kc h1=>?_
   ·exact nx 6 Z (mQ (hR0 _ (oi h1).symm) Z (sr))
   refine nx 7 rfl ?_;obtain ⟨K5,h2,hL1,hR1⟩:=ew h1;refine kEx 2 (λ Jx:Unit=>K5=.inl Jx) (λ Jx=>⟨[(1,.p (eL aQ types_1)),(2,.ptr 2 0),(5,.p (eI i27))],[(2,(ba.cs E7).map .p)]⟩) (λ Jx hv=>?_) ?_
   ·have h1:=hL1 _ hv;refine nx 3 Z (oA h1 Z Z λ Ja h1=>?_);exact nx 2 Z (eX (i27+1) h1 (gE Z Z))
   refine lG (λ (JF:Int)=>⟨[(1,.p (eL aQ types_1)),(2,.ptr 2 0),(5,.p (eI i27)),(6,.p (eI JF))],[(2,(ba.cs E7).map .p)]⟩) (λ m (JF:Int)=>fv types_1 i27 m JF) Y 0 h2 (gE rfl rfl) ?_;rintro m k39 h2;replace h2:fv types_1 i27 (m+1) k39=some K5:=h2;rw [fv] at h2;refine nx 7 rfl (fD [53] h2 rfl (λ c40 h2=>?_) λ c40 h2=>?_)
   ·refine nx 5 Z (cc' h2 λ IK h2=>?_);refine cc' h2 λ HV h2=>mD [(1,.p (eL aQ types_1)),(2,.ptr 2 0),(5,.p (eI i27)),(6,.p (eI k39))] Z ⟨Z,Z,Z,Z,trivial⟩ Z (dR 2 Z ?_);refine dq (.rptr (ar.cs (lat types_1 k39))) [56,57] Z (λ _ e _ q=>ae Z (g5 (f:=aQ) (l:=types_1) ar.cs Z Z Z Z Z Z (e _ _ Z) Z (e _ _ Z) IK ar.Eh Y q)) Z (dR 4 Z ?_);refine dq (.rptr (ar.cs (lat types_1 i27))) [61,62] Z (λ _ e _ q=>ae Z (g5 (f:=aQ) (l:=types_1) ar.cs Z Z Z Z Z Z (e _ _ Z) Z (e _ _ Z) HV ar.Eh Y q)) Z (dR 2 Z ?_);refine dq (.p (eB (decide ((lat types_1 k39).By=(lat types_1 i27).By)))) [60,65] Z (λ _ e _ q=>ae Z (kH Z Z Z (e _ _ Z) (e _ _ Z) Z q)) Z (dE Z ?_);refine nx 1 Z (fD [66] h2 Z (λ c43 h2=>?_) λ c43 h2=>?_)
    ·exact nx 6 Z (mQ (hR0 _ (hR1 _ (oi h2).symm).symm) Z (sr))
    refine nx 4 Z (oA h2 Z Z λ Lw h2=>?_);exact nx 2 Z (eX (k39+1) h2 (gE Z Z))
   exact nx 2 Z (eXi _ (oi h2).symm (gE Z Z))
  exact nx 2 Z (eXi _ (oi h1).symm (gE Z Z))
 refine nx 3 Z (oLl (f:=dd) Z Z ?_);refine nx 2 Z (fD [14,15] h1 Z (λ c1 h1=>?_) λ c1 h1=>?_)
 ·exact nx 23 Z (eX _ (oi h1).symm (gE Z Z))
 refine nx 2 Z (oLl (f:=j6) Z Z ?_);refine nx 3 Z (fD [19,20,21] h1 Z (λ c2 h1=>?_) λ c2 h1=>?_)
 ·exact nx 17 Z (eX _ (oi h1).symm (gE Z Z))
 refine nx 2 Z (oLl (f:=mj) Z Z ?_);refine nx 3 Z (fD [25,26,27] h1 Z (λ c3 h1=>?_) λ c3 h1=>?_)
 ·exact nx 11 Z (eX _ (oi h1).symm (gE Z Z))
 refine nx 2 Z (oLl (f:=bT) Z Z ?_);refine nx 3 Z (fD [31,32,33] h1 Z (λ c4 h1=>?_) λ c4 h1=>?_)
 ·exact nx 5 Z (eX _ (oi h1).symm (gE Z Z))
 refine nx 1 Z (oLl (f:=aQ) Z Z ?_);exact nx 3 Z (eX _ (oi h1).symm (gE Z Z))
def g8 (n:Nat)(E7:ba)(types_1:List ar):Option Bool :=(l6 n E7 types_1).bind λ r1=>if (!r1)=true then(gu n).bind λ r4=>some r4 else(ir n E7 types_1).bind λ r6=>(eq n E7).bind λ r8=>ck (r8.length+([10]:Az).length<=9223372036854775807)<|(if (r6.length:Int)<((r8++([10]:Az)).length:Int) then some true else ck (inR ((r6.length:Int)-((r8++([10]:Az)).length:Int)))<|ck ((0:Int)<=(r6.length:Int)-((r8++([10]:Az)).length:Int)/\(r6.length:Int)-((r8++([10]:Az)).length:Int)<=(r6.length:Int)/\(r6.length:Int)<=(r6.length:Int))<|some (!decide (sub r6 ((r6.length:Int)-((r8++([10]:Az)).length:Int)) (r6.length:Int)=r8++([10]:Az))) : Option Bool).bind λ GY=>if GY=true then some false else(if (r6.length:Int)=((r8++([10]:Az)).length:Int) then(gu n).bind λ Hd=>some Hd else ck (inR ((r6.length:Int)-((r8++([10]:Az)).length:Int)))<|ck (inR (((r6.length:Int)-((r8++([10]:Az)).length:Int))-1))<|ck ((0:Int)<=((r6.length:Int)-((r8++([10]:Az)).length:Int))-1/\((r6.length:Int)-((r8++([10]:Az)).length:Int))-1<(r6.length:Int))<|if byt r6 (((r6.length:Int)-((r8++([10]:Az)).length:Int))-1)=10 then(gu n).bind λ Hb=>some Hb else some false : Option Bool).bind λ Fu=>some Fu
theorem nI (n:Nat)(E7:ba)(types_1:List ar)(r:Bool)(h0:g8 n E7 types_1=some r):aB Tryz.prog 5 [.agg (ba.cs E7),eL aQ types_1] (·=.p (eB r)):=by
 unfold g8 at h0;refine aZ good Tryz.func5 Z Z Z λ w0=>mP (λ v:Bool=>.p (eB v)) ?_;refine nx 10 Z (bd h0 λ r1 e2 h0=>?_);refine oK (ug _ E7 types_1 _ e2) Z ⟨sr,sr,trivial⟩ Tryz.call15 Z (nx 2 Z ?_);refine fB [10] h0 Z (λ c3 h0=>?_) λ c3 h0=>?_
 ·refine nx 3 Z (bd h0 λ r4 e5 h0=>?_);refine oK (kW _  _ e5) Z trivial Tryz.call9 Z (nx 3 Z ?_);exact mQ (oi h0) Z (sr)
 refine nx 6 Z (bd h0 λ r6 e7 h0=>?_);refine oK (mz _ E7 types_1 _ e7) Z ⟨sr,sr,trivial⟩ Tryz.call16 Z (nx 5 Z ?_);refine bd h0 λ r8 e9 h0=>oK (iU _ E7 _ e9) Z ⟨sr,trivial⟩ Tryz.call17 Z (oC h0 Z λ G5 h0=>?_);refine nx 4 Z (bd h0 λ Km h1 h0=>?_);refine kN Km (λ Kh=>⟨[(5,.p (eS r6)),(6,.p (eS (r8++([10]:Az)))),(33,.p (eB Kh))],[]⟩) ?_ ?_
 ·refine nx 1 Z (fB [33] h0 Z (λ IS h0=>?_) λ IS h0=>?_)
  ·exact nx 6 Z (mQ (oi h0) Z (sr))
  refine nx 3 Z (bd h0 λ Hf h1 h0=>?_);refine kN Hf (λ v31=>⟨[(4,.p (eB v31))],[]⟩) ?_ ?_
  ·exact nx 2 Z (mQ (oi h0) Z (sr))
  refine nx 2 Z (oLs Z ?_);refine nx 1 Z (oLs Z ?_);refine nx 2 Z (fD [38,39] h1 Z (λ Ih h1=>?_) λ Ih h1=>?_)
  ·refine nx 11 Z (bd h1 λ Hd J7 h1=>?_);refine oK (kW _  _ J7) Z trivial Tryz.call9 Z (nx 3 Z ?_);exact eX _ (oi h1).symm (gE Z Z)
  refine nx 2 Z (oLs Z ?_);refine nx 1 Z (oLs Z ?_);refine oA h1 Z Z λ Hm h1=>oA h1 Z Z λ FI h1=>oI h1 Z λ GR h1=>nx 3 Z (fD [48,49,50] h1 Z (λ Kd h1=>?_) λ Kd h1=>?_)
  ·refine bd h1 λ Hb J4 h1=>oK (kW _  _ J4) Z trivial Tryz.call9 Z (nx 3 Z ?_);exact eX _ (oi h1).symm (gE Z Z)
  exact nx 4 Z (eX _ (oi h1).symm (gE Z Z))
 refine nx 2 Z (oLs Z ?_);refine nx 1 Z (oLs Z ?_);refine nx 2 Z (fD [22,23] h1 Z (λ GB h1=>?_) λ GB h1=>?_)
 ·exact nx 11 Z (eX _ (oi h1).symm (gE Z Z))
 refine nx 2 Z (oLs Z ?_);refine nx 1 Z (oLs Z ?_);refine oA h1 Z Z λ Gt h1=>oP h1 Z Z Z λ G4 h1=>nx 1 Z (oS Z Z ?_);exact nx 2 Z (eX _ (oi h1).symm (gE Z Z))
end Go.Ab.R06
end
section
namespace Go.Ab
set_option autoImplicit false
theorem cG {α:Type}{tt:List (Nat×TI)}{n t s b:Nat}{cs:List PV}{z:List Value}(f:α->PV)(Q:α->Prop){e:Nat}(hl:look tt t=some ⟨.slice e,s,b,z⟩)(h:WTf tt n t cs)
  (he:∀ m x,m<n->WTf tt m e x.cells->x=mkE (((look tt e).map (·.k.isAgg)).getD false) x.cells->∃ y,x=f y/\Q y):∃ l:List α,cs=[eL f l]/\l.length*(((look tt e).map (·.bytes)).getD 0)<=bf/\∀ y∈l,Q y:=by
 cases n with
 | zero=>exact h.elim
 | succ n=>
  obtain ⟨l,h1,h2,h3⟩:=zJ f Q hl h (λ x k1 k2=>he n x O k1 k2);exact ⟨l,h1,h2.2,h3⟩
inductive aa.Bd:aa->Prop where
 | mk {x:aa} (bKind:inR x.Ar) (bNum:inR x.BY) (bStr:x.B'.length<=bf) (bItems:x.AI.length*80<=bf) (eItems:∀ y∈x.AI,aa.Bd y) (bKeys:x.A'.length*16<=bf) (eKeys:∀ y∈x.A',y.length<=bf):aa.Bd x
theorem aa.Bd.bKind {x:aa}(h:aa.Bd x):inR x.Ar:=by cases h; assumption
theorem aa.Bd.bNum {x:aa}(h:aa.Bd x):inR x.BY:=by cases h; assumption
theorem aa.Bd.bStr {x:aa}(h:aa.Bd x):x.B'.length<=bf:=by cases h; assumption
theorem aa.Bd.bItems {x:aa}(h:aa.Bd x):x.AI.length*80<=bf:=by cases h; assumption
theorem aa.Bd.eItems {x:aa}(h:aa.Bd x):∀ y∈x.AI,aa.Bd y:=by cases h; assumption
theorem aa.Bd.bKeys {x:aa}(h:aa.Bd x):x.A'.length*16<=bf:=by cases h; assumption
theorem aa.Bd.eKeys {x:aa}(h:aa.Bd x):∀ y∈x.A',y.length<=bf:=by cases h; assumption
theorem aa.dec (n:Nat):(∀ cs,WTf tt n 31 cs->∃ x:aa,cs=aa.cs x/\aa.Bd x):=by
 induction n using Nat.strongRecOn with
 | _ n ih=>
 have HS:∀ m,m<n->(∀ cs,WTf tt m 31 cs->∃ x:aa,cs=aa.cs x/\aa.Bd x):=λ m hm=>(ih m hm)
 intro cs h
 cases n with
 | zero=>exact h.elim
 | succ n=>
 have h0:=ct rfl h;obtain ⟨c0,q0,rfl,k0,h0⟩:=aA h0;obtain ⟨c1,q1,rfl,k1,h0⟩:=aA h0;obtain ⟨c2,q2,rfl,k2,h0⟩:=aA h0;obtain ⟨c3,q3,rfl,k3,h0⟩:=aA h0;obtain ⟨c4,q4,rfl,k4,h0⟩:=aA h0;have e:q4=[]:=h0;subst e;obtain ⟨x1,rfl,b2⟩:=gZ rfl k0;obtain ⟨x3,rfl,b4⟩:=gZ rfl k1;obtain ⟨x5,rfl,b6⟩:=ci rfl k2
 obtain ⟨x7,rfl,b8⟩:=cG ah (λ y=>aa.Bd y) rfl k3 (λ m9 y10 hm11 k12 k13=>by
  obtain ⟨x14,J8,b15⟩:=HS _ O _ k12;exact ⟨x14,(iH J8 k13).trans (aa.Eo _).symm,b15⟩
  )
 obtain ⟨x17,rfl,b18⟩:=cG eS (λ y=>y.length<=bf) rfl k4 (λ m19 y20 hm21 k22 k23=>by
  obtain ⟨x24,e26,b25⟩:=ci rfl k22;exact ⟨x24,md e26 k23,b25⟩
  )
 exact ⟨aa.mk x1 x3 x5 x7 x17,Z,.mk b2 b4 b6 b8.1 b8.2 b18.1 b18.2⟩
inductive ax.Bd:ax->Prop where
 | mk {x:ax} (bAddr:x.Er.length<=bf) (bDeposed:x.Ex.length<=bf) (bType:x.Ei.length<=bf) (bAction:inR x.Ew) (bReason:inR x.EK) (bBefore:aa.Bd x.Ek) (bAfter:aa.Bd x.Ej) (bID:x.fID.length<=bf) (bReplace:x.Es.length*16<=bf) (eReplace:∀ y∈x.Es,y.length<=bf) (bDeps:x.EG.length*16<=bf) (eDeps:∀ y∈x.EG,y.length<=bf) (bOldDeps:x.ES.length*16<=bf) (eOldDeps:∀ y∈x.ES,y.length<=bf):ax.Bd x
theorem ax.Bd.bAddr {x:ax}(h:ax.Bd x):x.Er.length<=bf:=by cases h; assumption
theorem ax.Bd.bDeposed {x:ax}(h:ax.Bd x):x.Ex.length<=bf:=by cases h; assumption
theorem ax.Bd.bType {x:ax}(h:ax.Bd x):x.Ei.length<=bf:=by cases h; assumption
theorem ax.Bd.bAction {x:ax}(h:ax.Bd x):inR x.Ew:=by cases h; assumption
theorem ax.Bd.bReason {x:ax}(h:ax.Bd x):inR x.EK:=by cases h; assumption
theorem ax.Bd.bBefore {x:ax}(h:ax.Bd x):aa.Bd x.Ek:=by cases h; assumption
theorem ax.Bd.bAfter {x:ax}(h:ax.Bd x):aa.Bd x.Ej:=by cases h; assumption
theorem ax.Bd.bID {x:ax}(h:ax.Bd x):x.fID.length<=bf:=by cases h; assumption
theorem ax.Bd.bReplace {x:ax}(h:ax.Bd x):x.Es.length*16<=bf:=by cases h; assumption
theorem ax.Bd.eReplace {x:ax}(h:ax.Bd x):∀ y∈x.Es,y.length<=bf:=by cases h; assumption
theorem ax.Bd.bDeps {x:ax}(h:ax.Bd x):x.EG.length*16<=bf:=by cases h; assumption
theorem ax.Bd.eDeps {x:ax}(h:ax.Bd x):∀ y∈x.EG,y.length<=bf:=by cases h; assumption
theorem ax.Bd.bOldDeps {x:ax}(h:ax.Bd x):x.ES.length*16<=bf:=by cases h; assumption
theorem ax.Bd.eOldDeps {x:ax}(h:ax.Bd x):∀ y∈x.ES,y.length<=bf:=by cases h; assumption
theorem ax.dec (n:Nat):(∀ cs,WTf tt n 33 cs->∃ x:ax,cs=ax.cs x/\ax.Bd x):=by
 induction n using Nat.strongRecOn with
 | _ n ih=>
 have JV:∀ m,m<n->(∀ cs,WTf tt m 33 cs->∃ x:ax,cs=ax.cs x/\ax.Bd x):=λ m hm=>(ih m hm)
 intro cs h
 cases n with
 | zero=>exact h.elim
 | succ n=>
 have h0:=ct rfl h;obtain ⟨c0,q0,rfl,k0,h0⟩:=aA h0;obtain ⟨c1,q1,rfl,k1,h0⟩:=aA h0;obtain ⟨c2,q2,rfl,k2,h0⟩:=aA h0;obtain ⟨c3,q3,rfl,k3,h0⟩:=aA h0;obtain ⟨c4,q4,rfl,k4,h0⟩:=aA h0;obtain ⟨c5,q5,rfl,k5,h0⟩:=aA h0;obtain ⟨c6,q6,rfl,k6,h0⟩:=aA h0;obtain ⟨c7,q7,rfl,k7,h0⟩:=aA h0;obtain ⟨c8,q8,rfl,k8,h0⟩:=aA h0;obtain ⟨c9,q9,rfl,k9,h0⟩:=aA h0;obtain ⟨GD,q10,rfl,k10,h0⟩:=aA h0;obtain ⟨GB,q11,rfl,k11,h0⟩:=aA h0;obtain ⟨Hy,q12,rfl,k12,h0⟩:=aA h0;obtain ⟨GA,JK,rfl,k13,h0⟩:=aA h0;have e:JK=[]:=h0;subst e;obtain ⟨x27,rfl,b28⟩:=ci rfl k0;obtain ⟨x29,rfl,b30⟩:=ci rfl k1;obtain ⟨x31,rfl,b32⟩:=ci rfl k2;obtain ⟨x33,rfl,b34⟩:=gZ rfl k3;obtain ⟨x35,rfl,b36⟩:=gZ rfl k4;obtain ⟨x37,rfl,b38⟩:=aa.dec _ _ k5;obtain ⟨x39,rfl,b40⟩:=aa.dec _ _ k6;obtain ⟨x41,rfl,b42⟩:=ci rfl k7
 obtain ⟨x43,rfl,b44⟩:=cG eS (λ y=>y.length<=bf) rfl k8 (λ m45 y46 hm47 k48 k49=>by
  obtain ⟨x50,e52,b51⟩:=ci rfl k48;exact ⟨x50,md e52 k49,b51⟩
  )
 obtain ⟨x53,rfl⟩:=fm rfl k9;obtain ⟨x55,rfl⟩:=fm rfl k10;obtain ⟨x57,rfl⟩:=fm rfl k11
 obtain ⟨x59,rfl,b60⟩:=cG eS (λ y=>y.length<=bf) rfl k12 (λ m61 y62 hm63 k64 k65=>by
  obtain ⟨x66,e68,b67⟩:=ci rfl k64;exact ⟨x66,md e68 k65,b67⟩
  )
 obtain ⟨x69,rfl,b70⟩:=cG eS (λ y=>y.length<=bf) rfl k13 (λ m71 y72 hm73 k74 k75=>by
  obtain ⟨x76,e78,b77⟩:=ci rfl k74;exact ⟨x76,md e78 k75,b77⟩
  )
 exact ⟨ax.mk x27 x29 x31 x33 x35 x37 x39 x41 x43 x53 x55 x57 x59 x69,Z,.mk b28 b30 b32 b34 b36 b38 b40 b42 b44.1 b44.2 b60.1 b60.2 b70.1 b70.2⟩
inductive ag.Bd:ag->Prop where
 | mk {x:ag} (bKind:inR x.Ar) (bElems:x.Em.length*56<=bf) (eElems:∀ y∈x.Em,ag.Bd y) (bNames:x.Df.length*16<=bf) (eNames:∀ y∈x.Df,y.length<=bf):ag.Bd x
theorem ag.Bd.bKind {x:ag}(h:ag.Bd x):inR x.Ar:=by cases h; assumption
theorem ag.Bd.bElems {x:ag}(h:ag.Bd x):x.Em.length*56<=bf:=by cases h; assumption
theorem ag.Bd.eElems {x:ag}(h:ag.Bd x):∀ y∈x.Em,ag.Bd y:=by cases h; assumption
theorem ag.Bd.bNames {x:ag}(h:ag.Bd x):x.Df.length*16<=bf:=by cases h; assumption
theorem ag.Bd.eNames {x:ag}(h:ag.Bd x):∀ y∈x.Df,y.length<=bf:=by cases h; assumption
theorem ag.dec (n:Nat):(∀ cs,WTf tt n 104 cs->∃ x:ag,cs=ag.cs x/\ag.Bd x):=by
 induction n using Nat.strongRecOn with
 | _ n ih=>
 have IH:∀ m,m<n->(∀ cs,WTf tt m 104 cs->∃ x:ag,cs=ag.cs x/\ag.Bd x):=λ m hm=>(ih m hm)
 intro cs h
 cases n with
 | zero=>exact h.elim
 | succ n=>
 have h0:=ct rfl h;obtain ⟨c0,q0,rfl,k0,h0⟩:=aA h0;obtain ⟨c1,q1,rfl,k1,h0⟩:=aA h0;obtain ⟨c2,q2,rfl,k2,h0⟩:=aA h0;have e:q2=[]:=h0;subst e;obtain ⟨x79,rfl,b80⟩:=gZ rfl k0
 obtain ⟨x81,rfl,b82⟩:=cG aD (λ y=>ag.Bd y) rfl k1 (λ m83 y84 hm85 k86 k87=>by
  obtain ⟨x88,e90,b89⟩:=IH _ O _ k86;exact ⟨x88,(iH e90 k87).trans (ag.Eo _).symm,b89⟩
  )
 obtain ⟨x91,rfl,b92⟩:=cG eS (λ y=>y.length<=bf) rfl k2 (λ m93 y94 hm95 k96 k97=>by
  obtain ⟨x98,e100,b99⟩:=ci rfl k96;exact ⟨x98,md e100 k97,b99⟩
  )
 exact ⟨ag.mk x79 x81 x91,Z,.mk b80 b82.1 b82.2 b92.1 b92.2⟩
inductive aF.Bd:aF->Prop where
 | mk {x:aF} (bName:x.By.length<=bf) (bType:ag.Bd x.Ei) (bMode:inR x.EC):aF.Bd x
theorem aF.Bd.bName {x:aF}(h:aF.Bd x):x.By.length<=bf:=by cases h; assumption
theorem aF.Bd.bType {x:aF}(h:aF.Bd x):ag.Bd x.Ei:=by cases h; assumption
theorem aF.Bd.bMode {x:aF}(h:aF.Bd x):inR x.EC:=by cases h; assumption
theorem aF.dec (n:Nat):(∀ cs,WTf tt n 107 cs->∃ x:aF,cs=aF.cs x/\aF.Bd x):=by
 induction n using Nat.strongRecOn with
 | _ n ih=>
 have Lf:∀ m,m<n->(∀ cs,WTf tt m 107 cs->∃ x:aF,cs=aF.cs x/\aF.Bd x):=λ m hm=>(ih m hm)
 intro cs h
 cases n with
 | zero=>exact h.elim
 | succ n=>
 have h0:=ct rfl h;obtain ⟨c0,q0,rfl,k0,h0⟩:=aA h0;obtain ⟨c1,q1,rfl,k1,h0⟩:=aA h0;obtain ⟨c2,q2,rfl,k2,h0⟩:=aA h0;obtain ⟨c3,q3,rfl,k3,h0⟩:=aA h0;obtain ⟨c4,q4,rfl,k4,h0⟩:=aA h0;obtain ⟨c5,q5,rfl,k5,h0⟩:=aA h0;have e:q5=[]:=h0;subst e;obtain ⟨x101,rfl,b102⟩:=ci rfl k0;obtain ⟨x103,rfl,b104⟩:=ag.dec _ _ k1;obtain ⟨x105,rfl,b106⟩:=gZ rfl k2;obtain ⟨x107,rfl⟩:=fm rfl k3;obtain ⟨x109,rfl⟩:=fm rfl k4;obtain ⟨x111,rfl⟩:=fm rfl k5;exact ⟨aF.mk x101 x103 x105 x107 x109 x111,rfl,.mk b102 b104 b106⟩
inductive aR.Bd:aR->Prop where
 | mk {x:aR} (bName:x.By.length<=bf) (bMin:inR x.EI) (bMax:inR x.EJ) (bAttrs:x.C'.length*88<=bf) (eAttrs:∀ y∈x.C',aF.Bd y):aR.Bd x
theorem aR.Bd.bName {x:aR}(h:aR.Bd x):x.By.length<=bf:=by cases h; assumption
theorem aR.Bd.bMin {x:aR}(h:aR.Bd x):inR x.EI:=by cases h; assumption
theorem aR.Bd.bMax {x:aR}(h:aR.Bd x):inR x.EJ:=by cases h; assumption
theorem aR.Bd.bAttrs {x:aR}(h:aR.Bd x):x.C'.length*88<=bf:=by cases h; assumption
theorem aR.Bd.eAttrs {x:aR}(h:aR.Bd x):∀ y∈x.C',aF.Bd y:=by cases h; assumption
theorem aR.dec (n:Nat):(∀ cs,WTf tt n 71 cs->∃ x:aR,cs=aR.cs x/\aR.Bd x):=by
 induction n using Nat.strongRecOn with
 | _ n ih=>
 have JU:∀ m,m<n->(∀ cs,WTf tt m 71 cs->∃ x:aR,cs=aR.cs x/\aR.Bd x):=λ m hm=>(ih m hm)
 intro cs h
 cases n with
 | zero=>exact h.elim
 | succ n=>
 have h0:=ct rfl h;obtain ⟨c0,q0,rfl,k0,h0⟩:=aA h0;obtain ⟨c1,q1,rfl,k1,h0⟩:=aA h0;obtain ⟨c2,q2,rfl,k2,h0⟩:=aA h0;obtain ⟨c3,q3,rfl,k3,h0⟩:=aA h0;obtain ⟨c4,q4,rfl,k4,h0⟩:=aA h0;have e:q4=[]:=h0;subst e;obtain ⟨x113,rfl,b114⟩:=ci rfl k0;obtain ⟨x115,rfl,b116⟩:=gZ rfl k1;obtain ⟨x117,rfl,b118⟩:=gZ rfl k2
 obtain ⟨x119,rfl,b120⟩:=cG a8 (λ y=>aF.Bd y) rfl k3 (λ m121 y122 hm123 k124 k125=>by
  obtain ⟨x126,e128,b127⟩:=aF.dec _ _ k124;exact ⟨x126,(iH e128 k125).trans (aF.Eo _).symm,b127⟩
  )
 obtain ⟨x129,rfl⟩:=fm rfl k4;exact ⟨aR.mk x113 x115 x117 x119 x129,rfl,.mk b114 b116 b118 b120.1 b120.2⟩
inductive au.Bd:au->Prop where
 | mk {x:au} (bAttrs:x.C'.length*88<=bf) (eAttrs:∀ y∈x.C',aF.Bd y) (bNested:x.AT.length*64<=bf) (eNested:∀ y∈x.AT,aR.Bd y):au.Bd x
theorem au.Bd.bAttrs {x:au}(h:au.Bd x):x.C'.length*88<=bf:=by cases h; assumption
theorem au.Bd.eAttrs {x:au}(h:au.Bd x):∀ y∈x.C',aF.Bd y:=by cases h; assumption
theorem au.Bd.bNested {x:au}(h:au.Bd x):x.AT.length*64<=bf:=by cases h; assumption
theorem au.Bd.eNested {x:au}(h:au.Bd x):∀ y∈x.AT,aR.Bd y:=by cases h; assumption
theorem au.dec (n:Nat):(∀ cs,WTf tt n 37 cs->∃ x:au,cs=au.cs x/\au.Bd x):=by
 induction n using Nat.strongRecOn with
 | _ n ih=>
 have JS:∀ m,m<n->(∀ cs,WTf tt m 37 cs->∃ x:au,cs=au.cs x/\au.Bd x):=λ m hm=>(ih m hm)
 intro cs h
 cases n with
 | zero=>exact h.elim
 | succ n=>
 have h0:=ct rfl h;obtain ⟨c0,q0,rfl,k0,h0⟩:=aA h0;obtain ⟨c1,q1,rfl,k1,h0⟩:=aA h0;have e:q1=[]:=h0;subst e
 obtain ⟨x131,rfl,b132⟩:=cG a8 (λ y=>aF.Bd y) rfl k0 (λ m133 y134 hm135 k136 k137=>by
  obtain ⟨x138,e140,b139⟩:=aF.dec _ _ k136;exact ⟨x138,(iH e140 k137).trans (aF.Eo _).symm,b139⟩
  )
 obtain ⟨x141,rfl,b142⟩:=cG bc (λ y=>aR.Bd y) rfl k1 (λ m143 y144 hm145 k146 k147=>by
  obtain ⟨x148,e150,b149⟩:=aR.dec _ _ k146;exact ⟨x148,(iH e150 k147).trans (aR.Eo _).symm,b149⟩
  )
 exact ⟨au.mk x131 x141,Z,.mk b132.1 b132.2 b142.1 b142.2⟩
inductive aH.Bd:aH->Prop where
 | mk {x:aH} (bTargets:x.EN.length*16<=bf) (eTargets:∀ y∈x.EN,y.length<=bf) (bReplace:x.Es.length*16<=bf) (eReplace:∀ y∈x.Es,y.length<=bf) (bRemote:aa.Bd x.Ez) (bVars:aa.Bd x.EA):aH.Bd x
theorem aH.Bd.bTargets {x:aH}(h:aH.Bd x):x.EN.length*16<=bf:=by cases h; assumption
theorem aH.Bd.eTargets {x:aH}(h:aH.Bd x):∀ y∈x.EN,y.length<=bf:=by cases h; assumption
theorem aH.Bd.bReplace {x:aH}(h:aH.Bd x):x.Es.length*16<=bf:=by cases h; assumption
theorem aH.Bd.eReplace {x:aH}(h:aH.Bd x):∀ y∈x.Es,y.length<=bf:=by cases h; assumption
theorem aH.Bd.bRemote {x:aH}(h:aH.Bd x):aa.Bd x.Ez:=by cases h; assumption
theorem aH.Bd.bVars {x:aH}(h:aH.Bd x):aa.Bd x.EA:=by cases h; assumption
theorem aH.dec (n:Nat):(∀ cs,WTf tt n 44 cs->∃ x:aH,cs=aH.cs x/\aH.Bd x):=by
 induction n using Nat.strongRecOn with
 | _ n ih=>
 have Iq:∀ m,m<n->(∀ cs,WTf tt m 44 cs->∃ x:aH,cs=aH.cs x/\aH.Bd x):=λ m hm=>(ih m hm)
 intro cs h
 cases n with
 | zero=>exact h.elim
 | succ n=>
 have h0:=ct rfl h;obtain ⟨c0,q0,rfl,k0,h0⟩:=aA h0;obtain ⟨c1,q1,rfl,k1,h0⟩:=aA h0;obtain ⟨c2,q2,rfl,k2,h0⟩:=aA h0;obtain ⟨c3,q3,rfl,k3,h0⟩:=aA h0;obtain ⟨c4,q4,rfl,k4,h0⟩:=aA h0;obtain ⟨c5,q5,rfl,k5,h0⟩:=aA h0;have e:q5=[]:=h0;subst e;obtain ⟨x151,rfl⟩:=fm rfl k0;obtain ⟨x153,rfl⟩:=fm rfl k1
 obtain ⟨x155,rfl,b156⟩:=cG eS (λ y=>y.length<=bf) rfl k2 (λ m157 y158 hm159 k160 k161=>by
  obtain ⟨x162,e164,b163⟩:=ci rfl k160;exact ⟨x162,md e164 k161,b163⟩
  )
 obtain ⟨x165,rfl,b166⟩:=cG eS (λ y=>y.length<=bf) rfl k3 (λ m167 y168 hm169 k170 k171=>by
  obtain ⟨x172,e174,b173⟩:=ci rfl k170;exact ⟨x172,md e174 k171,b173⟩
  )
 obtain ⟨x175,rfl,b176⟩:=aa.dec _ _ k4;obtain ⟨x177,rfl,b178⟩:=aa.dec _ _ k5;exact ⟨aH.mk x151 x153 x155 x165 x175 x177,rfl,.mk b156.1 b156.2 b166.1 b166.2 b176 b178⟩
inductive aV.Bd:aV->Prop where
 | mk {x:aV} (bAddr:x.Er.length<=bf) (bDeposed:x.Ex.length<=bf) (bID:x.fID.length<=bf) (bType:x.Ei.length<=bf) (bAttrs:aa.Bd x.C') (bVersion:inR x.EZ) (bDeps:x.EG.length*16<=bf) (eDeps:∀ y∈x.EG,y.length<=bf):aV.Bd x
theorem aV.Bd.bAddr {x:aV}(h:aV.Bd x):x.Er.length<=bf:=by cases h; assumption
theorem aV.Bd.bDeposed {x:aV}(h:aV.Bd x):x.Ex.length<=bf:=by cases h; assumption
theorem aV.Bd.bID {x:aV}(h:aV.Bd x):x.fID.length<=bf:=by cases h; assumption
theorem aV.Bd.bType {x:aV}(h:aV.Bd x):x.Ei.length<=bf:=by cases h; assumption
theorem aV.Bd.bAttrs {x:aV}(h:aV.Bd x):aa.Bd x.C':=by cases h; assumption
theorem aV.Bd.bVersion {x:aV}(h:aV.Bd x):inR x.EZ:=by cases h; assumption
theorem aV.Bd.bDeps {x:aV}(h:aV.Bd x):x.EG.length*16<=bf:=by cases h; assumption
theorem aV.Bd.eDeps {x:aV}(h:aV.Bd x):∀ y∈x.EG,y.length<=bf:=by cases h; assumption
theorem aV.dec (n:Nat):(∀ cs,WTf tt n 273 cs->∃ x:aV,cs=aV.cs x/\aV.Bd x):=by
 induction n using Nat.strongRecOn with
 | _ n ih=>
 have I':∀ m,m<n->(∀ cs,WTf tt m 273 cs->∃ x:aV,cs=aV.cs x/\aV.Bd x):=λ m hm=>(ih m hm)
 intro cs h
 cases n with
 | zero=>exact h.elim
 | succ n=>
 have h0:=ct rfl h;obtain ⟨c0,q0,rfl,k0,h0⟩:=aA h0;obtain ⟨c1,q1,rfl,k1,h0⟩:=aA h0;obtain ⟨c2,q2,rfl,k2,h0⟩:=aA h0;obtain ⟨c3,q3,rfl,k3,h0⟩:=aA h0;obtain ⟨c4,q4,rfl,k4,h0⟩:=aA h0;obtain ⟨c5,q5,rfl,k5,h0⟩:=aA h0;obtain ⟨c6,q6,rfl,k6,h0⟩:=aA h0;obtain ⟨c7,q7,rfl,k7,h0⟩:=aA h0;obtain ⟨c8,q8,rfl,k8,h0⟩:=aA h0;have e:q8=[]:=h0;subst e;obtain ⟨x179,rfl,b180⟩:=ci rfl k0;obtain ⟨x181,rfl,b182⟩:=ci rfl k1;obtain ⟨x183,rfl,b184⟩:=ci rfl k2;obtain ⟨x185,rfl,b186⟩:=ci rfl k3;obtain ⟨x187,rfl,b188⟩:=aa.dec _ _ k4;obtain ⟨x189,rfl,b190⟩:=gZ rfl k5;obtain ⟨x191,rfl⟩:=fm rfl k6;obtain ⟨x193,rfl⟩:=fm rfl k7
 obtain ⟨x195,rfl,b196⟩:=cG eS (λ y=>y.length<=bf) rfl k8 (λ m197 y198 hm199 k200 k201=>by
  obtain ⟨x202,e204,b203⟩:=ci rfl k200;exact ⟨x202,md e204 k201,b203⟩
  )
 exact ⟨aV.mk x179 x181 x183 x185 x187 x189 x191 x193 x195,Z,.mk b180 b182 b184 b186 b188 b190 b196.1 b196.2⟩
inductive bU.Bd:bU->Prop where
 | mk {x:bU} (bAddr:x.Er.length<=bf) (bType:x.Ei.length<=bf) (bToken:x.E0.length<=bf):bU.Bd x
theorem bU.Bd.bAddr {x:bU}(h:bU.Bd x):x.Er.length<=bf:=by cases h; assumption
theorem bU.Bd.bType {x:bU}(h:bU.Bd x):x.Ei.length<=bf:=by cases h; assumption
theorem bU.Bd.bToken {x:bU}(h:bU.Bd x):x.E0.length<=bf:=by cases h; assumption
theorem bU.dec (n:Nat):(∀ cs,WTf tt n 275 cs->∃ x:bU,cs=bU.cs x/\bU.Bd x):=by
 induction n using Nat.strongRecOn with
 | _ n ih=>
 have Ju:∀ m,m<n->(∀ cs,WTf tt m 275 cs->∃ x:bU,cs=bU.cs x/\bU.Bd x):=λ m hm=>(ih m hm)
 intro cs h
 cases n with
 | zero=>exact h.elim
 | succ n=>
 have h0:=ct rfl h;obtain ⟨c0,q0,rfl,k0,h0⟩:=aA h0;obtain ⟨c1,q1,rfl,k1,h0⟩:=aA h0;obtain ⟨c2,q2,rfl,k2,h0⟩:=aA h0;have e:q2=[]:=h0;subst e;obtain ⟨x205,rfl,b206⟩:=ci rfl k0;obtain ⟨x207,rfl,b208⟩:=ci rfl k1;obtain ⟨x209,rfl,b210⟩:=ci rfl k2;exact ⟨bU.mk x205 x207 x209,rfl,.mk b206 b208 b210⟩
inductive bb.Bd:bb->Prop where
 | mk {x:bb} (bName:x.By.length<=bf) (bValue:aa.Bd x.ED):bb.Bd x
theorem bb.Bd.bName {x:bb}(h:bb.Bd x):x.By.length<=bf:=by cases h; assumption
theorem bb.Bd.bValue {x:bb}(h:bb.Bd x):aa.Bd x.ED:=by cases h; assumption
theorem bb.dec (n:Nat):(∀ cs,WTf tt n 277 cs->∃ x:bb,cs=bb.cs x/\bb.Bd x):=by
 induction n using Nat.strongRecOn with
 | _ n ih=>
 have Ip:∀ m,m<n->(∀ cs,WTf tt m 277 cs->∃ x:bb,cs=bb.cs x/\bb.Bd x):=λ m hm=>(ih m hm)
 intro cs h
 cases n with
 | zero=>exact h.elim
 | succ n=>
 have h0:=ct rfl h;obtain ⟨c0,q0,rfl,k0,h0⟩:=aA h0;obtain ⟨c1,q1,rfl,k1,h0⟩:=aA h0;obtain ⟨c2,q2,rfl,k2,h0⟩:=aA h0;have e:q2=[]:=h0;subst e;obtain ⟨x211,rfl,b212⟩:=ci rfl k0;obtain ⟨x213,rfl,b214⟩:=aa.dec _ _ k1;obtain ⟨x215,rfl⟩:=fm rfl k2;exact ⟨bb.mk x211 x213 x215,rfl,.mk b212 b214⟩
inductive bW.Bd:bW->Prop where
 | mk {x:bW} (bLineage:x.ET.length<=bf) (bSerial:inR x.EU) (bInstances:x.EO.length*184<=bf) (eInstances:∀ y∈x.EO,aV.Bd y) (bPending:x.EP.length*48<=bf) (ePending:∀ y∈x.EP,bU.Bd y) (bOutputs:x.D'.length*104<=bf) (eOutputs:∀ y∈x.D',bb.Bd y):bW.Bd x
theorem bW.Bd.bLineage {x:bW}(h:bW.Bd x):x.ET.length<=bf:=by cases h; assumption
theorem bW.Bd.bSerial {x:bW}(h:bW.Bd x):inR x.EU:=by cases h; assumption
theorem bW.Bd.bInstances {x:bW}(h:bW.Bd x):x.EO.length*184<=bf:=by cases h; assumption
theorem bW.Bd.eInstances {x:bW}(h:bW.Bd x):∀ y∈x.EO,aV.Bd y:=by cases h; assumption
theorem bW.Bd.bPending {x:bW}(h:bW.Bd x):x.EP.length*48<=bf:=by cases h; assumption
theorem bW.Bd.ePending {x:bW}(h:bW.Bd x):∀ y∈x.EP,bU.Bd y:=by cases h; assumption
theorem bW.Bd.bOutputs {x:bW}(h:bW.Bd x):x.D'.length*104<=bf:=by cases h; assumption
theorem bW.Bd.eOutputs {x:bW}(h:bW.Bd x):∀ y∈x.D',bb.Bd y:=by cases h; assumption
theorem bW.dec (n:Nat):(∀ cs,WTf tt n 49 cs->∃ x:bW,cs=bW.cs x/\bW.Bd x):=by
 induction n using Nat.strongRecOn with
 | _ n ih=>
 have Ko:∀ m,m<n->(∀ cs,WTf tt m 49 cs->∃ x:bW,cs=bW.cs x/\bW.Bd x):=λ m hm=>(ih m hm)
 intro cs h
 cases n with
 | zero=>exact h.elim
 | succ n=>
 have h0:=ct rfl h;obtain ⟨c0,q0,rfl,k0,h0⟩:=aA h0;obtain ⟨c1,q1,rfl,k1,h0⟩:=aA h0;obtain ⟨c2,q2,rfl,k2,h0⟩:=aA h0;obtain ⟨c3,q3,rfl,k3,h0⟩:=aA h0;obtain ⟨c4,q4,rfl,k4,h0⟩:=aA h0;have e:q4=[]:=h0;subst e;obtain ⟨x217,rfl,b218⟩:=ci rfl k0;obtain ⟨x219,rfl,b220⟩:=gZ rfl k1
 obtain ⟨x221,rfl,b222⟩:=cG iZ (λ y=>aV.Bd y) rfl k2 (λ m223 y224 hm225 k226 k227=>by
  obtain ⟨x228,e230,b229⟩:=aV.dec _ _ k226;exact ⟨x228,(iH e230 k227).trans (aV.Eo _).symm,b229⟩
  )
 obtain ⟨x231,rfl,b232⟩:=cG jZ (λ y=>bU.Bd y) rfl k3 (λ m233 y234 hm235 k236 k237=>by
  obtain ⟨x238,e240,b239⟩:=bU.dec _ _ k236;exact ⟨x238,(iH e240 k237).trans (bU.Eo _).symm,b239⟩
  )
 obtain ⟨x241,rfl,b242⟩:=cG fY (λ y=>bb.Bd y) rfl k4 (λ m243 y244 hm245 k246 k247=>by
  obtain ⟨x248,e250,b249⟩:=bb.dec _ _ k246;exact ⟨x248,(iH e250 k247).trans (bb.Eo _).symm,b249⟩
  )
 exact ⟨bW.mk x217 x219 x221 x231 x241,Z,.mk b218 b220 b222.1 b222.2 b232.1 b232.2 b242.1 b242.2⟩
inductive b9.Bd:b9->Prop where
 | mk {x:b9} (bAddr:x.Er.length<=bf) (bDeposed:x.Ex.length<=bf) (bBefore:aa.Bd x.Ek) (bAfter:aa.Bd x.Ej):b9.Bd x
theorem b9.Bd.bAddr {x:b9}(h:b9.Bd x):x.Er.length<=bf:=by cases h; assumption
theorem b9.Bd.bDeposed {x:b9}(h:b9.Bd x):x.Ex.length<=bf:=by cases h; assumption
theorem b9.Bd.bBefore {x:b9}(h:b9.Bd x):aa.Bd x.Ek:=by cases h; assumption
theorem b9.Bd.bAfter {x:b9}(h:b9.Bd x):aa.Bd x.Ej:=by cases h; assumption
theorem b9.dec (n:Nat):(∀ cs,WTf tt n 85 cs->∃ x:b9,cs=b9.cs x/\b9.Bd x):=by
 induction n using Nat.strongRecOn with
 | _ n ih=>
 have Kp:∀ m,m<n->(∀ cs,WTf tt m 85 cs->∃ x:b9,cs=b9.cs x/\b9.Bd x):=λ m hm=>(ih m hm)
 intro cs h
 cases n with
 | zero=>exact h.elim
 | succ n=>
 have h0:=ct rfl h;obtain ⟨c0,q0,rfl,k0,h0⟩:=aA h0;obtain ⟨c1,q1,rfl,k1,h0⟩:=aA h0;obtain ⟨c2,q2,rfl,k2,h0⟩:=aA h0;obtain ⟨c3,q3,rfl,k3,h0⟩:=aA h0;obtain ⟨c4,q4,rfl,k4,h0⟩:=aA h0;have e:q4=[]:=h0;subst e;obtain ⟨x251,rfl,b252⟩:=ci rfl k0;obtain ⟨x253,rfl,b254⟩:=ci rfl k1;obtain ⟨x255,rfl⟩:=fm rfl k2;obtain ⟨x257,rfl,b258⟩:=aa.dec _ _ k3;obtain ⟨x259,rfl,b260⟩:=aa.dec _ _ k4;exact ⟨b9.mk x251 x253 x255 x257 x259,rfl,.mk b252 b254 b258 b260⟩
inductive aK.Bd:aK->Prop where
 | mk {x:aK} (bName:x.By.length<=bf) (bBefore:aa.Bd x.Ek) (bAfter:aa.Bd x.Ej):aK.Bd x
theorem aK.Bd.bName {x:aK}(h:aK.Bd x):x.By.length<=bf:=by cases h; assumption
theorem aK.Bd.bBefore {x:aK}(h:aK.Bd x):aa.Bd x.Ek:=by cases h; assumption
theorem aK.Bd.bAfter {x:aK}(h:aK.Bd x):aa.Bd x.Ej:=by cases h; assumption
theorem aK.dec (n:Nat):(∀ cs,WTf tt n 87 cs->∃ x:aK,cs=aK.cs x/\aK.Bd x):=by
 induction n using Nat.strongRecOn with
 | _ n ih=>
 have HU:∀ m,m<n->(∀ cs,WTf tt m 87 cs->∃ x:aK,cs=aK.cs x/\aK.Bd x):=λ m hm=>(ih m hm)
 intro cs h
 cases n with
 | zero=>exact h.elim
 | succ n=>
 have h0:=ct rfl h;obtain ⟨c0,q0,rfl,k0,h0⟩:=aA h0;obtain ⟨c1,q1,rfl,k1,h0⟩:=aA h0;obtain ⟨c2,q2,rfl,k2,h0⟩:=aA h0;obtain ⟨c3,q3,rfl,k3,h0⟩:=aA h0;have e:q3=[]:=h0;subst e;obtain ⟨x261,rfl,b262⟩:=ci rfl k0;obtain ⟨x263,rfl,b264⟩:=aa.dec _ _ k1;obtain ⟨x265,rfl,b266⟩:=aa.dec _ _ k2;obtain ⟨x267,rfl⟩:=fm rfl k3;exact ⟨aK.mk x261 x263 x265 x267,rfl,.mk b262 b264 b266⟩
inductive bD.Bd:bD->Prop where
 | mk {x:bD} (bAddr:x.Er.length<=bf) (bValue:aa.Bd x.ED):bD.Bd x
theorem bD.Bd.bAddr {x:bD}(h:bD.Bd x):x.Er.length<=bf:=by cases h; assumption
theorem bD.Bd.bValue {x:bD}(h:bD.Bd x):aa.Bd x.ED:=by cases h; assumption
theorem bD.dec (n:Nat):(∀ cs,WTf tt n 279 cs->∃ x:bD,cs=bD.cs x/\bD.Bd x):=by
 induction n using Nat.strongRecOn with
 | _ n ih=>
 have I1:∀ m,m<n->(∀ cs,WTf tt m 279 cs->∃ x:bD,cs=bD.cs x/\bD.Bd x):=λ m hm=>(ih m hm)
 intro cs h
 cases n with
 | zero=>exact h.elim
 | succ n=>
 have h0:=ct rfl h;obtain ⟨c0,q0,rfl,k0,h0⟩:=aA h0;obtain ⟨c1,q1,rfl,k1,h0⟩:=aA h0;have e:q1=[]:=h0;subst e;obtain ⟨x269,rfl,b270⟩:=ci rfl k0;obtain ⟨x271,rfl,b272⟩:=aa.dec _ _ k1;exact ⟨bD.mk x269 x271,rfl,.mk b270 b272⟩
inductive eu.Bd:eu->Prop where
 | mk {x:eu} (bFrom:x.EH.length<=bf) (bTo:x.fTo.length<=bf) (bAt:inR x.fAt):eu.Bd x
theorem eu.Bd.bFrom {x:eu}(h:eu.Bd x):x.EH.length<=bf:=by cases h; assumption
theorem eu.Bd.bTo {x:eu}(h:eu.Bd x):x.fTo.length<=bf:=by cases h; assumption
theorem eu.Bd.bAt {x:eu}(h:eu.Bd x):inR x.fAt:=by cases h; assumption
theorem eu.dec (n:Nat):(∀ cs,WTf tt n 92 cs->∃ x:eu,cs=eu.cs x/\eu.Bd x):=by
 induction n using Nat.strongRecOn with
 | _ n ih=>
 have Ld:∀ m,m<n->(∀ cs,WTf tt m 92 cs->∃ x:eu,cs=eu.cs x/\eu.Bd x):=λ m hm=>(ih m hm)
 intro cs h
 cases n with
 | zero=>exact h.elim
 | succ n=>
 have h0:=ct rfl h;obtain ⟨c0,q0,rfl,k0,h0⟩:=aA h0;obtain ⟨c1,q1,rfl,k1,h0⟩:=aA h0;obtain ⟨c2,q2,rfl,k2,h0⟩:=aA h0;have e:q2=[]:=h0;subst e;obtain ⟨x273,rfl,b274⟩:=ci rfl k0;obtain ⟨x275,rfl,b276⟩:=ci rfl k1;obtain ⟨x277,rfl,b278⟩:=gZ rfl k2;exact ⟨eu.mk x273 x275 x277,rfl,.mk b274 b276 b278⟩
inductive ba.Bd:ba->Prop where
 | mk {x:ba} (bOptions:aH.Bd x.Eq) (bBase:bW.Bd x.EB) (bChanges:x.En.length*320<=bf) (eChanges:∀ y∈x.En,ax.Bd y) (bOutputs:x.D'.length*184<=bf) (eOutputs:∀ y∈x.D',aK.Bd y) (bData:x.EL.length*96<=bf) (eData:∀ y∈x.EL,bD.Bd y) (bDrift:x.Et.length*200<=bf) (eDrift:∀ y∈x.Et,b9.Bd y) (bMoved:x.Eu.length*40<=bf) (eMoved:∀ y∈x.Eu,eu.Bd y):ba.Bd x
theorem ba.Bd.bOptions {x:ba}(h:ba.Bd x):aH.Bd x.Eq:=by cases h; assumption
theorem ba.Bd.bBase {x:ba}(h:ba.Bd x):bW.Bd x.EB:=by cases h; assumption
theorem ba.Bd.bChanges {x:ba}(h:ba.Bd x):x.En.length*320<=bf:=by cases h; assumption
theorem ba.Bd.eChanges {x:ba}(h:ba.Bd x):∀ y∈x.En,ax.Bd y:=by cases h; assumption
theorem ba.Bd.bOutputs {x:ba}(h:ba.Bd x):x.D'.length*184<=bf:=by cases h; assumption
theorem ba.Bd.eOutputs {x:ba}(h:ba.Bd x):∀ y∈x.D',aK.Bd y:=by cases h; assumption
theorem ba.Bd.bData {x:ba}(h:ba.Bd x):x.EL.length*96<=bf:=by cases h; assumption
theorem ba.Bd.eData {x:ba}(h:ba.Bd x):∀ y∈x.EL,bD.Bd y:=by cases h; assumption
theorem ba.Bd.bDrift {x:ba}(h:ba.Bd x):x.Et.length*200<=bf:=by cases h; assumption
theorem ba.Bd.eDrift {x:ba}(h:ba.Bd x):∀ y∈x.Et,b9.Bd y:=by cases h; assumption
theorem ba.Bd.bMoved {x:ba}(h:ba.Bd x):x.Eu.length*40<=bf:=by cases h; assumption
theorem ba.Bd.eMoved {x:ba}(h:ba.Bd x):∀ y∈x.Eu,eu.Bd y:=by cases h; assumption
theorem ba.dec (n:Nat):(∀ cs,WTf tt n 56 cs->∃ x:ba,cs=ba.cs x/\ba.Bd x):=by
 induction n using Nat.strongRecOn with
 | _ n ih=>
 have Lc:∀ m,m<n->(∀ cs,WTf tt m 56 cs->∃ x:ba,cs=ba.cs x/\ba.Bd x):=λ m hm=>(ih m hm)
 intro cs h
 cases n with
 | zero=>exact h.elim
 | succ n=>
 have h0:=ct rfl h;obtain ⟨c0,q0,rfl,k0,h0⟩:=aA h0;obtain ⟨c1,q1,rfl,k1,h0⟩:=aA h0;obtain ⟨c2,q2,rfl,k2,h0⟩:=aA h0;obtain ⟨c3,q3,rfl,k3,h0⟩:=aA h0;obtain ⟨c4,q4,rfl,k4,h0⟩:=aA h0;obtain ⟨c5,q5,rfl,k5,h0⟩:=aA h0;obtain ⟨c6,q6,rfl,k6,h0⟩:=aA h0;have e:q6=[]:=h0;subst e;obtain ⟨x279,rfl,b280⟩:=aH.dec _ _ k0;obtain ⟨x281,rfl,b282⟩:=bW.dec _ _ k1
 obtain ⟨x283,rfl,b284⟩:=cG dd (λ y=>ax.Bd y) rfl k2 (λ m285 y286 hm287 k288 k289=>by
  obtain ⟨x290,e292,b291⟩:=ax.dec _ _ k288;exact ⟨x290,(iH e292 k289).trans (ax.Eo _).symm,b291⟩
  )
 obtain ⟨x293,rfl,b294⟩:=cG bT (λ y=>aK.Bd y) rfl k3 (λ m295 y296 hm297 k298 k299=>by
  obtain ⟨x300,e302,b301⟩:=aK.dec _ _ k298;exact ⟨x300,(iH e302 k299).trans (aK.Eo _).symm,b301⟩
  )
 obtain ⟨x303,rfl,b304⟩:=cG jh (λ y=>bD.Bd y) rfl k4 (λ m305 y306 hm307 k308 k309=>by
  obtain ⟨x310,e312,b311⟩:=bD.dec _ _ k308;exact ⟨x310,(iH e312 k309).trans (bD.Eo _).symm,b311⟩
  )
 obtain ⟨x313,rfl,b314⟩:=cG j6 (λ y=>b9.Bd y) rfl k5 (λ m315 y316 hm317 k318 k319=>by
  obtain ⟨x320,e322,b321⟩:=b9.dec _ _ k318;exact ⟨x320,(iH e322 k319).trans (b9.Eo _).symm,b321⟩
  )
 obtain ⟨x323,rfl,b324⟩:=cG mj (λ y=>eu.Bd y) rfl k6 (λ m325 y326 hm327 k328 k329=>by
  obtain ⟨x330,e332,b331⟩:=eu.dec _ _ k328;exact ⟨x330,(iH e332 k329).trans (eu.Eo _).symm,b331⟩
  )
 exact ⟨ba.mk x279 x281 x283 x293 x303 x313 x323,Z,.mk b280 b282 b284.1 b284.2 b294.1 b294.2 b304.1 b304.2 b314.1 b314.2 b324.1 b324.2⟩
inductive ar.Bd:ar->Prop where
 | mk {x:ar} (bName:x.By.length<=bf) (bSchema:au.Bd x.EF) (bQuota:inR x.E2):ar.Bd x
theorem ar.Bd.bName {x:ar}(h:ar.Bd x):x.By.length<=bf:=by cases h; assumption
theorem ar.Bd.bSchema {x:ar}(h:ar.Bd x):au.Bd x.EF:=by cases h; assumption
theorem ar.Bd.bQuota {x:ar}(h:ar.Bd x):inR x.E2:=by cases h; assumption
theorem ar.dec (n:Nat):(∀ cs,WTf tt n 83 cs->∃ x:ar,cs=ar.cs x/\ar.Bd x):=by
 induction n using Nat.strongRecOn with
 | _ n ih=>
 have HT:∀ m,m<n->(∀ cs,WTf tt m 83 cs->∃ x:ar,cs=ar.cs x/\ar.Bd x):=λ m hm=>(ih m hm)
 intro cs h
 cases n with
 | zero=>exact h.elim
 | succ n=>
 have h0:=ct rfl h;obtain ⟨c0,q0,rfl,k0,h0⟩:=aA h0;obtain ⟨c1,q1,rfl,k1,h0⟩:=aA h0;obtain ⟨c2,q2,rfl,k2,h0⟩:=aA h0;have e:q2=[]:=h0;subst e;obtain ⟨x333,rfl,b334⟩:=ci rfl k0;obtain ⟨x335,rfl,b336⟩:=au.dec _ _ k1;obtain ⟨x337,rfl,b338⟩:=gZ rfl k2;exact ⟨ar.mk x333 x335 x337,rfl,.mk b334 b336 b338⟩
inductive ez.Bd:ez->Prop where
 | mk {x:ez} (bKind:inR x.Ar) (bNum:inR x.BY) (bStr:x.B'.length<=bf):ez.Bd x
theorem ez.Bd.bKind {x:ez}(h:ez.Bd x):inR x.Ar:=by cases h; assumption
theorem ez.Bd.bNum {x:ez}(h:ez.Bd x):inR x.BY:=by cases h; assumption
theorem ez.Bd.bStr {x:ez}(h:ez.Bd x):x.B'.length<=bf:=by cases h; assumption
theorem ez.dec (n:Nat):(∀ cs,WTf tt n 131 cs->∃ x:ez,cs=ez.cs x/\ez.Bd x):=by
 induction n using Nat.strongRecOn with
 | _ n ih=>
 have ih_TKey:∀ m,m<n->(∀ cs,WTf tt m 131 cs->∃ x:ez,cs=ez.cs x/\ez.Bd x):=λ m hm=>(ih m hm)
 intro cs h
 cases n with
 | zero=>exact h.elim
 | succ n=>
 have h0:=ct rfl h;obtain ⟨c0,q0,rfl,k0,h0⟩:=aA h0;obtain ⟨c1,q1,rfl,k1,h0⟩:=aA h0;obtain ⟨c2,q2,rfl,k2,h0⟩:=aA h0;have e:q2=[]:=h0;subst e;obtain ⟨x339,rfl,b340⟩:=gZ rfl k0;obtain ⟨x341,rfl,b342⟩:=gZ rfl k1;obtain ⟨x343,rfl,b344⟩:=ci rfl k2;exact ⟨ez.mk x339 x341 x343,rfl,.mk b340 b342 b344⟩
inductive aG.Bd:aG->Prop where
 | mk {x:aG} (bName:x.By.length<=bf) (bKey:ez.Bd x.EE):aG.Bd x
theorem aG.Bd.bName {x:aG}(h:aG.Bd x):x.By.length<=bf:=by cases h; assumption
theorem aG.Bd.bKey {x:aG}(h:aG.Bd x):ez.Bd x.EE:=by cases h; assumption
theorem aG.dec (n:Nat):(∀ cs,WTf tt n 167 cs->∃ x:aG,cs=aG.cs x/\aG.Bd x):=by
 induction n using Nat.strongRecOn with
 | _ n ih=>
 have II:∀ m,m<n->(∀ cs,WTf tt m 167 cs->∃ x:aG,cs=aG.cs x/\aG.Bd x):=λ m hm=>(ih m hm)
 intro cs h
 cases n with
 | zero=>exact h.elim
 | succ n=>
 have h0:=ct rfl h;obtain ⟨c0,q0,rfl,k0,h0⟩:=aA h0;obtain ⟨c1,q1,rfl,k1,h0⟩:=aA h0;have e:q1=[]:=h0;subst e;obtain ⟨x345,rfl,b346⟩:=ci rfl k0;obtain ⟨x347,rfl,b348⟩:=ez.dec _ _ k1;exact ⟨aG.mk x345 x347,rfl,.mk b346 b348⟩
inductive br.Bd:br->Prop where
 | mk {x:br} (bModule:x.EV.length*48<=bf) (eModule:∀ y∈x.EV,aG.Bd y) (bType:x.Ei.length<=bf) (bName:x.By.length<=bf) (bKey:ez.Bd x.EE):br.Bd x
theorem br.Bd.bModule {x:br}(h:br.Bd x):x.EV.length*48<=bf:=by cases h; assumption
theorem br.Bd.eModule {x:br}(h:br.Bd x):∀ y∈x.EV,aG.Bd y:=by cases h; assumption
theorem br.Bd.bType {x:br}(h:br.Bd x):x.Ei.length<=bf:=by cases h; assumption
theorem br.Bd.bName {x:br}(h:br.Bd x):x.By.length<=bf:=by cases h; assumption
theorem br.Bd.bKey {x:br}(h:br.Bd x):ez.Bd x.EE:=by cases h; assumption
theorem br.dec (n:Nat):(∀ cs,WTf tt n 133 cs->∃ x:br,cs=br.cs x/\br.Bd x):=by
 induction n using Nat.strongRecOn with
 | _ n ih=>
 have Jv:∀ m,m<n->(∀ cs,WTf tt m 133 cs->∃ x:br,cs=br.cs x/\br.Bd x):=λ m hm=>(ih m hm)
 intro cs h
 cases n with
 | zero=>exact h.elim
 | succ n=>
 have h0:=ct rfl h;obtain ⟨c0,q0,rfl,k0,h0⟩:=aA h0;obtain ⟨c1,q1,rfl,k1,h0⟩:=aA h0;obtain ⟨c2,q2,rfl,k2,h0⟩:=aA h0;obtain ⟨c3,q3,rfl,k3,h0⟩:=aA h0;obtain ⟨c4,q4,rfl,k4,h0⟩:=aA h0;have e:q4=[]:=h0;subst e
 obtain ⟨x349,rfl,b350⟩:=cG bJ (λ y=>aG.Bd y) rfl k0 (λ m351 y352 hm353 k354 k355=>by
  obtain ⟨x356,e358,b357⟩:=aG.dec _ _ k354;exact ⟨x356,(iH e358 k355).trans (aG.Eo _).symm,b357⟩
  )
 obtain ⟨x359,rfl⟩:=fm rfl k1;obtain ⟨x361,rfl,b362⟩:=ci rfl k2;obtain ⟨x363,rfl,b364⟩:=ci rfl k3;obtain ⟨x365,rfl,b366⟩:=ez.dec _ _ k4;exact ⟨br.mk x349 x359 x361 x363 x365,rfl,.mk b350.1 b350.2 b362 b364 b366⟩
inductive aC.Bd:aC->Prop where
 | mk {x:aC} (brest:x.frest.length<=bf):aC.Bd x
theorem aC.Bd.brest {x:aC}(h:aC.Bd x):x.frest.length<=bf:=by cases h; assumption
theorem aC.dec (n:Nat):(∀ cs,WTf tt n 165 cs->∃ x:aC,cs=aC.cs x/\aC.Bd x):=by
 induction n using Nat.strongRecOn with
 | _ n ih=>
 have JR:∀ m,m<n->(∀ cs,WTf tt m 165 cs->∃ x:aC,cs=aC.cs x/\aC.Bd x):=λ m hm=>(ih m hm)
 intro cs h
 cases n with
 | zero=>exact h.elim
 | succ n=>
 have h0:=ct rfl h;obtain ⟨c0,q0,rfl,k0,h0⟩:=aA h0;obtain ⟨c1,q1,rfl,k1,h0⟩:=aA h0;have e:q1=[]:=h0;subst e;obtain ⟨x367,rfl,b368⟩:=ci rfl k0;obtain ⟨x369,rfl⟩:=fm rfl k1;exact ⟨aC.mk x367 x369,rfl,.mk b368⟩
end Go.Ab
end
section
namespace Go.Ab.R06
open Go.Ab Go.Ab.RB Go.Lib
theorem uo {P:Int->Prop}{i:Nat}(h:P ((i+1:Nat):Int)):P ((i:Int)+1):=by rwa [Int.natCast_add,Int.natCast_one] at h
def cV {α:Type}(p:α->α->Bool):List α->List α->Bool|[],[]=>true|x::r,y::q=>p x y&&cV p r q|_,_=>false
theorem si (p:Nat->Bool):∀ (k i:Nat),kq p (i+1) k=kq (λ j=>p (j+1)) i k
 | 0,_=>rfl
 | k+1,i=>by simp only [kq]; rw [si p k (i+1)]
theorem uI {α:Type} [Inhabited α] (p:α->α->Bool):∀ a b:List α,cV p a b=(decide (a.length=b.length)&&kq (λ i=>p (a.getD i default) (b.getD i default)) 0 a.length)
 | [],[]=>rfl
 | [],y::q=>by simp [cV]
 | x::r,[]=>by simp [cV]
 | x::r,y::q=>by
  simp only [cV,bt,kq,List.getD_cons_zero,qr];rw [uI p r q,si];simp only [List.getD_cons_succ,Nat.add_right_cancel_iff]
  cases p x y <;> cases decide (r.length=q.length) <;> simp
theorem vX {f:Nat->Nat->Int->Option (Unit⊕Bool)}(len:Nat)(p:Nat->Bool)(h0:Ev2 (λ n m=>f n m (len:Int)) (·=.inl ()))
  (hs:∀ i:Nat,i<len->∀ P:Unit⊕Bool->Prop,(p i=true->Ev2 (λ n m=>f n m ((i:Int)+1)) P)->(p i=false->P (.inr false))->Ev2 (λ n m=>f n m (i:Int)) P) :
  ∀ k i,i+k=len->Ev2 (λ n m=>f n m (i:Int)) (·=if kq p i k=true then .inl () else .inr false):=by
 intro k
 induction k with
 | zero=>
  intro i hi;obtain rfl:i=len:=by omega
  exact h0
 | succ k ih=>
  intro i hi;refine hs i O _ (λ h=>?_) (λ h=>?_)
  ·have:=ih (i+1) O;rw [Int.natCast_add,Int.natCast_one] at this;simpa only [kq,h,Bool.true_and] using this
  ·simp [kq,h]
theorem AH {f:Nat->Nat->Int->Option (Unit⊕Bool)}{len:Nat}{p:Nat->Bool}{k:Nat->Nat->Option Bool}{q:Bool}(h:Ev2 (λ n m=>f n m 0) (·=if kq p 0 len=true then .inl () else .inr false))
  (hk:Ev2 k (·=q)):Ev2 (λ n m=>jn (f n n 0) (λ _=>k n m)) (·=(kq p 0 len&&q)):=by
 refine jw (fe (bw (f:=λ n m=>f n m 0) h) (λ s hs=>?_));subst hs
 cases kq p 0 len with
 | true=>exact hk
 | false=>rfl
theorem nt {x:Bool}(h:(!x)=true):x=false:=by simpa using h
theorem nf {x:Bool}(h:¬ (!x)=true):x=true:=by simpa using h
def eqS (a b:Az):Bool:=decide (a=b)
theorem C3 (a b:List Az)(ha:a.length*16<=bf):Ev2 (λ n _=>da n a b) (·=cV eqS a b):=by
 unfold bf at ha;simp only [da];rw [uI];refine al (λ h=>?_) (λ h=>ac (by simp; omega));have h:a.length=b.length:=by omega
 rw [decide_eq_true h,Bool.true_and];rw [<- Bool.and_true (kq _ 0 a.length)];refine AH (f:=λ n m i=>bN a b m i) (vX a.length _ ?_ (λ i hi P h1 h2=>?_) a.length 0 O) (ac rfl)
 ·refine bO ?_;simp only [bN];exact aM O (ac Z)
 ·refine bO ?_;simp only [bN];refine aO O (am O (am O (al (λ h=>am (aN O O) (h1 (decide_eq_true h))) (λ h=>ac (h2 (decide_eq_false h))))))
mutual
def eqV:aa->aa->Bool|.mk k n s l ks,.mk k' n' s' l' ks'=>decide (k=k')&&decide (n=n')&&eqS s s'&&cV eqS ks ks'&&wD l l'
def wD:List aa->List aa->Bool|[],[]=>true|x::r,y::q=>eqV x y&&wD r q|_,_=>false
end
theorem xB:∀ a b,wD a b=cV eqV a b
 | [],[]=>by simp only [wD,cV]
 | [],_::_=>by simp only [wD,cV]
 | _::_,[]=>by simp only [wD,cV]
 | x::r,y::q=>by simp only [wD,cV]; rw [xB r q]
theorem C5 (a b:aa):eqV a b=(decide (a.Ar=b.Ar)&&decide (a.BY=b.BY)&&eqS a.B' b.B'&&cV eqS a.A' b.A'&&cV eqV a.AI b.AI):=by
 cases a; cases b
 simp only [eqV,xB,aa.Ar,aa.BY,aa.B',aa.A',aa.AI]
 rfl
theorem Cn (a b:List aa)(ha:a.length*80<=bf)(e:Nat->aa->aa->Option Bool)(he:∀ x∈a,∀ y,Ev2 (λ n _=>e n x y) (·=eqV x y)) :
  Ev2 (λ n _=>bo n a b (e n)) (·=cV eqV a b):=by
 unfold bf at ha;simp only [bo];rw [uI];refine al (λ h=>?_) (λ h=>ac (by simp; omega));have h:a.length=b.length:=by omega
 rw [decide_eq_true h,Bool.true_and];rw [<- Bool.and_true (kq _ 0 a.length)];refine AH (f:=λ n m i=>aE a b (e n) m i) (vX a.length _ ?_ (λ i hi P h1 h2=>?_) a.length 0 O) (ac rfl)
 ·refine bO ?_;simp only [aE];exact aM O (ac Z)
 ·refine bO ?_;simp only [aE];refine aO O (am O (am O (av _ (he _ (cm O) _) ?_)));exact al (λ h=>ac (h2 (nt h))) (λ h=>am (aN O O) (h1 (nf h)))
theorem oH {a:aa}(hb:aa.Bd a):∀ b,Ev2 (λ n _=>fx n a b) (·=eqV a b):=by
 induction hb with
 | @mk x bKind bNum bStr bItems eItems bKeys eKeys ih=>
  intro b;refine g7 ?_;simp only [fx];rw [C5];refine aI (·=(decide (x.Ar=b.Ar)&&decide (x.BY=b.BY)&&eqS x.B' b.B'&&cV eqS x.A' b.A'&&cV eqV x.AI b.AI)) ?_ (λ t ht=>ac ht);refine al (λ h1=>?_) (λ h1=>ac (by simp [h1]));refine al (λ h2=>?_) (λ h2=>ac (by simp [h2]));refine al (λ h3=>?_) (λ h3=>ac (by simp [h3,eqS]));refine av _ (C3 _ _ bKeys) ?_;simp only [h1,h2,h3,eqS,decide_true,Bool.true_and];refine al (λ h4=>?_) (λ h4=>ac (by simp [Bool.eq_false_iff.2 h4]));exact av _ (Cn _ _ bItems (λ n x0 x1=>fx n x0 x1) (λ x hx y=>ih x hx y)) (ac (by simp [h4]))
theorem en {α:Type} [Inhabited α] (l:List α){i:Nat}(h:i<l.length):l.drop i=lat l (i:Int)::l.drop (i+1):=by
 rw [yd,List.getD_eq_getElem?_getD,List.getElem?_eq_getElem h,ro];exact List.drop_eq_getElem_cons h
mutual
def bX:aa->Nat|.mk _ _ _ l _=>1+cy l
def cy:List aa->Nat|[]=>0|x::r=>bX x+cy r
end
theorem gb (v:aa):bX v=1+cy v.AI:=by cases v; simp only [bX,aa.AI]
theorem ov:∀ {l:List aa} {x:aa},x∈l->bX x<=cy l
 | y::r,x,h=>by
  rcases List.mem_cons.1 h with rfl|h
  ·simp only [cy]; omega
  ·have:=ov h; simp only [cy]; omega
theorem Cd {v:aa}(hb:aa.Bd v):∀ (nodes levels:Int),0<=nodes->nodes<=1000000->-1000000<=levels->levels<=1000000 ->
  Ev2 (λ n _=>fH n v nodes levels) (λ r=>-1<=r/\r<=nodes/\(0<=r->r=nodes-(bX v:Int))):=by
 induction hb with
 | @mk x bKind bNum bStr bItems eItems bKeys eKeys ih=>
  intro nodes levels h1 h2 h3 h4;have hl:=bItems;unfold bf at hl;refine g7 ?_;simp only [fH];refine av (decide (nodes<1\/levels<1)) (al (λ h=>ac (by simp [h])) (λ h=>ac (by simp [h]))) (al (λ _=>ac ⟨by omega,by omega,by omega⟩) (λ h=>?_));have h:¬ (nodes<1\/levels<1):=λ q=>h (decide_eq_true q);refine am (aN O O) ?_
  have loop:∀ (k i:Nat) (c:Int),i+k=x.AI.length->-1<=c->c<=1000000->Ev2 (λ n m=>d5 (fH n) x levels m c (i:Int)) (λ s=>-1<=s/\s<=c/\(0<=s->s=c-(cy (x.AI.drop i):Int))):=by
   intro k
   induction k with
   | zero=>
    intro i c hi h6 h7;refine bO ?_;simp only [d5];refine av false (aM O (ac rfl)) (aM G (ac ⟨h6,by omega,λ _=>?_⟩));rw [List.drop_eq_nil_of_le O]; simp [cy]
   | succ k ihk=>
    intro i c hi h6 h7;refine bO ?_;simp only [d5];refine av (decide (0<=c)) (aO O (ac rfl)) (al (λ h8=>?_) (λ h8=>ac ⟨h6,by omega,λ h=>absurd (by simpa using h) h8⟩));have h8:0<=c:=by simpa using h8
    refine am O (am (aN O O) ?_);refine aI _ (ih _ (Go.Ab.cm O) c (levels-1) h8 h7 O O) (λ q hq=>?_);refine am (aN O O) ?_;refine fe (uo (P:=λ j=>Ev2 (λ n m=>d5 (fH n) x levels m q j) _) (ihk (i+1) q O hq.1 O)) (λ s hs=>⟨hs.1,by omega,λ h=>?_⟩);rw [en _ O];have a1:=hs.2.2 h;have a2:=hq.2.2 O;simp only [cy];omega
  refine aI _ (bw (f:=λ n m=>d5 (fH n) x levels m (nodes-1) 0) (loop x.AI.length 0 (nodes-1) O O O)) (λ s hs=>ac ⟨hs.1,by omega,λ h=>?_⟩);have:=hs.2.2 h;rw [gb];simp only [List.drop_zero] at this;omega
theorem BZ {v:aa}(hb:aa.Bd v):bX v<=100000->Ev2 (λ n _=>fI n v) (λ r=>0<=r/\r<=(bX v:Int)*9000000000000):=by
 induction hb with
 | @mk x bKind bNum bStr bItems eItems bKeys eKeys ih=>
  intro hn;have hl:=bItems;have hk:=bKeys;unfold bf at hl hk;rw [gb] at hn ⊢;refine g7 ?_;simp only [fI]
  have loop:∀ (k i:Nat) (c:Int),i+k=x.AI.length->0<=c->c+(cy (x.AI.drop i):Int)*9000000000000<=((1+cy x.AI:Nat):Int)*9000000000000->Ev2 (λ n m=>dX (fI n) x m c (i:Int)) (λ s=>0<=s/\s<=((1+cy x.AI:Nat):Int)*9000000000000):=by
   intro k
   induction k with
   | zero=>
    intro i c hi h6 h7;refine bO ?_;simp only [dX];exact aM O (ac ⟨h6,by omega⟩)
   | succ k ihk=>
    intro i c hi h6 h7;have hd:=en x.AI (i:=i) O;have hm:lat x.AI (i:Int)∈x.AI:=List.mem_of_mem_drop (hd ▸ List.mem_cons_self);have hle:=ov hm;rw [hd] at h7;simp only [cy] at h7;refine bO ?_;simp only [dX];refine aO O (am O (aI _ (ih _ hm O) (λ q hq=>?_)));refine am (aN O O) (am (aN O O) ?_);exact uo (P:=λ j=>Ev2 (λ n m=>dX (fI n) x m (c+q) j) _) (ihk (i+1) (c+q) O O O)
  refine aI _ (bw (f:=λ n m=>dX (fI n) x m (x.A'.length:Int) 0) (loop x.AI.length 0 (x.A'.length:Int) O O  (by simp only [List.drop_zero]; omega))) (λ s hs=>ac hs)
theorem sw {v:aa}(hb:aa.Bd v)(nodes:Int)(h1:0<=nodes)(h2:nodes<=100000):Ev2 (λ n _=>fP n v nodes) (λ r=>r=true->(bX v:Int)<=nodes):=by
 simp only [fP];refine aI (λ r=>r=true->(bX v:Int)<=nodes) ?_ (λ r hr=>ac hr);refine aI _ (Cd hb nodes 40 h1 O (by decide) (by decide)) (λ r hr=>al (λ h=>?_) (λ h=>ac (λ q=>by cases q)));have:=hr.2.2 h;exact aI _ (BZ hb O) (λ q hq=>am (aN O O) (ac (λ _=>by omega)))
def Inc:List Az->Prop|[]=>True|[_]=>True|x::y::r=>Op.bytesLess x y=true/\Inc (y::r)
structure A7 (v:aa):Prop where
 its:v.Ar≠4->v.Ar≠5->v.AI=[]
 kys:v.Ar≠5->v.A'=[]
 len:v.Ar=5->v.A'.length=v.AI.length
 inc:Inc v.A'
 txt:∀ k∈v.A',k.length<=4096/\validD k=true
 z:v.Ar=5->v.BY=0/\v.B'=[]
 s:v.B'.length<=4096
 z4:v.Ar=4->v.BY=0/\v.B'=[]
 rg:0<=v.Ar/\v.Ar<=6
 nm:v.Ar=2->-kM<=v.BY/\v.BY<=kM
inductive GV:aa->Prop where
 | mk {v:aa} (h:A7 v) (l:∀ x∈v.AI,GV x):GV v
theorem GV.node {v:aa}(h:GV v):A7 v:=by cases h; assumption
theorem GV.its {v:aa}(h:GV v):∀ x∈v.AI,GV x:=by cases h; assumption
theorem u1 (s:Az):Ev2 (λ n _=>jU n s) (λ r=>r=0->s.length<=4096/\validD s=true):=by
 simp only [jU];refine al (λ h=>ac (λ q=>absurd q (by decide))) (λ h=>?_);refine av _ (yG s O) (al (λ h2=>ac (λ q=>absurd q (by decide))) (λ h2=>ac (λ _=>?_)));exact ⟨by omega,by simpa [show s.length<=4096 by omega] using h2⟩
theorem wk (v:aa):Ev2 (λ _ _=>jN v) (λ r=>r=true->(v.Ar≠4->v.Ar≠5->v.AI=[])/\(v.Ar≠5->v.A'=[])/\(v.Ar=5->v.A'.length=v.AI.length)/\(v.Ar=5\/v.Ar=4->v.BY=0/\v.B'=[])/\0<=v.Ar/\v.Ar<=6):=by
 unfold jN;refine aI (λ r=>r=true->(v.Ar=5\/v.Ar=4)->v.BY=0) (al (λ h=>ac (λ _ q=>by omega)) (λ _=>al (λ h=>al (λ _=>ac (λ _ q=>by omega)) (λ _=>al (λ _=>ac (λ _ q=>by omega)) (λ _=>ac (λ _ q=>by omega)))) (λ _=>ac (λ q _=>by simpa using q)))) (λ b1 h1=>?_);refine aI (λ r=>r=true->(v.Ar=5\/v.Ar=4)->v.B'=[]) (al (λ h=>ac (λ _ q=>by omega)) (λ _=>ac (λ q _=>by simpa using q))) (λ b2 h2=>?_);refine aI (λ r=>r=true->v.Ar≠4->v.Ar≠5->v.AI=[]) (al (λ h=>ac (λ _ q=>absurd h q)) (λ _=>al (λ h=>ac (λ _ _ q=>absurd h q)) (λ _=>ac (λ q _ _=>by simpa using q)))) (λ b3 h3=>?_);refine aI (λ r=>r=true->(v.Ar≠5->v.A'=[])/\(v.Ar=5->v.A'.length=v.AI.length)) (al (λ h=>al (λ q=>ac (λ _=>⟨λ p=>absurd h p,λ _=>by omega⟩)) (λ _=>ac (λ q=>by cases q))) (λ h=>ac (λ q=>⟨λ _=>by simpa using q,λ p=>absurd p h⟩))) (λ b4 h4=>?_);refine aI (λ r=>r=true->(b1=true/\b2=true/\b3=true/\b4=true)/\0<=v.Ar/\v.Ar<=6) ?_ (λ b hb=>ac (λ q=>⟨h3 (hb q).1.2.2.1,(h4 (hb q).1.2.2.2).1,(h4 (hb q).1.2.2.2).2,λ p=>⟨h1 (hb q).1.1 p,h2 (hb q).1.2.1 p⟩,(hb q).2⟩));refine al (λ r1=>al (λ r2=>al (λ q1=>al (λ q2=>al (λ q=>ac (λ p=>⟨⟨q1,q2,q,p⟩,r1,r2⟩)) (λ _=>ac (λ q=>by cases q))) (λ _=>ac (λ q=>by cases q))) (λ _=>ac (λ q=>by cases q))) (λ _=>ac (λ q=>by cases q))) (λ _=>ac (λ q=>by cases q))
theorem Ad {x:Az}{l:List Az}(h:Inc l)(hx:∀ y∈l.head?,Op.bytesLess x y=true):Inc (x::l):=by
 cases l with
 | nil=>trivial
 | cons y r=>exact ⟨hx y Z,h⟩
theorem Bn {v:aa}(hb:aa.Bd v):Ev2 (λ n _=>ln n v) (λ r=>r=0->A7 v):=by
 have hk:=hb.bKeys;unfold bf at hk;simp only [ln];refine aI _ (wk v) (λ b hs=>al (λ _=>ac (λ q=>absurd q (by decide))) (λ h=>?_));obtain ⟨s1,s2,s3,s4,s5⟩:=hs (by simpa using h);refine aI (λ b=>b=false->v.Ar=2->-kM<=v.BY/\v.BY<=kM) (al (λ _=>aI (λ r=>r=true->-kM<=v.BY/\v.BY<=kM) (by unfold lA; exact aI (λ r=>r=true->-kM<=v.BY/\v.BY<=kM) (al (λ k1=>ac (λ k2=>⟨k1,of_decide_eq_true k2⟩)) (λ _=>ac (λ k2=>by cases k2))) (λ _ h=>ac h)) (λ r h=>ac (λ q _=>h (by simpa using q)))) (λ h=>ac (λ _ q=>absurd q h))) (λ b5 h5=>al (λ _=>ac (λ q=>absurd q (by decide))) (λ hb5=>?_));refine aI _ (u1 v.B') (λ r hr=>al (λ hr0=>?_) (λ h=>ac (λ q=>absurd q h)))
 have loop:∀ (k i:Nat),i+k=v.A'.length->Ev2 (λ n m=>dY n v m (i:Int)) (λ r=>(∀ e,r=.inr e->e≠0)/\(r=.inl ()->Inc (v.A'.drop i)/\(0<i->∀ y∈(v.A'.drop i).head?,Op.bytesLess (lat v.A' ((i:Int)-1)) y=true)/\∀ k∈v.A'.drop i,k.length<=4096/\validD k=true)):=by
  intro k
  induction k with
  | zero=>
   intro i hi;refine bO ?_;simp only [dY];refine aM O (ac ⟨λ e q=>(by cases q),λ _=>?_⟩);rw [List.drop_eq_nil_of_le O];exact ⟨trivial,λ _ y hy=>(by cases hy),λ k hk=>(by cases hk)⟩
  | succ k ih=>
   intro i hi;refine bO ?_;simp only [dY];refine aO O (am O (aI _ (u1 _) (λ r hr=>al (λ h0=>?_) (λ h0=>ac ⟨λ e q=>(by cases q; exact h0),λ q=>(by cases q)⟩))));refine aI (λ t=>t=false->0<i->Op.bytesLess (lat v.A' ((i:Int)-1)) (lat v.A' (i:Int))=true) (al (λ h1=>am (aN O O) (am O (am O (ac (λ q _=>by simpa using q))))) (λ h1=>ac (λ _ q=>absurd q O))) (λ t ht=>al (λ _=>ac ⟨λ e q=>(by cases q; decide),λ q=>(by cases q)⟩) (λ h1=>?_));refine am (aN O O) ?_;refine fe (uo (P:=λ j=>Ev2 (λ n m=>dY n v m j) _) (ih (i+1) O)) (λ r hr2=>⟨hr2.1,λ q=>?_⟩);obtain ⟨a1,a2,a3⟩:=hr2.2 q;rw [en _ O];refine ⟨Ad a1 (λ y hy=>?_),λ h y hy=>?_,λ y hy=>?_⟩
   ·have:=a2 O y hy
    rwa [show ((i+1:Nat):Int)-1=(i:Int) by omega] at this
   ·cases hy; exact ht (by simpa using h1) h
   ·rcases List.mem_cons.1 hy with rfl|hy
    ·exact hr h0
    ·exact a3 y hy
 obtain ⟨r,hr1,N,hN⟩:=bw (f:=λ n m=>dY n v m 0) (loop v.A'.length 0 O)
 cases r with
 | inl u=>
  obtain ⟨a1,_,a3⟩:=hr1.2 rfl;exact pw () ⟨.inl (),rfl,N,hN⟩ (ac (λ _=>⟨s1,s2,s3,by simpa using a1,by simpa using a3,λ q=>s4 (.inl q),(hr hr0).1,λ q=>s4 (.inr q),s5,h5 (by simpa using hb5)⟩))
 | inr e=>exact pQ e ⟨.inr e,Z,N,hN⟩ (λ q=>absurd q (hr1.1 e Z))
theorem yW {v:aa}(hb:aa.Bd v):∀ (level before:Int),0<=level->level<=33->0<=before->before<=4096->Ev2 (λ n _=>eV n v level before) (λ r=>0<=r.2/\r.2<=4096/\(r.1=0->GV v)):=by
 have hb0:=hb
 induction hb with
 | @mk x bKind bNum bStr bItems eItems bKeys eKeys ih=>
  intro level before h1 h2 h3 h4;have hl:=bItems;unfold bf at hl;refine g7 ?_;simp only [eV];refine al (λ _=>ac ⟨h3,h4,λ q=>absurd (Int.ofNat.inj q) (by decide)⟩) (λ h5=>al (λ _=>ac ⟨h3,h4,λ q=>absurd (Int.ofNat.inj q) (by decide)⟩) (λ h6=>?_));refine aI _ (Bn hb0) (λ r hr=>al (λ h0=>?_) (λ h0=>ac ⟨h3,h4,λ q=>absurd q h0⟩));have hnode:=hr h0;refine am (aN O O) ?_
  have loop:∀ (k i:Nat) (c:Int),i+k=x.AI.length->0<=c->c<=4096->Ev2 (λ n m=>dC (eV n) x level m c (i:Int)) (λ r=>(∀ e,r=.inr e->0<=e.2/\e.2<=4096/\e.1≠0)/\(∀ c',r=.inl c'->0<=c'/\c'<=4096/\∀ y∈x.AI.drop i,GV y)):=by
   intro k
   induction k with
   | zero=>
    intro i c hi h7 h8;refine bO ?_;simp only [dC];refine aM O (ac ⟨λ e q=>(by cases q),λ c' q=>?_⟩)
    cases q
    rw [List.drop_eq_nil_of_le O];exact ⟨h7,h8,λ y hy=>by cases hy⟩
   | succ k ihk=>
    intro i c hi h7 h8;have hd:=en x.AI (i:=i) O;have hm:lat x.AI (i:Int)∈x.AI:=List.mem_of_mem_drop (hd ▸ List.mem_cons_self);refine bO ?_;simp only [dC];refine aO O (am O (am (aN O O) (aI _ (ih _ hm (eItems _ hm) (level+1) c O O  h7 h8) (λ q hq=>al (λ hq0=>?_) (λ hq0=>ac ⟨λ e p=>(by cases p; exact ⟨hq.1,hq.2.1,hq0⟩),λ c' p=>(by cases p)⟩)))));refine am (aN O O) ?_;refine fe (uo (P:=λ j=>Ev2 (λ n m=>dC (eV n) x level m q.2 j) _) (ihk (i+1) q.2 O hq.1 hq.2.1)) (λ r hr2=>⟨hr2.1,λ c' p=>?_⟩);obtain ⟨a1,a2,a3⟩:=hr2.2 c' p;rw [hd];refine ⟨a1,a2,λ y hy=>?_⟩;rcases List.mem_cons.1 hy with rfl|hy
    ·exact hq.2.2 hq0
    ·exact a3 y hy
  obtain ⟨r,hr1,N,hN⟩:=bw (f:=λ n m=>dC (eV n) x level m (before+1) 0) (loop x.AI.length 0 (before+1) O O O)
  cases r with
  | inl c=>
   obtain ⟨a1,a2,a3⟩:=hr1.2 c rfl;exact pw c ⟨.inl c,rfl,N,hN⟩ (ac ⟨a1,a2,λ _=>.mk hnode (by simpa using a3)⟩)
  | inr e=>
   obtain ⟨a1,a2,a3⟩:=hr1.1 e rfl;exact pQ e ⟨.inr e,rfl,N,hN⟩ ⟨a1,a2,λ q=>absurd q a3⟩
theorem nR {v:aa}(hb:aa.Bd v):Ev2 (λ n _=>fc n v) (λ r=>r=0->GV v):=by
 simp only [fc];exact aI _ (yW hb 1 0 (by decide) (by decide) (by decide) (by decide)) (λ r hr=>ac hr.2.2)
theorem uj:∀ a:Az,Op.bytesLess a a=false
 | []=>rfl
 | a::x=>by simp [Op.bytesLess,uj x]
theorem AF:∀ {a b c:Az},Op.bytesLess a b=true->Op.bytesLess b c=true->Op.bytesLess a c=true
 | _,[],_,h,_=>by simp [Op.bytesLess] at h
 | _,_::_,[],_,h=>by simp [Op.bytesLess] at h
 | [],_::_,_::_,_,_=>rfl
 | a::x,b::y,c::z,h1,h2=>by
  simp only [Op.bytesLess,Bool.or_eq_true,th,decide_eq_true_eq,beq_iff_eq] at h1 h2 ⊢;rcases h1 with h1|⟨rfl,h1⟩
  ·rcases h2 with h2|⟨rfl,h2⟩
   ·exact .inl (UInt8.lt_trans h1 h2)
   ·exact .inl h1
  ·rcases h2 with h2|⟨rfl,h2⟩
   ·exact .inl h2
   ·exact .inr ⟨Z,AF h1 h2⟩
theorem wl:∀ {l:List Az},Inc l->l.Pairwise λ a b=>Op.bytesLess a b=true
 | [],_=>.nil
 | [x],_=>List.pairwise_singleton _ _
 | x::y::r,h=>by
  have ih:=wl h.2;refine List.pairwise_cons.2 ⟨λ z hz=>?_,ih⟩;rcases List.mem_cons.1 hz with rfl|hz
  ·exact h.1
  ·exact AF h.1 ((List.pairwise_cons.1 ih).1 z hz)
theorem Ay {l:List Az}(h:Inc l){i j:Nat}(hij:i<j)(hj:j<l.length):Op.bytesLess (lat l (i:Int)) (lat l (j:Int))=true:=by
 have:=List.pairwise_iff_getElem.1 (wl h) i j O hj hij;rw [gv _ _ (show i<l.length by omega),gv _ _ hj]; exact this
theorem Ai (i j:Nat)(h:i+j<9223372036854775807):fj .u64 (IntKind.wrap .u64 ((i:Int)+(j:Int))) 1=(((i+j) / 2:Nat):Int):=by
 have e:IntKind.wrap .u64 ((i:Int)+(j:Int))=(i:Int)+(j:Int):=by
  simp [IntKind.wrap,IntKind.bits,IntKind.signed];omega
 rw [e];unfold fj;have:(2:Int)^(min (1:Int).toNat IntKind.u64.bits)=2:=by decide
 rw [this,Int.fdiv_eq_ediv_of_nonneg _ (by decide)];omega
theorem qW (x y:Az):cmp_Less_string x y=some (Op.bytesLess x y):=by
 unfold cmp_Less_string cmp_isNaN_string;simp
theorem A5 {l:List Az}(hl:l.length<=1000000000000000)(h:Inc l){t:Nat}(ht:t<l.length):Ev2 (λ n _=>bg n l (lat l (t:Int))) (·=((t:Int),true)):=by
 simp only [bg]
 have loop:∀ (k i j:Nat),j-i<=k->i<=t->t<=j->j<=l.length->Ev2 (λ _ m=>aJ l (lat l (t:Int)) m (i:Int) (j:Int)) (·=(t:Int)):=by
  intro k
  induction k with
  | zero=>
   intro i j hk h1 h2 h3;refine bO ?_;simp only [aJ];exact aM O (ac O)
  | succ k ih=>
   intro i j hk h1 h2 h3;refine bO ?_;simp only [aJ];rw [Ai i j O];refine al (λ hij=>?_) (λ hij=>ac O);by_cases hm:(i+j) / 2<t
   ·refine av ((((i+j) / 2+1:Nat):Int),(j:Int)) ?_ (ih _ j O O  h2 h3);refine am (aN O O) (am (by decide) (am (aN O O) (am O (av _ (bs (qW _ _) Z) (aO (Ay h hm ht) (am (aN O O) (ac ?_)))))));rw [Int.natCast_add]; rfl
   ·have hf:Op.bytesLess (lat l (((i+j) / 2:Nat):Int)) (lat l (t:Int))=false:=by
     rw [<- Bool.not_eq_true];intro q;rcases Nat.lt_or_ge t ((i+j) / 2) with h4|h4
     ·have:=AF (Ay h h4 O) q;rw [uj] at this; cases this
     ·have:(i+j) / 2=t:=by omega
      rw [this,uj] at q; cases q
    refine av ((i:Int),(((i+j) / 2:Nat):Int)) ?_ (ih i _ O h1 O O);exact am (aN O O) (am (by decide) (am (aN O O) (am O (av _ (bs (qW _ _) Z) (aM (by rw [hf]; decide) (ac Z))))))
 refine av _ (bw (f:=λ _ m=>aJ l (lat l (t:Int)) m 0 (l.length:Int)) (loop l.length 0 l.length O O O O)) ?_;exact av true (aO O (am O (aO Z (ac Z)))) (ac Z)
theorem ra {v y:aa}(h:y∈v.AI):SizeOf.sizeOf y<SizeOf.sizeOf v:=by
 cases v
 simp only [aa.AI] at h;have:=List.sizeOf_lt_of_mem h;simp only [aa.mk.sizeOf_spec];omega
theorem rO {α:Type} [Inhabited α] (l:List α)(i:Nat)(h:i<l.length):l.set i l[i]=l:=by
 apply List.ext_getElem G;intro j h1 h2;rw [List.getElem_set];split
 ·rename_i e; subst e; rfl
 ·rfl
theorem rh:∀ (N:Nat) (v:aa),SizeOf.sizeOf v<N->aa.Bd v->Ev2 (λ n _=>cu n v) (·=v):=by
 have hW:bf<=140737488355328:=by decide
 intro N
 induction N with
 | zero=>intro v h; omega
 | succ N ih=>
  intro v hv hb;have h1:=hb.bKeys; have h2:=hb.bItems;refine g7 ?_;simp only [cu];refine am O (al (λ h=>?_) (λ h=>am O ?_))
  ·have he:v.AI=[]:=by simpa using h
   refine av () ?_ (ac (by cases v; simp only [aa.AI] at he; subst he; rfl));refine bw (f:=λ n m=>fC (cu n) m) (bO ?_);simp only [fC];exact aM G (ac (by trivial))
  ·have loop:∀ (k i:Nat),i+k=v.AI.length->Ev2 (λ n m=>dk (cu n) v m (i:Int) v.AI) (·=v.AI):=by
    intro k
    induction k with
    | zero=>
     intro i hi;refine bO ?_;simp only [dk];exact aM O (ac rfl)
    | succ k ihk=>
     intro i hi;have hil:i<v.AI.length:=by omega
     refine bO ?_;simp only [dk];refine aO O (am O ?_);rw [gv _ _ hil];have hmem:=List.getElem_mem hil;refine av _ (ih _ (by have:=ra hmem; omega) (hb.eItems _ hmem)) (am O (am (aN O O) ?_));rw [Int.toNat_natCast,rO _ _ hil];have:=ihk (i+1) O;rw [Int.natCast_add,Int.natCast_one] at this;exact this
   exact av _ (bw (f:=λ n m=>dk (cu n) v m 0 v.AI) (loop _ 0 (qr _))) (ac (aa.eta v))
theorem dz {σ ρ:Type}(F:Nat->Nat->Int->σ->Option ρ)(len:Nat)(I:Nat->σ->Prop){P:ρ->Prop}
  (step:∀ (i:Nat) (s:σ),i<len->I i s->(∀ s',I (i+1) s'->Ev2 (λ n m=>F n m ((i:Int)+1) s') P)->Ev2 (λ n m=>F n (m+1) (i:Int) s) P)
  (fin:∀ s,I len s->Ev2 (λ n m=>F n (m+1) (len:Int) s) P):∀ (s:σ),I 0 s->Ev2 (λ n m=>F n m 0 s) P:=by
 have loop:∀ (k i:Nat) (s:σ),i+k=len->I i s->Ev2 (λ n m=>F n m (i:Int) s) P:=by
  intro k
  induction k with
  | zero=>
   intro i s hi h;obtain rfl:i=len:=by omega
   exact bO (fin s h)
  | succ k ih=>
   intro i s hi h;exact bO (step i s O h (λ s' h'=>uo (P:=λ j=>Ev2 (λ n m=>F n m j s') P) (ih (i+1) s' O h')))
 exact λ s h=>loop len 0 s O h
theorem lC {ρ:Type}(F:Nat->Nat->Int->Option (Unit⊕ρ))(len:Nat)(I:Nat->Prop)(Q:ρ->Prop)
  (step:∀ (i:Nat),i<len->I i->∀ P:Unit⊕ρ->Prop,(∀ e,Q e->P (.inr e))->(I (i+1)->Ev2 (λ n m=>F n m ((i:Int)+1)) P)->Ev2 (λ n m=>F n (m+1) (i:Int)) P)
  (fin:Ev2 (λ n m=>F n (m+1) (len:Int)) (·=.inl ())) (h0:I 0):Ev2 (λ n m=>F n m 0) (λ r=>(r=.inl ()/\I len)\/∃ e,r=.inr e/\Q e):=by
 refine dz (λ n m i (_:Unit)=>F n m i) len (λ i _=>I i) (P:=λ r=>(r=.inl ()/\I len)\/∃ e,r=.inr e/\Q e) (λ i _ hi h k=>step i hi h _ (λ e he=>.inr ⟨e,rfl,he⟩) (λ h'=>k () h')) (λ _ h=>fe fin (λ r hr=>.inl ⟨hr,h⟩)) () h0
theorem lF {α β:Type}{P:α->Prop}{g:Nat->Nat->Option (Unit⊕α)}{k:Nat->Nat->Unit->Option α}{I:Prop}{Q:α->Prop}(h:Ev2 g (λ r=>(r=.inl ()/\I)\/∃ e,r=.inr e/\Q e))
  (h1:I->Ev2 (λ n m=>k n m ()) P) (h2:∀ e,Q e->P e) (_:β->β):Ev2 (λ n m=>jn (g n m) (k n m)) P :=
 jw (fe h (λ r hr=>by
  rcases hr with ⟨rfl,h⟩|⟨e,rfl,h⟩
  ·exact h1 h
  ·exact h2 e h))
theorem z7 {v:ag}(hb:ag.Bd v):Ev2 (λ n _=>cT n v) (·=v):=by
 have hW:bf<=140737488355328:=by decide
 induction hb with
 | @mk v bKind h2 eElems h1 eNames ih=>
  refine g7 ?_;simp only [cT];refine am O (al (λ h=>?_) (λ h=>am O ?_))
  ·have he:v.Em=[]:=by simpa using h
   refine av () ?_ (ac (by cases v; simp only [ag.Em] at he; subst he; rfl));refine bw (f:=λ n m=>fM (cT n) m) (bO ?_);simp only [fM];exact aM G (ac (by trivial))
  ·refine av v.Em (bw (f:=λ n m=>dH (cT n) v m 0 v.Em) ?_) (ac (by cases v; rfl));refine dz (λ n m i (l:List ag)=>dH (cT n) v m i l) v.Em.length (λ _ l=>l=v.Em) (λ i l hi hl k=>?_) (λ l hl=>?_) _ rfl
   ·subst hl;simp only [dH];refine aO O (am O (av _ (ih _ (Go.Ab.cm O)) (am O (am (aN O O) ?_))));exact k _ (by rw [gv _ _ hi,Int.toNat_natCast]; exact rO _ _ hi)
   ·subst hl;simp only [dH];exact aM O (ac rfl)
def u9 (l:List aF):Prop:=l.length<=10/\∀ a∈l,a.By.length<=100
theorem hH {α:Type} [Inhabited α] (l:List α){i:Nat}(h:i<l.length):l.take (i+1)=l.take i++[lat l (i:Int)]:=by
 rw [gv _ _ h,List.take_succ_eq_append_getElem h]
theorem tQ {l:List aF}(hl:l.length<=64)(hb:∀ a∈l,ag.Bd a.Ei):Ev2 (λ n _=>gM n l) (·=ag.mk 6 (l.map aF.Ei) (l.map aF.By)):=by
 simp only [gM];refine av (l.map aF.Ei,l.map aF.By) (bw (f:=λ n m=>dh n l m 0 [] []) ?_) (ac rfl);refine dz (λ n m i (s:List ag×List Az)=>dh n l m i s.1 s.2) l.length (λ i s=>s=((l.take i).map aF.Ei,(l.take i).map aF.By)) (λ i s hi hs k=>?_) (λ s hs=>?_) ([],[]) rfl
 ·subst hs;simp only [dh];refine aO O (am O (am (by simp only [cl,List.length_take,List.length_singleton]; omega) (av _ (z7 (hb _ (Go.Ab.cm O))) (am (by simp only [cl,List.length_take,List.length_singleton]; omega) (am (aN O O) ?_)))));exact k (_,_) (by simp only [hH l hi,List.map_append,n6,ph])
 ·subst hs;simp only [dh];exact aM O (ac (by simp only [List.take_length]))
mutual
def mr:ag->Nat|ag.mk _ l _=>1+iz l
def iz:List ag->Nat|[]=>0|x::r=>mr x+iz r
end
theorem tw (v:ag):mr v=1+iz v.Em:=by cases v; simp only [mr,ag.Em]
theorem rS:∀ {l:List ag} {x:ag},x∈l->mr x<=iz l
 | y::r,x,h=>by
  rcases List.mem_cons.1 h with rfl|h
  ·simp only [iz]; omega
  ·have:=rS h; simp only [iz]; omega
theorem zu {v:ag}(hb:ag.Bd v):∀ (nodes levels:Int),0<=nodes->nodes<=1000000->-1000000<=levels->levels<=1000000 ->
  Ev2 (λ n _=>fG n v nodes levels) (λ r=>-1<=r/\r<=nodes/\(0<=r->r=nodes-(mr v:Int))):=by
 induction hb with
 | @mk x bKind bItems eItems bKeys eKeys ih=>
  intro nodes levels h1 h2 h3 h4;have hl:=bItems;unfold bf at hl;refine g7 ?_;simp only [fG];refine av (decide (nodes<1\/levels<1)) (al (λ h=>ac (by simp [h])) (λ h=>ac (by simp [h]))) (al (λ _=>ac ⟨by omega,by omega,by omega⟩) (λ h=>?_));have h:¬ (nodes<1\/levels<1):=λ q=>h (decide_eq_true q);refine am (aN O O) ?_
  have loop:∀ (k i:Nat) (c:Int),i+k=x.Em.length->-1<=c->c<=1000000->Ev2 (λ n m=>dZ (fG n) x levels m c (i:Int)) (λ s=>-1<=s/\s<=c/\(0<=s->s=c-(iz (x.Em.drop i):Int))):=by
   intro k
   induction k with
   | zero=>
    intro i c hi h6 h7;refine bO ?_;simp only [dZ];refine av false (aM O (ac rfl)) (aM G (ac ⟨h6,by omega,λ _=>?_⟩));rw [List.drop_eq_nil_of_le O]; simp [iz]
   | succ k ihk=>
    intro i c hi h6 h7;refine bO ?_;simp only [dZ];refine av (decide (0<=c)) (aO O (ac rfl)) (al (λ h8=>?_) (λ h8=>ac ⟨h6,by omega,λ h=>absurd (by simpa using h) h8⟩));have h8:0<=c:=by simpa using h8
    refine am O (am (aN O O) ?_);refine aI _ (ih _ (Go.Ab.cm O) c (levels-1) h8 h7 O O) (λ q hq=>?_);refine am (aN O O) ?_;refine fe (uo (P:=λ j=>Ev2 (λ n m=>dZ (fG n) x levels m q j) _) (ihk (i+1) q O hq.1 O)) (λ s hs=>⟨hs.1,by omega,λ h=>?_⟩);rw [en _ O];have a1:=hs.2.2 h;have a2:=hq.2.2 O;simp only [iz];omega
  refine aI _ (bw (f:=λ n m=>dZ (fG n) x levels m (nodes-1) 0) (loop x.Em.length 0 (nodes-1) O O O)) (λ s hs=>ac ⟨hs.1,by omega,λ h=>?_⟩);have:=hs.2.2 h;rw [tw];simp only [List.drop_zero] at this;omega
theorem zb {v:ag}(hb:ag.Bd v):mr v<=100000->Ev2 (λ n _=>eQ n v) (λ r=>0<=r/\r<=(mr v:Int)*9000000000000):=by
 induction hb with
 | @mk x bKind bItems eItems bKeys eKeys ih=>
  intro hn;have hl:=bItems;have hk:=bKeys;unfold bf at hl hk;rw [tw] at hn ⊢;refine g7 ?_;simp only [eQ]
  have loop:∀ (k i:Nat) (c:Int),i+k=x.Em.length->0<=c->c+(iz (x.Em.drop i):Int)*9000000000000<=((1+iz x.Em:Nat):Int)*9000000000000->Ev2 (λ n m=>dD (eQ n) x m c (i:Int)) (λ s=>0<=s/\s<=((1+iz x.Em:Nat):Int)*9000000000000):=by
   intro k
   induction k with
   | zero=>
    intro i c hi h6 h7;refine bO ?_;simp only [dD];exact aM O (ac ⟨h6,by omega⟩)
   | succ k ihk=>
    intro i c hi h6 h7;have hd:=en x.Em (i:=i) O;have hm:lat x.Em (i:Int)∈x.Em:=List.mem_of_mem_drop (hd ▸ List.mem_cons_self);have hle:=rS hm;rw [hd] at h7;simp only [iz] at h7;refine bO ?_;simp only [dD];refine aO O (am O (aI _ (ih _ hm O) (λ q hq=>?_)));refine am (aN O O) (am (aN O O) ?_);exact uo (P:=λ j=>Ev2 (λ n m=>dD (eQ n) x m (c+q) j) _) (ihk (i+1) (c+q) O O O)
  refine aI _ (bw (f:=λ n m=>dD (eQ n) x m (x.Df.length:Int) 0) (loop x.Em.length 0 (x.Df.length:Int) O O  (by simp only [List.drop_zero]; omega))) (λ s hs=>ac hs)
theorem yA {v:ag}(hb:ag.Bd v)(nodes:Int)(h1:0<=nodes)(h2:nodes<=100000):Ev2 (λ n _=>km n v nodes) (λ r=>r=true->(mr v:Int)<=nodes):=by
 simp only [km];refine aI (λ r=>r=true->(mr v:Int)<=nodes) ?_ (λ r hr=>ac hr);refine aI _ (zu hb nodes 40 h1 O (by decide) (by decide)) (λ r hr=>al (λ h=>?_) (λ h=>ac (λ q=>by cases q)));have:=hr.2.2 h;exact aI _ (zb hb O) (λ q hq=>am (aN O O) (ac (λ _=>by omega)))
theorem qX (l:List Az)(x:Az)(hl:l.length<=1000000000000000):Ev2 (λ n _=>bg n l x) (λ r=>0<=r.1/\r.1<=(l.length:Int)/\(r.2=true->r.1<(l.length:Int)/\lat l r.1=x)):=by
 simp only [bg]
 have loop:∀ (k i j:Nat),j-i<=k->i<=j->j<=l.length->Ev2 (λ _ m=>aJ l x m (i:Int) (j:Int)) (λ r=>0<=r/\r<=(l.length:Int)):=by
  intro k
  induction k with
  | zero=>
   intro i j hk h2 h3;refine bO ?_;simp only [aJ];exact aM O (ac O)
  | succ k ih=>
   intro i j hk h2 h3;refine bO ?_;simp only [aJ];rw [Ai i j O];refine al (λ hij=>?_) (λ hij=>ac O);by_cases hm:Op.bytesLess (lat l (((i+j) / 2:Nat):Int)) x=true
   ·refine av ((((i+j) / 2+1:Nat):Int),(j:Int)) ?_ (ih _ j O O  h3);refine am (aN O O) (am (by decide) (am (aN O O) (am O (av _ (bs (qW _ _) Z) (aO hm (am (aN O O) (ac ?_)))))));rw [Int.natCast_add]; rfl
   ·refine av ((i:Int),(((i+j) / 2:Nat):Int)) ?_ (ih i _ O O O);exact am (aN O O) (am (by decide) (am (aN O O) (am O (av _ (bs (qW _ _) Z) (aM hm (ac Z))))))
 refine aI _ (bw (f:=λ _ m=>aJ l x m 0 (l.length:Int)) (loop l.length 0 l.length O O O)) (λ r hr=>?_);refine aI (λ b=>b=true->r<(l.length:Int)/\lat l r=x) ?_ (λ b hb=>ac ⟨hr.1,hr.2,hb⟩);refine al (λ h=>am O (al (λ h2=>ac (λ _=>⟨h,h2⟩)) (λ _=>am O ?_))) (λ _=>ac (λ q=>by cases q));have nn:∀ y:Az,slices_isNaN_string y=some false:=λ y=>by unfold slices_isNaN_string; simp
 exact av _ (bs (nn _) rfl) (aM (by decide) (ac (λ q=>by cases q)))
structure mw (s:au):Prop where
 a:u9 s.C'
 n:s.AT.length<=10
 m:∀ x∈s.AT,u9 x.C'/\x.By.length<=100
structure BdS (s:au):Prop where
 a:∀ x∈s.C',ag.Bd x.Ei
 n:∀ k∈s.AT,∀ x∈k.C',ag.Bd x.Ei
theorem pd {α:Type}{l:List α}{i:Nat}{x y:α}(h:y∈ls l i x):y∈l\/y=x:=by
 unfold ls at h;rcases List.mem_append.1 h with h|h
 ·exact .inl (List.mem_of_mem_take h)
 ·rcases List.mem_cons.1 h with h|h
  ·exact .inr h
  ·exact .inl (List.mem_of_mem_drop h)
theorem mT {α:Type}{l:List α}{i:Nat}{x:α}(h:i<=l.length):(ls l i x).length=l.length+1:=by
 unfold ls; simp only [aq,bt,List.length_take,List.length_drop]; omega
theorem xQ {s:au}(hs:mw s)(hb:BdS s):Ev2 (λ n _=>fU n s) (λ r=>r.Df.length<=20/\∀ x∈r.Df,x.length<=100):=by
 have hn:=hs.n;have ha:=hs.a.1;simp only [fU];refine av _ (tQ O hb.a) ?_;refine aI (λ r=>r.2.length<=20/\∀ x∈r.2,x.length<=100) (bw (f:=λ n m=>eg n s m 0 (s.C'.map aF.Ei) (s.C'.map aF.By)) ?_) (λ r hr=>ac hr);refine dz (λ n m i (t:List ag×List Az)=>eg n s m i t.1 t.2) s.AT.length (λ i t=>t.1.length=t.2.length/\t.2.length=s.C'.length+i/\∀ x∈t.2,x.length<=100) (λ i t hi ht k=>?_) (λ t ht=>?_) (s.C'.map aF.Ei,s.C'.map aF.By) ?_
 ·obtain ⟨h1,h2,h3⟩:=ht;have hm:lat s.AT (i:Int)∈s.AT:=Go.Ab.cm O;have hk:=hs.m _ hm;have Hw:=hk.1.1;simp only [eg];refine aO O (am O (aI _ (qX t.2 _ O) (λ r hr=>?_)));obtain ⟨r1,r2,_⟩:=hr;obtain ⟨j,hj⟩:∃ j:Nat,r.1=j:=⟨r.1.toNat,by omega⟩
  unfold dU;refine av (ls t.2 j (lat s.AT (i:Int)).By) (am O (am Z (am O (ac (by rw [hj]; rfl))))) ?_;refine av _ (tQ O (hb.n _ hm)) ?_;unfold cY;refine av (ls t.1 j (ag.mk 4 [ag.mk 6 ((lat s.AT (i:Int)).C'.map aF.Ei) ((lat s.AT (i:Int)).C'.map aF.By)] [])) (am O (am Z (am O (ac (by rw [hj]; rfl))))) ?_;refine am (aN O O) (k (_,_) ⟨?_,?_,λ x hx=>?_⟩)
  ·show (ls t.1 j _).length=(ls t.2 j _).length;rw [mT (show j<=t.1.length by omega),mT (show j<=t.2.length by omega),h1]
  ·show (ls t.2 j _).length=_;rw [mT (show j<=t.2.length by omega)]; omega
  ·rcases pd hx with h|rfl
   ·exact h3 x h
   ·exact hk.2
 ·obtain ⟨h1,h2,h3⟩:=ht;simp only [eg];exact aM O (ac ⟨by simp only; omega,h3⟩)
 ·refine ⟨by simp,by simp,λ x hx=>?_⟩;obtain ⟨a,ha,rfl⟩:=List.mem_map.1 hx;exact hs.a.2 a ha
theorem uQ (c:Int):Ev2 (λ _ _=>iw c) (λ _=>True):=by
 unfold iw;exact aI (λ _=>True) (by repeat' (first|exact ac trivial|refine al (λ _=>?_) (λ _=>?_))) (λ _ _=>ac trivial)
theorem uE (s:Az):Ev2 (λ n _=>eC n s) (λ _=>True):=by
 simp only [eC];refine aI (λ r=>r=false->s.length<=64) (al (λ _=>ac (λ q=>by cases q)) (λ h=>al (λ _=>ac (λ q=>by cases q)) (λ h2=>am ?_ (aI _ (uQ _) (λ _ _=>ac (λ _=>by omega)))))) (λ r hr=>al (λ _=>ac trivial) (λ h=>?_))
 ·have:=List.length_pos_iff.2 h; omega
 have hl:=hr (by simpa using h);refine lF (I:=True) (Q:=λ _=>True) (bw (f:=λ _ m=>cD s m 0) ?_) (λ _=>ac trivial) (λ _ _=>trivial) (id:Nat->Nat);refine lC (λ _ m i=>cD s m i) s.length (λ _=>True) (λ _=>True) (λ i hi _ P h1 h2=>?_) ?_ trivial
 ·simp only [cD];refine aO O (aI (λ _=>True) (am O (aI _ (uQ _) (λ _ _=>al (λ _=>am O (al (λ _=>ac trivial) (λ _=>am O (ac trivial)))) (λ _=>ac trivial)))) (λ r _=>al (λ _=>ac (h1 _ trivial)) (λ _=>am (aN O O) (h2 trivial))))
 ·simp only [cD];exact aM O (ac rfl)
theorem yt (t:ag):Ev2 (λ _ _=>jK t) (λ _=>True):=by
 unfold jK
 repeat' (first|exact ac trivial|refine al (λ _=>?_) (λ _=>?_)|refine aI (λ _=>True) ?_ (λ _ _=>?_))
theorem zB {t:ag}(hb:ag.Bd t):∀ level:Int,0<=level->level<=1000->Ev2 (λ n _=>fy n t level) (λ _=>True):=by
 induction hb with
 | @mk t bKind h2 eElems h1 eNames ih=>
  intro level l1 l2;unfold bf at h1 h2;refine g7 ?_;simp only [fy];refine al (λ _=>ac trivial) (λ hl=>aI _ (yt t) (λ b _=>al (λ _=>ac trivial) (λ _=>?_)));refine lF (I:=True) (Q:=λ _=>True) (bw (f:=λ n m=>ea n t m 0) ?_) (λ _=>?_) (λ _ _=>trivial) (id:Nat->Nat)
  ·refine lC (λ n m i=>ea n t m i) t.Df.length (λ _=>True) (λ _=>True) (λ i hi _ P h1 h2=>?_) ?_ trivial
   ·simp only [ea];refine aO O (am O (aI _ (uE _) (λ r _=>al (λ _=>ac (h1 _ trivial)) (λ _=>aI (λ _=>True) (al (λ _=>am (aN O O) (am O (am O (ac trivial)))) (λ _=>ac trivial)) (λ _ _=>al (λ _=>ac (h1 _ trivial)) (λ _=>am (aN O O) (h2 trivial)))))))
   ·simp only [ea];exact aM O (ac rfl)
  refine lF (I:=True) (Q:=λ _=>True) (bw (f:=λ n m=>d6 (fy n) t level m 0) ?_) (λ _=>ac trivial) (λ _ _=>trivial) (id:Nat->Nat);refine lC (λ n m i=>d6 (fy n) t level m i) t.Em.length (λ _=>True) (λ _=>True) (λ i hi _ P h1 h2=>?_) ?_ trivial
  ·simp only [d6];refine aO O (am O (am (aN O O) (aI _ (ih _ (Go.Ab.cm O) (level+1) O O) (λ r _=>al (λ _=>am (aN O O) (h2 trivial)) (λ _=>ac (h1 _ trivial))))))
  ·simp only [d6];exact aM O (ac rfl)
theorem vS {t:ag}(hb:ag.Bd t):Ev2 (λ n _=>jr n t) (λ _=>True):=by
 simp only [jr];exact aI _ (zB hb 1 (by decide) (by decide)) (λ _ _=>ac trivial)
theorem Bt {a:aF}(hb:ag.Bd a.Ei)(x:Az)(b:Bool):Ev2 (λ n _=>lq n a x b) (λ _=>True):=by
 simp only [lq];refine aI _ (uE _) (λ _ _=>al (λ _=>ac trivial) (λ _=>aI (λ _=>True) (al (λ _=>ac trivial) (λ _=>ac trivial)) (λ _ _=>al (λ _=>ac trivial) (λ _=>aI _ (vS hb) (λ _ _=>al (λ _=>?_) (λ _=>ac trivial))))));refine aI (λ _=>True) (al (λ _=>ac trivial) (λ _=>ac trivial)) (λ _ _=>al (λ _=>ac trivial) (λ _=>aI (λ _=>True) (al (λ _=>al (λ _=>ac trivial) (λ _=>ac trivial)) (λ _=>ac trivial)) (λ _ _=>al (λ _=>ac trivial) (λ _=>ac trivial))))
theorem vV {l:List aF}(hl:l.length<=64)(hb:∀ a∈l,ag.Bd a.Ei)(c:Bool):Ev2 (λ n _=>jk n l c) (λ _=>True):=by
 simp only [jk];refine jw (bw (f:=λ n m=>ef n l c m [] 0) ?_);refine dz (λ n m i (s:Az)=>ef n l c m s i) l.length (λ _ _=>True) (λ i s hi _ k=>?_) (λ s _=>?_) [] trivial
 ·simp only [ef];refine aO O (am O (aI _ (Bt (hb _ (Go.Ab.cm O)) _ _) (λ r _=>al (λ _=>?_) (λ _=>ac trivial))));refine aI (λ _=>True) (al (λ _=>am O (al (λ _=>ac trivial) (λ _=>am O (ac trivial)))) (λ _=>ac trivial)) (λ _ _=>al (λ _=>ac trivial) (λ _=>am O (am (aN O O) (k _ trivial))))
 ·simp only [ef];exact aM O (ac (ac trivial))
theorem xq {l:List aF}(hl:l.length<=64)(x:Az):Ev2 (λ n _=>jT n l x) (λ _=>True):=by
 simp only [jT];refine jw (bw (f:=λ _ m=>eO l x m 0) ?_);refine dz (λ _ m i (_:Unit)=>eO l x m i) l.length (λ _ _=>True) (λ i s hi _ k=>?_) (λ s _=>?_) () trivial
 ·simp only [eO];exact aO O (am O (al (λ _=>am O (ac trivial)) (λ _=>am (aN O O) (k () trivial))))
 ·simp only [eO];exact aM O (ac (ac trivial))
theorem Cr {s:au}(hs:mw s)(hb:BdS s)(i:Nat)(hi:i<s.AT.length):Ev2 (λ n _=>kZ n s (i:Int)) (λ _=>True):=by
 have hn:=hs.n;have ha:=hs.a.1;have hm:lat s.AT (i:Int)∈s.AT:=Go.Ab.cm O;simp only [kZ];refine am O (aI _ (uE _) (λ _ _=>al (λ _=>ac trivial) (λ _=>aI (λ _=>True) (al (λ _=>am (aN O O) (am O (ac trivial))) (λ _=>ac trivial)) (λ _ _=>al (λ _=>ac trivial) (λ _=>?_)))));refine aI _ (xq O _) (λ _ _=>al (λ _=>ac trivial) (λ _=>aI (λ _=>True) (al (λ _=>ac trivial) (λ _=>al (λ _=>ac trivial) (λ _=>ac trivial))) (λ _ _=>al (λ _=>ac trivial) (λ _=>al (λ _=>ac trivial) (λ _=>?_)))));exact aI _ (vV O (hb.n _ hm) _) (λ _ _=>ac trivial)
theorem xi {l:List aF}(hl:l.length<=64):Ev2 (λ n _=>jP n l) (·=ag.mk 6 (l.map aF.Ei) (l.map aF.By)):=by
 simp only [jP];refine av (l.map aF.Ei,l.map aF.By) (bw (f:=λ _ m=>dI l m 0 [] []) ?_) (ac rfl);refine dz (λ _ m i (s:List ag×List Az)=>dI l m i s.1 s.2) l.length (λ i s=>s=((l.take i).map aF.Ei,(l.take i).map aF.By)) (λ i s hi hs k=>?_) (λ s hs=>?_) ([],[]) rfl
 ·subst hs;simp only [dI];refine aO O (am O (am (by simp only [cl,List.length_take,List.length_singleton]; omega) (am O (am (by simp only [cl,List.length_take,List.length_singleton]; omega) (am (aN O O) ?_)))));exact k (_,_) (by simp only [hH l hi,List.map_append,n6,ph])
 ·subst hs;simp only [dI];exact aM O (ac (by simp only [List.take_length]))
theorem CP {l:List aF}(h:u9 l)(hb:∀ a∈l,ag.Bd a.Ei):ag.Bd (ag.mk 6 (l.map aF.Ei) (l.map aF.By)):=by
 have h1:=h.1;refine .mk (aN (by simp only [ag.Ar]; omega) (by simp only [ag.Ar]; omega)) (by simp only [ag.Em,cl]; unfold bf; omega) (λ y hy=>?_) (by simp only [ag.Df,cl]; unfold bf; omega) (λ y hy=>?_)
 ·simp only [ag.Em,List.mem_map] at hy;obtain ⟨a,ha,rfl⟩:=hy;exact hb a ha
 ·simp only [ag.Df,List.mem_map] at hy;obtain ⟨a,ha,rfl⟩:=hy;have:=h.2 a ha;unfold bf; omega
theorem zx {s:au}(hs:mw s)(hb:BdS s):Ev2 (λ n _=>lk n s) (λ r=>ag.Bd r):=by
 have hn:=hs.n;have ha:=hs.a.1;simp only [lk]
 let I:List ag×List Az->Nat->Prop:=λ t k=>t.1.length=k/\t.2.length=k/\(∀ y∈t.1,ag.Bd y)/\∀ y∈t.2,y.length<=100
 refine aI (λ t=>I t (s.C'.length+s.AT.length)) ?_ (λ t ht=>ac ?_)
 ·have loop:∀ (k i j:Nat) (t:List ag×List Az),i<=s.C'.length->j<=s.AT.length->i+j+k=s.C'.length+s.AT.length->I t (i+j)->Ev2 (λ n m=>dA n s m (i:Int) (j:Int) t.1 t.2) (λ t=>I t (s.C'.length+s.AT.length)):=by
   intro k
   induction k with
   | zero=>
    intro i j t hi hj hk hI;refine bO ?_;simp only [dA];refine av false (aM O (ac (decide_eq_false O))) (aM (by decide) (ac ?_));rw [show s.C'.length+s.AT.length=i+j by omega]; exact hI
   | succ k ih=>
    intro i j t hi hj hk hI;obtain ⟨t1,t2⟩:=t;obtain ⟨i1,i2,i3,i4⟩:=hI;simp only at i1 i2 i3 i4;refine bO ?_;simp only [dA];refine av true (al (λ _=>ac rfl) (λ _=>ac (decide_eq_true O))) (aO rfl ?_);refine yb ?_;refine aI (λ b=>(b=true->i<s.C'.length)/\(b=false->j<s.AT.length)) (al (λ h=>ac ⟨λ _=>by omega,λ q=>by cases q⟩) (λ h=>al (λ h2=>am O (am O (ac ⟨λ _=>by omega,λ _=>by omega⟩))) (λ h2=>ac ⟨λ q=>(by cases q),λ _=>by omega⟩))) (λ b hb2=>al (λ h=>?_) (λ h=>?_))
    ·have hi':=hb2.1 h;refine am O (am (by simp only [List.length_singleton]; omega) (am O (am (by simp only [List.length_singleton]; omega) (am (aN O O) (ac ?_)))));refine uo (P:=λ z=>Ev2 (λ n m=>dA n s m z (j:Int) _ _) _) (ih (i+1) j (_,_) O hj O ⟨by simp only [aq,List.length_singleton]; omega,by simp only [aq,List.length_singleton]; omega,λ y hy=>?_,λ y hy=>?_⟩)
     ·rcases List.mem_append.1 hy with hy|hy
      ·exact i3 y hy
      ·rw [List.mem_singleton.1 hy]; exact hb.a _ (Go.Ab.cm O)
     ·rcases List.mem_append.1 hy with hy|hy
      ·exact i4 y hy
      ·rw [List.mem_singleton.1 hy]; exact hs.a.2 _ (Go.Ab.cm O)
    ·have hj':=hb2.2 (by simpa using h);have hm:lat s.AT (j:Int)∈s.AT:=Go.Ab.cm O;have hk:=hs.m _ hm;have Hw:=hk.1.1;refine am O (am (by simp only [List.length_singleton]; omega) (am O (av _ (xi O) (am (by simp only [List.length_singleton]; omega) (am (aN O O) (ac ?_))))));refine uo (P:=λ z=>Ev2 (λ n m=>dA n s m (i:Int) z _ _) _) (ih i (j+1) (_,_) hi O O  ⟨by simp only [aq,List.length_singleton]; omega,by simp only [aq,List.length_singleton]; omega,λ y hy=>?_,λ y hy=>?_⟩)
     ·rcases List.mem_append.1 hy with hy|hy
      ·exact i3 y hy
      ·rw [List.mem_singleton.1 hy];refine .mk (aN (by simp only [ag.Ar]; omega) (by simp only [ag.Ar]; omega)) (by simp only [ag.Em,List.length_singleton]; unfold bf; omega) (λ y hy=>?_) (by simp only [ag.Df,d4]; omega) (λ y hy=>by cases hy);rw [List.mem_singleton.1 hy];exact CP hk.1 (hb.n _ hm)
     ·rcases List.mem_append.1 hy with hy|hy
      ·exact i4 y hy
      ·rw [List.mem_singleton.1 hy]; exact hk.2
  exact bw (f:=λ n m=>dA n s m 0 0 [] []) (loop (s.C'.length+s.AT.length) 0 0 ([],[]) O O O ⟨rfl,rfl,λ y hy=>by (cases hy),λ y hy=>by (cases hy)⟩)
 ·obtain ⟨i1,i2,i3,i4⟩:=ht;refine .mk (aN (by simp only [ag.Ar]; omega) (by simp only [ag.Ar]; omega)) (by simp only [ag.Em]; unfold bf; omega) i3 (by simp only [ag.Df]; unfold bf; omega) (λ y hy=>?_);have:=i4 y hy;unfold bf; omega
theorem AX {s:au}(hs:mw s)(hb:BdS s):Ev2 (λ n _=>ji n s) (λ _=>True):=by
 have hn:=hs.n;have ha:=hs.a.1;simp only [ji];refine aI (λ _=>True) (al (λ _=>ac trivial) (λ _=>ac trivial)) (λ _ _=>al (λ _=>ac trivial) (λ _=>aI _ (vV (l:=s.C') O hb.a _) (λ _ _=>al (λ _=>?_) (λ _=>ac trivial))));refine lF (I:=True) (Q:=λ _=>True) (bw (f:=λ n m=>ek n s m 0) ?_) (λ _=>?_) (λ _ _=>trivial) (id:Nat->Nat)
 ·refine lC (λ n m i=>ek n s m i) s.AT.length (λ _=>True) (λ _=>True) (λ i hi _ P h1 h2=>?_) ?_ trivial
  ·simp only [ek];exact aO O (aI _ (Cr hs hb i hi) (λ r _=>al (λ _=>am (aN O O) (h2 trivial)) (λ _=>ac (h1 _ trivial))))
  ·simp only [ek];exact aM O (ac rfl)
 ·refine aI _ (xq (l:=s.C') O _) (λ r _=>al (λ _=>ac trivial) (λ _=>aI (λ _=>True) (al (λ _=>al (λ _=>ac trivial) (λ _=>ac trivial)) (λ _=>ac trivial)) (λ _ _=>al (λ _=>ac trivial) (λ _=>?_))));exact aI _ (zx hs hb) (λ t ht=>aI _ (vS ht) (λ _ _=>ac trivial))
theorem tu {l:List aF}(hb:∀ a∈l,ag.Bd a.Ei):Ev2 (λ n _=>jg n l) (λ r=>r=true->u9 l):=by
 simp only [jg];refine al (λ _=>ac (λ q=>by cases q)) (λ hl=>?_);refine lF (I:=∀ j:Nat,j<l.length->(lat l (j:Int)).By.length<=100) (Q:=λ e=>e=false) (bw (f:=λ n m=>d9 n l m 0) ?_) (λ h=>ac (λ _=>⟨by omega,λ a ha=>?_⟩)) (λ e he q=>by rw [he] at q; cases q) (id:Nat->Nat)
 ·refine lC (λ n m i=>d9 n l m i) l.length (λ i=>∀ j:Nat,j<i->(lat l (j:Int)).By.length<=100) (λ e=>e=false) (λ i hi hI P h1 h2=>?_) ?_ (λ j hj=>by omega)
  ·simp only [d9];refine aO O (aI (λ r=>r=false->(lat l (i:Int)).By.length<=100) (am O (al (λ _=>ac (λ q=>by cases q)) (λ h=>am O (aI _ (yA (hb _ (Go.Ab.cm O)) 15 (by decide) (by decide)) (λ _ _=>ac (λ _=>by omega)))))) (λ r hr=>al (λ _=>ac (h1 _ rfl)) (λ h=>am (aN O O) (h2 (λ j hj=>?_)))));rcases Nat.lt_or_ge j i with h3|h3
   ·exact hI j h3
   ·obtain rfl:j=i:=by omega
    exact hr (by simpa using h)
  ·simp only [d9];exact aM O (ac rfl)
 ·obtain ⟨j,hj,rfl⟩:=List.getElem_of_mem ha;rw [<- gv l j hj];exact h j hj
theorem vf {s:au}{Q:Prop}(hl:s.AT.length<=10000000000000)(hb:BdS s)(hQ:mw s->Ev2 (λ n _=>ji n s) (λ r=>r=0->Q)):Ev2 (λ n _=>iu n s) (λ r=>r=true->mw s/\Q):=by
 simp only [iu];refine aI (λ r=>r=false->u9 s.C'/\s.AT.length<=10) (aI _ (tu hb.a) (λ r hr=>al (λ _=>ac (λ q=>by cases q)) (λ h=>ac (λ q=>⟨hr (nf h),by have:=of_decide_eq_false q; omega⟩)))) (λ r hr=>al (λ _=>ac (λ q=>by cases q)) (λ h=>?_));obtain ⟨ha,hn⟩:=hr (by simpa using h);refine lF (I:=∀ j:Nat,j<s.AT.length->u9 (lat s.AT (j:Int)).C'/\(lat s.AT (j:Int)).By.length<=100) (Q:=λ e=>e=false) (bw (f:=λ n m=>dG n s m 0) ?_) (λ h=>?_) (λ e he q=>by rw [he] at q; cases q) (id:Nat->Nat)
 ·refine lC (λ n m i=>dG n s m i) s.AT.length (λ i=>∀ j:Nat,j<i->u9 (lat s.AT (j:Int)).C'/\(lat s.AT (j:Int)).By.length<=100) (λ e=>e=false) (λ i hi hI P h1 h2=>?_) ?_ (λ j hj=>by omega)
  ·simp only [dG];refine aO O (aI (λ r=>r=false->u9 (lat s.AT (i:Int)).C'/\(lat s.AT (i:Int)).By.length<=100) (am O (aI _ (tu (hb.n _ (Go.Ab.cm O))) (λ r hr=>al (λ _=>ac (λ q=>by cases q)) (λ h=>am O (ac (λ q=>⟨hr (nf h),by have:=of_decide_eq_false q; omega⟩)))))) (λ r hr=>al (λ _=>ac (h1 _ rfl)) (λ h=>am (aN O O) (h2 (λ j hj=>?_)))));rcases Nat.lt_or_ge j i with h3|h3
   ·exact hI j h3
   ·obtain rfl:j=i:=by omega
    exact hr (by simpa using h)
  ·simp only [dG];exact aM O (ac rfl)
 ·have hs:mw s:=⟨ha,hn,λ x hx=>by obtain ⟨j,hj,rfl⟩:=List.getElem_of_mem hx; rw [<- gv s.AT j hj]; exact h j hj⟩
  exact aI _ (hQ hs) (λ _ hr=>ac (λ z=>⟨hs,hr (of_decide_eq_true z)⟩))
theorem wE {s:au}(hl:s.AT.length<=10000000000000)(hb:BdS s):Ev2 (λ n _=>iu n s) (λ r=>r=true->mw s) :=
 fe (vf (Q:=True) hl hb (λ hs=>fe (AX hs hb) (λ _ _ _=>trivial))) (λ _ h z=>(h z).1)
def VV (v:aa):Prop:=GV v/\aa.Bd v
theorem VV.item {v x:aa}(h:VV v)(hx:x∈v.AI):VV x:=⟨h.1.its _ hx,h.2.eItems _ hx⟩
theorem VV.kl {v:aa}(h:VV v):v.A'.length<=1000000000000000:=by
 have:=h.2.bKeys;unfold bf at this; omega
theorem VV.il {v:aa}(h:VV v):v.AI.length<=1000000000000000:=by
 have:=h.2.bItems;unfold bf at this; omega
theorem VV.with {v:aa}(h:VV v){l:List aa}(hl:l.length=v.AI.length)(hx:∀ x∈l,VV x):VV (aa.mk v.Ar v.BY v.B' l v.A'):=by
 have n:=h.1.node;refine ⟨.mk ⟨λ a b=>?_,n.kys,λ a=>(n.len a).trans hl.symm,n.inc,n.txt,n.z,n.s,n.z4,n.rg,n.nm⟩ (λ x hm=>(hx x hm).1),.mk h.2.bKind h.2.bNum h.2.bStr (by simp only [aa.AI,hl]; exact h.2.bItems) (λ x hm=>(hx x hm).2) h.2.bKeys h.2.eKeys⟩;have:=n.its a b;rw [this] at hl;exact List.length_eq_zero_iff.1 hl
theorem xR {k:Int}{s:Az}(h5:k≠5)(h4:k≠4)(hr:0<=k/\k<=6)(hk:inR k)(h:s.length<=4096):VV (aa.mk k 0 s [] []):=by
 have z:∀ n:Nat,(0:Nat)*n<=bf:=λ n=>by rw [Nat.zero_mul]; exact Nat.zero_le _
 exact ⟨.mk ⟨λ _ _=>rfl,λ _=>rfl,λ q=>absurd q h5,trivial,λ k hk=>(by cases hk),λ q=>absurd q h5,h,λ q=>absurd q h4,hr,λ _=>⟨show -kM<=(0:Int) by decide,show (0:Int)<=kM by decide⟩⟩ (λ x hx=>by cases hx),.mk hk (aN (show (-9223372036854775808:Int)<=0 by decide) (show (0:Int)<=9223372036854775807 by decide)) (show s.length<=bf by unfold bf; omega) (z 80) (λ x hx=>by cases hx) (z 16) (λ x hx=>by cases hx)⟩
theorem Cj {s:Az}(h:s.length<=4096):VV (aa.mk 3 0 s [] []):=xR (by decide) (by decide) (by decide) (aN (by decide) (by decide)) h
theorem yi:VV (aa.mk 0 0 [] [] []):=xR (by decide) (by decide) (by decide) (aN (by decide) (by decide)) G
theorem wV:∀ (N:Nat) (v:aa),SizeOf.sizeOf v<N->aa.Bd v->Ev2 (λ n _=>cR n v) (·=v):=by
 have hW:bf<=140737488355328:=by decide
 intro N
 induction N with
 | zero=>intro v h; omega
 | succ N ih=>
  intro v hv hb;have h1:=hb.bKeys; have h2:=hb.bItems;refine g7 ?_;simp only [cR];refine am O (av v.AI (g7 ?_) (ac (by cases v; rfl)));simp only [kG];refine al (λ h=>ac (by symm; exact List.length_eq_zero_iff.1 O)) (λ h=>am O (av v.AI (bw (f:=λ n m=>dF (cR n) v.AI m [] 0) ?_) (ac rfl)));refine dz (λ n m i (l:List aa)=>dF (cR n) v.AI m l i) v.AI.length (λ i l=>l=v.AI.take i) (λ i l hi hl k=>?_) (λ l hl=>?_) [] rfl
  ·subst hl;have hm:lat v.AI (i:Int)∈v.AI:=Go.Ab.cm O;have hz:=ra hm;simp only [dF];refine aO O (am O (av _ (ih _ O (hb.eItems _ hm)) (am (by simp only [List.length_take,List.length_singleton]; omega) (am (aN O O) (k _ ?_)))));rw [hH _ hi,aa.eta]
  ·subst hl;simp only [dF];exact aM O (ac (List.take_length))
theorem zA {v:aa}(h:VV v):Ev2 (λ n _=>cR n v) (·=v):=wV _ v (Nat.lt_succ_self _) h.2
def sd:List Az->List aa->Az->Option aa|k::ks,x::xs,q=>if k=q then some x else sd ks xs q|_,_,_=>none
def qE:List Az->List aa->Az->aa->List aa|k::ks,x::xs,q,w=>if k=q then w::xs else x::qE ks xs q w|_,xs,_,_=>xs
def gU (v:aa)(q:Az):Option aa:=if v.Ar=5 then sd v.A' v.AI q else none
def wy (v:aa)(q:Az)(w:aa):aa:=aa.mk v.Ar v.BY v.B' (qE v.A' v.AI q w) v.A'
def Aq:aa:=aa.mk 0 0 [] [] []
def isN (o:Option aa):aa×Bool:=match o with|some x=>(x,true)|none=>(Aq,false)
def ofP (v:aa)(q:Az):aa:=(gU v q).getD Aq
theorem qe:∀ (ks:List Az) (xs:List aa) (q:Az) (w:aa),(qE ks xs q w).length=xs.length
 | [],xs,q,w=>by cases xs <;> rfl
 | _::_,[],q,w=>rfl
 | k::ks,x::xs,q,w=>by
  simp only [qE];split
  ·rfl
  ·simp only [bt,qe ks xs q w]
theorem uR:∀ (ks:List Az) (xs:List aa) (q:Az) (w y:aa),y∈qE ks xs q w->y∈xs\/y=w
 | [],xs,q,w,y,h=>by cases xs <;> exact .inl h
 | _::_,[],q,w,y,h=>.inl h
 | k::ks,x::xs,q,w,y,h=>by
  simp only [qE] at h;split at h
  ·rcases List.mem_cons.1 h with h|h
   ·exact .inr h
   ·exact .inl (List.mem_cons_of_mem _ h)
  ·rcases List.mem_cons.1 h with h|h
   ·exact .inl (h ▸ List.mem_cons_self)
   ·rcases uR ks xs q w y h with h|h
    ·exact .inl (List.mem_cons_of_mem _ h)
    ·exact .inr h
theorem re:∀ (ks:List Az) (xs:List aa) (q:Az) (y:aa),sd ks xs q=some y->y∈xs
 | [],xs,q,y,h=>by cases xs <;> cases h
 | _::_,[],q,y,h=>by cases h
 | k::ks,x::xs,q,y,h=>by
  simp only [sd] at h;split at h
  ·cases h; exact List.mem_cons_self
  ·exact List.mem_cons_of_mem _ (re ks xs q y h)
theorem VV.get {v x:aa}{q:Az}(h:VV v)(hx:gU v q=some x):VV x:=by
 unfold gU at hx;split at hx
 ·exact h.item (re _ _ _ _ hx)
 ·cases hx
theorem VV.put {v w:aa}(q:Az)(h:VV v)(hw:VV w):VV (wy v q w):=by
 refine h.with (qe _ _ _ _) (λ x hx=>?_)
 rcases uR _ _ _ _ _ hx with hx|rfl
 ·exact h.item hx
 ·exact hw
theorem VV.of {v:aa}(h:VV v)(q:Az):VV (ofP v q):=by
 unfold ofP
 cases hx:gU v q with
 | some x=>exact h.get hx
 | none=>exact yi
theorem xE:∀ (ks:List Az) (xs:List aa),ks.Pairwise (λ a b=>Op.bytesLess a b=true)->ks.length=xs.length->∀ (t:Nat) (ht:t<ks.length) (w:aa),sd ks xs ks[t]=xs[t]?/\qE ks xs ks[t] w=xs.set t w
 | [],_,_,_,t,ht,_=>by simp at ht
 | _::_,[],_,h,_,_,_=>by simp at h
 | k::ks,x::xs,hp,hl,0,ht,w=>by simp [sd,qE]
 | k::ks,x::xs,hp,hl,t+1,ht,w=>by
  have hp2:=List.pairwise_cons.1 hp;have ht2:t<ks.length:=by simpa using ht
  have ih:=xE ks xs hp2.2 (by simpa using hl) t ht2 w
  have Fo:¬ k=ks[t]:=λ e=>by
   have:=hp2.1 ks[t] (List.getElem_mem ht2);rw [<- e,uj] at this; cases this
  simp only [List.getElem_cons_succ,sd,qE,if_neg Fo,List.getElem?_cons_succ,List.set_cons_succ,ih.1,ih.2,and_self]
theorem tL:∀ (ks:List Az) (xs:List aa) (q:Az),q ∉ ks->sd ks xs q=none
 | [],xs,q,h=>by cases xs <;> rfl
 | _::_,[],q,h=>rfl
 | k::ks,x::xs,q,h=>by
  simp only [sd];rw [if_neg (λ e=>h (by rw [e]; exact List.mem_cons_self))];exact tL ks xs q (λ m=>h (List.mem_cons_of_mem _ m))
theorem vkey {v:aa}(h:VV v)(q:Az)(h5:v.Ar=5):(∃ t:Nat,t<v.A'.length/\t<v.AI.length/\q=lat v.A' (t:Int)/\gU v q=some (lat v.AI (t:Int))/\∀ w,qE v.A' v.AI q w=v.AI.set t w)\/(q ∉ v.A'/\gU v q=none):=by
 have hl:=h.1.node.len h5;by_cases hq:q∈v.A'
 ·obtain ⟨t,ht,rfl⟩:=List.getElem_of_mem hq;have ha:=λ w=>xE v.A' v.AI (wl h.1.node.inc) hl t ht w;refine .inl ⟨t,ht,by omega,(gv _ _ ht).symm,?_,λ w=>(ha w).2⟩;unfold gU;rw [if_pos h5,(ha Aq).1,gv _ _ (show t<v.AI.length by omega),List.getElem?_eq_getElem]
 ·refine .inr ⟨hq,?_⟩;unfold gU;rw [if_pos h5];exact tL _ _ _ hq
theorem Bu {l:List Az}(hl:l.length<=1000000000000000){q:Az}(h:q ∉ l):Ev2 (λ n _=>bg n l q) (λ r=>r.2=false) :=
 fe (qX l q hl) (λ r hr=>by
  cases e:r.2 with
  | false=>rfl
  | true=>exact absurd ((hr.2.2 e).2 ▸ Go.Ab.cm ⟨hr.1,(hr.2.2 e).1⟩) h)
theorem uB {v:aa}(h:VV v)(q:Az):Ev2 (λ n _=>gf n v q) (·=isN (gU v q)):=by
 simp only [gf];by_cases h5:v.Ar=5
 ·rcases vkey h q h5 with ⟨t,t1,t2,rfl,e,_⟩|⟨hq,e⟩
  ·rw [e];refine av _ (A5 h.kl h.1.node.inc t1) (av false (aO h5 (aM G (ac (decide_eq_false O)))) (aM (by decide) (am O ?_)));exact av _ (zA (h.item (Go.Ab.cm O))) (ac (congrArg (λ z=>(z,true)) (aa.eta _)))
  ·rw [e];exact aI _ (Bu h.kl hq) (λ r hr=>av true (aO h5 (aO (by simp [hr]) (ac rfl))) (aO rfl (ac rfl)))
 ·have e:gU v q=none:=by unfold gU; rw [if_neg h5]
  rw [e];exact aI _ (qX v.A' q h.kl) (λ r _=>av true (aM h5 (ac rfl)) (aO rfl (ac rfl)))
theorem xO {v w x:aa}(h:VV v)(hw:VV w){q:Az}(hx:gU v q=some x):Ev2 (λ n _=>kP n v q w) (·=wy v q w):=by
 have h5:v.Ar=5:=by
  unfold gU at hx;split at hx
  ·assumption
  ·cases hx
 rcases vkey h q h5 with ⟨t,t1,t2,rfl,e,es⟩|⟨hq,e⟩
 ·simp only [kP];refine av _ (zA h) (av _ (A5 h.kl h.1.node.inc t1) (av false (aM (by simp only; omega) (aO rfl (ac (decide_eq_false (by simp only; omega))))) (aM (by decide) (aM G (av _ (zA hw) (am (by simp only; omega) (ac ?_)))))));unfold wy qT;rw [es,Int.toNat_natCast]
 ·rw [e] at hx; cases hx
mutual
def m8:aa->Bool|.mk k _ _ l _=>!decide (k=6)&&lm l
def lm:List aa->Bool|[]=>true|x::r=>m8 x&&lm r
end
theorem yZ (v:aa):m8 v=(!decide (v.Ar=6)&&lm v.AI):=by cases v; simp only [m8,aa.Ar,aa.AI]; rfl
theorem vk {l:List aa}{i:Nat}(h:i<l.length):lm (l.drop i)=(m8 (lat l (i:Int))&&lm (l.drop (i+1))):=by
 rw [en l h]; simp only [lm]
theorem vR {v:aa}(hb:aa.Bd v):Ev2 (λ n _=>gr n v) (·=m8 v):=by
 induction hb with
 | @mk v bKind bNum bStr bItems eItems bKeys eKeys ih=>
  have hl:=bItems;unfold bf at hl;refine g7 ?_;simp only [gr];rw [yZ];refine av (!decide (v.Ar=6)&&lm v.AI) (al (λ h=>ac (by simp [h])) (λ h=>?_)) (ac Z);refine av (!lm v.AI) ?_ (ac (by simp [h]));unfold co cC;refine aI (λ r=>decide (0<=r)=!lm v.AI) ?_ (λ r hr=>ac hr);refine jw (bw (f:=λ n m=>aW v.AI (λ x0=>fV n x0) m 0) ?_);refine dz (λ n m i (_:Unit)=>aW v.AI (λ x0=>fV n x0) m i) v.AI.length (λ i _=>lm v.AI=lm (v.AI.drop i)) (λ i _ hi hI k=>?_) (λ _ hI=>?_) () G
  ·simp only [aW];have hm:lat v.AI (i:Int)∈v.AI:=Go.Ab.cm O;refine aO O (am O (av (!m8 (lat v.AI (i:Int))) (g7 ?_) ?_))
   ·simp only [fV];exact av _ (ih _ hm) (ac rfl)
   ·rw [vk hi] at hI;refine al (λ h=>ac ?_) (λ h=>am (aN O O) (k () ?_))
    ·simp only;rw [hI,nt h,Bool.false_and];simp
    ·rw [hI,nf h,Bool.true_and]
  ·simp only [aW];refine aM O (ac (ac ?_));rw [hI,List.drop_length]
   rfl
def mt (a b:aa):Bool:=!eqV a b||!m8 a||!m8 b
theorem zo {a b:aa}(ha:aa.Bd a)(hb:aa.Bd b):Ev2 (λ n _=>iL n a b) (·=mt a b):=by
 simp only [iL];refine av (mt a b) ?_ (ac rfl);unfold mt;refine av _ (oH ha b) (al (λ h=>ac (by simp [nt h])) (λ h=>?_));refine av _ (vR ha) (al (λ h2=>ac (by simp [nt h2])) (λ h2=>?_));exact av _ (vR hb) (ac (by simp [nf h,nf h2]))
def eZ (names:List Az)(a b:aa):List Az:=names.filter λ q=>mt (ofP a q) (ofP b q)
def Aw:aa:=aa.mk 3 0 [40,115,101,110,115,105,116,105,118,101,41] [] []
def seen (o:Option aa):Bool:=match o with|some x=>!decide (x.Ar=0)|none=>false
def nC (v:aa)(a:aF):aa:=if a.Ey=true/\seen (gU v a.By)=true then wy v a.By Aw else v
def lu (v:aa)(l:List aF):aa:=l.foldl nC v
theorem xn:VV Aw:=Cj (by decide)
theorem tM {o:Option aa}(h:seen o=true):∃ x,o=some x/\x.Ar≠0:=by
 cases o with
 | none=>cases h
 | some x=>exact ⟨x,Z,by simpa [seen] using h⟩
theorem VV.stepA {v:aa}(h:VV v)(a:aF):VV (nC v a):=by
 unfold R06.nC;split
 ·exact h.put _ xn
 ·exact h
theorem VV.hid {v:aa}(h:VV v):∀ l,VV (lu v l):=by
 intro l
 induction l generalizing v with
 | nil=>exact h
 | cons a l ih=>exact ih (h.stepA a)
theorem tq {v:aa}(h:VV v){l:List aF}(hl:l.length<=1000):Ev2 (λ n _=>gR n v l) (·=lu v l):=by
 simp only [gR];refine av ((lu v l).Ar,(lu v l).BY,(lu v l).B',(lu v l).AI,(lu v l).A') (bw (f:=λ n m=>dj n l m 0 v.Ar v.BY v.B' v.AI v.A') ?_) (ac (aa.eta _));refine dz (λ n m i (s:aa)=>dj n l m i s.Ar s.BY s.B' s.AI s.A') l.length (λ i s=>s=lu v (l.take i)) (λ i s hi hs k=>?_) (λ s hs=>?_) v rfl
 ·subst hs;have hv:=h.hid (l.take i);simp only [dj];rw [aa.eta]
  have e1:lu v (l.take (i+1))=nC (lu v (l.take i)) (lat l (i:Int)):=by
   rw [hH l hi]; unfold lu; rw [List.foldl_append]; rfl
  refine aO O (av ((lu v (l.take (i+1))).Ar,(lu v (l.take (i+1))).BY,(lu v (l.take (i+1))).B',(lu v (l.take (i+1))).AI,(lu v (l.take (i+1))).A') (am O ?_) (am (aN O O) (k (lu v (l.take (i+1))) Z)));generalize lu v (l.take i)=u at hv e1;rw [e1];refine av _ (uB hv _) (av (decide ((lat l (i:Int)).Ey=true/\seen (gU u (lat l (i:Int)).By)=true)) ?_ (al (λ h2=>?_) (λ h2=>ac ?_)))
  ·cases e:gU u (lat l (i:Int)).By with
   | none=>exact aM (by simp [isN]) (ac (by simp [seen]))
   | some x=>
    refine aO Z (al (λ h3=>ac ?_) (λ h3=>ac (by simp [h3])));rw [show decide ((lat l (i:Int)).Ey=true/\seen (some x)=true)=seen (some x) from by simp [h3]]
    rfl
  ·have h2:=of_decide_eq_true h2;obtain ⟨x,hx,_⟩:=tM h2.2;refine av Aw (ac rfl) (av _ (xO hv xn hx) (ac ?_));unfold nC;rw [if_pos h2]
  ·have h2:¬ ((lat l (i:Int)).Ey=true/\seen (gU u (lat l (i:Int)).By)=true):=λ q=>h2 (decide_eq_true q);unfold nC;rw [if_neg h2]
 ·subst hs;simp only [dj];exact aM O (ac (by rw [List.take_length]))
def nV (l:List aF)(x:aa):aa:=if x.Ar=5 then lu x l else x
def tN (v:aa)(l:List aa):aa:=aa.mk v.Ar v.BY v.B' l v.A'
def iC (v:aa)(n:aR):aa:=match gU v n.By with
 | some l=>if l.Ar=4 then wy v n.By (tN l (l.AI.map (nV n.C'))) else v
 | none=>v
def fZ (s:au)(v:aa):aa:=if v.Ar=5 then s.AT.foldl iC (lu v s.C') else v
theorem VV.hidX {x:aa}(h:VV x)(l:List aF):VV (nV l x):=by
 unfold R06.nV;split
 ·exact h.hid l
 ·exact h
theorem VV.withI {v:aa}(h:VV v)(l:List aF):VV (tN v (v.AI.map (R06.nV l))):=by
 refine h.with (cl _) (λ x hx=>?_)
 obtain ⟨y,hy,rfl⟩:=List.mem_map.1 hx;exact (h.item hy).hidX l
theorem VV.stepN {v:aa}(h:VV v)(n:aR):VV (iC v n):=by
 unfold R06.iC;split
 ·rename_i l hl;split
  ·exact h.put _ ((h.get hl).withI _)
  ·exact h
 ·exact h
theorem VV.foldN {v:aa}(h:VV v):∀ l:List aR,VV (l.foldl R06.iC v):=by
 intro l
 induction l generalizing v with
 | nil=>exact h
 | cons a l ih=>exact ih (h.stepN a)
theorem VV.mask {v:aa}(h:VV v)(s:au):VV (fZ s v):=by
 unfold fZ;split
 ·exact (h.hid _).foldN _
 ·exact h
theorem vC {l:List aa}(f:aa->aa){i:Nat}(hi:i<l.length):((l.take i).map f++l.drop i).set i (f (lat l (i:Int)))=(l.take (i+1)).map f++l.drop (i+1):=by
 have E9:((l.take i).map f).length=i:=by rw [cl,List.length_take]; omega
 rw [hH l hi,en l hi,List.set_append,if_neg O,E9,Nat.sub_self,List.set_cons_zero,List.map_append,List.append_assoc]
 rfl
theorem x8 {l:List aa}(f:aa->aa){i:Nat}(hi:i<l.length):lat ((l.take i).map f++l.drop i) (i:Int)=lat l (i:Int):=by
 have E9:((l.take i).map f).length=i:=by rw [cl,List.length_take]; omega
 rw [gv _ _ (by rw [aq,E9,List.length_drop]; omega),List.getElem_append_right O];simp only [E9,Nat.sub_self,List.getElem_drop,Nat.add_zero];exact (gv _ _ hi).symm
theorem DY {v:aa}(h:VV v):Ev2 (λ n _=>cu n v) (·=v):=rh _ v (Nat.lt_succ_self _) h.2
theorem B5 {s:au}(hs:mw s){v:aa}(h:VV v):Ev2 (λ n _=>fR n s v) (·=fZ s v):=by
 have hn:=hs.n;have ha:=hs.a.1;simp only [fR];unfold fZ;refine av _ (DY h) (al (λ h5=>?_) (λ h5=>ac (by rw [if_neg h5])));rw [if_pos h5];refine av _ (tq h O) ?_;have hv:=h.hid s.C';generalize lu v s.C'=u at hv
 have key:∀ R,R=s.AT.foldl iC u->Ev2 (λ n m=>dB n s m 0 u.Ar u.BY u.B' u.AI u.A') (·=(R.Ar,R.BY,R.B',R.AI,R.A')):=by
  rintro R rfl;refine dz (λ n m i (t:aa)=>dB n s m i t.Ar t.BY t.B' t.AI t.A') s.AT.length (λ i t=>t=(s.AT.take i).foldl iC u) (λ i t hi ht k=>?_) (λ t ht=>?_) u rfl
  ·subst ht;have hw:=hv.foldN (s.AT.take i);have hm:lat s.AT (i:Int)∈s.AT:=Go.Ab.cm O;have hna:=(hs.m _ hm).1.1;simp only [dB];rw [aa.eta]
   have e1:(s.AT.take (i+1)).foldl iC u=iC ((s.AT.take i).foldl iC u) (lat s.AT (i:Int)):=by
    rw [hH _ hi,List.foldl_append]; rfl
   refine aO O (av (((s.AT.take (i+1)).foldl iC u).Ar,((s.AT.take (i+1)).foldl iC u).BY,((s.AT.take (i+1)).foldl iC u).B',((s.AT.take (i+1)).foldl iC u).AI,((s.AT.take (i+1)).foldl iC u).A') (am O ?_) (am (aN O O) (k _ Z)));generalize (s.AT.take i).foldl iC u=t at hw e1;rw [e1];refine av _ (uB hw _) ?_;unfold iC
   cases e:gU t (lat s.AT (i:Int)).By with
   | none=>exact av true (aO (by simp [isN]) (ac Z)) (aO Z (ac Z))
   | some l=>
    have hl:=hw.get e;have hil:=hl.2.bItems;unfold bf at hil;refine av (!decide (l.Ar=4)) (aM (by simp [isN]) (ac Z)) (al (λ h4=>ac ?_) (λ h4=>?_))
    ·have h4:¬ l.Ar=4:=by simpa using h4
     simp only [if_neg h4]
    ·have h4:l.Ar=4:=by simpa using h4
     simp only [if_pos h4];refine av (l.AI.map (nV (lat s.AT (i:Int)).C')) (bw (f:=λ n m=>ee n s (i:Int) (isN (some l)) m l.AI 0) ?_) ?_
     ·refine dz (λ n m j (x:List aa)=>ee n s (i:Int) (isN (some l)) m x j) l.AI.length (λ j x=>x=(l.AI.take j).map (nV (lat s.AT (i:Int)).C')++l.AI.drop j) (λ j x hj hx k2=>?_) (λ x hx=>?_) l.AI Z
      ·subst hx
       have E9:((l.AI.take j).map (nV (lat s.AT (i:Int)).C')++l.AI.drop j).length=l.AI.length:=by
        rw [aq,cl,List.length_take,List.length_drop]; omega
       simp only [ee];have hy:VV (lat l.AI (j:Int)):=hl.item (Go.Ab.cm O);refine aO (by simp only [isN]; omega) (av ((l.AI.take (j+1)).map (nV (lat s.AT (i:Int)).C')++l.AI.drop (j+1)) (am O ?_) (am (aN O O) (k2 _ rfl)));rw [x8 _ hj,<- vC _ hj];refine al (λ h6=>av _ (tq hy O) (am O (ac ?_))) (λ h6=>ac ?_)
       ·unfold qT nV;rw [if_pos h6,Int.toNat_natCast]
       ·have:nV (lat s.AT (i:Int)).C' (lat l.AI (j:Int))=lat l.AI (j:Int):=by unfold nV; rw [if_neg h6]
        rw [this];have h7:=x8 (nV (lat s.AT (i:Int)).C') hj;rw [gv _ _ O] at h7;rw [<- h7];exact (rO _ _ O).symm
      ·subst hx;simp only [ee];exact aM (by simp only [isN]; omega) (ac (by rw [List.take_length,List.drop_length,List.append_nil]))
     ·exact av _ (xO hw (hl.withI _) e) (ac Z)
  ·subst ht;simp only [dB];exact aM O (ac (by rw [List.take_length]))
 exact av _ (bw (f:=λ n m=>dB n s m 0 u.Ar u.BY u.B' u.AI u.A') (key _ Z)) (ac (aa.eta _))
theorem qh:∀ (ks:List Az) (xs:List aa) (q:Az) (w x:aa),sd ks xs q=some x->bX w<=bX x->cy (qE ks xs q w)<=cy xs
 | [],xs,_,_,_,h,_=>by cases xs <;> cases h
 | _::_,[],_,_,_,h,_=>by cases h
 | k::ks,y::xs,q,w,x,h,hw=>by
  simp only [sd] at h;simp only [qE];split
  ·rename_i e;rw [if_pos e] at h
   cases h
   simp only [cy]; omega
  ·rename_i e;rw [if_neg e] at h;have:=qh ks xs q w x h hw;simp only [cy]; omega
theorem tJ {v w x:aa}{q:Az}(h:gU v q=some x)(hw:bX w<=bX x):bX (wy v q w)<=bX v:=by
 unfold gU at h;split at h
 ·have:=qh _ _ _ _ _ h hw;rw [gb,gb v];unfold wy;simp only [aa.AI] at this ⊢;omega
 ·cases h
theorem yN (v:aa):1<=bX v:=by rw [gb]; omega
theorem u2 (v:aa)(a:aF):bX (nC v a)<=bX v:=by
 unfold nC;split
 ·rename_i h;obtain ⟨x,hx,_⟩:=tM h.2;exact tJ hx (yN x)
 ·exact mv _
theorem pU:∀ (l:List aF) (v:aa),bX (lu v l)<=bX v
 | [],_v=>mv _
 | a::l,v=>Nat.le_trans (pU l (nC v a)) (u2 v a)
theorem qn (f:aa->aa)(h:∀ x,bX (f x)<=bX x):∀ l:List aa,cy (l.map f)<=cy l
 | []=>mv _
 | x::l=>by
  have h1:=h x;have:=qn f h l;simp only [n6,cy]; omega
theorem vP (v:aa)(n:aR):bX (iC v n)<=bX v:=by
 unfold iC;split
 ·rename_i l hl;split
  ·refine tJ hl ?_;have:=qn (nV n.C') (λ x=>by unfold nV; split; exact pU _ _; exact mv _) l.AI;rw [gb,gb l];unfold tN;simp only [aa.AI] at this ⊢;omega
  ·exact mv _
 ·exact mv _
theorem qu:∀ (l:List aR) (v:aa),bX (l.foldl iC v)<=bX v
 | [],_v=>mv _
 | a::l,v=>Nat.le_trans (qu l (iC v a)) (vP v a)
theorem w5 (s:au)(v:aa):bX (fZ s v)<=bX v:=by
 unfold fZ;split
 ·exact Nat.le_trans (qu _ _) (pU _ _)
 ·exact mv _
theorem yY {v x:aa}{q:Az}(h:gU v q=some x):bX x<=bX v:=by
 unfold gU at h;split at h
 ·have:=ov (re _ _ _ _ h);rw [gb v]; omega
 ·cases h
def rX (v:aa):Az :=if v.Ar=1 then (if v.BY=1 then [116,114,117,101] else [102,97,108,115,101]) else if v.Ar=2 then itoa v.BY else if v.Ar=3 then mR v.B' else if v.Ar=4 then [91,93] else if v.Ar=5 then [123,125] else if v.Ar=6 then [40,117,110,107,110,111,119,110,41] else [110,117,108,108]
def oL (k:Int)(ks:List Az)(i:Nat):Az:=if k=5/\i<ks.length then mR (lat ks (i:Int))++[58,32] else []
mutual
def oU:aa->Az|.mk k n s l ks=>if l.isEmpty=true then rX (.mk k n s l ks) else (if k=5 then [123] else [91])++lI k ks 0 l++(if k=5 then [125] else [93])
def lI (k:Int)(ks:List Az):Nat->List aa->Az|_,[]=>[]|i,x::r=>(if 0<i then [44,32] else [])++oL k ks i++oU x++lI k ks (i+1) r
end
theorem ut (v:aa):oU v=if v.AI.isEmpty=true then rX v else (if v.Ar=5 then [123] else [91])++lI v.Ar v.A' 0 v.AI++(if v.Ar=5 then [125] else [93]):=by cases v; simp only [oU,aa.AI,aa.Ar,aa.A']; rfl
theorem oJ (s:Az):(mR s).length<=6*s.length+2:=by
 have:=uO s;unfold mR;simp only [bt,aq,d4]; omega
theorem sk {n:Int}(h:inR n):(itoa n).length<=21:=by
 have h1:=h.1;have h2:=h.2;unfold itoa;split
 ·have:=xW 19 n.natAbs O;simp only [bt]; omega
 ·have:=xW 19 n.toNat O;omega
theorem s8 {v:aa}(h:VV v):(rX v).length<=24600:=by
 have h1:=h.1.node.s;have h2:=sk h.2.bNum;have h3:=oJ v.B';unfold rX
 repeat' (first|(simp only [bt,d4]; omega)|omega|split)
theorem pP {v:aa}(h:VV v)(i:Nat):(oL v.Ar v.A' i).length<=24600:=by
 unfold oL;split
 ·rename_i hi;have h1:=(h.1.node.txt _ (Go.Ab.cm (l:=v.A') (i:=(i:Int)) O)).1;have h3:=oJ (lat v.A' (i:Int));simp only [aq,bt,d4]; omega
 ·simp
theorem Cp:∀ (N:Nat) (v:aa),SizeOf.sizeOf v<N->VV v->(oU v).length+25000<=50000*bX v:=by
 intro N
 induction N with
 | zero=>intro v h; omega
 | succ N ih=>
  intro v hN h;rw [ut,gb];have hs:=s8 h
  have key:∀ (l:List aa) (i:Nat),(∀ x∈l,x∈v.AI)->(lI v.Ar v.A' i l).length<=50000*cy l:=by
   intro l
   induction l with
   | nil=>intro i _; simp [lI]
   | cons x r ihr=>
    intro i hm;have a1:=ih x (by have:=ra (hm x List.mem_cons_self); omega) (h.item (hm x List.mem_cons_self));have a2:=ihr (i+1) (λ y hy=>hm y (List.mem_cons_of_mem _ hy));have a3:=pP h i;have a4:(if 0<i then ([44,32]:Az) else []).length<=2:=by split <;> simp
    simp only [lI,cy,aq];omega
  split
  ·omega
  ·have a:=key v.AI 0 (λ _ hx=>hx);have b1:(if v.Ar=5 then ([123]:Az) else [91]).length=1:=by split <;> rfl
   have b2:(if v.Ar=5 then ([125]:Az) else [93]).length=1:=by split <;> rfl
   simp only [aq];omega
theorem gd {v:aa}(h:VV v):(oU v).length+25000<=50000*bX v:=Cp _ v (Nat.lt_succ_self _) h
theorem y5 {v:aa}(h:VV v):Ev2 (λ n _=>ga n v) (·=rX v):=by
 have h1:=h.1.node.s;simp only [ga];unfold rX;refine al (λ a=>?_) (λ a=>?_)
 ·rw [if_pos a];exact al (λ b=>ac (by rw [if_pos b])) (λ b=>ac (by rw [if_neg b]))
 ·rw [if_neg a];refine al (λ b=>?_) (λ b=>?_)
  ·rw [if_pos b];refine av (itoa v.BY) ?_ (ac rfl);simp only [j9];unfold strconv_Itoa;exact av (itoa v.BY) (am h.2.bNum (ac rfl)) (ac rfl)
  ·rw [if_neg b];refine al (λ c=>?_) (λ c=>?_)
   ·rw [if_pos c];exact av _ (o0 _ O) (ac rfl)
   ·rw [if_neg c];refine al (λ d=>ac (by rw [if_pos d])) (λ d=>?_);rw [if_neg d];refine al (λ e=>ac (by rw [if_pos e])) (λ e=>?_);rw [if_neg e];exact al (λ f=>ac (by rw [if_pos f])) (λ f=>ac (by rw [if_neg f]))
theorem AW {v:aa}(h:VV v)(i:Nat):Ev2 (λ n _=>gI n v (i:Int)) (·=oL v.Ar v.A' i):=by
 simp only [gI];unfold oL;refine av (decide (v.Ar=5/\i<v.A'.length)) (al (λ a=>ac (by simp [a])) (λ a=>ac (by simp [a]))) (al (λ a=>?_) (λ a=>?_))
 ·have a:=of_decide_eq_true a;have h1:=(h.1.node.txt _ (Go.Ab.cm (l:=v.A') (i:=(i:Int)) O)).1;have h3:=oJ (lat v.A' (i:Int));rw [if_pos a];exact am O (av _ (o0 _ O) (am (by simp only [bt,d4]; omega) (ac Z)))
 ·rw [if_neg (λ q=>a (decide_eq_true q))];exact ac rfl
theorem wr {f x:Az}{P:Az->Prop}{k:Nat->Nat->(Int×Bool×ay)->Option Az}(h:f.length+x.length<=100000000000)(hk:Ev2 (λ n m=>k n m ((x.length:Int),false,ay.mk (f++x))) P):Ev2 (λ n m=>(aU (ay.mk f) x).bind (k n m)) P:=by
 rw [sF f x h]; exact hk
theorem zd:∀ (N:Nat) (v:aa),SizeOf.sizeOf v<N->VV v->∀ b:Az,b.length+50000*bX v<=10000000000->Ev2 (λ n _=>de n (ay.mk b) v) (·=ay.mk (b++oU v)):=by
 intro N
 induction N with
 | zero=>intro v h; omega
 | succ N ih=>
  intro v hN h b hb;have hs:=s8 h;have hil:=h.il;have hfl:=gd h;rw [gb] at hb;refine g7 ?_;simp only [de];rw [ut];refine al (λ a=>?_) (λ a=>?_)
  ·have a:v.AI=[]:=List.length_eq_zero_iff.1 O;rw [if_pos (by rw [a]; rfl)];refine av _ (y5 h) ?_;rw [sF b (rX v) O];exact ac Z
  ·have a':¬ v.AI.isEmpty=true:=by
    intro q;have:v.AI=[]:=by simpa using q
    rw [this] at a; exact a rfl
   rw [if_neg a'];refine av ((if v.Ar=5 then ([123]:Az) else [91]),(if v.Ar=5 then ([125]:Az) else [93])) (by unfold iR; exact al (λ c=>ac (by simp [c])) (λ c=>ac (by simp [c]))) ?_;have b1:(if v.Ar=5 then ([123]:Az) else [91]).length=1:=by split <;> rfl
   have b2:(if v.Ar=5 then ([125]:Az) else [93]).length=1:=by split <;> rfl
   generalize (if v.Ar=5 then ([123]:Az) else [91])=o at b1;generalize (if v.Ar=5 then ([125]:Az) else [93])=e at b2;simp only;rw [sF b o O];refine av _ (ac Z) ?_;refine av (b++o++lI v.Ar v.A' 0 v.AI) (bw (f:=λ n m=>cL n (de n) v m 0 (b++o)) ?_) ?_
   ·have fmtL_snoc:∀ (l:List aa) (i:Nat) (x:aa),lI v.Ar v.A' i (l++[x])=lI v.Ar v.A' i l++((if 0<i+l.length then [44,32] else [])++oL v.Ar v.A' (i+l.length)++oU x):=by
     intro l
     induction l with
     | nil=>intro i x; simp only [List.nil_append,lI,List.append_nil,d4,Nat.add_zero]
     | cons y r ihr=>
      intro i x;simp only [List.cons_append,lI,ihr,bt,List.append_assoc];rw [show i+1+r.length=i+(r.length+1) by omega]
    have fmtL_len:∀ (l:List aa) (i:Nat),(∀ x∈l,x∈v.AI)->(lI v.Ar v.A' i l).length<=50000*cy l:=by
     intro l
     induction l with
     | nil=>intro i _; simp [lI]
     | cons x r ihr=>
      intro i hm;have a1:=gd (h.item (hm x List.mem_cons_self));have a2:=ihr (i+1) (λ y hy=>hm y (List.mem_cons_of_mem _ hy));have a3:=pP h i;have a4:(if 0<i then ([44,32]:Az) else []).length<=2:=by split <;> simp
      simp only [lI,cy,aq];omega
    have nodes_app:∀ l r:List aa,cy (l++r)=cy l+cy r:=by
     intro l r
     induction l with
     | nil=>simp [cy]
     | cons x l ihl=>simp only [List.cons_append,cy,ihl]; omega
    refine dz (λ n m i (f:Az)=>cL n (de n) v m i f) v.AI.length (λ i f=>f=b++o++lI v.Ar v.A' 0 (v.AI.take i)) (λ i f hi hf k=>?_) (λ f hf=>?_) (b++o) (by simp [lI])
    ·subst hf;have hm:lat v.AI (i:Int)∈v.AI:=Go.Ab.cm O;have hx:=h.item hm;have c1:=fmtL_len (v.AI.take i) 0 (λ x hx=>List.mem_of_mem_take hx);have c2:=gd hx;have c3:=pP h i
     have c4:cy (v.AI.take i)+bX (lat v.AI (i:Int))+cy (v.AI.drop (i+1))=cy v.AI:=by
      have:=nodes_app (v.AI.take i) (v.AI.drop i);rw [List.take_append_drop,en _ hi] at this;simp only [cy] at this; omega
     have c5:((if 0<i then ([44,32]:Az) else []).length)<=2:=by split <;> simp
     have hsn:=fmtL_snoc (v.AI.take i) 0 (lat v.AI (i:Int));rw [<- hH _ hi,List.length_take,show min i v.AI.length=i by omega,qr] at hsn;have c6:(b++o).length=b.length+1:=by rw [aq]; omega
     simp only [cL];generalize hq:(if 0<i then ([44,32]:Az) else [])=sp at c5 hsn;have hg:((b++o)++lI v.Ar v.A' 0 (v.AI.take i)).length=b.length+1+(lI v.Ar v.A' 0 (v.AI.take i)).length:=by rw [aq,c6]
     generalize hg0:(b++o)++lI v.Ar v.A' 0 (v.AI.take i)=g at hg;refine aO O (am O (av (g++sp) ?_ ?_))
     ·refine al (λ q=>?_) (λ q=>ac ?_)
      ·rw [if_pos O] at hq;subst hq;rw [sF g [44,32] (by simp only [bt,d4]; omega)];exact ac rfl
      ·rw [if_neg O] at hq;subst hq;simp
     ·refine av _ (AW h i) ?_;rw [sF (g++sp) _ (by rw [aq]; omega)];refine av _ (ac Z) ?_;refine av _ (ih _ (by have:=ra hm; omega) hx (g++sp++oL v.Ar v.A' i) (by simp only [aq]; omega)) (am (aN O O) (k _ ?_));rw [hsn,<- hg0];simp only [List.append_assoc]
    ·subst hf;simp only [cL];exact aM O (ac (by rw [List.take_length]))
   ·have hfl2:(lI v.Ar v.A' 0 v.AI).length<=50000*bX v:=by
     rw [ut,if_neg a'] at hfl;simp only [aq] at hfl;omega
    rw [gb] at hfl2;rw [sF _ e (by simp only [aq]; omega)];exact ac (by simp only [List.append_assoc])
theorem oj {v:aa}(h:VV v)(hn:bX v<=100000):Ev2 (λ n _=>eM n v) (·=oU v):=by
 have hf:=gd h;simp only [eM];refine av _ (zd _ v (Nat.lt_succ_self _) h [] (by simp only [d4]; omega)) ?_;exact av (oU v,ay.mk (oU v)) (bs (C8 (oU v) O) Z) (ac Z)
def WV (v:aa):Prop:=VV v\/(v.Ar≠5/\aa.Bd v)
theorem WV.bd {v:aa}(h:WV v):aa.Bd v:=by rcases h with h|h; exact h.2; exact h.2
theorem px {v:aa}(h:v.Ar≠5)(q:Az):gU v q=none:=by unfold gU; rw [if_neg h]
theorem WV.get {v x:aa}{q:Az}(h:WV v)(hx:gU v q=some x):VV v:=by
 rcases h with h|h
 ·exact h
 ·rw [px h.1] at hx; cases hx
theorem WV.of {v:aa}(h:WV v)(q:Az):VV (ofP v q):=by
 rcases h with h|h
 ·exact h.of q
 ·unfold ofP; rw [px h.1]; exact yi
theorem xd {v:aa}(h:WV v)(q:Az):Ev2 (λ n _=>gf n v q) (·=isN (gU v q)):=by
 rcases h with h|h
 ·exact uB h q
 ·have hk:=h.2.bKeys;unfold bf at hk;rw [px h.1];simp only [gf];exact aI _ (qX v.A' q O) (λ r _=>av true (aM h.1 (ac Z)) (aO Z (ac Z)))
theorem yc {v:aa}(h:WV v)(q:Az):Ev2 (λ n _=>j5 n v q) (·=ofP v q):=by
 simp only [j5];refine av _ (xd h q) (ac ?_);unfold ofP
 cases gU v q with
 | some x=>simp only [isN,ro]; exact aa.eta x
 | none=>rfl
theorem uH {s:au}(hs:mw s){v:aa}(h:WV v):Ev2 (λ n _=>fR n s v) (·=fZ s v):=by
 rcases h with h|h
 ·exact B5 hs h
 ·simp only [fR];unfold fZ;exact av _ (rh _ v (Nat.lt_succ_self _) h.2) (aM h.1 (ac (by rw [if_neg h.1])))
theorem WV.mask {v:aa}(h:WV v)(s:au):WV (fZ s v):=by
 rcases h with h|h
 ·exact .inl (h.mask s)
 ·refine .inr ?_;unfold fZ;rw [if_neg h.1];exact h
def u7 (v:aa):Prop:=WV v/\∀ q,bX (ofP v q)<=60
theorem jY {v:aa}(h:WV v)(hn:v.Ar=5->bX v<=60)(s:au):u7 (fZ s v):=by
 refine ⟨h.mask s,λ q=>?_⟩;unfold ofP
 cases hx:gU (fZ s v) q with
 | none=>exact by decide
 | some x=>
  have h5:(fZ s v).Ar=5:=by
   unfold gU at hx;split at hx
   ·assumption
   ·cases hx
  have h6:v.Ar=5:=by
   rcases Decidable.em (v.Ar=5) with e|e
   ·exact e
   ·unfold fZ at h5; rw [if_neg e] at h5; exact h5
  have:=yY hx;have:=w5 s v;have:=hn h6;simp only [ro];omega
theorem wi {s:au}{T:ag}(hT:Ev2 (λ n _=>fU n s) (·=T))(hn:T.Df.length<=1000){a b:aa}(ha:WV a)(hb:WV b):Ev2 (λ n _=>ig n s a b) (·=eZ T.Df a b):=by
 simp only [ig,kJ];refine av T.Df (av _ hT (ac rfl)) ?_;refine av (eZ T.Df a b) (bw (f:=λ n m=>cS n a b T.Df m [] 0) ?_) (ac rfl);refine dz (λ n m i (l:List Az)=>cS n a b T.Df m l i) T.Df.length (λ i l=>l=eZ (T.Df.take i) a b) (λ i l hi hl k=>?_) (λ l hl=>?_) [] rfl
 ·subst hl
  have E9:(eZ (T.Df.take i) a b).length<=1000:=by
   have:=List.length_filter_le (λ q=>mt (ofP a q) (ofP b q)) (T.Df.take i);rw [List.length_take] at this;unfold eZ; omega
  simp only [cS];refine aO O ?_;refine av (eZ (T.Df.take (i+1)) a b) ?_ (am (aN O O) (k _ rfl));refine am O (av _ (yc ha _) (av _ (yc hb _) (av _ (zo (ha.of _).2 (hb.of _).2) ?_)));rw [hH _ hi];unfold eZ at E9 ⊢;rw [List.filter_append];refine al (λ h=>am (by rw [List.length_singleton]; omega) (ac ?_)) (λ h=>ac ?_)
  ·simp only [List.filter_cons,h,if_true,List.filter_nil]
  ·simp only [List.filter_cons,h,if_false,List.filter_nil,List.append_nil,Bool.false_eq_true]
 ·subst hl;simp only [cS];exact aM O (ac (by rw [List.take_length]))
def rE (q:Az)(v:aa):Az:=(([32,32,32,32]++q)++[32,61,32])++oU v
def f0 (names:List Az)(m:aa):List Az:=(names.filter λ q=>seen (gU m q)).map λ q=>rE q (ofP m q)
theorem mkV (x:aa):aa.mk x.Ar x.BY x.B' x.AI x.A'=x:=aa.eta x
theorem Ac (v:aa)(q:Az):(isN (gU v q)).1=ofP v q:=by unfold ofP; cases gU v q <;> rfl
theorem yB {s:au}(hs:mw s){T:ag}(hT:Ev2 (λ n _=>fU n s) (·=T))(hn:T.Df.length<=20)(hq:∀ x∈T.Df,x.length<=100){v:aa}(h:WV v)(hv:v.Ar=5->bX v<=60) :
  Ev2 (λ n _=>gj n s v) (·=f0 T.Df (fZ s v)):=by
 simp only [gj];have hm:=jY h hv s;refine av _ (uH hs h) (av _ hT ?_);generalize fZ s v=m at hm;refine av (f0 T.Df m) (bw (f:=λ n k=>cU n m T k [] 0) ?_) (ac rfl);refine dz (λ n k i (l:List Az)=>cU n m T k l i) T.Df.length (λ i l=>l=f0 (T.Df.take i) m) (λ i l hi hl k=>?_) (λ l hl=>?_) [] rfl
 ·subst hl
  have E9:(f0 (T.Df.take i) m).length<=20:=by
   have:=List.length_filter_le (λ q=>seen (gU m q)) (T.Df.take i);rw [List.length_take] at this;unfold f0; rw [cl]; omega
  have hq1:=hq _ (Go.Ab.cm (l:=T.Df) (i:=(i:Int)) O);simp only [cU];refine aO O ?_;refine av (f0 (T.Df.take (i+1)) m) ?_ (am (aN O O) (k _ Z))
  have e1:f0 (T.Df.take (i+1)) m=f0 (T.Df.take i) m++f0 [lat T.Df (i:Int)] m:=by
   rw [hH _ hi]; unfold f0; rw [List.filter_append,List.map_append]
  rw [e1];generalize lat T.Df (i:Int)=q at hq1;have hf:=oj (hm.1.of q) (Nat.le_trans (hm.2 q) (by decide));have hfl:=gd (hm.1.of q);have hnn:=hm.2 q;refine am O (av _ (xd hm.1 q) ?_);refine av (seen (gU m q)) ?_ (al (λ hh=>?_) (λ hh=>ac ?_))
  ·cases e:gU m q with
   | none=>exact aM (by simp [isN]) (ac Z)
   | some x=>exact aO Z (ac Z)
  ·rw [mkV,Ac];refine am (by simp only [bt,d4]; omega) (am (by simp only [aq,bt,d4]; omega) (av _ hf (am (by simp only [aq,bt,d4]; omega) (am (by simp only [List.length_singleton]; omega) (ac ?_)))));unfold f0 rE;simp only [List.filter_cons,hh,if_true,List.filter_nil,n6,ph]
  ·unfold f0;simp only [List.filter_cons,hh,if_false,List.filter_nil,ph,List.append_nil,Bool.false_eq_true]
 ·subst hl;simp only [cU];exact aM O (ac (by rw [List.take_length]))
def kC (repl:List Az)(a b:aa)(q:Az):Az:=(rE q (ofP a q)++[32,45,62,32])++oU (ofP b q)++(if q∈repl then [32,40,110,101,119,32,111,98,106,101,99,116,41] else [])
theorem uU (l:List Az)(hl:l.length<=1000000)(q:Az):Ev2 (λ n _=>cI n l q) (·=decide (q∈l)):=by
 simp only [cI,ei];refine aI (λ r=>decide (0<=r)=decide (q∈l)) ?_ (λ r hr=>ac hr);refine jw (bw (f:=λ _ m=>bF l q m 0) ?_);refine dz (λ _ m i (_:Unit)=>bF l q m i) l.length (λ i _=>q ∉ l.take i) (λ i _ hi hI k=>?_) (λ _ hI=>?_) () G
 ·simp only [bF];refine aO O (am O (al (λ h=>ac ?_) (λ h=>am (aN O O) (k () ?_))))
  ·have:q∈l:=h ▸ Go.Ab.cm O;simp [this]
  ·rw [hH _ hi];intro hm;rcases List.mem_append.1 hm with hm|hm
   ·exact hI hm
   ·exact h (List.mem_singleton.1 hm)
 ·simp only [bF];refine aM O (ac (ac ?_));rw [List.take_length] at hI;simp [hI]
theorem vN {m:aa}(hm:u7 m)(q:Az):Ev2 (λ n _=>gS n m q) (·=oU (ofP m q)):=by
 simp only [gS];refine av _ (xd hm.1 q) ?_;rw [mkV,Ac];exact av _ (oj (hm.1.of q) (Nat.le_trans (hm.2 q) (by decide))) (ac rfl)
theorem nv {s:au}(hs:mw s){T:ag}(hT:Ev2 (λ n _=>fU n s) (·=T))(hn:T.Df.length<=20)(hq:∀ x∈T.Df,x.length<=100){a b:aa}(ha:WV a)(ha5:a.Ar=5->bX a<=60)(hb:WV b)(hb5:b.Ar=5->bX b<=60)(repl:List Az)(hr:repl.length<=1000000) :
  Ev2 (λ n _=>dv n s a b repl) (·=(eZ T.Df a b).map (kC repl (fZ s a) (fZ s b))):=by
 simp only [dv];have hma:=jY ha ha5 s;have hmb:=jY hb hb5 s;refine av _ (uH hs ha) (av _ (uH hs hb) (av _ (wi hT O ha hb) ?_));have hcl:(eZ T.Df a b).length<=20:=Nat.le_trans (List.length_filter_le _ _) hn;have hcq:∀ x∈eZ T.Df a b,x.length<=100:=λ x hx=>hq x (List.mem_filter.1 hx).1;generalize eZ T.Df a b=ch at hcl hcq;generalize fZ s a=p at hma;generalize fZ s b=r at hmb;refine av (ch.map (kC repl p r)) (bw (f:=λ n k=>ce n repl p r ch k [] 0) ?_) (ac rfl);refine dz (λ n k i (l:List Az)=>ce n repl p r ch k l i) ch.length (λ i l=>l=(ch.take i).map (kC repl p r)) (λ i l hi hl k=>?_) (λ l hl=>?_) [] rfl
 ·subst hl;have hq1:=hcq _ (Go.Ab.cm (l:=ch) (i:=(i:Int)) O);simp only [ce]
  have e1:(ch.take (i+1)).map (kC repl p r)=(ch.take i).map (kC repl p r)++[kC repl p r (lat ch (i:Int))]:=by
   rw [hH _ hi,List.map_append]; rfl
  have k1:=k _ e1.symm;have hl2:((ch.take i).map (kC repl p r)).length<=20:=by rw [cl,List.length_take]; omega
  generalize (ch.take i).map (kC repl p r)=out at k1 hl2;generalize lat ch (i:Int)=q at hq1 k1;have f1:=gd (hma.1.of q);have f2:=gd (hmb.1.of q);have n1:=hma.2 q;have n2:=hmb.2 q;refine aO O (am O (am (by simp only [bt,d4]; omega) (am (by simp only [aq,bt,d4]; omega) (av _ (vN hma q) ?_))));refine am (by simp only [aq,bt,d4]; omega) (am (by simp only [aq,bt,d4]; omega) (av _ (vN hmb q) (am (by simp only [aq,bt,d4]; omega) ?_)));refine av (kC repl p r q) (av _ (uU repl hr q) (al (λ hh=>am (by simp only [aq,bt,d4]; omega) (ac ?_)) (λ hh=>ac ?_))) (am (by simp only [List.length_singleton]; omega) (am (aN O O) k1))
  ·unfold kC rE;rw [if_pos (of_decide_eq_true hh)]
  ·unfold kC rE;rw [if_neg (λ z=>hh (decide_eq_true z)),List.append_nil]
 ·subst hl;simp only [ce];exact aM O (ac (by rw [List.take_length]))
theorem wM (r:Int):∃ x,gi r=some x/\x.length<=100:=by
 have key:∀ {c:Prop} [Decidable c] {a:Az} {o:Option Az},a.length<=100->(∃ x,o=some x/\x.length<=100)->∃ x,(if c then some a else o)=some x/\x.length<=100:=by
  intro c _ a o ha h;by_cases k:c
  ·exact ⟨a,if_pos k,ha⟩
  ·rw [if_neg k]; exact h
 unfold gi
 iterate 11 refine key (by decide) ?_
 exact ⟨_,Z,by decide⟩
def oX (c:ax)(sg pl rs:Az):Az:=if c.ER=true then ((((sg++[32])++pl)++[58,32])++rs)++[44,32,105,109,112,111,114,116,101,100] else (((sg++[32])++pl)++[58,32])++rs
def chT (c:ax)(sg pl rs:Az)(rv rd:List Az):List Az:=if sg=[] then [] else if c.Ew=1\/c.Ew=5 then [oX c sg pl rs]++rv else if c.Ew=2\/c.Ew=3 then [oX c sg pl rs]++rd else [oX c sg pl rs]
theorem Cm {c:ax}{sg pl rs:Az}{rv rd:List Az}(lv:rv.length<=1000)(ld:rd.length<=1000):(chT c sg pl rs rv rd).length<=2000:=by
 unfold chT
 repeat' split
 all_goals simp only [aq,bt,d4]; omega
structure AC (c:ax)(sg pl rs:Az):Prop where
 s:fS c=some sg
 sl:sg.length<=100
 p:eP c.Er c.Ex=some pl
 pl:pl.length<=1000
 r:gi c.EK=some rs
 rl:rs.length<=100
theorem zH {c:ax}(ha:c.Er.length<=300)(hd:c.Ex.length<=300):∃ sg pl rs,AC c sg pl rs:=by
 obtain ⟨sg,hsg,E6⟩:∃ x,fS c=some x/\x.length<=100:=by
  unfold fS
  repeat' (first|exact ⟨_,Z,by decide⟩|split)
 obtain ⟨pl,hpl,hpll⟩:∃ x,eP c.Er c.Ex=some x/\x.length<=1000:=by
  unfold eP;split
  ·exact ⟨_,Z,by omega⟩
  ·rw [bY (by simp only [bt,d4]; omega),bY (by simp only [aq,bt,d4]; omega),bY (by simp only [aq,bt,d4]; omega)];exact ⟨_,rfl,by simp only [aq,bt,d4]; omega⟩
 obtain ⟨rs,hrs,hrl⟩:=wM c.EK;exact ⟨sg,pl,rs,hsg,E6,hpl,hpll,hrs,hrl⟩
theorem yM {c:ax}{s:au}{sg pl rs:Az}(hp:AC c sg pl rs){d:ax}(e1:d.Er=c.Er)(e2:d.Ex=c.Ex)(e3:d.Ew=c.Ew)(e4:d.EK=c.EK)(e5:d.EQ=c.EQ)(e6:d.ER=c.ER){rv rd:List Az}(lv:rv.length<=1000)(ld:rd.length<=1000)
  (hv:Ev2 (λ n _=>gj n s d.Ej) (·=rv)) (hdd:Ev2 (λ n _=>dv n s d.Ek d.Ej d.Es) (·=rd)):Ev2 (λ n _=>eW n d s) (·=chT c sg pl rs rv rd):=by
 obtain ⟨hsg,E6,hpl,hpll,hrs,hrl⟩:=hp;simp only [eW];have hsg':fS d=some sg:=by rw [<- hsg]; unfold fS; rw [e3,e5]
 unfold chT;refine av sg (bs hsg' Z) (al (λ h=>ac (by rw [if_pos h])) (λ h=>?_));simp only [if_neg h];rw [e1,e2,e3,e4,e6];refine am (by simp only [bt,d4]; omega) (av pl (bs hpl Z) ?_);refine am (by simp only [aq,bt,d4]; omega) (am (by simp only [aq,bt,d4]; omega) (av rs (bs hrs Z) (am (by simp only [aq,bt,d4]; omega) ?_)));refine av (oX c sg pl rs) (al (λ h2=>am (by simp only [aq,bt,d4]; omega) (ac ?_)) (λ h2=>ac ?_)) ?_
 ·unfold oX;rw [if_pos h2]
 ·unfold oX;rw [if_neg h2]
 generalize oX c sg pl rs=hd0;refine av (decide (c.Ew=1\/c.Ew=5)) (al (λ a=>ac (by simp [a])) (λ a=>ac (by simp [a]))) (al (λ a=>?_) (λ a=>?_))
 ·rw [if_pos (of_decide_eq_true a)];exact av _ hv (am (by rw [List.length_singleton]; omega) (ac rfl))
 ·rw [if_neg (λ z=>a (decide_eq_true z))];refine av (decide (c.Ew=2\/c.Ew=3)) (al (λ a=>ac (by simp [a])) (λ a=>ac (by simp [a]))) (al (λ a=>?_) (λ a=>?_))
  ·rw [if_pos (of_decide_eq_true a)];exact av _ hdd (am (by rw [List.length_singleton]; omega) (ac rfl))
  ·rw [if_neg (λ z=>a (decide_eq_true z))];exact ac rfl
theorem oG {v:aa}{Q:Prop}(hb:aa.Bd v)(hQ:Ev2 (λ n _=>fc n v) (λ r=>r=0->GV v/\Q)):Ev2 (λ n _=>fO n v) (λ r=>r=true->VV v/\bX v<=60/\Q):=by
 simp only [fO]
 have key:Ev2 (λ n _=>(fP n v 60).bind λ r2=>if r2=true then (fc n v).bind λ r5=>some (decide (r5=0)) else some false) (λ r=>r=true->VV v/\bX v<=60/\Q) :=
  aI _ (sw hb 60 (by decide) (by decide)) (λ r hr=>al (λ h=>aI _ hQ (λ q hq=>ac (λ z=>⟨⟨(hq (of_decide_eq_true z)).1,hb⟩,by have:=hr h; omega,(hq (of_decide_eq_true z)).2⟩))) (λ _=>ac (λ z=>by cases z)))
 refine aI (λ r=>r=true->VV v/\bX v<=60/\Q) (al (λ _=>key) (λ _=>al (λ _=>key) (λ _=>ac (λ z=>by cases z)))) (λ r hr=>ac hr)
structure OkC (c:ax):Prop where
 a:c.Er.length<=300
 d:c.Ex.length<=300
 r:c.Es.length<=20
 b:WV c.Ek
 bn:c.Ek.Ar=5->bX c.Ek<=60
 f:WV c.Ej
 fn:c.Ej.Ar=5->bX c.Ej<=60
theorem vM {c:ax}{Q:aa->Prop}(hb:ax.Bd c)(hQ:∀ v,aa.Bd v->Ev2 (λ n _=>fc n v) (λ r=>r=0->GV v/\Q v)):Ev2 (λ n _=>iy n c) (λ r=>r=true->OkC c/\Q c.Ek/\(c.Ej.Ar≠5\/Q c.Ej)):=by
 simp only [iy];refine aI (λ r=>r=false->c.Er.length<=300/\c.Ex.length<=300/\c.Es.length<=20) (al (λ _=>ac (λ z=>by cases z)) (λ h1=>al (λ _=>ac (λ z=>by cases z)) (λ h2=>ac (λ z=>by have:=of_decide_eq_false z; omega)))) (λ r hr=>al (λ _=>ac (λ z=>by cases z)) (λ h=>?_));obtain ⟨a1,a2,a3⟩:=hr (by simpa using h);refine aI (λ r=>r=true->OkC c/\Q c.Ek/\(c.Ej.Ar≠5\/Q c.Ej)) ?_ (λ r hr=>ac hr);refine aI _ (oG hb.bBefore (hQ _ hb.bBefore)) (λ r1 h1=>al (λ z1=>?_) (λ _=>ac (λ z=>by cases z)));refine aI _ (oG hb.bAfter (hQ _ hb.bAfter)) (λ r2 h2=>al (λ z2=>ac (λ _=>?_)) (λ _=>ac (λ z=>?_)))
 ·exact ⟨⟨a1,a2,a3,.inl (h1 z1).1,λ _=>(h1 z1).2.1,.inl (h2 z2).1,λ _=>(h2 z2).2.1⟩,(h1 z1).2.2,.inr (h2 z2).2.2⟩
 ·have z:=of_decide_eq_true z;exact ⟨⟨a1,a2,a3,.inl (h1 z1).1,λ _=>(h1 z1).2.1,.inr ⟨by omega,hb.bAfter⟩,λ q=>by omega⟩,(h1 z1).2.2,.inl O⟩
theorem wO {c:ax}(hb:ax.Bd c):Ev2 (λ n _=>iy n c) (λ r=>r=true->OkC c) :=
 fe (vM (Q:=λ _=>True) hb (λ _v h=>fe (nR h) (λ _ q z=>⟨q z,trivial⟩))) (λ _ h z=>(h z).1)
end Go.Ab.R06
end
