/- Texts of the proof, one behind the other. No statement is proved here. -/
import Derived.Lib.AppendZerosOnto
import Derived.Lib.Overlaps
import Derived.Laws.CopyRow
import Derived.Lib.UnsafeStr
import Derived.Lib.Builder
import Derived.WalkKit
import Derived.Lib.AppendZeros
import Derived.Laws.Externs
import Derived.Shelf.Spec.SlicesInsert
import Derived.Shelf.RegionOpenPlain
import Derived.Test.YthnafgjbhlpfgaaGreatDoorZ08Sa
import Derived.Test.YthnafgjbhlpfgaaGreatDoorZ08Sb
import Derived.Test.YthnafgjbhlpfgaaGreatDoorZ08Sc
set_option maxHeartbeats 4000000
section
namespace Go.Ab.R06
open Go.Proofs Go.Ab Go.Ab.RB
attribute [local irreducible] awp ea aO au bs AV.sub M bY
def eR (CI:List ac):Nat->Int->Option (Unit⊕Int)|0,_=>none|m+1,t21=>if t21<(CI.length:Int) then ck ((0:Int)<=t21/\t21<(CI.length:Int))<|(if ((lat CI t21).Cu)=true then if (lat CI t21).BY=([]:Bk) then if (!((lat CI t21).Cu))=true then if (lat CI t21).A'=0 then(d7 ((lat CI t21).BY)).bind λ Fw=>some (!Fw)else some true else some false else some true else if (!((lat CI t21).Cu))=true then if (lat CI t21).A'=0 then(d7 ((lat CI t21).BY)).bind λ Eh=>some (!Eh)else some true else some false : Option Bool).bind λ F7=>if F7=true then some (.inr 1)else(if (lat CI t21).A'<0 then some true else some (decide (9007199254740992<(lat CI t21).A')) : Option Bool).bind λ t37=>if t37=true then some (.inr 5)else ck (inR (t21+1))<|eR CI m (t21+1)else some (.inl ())
def pC (n:Nat)(CI:List ac):Option Int :=if 32<(CI.length:Int) then some 4 else jn (eR CI n 0) λ Du=>some 0
def dP (CB:Bk):Nat->Int->Option (Unit⊕Bool)|0,_=>none|m+1,Dx=>if Dx<(CB.length:Int) then ck ((0:Int)<=Dx/\Dx<(CB.length:Int))<|(ck ((0:Int)<=Dx/\Dx<(CB.length:Int))<|if byt CB Dx=95 then some false else if iOr .u8 (byt CB Dx) 32<97 then if Dx=0 then some true else ck ((0:Int)<=Dx/\Dx<(CB.length:Int))<|if byt CB Dx<48 then some true else ck ((0:Int)<=Dx/\Dx<(CB.length:Int))<|some (decide (57<byt CB Dx))else if 122<iOr .u8 (byt CB Dx) 32 then if Dx=0 then some true else ck ((0:Int)<=Dx/\Dx<(CB.length:Int))<|if byt CB Dx<48 then some true else ck ((0:Int)<=Dx/\Dx<(CB.length:Int))<|some (decide (57<byt CB Dx))else some false : Option Bool).bind λ F7=>if F7=true then some (.inr false)else ck (inR (Dx+1))<|dP CB m (Dx+1)else some (.inl ())
def fZ (n:Nat)(CB:Bk):Option Bool :=jn (dP CB n 0) λ E7=>(if CB=([]:Bk) then some false else some (decide ((CB.length:Int)<=64)) : Option Bool).bind λ F6=>some F6
theorem i6 (n:Nat)(CB:Bk)(r:Bool)(h0:fZ n CB=some r):au Tryz.prog 51 [eS CB] (·=.p (eB r)):=by
 unfold fZ at h0;refine aZ good Tryz.func51 Z Z Z λ w0=>mP (λ v:Bool=>.p (eB v)) ?_;refine nx 8 rfl (oLs rfl ?_);refine nx 3 rfl ?_;obtain ⟨FF,h1,C9,hR0⟩:=dl h0;refine kEx 0 (λ F1:Unit=>FF=.inl F1) (λ F1=>⟨[(0,.p (eS CB))],[]⟩) (λ F1 hv=>?_) ?_
 ·have h0:=C9 _ hv;refine nx 2 Z (bd h0 λ Gg h1 h0=>?_);refine kN Gg (λ v46=>⟨[(2,.p (eB v46))],[]⟩) ?_ ?_
  ·exact nx 2 Z (mQ (oi h0) Z (sr))
  refine nx 2 Z (oS Z Z ?_);refine nx 1 Z (fN [44,45] h1 Z (λ c38 h1=>?_) λ c38 h1=>?_)
  ·exact nx 6 Z (eX _ (oi h1).symm (gE Z Z))
  refine nx 1 Z (oLs Z ?_);exact nx 4 Z (eX _ (oi h1).symm (gE Z Z))
 refine lG (λ (EE:Int)=>⟨[(0,.p (eS CB)),(6,.p (eI (CB.length:Int))),(7,.p (eI EE))],[]⟩) (λ m (EE:Int)=>dP CB m EE) Y 0 h1 (gE rfl rfl) ?_;rintro m Dx h1;replace h1:dP CB (m+1) Dx=some FF:=h1;rw [dP] at h1;refine nx 5 rfl (fD [8] h1 rfl (λ c20 h1=>?_) λ c20 h1=>?_)
 ·refine nx 13 Z (oI h1 Z λ Eq h1=>?_);refine nx 4 Z (bd h1 λ Hc h2 h1=>?_);refine kN Hc (λ v49=>⟨[(0,.p (eS CB)),(6,.p (eI (CB.length:Int))),(7,.p (eI Dx)),(41,.p (eB v49))],[]⟩) ?_ ?_
  ·refine nx 1 Z (fB [41] h1 Z (λ c35 h1=>?_) λ c35 h1=>?_)
   ·exact nx 6 Z (mQ (hR0 _ (oi h1).symm) Z (sr))
   refine nx 3 Z (oA h1 Z Z λ Gt h1=>?_);exact nx 2 Z (eX (Dx+1) h1 (gE Z Z))
  refine nx 3 Z (oI h2 Z λ Gv h2=>?_);refine nx 2 Z (fN [17,18] h2 Z (λ FN h2=>?_) λ FN h2=>?_)
  ·exact nx 24 Z (eX _ (oi h2).symm (gE Z Z))
  refine nx 3 Z (fD [20,21] h2 Z (λ Ew h2=>?_) λ Ew h2=>?_)
  ·refine nx 8 Z (fD [28,29] h2 Z (λ EM h2=>?_) λ EM h2=>?_)
   ·exact nx 13 Z (eX _ (oi h2).symm (gE Z Z))
   refine nx 2 Z (oI h2 Z λ Ep h2=>?_);refine nx 3 Z (fD [33,34,35] h2 Z (λ Ft h2=>?_) λ Ft h2=>?_)
   ·exact nx 7 Z (eX _ (oi h2).symm (gE Z Z))
   refine nx 2 Z (oI h2 Z λ hk28 h2=>?_);exact nx 4 Z (eX _ (oi h2).symm (gE Z Z))
  refine nx 5 Z (fD [23,24,25,26] h2 Z (λ Fs h2=>?_) λ Fs h2=>?_)
  ·refine nx 3 Z (fD [28,29] h2 Z (λ EL h2=>?_) λ EL h2=>?_)
   ·exact nx 13 Z (eX _ (oi h2).symm (gE Z Z))
   refine nx 2 Z (oI h2 Z λ FJ h2=>?_);refine nx 3 Z (fD [33,34,35] h2 Z (λ c32 h2=>?_) λ c32 h2=>?_)
   ·exact nx 7 Z (eX _ (oi h2).symm (gE Z Z))
   refine nx 2 Z (oI h2 Z λ EH h2=>?_);exact nx 4 Z (eX _ (oi h2).symm (gE Z Z))
  exact nx 16 Z (eX _ (oi h2).symm (gE Z Z))
 exact nx 2 Z (eXi _ (oi h1).symm (gE Z Z))
def fw (n:Nat)(CI:List ac):Nat->Int->(List UInt8)->Option (List UInt8)|0,_,_=>none|m+1,CZ,D4=>if CZ<(CI.length:Int) then ck ((0:Int)<=CZ/\CZ<(CI.length:Int))<|(if ((lat CI CZ).Cu)=true then(jF ((lat CI CZ).A')).bind λ Ey=>ck (([91]:Bk).length+Ey.length<=9223372036854775807)<|ck ((([91]:Bk)++Ey).length+([93]:Bk).length<=9223372036854775807)<|(aX (aC.mk D4) ((([91]:Bk)++Ey)++([93]:Bk))).bind λ Ea=>some Ea.2.2.Cs else(fZ n ((lat CI CZ).BY)).bind λ r40=>if (!r40)=true then(ka n ((lat CI CZ).BY)).bind λ D'=>ck (([91]:Bk).length+D'.length<=9223372036854775807)<|ck ((([91]:Bk)++D').length+([93]:Bk).length<=9223372036854775807)<|(aX (aC.mk D4) ((([91]:Bk)++D')++([93]:Bk))).bind λ r47=>some r47.2.2.Cs else if 0<CZ then ck (([46]:Bk).length+((lat CI CZ).BY).length<=9223372036854775807)<|(aX (aC.mk D4) (([46]:Bk)++((lat CI CZ).BY))).bind λ GT=>some GT.2.2.Cs else(aX (aC.mk D4) ((lat CI CZ).BY)).bind λ GJ=>some GJ.2.2.Cs : Option (List UInt8)).bind λ f55=>ck (inR (CZ+1))<|fw n CI m (CZ+1) f55 else some D4
def jp (n:Nat)(CI:List ac):Option Bk :=(fw n CI n 0 []).bind λ Dc=>(dz (aC.mk Dc)).bind λ r60=>some r60.1
theorem kC (n:Nat)(CI:List ac)(r:Bk)(h0:jp n CI=some r):au Tryz.prog 24 [eL ag CI] (·=.p (eS r)):=by
 unfold jp at h0;refine aZ good Tryz.func24 Z Z Z λ w0=>mP (λ v:Bk=>.p (eS v)) ?_;refine nx 6 Z (mO Z (mR Z Z Z Z Z Z Z ?_));refine nx 5 Z (oLl (f:=ag) Z Z ?_);refine nx 3 Z (bd h0 λ Ha h1 h0=>?_);refine kE 0 Ha (λ v65=>⟨[(3,.ptr 3 0)],[(3,[.bptr 65 2 3,.vec 104000 1 (5+1) (v65.map eU)])]⟩) ?_ ?_
 ·refine nx 3 Z (bd h0 λ r60 e61 h0=>?_);refine mO Z (br [3] [104000] 109000 109000 (dV (aC.mk Ha) _ e61) Z Z Z Z Z ⟨sr,trivial⟩ Z Z ⟨⟨_,Z,⟨sr,sr,trivial⟩⟩,trivial⟩ Z Z Z Z Z Z Z Z Tryz.call53 Z Z ?_);exact nx 3 Z (mQ (oi h0) Z (sr))
 refine lG (λ (G0:Int×(List UInt8))=>⟨[(3,.ptr 3 0),(6,.p (eL ag CI)),(7,.p (eI (CI.length:Int))),(8,.p (eI G0.1))],[(3,[.bptr 65 2 3,.vec 104000 1 (5+1) (G0.2.map eU)])]⟩) (λ m (G0:Int×(List UInt8))=>fw n CI m G0.1 G0.2) Y (0,[]) h1 (bS (fS ⟨er rfl,er rfl,er rfl,er rfl,trivial⟩ ⟨⟨_,rfl,⟨sr,AV.sub_nilvec _ _ _,trivial⟩⟩,trivial⟩)) ?_;rintro m ⟨CZ,D4⟩ h1;replace h1:fw n CI (m+1) CZ D4=some Ha:=h1;rw [fw] at h1;refine nx 5 rfl (fD [9] h1 rfl (λ Eu h1=>?_) λ Eu h1=>?_)
 ·refine nx 7 Z (oE h1 ac.B' Z Z Y λ Gu h1=>?_);refine nx 5 Z (bd h1 λ o67 h2 h1=>?_);refine kN o67 (λ v68=>⟨[(3,.ptr 3 0),(6,.p (eL ag CI)),(7,.p (eI (CI.length:Int))),(8,.p (eI CZ))],[(3,[.bptr 65 2 3,.vec 108000 1 (5+1) (v68.map eU)])]⟩) ?_ ?_
  ·refine nx 2 Z (oA h1 Z Z λ hk56 h1=>?_);exact nx 2 Z (eX (CZ+1,o67) h1 (aQ (bp 108000 104000 Z Z Z Z Z) (gE Z Z)))
  refine nx 7 Z (fB [16,18] h2 Z (λ FM h2=>?_) λ FM h2=>?_)
  ·refine nx 4 Z (bd h2 λ Ey Gw h2=>?_);refine oK (mX ((lat CI CZ).A') _ Gw) Z ⟨sr,trivial⟩ Tryz.call50 Z (oC h2 Z λ Gt h2=>?_);refine oC h2 Z λ En h2=>bd h2 λ Ea Hw h2=>mO Z (br [3] [104000] 105000 105001 (bi (aC.mk D4) ((([91]:Bk)++Ey)++([93]:Bk)) _ Hw) Z Z Z Z Z ⟨sr,sr,trivial⟩ Z Z ⟨⟨_,Z,⟨sr,sr,trivial⟩⟩,trivial⟩ Z Z Z Z Z Z Z Z Tryz.call49 Z Z ?_);exact nx 1 Z (eX _ (oi h2).symm (aQ (bp 105000 108000 Z Z Z Z Z) (gE Z Z)))
  refine nx 5 Z (bd h2 λ r40 e41 h2=>?_);refine oK (i6 _ ((lat CI CZ).BY) _ e41) Z ⟨sr,trivial⟩ Tryz.call51 Z (nx 3 Z ?_);refine fB [25,29] h2 Z (λ c42 h2=>?_) λ c42 h2=>?_
  ·refine nx 4 Z (bd h2 λ D' Hv h2=>?_);refine oK (ol _ ((lat CI CZ).BY) _ Hv) Z ⟨sr,trivial⟩ Tryz.call52 Z (oC h2 Z λ Gr h2=>?_);refine oC h2 Z λ Gq h2=>bd h2 λ r47 e48 h2=>mO Z (br [3] [104000] 106000 106001 (bi (aC.mk D4) ((([91]:Bk)++D')++([93]:Bk)) _ e48) Z Z Z Z Z ⟨sr,sr,trivial⟩ Z Z ⟨⟨_,Z,⟨sr,sr,trivial⟩⟩,trivial⟩ Z Z Z Z Z Z Z Z Tryz.call49 Z Z ?_);exact nx 1 Z (eX _ (oi h2).symm (aQ (bp 106000 108000 Z Z Z Z Z) (gE Z Z)))
  refine nx 7 Z (fD [36,38] h2 Z (λ c49 h2=>?_) λ c49 h2=>?_)
  ·refine nx 4 Z (oC h2 Z λ hk50 h2=>?_);refine bd h2 λ GT e52 h2=>mO Z (br [3] [104000] 107000 107001 (bi (aC.mk D4) (([46]:Bk)++((lat CI CZ).BY)) _ e52) Z Z Z Z Z ⟨sr,sr,trivial⟩ Z Z ⟨⟨_,Z,⟨sr,sr,trivial⟩⟩,trivial⟩ Z Z Z Z Z Z Z Z Tryz.call49 Z Z ?_);exact nx 1 Z (eX _ (oi h2).symm (aQ (bp 107000 108000 Z Z Z Z Z) (gE Z Z)))
  refine nx 4 Z (bd h2 λ GJ e54 h2=>?_);refine mO Z (br [3] [104000] 108000 108001 (bi (aC.mk D4) ((lat CI CZ).BY) _ e54) Z Z Z Z Z ⟨sr,sr,trivial⟩ Z Z ⟨⟨_,Z,⟨sr,sr,trivial⟩⟩,trivial⟩ Z Z Z Z Z Z Z Z Tryz.call49 Z Z ?_);exact nx 1 Z (eX _ (oi h2).symm (gE Z Z))
 exact nx 2 Z (eXi _ (oi h1).symm (gE Z Z))
def eO (CB:Bk):Nat->Int->Option Int|0,_=>none|m+1,n18=>(if n18<(CB.length:Int) then ck ((0:Int)<=n18/\n18<(CB.length:Int))<|if 48<=byt CB n18 then ck ((0:Int)<=n18/\n18<(CB.length:Int))<|some (decide (byt CB n18<=57))else some false else some false : Option Bool).bind λ t23=>if t23=true then ck (inR (n18+1))<|eO CB m (n18+1)else some n18
def j7 (n:Nat)(CB:Bk):Option (ac×Int×Int) :=jn (ck ((0:Int)<=1/\1<=(CB.length:Int)/\(CB.length:Int)<=(CB.length:Int))<|(strings_HasPrefix (sub CB 1 (CB.length:Int)) ([34]:Bk)).bind λ r2=>if r2=true then ck ((0:Int)<=1/\1<=(CB.length:Int)/\(CB.length:Int)<=(CB.length:Int))<|(ji n (sub CB 1 (CB.length:Int))).bind λ r6=>if r6.2.2=0 then ck (inR (1+r6.2.1))<|some (.inl (1+r6.2.1,false,0,r6.1))else some (.inr ((ac.mk false 0 ([]:Bk)),0,r6.2.2))else(eO CB n 1).bind λ n27=>ck ((0:Int)<=1/\1<=n27/\n27<=(CB.length:Int))<|(jX n (sub CB 1 n27)).bind λ Gc=>if Gc.2=0 then some (.inl (n27,true,Gc.1,([]:Bk)))else some (.inr ((ac.mk false 0 ([]:Bk)),0,Gc.2)) : Option ((Int×Bool×Int×Bk)⊕(ac×Int×Int))) λ Du=>(if Du.1=(CB.length:Int) then some true else ck ((0:Int)<=Du.1/\Du.1<(CB.length:Int))<|some (!decide (byt CB Du.1=93)) : Option Bool).bind λ t38=>if t38=true then some ((ac.mk Du.2.1 Du.2.2.1 Du.2.2.2),0,2)else ck (inR (Du.1+1))<|some ((ac.mk Du.2.1 Du.2.2.1 Du.2.2.2),Du.1+1,0)
theorem om (n:Nat)(CB:Bk)(r:ac×Int×Int)(h0:j7 n CB=some r):au Tryz.prog 65 [eS CB] (·=.tuple [.p (.agg (ac.cs r.1)),.p (eI r.2.1),.p (eI r.2.2)]):=by
 unfold j7 at h0;refine aZ good Tryz.func65 Z Z Z λ w0=>mP (λ v:ac×Int×Int=>.tuple [.p (.agg (ac.cs v.1)),.p (eI v.2.1),.p (eI v.2.2)]) ?_;refine nx 15 rfl ?_;obtain ⟨Gg,h1,C9,hR0⟩:=dl h0;refine kX (λ v46:Int×Bool×Int×Bk=>Gg=.inl v46) (λ v46=>⟨[(0,.p (eS CB)),(2,.ptr 2 0),(5,.ptr 5 0),(6,.p (eI v46.1))],[(2,[.p (eB false),.p (eI 0),.p (eS ([]:Bk))]),(5,[.p (eB v46.2.1),.p (eI v46.2.2.1),.p (eS v46.2.2.2)])]⟩) (λ v46 hv=>?_) ?_
 ·have h0:=C9 _ hv;refine nx 3 Z (bd h0 λ Gf h1 h0=>?_);refine kN Gf (λ F0=>⟨[(2,.ptr 2 0),(5,.ptr 5 0),(6,.p (eI v46.1)),(72,.p (eB F0))],[(2,[.p (eB false),.p (eI 0),.p (eS ([]:Bk))]),(5,[.p (eB v46.2.1),.p (eI v46.2.2.1),.p (eS v46.2.2.2)])]⟩) ?_ ?_
  ·refine nx 1 Z (fB [72] h0 Z (λ c39 h0=>?_) λ c39 h0=>?_)
   ·exact nx 9 Z (mQ (oi h0) Z (ar ⟨sr,sr,sr,trivial⟩))
   refine nx 6 Z (oA h0 Z Z λ Gs h0=>?_);exact nx 5 Z (mQ (oi h0) Z (ar ⟨sr,sr,sr,trivial⟩))
  refine nx 3 Z (oLs Z ?_);refine nx 2 Z (fD [66,67] h1 Z (λ Fq h1=>?_) λ Fq h1=>?_)
  ·exact nx 6 Z (eX _ (oi h1).symm (gE Z Z))
  refine nx 2 Z (oI h1 Z λ En h1=>?_);exact nx 3 Z (eX _ (oi h1).symm (gE Z Z))
 refine nx 3 Z (oP h1 Z Z Z λ EK h1=>?_);refine bd h1 λ r2 e3 h1=>oK (kQ (sub CB 1 (CB.length:Int)) ([34]:Bk) _ e3) Z ⟨sr,sr,trivial⟩ Tryz.call89 Z (nx 1 Z ?_);refine fB [14] h1 Z (λ c4 h1=>?_) λ c4 h1=>?_
 ·refine nx 4 Z (oP h1 Z Z Z λ Hl h1=>?_);refine bd h1 λ r6 e7 h1=>oK (my _ (sub CB 1 (CB.length:Int)) _ e7) Z ⟨sr,trivial⟩ Tryz.call90 Z (nx 14 Z ?_);refine fN [23] h1 Z (λ c8 h1=>?_) λ c8 h1=>?_
  ·refine nx 11 Z (oA h1 Z Z λ hk9 h1=>?_);exact nx 2 Z (eX _ (oi h1).symm (gE Z Z))
  exact nx 10 Z (mQ (hR0 _ (oi h1).symm) Z (ar ⟨sr,sr,sr,trivial⟩))
 refine nx 3 Z (bd h1 λ Hb h2 h1=>?_);refine kE 0 Hb (λ v50=>⟨[(0,.p (eS CB)),(2,.ptr 2 0),(5,.ptr 5 0),(6,.p (eI v50))],[(2,[.p (eB false),.p (eI 0),.p (eS ([]:Bk))]),(5,[.p (eB false),.p (eI 0),.p (eS ([]:Bk))])]⟩) ?_ ?_
 ·refine nx 5 Z (oP h1 Z Z Z λ hk28 h1=>?_);refine bd h1 λ Gc e30 h1=>oK (og _ (sub CB 1 Hb) _ e30) Z ⟨sr,trivial⟩ Tryz.call91 Z (nx 12 Z ?_);refine fN [57] h1 Z (λ Eu h1=>?_) λ Eu h1=>?_
  ·exact nx 9 Z (eX _ (oi h1).symm (gE Z Z))
  exact nx 10 Z (mQ (hR0 _ (oi h1).symm) Z (ar ⟨sr,sr,sr,trivial⟩))
 refine lG (λ (q51:Int)=>⟨[(0,.p (eS CB)),(2,.ptr 2 0),(5,.ptr 5 0),(6,.p (eI q51))],[(2,[.p (eB false),.p (eI 0),.p (eS ([]:Bk))]),(5,[.p (eB false),.p (eI 0),.p (eS ([]:Bk))])]⟩) (λ m (q51:Int)=>eO CB m q51) Y 1 h2 (gE rfl rfl) ?_;rintro m n18 h2;replace h2:eO CB (m+1) n18=some Hb:=h2;rw [eO] at h2;refine nx 2 rfl (bd h2 λ o52 h3 h2=>?_);refine kN o52 (λ v53=>⟨[(0,.p (eS CB)),(2,.ptr 2 0),(5,.ptr 5 0),(6,.p (eI n18)),(46,.p (eB v53))],[(2,[.p (eB false),.p (eI 0),.p (eS ([]:Bk))]),(5,[.p (eB false),.p (eI 0),.p (eS ([]:Bk))])]⟩) ?_ ?_
 ·refine nx 1 Z (fB [46] h2 Z (λ Ew h2=>?_) λ Ew h2=>?_)
  ·refine nx 5 Z (oA h2 Z Z λ Fi h2=>?_);exact nx 2 Z (eX (n18+1) h2 (gE Z Z))
  exact nx 2 Z (eXi _ (oi h2).symm (gE Z Z))
 refine nx 3 Z (oLs Z ?_);refine nx 2 Z (fD [34,35] h3 Z (λ D8 h3=>?_) λ D8 h3=>?_)
 ·refine nx 2 Z (oI h3 Z λ C4 h3=>?_);refine nx 3 Z (fD [39,40,41] h3 Z (λ c21 h3=>?_) λ c21 h3=>?_)
  ·refine nx 2 Z (oI h3 Z λ Gv h3=>?_);exact nx 3 Z (eX _ (oi h3).symm (gE Z Z))
  exact nx 6 Z (eX _ (oi h3).symm (gE Z Z))
 exact nx 12 Z (eX _ (oi h3).symm (gE Z Z))
def mI (n:Nat)(CB:Bk)(first_1:Bool):Option (ac×Int×Int) :=ck ((0:Int)<=0/\0<(CB.length:Int))<|if byt CB 0=91 then(j7 n CB).bind λ r3=>some (r3.1,r3.2.1,r3.2.2)else jn (if (!first_1)=true then ck ((0:Int)<=0/\0<(CB.length:Int))<|if byt CB 0=46 then some (.inl 1)else some (.inr ((ac.mk false 0 ([]:Bk)),0,2))else some (.inl 0) : Option (Int⊕(ac×Int×Int))) λ from8=>ck ((0:Int)<=from8/\from8<=(CB.length:Int)/\(CB.length:Int)<=(CB.length:Int))<|(strings_IndexAny (sub CB from8 (CB.length:Int)) ([46,91]:Bk)).bind λ CG=>(if CG<0 then ck (inR ((CB.length:Int)-from8))<|some ((CB.length:Int)-from8)else some CG : Option Int).bind λ n14=>ck (inR (from8+n14))<|ck ((0:Int)<=from8/\from8<=from8+n14/\from8+n14<=(CB.length:Int))<|(fZ n (sub CB from8 (from8+n14))).bind λ DV=>if (!DV)=true then some ((ac.mk false 0 ([]:Bk)),0,2)else ck (inR (from8+n14))<|some ((ac.mk false 0 (sub CB from8 (from8+n14))),from8+n14,0)
theorem sw (n:Nat)(CB:Bk)(first_1:Bool)(r:ac×Int×Int)(h0:mI n CB first_1=some r):au Tryz.prog 38 [eS CB,eB first_1] (·=.tuple [.p (.agg (ac.cs r.1)),.p (eI r.2.1),.p (eI r.2.2)]):=by
 unfold mI at h0;refine aZ good Tryz.func38 Z Z Z λ w0=>mP (λ v:ac×Int×Int=>.tuple [.p (.agg (ac.cs v.1)),.p (eI v.2.1),.p (eI v.2.2)]) ?_;refine nx 10 Z (oI h0 Z λ EK h0=>?_);refine nx 2 Z (fD [12] h0 Z (λ c2 h0=>?_) λ c2 h0=>?_)
 ·refine nx 4 Z (bd h0 λ r3 e4 h0=>?_);refine oK (om _ CB _ e4) Z ⟨sr,trivial⟩ Tryz.call65 Z (nx 8 Z ?_);exact mQ (oi h0) Z (ar ⟨sr,sr,sr,trivial⟩)
 refine nx 7 rfl ?_;obtain ⟨He,h1,C9,hR0⟩:=dl h0;refine kX (λ ER:Int=>He=.inl ER) (λ ER=>⟨[(0,.p (eS CB)),(4,.ptr 4 0),(7,.p (eI ER))],[(4,[.p (eB false),.p (eI 0),.p (eS ([]:Bk))])]⟩) (λ ER hv=>?_) ?_
 ·have h0:=C9 _ hv;refine nx 5 Z (oP h0 Z Z Z λ hk9 h0=>?_);refine bd h0 λ CG D7 h0=>oK (ly (sub CB ER (CB.length:Int)) ([46,91]:Bk) _ D7) Z ⟨sr,sr,trivial⟩ Tryz.call66 Z (nx 3 Z ?_);refine bd h0 λ EY h1 h0=>kN EY (λ FD=>⟨[(0,.p (eS CB)),(4,.ptr 4 0),(7,.p (eI ER)),(8,.p (eI FD))],[(4,[.p (eB false),.p (eI 0),.p (eS ([]:Bk))])]⟩) ?_ ?_
  ·refine nx 7 Z (oA h0 Z Z λ DW h0=>?_);refine oP h0 Z Z Z λ Dl h0=>nx 6 Z (bd h0 λ DV FW h0=>?_);refine oK (i6 _ (sub CB ER (ER+EY)) _ FW) Z ⟨sr,trivial⟩ Tryz.call51 Z (nx 2 Z ?_);refine fB [42] h0 Z (λ D8 h0=>?_) λ D8 h0=>?_
   ·exact nx 9 Z (mQ (oi h0) Z (ar ⟨sr,sr,sr,trivial⟩))
   refine nx 8 Z (oA h0 Z Z λ C4 h0=>?_);exact nx 5 Z (mQ (oi h0) Z (ar ⟨sr,sr,sr,trivial⟩))
  refine nx 5 Z (fD [29] h1 Z (λ D9 h1=>?_) λ D9 h1=>?_)
  ·refine nx 3 Z (oLs Z ?_);refine nx 1 Z (oA h1 Z Z λ EI h1=>?_);exact nx 2 Z (eX _ (oi h1).symm (gE Z Z))
  exact nx 2 Z (eX _ (oi h1).symm (gE Z Z))
 refine nx 5 Z (fB [19] h1 Z (λ c5 h1=>?_) λ c5 h1=>?_)
 ·refine nx 5 Z (oI h1 Z λ Hj h1=>?_);refine nx 2 Z (fN [22] h1 Z (λ c7 h1=>?_) λ c7 h1=>?_)
  ·exact nx 5 Z (eX _ (oi h1).symm (gE Z Z))
  exact nx 9 Z (mQ (hR0 _ (oi h1).symm) Z (ar ⟨sr,sr,sr,trivial⟩))
 exact nx 2 Z (eX _ (oi h1).symm (gE Z Z))
def fV (n:Nat):Nat->(List ac)->Bk->Option ((List ac)⊕((List ac)×Int))|0,_,_=>none|m+1,p11,rest12=>if rest12=([]:Bk) then some (.inl p11)else if (p11.length:Int)=32 then some (.inr ([],4))else(mI n rest12 (decide ((p11.length:Int)=0))).bind λ Db=>if Db.2.2=0 then ck ((p11.length+[Db.1].length)*32<=140737488355328)<|ck ((0:Int)<=Db.2.1/\Db.2.1<=(rest12.length:Int)/\(rest12.length:Int)<=(rest12.length:Int))<|fV n m (p11++[Db.1]) (sub rest12 Db.2.1 (rest12.length:Int))else some (.inr ([],Db.2.2))
def lN (n:Nat)(CB:Bk):Option ((List ac)×Int) :=if 65536<(CB.length:Int) then some ([],3)else jn (fV n n [] CB) λ p22=>(jp n p22).bind λ GX=>if GX=CB then some (p22,0)else some ([],2)
theorem qf (n:Nat)(CB:Bk)(r:(List ac)×Int)(h0:lN n CB=some r):au Tryz.prog 12 [eS CB] (·=.tuple [.p (eL ag r.1),.p (eI r.2)]):=by
 unfold lN at h0;refine aZ good Tryz.func12 Z Z Z λ w0=>mP (λ v:(List ac)×Int=>.tuple [.p (eL ag v.1),.p (eI v.2)]) ?_;refine nx 9 Z (oLs Z ?_);refine nx 2 Z (fD [11] h0 Z (λ c1 h0=>?_) λ c1 h0=>?_)
 ·exact nx 7 Z (mQ (oi h0) Z (ar ⟨iq _,sr,trivial⟩))
 refine nx 13 rfl ?_;obtain ⟨Fy,h1,C9,hR0⟩:=dl h0;refine kEx 0 (λ E1:(List ac)=>Fy=.inl E1) (λ E1=>⟨[(0,.p (eS CB)),(4,.vec 33 3 0 (E1.map ag))],[]⟩) (λ E1 hv=>?_) ?_
 ·have h0:=C9 _ hv;refine nx 5 Z (bd h0 λ GX e24 h0=>?_);refine oK (kC _ E1 _ e24) Z ⟨AV.sub_vec _ _ _ _,trivial⟩ Tryz.call24 Z (nx 1 Z ?_);refine oS Z Z (nx 1 Z ?_);refine fN [40] h0 Z (λ EM h0=>?_) λ EM h0=>?_
  ·exact nx 9 Z (mQ (oi h0) Z (ar ⟨AV.sub_vec _ _ _ _,sr,trivial⟩))
  exact nx 7 Z (mQ (oi h0) Z (ar ⟨iq _,sr,trivial⟩))
 refine lG (λ (G2:(List ac)×Bk)=>⟨[(0,.p (eS CB)),(4,.vec 33 3 0 (G2.1.map ag)),(5,.p (eS G2.2))],[]⟩) (λ m (G2:(List ac)×Bk)=>fV n m G2.1 G2.2) Y ([],CB) h1 (bS (fS ⟨er rfl,⟨_,rfl,AV.sub_nilvec _ _ _⟩,er rfl,trivial⟩ trivial)) ?_;rintro m ⟨p11,rest12⟩ h1;replace h1:fV n (m+1) p11 rest12=some Fy:=h1;rw [fV] at h1;refine nx 4 rfl (oS rfl rfl ?_);refine nx 1 rfl (fN [14] h1 rfl (λ EP h1=>?_) λ EP h1=>?_)
 ·exact nx 2 Z (eXi _ (oi h1).symm (gE Z Z))
 refine nx 7 Z (oLl (f:=ag) Z Z ?_);refine nx 2 Z (fD [17] h1 Z (λ EO h1=>?_) λ EO h1=>?_)
 ·exact nx 7 Z (mQ (hR0 _ (oi h1).symm) Z (ar ⟨iq _,sr,trivial⟩))
 refine nx 6 Z (oLl (f:=ag) Z Z ?_);refine nx 1 Z (bd h1 λ Db FA h1=>?_);refine oK (sw _ rest12 (decide ((p11.length:Int)=0)) _ FA) Z ⟨sr,sr,trivial⟩ Tryz.call38 Z (nx 15 Z ?_);refine fN [28] h1 Z (λ Fu h1=>?_) λ Fu h1=>?_
 ·refine nx 6 Z (mO Z (bA ag [Db.1] Z Z Z Z Z Z Z Z Z Z Z Z Z (by first|rfl|(simp only [cl,py,ac.Cv]; done)|(simp only [cl,py,ac.Cv]; rfl)) ?_));refine cc' h1 λ D3 h1=>mO Z (dS ag p11 [Db.1] Z Z Z Z Z Z Z Z Z Z Z Z Z (λ x=>congrArg List.length (ac.B' x)) Z Z Z Z D3 ?_);refine nx 5 Z (oP h1 Z Z Z λ DT h1=>?_);exact nx 2 Z (eX (p11++[Db.1],sub rest12 Db.2.1 (rest12.length:Int)) h1 (gE Z Z))
 exact nx 8 Z (mQ (hR0 _ (oi h1).symm) Z (ar ⟨iq _,sr,trivial⟩))
def cmp_isNaN_string (Da:Bk):Option Bool :=some (!decide (Da=Da))
theorem iH (Da:Bk)(r:Bool)(h0:cmp_isNaN_string Da=some r):au Tryz.prog 127 [eS Da] (·=.p (eB r)):=by
 unfold cmp_isNaN_string at h0;refine aZ good Tryz.func127 Z Z Z λ w0=>mP (λ v:Bool=>.p (eB v)) ?_;refine nx 8 Z (oS Z Z ?_);exact nx 3 Z (mQ (oi h0) Z (sr))
def cmp_Less_string (Da:Bk)(y_1:Bk):Option Bool :=((cmp_isNaN_string Da).bind λ r1=>if r1=true then(cmp_isNaN_string y_1).bind λ r4=>if (!r4)=true then some true else some (Op.bytesLess Da y_1)else some (Op.bytesLess Da y_1) : Option Bool).bind λ t7=>some t7
theorem lQ (Da:Bk)(y_1:Bk)(r:Bool)(h0:cmp_Less_string Da y_1=some r):au Tryz.prog 100 [eS Da,eS y_1] (·=.p (eB r)):=by
 unfold cmp_Less_string at h0;refine aZ good Tryz.func100 Z Z Z λ w0=>mP (λ v:Bool=>.p (eB v)) ?_;refine nx 5 Z (bd h0 λ o9 h1 h0=>?_);refine kN o9 (λ v10=>⟨[(4,.p (eB v10))],[]⟩) ?_ ?_
 ·exact nx 2 Z (mQ (oi h0) Z (sr))
 refine nx 2 Z (bd h1 λ r1 e2 h1=>?_);refine oK (iH Da _ e2) Z ⟨sr,trivial⟩ Tryz.call127 Z (nx 1 Z ?_);refine fB [6,7] h1 Z (λ c3 h1=>?_) λ c3 h1=>?_
 ·refine nx 1 Z (bd h1 λ r4 e5 h1=>?_);refine oK (iH y_1 _ e5) Z ⟨sr,trivial⟩ Tryz.call127 Z (nx 3 Z ?_);refine fB [10,11,12] h1 Z (λ c6 h1=>?_) λ c6 h1=>?_
  ·exact nx 6 Z (eX _ (oi h1).symm (gE Z Z))
  refine nx 2 Z (oS Z Z ?_);exact nx 3 Z (eX _ (oi h1).symm (gE Z Z))
 refine nx 7 Z (oS Z Z ?_);exact nx 3 Z (eX _ (oi h1).symm (gE Z Z))
def slices_isNaN_string (Da:Bk):Option Bool :=some (!decide (Da=Da))
theorem gS (Da:Bk)(r:Bool)(h0:slices_isNaN_string Da=some r):au Tryz.prog 101 [eS Da] (·=.p (eB r)):=by
 unfold slices_isNaN_string at h0;refine aZ good Tryz.func101 Z Z Z λ w0=>mP (λ v:Bool=>.p (eB v)) ?_;refine nx 8 Z (oS Z Z ?_);exact nx 3 Z (mQ (oi h0) Z (sr))
def az (Da:List Bk)(target_1:Bk):Nat->Int->Int->Option Int|0,_,_=>none|m+1,i14,j15=>if i14<j15 then(ck (inR (i14+j15))<|ck ((0:Int)<=1)<|ck (inR (dF .u64 (IntKind.wrap .u64 (i14+j15)) 1))<|ck ((0:Int)<=dF .u64 (IntKind.wrap .u64 (i14+j15)) 1/\dF .u64 (IntKind.wrap .u64 (i14+j15)) 1<(Da.length:Int))<|(cmp_Less_string (lat Da (dF .u64 (IntKind.wrap .u64 (i14+j15)) 1)) target_1).bind λ CX=>if CX=true then ck (inR ((dF .u64 (IntKind.wrap .u64 (i14+j15)) 1)+1))<|some ((dF .u64 (IntKind.wrap .u64 (i14+j15)) 1)+1,j15)else some (i14,dF .u64 (IntKind.wrap .u64 (i14+j15)) 1) : Option (Int×Int)).bind λ Du=>az Da target_1 m Du.1 Du.2 else some i14
def aW (n:Nat)(Da:List Bk)(target_1:Bk):Option (Int×Bool) :=(az Da target_1 n 0 (Da.length:Int)).bind λ i29=>(if i29<(Da.length:Int) then ck ((0:Int)<=i29/\i29<(Da.length:Int))<|if lat Da i29=target_1 then some true else ck ((0:Int)<=i29/\i29<(Da.length:Int))<|(slices_isNaN_string (lat Da i29)).bind λ Ey=>if Ey=true then(slices_isNaN_string target_1).bind λ FQ=>some FQ else some false else some false : Option Bool).bind λ F6=>some (i29,F6)
theorem cn (n:Nat)(Da:List Bk)(target_1:Bk)(r:Int×Bool)(h0:aW n Da target_1=some r):au Tryz.prog 71 [eL eS Da,eS target_1] (·=.tuple [.p (eI r.1),.p (eB r.2)]):=by
 unfold aW at h0;refine aZ good Tryz.func71 Z Z Z λ w0=>mP (λ v:Int×Bool=>.tuple [.p (eI v.1),.p (eB v.2)]) ?_;refine nx 8 Z (oLl (f:=eS) Z Z ?_);refine nx 10 Z (bd h0 λ FF h1 h0=>?_);refine kE 0 FF (λ F1=>⟨[(0,.p (eL eS Da)),(1,.p (eS target_1)),(6,.p (eI (Da.length:Int))),(7,.p (eI F1))],[]⟩) ?_ ?_
 ·refine nx 2 Z (bd h0 λ Gg h1 h0=>?_);refine kN Gg (λ v46=>⟨[(4,.p (eI FF)),(5,.p (eB v46))],[]⟩) ?_ ?_
  ·exact nx 2 Z (mQ (oi h0) Z (ar ⟨sr,sr,trivial⟩))
  refine nx 6 Z (fD [34,35] h1 Z (λ EL h1=>?_) λ EL h1=>?_)
  ·refine nx 2 Z (oE h1 Y Z Z Y λ FJ h1=>?_);refine nx 2 Z (oS Z Z ?_);refine nx 1 Z (fD [41,42] h1 Z (λ c32 h1=>?_) λ c32 h1=>?_)
   ·exact nx 14 Z (eX _ (oi h1).symm (gE Z Z))
   refine nx 2 Z (oE h1 Y Z Z Y λ EH h1=>?_);refine nx 1 Z (bd h1 λ Ey Gw h1=>?_);refine oK (gS (lat Da FF) _ Gw) Z ⟨sr,trivial⟩ Tryz.call101 Z (nx 1 Z ?_);refine fB [47,48] h1 Z (λ Fq h1=>?_) λ Fq h1=>?_
   ·refine nx 1 Z (bd h1 λ FQ Hy h1=>?_);refine oK (gS target_1 _ Hy) Z ⟨sr,trivial⟩ Tryz.call101 Z (nx 6 Z ?_);exact eX _ (oi h1).symm (gE Z Z)
   exact nx 8 Z (eX _ (oi h1).symm (gE Z Z))
  exact nx 21 Z (eX _ (oi h1).symm (gE Z Z))
 refine lG (λ (EE:Int×Int)=>⟨[(0,.p (eL eS Da)),(1,.p (eS target_1)),(6,.p (eI (Da.length:Int))),(7,.p (eI EE.1)),(8,.p (eI EE.2))],[]⟩) (λ m (EE:Int×Int)=>az Da target_1 m EE.1 EE.2) Y (0,(Da.length:Int)) h1 (gE rfl rfl) ?_;rintro m ⟨i14,j15⟩ h1;replace h1:az Da target_1 (m+1) i14 j15=some FF:=h1;rw [az] at h1;refine nx 7 rfl (fD [15] h1 rfl (λ FO h1=>?_) λ FO h1=>?_)
 ·refine nx 2 Z (bd h1 λ Hc h2 h1=>?_);refine kN Hc (λ v49=>⟨[(0,.p (eL eS Da)),(1,.p (eS target_1)),(6,.p (eI (Da.length:Int))),(7,.p (eI v49.1)),(8,.p (eI v49.2))],[]⟩) ?_ ?_
  ·exact nx 1 Z (eX (Hc.1,Hc.2) h1 (gE Z Z))
  refine nx 5 Z (oA h2 Z Z λ Ed h2=>?_);refine nx 1 Z (cc' h2 λ D3 h2=>?_);refine mO Z (jM Z Z Z Z Z Z D3 ?_);refine cc' h2 λ DT h2=>mO Z (dv Z Z Z Z Z Z Z Z (fY DT) ?_);refine nx 6 Z (oE h2 Y Z Z Y λ C4 h2=>?_);refine nx 2 Z (bd h2 λ CX Et h2=>?_);refine oK (lQ (lat Da (dF .u64 (IntKind.wrap .u64 (i14+j15)) 1)) target_1 _ Et) Z ⟨sr,sr,trivial⟩ Tryz.call100 Z (nx 1 Z ?_);refine fB [27] h2 Z (λ FN h2=>?_) λ FN h2=>?_
  ·refine nx 3 Z (oA h2 Z Z λ D6 h2=>?_);exact nx 2 Z (eX _ (oi h2).symm (gE Z Z))
  exact nx 5 Z (eX _ (oi h2).symm (gE Z Z))
 exact nx 2 Z (eXi _ (oi h1).symm (gE Z Z))
def dZ (n:Nat)(Cz:aa)(s_1:ac):Option (Int×Int) :=if Cz.AT=6 then some (0,11)else(if s_1.Cu=true then if Cz.AT=4 then if (!s_1.Cu)=true then some (!decide (Cz.AT=5))else some false else some true else if (!s_1.Cu)=true then some (!decide (Cz.AT=5))else some false : Option Bool).bind λ t6=>if t6=true then some (0,6)else if s_1.Cu=true then if (Cz.Ar.length:Int)<=s_1.A' then some (0,16)else some (s_1.A',0)else(aW n Cz.AI s_1.BY).bind λ CG=>if (!CG.2)=true then some (0,16)else some (CG.1,0)
theorem ml (n:Nat)(Cz:aa)(s_1:ac)(r:Int×Int)(h0:dZ n Cz s_1=some r):au Tryz.prog 42 [.agg (aa.cs Cz),.agg (ac.cs s_1)] (·=.tuple [.p (eI r.1),.p (eI r.2)]):=by
 unfold dZ at h0;refine aZ good Tryz.func42 Z Z Z λ w0=>mP (λ v:Int×Int=>.tuple [.p (eI v.1),.p (eI v.2)]) ?_;refine nx 14 Z (fD [10] h0 Z (λ c1 h0=>?_) λ c1 h0=>?_)
 ·exact nx 7 Z (mQ (oi h0) Z (ar ⟨sr,sr,trivial⟩))
 refine nx 4 Z (bd h0 λ o14 h1 h0=>?_);refine kN o14 (λ v15=>⟨[(2,.ptr 2 0),(3,.ptr 3 0),(27,.p (eB v15))],[(2,(aa.cs Cz).map .p),(3,(ac.cs s_1).map .p)]⟩) ?_ ?_
 ·refine nx 1 Z (fB [27] h0 Z (λ c7 h0=>?_) λ c7 h0=>?_)
  ·exact nx 7 Z (mQ (oi h0) Z (ar ⟨sr,sr,trivial⟩))
  refine nx 8 Z (fB [29] h0 Z (λ c8 h0=>?_) λ c8 h0=>?_)
  ·refine nx 8 Z (oLl (f:=ah) Z Z ?_);refine nx 2 Z (fD [35] h0 Z (λ c9 h0=>?_) λ c9 h0=>?_)
   ·exact nx 7 Z (mQ (oi h0) Z (ar ⟨sr,sr,trivial⟩))
   exact nx 10 Z (mQ (oi h0) Z (ar ⟨sr,sr,trivial⟩))
  refine nx 8 Z (bd h0 λ CG D7 h0=>?_);refine oK (cn _ Cz.AI s_1.BY _ D7) Z ⟨sr,sr,trivial⟩ Tryz.call71 Z (nx 12 Z ?_);refine fB [47] h0 Z (λ D9 h0=>?_) λ D9 h0=>?_
  ·exact nx 7 Z (mQ (oi h0) Z (ar ⟨sr,sr,trivial⟩))
  exact nx 9 Z (mQ (oi h0) Z (ar ⟨sr,sr,trivial⟩))
 refine nx 4 Z (fB [12,13] h1 Z (λ c2 h1=>?_) λ c2 h1=>?_)
 ·refine nx 5 Z (fN [16,17,18] h1 Z (λ c3 h1=>?_) λ c3 h1=>?_)
  ·refine nx 4 Z (fB [21,22] h1 Z (λ c4 h1=>?_) λ c4 h1=>?_)
   ·exact nx 6 Z (eX _ (oi h1).symm (gE Z Z))
   exact nx 6 Z (eX _ (oi h1).symm (gE Z Z))
  exact nx 10 Z (eX _ (oi h1).symm (gE Z Z))
 refine nx 9 Z (fB [21,22] h1 Z (λ c5 h1=>?_) λ c5 h1=>?_)
 ·exact nx 6 Z (eX _ (oi h1).symm (gE Z Z))
 exact nx 6 Z (eX _ (oi h1).symm (gE Z Z))
def ef (C1:aa->Option aa):Nat->Option Unit|0=>none|m+1=>if 0<(([]:List aa).length:Int) then ck ((0:Int)<=0/\0<(([]:List aa).length:Int))<|(C1 (lat ([]:List aa) 0)).bind λ r6=>ck ((0:Int)<=0/\0<(([]:List aa).length:Int))<|none else some ()
def bC (C1:aa->Option aa)(Cz:aa):Nat->Int->(List aa)->Option (List aa)|0,_,_=>none|m+1,CS,l18=>if CS<(Cz.Ar.length:Int) then ck ((0:Int)<=CS/\CS<(l18.length:Int))<|(C1 (lat l18 CS)).bind λ CX=>ck ((0:Int)<=CS/\CS<(l18.length:Int))<|ck (inR (CS+1))<|bC C1 Cz m (CS+1) (l18.set CS.toNat CX)else some l18
def bu:Nat->aa->Option aa|0,_=>none|n+1,Cz=>ck (Cz.AI.length*16<=140737488355328)<|if Cz.Ar.isEmpty=true then(ef (bu n) n ).bind λ q28=>some (aa.mk Cz.AT Cz.A' Cz.By ([]:List aa) Cz.AI)else ck (Cz.Ar.length*80<=140737488355328)<|(bC (bu n) Cz n 0 Cz.Ar).bind λ l27=>some (aa.mk Cz.AT Cz.A' Cz.By l27 Cz.AI)
theorem fo (n:Nat):∀ (Cz:aa) (r:aa),bu n Cz=some r->au Tryz.prog 43 [.agg (aa.cs Cz)] (·=.p (.agg (aa.cs r))):=by
 induction n with
 | zero=>intro Cz r h0; cases h0
 | succ n ih=>
 have DG:=ih;intro Cz r h0;rw [bu] at h0;refine aZ good Tryz.func43 Z Z Z λ w0=>mP (λ v:aa=>.p (.agg (aa.cs v))) ?_;refine nx 9 Z (cc' h0 λ EK h0=>?_);refine oK (ew Cz.AI EK) Z ⟨sr,trivial⟩ Tryz.call72 Z (nx 7 Z ?_);refine zO (b:=Cz.Ar.isEmpty) (λ c2=>?_) (λ c2=>?_)
 ·replace h0:=zE c2 h0;refine mO Z (aY (fL Cz.Ar c2) Z Z Z Z ⟨sr,trivial⟩ Tryz.call73 Z ?_);refine nx 8 Z (oLl (f:=ah) Z Z ?_);refine nx 3 Z (bd h0 λ o30 h1 h0=>?_);refine kE 0 o30 (λ v31=>⟨[(1,.ptr 1 0),(2,.ptr 2 0)],[(1,[.p (eI Cz.AT),.p (eI Cz.A'),.p (eS Cz.By),.p (eL ah ([]:List aa)),.p (eL eS Cz.AI)]),(2,[.p (eI 0),.p (eI 0),.p (eS ([]:Bk)),.p (.val (.slice none 0 0)),.p (.val (.slice none 0 0))])]⟩) ?_ ?_
  ·exact nx 7 Z (mQ (oi h0) Z (sr))
  refine lG (λ (q32:Unit)=>⟨[(1,.ptr 1 0),(2,.ptr 2 0),(14,.p (eI (([]:List aa).length:Int))),(15,.p (eI 0))],[(1,[.p (eI Cz.AT),.p (eI Cz.A'),.p (eS Cz.By),.p (eL ah ([]:List aa)),.p (eL eS Cz.AI)]),(2,[.p (eI 0),.p (eI 0),.p (eS ([]:Bk)),.p (.val (.slice none 0 0)),.p (.val (.slice none 0 0))])]⟩) (λ m (q32:Unit)=>ef (bu n) m ) Y () h1 (gE rfl rfl) ?_;rintro m _ h1;replace h1:ef (bu n) (m+1)  = some o30:=h1;rw [ef] at h1;refine nx 5 rfl (fD [16] h1 rfl (λ c4 h1=>?_) λ c4 h1=>?_)
  ·refine nx 9 Z (cc' h1 λ Hl h1=>?_);refine bd h1 λ r6 e7 h1=>cc' h1 λ hk8 h1=>?_
   cases h1
  exact nx 2 Z (eXi _ (oi h1).symm (gE Z Z))
 replace h0:=zf c2 h0;refine cc' h0 λ EB h0=>mO Z (br [] [] 101000 101001 (dw Cz.Ar c2 EB) Z Z Z Z Z ⟨sr,trivial⟩ Z Z trivial Z Z Z Z Z Z Z Z Tryz.call73 Z (lf Z (jK _) Z) ?_);refine nx 12 Z (bd h0 λ Ei h1 h0=>?_);refine kE 0 Ei (λ FC=>⟨[(1,.ptr 1 0),(2,.ptr 2 0)],[(1,[.p (eI Cz.AT),.p (eI Cz.A'),.p (eS Cz.By),.arr 101000 5 0 FC.length,.p (eL eS Cz.AI)]),(2,[.p (eI 0),.p (eI 0),.p (eS ([]:Bk)),.p (.val (.slice none 0 0)),.p (.val (.slice none 0 0))]),(101000,d5 ah FC)]⟩) ?_ ?_
 ·refine nx 3 Z (mG (lD (sl':=[(1,.ptr 1 0),(2,.ptr 2 0)]) (ob':=[(1,[.p (eI Cz.AT),.p (eI Cz.A'),.p (eS Cz.By),.p (eL ah Ei),.p (eL eS Cz.AI)]),(2,[.p (eI 0),.p (eI 0),.p (eS ([]:Bk)),.p (.val (.slice none 0 0)),.p (.val (.slice none 0 0))])]) 101000 5 ah Ei Z Z Z (λ x=>⟨congrArg List.length (aa.B' x),by rw [aa.B']; rfl⟩) ⟨⟨_,Z,.inl Z⟩,⟨_,Z,.inl Z⟩,trivial⟩ ⟨⟨Z,_,Z,⟨.inl Z,.inl Z,.inl Z,.inr ⟨G ,Z⟩,.inl Z,trivial⟩⟩,⟨Z,_,Z,⟨.inl Z,.inl Z,.inl Z,.inl Z,.inl Z,trivial⟩⟩,trivial⟩) ?_);exact nx 4 Z (mQ (oi h0) Z (sr))
 refine lG (λ (EV:Int×(List aa))=>⟨[(1,.ptr 1 0),(2,.ptr 2 0),(14,.p (eI (Cz.Ar.length:Int))),(15,.p (eI EV.1))],[(1,[.p (eI Cz.AT),.p (eI Cz.A'),.p (eS Cz.By),.arr 101000 5 0 EV.2.length,.p (eL eS Cz.AI)]),(2,[.p (eI 0),.p (eI 0),.p (eS ([]:Bk)),.p (.val (.slice none 0 0)),.p (.val (.slice none 0 0))]),(101000,d5 ah EV.2)]⟩) (λ m (EV:Int×(List aa))=>bC (bu n) Cz m EV.1 EV.2) Y (0,Cz.Ar) h1 (bS (fS ⟨er rfl,er rfl,er rfl,er rfl,trivial⟩ ⟨⟨_,rfl,⟨sr,sr,sr,AV.sub_of_eq (congrArg (AV.arr 101000 5 0) G),sr,trivial⟩⟩,⟨_,rfl,⟨sr,sr,sr,sr,sr,trivial⟩⟩,⟨_,rfl,cq _⟩,trivial⟩)) ?_;rintro m ⟨CS,l18⟩ h1;replace h1:bC (bu n) Cz (m+1) CS l18=some Ei:=h1;rw [bC] at h1;refine nx 5 rfl (fD [16] h1 rfl (λ D8 h1=>?_) λ D8 h1=>?_)
 ·refine nx 9 Z (cc' h1 λ C4 h1=>?_);refine bd h1 λ CX Et h1=>cc' h1 λ DI h1=>mG (bS (t:=⟨[(1,.ptr 1 0),(2,.ptr 2 0),(3,.p (eI CS)),(14,.p (eI (Cz.Ar.length:Int))),(15,.p (eI CS))],[(1,[.p (eI Cz.AT),.p (eI Cz.A'),.p (eS Cz.By),.arr 101000 5 0 l18.length,.p (eL eS Cz.AI)]),(2,[.p (eI 0),.p (eI 0),.p (eS ([]:Bk)),.p (.val (.slice none 0 0)),.p (.val (.slice none 0 0))]),(101000,d5 ah l18)]⟩) (fS ⟨er Z,er Z,er Z,er Z,er Z,trivial⟩ ⟨⟨_,Z,⟨sr,sr,sr,AV.sub_of_eq (congrArg (AV.arr 101000 5 0) G),sr,trivial⟩⟩,⟨_,Z,⟨sr,sr,sr,sr,sr,trivial⟩⟩,⟨_,Z,cq _⟩,trivial⟩)) (mS ⟨1,[10],(λ _=>.none),(λ _=>[(1,.ptr 1 0),(2,.ptr 2 0),(3,.p (eI CS)),(14,.p (eI (Cz.Ar.length:Int))),(15,.p (eI CS))]),(by2 ([(1,[.p (eI Cz.AT),.p (eI Cz.A'),.p (eS Cz.By),.arr 101000 5 0 l18.length,.p (eL eS Cz.AI)]),(2,[.p (eI 0),.p (eI 0),.p (eS ([]:Bk)),.p (.val (.slice none 0 0)),.p (.val (.slice none 0 0))]),(101000,d5 ah l18)]) ([(101000,d5 ah (l18.set CS.toNat CX)),(1,[.p (eI Cz.AT),.p (eI Cz.A'),.p (eS Cz.By),.arr 101000 5 0 l18.length,.p (eL eS Cz.AI)]),(2,[.p (eI 0),.p (eI 0),.p (eS ([]:Bk)),.p (.val (.slice none 0 0)),.p (.val (.slice none 0 0))]),(101000,d5 ah l18)]))⟩ Z Z Z ⟨Z,Z,Z,Z,Z,trivial⟩ (lt1 ⟨Z,Z,Z,Z,Z,trivial⟩) Z Z Z Z ?_);refine al (λ _=>.ptr 1 3) Z Z Z (bK Z Y) (lt1 Z) (aj Z (af [(1,_)] ⟨.inl Z,trivial⟩ (λ sl Cy K hK=>ae Z (aD Z Z Z Z Z Z Z Z (Cy _ _ Z) hK)) ak)) (al (λ _=>.arr 101000 5 0 l18.length) Z Z Z (bK Z Y) (lt1 Z) (aj Z (af [(18,_)] ⟨.inr ⟨0,_,Z,Z,Z⟩,trivial⟩ (λ sl Cy K hK=>ae Z (bm Z Z Z Z Z (Cy _ _ Z) Z Z hK)) ak)) ?_);refine al (λ _=>.p (eI CS)) Z Z Z (bK Z Y) (lt1 Z) (aj Z (af [(3,_)] ⟨.inl Z,trivial⟩ (λ sl Cy K hK=>ae Z (aA Z Z Z (Cy _ _ Z) hK)) ak)) (al (λ _=>.ptr 1 3) Z Z Z (bK Z Y) (lt1 Z) (aj Z (af [(1,_)] ⟨.inl Z,trivial⟩ (λ sl Cy K hK=>ae Z (aD Z Z Z Z Z Z Z Z (Cy _ _ Z) hK)) ak)) ?_);refine al (λ _=>.arr 101000 5 0 l18.length) Z Z Z (bK Z Y) (lt1 Z) (aj Z (af [(21,_)] ⟨.inr ⟨3,_,Z,Z,Z⟩,trivial⟩ (λ sl Cy K hK=>ae Z (bm Z Z Z Z Z (Cy _ _ Z) Z Z hK)) ak)) (al (λ _=>.p (eI CS)) Z Z Z (bK Z Y) (lt1 Z) (aj Z (af [(3,_)] ⟨.inl Z,trivial⟩ (λ sl Cy K hK=>ae Z (aA Z Z Z (Cy _ _ Z) hK)) ak)) ?_);refine al (λ _=>.ptr 101000 (0+CS.toNat*5)) Z Z Z (bK Z Y) (lt1 Z) (aj Z (af [(22,_),(23,_)] ⟨.inr ⟨4,_,Z,Z,Z⟩,.inr ⟨5,_,Z,Z,Z⟩,trivial⟩ (λ sl Cy K hK=>ae Z (cz Z Z Z Z Z Z (Cy _ _ Z) (Cy _ _ Z) Z C4 hK)) ak)) (al (λ _=>.p (.agg (aa.cs (lat l18 CS)))) Z Z Z (bK Z Y) (lt1 Z) (aj Z (af [(24,_)] ⟨.inr ⟨6,_,Z,Z,Z⟩,trivial⟩ (λ sl Cy K hK=>ae Z (lV ah aa.cs l18 Z Z Z Z Z (Cy _ _ Z) Z Z Z C4 aa.B' Y hK)) ak)) ?_);refine al (λ _=>.p (.agg (aa.cs CX))) Z Z Z (bK Z Y) (lt1 Z) (aj Z (af [(25,_)] ⟨.inr ⟨7,_,Z,Z,Z⟩,trivial⟩ (λ sl Cy K hK=>ae Z (aY (DG (lat l18 CS) _ Et) Z Z Z (am (Cy _ _ Z) aM) ⟨sr,trivial⟩ Tryz.call43 Z hK)) ak)) (al (λ _=>.ptr 101000 (0+CS.toNat*5)) Z Z Z (bK Z Y) (lt1 Z) (aj Z (af [(19,_),(20,_)] ⟨.inr ⟨1,_,Z,Z,Z⟩,.inr ⟨2,_,Z,Z,Z⟩,trivial⟩ (λ sl Cy K hK=>ae Z (cz Z Z Z Z Z Z (Cy _ _ Z) (Cy _ _ Z) Z DI hK)) ak)) ?_);refine ct [(26,_),(27,_)] Z ⟨.inr ⟨8,_,Z,Z,Z⟩,.inr ⟨9,_,Z,Z,Z⟩,trivial⟩ Z (λ sl Cy K hK=>ae Z (kD ah aa.cs l18 CX (n:=CS) Z Z Z (Cy _ _ Z) (Cy _ _ Z) Z Z Z DI aa.B' Y Y hK)) (eY ?_);refine nx 2 Z (oA h1 Z Z λ D6 h1=>?_);exact nx 2 Z (eX (CS+1,l18.set CS.toNat CX) h1 (bS (fS ⟨er Z,er Z,er Z,er Z,trivial⟩ ⟨⟨_,Z,⟨sr,sr,sr,AV.sub_of_eq (congrArg (AV.arr 101000 5 0) G),sr,trivial⟩⟩,⟨_,Z,⟨sr,sr,sr,sr,sr,trivial⟩⟩,⟨_,Z,cq _⟩,trivial⟩)))
 exact nx 2 Z (eXi _ (oi h1).symm (bS (fS ⟨er Z,er Z,trivial⟩ ⟨⟨_,Z,⟨sr,sr,sr,AV.sub_of_eq (congrArg (AV.arr 101000 5 0) G),sr,trivial⟩⟩,⟨_,Z,⟨sr,sr,sr,sr,sr,trivial⟩⟩,⟨_,Z,cq _⟩,trivial⟩)))
def dA (n:Nat)(p_1:List ac):Nat->Int->Int->Int->Bk->(List aa)->(List Bk)->Option ((Int×Int×Bk×(List aa)×(List Bk))⊕(aa×Int))|0,_,_,_,_,_,_=>none|m+1,Ex,Fp,Fo,Ef,Dq,Fl=>if Ex<(p_1.length:Int) then ck ((0:Int)<=Ex/\Ex<(p_1.length:Int))<|(dZ n (aa.mk Fp Fo Ef Dq Fl) (lat p_1 Ex)).bind λ C2=>if C2.2=0 then ck ((0:Int)<=C2.1/\C2.1<(Dq.length:Int))<|ck (inR (Ex+1))<|dA n p_1 m (Ex+1) ((lat Dq C2.1).AT) ((lat Dq C2.1).A') ((lat Dq C2.1).By) ((lat Dq C2.1).Ar) ((lat Dq C2.1).AI)else some (.inr ((aa.mk 0 0 ([]:Bk) [] []),C2.2))else some (.inl (Fp,Fo,Ef,Dq,Fl))
def fp (n:Nat)(Cz:aa)(p_1:List ac):Option (aa×Int) :=jn (dA n p_1 n 0 Cz.AT Cz.A' Cz.By Cz.Ar Cz.AI) λ E7=>(bu n (aa.mk E7.1 E7.2.1 E7.2.2.1 E7.2.2.2.1 E7.2.2.2.2)).bind λ Ea=>some (Ea,0)
theorem dD (n:Nat)(Cz:aa)(p_1:List ac)(r:aa×Int)(h0:fp n Cz p_1=some r):au Tryz.prog 18 [.agg (aa.cs Cz),eL ag p_1] (·=.tuple [.p (.agg (aa.cs r.1)),.p (eI r.2)]):=by
 unfold fp at h0;refine aZ good Tryz.func18 Z Z Z λ w0=>mP (λ v:aa×Int=>.tuple [.p (.agg (aa.cs v.1)),.p (eI v.2)]) ?_;refine nx 10 rfl (oLl (f:=ag) Z Z ?_);refine nx 3 rfl ?_;obtain ⟨GL,h1,C9,hR0⟩:=dl h0;refine kEx 0 (λ Eb:Int×Int×Bk×(List aa)×(List Bk)=>GL=.inl Eb) (λ Eb=>⟨[(2,.ptr 2 0),(4,.ptr 4 0)],[(2,[.p (eI Eb.1),.p (eI Eb.2.1),.p (eS Eb.2.2.1),.p (eL ah Eb.2.2.2.1),.p (eL eS Eb.2.2.2.2)]),(4,[.p (eI 0),.p (eI 0),.p (eS ([]:Bk)),.p (.val (.slice none 0 0)),.p (.val (.slice none 0 0))])]⟩) (λ Eb hv=>?_) ?_
 ·have h0:=C9 _ hv;refine nx 4 Z (bd h0 λ Ea Hw h0=>?_);refine oK (fo _ (aa.mk Eb.1 Eb.2.1 Eb.2.2.1 Eb.2.2.2.1 Eb.2.2.2.2) _ Hw) Z ⟨sr,trivial⟩ Tryz.call43 Z (nx 4 Z ?_);exact mQ (oi h0) Z (ar ⟨sr,sr,trivial⟩)
 refine lG (λ (EF:Int×Int×Int×Bk×(List aa)×(List Bk))=>⟨[(2,.ptr 2 0),(4,.ptr 4 0),(10,.p (eL ag p_1)),(11,.p (eI (p_1.length:Int))),(12,.p (eI EF.1))],[(2,[.p (eI EF.2.1),.p (eI EF.2.2.1),.p (eS EF.2.2.2.1),.p (eL ah EF.2.2.2.2.1),.p (eL eS EF.2.2.2.2.2)]),(4,[.p (eI 0),.p (eI 0),.p (eS ([]:Bk)),.p (.val (.slice none 0 0)),.p (.val (.slice none 0 0))])]⟩) (λ m (EF:Int×Int×Int×Bk×(List aa)×(List Bk))=>dA n p_1 m EF.1 EF.2.1 EF.2.2.1 EF.2.2.2.1 EF.2.2.2.2.1 EF.2.2.2.2.2) Y (0,Cz.AT,Cz.A',Cz.By,Cz.Ar,Cz.AI) h1 (gE rfl rfl) ?_;rintro m ⟨Ex,Fp,Fo,Ef,Dq,Fl⟩ h1;replace h1:dA n p_1 (m+1) Ex Fp Fo Ef Dq Fl=some GL:=h1;rw [dA] at h1;refine nx 5 rfl (fD [13] h1 rfl (λ c20 h1=>?_) λ c20 h1=>?_)
 ·refine nx 6 Z (oE h1 ac.B' Z Z Y λ Eq h1=>?_);refine nx 8 Z (bd h1 λ C2 FL h1=>?_);refine oK (ml _ (aa.mk Fp Fo Ef Dq Fl) (lat p_1 Ex) _ FL) Z ⟨sr,sr,trivial⟩ Tryz.call42 Z (nx 12 Z ?_);refine fN [23] h1 Z (λ Ew h1=>?_) λ Ew h1=>?_
  ·refine nx 6 Z (oE h1 aa.B' Z Z Y λ Fi h1=>?_);refine nx 4 Z (oA h1 Z Z λ Ep h1=>?_);exact nx 2 Z (eX (Ex+1,(lat Dq C2.1).AT,(lat Dq C2.1).A',(lat Dq C2.1).By,(lat Dq C2.1).Ar,(lat Dq C2.1).AI) h1 (gE Z Z))
  exact nx 9 Z (mQ (hR0 _ (oi h1).symm) Z (ar ⟨dY ⟨.inl Z,.inl Z,.inl Z,.inr ⟨Z,Z⟩,.inr ⟨Z,Z⟩,trivial⟩,sr,trivial⟩))
 exact nx 2 Z (eXi _ (oi h1).symm (gE Z Z))
end Go.Ab.R06
end
section
namespace Go.Ab
theorem ku {i n j sz:Nat}(h:i<n)(hj:j<sz):i*sz+j<n*sz:=by
 have:=Nat.mul_le_mul_right sz (show i+1<=n from h);rw [Nat.succ_mul] at this; omega
section
variable {C:Cx} {o:Oper} {K:AS->Prop} {sl:List (Nat×AV)} {ob:List (Nat×List AV)} {d:Nat}
theorem o3 {es ys:List PV}{t tx e e':TypeId}{i ie j:TI}{y:Operand}{Y0z:AV}{k sz:Nat}(D:Nat->Bool)(hDl:∀ i,D i=true->i<M1)(hDk:D k=true)
  (hi:look C.tt t=some i) (CR:i.k=.slice e) (hie:look C.tt e=some ie) (hj:look C.tt tx=some j) (hjk:j.k=.slice e')
  (hy:evo sl y=some Y0z) (hY:Y0z.elems? = some ys) (hszy:∀ y∈ys,y.cells.length=sz) (hsze:∀ x∈es,x.cells.length=sz) (CH:∀ x∈es,∀ c∈x.cells,c.one=true)
  (h1s:ie.size=sz) (h0:0<sz) (hzl:ie.zero.length=ie.size)
  (CE:(es.length+ys.length)*ie.bytes<=140737488355328) (hlen':es.length+ys.length<=9223372036854775807)
  {g:Gh} {a:Act} {w:World} (hs:St C.n C.w0 C.F g ⟨sl,ob⟩ a w) (base:Option Addr) (cap:Nat) (olds:List Value)
  (hold:(Builtin.firstCells ie.size es.length (.slice base es.length cap)).run C.P w.drew=.ok olds.toArray w.drew) (hol:olds.length=es.length*sz)
  (hoc:∀ (i:Nat) x (j:Nat) p,es[i]? = some x->x.cells[j]? = some p->∃ u,olds[i*sz+j]? = some u/\PRep w g.st p u)
  (hg:cap<es.length+ys.length) (ty:TypeId) (hn:Nat.blt d C.n=true) :
  ∃ v w' g',(Builtin.append_ #[t,tx] ty #[.slice base es.length cap,a.eval y]).run C.P w=.ok v w' /\
   St C.n C.w0 C.F g' ⟨(d,.stk k sz (es++ys))::(bV D ⟨sl,ob⟩).sl,(bV D ⟨sl,ob⟩).ob⟩ (a.put (some d) v) w':=by
 subst h1s;obtain ⟨u,h1,h2⟩:=bc C.good hi;have h3:=aV (h2.trans CR);subst h3;obtain ⟨u',h1',h2'⟩:=bc C.good hj;have h3':=aV (h2'.trans hjk);subst h3';obtain ⟨info,hf1,hf2,hf3,z,hf4,hf5⟩:=dQ C.good hie;have hyv:=dr hY (bg hs hy);obtain ⟨news,hsrc,hnews⟩:=kx (P:=C.P) (sz:=ie.size) h1' hyv hszy h0;have hfit:=growslice_fits (bytes:=ie.bytes) hg CE;have hrun:=run_append_grow_src w t tx ty e info z h1 hf1 hf4 base es.length cap olds (by rw [hf2]; exact hold) (a.eval y) ys.length news (by rw [hf2]; exact hsrc) hg O (by rw [hf3]; exact hfit);obtain ⟨q,hq⟩:∃ q,q=grownCap w (es.length+ys.length) cap e:=⟨_,rfl⟩
 rw [<- hq] at hrun
 have hqn:es.length+ys.length<=q:=by
  rw [hq]; unfold grownCap; simp only [Question.cut]; omega
 have hzs:z.cells.size=ie.size:=by rw [<- hzl,<- hf5,ur]
 have hnl:news.length=ys.length*ie.size:=hsrc.newsLen;obtain ⟨c,hc⟩:∃ c,c=(olds++news).toArray++Builtin.zeroCells z.cells (q-(es.length+ys.length)):=⟨_,rfl⟩
 rw [<- hc] at hrun
 have CJ:c.size=q*ie.size:=by
  rw [hc];simp only [Array.size_append,List.size_toArray,n8,hol,hnl,size_zeroCells,hzs];obtain ⟨r,rfl⟩:∃ r,q=es.length+ys.length+r:=⟨q-(es.length+ys.length),by omega⟩
  rw [Nat.add_sub_cancel_left,th,th]
 have hf:=hs.drew.fresh D hDl k hDk (λ o=>o=q*ie.size) c e;have CL:=gJ (w:=w.drew) (T:=λ o=>o=q*ie.size) (ob:=.cells c e) hs.drew.lt;have hlenA:(es++ys).length=es.length+ys.length:=n8
 have hrep:ARep (w.drew.alloc (.cells c e)) ⟨λ b o=>g.st b o\/(b=w.drew.heap.size/\o=q*ie.size),λ i=>if i=k then some w.drew.heap.size else if D i then none else g.ow i⟩ (.stk k ie.size (es++ys)) (.slice (some ⟨w.drew.heap.size,0,none⟩) (es++ys).length q):=by
  refine .stk G bG CJ O (λ x hx=>?_) (λ x hx c hc=>?_) (λ o=>?_) (λ i x j p hx hp=>?_)
  ·rcases List.mem_append.1 hx with hx|hx
   ·exact hsze x hx
   ·exact hszy x hx
  ·rcases List.mem_append.1 hx with hx|hx
   ·exact CH x hx c hc
   ·obtain ⟨i,hi⟩:=List.mem_iff_getElem?.1 hx;obtain ⟨j,hj⟩:=List.mem_iff_getElem?.1 hc;exact (hnews i x j c hi hj).1
  ·constructor
   ·rintro (h|⟨_,h⟩)
    ·exact absurd (hs.lt _ _ h) (Nat.lt_irrefl _)
    ·exact h
   ·intro h; exact .inr ⟨rfl,h⟩
  ·have hjl:j<x.cells.length:=(List.getElem?_eq_some_iff.1 hp).1
   have hget:∀ m,m<olds.length+news.length->c[m]? = if m<olds.length then olds[m]? else news[m-olds.length]?:=by
    intro m hm;rw [hc,Array.getElem?_append];simp only [List.size_toArray,n8];rw [if_pos hm,List.getElem?_toArray,List.getElem?_append]
   rw [List.getElem?_append] at hx;split at hx
   ·rename_i hlt;rw [hsze x (List.mem_of_getElem? hx)] at hjl;have:=ku hlt hjl;obtain ⟨u,hu,hr⟩:=hoc i x j p hx hp;exact ⟨u,by rw [hget _ O,if_pos O]; exact hu,(PRep.mono (w:=w) (w':=w.drew) (st:=g.st) (st':=g.st) (λ b o h=>⟨h,rfl⟩) hr).mono CL⟩
   ·rename_i hge;rw [hszy x (List.mem_of_getElem? hx)] at hjl;have hil:i-es.length<ys.length:=(List.getElem?_eq_some_iff.1 hx).1;have:=ku hil hjl;obtain ⟨k1,u,hu,hr⟩:=hnews (i-es.length) x j p hx hp
    have e1:i*ie.size+j=es.length*ie.size+((i-es.length)*ie.size+j):=by
     rw [<- Nat.add_assoc,<- th]; congr 2; omega
    exact ⟨u,by rw [hget _ O,if_neg O,e1,hol,Nat.add_sub_cancel_left]; exact hu,(PRep.mono (w:=w) (w':=w.drew) (st:=g.st) (st':=g.st) (λ b o h=>⟨h,Z⟩) hr).mono CL⟩
 rw [hlenA] at hrep;have hp:=hf.put (d:=some d) (λ t ht=>by cases ht; exact mv ▸ hn) hrep;exact ⟨_,_,_,hrun,hp⟩
theorem rL {t tx e e':TypeId}{x y:Operand}{k sz:Nat}{es:List PV}{X Y0z:AV}{ys:List PV}{i ie j:TI}(ho:o.op=.call { callee:=.builtin .append,args:=#[x,y],argTypes:=#[t,tx] })(hd:o.dst=some d)(hn:Nat.blt d C.n=true)
  (hi:look C.tt t=some i) (CR:i.k=.slice e) (hie:look C.tt e=some ie) (hj:look C.tt tx=some j) (hjk:j.k=.slice e') (hx:evo sl x=some X) (hX:X.sub (.stk k sz es)) (hk:Nat.blt k M1=true)
  (hy:evo sl y=some Y0z) (hY:Y0z.elems? = some ys) (hszy:∀ y∈ys,y.cells.length=sz) (hys:0<ys.length) (h1s:ie.size=sz) (h0:Nat.blt 0 sz=true) (hzl:Nat.beq ie.zero.length ie.size=true)
  (CE:(es.length+ys.length)*ie.bytes<=140737488355328) (hlen':es.length+ys.length<=9223372036854775807)
  (hK:K ⟨(d,.stk k sz (es++ys))::(bV (λ i=>Nat.beq i k) ⟨sl,ob⟩).sl,(bV (λ i=>Nat.beq i k) ⟨sl,ob⟩).ob⟩):aO C o K ⟨sl,ob⟩:=by
 have hzl':=bx hzl;have hk':k<M1:=mv ▸ hk;have h0':0<sz:=mv ▸ h0
 have hDl:∀ i,(Nat.beq i k)=true->i<M1:=by
  intro i hi;have:=bx hi; omega
 intro g a w hs;have hxr:=hX _ _ _ (bg hs hx);generalize hxv:a.eval x=xv at hxr
 have hrun0:∀ v w',(Builtin.append_ #[t,tx] o.type #[xv,a.eval y]).run C.P w=.ok v w'->(execOp a.eval o).run C.P w=.ok (.value v) w':=by
  intro v w' h;rw [cZ ho];simp [builtin,hxv,h]
 cases hxr with
 | stkn=>
  obtain ⟨v,w',g',hr',hst'⟩:=o3 (es:=[]) (k:=k) (λ i=>Nat.beq i k) hDl G hi CR hie hj hjk hy hY hszy G G  h1s h0' hzl' CE hlen' hs none 0 [] (run_firstCells_none w.drew ie.size 0 0 0) G (λ i x j p hx=>by simp at hx) (by simpa using hys) o.type hn;unfold Oper.wp;rw [hrun0 _ _ hr'];simp only [Oper.upon,hd];exact ⟨g',_,hst',hK⟩
 | stke=>
  rename_i a0;obtain ⟨v,w',g',hr',hst'⟩:=o3 (es:=[]) (k:=k) (λ i=>Nat.beq i k) hDl G hi CR hie hj hjk hy hY hszy G G  h1s h0' hzl' CE hlen' hs (some a0) 0 [] (run_firstCells_some w.drew ie.size 0 a0 0 0 [] G G) G (λ i x j p hx=>by simp at hx) (by simpa using hys) o.type hn;unfold Oper.wp;rw [hrun0 _ _ hr'];simp only [Oper.upon,hd];exact ⟨g',_,hst',hK⟩
 | stk how hb CJ hlenc hszc CH CN hr=>
  rename_i b cap c e0;subst h1s;by_cases hroom:es.length+ys.length<=cap
  ·obtain ⟨u,h1,h2⟩:=bc C.good hi;have h3:=aV (h2.trans CR);subst h3;obtain ⟨u',h1',h2'⟩:=bc C.good hj;have h3':=aV (h2'.trans hjk);subst h3';obtain ⟨info,hf1,hf2,hf3,z,hf4,hf5⟩:=dQ C.good hie;have hyv:=dr hY (bg hs hy);obtain ⟨news,hsrc,hnews⟩:=kx (P:=C.P) (sz:=ie.size) h1' hyv hszy h0';have hnl:news.length=ys.length*ie.size:=hsrc.newsLen
   have hfit:es.length*ie.size+news.length<=c.size:=by
    rw [hnl,CJ,<- th]; exact Nat.mul_le_mul_right _ hroom
   have hstc:=run_storeCells_at C.P b (es.length*ie.size) e0 news 0 c w hb (by simpa using hfit) hsrc.one;simp only [Nat.add_zero] at hstc;obtain ⟨c',hc'⟩:∃ c',c'=(c.toList.take (es.length*ie.size)++news++c.toList.drop (es.length*ie.size+news.length)).toArray:=⟨_,rfl⟩
   rw [<- hc'] at hstc;have hrr:=en t tx o.type e info h1 hf1 b es.length cap (a.eval y) ys.length news (by rw [hf2]; exact hsrc) hroom (by rw [hf2]; exact hstc)
   have hcell':∀ j,c'[j]? = if es.length*ie.size<=j/\j<es.length*ie.size+news.length then news[j-es.length*ie.size]? else c[j]?:=by
    intro j;rw [hc'];have:=fu c.toList news (es.length*ie.size) (by simpa using hfit) j;simpa using this
   have hcs':c'.size=cap*ie.size:=by rw [<- CJ,hc']; simp; omega
   have hin:=hs.inplace (λ i=>Nat.beq i k) hDl (k:=k) (d:=k) how G G  hb (c':=c') (hcs'.trans CJ.symm) (λ o h=>by
    have:=(CN o).1 h
    rw [Array.getElem?_eq_none O,Array.getElem?_eq_none O]) (λ o=>o=cap*ie.size) (λ o h=>(CN o).1 h)
   have hEv:Ev w g.st (w.setRow b c') (λ b' o=>(b'=b/\o=cap*ie.size)\/(b'≠b/\g.st b' o)):=by
    intro b' o h;by_cases e1:b'=b
    ·subst e1;have ho:=(CN o).1 h;refine ⟨.inl ⟨rfl,ho⟩,?_⟩;simp only [World.cell?,setRow_heap w b' c c' e0 (0,0) hb,hb];rw [Array.getElem?_eq_none O,Array.getElem?_eq_none O]
    ·exact ⟨.inr ⟨e1,h⟩,by simp only [World.cell?,setRow_other w b b' c' e1]⟩
   have hlenA:(es++ys).length=es.length+ys.length:=n8
   have hrep:ARep (w.setRow b c') ⟨λ b' o=>(b'=b/\o=cap*ie.size)\/(b'≠b/\g.st b' o),λ i=>if i=k then some b else if (Nat.beq i k) then none else g.ow i⟩ (.stk k ie.size (es++ys)) (.slice (some ⟨b,0,none⟩) (es++ys).length cap):=by
    refine .stk G (setRow_heap w b c c' e0 (0,0) hb) hcs' O (λ x hx=>?_) (λ x hx c hc=>?_) (λ o=>?_) (λ i x j p hx hp=>?_)
    ·rcases List.mem_append.1 hx with hx|hx
     ·exact hszc x hx
     ·exact hszy x hx
    ·rcases List.mem_append.1 hx with hx|hx
     ·exact CH x hx c hc
     ·obtain ⟨i,hi⟩:=List.mem_iff_getElem?.1 hx;obtain ⟨j,hj⟩:=List.mem_iff_getElem?.1 hc;exact (hnews i x j c hi hj).1
    ·constructor
     ·rintro (⟨_,h⟩|⟨h,_⟩)
      ·exact h
      ·exact absurd Z h
     ·intro h; exact .inl ⟨rfl,h⟩
    ·have hjl:j<x.cells.length:=(List.getElem?_eq_some_iff.1 hp).1;rw [List.getElem?_append] at hx;split at hx
     ·rename_i hlt;rw [hszc x (List.mem_of_getElem? hx)] at hjl;have:=ku hlt hjl;obtain ⟨u,hu,hr⟩:=hr i x j p hx hp;exact ⟨u,by rw [hcell',if_neg O]; exact hu,hr.mono hEv⟩
     ·rename_i hge;rw [hszy x (List.mem_of_getElem? hx)] at hjl;have hil:i-es.length<ys.length:=(List.getElem?_eq_some_iff.1 hx).1;have:=ku hil hjl;obtain ⟨_,u,hu,hr⟩:=hnews (i-es.length) x j p hx hp
      have e1:i*ie.size+j=es.length*ie.size+((i-es.length)*ie.size+j):=by
       rw [<- Nat.add_assoc,<- th]; congr 2; omega
      exact ⟨u,by rw [hcell',if_pos O,e1,Nat.add_sub_cancel_left]; exact hu,hr.mono hEv⟩
   rw [hlenA] at hrep;have hp:=hin.put (d:=some d) (λ t ht=>by cases ht; exact mv ▸ hn) hrep;unfold Oper.wp;rw [hrun0 _ _ hrr];simp only [Oper.upon,hd];exact ⟨_,_,hp,hK⟩
  ·have hle:es.length*ie.size<=c.toList.length:=by
    have e1:c.toList.length=cap*ie.size:=ur.trans CJ;rw [e1]; exact Nat.mul_le_mul_right _ hlenc
   have hlenT:(c.toList.take (es.length*ie.size)).length=es.length*ie.size:=by
    rw [sm]; omega
   have hold:(Builtin.firstCells ie.size es.length (.slice (some ⟨b,0,none⟩) es.length cap)).run C.P w.drew=.ok (c.toList.take (es.length*ie.size)).toArray w.drew:=by
    refine run_firstCells_some w.drew ie.size es.length ⟨b,0,none⟩ es.length cap _ hlenT (λ j v hv=>?_);rw [List.getElem?_take] at hv;split at hv
    ·rw [add_lit,rd,World.cell?_drew];simp only [World.cell?,hb];simpa using hv
    ·cases hv
   obtain ⟨v,w',g',hr',hst'⟩:=o3 (es:=es) (k:=k) (λ i=>Nat.beq i k) hDl G hi CR hie hj hjk hy hY hszy hszc CH rfl h0' hzl' CE hlen' hs (some ⟨b,0,none⟩) cap (c.toList.take (es.length*ie.size))
    hold hlenT (λ i x j p hx hp=>by
     obtain ⟨u,hu,hr⟩:=hr i x j p hx hp;have hjl:j<x.cells.length:=(List.getElem?_eq_some_iff.1 hp).1;rw [hszc x (List.mem_of_getElem? hx)] at hjl;have:=ku (List.getElem?_eq_some_iff.1 hx).1 hjl
     exact ⟨u,by rw [List.getElem?_take,if_pos this]; simpa using hu,hr⟩) O o.type hn
   unfold Oper.wp;rw [hrun0 _ _ hr'];simp only [Oper.upon,hd];exact ⟨g',_,hst',hK⟩
theorem tH {t tx e e':TypeId}{x y:Operand}{k sz:Nat}{es:List PV}{Y0z:AV}{ys:List PV}{i ie j:TI}(ho:o.op=.call { callee:=.builtin .append,args:=#[x,y],argTypes:=#[t,tx] })(hd:o.dst=some d)(hn:Nat.blt d C.n=true)
  (hi:look C.tt t=some i) (CR:i.k=.slice e) (hie:look C.tt e=some ie) (hj:look C.tt tx=some j) (hjk:j.k=.slice e') (hx:evo sl x=some (.stk k sz es)) (hk:Nat.blt k M1=true)
  (hy:evo sl y=some Y0z) (hY:Y0z.elems? = some ys) (hszy:∀ y∈ys,y.cells.length=sz) (hys:0<ys.length) (h1s:ie.size=sz) (h0:Nat.blt 0 sz=true) (hzl:Nat.beq ie.zero.length ie.size=true)
  (CE:(es.length+ys.length)*ie.bytes<=140737488355328) (hlen':es.length+ys.length<=9223372036854775807)
  (hK:K ⟨(d,.stk k sz (es++ys))::(bV (λ i=>Nat.beq i k) ⟨sl,ob⟩).sl,(bV (λ i=>Nat.beq i k) ⟨sl,ob⟩).ob⟩):aO C o K ⟨sl,ob⟩ :=
 rL ho hd hn hi CR hie hj hjk hx (AV.sub_refl _) hk hy hY hszy hys h1s h0 hzl CE hlen' hK
def upK (tok sz n:Nat)(z:PV)(x:AV):AV:=match x with
 | .stk t s es=>bif Nat.beq t tok then (bif Nat.beq s sz then .stk t s (es.set n z) else .undef) else .stk t s es
 | x=>x.dem (Nat.beq · tok)
def AQ (tok sz n:Nat)(z:PV):List AV->Option (List AV)
 | []=>some []
 | x::r=>(match frc (upK tok sz n z x) with
  | some y=>(match AQ tok sz n z r with|some l=>some (y::l)|none=>none)
  | none=>none)
theorem wn {tok sz n:Nat}{z:PV}:∀ {l l':List AV},AQ tok sz n z l=some l'->l'=l.map (upK tok sz n z)
 | [],l',h=>by cases h; rfl
 | x::r,l',h=>by
  unfold AQ at h;split at h
  ·rename_i y hy;split at h
   ·rename_i m hm; cases h; rw [pR hy,wn hm]; rfl
   ·cases h
  ·cases h
def td (tok sz n:Nat)(z:PV):List (Nat×List AV)->Option (List (Nat×List AV))
 | []=>some []
 | (i,cs)::r=>(match Nat.beq i tok with
  | true=>td tok sz n z r
  | false=>(match AQ tok sz n z cs with
   | some ds=>(match td tok sz n z r with|some l=>some ((i,ds)::l)|none=>none)
   | none=>none))
theorem mE {tok sz n:Nat}{z:PV}:∀ {l l':List (Nat×List AV)},td tok sz n z l=some l'->∀ id cs,look l' id=some cs->id≠tok/\∃ ds,look l id=some ds/\cs=ds.map (upK tok sz n z)
 | [],l',h,id,cs,hc=>by cases h; cases hc
 | (i,xs)::r,l',h,id,cs,hc=>by
  unfold td at h;split at h
  ·rename_i hb;obtain ⟨h1,ds,h2,h3⟩:=mE h id cs hc;have hi:=bx hb;refine ⟨h1,ds,?_,h3⟩;rw [aJ,if_neg (λ e'=>h1 O)];exact h2
  ·rename_i hb;have hi:i≠tok:=λ e=>by subst e; simp at hb
   split at h
   ·rename_i ds hds;split at h
    ·rename_i m hm
     cases h
     rw [aJ] at hc ⊢;by_cases e1:i=id
     ·subst e1;rw [if_pos rfl] at hc ⊢
      cases hc
      exact ⟨hi,xs,Z,wn hds⟩
     ·rw [if_neg e1] at hc ⊢;exact mE hm id cs hc
    ·cases h
   ·cases h
theorem qy {z:PV}(hc:(AV.p z).cellsA=some (z.cells.map .p)){x:PV}(hx:x∈z.cells):x.one=true:=by
 have h9:PV.onesB z.cells=true\/z.one=true:=by
  cases z with
  | agg cs=>
   simp only [AV.cellsA] at hc
   cases ho:PV.onesB cs
   ·rw [ho] at hc; cases hc
   ·exact .inl ho
  | val _=>
   simp only [AV.cellsA] at hc;rename_i v0
   cases ho:v0.oneCell'
   ·rw [ho] at hc; cases hc
   ·exact .inr ho
  | slice _=>exact .inr Z
  | ifc=>exact .inr Z
  | aint _=>exact .inr Z
 rcases h9 with h9|h9
 ·exact eW h9 x hx
 ·have:z.cells=[z]:=by cases z <;> first|rfl|(simp [PV.one] at h9)
  rw [this] at hx;rw [List.mem_singleton.1 hx]; exact h9
theorem nQ {t:TypeId}{x v:Operand}{i:TI}{tok sz n off:Nat}{es:List PV}{z:PV}{Y0z:AV}{sl':List (Nat×AV)}{ob':List (Nat×List AV)}(ho:o.op=.store t x v)(hd:o.dst=none)
  (hi:look C.tt t=some i) (hiz:i.size=sz) (hx:evo sl x=some (.ptr tok off)) (hoff:off=n*sz) (hq:∀ {g:Gh} {a:Act} {w:World},St C.n C.w0 C.F g ⟨sl,ob⟩ a w->∃ u,ARep w g (.stk tok sz es) u) (hn:n<es.length)
  (hv:evo sl v=some Y0z) (hY:Y0z.sub (.p z)) (hc:(AV.p z).cellsA=some (z.cells.map .p)) (hcl:Nat.beq z.cells.length sz=true) (htok:Nat.blt tok M1=true)
  (h1:sl'=sl.map λ p=>(p.1,upK tok sz n z p.2)) (h2:td tok sz n z ob=some ob') (hK:K ⟨sl',ob'⟩):aO C o K ⟨sl,ob⟩:=by
 subst hiz h1 hoff;have htl:tok<M1:=mv ▸ htok;have hcl':=bx hcl;intro g a w hs;have h5:=bg hs hx;have h6:ARep w g (.p z) (a.eval v):=hY _ _ _ (bg hs hv);obtain ⟨vq,h7⟩:=hq hs;obtain ⟨hs1,hs2⟩:=io hc h6;rw [n6] at hs1;generalize CL:a.eval x=u at h5
 cases h5 with
 | ptr how=>
 rename_i b
 cases h7 with
 | stkn=>simp at hn
 | stke=>simp at hn
 | stk how0 k2 CJ CE CC CH CN hr=>
  rename_i b0 cap c e;rw [how] at how0; cases how0;obtain ⟨p,hpd⟩:∃ p,p=n*i.size:=⟨_,rfl⟩
  rw [<- hpd] at CL
  have hp:p+i.size<=c.size:=by
   have:=Nat.mul_le_mul_right i.size (show n+1<=cap by omega);rw [th,Nat.one_mul] at this;rw [hpd,CJ]; exact this
  have hone1:∀ u∈(a.eval v).cells.toList,u.oneCell'=true:=by
   intro u hu;obtain ⟨j,hj,rfl⟩:=List.getElem_of_mem hu;simp only [ur] at hj;exact (hs2 j ((z.cells.map AV.p)[j]'(by simp; omega)) _ (List.getElem?_eq_getElem (by simp; omega)) (by simp [hj])).2
  have hstc:=run_storeCells_at C.P b p e (a.eval v).cells.toList 0 c w k2 (by simp; omega) hone1;simp only [Nat.add_zero,ur] at hstc;obtain ⟨c',hc'⟩:∃ c',c'=(c.toList.take p++(a.eval v).cells.toList++c.toList.drop (p+(a.eval v).cells.size)).toArray:=⟨_,rfl⟩
  rw [<- hc'] at hstc;have hsz':=run_sizeOf C.good hi w;have CQ:(a.eval v).cells.size=i.size:=hs1.trans hcl';unfold Oper.wp
  have hrun:(execOp a.eval o).run C.P w=.ok .skip (w.setRow b c'):=by
   simp [execOp,ho,CL,Instr.storeAt,Instr.sureAddr,storeVar,hsz',CQ,hstc]
  rw [hrun];simp only [Oper.upon,hd,Act.put]
  have CP:∀ j,c'[j]? = if p<=j/\j<p+i.size then (a.eval v).cells[j-p]? else c[j]?:=by
   intro j;rw [hc'];have:=fu c.toList (a.eval v).cells.toList p (by simp; omega) j;simp only [ur,Array.getElem?_toList,CQ] at this;simpa [CQ] using this
  have hsize':c'.size=c.size:=by
   rw [hc']; simp; omega
  have hev':Ev w g.st (w.setRow b c') g.st:=by
   intro b2 o2 h2;by_cases e1:b2=b
   ·subst e1;have:=(CN o2).1 h2;refine ⟨h2,?_⟩;simp only [World.cell?,k2,setRow_heap w b2 c c' e (0,0) k2];have h7:=CP o2;rw [if_neg O] at h7;simpa using h7
   ·exact ⟨h2,by simp only [World.cell?,setRow_other w b b2 c' e1]⟩
  have Fb:∀ id b2,Nat.beq id tok=false->g.ow id=some b2->b2≠b:=λ id b2 hD h e=>by
   subst e;have:=hs.inj id tok b2 h how;subst this;simp at hD
  have hE:EvO (Nat.beq · tok) w g (w.setRow b c') g:=by
   refine ⟨hev',λ id b2 _ h=>h,λ id b2 c2 e2 hD h h2=>⟨c2,(setRow_other w b b2 c' (Fb id b2 hD h)).trans h2,Z⟩,λ id b2 o2 hD h h3=>h3,λ id b2 es2 k2' hD h h2=>(setRow_other w b b2 c' (Fb id b2 hD h)).trans h2,λ i hi=>?_,λ id b2 o2 hD h _=>setRow_other w b b2 c' (Fb id b2 hD h)⟩
   cases hq:Nat.beq i tok
   ·rfl
   ·have:=bx hq; have:=nN hi; omega
  have hup:∀ {y:AV} {u:Value},ARep w g y u->ARep (w.setRow b c') g (upK tok i.size n z y) u:=by
   intro y u h;unfold upK;split
   ·rename_i t s es1
    cases hq:Nat.beq t tok
    ·have:=h.dem hE;simpa [AV.dem,hq] using this
    ·have e1:=bx hq;subst e1;simp only [cond_true]
     cases hq2:Nat.beq s i.size
     ·exact .undef _
     ·have e2:=bx hq2;subst e2;simp only [cond_true]
      cases h with
      | stkn=>exact .stkn _ _
      | stke=>exact .stke _ _ _
      | stk how2 hb2 hcs2 hlen2 hsz2 hone2 hst2 hr2=>
       rename_i b2 cap2 c2 e2;rw [how] at how2; cases how2;rw [k2] at hb2; cases hb2;have hl:(es1.set n z).length=es1.length:=List.length_set;rw [<- hl];refine .stk how (setRow_heap w b c c' e (0,0) k2) (hsize'.trans hcs2) O (λ x hx=>?_) (λ x hx y hy=>?_) hst2 (λ k x j p1 hx hp1=>?_)
       ·rcases List.mem_or_eq_of_mem_set hx with hx|rfl
        ·exact hsz2 x hx
        ·exact hcl'
       ·rcases List.mem_or_eq_of_mem_set hx with hx|rfl
        ·exact hone2 x hx y hy
        ·exact qy hc hy
       ·rw [List.getElem?_set] at hx;split at hx
        ·rename_i hnk;subst hnk;split at hx
         ·simp only [aq] at hx;subst hx;have hjl:j<z.cells.length:=(List.getElem?_eq_some_iff.1 hp1).1;have hjc:j<(a.eval v).cells.size:=by omega
          have h8:=hs2 j (.p p1) _ (by simp [hp1]) (Array.getElem?_eq_getElem hjc);refine ⟨(a.eval v).cells[j],?_,?_⟩
          ·rw [CP,<- hpd,if_pos ⟨by omega,by omega⟩];rw [show p+j-p=j by omega];exact Array.getElem?_eq_getElem hjc
          ·cases h8.1 with
           | p hr=>exact hr.mono hev'
         ·cases hx
        ·rename_i hnk;obtain ⟨u,hu,hrr⟩:=hr2 k x j p1 hx hp1;have hjl:j<i.size:=by rw [<- hsz2 x (List.mem_of_getElem? hx)]; exact (List.getElem?_eq_some_iff.1 hp1).1
         refine ⟨u,?_,hrr.mono hev'⟩;rw [CP,if_neg ?_]
         ·exact hu
         ·rw [hpd];rcases Nat.lt_or_gt_of_ne hnk with h9|h9
          ·have:=Nat.mul_le_mul_right i.size (show n+1<=k from h9);rw [th,Nat.one_mul] at this; omega
          ·have:=Nat.mul_le_mul_right i.size (show k+1<=n from h9);rw [th,Nat.one_mul] at this; omega
   ·exact h.dem hE
  refine ⟨g,⟨sl.map λ p=>(p.1,upK tok i.size n z p.2),ob'⟩,?_,hK⟩;refine ⟨hs.nd,hs.sz,λ j=>?_,λ id' cs' h'=>?_,hs.inj,λ j b2 h=>?_,λ b2 o2 h=>?_,hs.fl,λ b2 h=>?_,hs.os,hs.out,hs.tape,?_,hs.stf,hs.owf,hs.shf.next (λ _ b c e _ _ h=>(lC k2 hsize').1 b c e h),hs.nst,hs.ev0.trans hev'⟩
  ·have h:=hs.sl j;simp only [AS.get,ep];simp only [AS.get] at h
   cases hl:look sl j with
   | none=>simp only [Option.map_none,Option.getD_none]; exact .undef _
   | some x=>rw [hl] at h; simpa using hup h
  ·obtain ⟨hne',ds,m1,rfl⟩:=mE h2 id' cs' h';obtain ⟨b2,c2,e2,n1,n2,n3,n4,n5⟩:=hs.ob id' ds m1
   have hD:Nat.beq id' tok=false:=by
    cases hq:Nat.beq id' tok
    ·rfl
    ·exact absurd (bx hq) hne'
   have hb2:=Fb id' b2 hD n1;refine ⟨b2,c2,e2,n1,(setRow_other w b b2 c' hb2).trans n2,by simpa using n3,n4,λ j y hy=>?_⟩;simp only [List.getElem?_map,ld] at hy;obtain ⟨y0,hy0,rfl⟩:=hy;obtain ⟨u,hu,hr⟩:=n5 j y0 hy0;exact ⟨u,hu,hup hr⟩
  ·have:=hs.own j b2 h; exact ⟨by simpa using this.1,this.2⟩
  ·have:=hs.lt b2 o2 h; simpa using this
  ·have CQ:b2≠b:=λ e=>(hs.own tok b how).2 (e ▸ h);exact (setRow_other w b b2 c' CQ).trans (hs.fr b2 h)
  ·have:=hs.size; simpa using this
theorem yp {q tok sz:Nat}{es:List PV}(hq:look sl q=some (.stk tok sz es)){g:Gh}{a:Act}{w:World}(hs:St C.n C.w0 C.F g ⟨sl,ob⟩ a w):∃ u,ARep w g (.stk tok sz es) u:=by
 have h7:=hs.sl q;simp only [AS.get,hq,rg] at h7;exact ⟨_,h7⟩
theorem yw {id j tok sz:Nat}{cs:List AV}{es:List PV}(hq:look ob id=some cs)(hj:cs[j]? = some (.stk tok sz es)){g:Gh}{a:Act}{w:World}(hs:St C.n C.w0 C.F g ⟨sl,ob⟩ a w):∃ u,ARep w g (.stk tok sz es) u:=by
 obtain ⟨b2,c2,e2,n1,n2,n3,n4,n5⟩:=hs.ob id cs hq;obtain ⟨u,_,hr⟩:=n5 j _ hj;exact ⟨u,hr⟩
theorem o5 {t e:TypeId}{x y:Operand}{i ie:TI}{k:IntKind}{n:Int}{id sz:Nat}{es:List PV}(ho:o.op=.indexAddr t x y)(hd:o.dst=some d)(hn:Nat.blt d C.n=true)
  (hi:look C.tt t=some i) (CR:i.k=.slice e) (hie:look C.tt e=some ie) (hx:evo sl x=some (.stk id sz es))
  (hy:evo sl y=some (.p (.val (.int k n)))) (CC:ie.size=sz) (hb:0<=n/\n<(es.length:Int))
  (hK:K ⟨(d,.ptr id (n.toNat*sz))::sl,ob⟩):aO C o K ⟨sl,ob⟩:=by
 obtain ⟨u,h1,h2⟩:=bc C.good hi;have h3:=aV (h2.trans CR);subst h3;refine ok_one hd hn (λ g a w hs=>?_) hK;have h5:=bg hs hx;generalize hv:a.eval x=v at h5
 cases h5 with
 | stkn=>simp at hb; omega
 | stke=>simp at hb; omega
 | stk how hb' CJ hlenc hszc CH CN hr=>
  rename_i b cap c e';exact ⟨.pointer (some ⟨b,n.toNat*sz,none⟩),by simp [execOp,ho,hv,bQ hs hy,Instr.indexAt,asIntOf,run_underlying h1,hb.1,hb.2,run_sizeOf C.good hie,CC,add_lit],.ptr how⟩
theorem xU {id sz:Nat}{es:List PV}{q:Nat}{sl':List (Nat×AV)}{ob':List (Nat×List AV)}(hid:id<M1)(hq:look sl q=some (.stk id sz es))(h1:dmS (Nat.beq · id) sl=some sl')(h2:dmO (Nat.beq · id) ob=some ob') :
  bY C ⟨sl,ob⟩ ⟨(q,.p (.slice es))::sl',ob'⟩:=by
 intro g a w hs;have h6:=hs.sl q;simp only [AS.get,hq,rg] at h6
 have drop:∀ (st':Nat->Nat->Prop),(∀ b o,g.st b o->st' b o)->(∀ i b,i≠id->g.ow i=some b->∀ o,st' b o->g.st b o)->(∀ b o,st' b o->b<w.heap.size)->(∀ b,C.F b->∀ o,st' b o↔g.st b o) ->
   St C.n C.w0 C.F ⟨st',λ i=>if i=id then none else g.ow i⟩ (bV (Nat.beq · id) ⟨sl,ob⟩) a w:=by
  intro st' k1 k2 k3 k4;refine hs.evolve (Nat.beq · id) (zg hid) (λ b o h=>⟨k1 b o h,rfl⟩) (λ i b hD h=>?_) (λ i j b h1 h2=>?_) (λ i b h=>?_) k3 (λ b h=>rfl) Z Z Z (bt _) k4 (λ i hi=>?_)
  ·have CQ:i≠id:=λ e=>by subst e; simp at hD
   exact ⟨by simp only [if_neg CQ]; exact h,Z,k2 i b CQ h⟩
  ·dsimp only at h1 h2;split at h1
   ·cases h1
   ·split at h2
    ·cases h2
    ·exact hs.inj i j b h1 h2
  ·dsimp only at h;split at h
   ·cases h
   ·exact hs.own i b h
  ·dsimp only; rw [if_neg O]
 obtain ⟨g',hs',hrep⟩:∃ g',St C.n C.w0 C.F g' (bV (Nat.beq · id) ⟨sl,ob⟩) a w/\ARep w g' (.p (.slice es)) (a.tmps.getD q Go.undef):=by
  generalize a.tmps.getD q Go.undef=vq at h6
  cases h6 with
  | stkn=>exact ⟨_,drop g.st (λ _ _ h=>h) (λ _ _ _ _ _ h=>h) hs.lt (λ _ _ _=>Iff.rfl),.p .nils⟩
  | stke=>exact ⟨_,drop g.st (λ _ _ h=>h) (λ _ _ _ _ _ h=>h) hs.lt (λ _ _ _=>Iff.rfl),.p (.nile _)⟩
  | stk how hb CJ CE CC CH CN hr=>
   rename_i b cap c e;have hown:=hs.own id b how;refine ⟨_,drop (λ b' o=>g.st b' o\/(b'=b/\o<es.length*sz)) (λ _ _ h=>.inl h) (λ i b' CQ h o h2=>?_) (λ b' o h=>?_) (λ b' hF o=>?_),.p ?_⟩
   ·rcases h2 with h2|⟨h2,_⟩
    ·exact h2
    ·subst h2; exact absurd (hs.inj i id b' h how) CQ
   ·rcases h with h|⟨h,_⟩
    ·exact hs.lt b' o h
    ·subst h; exact hown.1
   ·constructor
    ·rintro (h|⟨h,_⟩)
     ·exact h
     ·subst h; exact absurd hF hown.2
    ·exact .inl
   ·refine .slice sz (λ i j=>(c[i*sz+j]?).getD Go.undef) CE CC CH (λ i x j p hx hp=>?_) (λ i x j p hx hp=>?_)
    ·obtain ⟨v,h3,h4⟩:=hr i x j p hx hp;have hil:i<es.length:=(List.getElem?_eq_some_iff.1 hx).1;have hjl:j<sz:=by have:=(List.getElem?_eq_some_iff.1 hp).1; rw [CC x (List.mem_of_getElem? hx)] at this; exact this
     have:=ku hil hjl;refine ⟨.inr ⟨Z,by omega⟩,?_⟩;simp only [World.cell?,hb,rd];rw [h3];simp
    ·obtain ⟨v,h3,h4⟩:=hr i x j p hx hp;rw [h3];exact h4.mono λ b o h=>⟨.inl h,rfl⟩
 refine ⟨g',?_⟩;rw [pV h1,jE h2];refine { hs' with sl:=λ i=>?_ };simp only [AS.get,aJ];by_cases e:q=i
 ·subst e; rw [if_pos rfl]; exact hrep
 ·rw [if_neg e]; exact hs'.sl i
theorem wR {t e:Nat}{x y:Operand}{i ie:TI}{k k':IntKind}{m:Int}(ho:o.op=.makeSlice t x y)(hd:o.dst=some d)(hn:Nat.blt d C.n=true)
  (hi:look C.tt t=some i) (CR:i.k=.slice e) (hie:look C.tt e=some ie) (hx:evo sl x=some (.p (.val (.int k 0)))) (hy:evo sl y=some (.p (.val (.int k' m))))
  (hb:0<=m/\m<=9223372036854775807/\(ie.bytes:Int)*m<=281474976710656) {sz:Nat} (CC:ie.size=sz) {ob':List (Nat×List AV)} (hob:dmO (λ i=>Nat.beq i d) ob=some ob')
  (hK:K ⟨(d,.stk d sz [])::(bV (λ i=>Nat.beq i d) ⟨sl,ob⟩).sl,ob'⟩):aO C o K ⟨sl,ob⟩:=by
 subst CC;have e1:=(jE hob).symm;have hdl:d<M1:=by have h1:=ph C.nl; have h2:d<C.n:=mv ▸ hn; omega
 intro g a w hs;obtain ⟨c,hc,hrun⟩:=wQ C.good hi CR hie k k' hb w;have hf:=hs.fresh (λ i=>Nat.beq i d) (λ i hi=>by have:=bx hi; omega) d G (λ o=>o=m.toNat*ie.size) c e
 have hp:=hf.put (d:=some d) (λ t ht=>by cases ht; exact mv ▸ hn) (x:=.stk d ie.size []) (v:=.slice (some ⟨w.heap.size,0,none⟩) 0 m.toNat)
  (.stk (es:=[]) (cap:=m.toNat) G bG (by simpa using hc) (Nat.zero_le _) G G  (λ o=>by
   constructor
   ·rintro (h|⟨_,h⟩)
    ·exact absurd (hs.lt _ _ h) (Nat.lt_irrefl _)
    ·exact h
   ·intro h; exact .inr ⟨rfl,h⟩) (λ i x j p hx=>by simp at hx))
 unfold Oper.wp
 have hrun':(execOp a.eval o).run C.P w=.ok (.value (.slice (some ⟨w.heap.size,0,none⟩) 0 m.toNat)) (w.alloc (.cells c e)):=by
  simp only [execOp,ho,bQ hs hx,bQ hs hy,Sem.run_bind,hrun,Result.andThen_ok,Sem.run_pure]
 rw [hrun'];simp only [Oper.upon,hd];rw [<- show (bV (λ i=>Nat.beq i d) ⟨sl,ob⟩).ob=ob' from e1] at hK;exact ⟨_,_,hp,hK⟩
end
mutual
def AV.stl (tok:Nat):AV->AV|.stk t s es=>bif Nat.beq t tok then .p (.slice es) else .stk t s es|.agg cs=>.agg (AV.stlL tok cs)|.tuple cs=>.tuple (AV.stlL tok cs)|x=>x.dem (Nat.beq · tok)
def AV.stlL (tok:Nat):List AV->List AV|[]=>[]|x::r=>x.stl tok::AV.stlL tok r
end
theorem sg (tok:Nat):∀ l:List AV,AV.stlL tok l=l.map (AV.stl tok)
 | []=>by rw [AV.stlL]; rfl
 | x::r=>by rw [AV.stlL,sg tok r]; rfl
theorem ARep.stl {tok:Nat}{w:World}{g g':Gh}(hE:EvO (Nat.beq · tok) w g w g')(hs:∀ b c e,g.ow tok=some b->w.heap[b]? = some (.cells c e (0,0))->∀ o,o<c.size->g'.st b o)
  {x:AV} {v:Value} (h:ARep w g x v):ARep w g' (x.stl tok) v:=by
 induction h with
 | agg hl h ih=>
  simp only [AV.stl,sg];refine .agg (by simpa using hl) λ i c v h1 h2=>?_;rw [List.getElem?_map] at h1;obtain ⟨x,hx,rfl⟩:=ld.1 h1;exact ih i x v hx h2
 | stkn t sz=>
  simp only [AV.stl]
  cases Nat.beq t tok
  ·exact .stkn _ _
  ·exact .p .nils
 | stke t sz a=>
  simp only [AV.stl]
  cases Nat.beq t tok
  ·exact .stke _ _ _
  ·exact .p (.nile _)
 | stk how hb CJ CE CC CH CN hr=>
  rename_i t sz es b cap c e;have hd:=(ARep.stk how hb CJ CE CC CH CN hr).dem hE;simp only [AV.stl];simp only [AV.dem] at hd
  cases hq:Nat.beq t tok
  ·rw [hq] at hd; exact hd
  ·have:=bx hq;subst this;refine .p (.slice sz (λ i j=>(c[i*sz+j]?).getD Go.undef) CE CC CH (λ i x j p hx hp=>?_) (λ i x j p hx hp=>?_))
   ·obtain ⟨v,h3,h4⟩:=hr i x j p hx hp;refine ⟨hs b c e how hb _ ?_,?_⟩
    ·have:=(Array.getElem?_eq_some_iff.1 h3).1;omega
    ·simp only [World.cell?,hb,rd];rw [h3];simp
   ·obtain ⟨v,h3,h4⟩:=hr i x j p hx hp;rw [h3];exact h4.mono hE.ev
 | undef v=>exact (ARep.undef v).dem hE
 | p h=>exact (ARep.p h).dem hE
 | vecn a b c=>exact (ARep.vecn a b c).dem hE
 | vece a b c=>exact (ARep.vece a b c).dem hE
 | vec h1 h2 h3 h4 h5 h6 h7=>exact (ARep.vec h1 h2 h3 h4 h5 h6 h7).dem hE
 | arr h1 h2 h3 h4=>exact (ARep.arr h1 h2 h3 h4).dem hE
 | ptr h1=>exact (ARep.ptr h1).dem hE
 | bptrn h1 h2 h3=>exact (ARep.bptrn h1 h2 h3).dem hE
 | bptr h1 h2 h3=>exact (ARep.bptr h1 h2 h3).dem hE
 | rptr a h1 h2=>exact (ARep.rptr a h1 h2).dem hE
 | tuple hl h ih=>
  simp only [AV.stl,sg];refine .tuple (by simpa using hl) λ i c v h1 h2=>?_;rw [List.getElem?_map] at h1;obtain ⟨x,hx,rfl⟩:=ld.1 h1;exact ih i x v hx h2
 | func hl h _=>exact (ARep.func hl h).dem hE
 | mp h1 h2 h3 h4 h5 h6=>exact (ARep.mp h1 h2 h3 h4 h5 h6).dem hE
 | mpr h1 h2 h3 h4 h5 h6 _=>exact (ARep.mpr h1 h2 h3 h4 h5 h6).dem hE
 | sem h1 h=>exact (ARep.sem h1 h).dem hE
 | it h1 h2 h3=>exact (ARep.it h1 h2 h3).dem hE
 | vecp h1 h2 h3 h4 h5 h6 h7 h8=>exact (ARep.vecp h1 h2 h3 h4 h5 h6 h7 h8).dem hE
 | elp h1 h2 h3 h4=>exact (ARep.elp h1 h2 h3 h4).dem hE
def Ac (tok:Nat):List AV->Option (List AV)
 | []=>some []
 | x::r=>(match frc (x.stl tok) with
  | some y=>(match Ac tok r with|some l=>some (y::l)|none=>none)
  | none=>none)
theorem vN {tok:Nat}:∀ {l l':List AV},Ac tok l=some l'->l'=l.map (AV.stl tok)
 | [],l',h=>by cases h; rfl
 | x::r,l',h=>by
  unfold Ac at h;split at h
  ·rename_i y hy;split at h
   ·rename_i m hm; cases h; rw [pR hy,vN hm]; rfl
   ·cases h
  ·cases h
def Ao (tok:Nat):List (Nat×AV)->Option (List (Nat×AV))
 | []=>some []
 | (i,x)::r=>(match frc (x.stl tok) with
  | some y=>(match Ao tok r with|some l=>some ((i,y)::l)|none=>none)
  | none=>none)
theorem vJ {tok:Nat}:∀ {l l':List (Nat×AV)},Ao tok l=some l'->l'=l.map λ p=>(p.1,p.2.stl tok)
 | [],l',h=>by cases h; rfl
 | (i,x)::r,l',h=>by
  unfold Ao at h;split at h
  ·rename_i y hy;split at h
   ·rename_i m hm; cases h; rw [pR hy,vJ hm]; rfl
   ·cases h
  ·cases h
def vk (tok:Nat):List (Nat×List AV)->Option (List (Nat×List AV))
 | []=>some []
 | (i,cs)::r=>(match Nat.beq i tok with
  | true=>vk tok r
  | false=>(match Ac tok cs with
   | some ds=>(match vk tok r with|some l=>some ((i,ds)::l)|none=>none)
   | none=>none))
theorem nk {tok:Nat}:∀ {l l':List (Nat×List AV)},vk tok l=some l'->∀ id cs,look l' id=some cs->id≠tok/\∃ ds,look l id=some ds/\cs=ds.map (AV.stl tok)
 | [],l',h,id,cs,hc=>by cases h; cases hc
 | (i,xs)::r,l',h,id,cs,hc=>by
  unfold vk at h;split at h
  ·rename_i hb;obtain ⟨h1,ds,h2,h3⟩:=nk h id cs hc;have hi:=bx hb;refine ⟨h1,ds,?_,h3⟩;rw [aJ,if_neg (λ e'=>h1 O)];exact h2
  ·rename_i hb;have hi:i≠tok:=λ e=>by subst e; simp at hb
   split at h
   ·rename_i ds hds;split at h
    ·rename_i m hm
     cases h
     rw [aJ] at hc ⊢;by_cases e1:i=id
     ·subst e1;rw [if_pos rfl] at hc ⊢
      cases hc
      exact ⟨hi,xs,Z,vN hds⟩
     ·rw [if_neg e1] at hc ⊢;exact nk hm id cs hc
    ·cases h
   ·cases h
theorem pc {C:Cx}{sl sl':List (Nat×AV)}{ob ob':List (Nat×List AV)}(tok:Nat)(hid:Nat.blt tok M1=true)(h1:sl'=sl.map λ p=>(p.1,p.2.stl tok))(h2:vk tok ob=some ob') :
  bY C ⟨sl,ob⟩ ⟨sl',ob'⟩:=by
 have hid':tok<M1:=mv ▸ hid;intro g a w hs;obtain ⟨st',hst'⟩:∃ st':Nat->Nat->Prop,∀ b o,st' b o↔g.st b o\/(g.ow tok=some b/\∃ c e,w.heap[b]? = some (.cells c e (0,0))/\o<c.size):=⟨_,λ _ _=>Iff.rfl⟩
 have k1:∀ b o,g.st b o->st' b o:=λ b o h=>(hst' b o).2 (.inl h)
 have k2:∀ i b,i≠tok->g.ow i=some b->∀ o,st' b o->g.st b o:=λ i b CQ h o h2=>by
  rcases (hst' b o).1 h2 with h3|⟨h3,_⟩
  ·exact h3
  ·exact absurd (hs.inj i tok b h h3) CQ
 obtain ⟨g',hg',how'⟩:∃ g':Gh,g'.st=st'/\∀ i,g'.ow i=if i=tok then none else g.ow i:=⟨⟨st',λ i=>if i=tok then none else g.ow i⟩,rfl,λ _=>rfl⟩
 have hs':St C.n C.w0 C.F g' (bV (Nat.beq · tok) ⟨sl,ob⟩) a w:=by
  refine hs.evolve (Nat.beq · tok) (zg hid') (λ b o h=>⟨by rw [hg']; exact k1 b o h,Z⟩) (λ i b hD h=>?_) (λ i j b h1 h2=>?_) (λ i b h=>?_) (λ b o h=>?_) (λ b h=>rfl) Z Z Z (bt _) (λ b hF o=>?_) (λ i hi=>?_)
  ·have CQ:i≠tok:=λ e=>by subst e; simp at hD
   exact ⟨by rw [how',if_neg CQ]; exact h,Z,by rw [hg']; exact k2 i b CQ h⟩
  ·rw [how'] at h1 h2;split at h1
   ·cases h1
   ·split at h2
    ·cases h2
    ·exact hs.inj i j b h1 h2
  ·rw [how'] at h;split at h
   ·cases h
   ·exact hs.own i b h
  ·rw [hg'] at h;rcases (hst' b o).1 h with h|⟨h,_⟩
   ·exact hs.lt b o h
   ·exact (hs.own tok b h).1
  ·rw [hg'];refine ⟨λ h=>?_,k1 b o⟩;rcases (hst' b o).1 h with h|⟨h,_⟩
   ·exact h
   ·exact absurd hF (hs.own tok b h).2
  ·rw [how',if_neg O]
 have hE:EvO (Nat.beq · tok) w g w g':=by
  refine ⟨λ b o h=>⟨by rw [hg']; exact k1 b o h,Z⟩,λ id b hD h=>?_,λ id b c e hD h hb=>⟨c,hb,Z⟩,λ id b o hD h h3=>?_,λ id b es k hD h hb=>hb,λ i hi=>?_,λ _ _ _ _ _ _=>rfl⟩
  ·have CQ:id≠tok:=λ e=>by subst e; simp at hD
   rw [how',if_neg CQ]; exact h
  ·have CQ:id≠tok:=λ e=>by subst e; simp at hD
   rw [hg'] at h3;exact k2 id b CQ h o h3
  ·cases hq:Nat.beq i tok
   ·rfl
   ·have:=bx hq; have:=nN hi; omega
 have hall:∀ b c e,g.ow tok=some b->w.heap[b]? = some (.cells c e (0,0))->∀ o,o<c.size->g'.st b o:=λ b c e h h2 o h3=>by
  rw [hg']; exact (hst' b o).2 (.inr ⟨h,c,e,h2,h3⟩)
 refine ⟨g',{ hs' with sl:=λ i=>?_,ob:=λ id cs hc=>?_ }⟩
 ·have h:=hs.sl i;rw [h1];simp only [AS.get,ep];simp only [AS.get] at h
  cases hl:look sl i with
  | none=>simp only [Option.map_none,Option.getD_none]; exact .undef _
  | some x=>rw [hl] at h; simpa using h.stl hE hall
 ·obtain ⟨CQ,ds,m1,rfl⟩:=nk h2 id cs hc;obtain ⟨b2,c2,e2,n1,n2,n3,n4,n5⟩:=hs.ob id ds m1;refine ⟨b2,c2,e2,by rw [how',if_neg CQ]; exact n1,n2,by simpa using n3,λ o h3=>n4 o (k2 id b2 CQ n1 o (by rw [<- hg']; exact h3)),λ j y hy=>?_⟩;simp only [List.getElem?_map,ld] at hy;obtain ⟨y0,hy0,rfl⟩:=hy;obtain ⟨u,hu,hr⟩:=n5 j y0 hy0;exact ⟨u,hu,hr.stl hE hall⟩
theorem fH {C:Cx}{sl sl':List (Nat×AV)}{ob ob':List (Nat×List AV)}(tok:Nat)(hid:Nat.blt tok M1=true)(h1:Ao tok sl=some sl')(h2:vk tok ob=some ob') :
  bY C ⟨sl,ob⟩ ⟨sl',ob'⟩:=pc tok hid (vJ h1) h2
mutual
theorem qL (D:Nat->Bool)(tok:Nat)(h:D tok=true):∀ x:AV,(x.dem D).dem (Nat.beq · tok)=x.dem D
 | .undef=>by simp only [AV.dem]
 | .p _=>by simp only [AV.dem]
 | .agg cs=>by simp only [AV.dem]; rw [kc D tok h cs]
 | .tuple cs=>by simp only [AV.dem]; rw [kc D tok h cs]
 | .func f cs=>by simp only [AV.dem]; rw [kc D tok h cs]
 | .rptr _=>by simp only [AV.dem]
 | .sem ts R=>by
  cases hd:ts.any D
  ·have:ts.any (Nat.beq · tok)=false:=List.any_eq_false.2 λ t ht=>by
    have h1:=List.any_eq_false.1 hd t ht;intro h2;rw [bx h2] at h1;exact h1 h
   simp only [AV.dem,hd,cond_false,this]
  ·simp only [AV.dem,hd,cond_true]
 | .vec t _ _ _|.arr t _ _ _|.ptr t _|.bptr _ _ t|.mp t _|.mpr t _ _ _ _|.stk t _ _|.it t _ _|.vecp t _ _ _|.elp t _=>by
  cases hd:D t
  ·have:Nat.beq t tok=false:=by
    cases hb:Nat.beq t tok
    ·rfl
    ·rw [bx hb,h] at hd; cases hd
   simp only [AV.dem,hd,cond_false,this]
  ·simp only [AV.dem,hd,cond_true]
theorem kc (D:Nat->Bool)(tok:Nat)(h:D tok=true):∀ l:List AV,gW (Nat.beq · tok) (gW D l)=gW D l
 | []=>by simp only [gW]
 | x::r=>by simp only [gW]; rw [qL D tok h x,kc D tok h r]
end
mutual
theorem wl (D:Nat->Bool)(tok:Nat)(h:D tok=true):∀ x:AV,(x.dem D).stl tok=x.dem D
 | .agg cs=>by simp only [AV.dem,AV.stl]; rw [pt D tok h cs]
 | .stk t s es=>by
  cases hd:D t
  ·have:Nat.beq t tok=false:=by
    cases hb:Nat.beq t tok
    ·rfl
    ·rw [bx hb,h] at hd; cases hd
   simp only [AV.dem,hd,cond_false,AV.stl,this]
  ·simp only [AV.dem,hd,cond_true,AV.stl]
 | .undef=>by simp only [AV.dem,AV.stl]
 | .p x=>by simp only [AV.dem,AV.stl]
 | .tuple cs=>by simp only [AV.dem,AV.stl]; rw [pt D tok h cs]
 | .func f cs=>by have:=qL D tok h (.func f cs); simp only [AV.dem] at this; simp only [AV.dem,AV.stl]; exact this
 | .rptr _=>by simp only [AV.dem,AV.stl]
 | .sem ts R=>by
  cases hd:ts.any D
  ·have:ts.any (Nat.beq · tok)=false:=List.any_eq_false.2 λ t ht=>by
    have h1:=List.any_eq_false.1 hd t ht;intro h2;rw [bx h2] at h1;exact h1 h
   simp only [AV.dem,hd,cond_false,AV.stl,this]
  ·simp only [AV.dem,hd,cond_true,AV.stl]
 | .vec t _ _ _|.arr t _ _ _|.ptr t _|.bptr _ _ t|.mp t _|.mpr t _ _ _ _|.it t _ _|.vecp t _ _ _|.elp t _=>by
  cases hd:D t
  ·have:Nat.beq t tok=false:=by
    cases hb:Nat.beq t tok
    ·rfl
    ·rw [bx hb,h] at hd; cases hd
   simp only [AV.dem,hd,cond_false,AV.stl,this]
  ·simp only [AV.dem,hd,cond_true,AV.stl]
theorem pt (D:Nat->Bool)(tok:Nat)(h:D tok=true):∀ l:List AV,AV.stlL tok (gW D l)=gW D l
 | []=>by simp only [gW,AV.stlL]
 | x::r=>by simp only [gW,AV.stlL]; rw [wl D tok h x,pt D tok h r]
end
section
variable {C:Cx} {o:Oper} {K:AS->Prop} {sl:List (Nat×AV)} {ob:List (Nat×List AV)} {d:Nat}
theorem ye {α:Type}(f:α->PV)(l0 l:List α){t tx e e':TypeId}{x y:Operand}{k sz:Nat}{Y0z:AV}{i ie j:TI}{sl':List (Nat×AV)}{ob':List (Nat×List AV)}(ho:o.op=.call { callee:=.builtin .append,args:=#[x,y],argTypes:=#[t,tx] })(hd:o.dst=some d)(hn:Nat.blt d C.n=true)
  (hi:look C.tt t=some i) (CR:i.k=.slice e) (hie:look C.tt e=some ie) (hj:look C.tt tx=some j) (hjk:j.k=.slice e') (hx:evo sl x=some (.stk k sz (l0.map f))) (hk:Nat.blt k M1=true)
  (hy:evo sl y=some Y0z) (hY:Y0z.elems? = some (l.map f)) (CC:∀ x,(f x).cells.length=sz) (hys:0<l.length) (h1s:ie.size=sz) (h0:Nat.blt 0 sz=true) (hzl:Nat.beq ie.zero.length ie.size=true) (hby:Nat.blt 0 ie.bytes=true)
  (CE:(l0.length+l.length)*ie.bytes<=140737488355328) (h1:dmS (λ i=>Nat.beq i k) sl=some sl') (h2:dmO (λ i=>Nat.beq i k) ob=some ob')
  (hK:K ⟨(d,.stk k sz ((l0++l).map f))::sl',ob'⟩):aO C o K ⟨sl,ob⟩:=by
 have hby':1<=ie.bytes:=Nat.succ_le_of_lt (by simpa using hby);have h3:(l0.length+l.length)*1<=(l0.length+l.length)*ie.bytes:=Nat.mul_le_mul_left _ hby';refine tH ho hd hn hi CR hie hj hjk hx hk hy hY (λ y hy=>?_) (by simpa using hys) h1s h0 hzl (by rw [n6,n6]; exact CE) (by rw [n6,n6]; omega) ?_
 ·obtain ⟨x,_,rfl⟩:=List.mem_map.1 hy;exact CC x
 ·rw [<- List.map_append];simp only [bV];rw [<- pV h1,<- jE h2];exact hK
theorem cG {α:Type}(f:α->PV)(l:List α){t e:TypeId}{x y:Operand}{i ie:TI}{k:IntKind}{n:Int}{id sz:Nat}(ho:o.op=.indexAddr t x y)(hd:o.dst=some d)(hn:Nat.blt d C.n=true)
  (hi:look C.tt t=some i) (CR:i.k=.slice e) (hie:look C.tt e=some ie) (hx:evo sl x=some (.stk id sz (l.map f)))
  (hy:evo sl y=some (.p (.val (.int k n)))) (CC:ie.size=sz) (hb:0<=n/\n<(l.length:Int)) (hK:K ⟨(d,.ptr id (n.toNat*sz))::sl,ob⟩):aO C o K ⟨sl,ob⟩ :=
 o5 ho hd hn hi CR hie hx hy CC (by rw [n6]; exact hb) hK
def qa {α:Type}(l:List α)(n:Int)(y:α):List α:=l.set n.toNat y
theorem B9 {α:Type}(f:α->PV)(l:List α)(y:α)(q:Nat){t:TypeId}{x v:Operand}{i:TI}{tok sz:Nat}{n:Int}{Y0z:AV}{sl':List (Nat×AV)}{ob':List (Nat×List AV)}(ho:o.op=.store t x v)(hd:o.dst=none)
  (hi:look C.tt t=some i) (hiz:i.size=sz) (hx:evo sl x=some (.ptr tok (n.toNat*sz))) (hq:look sl q=some (.stk tok sz (l.map f))) (hb:0<=n/\n<(l.length:Int))
  (hv:evo sl v=some Y0z) (hY:Y0z.sub (.p (f y))) (hc:(AV.p (f y)).cellsA=some ((f y).cells.map .p)) (hcl:Nat.beq (f y).cells.length sz=true) (htok:Nat.blt tok M1=true)
  (h1:sl'=sl.map λ p=>(p.1,upK tok sz n.toNat (f y) p.2)) (h2:td tok sz n.toNat (f y) ob=some ob') (hK:K ⟨sl',ob'⟩):aO C o K ⟨sl,ob⟩ :=
 nQ ho hd hi hiz hx Z (yp hq) (by rw [n6]; omega) hv hY hc hcl htok h1 h2 hK
theorem nA {α:Type}(f:α->PV)(l:List α)(y:α)(id j:Nat){cs:List AV}{t:TypeId}{x v:Operand}{i:TI}{tok sz:Nat}{n:Int}{Y0z:AV}{sl':List (Nat×AV)}{ob':List (Nat×List AV)}(ho:o.op=.store t x v)(hd:o.dst=none)
  (hi:look C.tt t=some i) (hiz:i.size=sz) (hx:evo sl x=some (.ptr tok (n.toNat*sz))) (hq:look ob id=some cs) (hj:cs[j]? = some (.stk tok sz (l.map f))) (hb:0<=n/\n<(l.length:Int))
  (hv:evo sl v=some Y0z) (hY:Y0z.sub (.p (f y))) (hc:(AV.p (f y)).cellsA=some ((f y).cells.map .p)) (hcl:Nat.beq (f y).cells.length sz=true) (htok:Nat.blt tok M1=true)
  (h1:sl'=sl.map λ p=>(p.1,upK tok sz n.toNat (f y) p.2)) (h2:td tok sz n.toNat (f y) ob=some ob') (hK:K ⟨sl',ob'⟩):aO C o K ⟨sl,ob⟩ :=
 nQ ho hd hi hiz hx Z (yw hq hj) (by rw [n6]; omega) hv hY hc hcl htok h1 h2 hK
theorem iU {s0 s1 s2:AS}(h:∀ K':AS->Prop,K' s1->aO C o K' s0)(hg:bY C s1 s2)(hK:K s2):aO C o K s0:=by
 intro g a w hs;have h1:=h (λ s=>s=s1) rfl g a w hs;unfold Oper.wp at h1 ⊢;refine iR (λ a' w' hn=>?_) (λ _ _ _ h=>h) h1;obtain ⟨g',s',hs',rfl⟩:=hn;obtain ⟨g2,hs2⟩:=hg _ _ _ hs';exact ⟨g2,_,hs2,hK⟩
theorem lq {s s0:AS}{D:Nat->Bool}{x:AV}{ob1:List (Nat×List AV)}(tok:Nat)(h:∀ K':AS->Prop,K' ⟨(d,x)::(bV D s).sl,ob1⟩->aO C o K' s0)(hid:Nat.blt tok M1=true)(hD:D tok=true)(hob:vk tok ob1=some ob1)
  (hK:K ⟨(d,x.stl tok)::(bV D s).sl,ob1⟩):aO C o K s0:=by
 refine iU h (pc tok hid ?_ hob) hK;simp only [bV,cl,List.map_map];congr 1;refine List.map_congr_left λ p _=>?_;simp only [Function.comp,wl D tok hD]
theorem zN (tok sz n:Nat)(z:PV)(x:AV):upK tok sz n z x=x.dem (Nat.beq · tok)\/x.dem (Nat.beq · tok)=.undef:=by
 unfold upK;split
 ·rename_i t s es
  cases h:Nat.beq t tok
  ·left; simp only [AV.dem,h,cond_false]
  ·right; simp only [AV.dem,h,cond_true]
 ·exact .inl Z
theorem nM {α:Type}(f:α->PV)(l:List α)(y:α)(id j:Nat){cs:List AV}{t:TypeId}{x v:Operand}{i:TI}{tok sz:Nat}{n:Int}{Y0z:AV}{sl':List (Nat×AV)}{ob1 ob':List (Nat×List AV)}(ho:o.op=.store t x v)(hd:o.dst=none)
  (hi:look C.tt t=some i) (hiz:i.size=sz) (hx:evo sl x=some (.ptr tok (n.toNat*sz))) (hq:look ob id=some cs) (hj:cs[j]? = some (.stk tok sz (l.map f))) (hb:0<=n/\n<(l.length:Int))
  (hv:evo sl v=some Y0z) (hY:Y0z.sub (.p (f y))) (hc:(AV.p (f y)).cellsA=some ((f y).cells.map .p)) (hcl:∀ x,(f x).cells.length=sz) (htok:Nat.blt tok M1=true)
  (h1:sl'=sl.map λ p=>(p.1,p.2.dem (Nat.beq · tok))) (h2:td tok sz n.toNat (f y) ob=some ob1) (h3:ob1=ob') (hK:K ⟨sl',ob'⟩):aO C o K ⟨sl,ob⟩:=by
 subst h1 h3;refine iU (s2:=⟨sl.map λ p=>(p.1,p.2.dem (Nat.beq · tok)),ob1⟩) (λ K' hK'=>nA f l y id j ho hd hi hiz hx hq hj hb hv hY hc (by simp [hcl y]) htok rfl h2 hK') (λ g a w hs=>⟨g,{ hs with sl:=λ j=>?_ }⟩) hK;have h:=hs.sl j;simp only [AS.get,ep] at h ⊢
 cases hl:look sl j with
 | none=>simp only [Option.map_none,Option.getD_none]; exact .undef _
 | some x=>
  rw [hl] at h;simp only [Option.map_some,rg] at h ⊢;rcases zN tok sz n.toNat (f y) x with e|e
  ·rw [<- e]; exact h
  ·rw [e]; exact .undef _
end
def bor:AV->Option AV|.stk _ _ es=>some (.p (.slice es))|x=>x.mapA (λ _=>none)
def rP:List AV->Option (List AV)
 | []=>some []
 | x::r=>match bor x,rP r with
  | some y,some l=>some (y::l)
  | _,_=>none
theorem vU:∀ {l l':List AV},rP l=some l'->l.length=l'.length/\∀ (i:Nat) x y,l[i]? = some x->l'[i]? = some y->bor x=some y
 | [],l',h=>by simp only [rP,aq] at h; subst h; exact ⟨Z,by simp⟩
 | x::r,l',h=>by
  simp only [rP] at h;split at h
  ·rename_i y q hy hq
   cases h
   obtain ⟨h1,h2⟩:=vU hq;refine ⟨by simp [h1],λ i a b ha hb=>?_⟩
   cases i with
   | zero=>simp only [List.getElem?_cons_zero,aq] at ha hb; subst ha hb; exact hy
   | succ i=>simp only [List.getElem?_cons_succ] at ha hb; exact h2 i a b ha hb
  ·cases h
section
variable {C:Cx} {o:Oper} {K:AS->Prop} {sl:List (Nat×AV)} {ob:List (Nat×List AV)} {d:Nat}
def pj (w:World)(g:Gh)(l:List AV)(b o:Nat):Prop :=g.st b o\/((∃ tok sz es,.stk tok sz es∈l/\g.ow tok=some b)/\∃ c e,w.heap[b]? = some (.cells c e (0,0))/\o<c.size)
theorem z6 {w:World}{g:Gh}{l:List AV}{x y:AV}{v:Value}(hx:x∈l)(h:ARep w g x v)(hy:bor x=some y):ARep w ⟨pj w g l,λ _=>none⟩ y v:=by
 have hE:EvO (λ _=>false) w ⟨g.st,λ _=>none⟩ w ⟨pj w g l,λ _=>none⟩ :=
  ⟨λ b o h=>⟨.inl h,rfl⟩,(by intro _ _ _ h; cases h),(by intro _ _ _ _ _ h; cases h),(by intro _ _ _ _ h; cases h),(by intro _ _ _ _ _ h; cases h),λ _ _=>rfl,(by intro _ _ _ _ h; cases h)⟩
 by_cases hs:∃ tok sz es,x=.stk tok sz es
 ·obtain ⟨tok,sz,es,rfl⟩:=hs;simp only [bor,aq] at hy;subst hy
  cases h with
  | stkn=>exact .p .nils
  | stke=>exact .p (.nile _)
  | stk how hb CJ CE CC CH CN hr=>
   rename_i b cap c e;refine .p (.slice sz (λ i j=>(c[i*sz+j]?).getD Go.undef) CE CC CH (λ i x j p hx' hp=>?_) (λ i x j p hx' hp=>?_))
   ·obtain ⟨v,h3,h4⟩:=hr i x j p hx' hp;refine ⟨.inr ⟨⟨_,_,_,hx,how⟩,c,e,hb,?_⟩,?_⟩
    ·have:=(Array.getElem?_eq_some_iff.1 h3).1;omega
    ·simp only [World.cell?,hb,rd];rw [h3];simp
   ·obtain ⟨v,h3,h4⟩:=hr i x j p hx' hp;rw [h3];exact h4.mono hE.ev
 ·have hm:x.mapA (λ _=>none)=some y:=by
   cases x <;> first|exact hy|exact absurd ⟨_,_,_,rfl⟩ hs
  exact (gG (g:=g) (g':=⟨g.st,λ _=>none⟩) rfl (λ i j b h _=>by cases h) h hm).mono hE
theorem xW:rP []=some []:=rfl
theorem ru {x y:AV}{r l:List AV}(h1:bor x=some y)(h2:rP r=some l):rP (x::r)=some (y::l):=by simp only [rP,h1,h2]
theorem jV {s0:AS}{x y:AV}{rest:List (Nat×AV)}{ob1:List (Nat×List AV)}(h:∀ K':AS->Prop,K' ⟨(d,x)::rest,ob1⟩->aO C o K' s0)(hs:x.sub y)(hK:K ⟨(d,y)::rest,ob1⟩):aO C o K s0:=by
 refine iU (s2:=⟨(d,y)::rest,ob1⟩) h (bS ⟨λ j z hz=>?_,λ id cs hc=>⟨cs,hc,bt _,λ i c d h1 h2=>by rw [h1] at h2; cases h2; exact AV.sub_refl _⟩⟩) hK;simp only [aJ] at hz;simp only [AS.get,aJ];by_cases e:d=j
 ·rw [if_pos e] at hz ⊢
  cases hz
  exact hs
 ·rw [if_neg e] at hz ⊢;rw [hz];exact AV.sub_refl _
end
theorem dB {P:Program}(w:World)(dT sT ty elem:TypeId)(g o dLen dCap:Nat)(a:Addr)(sLen sCap sz:Nat)(cur:Array Value)(t:TypeId)(cs:List Value)
  (hu:P.underlying dT=some (.slice elem)) (hs:(P.info? elem).map (·.size)=some sz)
  (hg:w.heap[g]? = some (.cells cur t (0,0))) (hn:cs.length=Nat.min sLen dLen*sz)
  (hsrc:∀ j v,cs[j]? = some v->w.cell? (a.add j)=some v) (hfit:o+cs.length<=cur.size) (h1:∀ v∈cs,v.oneCell'=true) :
  (Builtin.copy_ #[dT,sT] ty #[.slice (some ⟨g,o,none⟩) dLen dCap,.slice (some a) sLen sCap]).run P w =
   .ok (goInt (Nat.min sLen dLen)) (w.setRow g (cur.toList.take o++cs++cur.toList.drop (o+cs.length)).toArray):=by
 have hl:=run_loadCells_list (P:=P) w a cs hsrc;have CN:=run_storeCells_at P g o t cs 0 cur w hg (by simpa using hfit) h1
 cases hq:P.info? elem with
 | none=>simp [hq] at hs
 | some i=>
  have hi:i.size=sz:=by simpa [hq] using hs
  simp [Builtin.copy_,run_underlying hu,Builtin.lenOf,Builtin.firstCells,sizeOf,typeInfo,hq,hi,<- hn,hl,CN]
theorem ja {P:Program}(w:World)(tS tR e:TypeId)(ht:P.underlying tS=some (.slice e))(size:Nat)(hz:∀ w,(Go.sizeOf e).run P w=.ok size w)
  (a b:Addr) (la ca lb cb:Nat) (CQ:a.block≠b.block) {cA cB:Array Value} {tA tB:TypeId} {fA:Nat×Nat} (ha:w.heap[a.block]? = some (.cells cA tA fA)) (hb:w.heap[b.block]? = some (.cells cB tB (0,0))) (hA:cA.size≠0) :
  (Extern.SlicesOverlaps.overlaps #[tS,tS] #[tR] #[.slice (some a) la ca,.slice (some b) lb cb]).run P w=.ok (.bool false) w:=by
 have Fb:(a.block != b.block)=true:=by simpa using CQ
 have hnb':(a.block==b.block)=false:=by simpa using CQ
 have hsa:w.shape? a.block=some (tA,cA.size):=by simp [World.shape?,ha]
 have hsb:w.shape? b.block=some (tB,cB.size):=by simp [World.shape?,hb]
 have hfb:∀ o s,w.frozen? ⟨b.block,o,s⟩=false:=λ o s=>by simp [World.frozen?,hb]
 have hfb':w.frozen? b=false:=hfb b.off b.spot
 change Sem.run P (α:=Value) (do
  let some t:=(#[tS,tS]:Array TypeId)[0]?|stuck "slices.overlaps: no parameter types"
  let .slice elem <- underlying t|stuck "slices.overlaps: slice type expected"
  let size <- sizeOf elem
  match (some a:Option Addr),(some b:Option Addr) with
  | some a,some b=>
   if la=0\/lb=0\/size=0 then pure (Value.bool false)
   else if a.block != b.block&&(<- frozen a)&&(<- frozen b) then unsupported .addressObserved
   else do
    if a.block != b.block then do
     noView a; noView b
     if <- mayBeOne a b then return Value.bool ((<- choose _)==1)
    pure (Value.bool (a.block==b.block&&a.off<b.off+lb*size&&b.off<a.off+la*size))
  | _,_=>pure (Value.bool false)) w=_
 by_cases h0:la=0\/lb=0\/size=0
 ·simp [run_underlying ht,hz,h0]
 ·cases hk:cA.size with
  | zero=>exact absurd hk hA
  | succ kA=>
   rw [hk] at hsa
   cases hfa:w.frozen? a <;> simp [run_underlying ht,hz,h0,Fb,hnb',frozen,noView,viewAt,mayBeOne,stringish,shape,Sem.run,hsa,hsb,hfa,hfb,hfb']
def xL (c c':Array Value)(k n:Nat)(news:List Value):Prop :=(∀ j,j<k->c'[j]? = c[j]?)/\(∀ j,j<news.length->c'[k+j]? = news[j]?)/\(∀ j,k<=j->j<n->c'[news.length+j]? = c[j]?)
structure sj (w w':World)(B:Nat)(c':Array Value)(e:TypeId):Prop where
 os:w'.os=w.os
 out:w'.output=w.output
 tape:w'.tape=w.tape
 size:w.heap.size<=w'.heap.size
 here:w'.heap[B]? = some (.cells c' e (0,0))
 other:∀ k,k<w.heap.size->k≠B->w'.heap[k]? = w.heap[k]?
def ghI (g:Gh)(B m:Nat):Gh:=⟨λ b o=>g.st b o\/(b=B/\o=m),λ i=>if i=2000000 then some B else if M1<=i/\i<2*M1 then g.ow i else none⟩
theorem rS {g:Gh}{B m i b:Nat}(h:(ghI g B m).ow i=some b):(i=2000000/\B=b)\/(M1<=i/\i<2*M1/\g.ow i=some b):=by
 simp only [ghI] at h;split at h
 ·cases h; exact .inl ⟨‹_›,rfl⟩
 ·split at h
  ·rename_i h1; exact .inr ⟨h1.1,h1.2,h⟩
  ·cases h
theorem rN {w w':World}{g:Gh}{B m:Nat}{c':Array Value}{e:TypeId}(hok:Ok0 w g.st)(hm:c'.size=m)(h:sj w w' B c' e)
  (hold:(∃ c e0,w.heap[B]? = some (.cells c e0 (0,0))/\c.size=c'.size/\∀ o,g.st B o->o=m)\/w.heap.size<=B):Ev w g.st w' (ghI g B m).st:=by
 intro k o hk;refine ⟨.inl hk,?_⟩;have hlt:=hok.lt k o hk;by_cases e1:k=B
 ·subst e1;rcases hold with ⟨c,e0,h1,h2,h3⟩|h1
  ·have:=h3 o hk;simp only [World.cell?,h.here,h1];rw [Array.getElem?_eq_none O,Array.getElem?_eq_none O]
  ·omega
 ·simp only [World.cell?,h.other k hlt e1]
theorem mV {w w':World}{g:Gh}{B m:Nat}{c':Array Value}{e:TypeId}(hok:Ok0 w g.st)(hown:∀ i b,g.ow i=some b->b<w.heap.size/\i<2*M1)
  (hinj:∀ i j b,g.ow i=some b->g.ow j=some b->i=j) (hnst:∀ i b,M1<=i->g.ow i=some b->∀ o,¬ g.st b o) (hm:c'.size=m) (h:sj w w' B c' e)
  (hold:(g.ow 900000=some B/\∃ c e0,w.heap[B]? = some (.cells c e0 (0,0))/\c.size=c'.size/\∀ o,g.st B o->o=m)\/w.heap.size<=B):j5 w g w' (ghI g B m):=by
 have hB:B<w'.heap.size:=by
  have:=h.here;exact (Array.getElem?_eq_some_iff.1 this).1
 have hnew:∀ i,M1<=i->g.ow i≠some B:=by
  intro i hi e1;rcases hold with ⟨h1,_⟩|h1
  ·have:=hinj _ _ _ e1 h1; unfold M1 at *; omega
  ·have:=(hown _ _ e1).1; omega
 refine ⟨h.os,h.out,h.tape,h.size,λ k hk hno=>h.other k hk (λ e=>?_),λ i k hi=>?_,λ i j k hi hj=>?_,λ k o hk=>?_,λ k hk hno o=>⟨λ hs=>?_,λ hs=>.inl hs⟩,λ i h1 h2=>?_,λ i k c e h1 h2 h3=>?_,λ i k hi hk o hs=>?_,rN hok hm h (hold.imp_left And.right)⟩
 ·subst e;rcases hold with ⟨h1,_⟩|h1
  ·exact hno _ h1
  ·omega
 ·rcases rS hi with ⟨_,rfl⟩|⟨_,_,h1⟩
  ·refine ⟨hB,?_⟩;rcases hold with ⟨h1,_⟩|h1
   ·exact .inr ⟨_,h1⟩
   ·exact .inl h1
  ·exact ⟨Nat.lt_of_lt_of_le (hown _ _ h1).1 h.size,.inr ⟨_,h1⟩⟩
 ·rcases rS hi with ⟨e1,h1⟩|⟨a1,a2,h1⟩ <;> rcases rS hj with ⟨e2,h2⟩|⟨b1,b2,h2⟩
  ·omega
  ·subst h1; exact absurd h2 (hnew j b1)
  ·subst h2; exact absurd h1 (hnew i a1)
  ·exact hinj _ _ _ h1 h2
 ·rcases hk with hk|⟨rfl,_⟩
  ·exact Nat.lt_of_lt_of_le (hok.lt _ _ hk) h.size
  ·exact hB
 ·rcases hs with hs|⟨rfl,_⟩
  ·exact hs
  ·rcases hold with ⟨h1,_⟩|h1
   ·exact absurd h1 (hno _)
   ·omega
 ·simp only [ghI];rw [if_neg (by unfold M1 at *; omega),if_pos ⟨h1,h2⟩]
 ·have:=hnew i h1;exact ⟨c,(h.other k (hown _ _ h2).1 (λ e=>this (e ▸ h2))).trans h3,Z⟩
 ·rcases hs with hs|⟨rfl,_⟩
  ·exact hnst i k hi hk o hs
  ·exact hnew i hi hk
theorem pO {c c1 c2:Array Value}{k nn s:Nat}{news mid:List Value}(hk:k<=nn)(hnl:news.length=s)(hml:mid.length=nn-k)(hm:∀ (j:Nat) (v:Value),mid[j]? = some v->c[k+j]? = some v)
  (h1:∀ j,c1[j]? = if k+s<=j/\j<k+s+mid.length then mid[j-(k+s)]? else c[j]?) (h2:∀ j,c2[j]? = if k<=j/\j<k+news.length then news[j-k]? else c1[j]?):xL c c2 k nn news:=by
 refine ⟨λ j hj=>?_,λ j hj=>?_,λ j h3 h4=>?_⟩
 ·rw [h2,if_neg O,h1,if_neg O]
 ·rw [h2,if_pos O]; congr 1; omega
 ·rw [h2,if_neg O,h1,if_pos O,show news.length+j-(k+s)=j-k by omega];have hl:j-k<mid.length:=by omega
  rw [List.getElem?_eq_getElem hl];have:=hm _ _ (List.getElem?_eq_getElem hl);rw [show k+(j-k)=j by omega] at this;exact this.symm
theorem tf {c c2:Array Value}{k:Nat}{news:List Value}(h2:∀ j,c2[j]? = if k<=j/\j<k+news.length then news[j-k]? else c[j]?):xL c c2 k k news:=by
 refine ⟨λ j hj=>?_,λ j hj=>?_,λ j h3 h4=>by omega⟩
 ·rw [h2,if_neg O]
 ·rw [h2,if_pos O]; congr 1; omega
theorem qV {c ROW c1 c2:Array Value}{k nn s:Nat}{news mid:List Value}(hk:k<=nn)(hnl:news.length=s)(hml:mid.length=nn-k)(hm:∀ (j:Nat) (v:Value),mid[j]? = some v->c[k+j]? = some v)(h0:∀ j,j<k->ROW[j]? = c[j]?)
  (h1:∀ j,c1[j]? = if k<=j/\j<k+news.length then news[j-k]? else ROW[j]?) (h2:∀ j,c2[j]? = if k+s<=j/\j<k+s+mid.length then mid[j-(k+s)]? else c1[j]?):xL c c2 k nn news:=by
 refine ⟨λ j hj=>?_,λ j hj=>?_,λ j h3 h4=>?_⟩
 ·rw [h2,if_neg O,h1,if_neg O]; exact h0 j hj
 ·rw [h2,if_neg O,h1,if_pos O]; congr 1; omega
 ·rw [h2,if_pos O,show news.length+j-(k+s)=j-k by omega];have hl:j-k<mid.length:=by omega
  rw [List.getElem?_eq_getElem hl];have:=hm _ _ (List.getElem?_eq_getElem hl);rw [show k+(j-k)=j by omega] at this;exact this.symm
theorem setRow_size (w:World)(b:Nat)(c:Array Value):(w.setRow b c).heap.size=w.heap.size:=by unfold World.setRow; simp
theorem tG {w:World}{b:Nat}{c:Array Value}{e0:TypeId}(hb:w.heap[b]? = some (.cells c e0 (0,0)))(c2:Array Value):sj w (w.setRow b c2) b c2 e0 :=
 ⟨Z,Z,Z,Nat.le_of_eq (setRow_size _ _ _).symm,setRow_heap w b c c2 e0 (0,0) hb,λ k _ hk=>setRow_other w b k c2 hk⟩
theorem qY {w:World}{b:Nat}{c:Array Value}{e0:TypeId}(hb:w.heap[b]? = some (.cells c e0 (0,0)))(c2:Array Value):sj w (w.drew.setRow b c2) b c2 e0 :=
 ⟨Z,Z,Z,Nat.le_of_eq (setRow_size w.drew _ _).symm,setRow_heap w.drew b c c2 e0 (0,0) hb,λ k _ hk=>setRow_other w.drew b k c2 hk⟩
theorem nP (w:World)(c:Array Value)(e:TypeId):sj w (w.drew.alloc (.cells c e)) w.heap.size c e :=
 ⟨Z,Z,Z,by show w.heap.size<=(w.heap.push _).size; simp,bG (w:=w.drew),λ k hk _=>Lib.alloc_old w.drew _ k hk⟩
theorem nJ (w:World)(ROW:Array Value)(e:TypeId)(c1 c2:Array Value):sj w ((((w.alloc (.cells ROW e)).drew.setRow w.heap.size c1).drew).setRow w.heap.size c2) w.heap.size c2 e:=by
 have h0:((w.alloc (.cells ROW e)).drew).heap[w.heap.size]? = some (.cells ROW e (0,0)):=bG (w:=w);have h1:(((w.alloc (.cells ROW e)).drew.setRow w.heap.size c1).drew).heap[w.heap.size]? = some (.cells c1 e (0,0)):=setRow_heap _ _ ROW c1 e (0,0) h0;refine ⟨Z,Z,Z,?_,setRow_heap _ _ c1 c2 e (0,0) h1,λ k hk CQ=>?_⟩
 ·rw [setRow_size];show w.heap.size<=((w.alloc (.cells ROW e)).drew.setRow w.heap.size c1).heap.size;rw [setRow_size];show w.heap.size<=(w.heap.push _).size;simp
 ·rw [setRow_other _ _ k c2 CQ];show (((w.alloc (.cells ROW e)).drew.setRow w.heap.size c1)).heap[k]? = _;rw [setRow_other _ _ k c1 CQ];exact Lib.alloc_old w _ k hk
structure uP (P:Program)(F:FuncId)(e:TypeId)(sz bytes:Nat):Prop where
 room:∀ (w:World) (b n cap i vb voff vc:Nat) (c:Array Value) (e0:TypeId) (news:List Value) (cA:Array Value) (tA:TypeId) (fA:Nat×Nat),w.heap[b]? = some (.cells c e0 (0,0))->c.size=cap*sz->i<=n->n+1<=cap->n+1<=9223372036854775807->vb≠b ->
  news.length=sz->(∀ j v,news[j]? = some v->w.cell? ⟨vb,voff+j,none⟩=some v)->(∀ v∈news,v.oneCell'=true)->(∀ j v,j<n*sz->c[j]? = some v->v.oneCell'=true)->w.heap[vb]? = some (.cells cA tA fA) ->
  Calls P F #[.slice (some ⟨b,0,none⟩) n cap,.int .i64 i,.slice (some ⟨vb,voff,none⟩) 1 vc] w λ ed w'=>ed=.returned (.slice (some ⟨b,0,none⟩) (n+1) cap)/\∃ c',sj w w' b c' e0/\w'.heap.size=w.heap.size/\c'.size=c.size/\xL c c' (i*sz) (n*sz) news
 grow:∀ (w:World) (base:Option Addr) (n cap i vb voff vc:Nat) (c:Array Value) (news:List Value),(n=0/\cap=0\/∃ b e0,base=some ⟨b,0,none⟩/\w.heap[b]? = some (.cells c e0 (0,0))/\c.size=cap*sz)->i<=n->n<=cap->cap<n+1->(n+1)*bytes<=140737488355328 ->
  news.length=sz->(∀ j v,news[j]? = some v->w.cell? ⟨vb,voff+j,none⟩=some v)->(∀ v∈news,v.oneCell'=true)->(∀ j v,j<n*sz->c[j]? = some v->v.oneCell'=true) ->
  Calls P F #[.slice base n cap,.int .i64 i,.slice (some ⟨vb,voff,none⟩) 1 vc] w λ ed w'=>∃ G0z c',ed=.returned (.slice (some ⟨w.heap.size,0,none⟩) (n+1) G0z)/\sj w w' w.heap.size c' e/\n+1<=G0z/\c'.size=G0z*sz/\xL c c' (i*sz) (n*sz) news
def eF {α:Type}(l:List α)(i:Nat)(x:α):List α:=l.take i++x::l.drop i
theorem yX {α:Type}{l:List α}{i:Nat}{x:α}(hi:i<=l.length)(k:Nat):(eF l i x)[k]? = if k<i then l[k]? else if k=i then some x else l[k-1]?:=by
 unfold eF;rw [List.getElem?_append];have:(l.take i).length=i:=by rw [sm]; omega
 rw [this];split
 ·rename_i h; rw [List.getElem?_take,if_pos h]
 ·rename_i h;split
  ·rename_i h2; subst h2; simp
  ·rename_i h2;rw [List.getElem?_cons,if_neg O,List.getElem?_drop];congr 1; omega
theorem tJ {α β:Type}(f:α->β)(l:List α)(i:Nat)(x:α):eF (l.map f) i (f x)=(eF l i x).map f:=by
 unfold eF; simp [List.map_take,List.map_drop]
theorem ip {α:Type}{l:List α}{i:Nat}{x:α}(hi:i<=l.length):(eF l i x).length=l.length+1:=by
 unfold eF;rw [n8,sm,d4,List.length_drop]; omega
theorem jN {α:Type}{l:List α}{i:Nat}{x y:α}(h:y∈eF l i x):y=x\/y∈l:=by
 unfold eF at h;rcases List.mem_append.1 h with h|h
 ·exact .inr (List.mem_of_mem_take h)
 ·rcases ro.1 h with h|h
  ·exact .inl h
  ·exact .inr (List.mem_of_mem_drop h)
theorem rR {w w':World}{g:Gh}{B G0z sz:Nat}{c c':Array Value}{e:TypeId}{es:List PV}{i:Nat}{y:PV}{news:List Value}(hP:sj w w' B c' e)(hC:xL c c' (i*sz) (es.length*sz) news)(CL:Ev w g.st w' (ghI g B (G0z*sz)).st)
  (CN:∀ o,g.st B o->o=G0z*sz) (hi:i<=es.length) (hG:es.length+1<=G0z) (hs:c'.size=G0z*sz) (hn:news.length=sz) (hes:∀ x∈es,x.cells.length=sz) (hy:y.cells.length=sz) (CH:∀ x∈es,∀ c∈x.cells,c.one=true) (hyo:∀ c∈y.cells,c.one=true)
  (hr:∀ (i:Nat) x (j:Nat) p,es[i]? = some x->x.cells[j]? = some p->∃ v,c[i*sz+j]? = some v/\PRep w g.st p v) (hy2:∀ (j:Nat) p,y.cells[j]? = some p->∃ v,news[j]? = some v/\PRep w g.st p v) :
  ARep w' (ghI g B (G0z*sz)) (.stk 2000000 sz (eF es i y)) (.slice (some ⟨B,0,none⟩) (es.length+1) G0z):=by
 rw [<- ip (x:=y) hi];refine .stk (by simp [ghI]) hP.here hs (by rw [ip hi]; exact hG) (λ x hx=>?_) (λ x hx c hc=>?_) (λ o=>⟨λ h=>?_,λ h=>.inr ⟨rfl,h⟩⟩) (λ k x j p hx hp=>?_)
 ·rcases jN hx with rfl|hx
  ·exact hy
  ·exact hes x hx
 ·rcases jN hx with rfl|hx
  ·exact hyo c hc
  ·exact CH x hx c hc
 ·rcases h with h|⟨_,h⟩
  ·exact CN o h
  ·exact h
 ·have hjl:j<x.cells.length:=(List.getElem?_eq_some_iff.1 hp).1;rw [yX hi] at hx;split at hx
  ·rename_i hk;obtain ⟨u,hu,hur⟩:=hr k x j p hx hp;rw [hes x (List.mem_of_getElem? hx)] at hjl;exact ⟨u,by rw [hC.1 _ (ku hk hjl)]; exact hu,hur.mono CL⟩
  ·split at hx
   ·rename_i hk
    cases hx; subst hk
    obtain ⟨u,hu,hur⟩:=hy2 j p hp;exact ⟨u,by rw [hC.2.1 j O]; exact hu,hur.mono CL⟩
   ·rename_i EK D1;obtain ⟨u,hu,hur⟩:=hr (k-1) x j p hx hp;rw [hes x (List.mem_of_getElem? hx)] at hjl;have hkl:k-1<es.length:=(List.getElem?_eq_some_iff.1 hx).1;have h1:=ku hkl hjl;have h2:i*sz<=(k-1)*sz:=Nat.mul_le_mul_right _ O
    have h3:k*sz=(k-1)*sz+sz:=by
     obtain ⟨m,rfl⟩:∃ m,k=m+1:=⟨k-1,by omega⟩
     rw [Nat.add_sub_cancel,Nat.succ_mul]
    refine ⟨u,?_,hur.mono CL⟩;rw [show k*sz+j=news.length+((k-1)*sz+j) by omega,hC.2.2 _ O h1];exact hu
theorem pE {P:Program}{F:FuncId}{e:TypeId}{sz bytes:Nat}(R:uP P F e sz bytes)(h0:0<sz)(es:List PV)(i:Nat)(y:PV)(hi:i<=es.length)
  (CE:(es.length+1)*bytes<=140737488355328) (hlen':es.length+1<=9223372036854775807) (hysz:y.cells.length=sz) :
  bs P F [.stk 900000 sz es,.p (.val (.int .i64 i)),.p (.slice [y])] [] (λ x q=>x=.stk 2000000 sz (eF es i y)/\q=[]):=by
 intro w g vs hok hown hinj hnst hvs hargs _
 obtain ⟨a,b,v,rfl⟩:∃ a b v,vs=#[a,b,v]:=by
  obtain ⟨l,rfl⟩:∃ l:List Value,vs=l.toArray:=⟨vs.toList,by simp⟩
  match l,hvs with
  | [a,b,v],_=>exact ⟨a,b,v,Z⟩
 have ha:=hargs 0 _ _ Z Z;have hb:=hargs 1 _ _ Z Z;have hv:=hargs 2 _ _ Z Z;replace ha:ARep w g (.stk 900000 sz es) a:=ha;replace hb:ARep w g (.p (.val (.int .i64 i))) b:=hb;replace hv:ARep w g (.p (.slice [y])) v:=hv
 have eb:b=.int .i64 i:=by
  cases hb with
  | p h=>cases h; rfl
 subst eb
 clear hargs hb
 obtain ⟨vb,voff,vc,cf,rfl,hc,hone1,hr1⟩:∃ (vb voff vc:Nat) (cf:Nat->Value),v=.slice (some ⟨vb,voff,none⟩) 1 vc/\(∀ (j:Nat) p,y.cells[j]? = some p->g.st vb (voff+j)/\w.cell? ⟨vb,voff+j,none⟩=some (cf j))/\(∀ c∈y.cells,c.one=true)/\(∀ (j:Nat) p,y.cells[j]? = some p->PRep w g.st p (cf j)):=by
  cases hv with
  | p h=>
   cases h with
   | slice sz' cf hcap CC CH hc hr=>
    refine ⟨_,_,_,cf 0,Z,λ j p hp=>?_,CH y G,λ j p hp=>hr 0 y j p Z hp⟩;have:=hc 0 y j p Z hp;simpa using this
 have hnews:∀ j,j<sz->∃ p,y.cells[j]? = some p:=λ j hj=>⟨y.cells[j],List.getElem?_eq_getElem O⟩
 let news:=(List.range sz).map cf
 have hnl:news.length=sz:=by simp [news]
 have hnget:∀ j v,news[j]? = some v->j<sz/\v=cf j:=by
  intro j v hj;have hl:j<news.length:=(List.getElem?_eq_some_iff.1 hj).1;rw [hnl] at hl;simp [news,hl] at hj;exact ⟨hl,hj.symm⟩
 have hncell:∀ j v,news[j]? = some v->w.cell? ⟨vb,voff+j,none⟩=some v:=by
  intro j v hj;obtain ⟨hl,rfl⟩:=hnget j v hj;obtain ⟨p,hp⟩:=hnews j hl;exact (hc j p hp).2
 have hn1:∀ v∈news,v.oneCell'=true:=by
  intro v hv;obtain ⟨j,hj⟩:=List.mem_iff_getElem?.1 hv;obtain ⟨hl,rfl⟩:=hnget j v hj;obtain ⟨p,hp⟩:=hnews j hl;exact PV.one_rep (hr1 j p hp) (hone1 p (List.mem_of_getElem? hp))
 have hy2:∀ (j:Nat) p,y.cells[j]? = some p->∃ v,news[j]? = some v/\PRep w g.st p v:=by
  intro j p hp;have hl:j<sz:=by have:=(List.getElem?_eq_some_iff.1 hp).1; omega
  exact ⟨cf j,by simp [news,hl],hr1 j p hp⟩
 have hempty:∀ base:Option Addr,es=[]->a=.slice base 0 0->Calls P F #[a,.int .i64 i,.slice (some ⟨vb,voff,none⟩) 1 vc] w λ ed w'=>∃ v r obs' g',ed=.returned v/\(r=AV.stk 2000000 sz (eF es i y)/\obs'=([]:List (Nat×List AV)))/\ARep w' g' r v/\(∀ p∈obs',gu w' g' p.1 p.2)/\j5 w g w' g':=by
  rintro base rfl rfl;have hi0:i=0:=by simpa using hi
  subst hi0;refine (R.grow w base 0 0 0 vb voff vc #[] news (.inl ⟨rfl,rfl⟩) (bt _) (bt _) (Nat.lt_succ_self _) (by simpa using CE) hnl hncell hn1 (λ j v hj=>by simp at hj)).mono ?_;rintro ed w' ⟨G0z,c',rfl,hP,hG,hs,hC⟩;have CL:=rN hok hs hP (.inr (bt _));have hrep:=rR (es:=[]) (i:=0) (y:=y) hP hC CL (λ o h=>absurd (hok.lt _ _ h) (Nat.lt_irrefl _)) (bt _) hG hs hnl G hysz G hone1 (λ i x j p hx=>by simp at hx) hy2;exact ⟨_,_,[],ghI g w.heap.size (G0z*sz),rfl,⟨rfl,rfl⟩,hrep,by simp,mV hok hown hinj hnst hs hP (.inr (bt _))⟩
 cases ha with
 | stkn=>exact hempty none Z Z
 | stke=>exact hempty _ Z Z
 | @stk _ _ _ b0 cap c e0 how hb CJ hlenc hszc CH CN hr=>
  have hcone:∀ j v,j<es.length*sz->c[j]? = some v->v.oneCell'=true:=by
   intro j v hj hjv;have hd:j / sz<es.length:=Nat.div_lt_of_lt_mul (by rw [Nat.mul_comm]; exact hj);have hm:j%sz<sz:=Nat.mod_lt _ h0;have hx:=hszc es[j / sz] (List.getElem_mem hd);obtain ⟨u,hu,hur⟩:=hr (j / sz) es[j / sz] (j%sz) _ (List.getElem?_eq_getElem hd) (List.getElem?_eq_getElem O);have e1:j / sz*sz+j%sz=j:=Nat.div_add_mod' _ _;rw [e1,hjv] at hu
   cases hu
   exact PV.one_rep hur (CH _ (List.getElem_mem hd) _ (List.getElem_mem _))
  by_cases hroom:es.length+1<=cap
  ·obtain ⟨p0,hp0⟩:=hnews 0 h0;obtain ⟨hst0,hcell0⟩:=hc 0 p0 hp0
   have CQ:vb≠b0:=by
    intro e1; subst e1;have:=(CN _).1 hst0;simp only [World.cell?,hb] at hcell0;rw [Array.getElem?_eq_none O] at hcell0
    cases hcell0
   obtain ⟨cA,tA,fA,hA⟩:∃ cA tA fA,w.heap[vb]? = some (.cells cA tA fA):=by
    simp only [World.cell?] at hcell0
    cases hh:w.heap[vb]? with
    | none=>rw [hh] at hcell0; cases hcell0
    | some o=>
     rw [hh] at hcell0
     cases o with
     | cells cA tA fA=>exact ⟨cA,tA,fA,Z⟩
     | _=>cases hcell0
   refine (R.room w b0 es.length cap i vb voff vc c e0 news cA tA fA hb CJ hi hroom hlen' CQ hnl hncell hn1 hcone hA).mono ?_;rintro ed w' ⟨rfl,c',hP,hsz',hs,hC⟩;have hold:(∃ c e0,w.heap[b0]? = some (.cells c e0 (0,0))/\c.size=c'.size/\∀ o,g.st b0 o->o=cap*sz):=⟨c,e0,hb,hs.symm,λ o h=>(CN o).1 h⟩
   have hs':c'.size=cap*sz:=hs.trans CJ;have CL:=rN hok hs' hP (.inl hold);have hrep:=rR (es:=es) (i:=i) (y:=y) hP hC CL (λ o h=>(CN o).1 h) hi hroom hs' hnl hszc hysz CH hone1 hr hy2;exact ⟨_,_,[],ghI g b0 (cap*sz),Z,⟨Z,Z⟩,hrep,by simp,mV hok hown hinj hnst hs' hP (.inl ⟨how,hold⟩)⟩
  ·refine (R.grow w (some ⟨b0,0,none⟩) es.length cap i vb voff vc c news (.inr ⟨b0,e0,rfl,hb,CJ⟩) hi hlenc O CE hnl hncell hn1 hcone).mono ?_;rintro ed w' ⟨G0z,c',rfl,hP,hG,hs,hC⟩;have CL:=rN hok hs hP (.inr (bt _));have hrep:=rR (es:=es) (i:=i) (y:=y) hP hC CL (λ o h=>absurd (hok.lt _ _ h) (Nat.lt_irrefl _)) hi hG hs hnl hszc hysz CH hone1 hr hy2;exact ⟨_,_,[],ghI g w.heap.size (G0z*sz),rfl,⟨rfl,rfl⟩,hrep,by simp,mV hok hown hinj hnst hs hP (.inr (bt _))⟩
def A0:AV->Bool|.p (.val _)=>true|_=>false
def yt:AV->Bool|.p (.val _)=>true|.tuple cs=>cs.all A0|_=>false
theorem xu {w w':World}{g g':Gh}{r:AV}{v:Value}(hf:A0 r=true)(h:ARep w g r v):ARep w' g' r v:=by
 cases h with
 | p h=>
  cases h with
  | val v=>exact .p (.val v)
  | _=>cases hf
 | _=>cases hf
theorem zv {w w':World}{g g':Gh}{r:AV}{v:Value}(hf:yt r=true)(h:ARep w g r v):ARep w' g' r v:=by
 cases h with
 | p h=>
  cases h with
  | val v=>exact .p (.val v)
  | _=>cases hf
 | tuple hl h=>exact .tuple hl (λ i c v hc hv=>xu (qr.1 hf c (List.mem_of_getElem? hc)) (h i c v hc hv))
 | _=>cases hf
section
variable {C:Cx} {o:Oper} {K:AS->Prop} {sl:List (Nat×AV)} {ob:List (Nat×List AV)} {d:Nat}
theorem vj {f:FuncId}{args:Array Operand}{ts:Array TypeId}{l l' q:List AV}{r0:AV}(hc:hZ C.P f q (·=r0))(hfl:yt r0=true)(ho:o.op=.call { callee:=.value (.func f),args:=args,argTypes:=ts })
  (hd:o.dst=some d) (hn:Nat.blt d C.n=true) (hl:gx sl args.toList=some l) (hl':rP l=some l') (hq:jQ l' q) (henter:∀ vs w,(callFunc f vs).run C.P w=.ok (.enter f vs) w)
  (hK:K ⟨(d,r0)::sl,ob⟩):aO C o K ⟨sl,ob⟩:=by
 intro g a w hs;obtain ⟨a1,a2⟩:=gf hs _ l hl;obtain ⟨m1,m2⟩:=vU hl';obtain ⟨b1,b2⟩:=ge hq;have hEv:Ev w g.st w (pj w g l):=λ b o h=>⟨.inl h,rfl⟩
 have hok:Ok0 w (pj w g l):=by
  refine ⟨λ b o h=>?_,hs.ok0.gl.mono hEv⟩;rcases h with h|⟨_,c,e,h,_⟩
  ·exact hs.lt b o h
  ·exact (Array.getElem?_eq_some_iff.1 h).1
 have CE:=a1.symm.trans (m1.trans b1)
 have hcall:=hc w (pj w g l) (args.map a.eval) hok (by simpa using CE) (λ i c v hc hv=>by
  have hi':i<l'.length:=by have:=(List.getElem?_eq_some_iff.1 hc).1; omega
  have hi:i<l.length:=by omega
  have hv':(args.toList.map a.eval)[i]? = some v:=by rw [<- Array.toList_map]; simpa using hv
  have h1:=a2 i _ v (List.getElem?_eq_getElem hi) hv';have h2:=z6 (l:=l) (List.getElem_mem hi) h1 (m2 i _ _ (List.getElem?_eq_getElem hi) (List.getElem?_eq_getElem hi'))
  exact b2 i _ c (List.getElem?_eq_getElem hi') hc w _ v h2)
 unfold Oper.wp;have hrun:(execOp a.eval o).run C.P w=.ok (.enter f (args.map a.eval)) w:=by simp [execOp,ho,resolve,Act.eval,Deferred.ofValue,invoke,henter]
 rw [hrun];simp only [Oper.upon];refine hcall.mono λ e w' ⟨v,r,g',he,hR,hr,hA⟩=>?_;subst he;subst hR
 have hs':St C.n C.w0 C.F g ⟨sl,ob⟩ a w':=by
  refine hs.evolve0 (λ b o h=>?_) (λ id b h=>?_) hs.inj (λ i b h=>?_) (λ b o h=>?_) (λ b h=>?_) hA.os hA.out hA.tape hA.size (λ b hb o=>Iff.rfl) (λ _ _=>rfl)
  ·have hlt:=hs.lt b o h;exact ⟨h,by simp only [World.cell?,hA.fr b hlt]⟩
  ·have hlt:=(hs.own id b h).1;exact ⟨h,hA.fr b hlt,λ o ho=>ho⟩
  ·have:=hs.own i b h; have:=hA.size; exact ⟨by omega,(hs.own i b h).2⟩
  ·have:=hs.lt b o h; have:=hA.size; omega
  ·have:=hs.fl b h; have:=hs.size; exact hA.fr b O
 have hp:=hs'.put (d:=o.dst) (x:=r) (v:=v) (λ t ht=>by rw [hd] at ht; cases ht; exact mv ▸ hn) (zv hfl hr);rw [hd] at hp;simp only;rw [hd];exact ⟨_,_,hp,hK⟩
end
open Go.Proofs Go.RowKit Go
theorem jm:Tryz.prog.follows .mixedOrders=true:=by kernel_rfl
theorem eV (c:Array Value)(o:Nat)(l:List Value)(h:o+l.length<=c.size)(j:Nat):((c.toList.take o++l++c.toList.drop (o+l.length)).toArray)[j]? = if o<=j/\j<o+l.length then l[j-o]? else c[j]?:=by
 have:=fu c.toList l o (by simpa using h) j;simpa using this
theorem co (c:Array Value)(o:Nat)(l:List Value)(h:o+l.length<=c.size):(c.toList.take o++l++c.toList.drop (o+l.length)).toArray.size=c.size:=by
 simp; omega
theorem m7:(Tryz.prog.info? 33).map (λ i=>(i.zero,i.size,i.bytes))=some (some (.agg #[.int .i64 0,.int .i64 0,.string ⟨#[]⟩,.slice none 0 0,.slice none 0 0]),5,80):=by kernel_rfl
set_option maxRecDepth 100000 in
theorem qp (w:World)(b n cap vb voff m vc:Nat)(c:Array Value)(e0:TypeId)(news:List Value)(hb:w.heap[b]? = some (.cells c e0 (0,0)))(CJ:c.size=cap*5)(hm0:0<m)(hroom:n+m<=cap)
  (hnl:news.length=m*5) (hn:∀ j v,news[j]? = some v->w.cell? ⟨vb,voff+j,none⟩=some v) (h1:∀ v∈news,v.oneCell'=true) (c':Array Value) (hc':c'=(c.toList.take (n*5)++news++c.toList.drop (n*5+news.length)).toArray) :
  Calls Tryz.prog 104 #[.slice (some ⟨b,0,none⟩) n cap,.int .i64 n,.slice (some ⟨vb,voff,none⟩) m vc] w λ ed w'=>
   ed=.returned (.slice (some ⟨b,0,none⟩) (n+m) cap)/\w'=w.setRow b c':=by
 have mixed:=jm;obtain ⟨i0,hi0,hz⟩:=ld.1 m7;have hzs:i0.size=5:=congrArg (λ x=>x.2.1) hz;have hz1:¬ ((m:Int)=0):=by omega
 have hsrc:Src Tryz.prog i0.size 30 (.slice (some ⟨vb,voff,none⟩) m vc) m news w:=by
  rw [hzs];exact Src.ofSlice w Tryz.underlying30 ⟨vb,voff,none⟩ m vc news O (λ j u hj=>by rw [Addr.add_lit]; exact hn j u hj) h1
 have hstc:=run_storeCells_at Tryz.prog b (n*5) e0 news 0 c w hb (by simp only [Nat.add_zero]; omega) h1;simp only [Nat.add_zero] at hstc;rw [<- hc'] at hstc
 have hrun:∀ ty,(Builtin.append_ #[30,30] ty #[.slice (some ⟨b,0,none⟩) n cap,.slice (some ⟨vb,voff,none⟩) m vc]).run Tryz.prog w=.ok (.slice (some ⟨b,0,none⟩) (n+m) cap) _:=λ ty=>
  en _ _ ty _ i0 Tryz.underlying30 hi0 b n cap _ m news hsrc hroom (by rw [hzs]; first|exact hstc|(rw [Nat.mul_one]; exact hstc))
 clear hc' hstc hsrc hnl hn h1 hb CJ
 go_enter Tryz.func104,Tryz.ntmps104
 go_wp2_with (at_builtin; refine Lib.wpList_append_run _ Z _ _ _ _ Z _ _ Z Z _ _ (hrun _) ?_)
 go_ret
 exact ⟨Z,Z⟩
set_option maxRecDepth 100000 in
theorem uW (w:World)(b n cap i vb voff m vc:Nat)(c:Array Value)(e0:TypeId)(news mid:List Value)(cA:Array Value)(tA:TypeId)(fA:Nat×Nat)(hb:w.heap[b]? = some (.cells c e0 (0,0)))(CJ:c.size=cap*5)(hi:i<n)(hm0:0<m)(hroom:n+m<=cap)(hn63:n+m<=9223372036854775807)(hvb:vb≠b)
  (hnl:news.length=m*5) (hn:∀ j v,news[j]? = some v->w.cell? ⟨vb,voff+j,none⟩=some v) (h1:∀ v∈news,v.oneCell'=true) (hml:mid.length=(n-i)*5) (hm:∀ (j:Nat) (v:Value),mid[j]? = some v->c[i*5+j]? = some v) (hm1:∀ v∈mid,v.oneCell'=true)
  (hA:w.heap[vb]? = some (.cells cA tA fA)) (hA0:cA.size≠0)
  (c1 c2:Array Value) (hc1:c1=(c.toList.take ((i+m)*5)++mid++c.toList.drop ((i+m)*5+mid.length)).toArray) (hc2:c2=(c1.toList.take (i*5)++news++c1.toList.drop (i*5+news.length)).toArray) :
  Calls Tryz.prog 104 #[.slice (some ⟨b,0,none⟩) n cap,.int .i64 i,.slice (some ⟨vb,voff,none⟩) m vc] w λ ed w'=>
   ed=.returned (.slice (some ⟨b,0,none⟩) (n+m) cap)/\w'=w.drew.setRow b c2:=by
 have mixed:=jm;have hinf:(Tryz.prog.info? 33).map (·.size)=some 5:=by kernel_rfl
 have hz1:¬ ((m:Int)=0):=by omega
 have hz2:¬ ((i:Int)=(n:Int)):=by omega
 have hfit:(i+m)*5+mid.length<=c.size:=by omega
 have hs1:c1.size=c.size:=by rw [hc1]; exact co c _ mid hfit
 have hov:∀ lb cb,(callFunc 131 #[.slice (some ⟨vb,voff,none⟩) m vc,.slice (some ⟨b,(i+m)*5,none⟩) lb cb]).run Tryz.prog w=.ok (.value (.bool false)) w:=λ lb cb=>by
  rw [run_callFunc_extern Tryz.func131 (by kernel_rfl) (by kernel_rfl) (by kernel_rfl) (e:=Extern.SlicesOverlaps.overlaps #[30,30] #[4]) (by kernel_rfl),
   ja w 30 4 33 Tryz.underlying30 5 (λ w=>by kernel_rfl) ⟨vb,voff,none⟩ ⟨b,(i+m)*5,none⟩ m vc lb cb hvb hA hb hA0]
  rfl
 have hcp1:∀ ty dc sc,(Builtin.copy_ #[30,30] ty #[.slice (some ⟨b,(i+m)*5,none⟩) (n+m-(i+m)) dc,.slice (some ⟨b,i*5,none⟩) (n+m-i) sc]).run Tryz.prog w.drew=.ok (goInt (Nat.min (n+m-i) (n+m-(i+m)))) (w.drew.setRow b c1):=λ ty dc sc=>by
  rw [hc1]
  exact dB w.drew _ _ ty _ b ((i+m)*5) (n+m-(i+m)) dc ⟨b,i*5,none⟩ (n+m-i) sc 5 c e0 mid Tryz.underlying30 hinf hb (by rw [hml]; simp only [Nat.min_def]; split <;> omega)
   (λ j v hj=>by rw [Addr.add_lit]; rw [World.cell?_drew]; simp only [World.cell?,hb]; exact hm j v hj) hfit hm1
 have hcp2:∀ (W:World),W.heap=(w.drew.setRow b c1).heap->∀ ty dc,(Builtin.copy_ #[30,30] ty #[.slice (some ⟨b,i*5,none⟩) (n+m-i) dc,.slice (some ⟨vb,voff,none⟩) m vc]).run Tryz.prog W=.ok (goInt (Nat.min m (n+m-i))) (W.setRow b c2):=λ W hW ty dc=>by
  have hWb:W.heap[b]? = some (.cells c1 e0 (0,0)):=by rw [hW]; exact setRow_heap w.drew b c c1 e0 (0,0) hb
  rw [hc2]
  exact dB W _ _ ty _ b (i*5) (n+m-i) dc ⟨vb,voff,none⟩ m vc 5 c1 e0 news Tryz.underlying30 hinf hWb (by rw [hnl]; simp only [Nat.min_def]; split <;> omega)
   (λ j v hj=>by
    rw [Addr.add_lit];have:=hn j v hj;simp only [World.cell?] at this ⊢;rw [hW,setRow_other w.drew b vb c1 hvb]
    exact this) O h1
 have hw1:IntKind.i64.wrap ((i:Int)+(m:Int))=(i:Int)+(m:Int):=by rw [IntKind.wrap_i64]; omega
 have hb1:(0:Int)<=(i:Int)+(m:Int):=by omega
 have hin:i<=n:=by omega
 have htn:((i:Int)+(m:Int)).toNat=i+m:=by omega
 have hb2:¬ (cap=i+m):=by omega
 have hb3:(i:Int)<=(n:Int)+(m:Int):=by omega
 have hb4:¬ (cap=i):=by omega
 clear CJ hfit hs1 hml hm hm1 hnl hn h1 hc1 hc2 hinf hA hA0 hb
 go_enter Tryz.func104,Tryz.ntmps104
 go_wp2_with (simp only [hov])
 go_region_law_o (refine step_copy_runI Z _ _ 30 30 Z _ _ (by simp [Act.eval,Act.put]) (by simp [Act.eval,Act.put]) (hcp1 _ _ _) ?_)
 go_wp2_with (at_builtin; refine wpList_copy_runI _ Z _ _ 30 30 Z _ _ Z Z (hcp2 _ Z _ _) ?_)
 go_ret
 exact ⟨Z,by rw [setRow_setRow]⟩
set_option maxRecDepth 100000 in
theorem qw (w:World)(base:Option Addr)(n cap vb voff m vc:Nat)(olds news:List Value)(hm0:0<m)(hnc:n<=cap)(hroom:cap<n+m)(hbig:(n+m)*80<=140737488355328)(hold:(Builtin.firstCells 5 n (.slice base n cap)).run Tryz.prog w.drew=.ok olds.toArray w.drew)
  (hnil:base=none->n=0) (hnl:news.length=m*5) (hn:∀ j v,news[j]? = some v->w.cell? ⟨vb,voff+j,none⟩=some v) (h1:∀ v∈news,v.oneCell'=true) :
  Calls Tryz.prog 104 #[.slice base n cap,.int .i64 n,.slice (some ⟨vb,voff,none⟩) m vc] w λ ed w'=>
   ed=.returned (.slice (some ⟨w.heap.size,0,none⟩) (n+m) (grownCap w (n+m) cap 33))/\w'=w.drew.alloc (.cells ((olds++news).toArray++Builtin.zeroCells (.agg #[.int .i64 0,.int .i64 0,.string ⟨#[]⟩,.slice none 0 0,.slice none 0 0]:Value).cells (grownCap w (n+m) cap 33-(n+m))) 33):=by
 have mixed:=jm;obtain ⟨i0,hi0,hz⟩:=ld.1 m7;have hzz:i0.zero=some (.agg #[.int .i64 0,.int .i64 0,.string ⟨#[]⟩,.slice none 0 0,.slice none 0 0]):=congrArg Prod.fst hz;have hzs:i0.size=5:=congrArg (λ x=>x.2.1) hz;have hzb:i0.bytes=80:=congrArg (λ x=>x.2.2) hz;have hz1:¬ ((m:Int)=0):=by omega
 have hsrc:Src Tryz.prog i0.size 30 (.slice (some ⟨vb,voff,none⟩) m vc) m news w:=by
  rw [hzs];exact Src.ofSlice w Tryz.underlying30 ⟨vb,voff,none⟩ m vc news O (λ j u hj=>by rw [Addr.add_lit]; exact hn j u hj) h1
 have hrun:∀ ty,(Builtin.append_ #[30,30] ty #[.slice base n cap,.slice (some ⟨vb,voff,none⟩) m vc]).run Tryz.prog w=_:=λ ty=>
  run_append_grow_src w 30 30 ty 33 i0 _ Tryz.underlying30 hi0 hzz base n cap olds (by rw [hzs]; exact hold) _ m news hsrc hroom O (by rw [hzb]; exact growslice_fits hroom hbig)
 clear hsrc hnl hn h1 hold hzz hzs hzb hz hi0 hbig
 go_enter Tryz.func104,Tryz.ntmps104
 cases base with
 | none=>
  have h0:=hnil rfl;subst h0
  go_wp2_with (at_builtin; refine Lib.wpList_append_run _ Z _ _ _ _ Z _ _ Z Z _ _ (hrun _) ?_)
  all_goals (go_ret; exact ⟨Z,Z⟩)
 | some a=>
  obtain ⟨ab,ao,asp⟩:=a
  go_wp2_with (at_builtin; refine Lib.wpList_append_run _ Z _ _ _ _ Z _ _ Z Z _ _ (hrun _) ?_)
  all_goals (go_ret; exact ⟨Z,Z⟩)
set_option maxRecDepth 100000 in
theorem w5 (w:World)(b n cap i vb voff m vc:Nat)(c:Array Value)(e0:TypeId)(pre news mid:List Value)(hb:w.heap[b]? = some (.cells c e0 (0,0)))(hvw:vb<w.heap.size)(hi:i<n)(hm0:0<m)(hnc:n<=cap)(hroom:cap<n+m)(hbig:(n+m)*80<=140737488355328)
  (hnl:news.length=m*5) (hn:∀ j v,news[j]? = some v->w.cell? ⟨vb,voff+j,none⟩=some v) (h1:∀ v∈news,v.oneCell'=true) (hpl:pre.length=i*5) (hp:∀ (j:Nat) (v:Value),pre[j]? = some v->c[j]? = some v)
  (hml:mid.length=(n-i)*5) (hm:∀ (j:Nat) (v:Value),mid[j]? = some v->c[i*5+j]? = some v) (hm1:∀ v∈mid,v.oneCell'=true) (G0z:Nat) (hG:G0z=grownCap w (n+m) cap 33) (ROW c1 c2:Array Value)
  (hROW:ROW=pre.toArray++Builtin.zeroCells (.agg #[.int .i64 0,.int .i64 0,.string ⟨#[]⟩,.slice none 0 0,.slice none 0 0]:Value).cells (n+m-i)++Builtin.zeroCells (.agg #[.int .i64 0,.int .i64 0,.string ⟨#[]⟩,.slice none 0 0,.slice none 0 0]:Value).cells (G0z-(n+m))) (hRl:ROW.size=G0z*5)
  (hc1:c1=(ROW.toList.take (i*5)++news++ROW.toList.drop (i*5+news.length)).toArray) (hc2:c2=(c1.toList.take ((i+m)*5)++mid++c1.toList.drop ((i+m)*5+mid.length)).toArray) :
  Calls Tryz.prog 104 #[.slice (some ⟨b,0,none⟩) n cap,.int .i64 i,.slice (some ⟨vb,voff,none⟩) m vc] w λ ed w'=>
   ed=.returned (.slice (some ⟨w.heap.size,0,none⟩) (n+m) G0z)/\w'=(((w.alloc (.cells ROW 33)).drew.setRow w.heap.size c1).drew).setRow w.heap.size c2:=by
 have mixed:=jm;obtain ⟨i0,hi0,hz⟩:=ld.1 m7;have hzz:i0.zero=some (.agg #[.int .i64 0,.int .i64 0,.string ⟨#[]⟩,.slice none 0 0,.slice none 0 0]):=congrArg Prod.fst hz;have hzs:i0.size=5:=congrArg (λ x=>x.2.1) hz;have hzb:i0.bytes=80:=congrArg (λ x=>x.2.2) hz;have hinf:(Tryz.prog.info? 33).map (·.size)=some 5:=by kernel_rfl
 have hz1:¬ ((m:Int)=0):=by omega
 have hz2:¬ ((i:Int)=(n:Int)):=by omega
 have hz3:(cap:Int)<(n:Int)+(m:Int):=by omega
 have hbw:b<w.heap.size:=(Array.getElem?_eq_some_iff.1 hb).1;have hkk:(n:Int)+(m:Int)-(i:Int)=((n+m-i:Nat):Int):=by omega
 have CR:i+(n+m-i)=n+m:=by omega
 have hold:(Builtin.firstCells i0.size i (.slice (some ⟨b,0,none⟩) i cap)).run Tryz.prog w.drew=.ok pre.toArray w.drew:=by
  rw [hzs]
  exact run_firstCells_some w.drew 5 i ⟨b,0,none⟩ i cap pre O (λ j v hj=>by
   rw [Addr.add_lit,rd,World.cell?_drew]; simp only [World.cell?,hb]; exact hp j v hj)
 have hrz:∀ ty,(Builtin.append_ #[30,3] ty #[.slice (some ⟨b,0,none⟩) i cap,.int .i64 ((n:Int)+(m:Int)-(i:Int))]).run Tryz.prog w =
   .ok (.slice (some ⟨w.heap.size,0,none⟩) (n+m) G0z) (w.drew.alloc (.cells ROW 33)):=λ ty=>by
  have h:=Lib.run_append_grow_zeros w 30 3 ty 33 i0 _ .i64 .i64 Tryz.underlying30 Tryz.underlying3 hi0 hzz (some ⟨b,0,none⟩) i cap pre hold (n+m-i) O O O O  (by rw [hzb]; omega) (by rw [hzb,CR]; exact growslice_fits hroom hbig);rw [CR,<- hG,<- hROW] at h;rw [hkk];exact h
 have hGn:n+m<=G0z:=by rw [hG]; exact grownCap_ge w _ _ _
 have hG63:G0z<=9223372036854775807:=by
  have:=grownCap_le_maxLen w (n+m) cap 33 (by unfold maxLen; omega);rw [<- hG] at this;unfold maxLen at this;omega
 have hfit1:i*5+news.length<=ROW.size:=by rw [hRl,hnl]; omega
 have hs1:c1.size=ROW.size:=by rw [hc1]; exact co ROW _ news hfit1
 have hcpA:∀ (W:World),W.heap=(w.drew.alloc (.cells ROW 33)).heap->∀ ty dc,(Builtin.copy_ #[30,30] ty #[.slice (some ⟨w.heap.size,i*5,none⟩) (n+m-i) dc,.slice (some ⟨vb,voff,none⟩) m vc]).run Tryz.prog W=.ok (goInt (Nat.min m (n+m-i))) (W.setRow w.heap.size c1):=λ W hW ty dc=>by
  have hWb:W.heap[w.heap.size]? = some (.cells ROW 33 (0,0)):=by rw [hW]; exact bG (w:=w.drew)
  rw [hc1]
  exact dB W _ _ ty _ w.heap.size (i*5) (n+m-i) dc ⟨vb,voff,none⟩ m vc 5 ROW 33 news Tryz.underlying30 hinf hWb (by rw [hnl]; simp only [Nat.min_def]; split <;> omega)
   (λ j v hj=>by
    rw [Addr.add_lit];have:=hn j v hj;simp only [World.cell?] at this ⊢;rw [hW,Lib.alloc_old w.drew _ vb hvw]
    exact this) hfit1 h1
 have hcpB:∀ (W:World),W.heap=((w.drew.alloc (.cells ROW 33)).setRow w.heap.size c1).heap->∀ ty dc sc,(Builtin.copy_ #[30,30] ty #[.slice (some ⟨w.heap.size,(i+m)*5,none⟩) (n+m-(i+m)) dc,.slice (some ⟨b,i*5,none⟩) (n-i) sc]).run Tryz.prog W=.ok (goInt (Nat.min (n-i) (n+m-(i+m)))) (W.setRow w.heap.size c2):=λ W hW ty dc sc=>by
  have hWb:W.heap[w.heap.size]? = some (.cells c1 33 (0,0)):=by rw [hW]; exact setRow_heap _ _ ROW c1 33 (0,0) (bG (w:=w.drew))
  rw [hc2]
  exact dB W _ _ ty _ w.heap.size ((i+m)*5) (n+m-(i+m)) dc ⟨b,i*5,none⟩ (n-i) sc 5 c1 33 mid Tryz.underlying30 hinf hWb (by rw [hml]; simp only [Nat.min_def]; split <;> omega)
   (λ j v hj=>by
    rw [Addr.add_lit];simp only [World.cell?];rw [hW,setRow_other _ _ b c1 O,Lib.alloc_old w.drew _ b hbw];have:w.drew.heap[b]? = some (.cells c e0 (0,0)):=hb;rw [this]
    exact hm j v hj) (by rw [hs1,hRl,hml]; omega) hm1
 have hGi:¬ (G0z=i):=by omega
 have hGim:¬ (G0z=i+m):=by omega
 have hci:¬ (cap=i):=by omega
 have hw1:IntKind.i64.wrap ((i:Int)+(m:Int))=(i:Int)+(m:Int):=by rw [IntKind.wrap_i64]; omega
 have hb1:(0:Int)<=(i:Int)+(m:Int):=by omega
 have hin:i<=n:=by omega
 have htn:((i:Int)+(m:Int)).toNat=i+m:=by omega
 have hb3:(i:Int)<=(n:Int):=by omega
 have hE1:((w.alloc (.cells ROW 33)).drew).heap=(w.drew.alloc (.cells ROW 33)).heap:=rfl;have hF1:(((w.alloc (.cells ROW 33)).drew.setRow w.heap.size c1).drew).heap=((w.drew.alloc (.cells ROW 33)).setRow w.heap.size c1).heap:=rfl
 clear hkk CR hold hROW hG hRl hc1 hc2 hfit1 hs1 hml hm hm1 hnl hn h1 hpl hp hb hinf hzz hzs hzb hz hi0 hbig
 go_enter Tryz.func104,Tryz.ntmps104
 go_wp2_with (first
  | (at_builtin; refine Lib.wpList_append_run _ Z _ _ _ _ Z _ _ Z Z _ _ (hrz _) ?_)
  | (at_builtin; refine wpList_copy_runI _ Z _ _ 30 30 Z _ _ Z Z (hcpA _ hE1 _ _) ?_)
  | (at_builtin; refine wpList_copy_runI _ Z _ _ 30 30 Z _ _ Z Z (hcpB _ Z _ _ _) ?_))
 go_region_law_o (refine step_copy_runI Z _ _ 30 30 Z (.slice (some ⟨w.heap.size,(i+m)*5,none⟩) (n+m-(i+m)) (G0z-(i+m))) (.slice (some ⟨b,i*5,none⟩) (n-i) (cap-i)) (by simp [Act.eval,Act.put]) (by simp [Act.eval,Act.put]) (hcpB _ hF1 3 (G0z-(i+m)) (cap-i)) ?_)
 go_wp2
 go_ret
 exact ⟨Z,Z⟩
theorem zc:uP Tryz.prog 104 33 5 80 where
 room:=by
  intro w b n cap i vb voff vc c e0 news cA tA fA hb CJ hi hroom hn63 hvb hnl hn h1 CH hA;rcases Nat.lt_or_ge i n with hlt|hge
  ·have hA0:cA.size≠0:=by
    have:0<news.length:=by omega
    have:=hn 0 _ (List.getElem?_eq_getElem this);simp only [World.cell?,hA] at this;intro h0;rw [Array.getElem?_eq_none O] at this
    cases this
   obtain ⟨mid,hmid⟩:∃ mid,mid=(c.toList.drop (i*5)).take ((n-i)*5):=⟨_,rfl⟩
   have hml:mid.length=(n-i)*5:=by
    rw [hmid,sm,List.length_drop,ur]; omega
   have hm:∀ (j:Nat) (v:Value),mid[j]? = some v->c[i*5+j]? = some v:=by
    intro j v hj;have hjl:j<(n-i)*5:=by have:=(List.getElem?_eq_some_iff.1 hj).1; omega
    rw [hmid,List.getElem?_take,if_pos hjl,List.getElem?_drop] at hj;simpa using hj
   have hm1:∀ v∈mid,v.oneCell'=true:=by
    intro v hv;obtain ⟨j,hj⟩:=List.mem_iff_getElem?.1 hv;have hjl:j<(n-i)*5:=by have:=(List.getElem?_eq_some_iff.1 hj).1; omega
    exact CH (i*5+j) v O (hm j v hj)
   refine (uW w b n cap i vb voff 1 vc c e0 news mid cA tA fA hb CJ hlt (by decide) hroom O hvb O hn h1 hml hm hm1 hA hA0 _ _ rfl rfl).mono ?_;rintro ed w' ⟨rfl,rfl⟩;have hfit:(i+1)*5+mid.length<=c.size:=by omega
   have hs1:=co c ((i+1)*5) mid hfit;have hfit2:=Nat.le_of_eq hs1.symm;refine ⟨Z,_,qY hb _,setRow_size _ _ _,(co _ (i*5) news O).trans hs1,?_⟩;refine pO (s:=5) (mid:=mid) O hnl O hm (λ j=>?_) (λ j=>eV _ _ news O j);have:=eV c ((i+1)*5) mid hfit j;rw [show (i+1)*5=i*5+5 by omega] at this ⊢;exact this
  ·obtain rfl:i=n:=by omega
   refine (qp w b i cap vb voff 1 vc c e0 news hb CJ (by decide) hroom O hn h1 _ rfl).mono ?_;rintro ed w' ⟨rfl,rfl⟩;refine ⟨rfl,_,tG hb _,setRow_size _ _ _,co c _ news O,?_⟩;exact tf (λ j=>eV c _ news O j)
 grow:=by
  intro w base n cap i vb voff vc c news hbase hi hncap hroom hbig hnl hn h1 CH
  have hvw:vb<w.heap.size:=by
   have:0<news.length:=by omega
   exact block_lt_of_cell (hn 0 _ (List.getElem?_eq_getElem this))
  have hgn:=grownCap_ge w (n+1) cap 33;rcases Nat.lt_or_ge i n with hlt|hge
  ·obtain ⟨b,e0,rfl,hb,CJ⟩:∃ b e0,base=some ⟨b,0,none⟩/\w.heap[b]? = some (.cells c e0 (0,0))/\c.size=cap*5:=by
    rcases hbase with h|h
    ·omega
    ·exact h
   obtain ⟨mid,hmid⟩:∃ mid,mid=(c.toList.drop (i*5)).take ((n-i)*5):=⟨_,rfl⟩
   have hml:mid.length=(n-i)*5:=by
    rw [hmid,sm,List.length_drop,ur]; omega
   have hm:∀ (j:Nat) (v:Value),mid[j]? = some v->c[i*5+j]? = some v:=by
    intro j v hj;have hjl:j<(n-i)*5:=by have:=(List.getElem?_eq_some_iff.1 hj).1; omega
    rw [hmid,List.getElem?_take,if_pos hjl,List.getElem?_drop] at hj;simpa using hj
   have hm1:∀ v∈mid,v.oneCell'=true:=by
    intro v hv;obtain ⟨j,hj⟩:=List.mem_iff_getElem?.1 hv;have hjl:j<(n-i)*5:=by have:=(List.getElem?_eq_some_iff.1 hj).1; omega
    exact CH (i*5+j) v O (hm j v hj)
   obtain ⟨pre,hpre⟩:∃ pre,pre=c.toList.take (i*5):=⟨_,rfl⟩
   have hpl:pre.length=i*5:=by
    rw [hpre,sm,ur]; omega
   have hp:∀ (j:Nat) (v:Value),pre[j]? = some v->c[j]? = some v:=by
    intro j v hj;have hjl:j<i*5:=by have:=(List.getElem?_eq_some_iff.1 hj).1; omega
    rw [hpre,List.getElem?_take,if_pos hjl] at hj;simpa using hj
   obtain ⟨G0z,hG⟩:∃ G0z,G0z=grownCap w (n+1) cap 33:=⟨_,rfl⟩
   rw [<- hG] at hgn;obtain ⟨ROW,hROW⟩:∃ ROW:Array Value,ROW=pre.toArray++Builtin.zeroCells (.agg #[.int .i64 0,.int .i64 0,.string ⟨#[]⟩,.slice none 0 0,.slice none 0 0]:Value).cells (n+1-i)++Builtin.zeroCells (.agg #[.int .i64 0,.int .i64 0,.string ⟨#[]⟩,.slice none 0 0,.slice none 0 0]:Value).cells (G0z-(n+1)):=⟨_,rfl⟩
   have hzc:(.agg #[.int .i64 0,.int .i64 0,.string ⟨#[]⟩,.slice none 0 0,.slice none 0 0]:Value).cells.size=5:=by kernel_rfl
   have hRl:ROW.size=G0z*5:=by
    rw [hROW];simp only [Array.size_append,List.size_toArray,hpl,size_zeroCells,hzc];omega
   refine (w5 w b n cap i vb voff 1 vc c e0 pre news mid hb hvw hlt (by decide) hncap hroom hbig O hn h1 hpl hp hml hm hm1 G0z hG ROW _ _ hROW hRl rfl rfl).mono ?_;rintro ed w' ⟨rfl,rfl⟩;have hfit1:i*5+news.length<=ROW.size:=by omega
   have hs1:=co ROW (i*5) news hfit1;have hfit2:(i+1)*5+mid.length<=ROW.size:=by omega
   refine ⟨G0z,_,Z,nJ w ROW 33 _ _,hgn,((co _ ((i+1)*5) mid O).trans hs1).trans hRl,?_⟩;refine qV (s:=5) (mid:=mid) (ROW:=ROW) O hnl O hm (λ j hj=>?_) (λ j=>eV ROW _ news hfit1 j) (λ j=>?_)
   ·have hj':j<pre.length:=by omega
    rw [hROW,Array.append_assoc,Array.getElem?_append,if_pos (by simpa using hj'),List.getElem?_toArray,List.getElem?_eq_getElem hj',hp j _ (List.getElem?_eq_getElem hj')]
   ·have:=eV (ROW.toList.take (i*5)++news++ROW.toList.drop (i*5+news.length)).toArray ((i+1)*5) mid (by rw [hs1]; exact hfit2) j;rw [show (i+1)*5=i*5+5 by omega] at this ⊢;exact this
  ·obtain rfl:i=n:=by omega
   obtain ⟨olds,hol,hold,hoc⟩:∃ olds:List Value,olds.length=i*5/\(Builtin.firstCells 5 i (.slice base i cap)).run Tryz.prog w.drew=.ok olds.toArray w.drew/\(∀ j,j<i*5->olds[j]? = c[j]?):=by
    rcases hbase with ⟨rfl,rfl⟩|⟨b,e0,rfl,hb,CJ⟩
    ·refine ⟨[],Z,?_,λ j hj=>by omega⟩
     cases base with
     | none=>exact run_firstCells_none w.drew 5 0 0 0
     | some a=>exact run_firstCells_some w.drew 5 0 a 0 0 [] Z (λ j v hj=>by simp at hj)
    ·have hl:(c.toList.take (i*5)).length=i*5:=by rw [sm,ur]; omega
     refine ⟨c.toList.take (i*5),hl,run_firstCells_some w.drew 5 i ⟨b,0,none⟩ i cap _ O (λ j v hj=>?_),λ j hj=>by rw [List.getElem?_take,if_pos hj]; simp⟩;have hjl:j<i*5:=by have:=(List.getElem?_eq_some_iff.1 hj).1; omega
     rw [List.getElem?_take,if_pos hjl] at hj;rw [Addr.add_lit,rd,World.cell?_drew]; simp only [World.cell?,hb]; simpa using hj
   have hnil:base=none->i=0:=by
    rintro rfl;rcases hbase with ⟨h,_⟩|⟨b,e0,h,_⟩
    ·exact h
    ·cases h
   refine (qw w base i cap vb voff 1 vc olds news (by decide) hncap hroom hbig hold hnil O hn h1).mono ?_;rintro ed w' ⟨rfl,rfl⟩;obtain ⟨G0z,hG⟩:∃ G0z,G0z=grownCap w (i+1) cap 33:=⟨_,rfl⟩
   rw [<- hG] at hgn ⊢;have hzc:(.agg #[.int .i64 0,.int .i64 0,.string ⟨#[]⟩,.slice none 0 0,.slice none 0 0]:Value).cells.size=5:=by kernel_rfl
   refine ⟨G0z,_,Z,nP w _ 33,hgn,?_,?_,?_,λ j h3 h4=>by omega⟩
   ·simp only [Array.size_append,List.size_toArray,n8,hol,hnl,size_zeroCells,hzc]; omega
   ·intro j hj;rw [Array.getElem?_append,if_pos (by simp only [List.size_toArray,n8]; omega),List.getElem?_toArray,List.getElem?_append,if_pos O];exact hoc j hj
   ·intro j hj;rw [Array.getElem?_append,if_pos (by simp only [List.size_toArray,n8]; omega),List.getElem?_toArray,List.getElem?_append,if_neg O];congr 1; omega
def b9 (CB:List aa)(CM:Int)(v_2:List aa):Option (List aa) :=ck ((0:Int)<=CM/\CM<=(CB.length:Int))<|ck (v_2.length=1)<|ck ((CB.length+1)*80<=140737488355328)<|some (eF CB CM.toNat (v_2.headD default))
theorem fM (CB:List aa)(CM:Int)(v_2:List aa)(r:List aa)(h0:b9 CB CM v_2=some r):bs Tryz.prog 104 [.stk 900000 5 (CB.map ah),.p (eI CM),.p (eL ah v_2)] [] (λ x y=>x=.stk 2000000 5 (r.map ah)/\y=[]):=by
 unfold b9 at h0;obtain ⟨EK,h1⟩:=cU h0;obtain ⟨D1,h2⟩:=cU h1;obtain ⟨EB,h3⟩:=cU h2
 cases h3
 obtain ⟨z,rfl⟩:∃ z,v_2=[z]:=by
  match v_2,D1 with
  | [z],_=>exact ⟨z,Z⟩
 obtain ⟨i,rfl⟩:∃ i:Nat,CM=i:=⟨CM.toNat,by omega⟩
 have hi:i<=(CB.map ah).length:=by rw [n6]; omega
 have h:=pE zc (by decide) (CB.map ah) i (ah z) hi (by rw [n6]; omega) (by rw [n6]; omega) ((congrArg List.length (aa.B' z)).trans (by cases z with|mk=>rfl));rw [tJ] at h;exact h
theorem mL:(Tryz.prog.info? 9).map (λ i=>(i.zero,i.size,i.bytes))=some (some (.string ⟨#[]⟩),1,16):=by kernel_rfl
set_option maxRecDepth 100000 in
theorem qx (w:World)(b n cap vb voff m vc:Nat)(c:Array Value)(e0:TypeId)(news:List Value)(hb:w.heap[b]? = some (.cells c e0 (0,0)))(CJ:c.size=cap)(hm0:0<m)(hroom:n+m<=cap)
  (hnl:news.length=m) (hn:∀ j v,news[j]? = some v->w.cell? ⟨vb,voff+j,none⟩=some v) (h1:∀ v∈news,v.oneCell'=true) (c':Array Value) (hc':c'=(c.toList.take (n)++news++c.toList.drop (n+news.length)).toArray) :
  Calls Tryz.prog 103 #[.slice (some ⟨b,0,none⟩) n cap,.int .i64 n,.slice (some ⟨vb,voff,none⟩) m vc] w λ ed w'=>
   ed=.returned (.slice (some ⟨b,0,none⟩) (n+m) cap)/\w'=w.setRow b c':=by
 have mixed:=jm;obtain ⟨i0,hi0,hz⟩:=ld.1 mL;have hzs:i0.size=1:=congrArg (λ x=>x.2.1) hz;have hz1:¬ ((m:Int)=0):=by omega
 have hsrc:Src Tryz.prog i0.size 31 (.slice (some ⟨vb,voff,none⟩) m vc) m news w:=by
  rw [hzs];exact Src.ofSlice w Tryz.underlying31 ⟨vb,voff,none⟩ m vc news O (λ j u hj=>by rw [Addr.add_lit]; exact hn j u hj) h1
 have hstc:=run_storeCells_at Tryz.prog b (n) e0 news 0 c w hb (by simp only [Nat.add_zero]; omega) h1;simp only [Nat.add_zero] at hstc;rw [<- hc'] at hstc
 have hrun:∀ ty,(Builtin.append_ #[31,31] ty #[.slice (some ⟨b,0,none⟩) n cap,.slice (some ⟨vb,voff,none⟩) m vc]).run Tryz.prog w=.ok (.slice (some ⟨b,0,none⟩) (n+m) cap) _:=λ ty=>
  en _ _ ty _ i0 Tryz.underlying31 hi0 b n cap _ m news hsrc hroom (by rw [hzs]; first|exact hstc|(rw [Nat.mul_one]; exact hstc))
 clear hc' hstc hsrc hnl hn h1 hb CJ
 go_enter Tryz.func103,Tryz.ntmps103
 go_wp2_with (at_builtin; refine Lib.wpList_append_run _ Z _ _ _ _ Z _ _ Z Z _ _ (hrun _) ?_)
 go_ret
 exact ⟨Z,Z⟩
set_option maxRecDepth 100000 in
theorem u0 (w:World)(b n cap i vb voff m vc:Nat)(c:Array Value)(e0:TypeId)(news mid:List Value)(cA:Array Value)(tA:TypeId)(fA:Nat×Nat)(hb:w.heap[b]? = some (.cells c e0 (0,0)))(CJ:c.size=cap)(hi:i<n)(hm0:0<m)(hroom:n+m<=cap)(hn63:n+m<=9223372036854775807)(hvb:vb≠b)
  (hnl:news.length=m) (hn:∀ j v,news[j]? = some v->w.cell? ⟨vb,voff+j,none⟩=some v) (h1:∀ v∈news,v.oneCell'=true) (hml:mid.length=(n-i)) (hm:∀ (j:Nat) (v:Value),mid[j]? = some v->c[i+j]? = some v) (hm1:∀ v∈mid,v.oneCell'=true)
  (hA:w.heap[vb]? = some (.cells cA tA fA)) (hA0:cA.size≠0)
  (c1 c2:Array Value) (hc1:c1=(c.toList.take ((i+m))++mid++c.toList.drop ((i+m)+mid.length)).toArray) (hc2:c2=(c1.toList.take (i)++news++c1.toList.drop (i+news.length)).toArray) :
  Calls Tryz.prog 103 #[.slice (some ⟨b,0,none⟩) n cap,.int .i64 i,.slice (some ⟨vb,voff,none⟩) m vc] w λ ed w'=>
   ed=.returned (.slice (some ⟨b,0,none⟩) (n+m) cap)/\w'=w.drew.setRow b c2:=by
 have mixed:=jm;have hinf:(Tryz.prog.info? 9).map (·.size)=some 1:=by kernel_rfl
 have hz1:¬ ((m:Int)=0):=by omega
 have hz2:¬ ((i:Int)=(n:Int)):=by omega
 have hfit:(i+m)+mid.length<=c.size:=by omega
 have hs1:c1.size=c.size:=by rw [hc1]; exact co c _ mid hfit
 have hov:∀ lb cb,(callFunc 129 #[.slice (some ⟨vb,voff,none⟩) m vc,.slice (some ⟨b,(i+m),none⟩) lb cb]).run Tryz.prog w=.ok (.value (.bool false)) w:=λ lb cb=>by
  rw [run_callFunc_extern Tryz.func129 (by kernel_rfl) (by kernel_rfl) (by kernel_rfl) (e:=Extern.SlicesOverlaps.overlaps #[31,31] #[4]) (by kernel_rfl),
   ja w 31 4 9 Tryz.underlying31 1 (λ w=>by kernel_rfl) ⟨vb,voff,none⟩ ⟨b,(i+m),none⟩ m vc lb cb hvb hA hb hA0]
  rfl
 have hcp1:∀ ty dc sc,(Builtin.copy_ #[31,31] ty #[.slice (some ⟨b,(i+m),none⟩) (n+m-(i+m)) dc,.slice (some ⟨b,i,none⟩) (n+m-i) sc]).run Tryz.prog w.drew=.ok (goInt (Nat.min (n+m-i) (n+m-(i+m)))) (w.drew.setRow b c1):=λ ty dc sc=>by
  rw [hc1]
  exact dB w.drew _ _ ty _ b ((i+m)) (n+m-(i+m)) dc ⟨b,i,none⟩ (n+m-i) sc 1 c e0 mid Tryz.underlying31 hinf hb (by rw [hml]; simp only [Nat.min_def]; split <;> omega)
   (λ j v hj=>by rw [Addr.add_lit]; rw [World.cell?_drew]; simp only [World.cell?,hb]; exact hm j v hj) hfit hm1
 have hcp2:∀ (W:World),W.heap=(w.drew.setRow b c1).heap->∀ ty dc,(Builtin.copy_ #[31,31] ty #[.slice (some ⟨b,i,none⟩) (n+m-i) dc,.slice (some ⟨vb,voff,none⟩) m vc]).run Tryz.prog W=.ok (goInt (Nat.min m (n+m-i))) (W.setRow b c2):=λ W hW ty dc=>by
  have hWb:W.heap[b]? = some (.cells c1 e0 (0,0)):=by rw [hW]; exact setRow_heap w.drew b c c1 e0 (0,0) hb
  rw [hc2]
  exact dB W _ _ ty _ b (i) (n+m-i) dc ⟨vb,voff,none⟩ m vc 1 c1 e0 news Tryz.underlying31 hinf hWb (by rw [hnl]; simp only [Nat.min_def]; split <;> omega)
   (λ j v hj=>by
    rw [Addr.add_lit];have:=hn j v hj;simp only [World.cell?] at this ⊢;rw [hW,setRow_other w.drew b vb c1 hvb]
    exact this) O h1
 have hw1:IntKind.i64.wrap ((i:Int)+(m:Int))=(i:Int)+(m:Int):=by rw [IntKind.wrap_i64]; omega
 have hb1:(0:Int)<=(i:Int)+(m:Int):=by omega
 have hin:i<=n:=by omega
 have htn:((i:Int)+(m:Int)).toNat=i+m:=by omega
 have hb2:¬ (cap=i+m):=by omega
 have hb3:(i:Int)<=(n:Int)+(m:Int):=by omega
 have hb4:¬ (cap=i):=by omega
 clear CJ hfit hs1 hml hm hm1 hnl hn h1 hc1 hc2 hinf hA hA0 hb
 go_enter Tryz.func103,Tryz.ntmps103
 go_wp2_with (simp only [hov])
 go_region_law_o (refine step_copy_runI Z _ _ 31 31 Z _ _ (by simp [Act.eval,Act.put]) (by simp [Act.eval,Act.put]) (hcp1 _ _ _) ?_)
 go_wp2_with (at_builtin; refine wpList_copy_runI _ Z _ _ 31 31 Z _ _ Z Z (hcp2 _ Z _ _) ?_)
 go_ret
 exact ⟨Z,by rw [setRow_setRow]⟩
set_option maxRecDepth 100000 in
theorem qd (w:World)(base:Option Addr)(n cap vb voff m vc:Nat)(olds news:List Value)(hm0:0<m)(hnc:n<=cap)(hroom:cap<n+m)(hbig:(n+m)*16<=140737488355328)(hold:(Builtin.firstCells 1 n (.slice base n cap)).run Tryz.prog w.drew=.ok olds.toArray w.drew)
  (hnil:base=none->n=0) (hnl:news.length=m) (hn:∀ j v,news[j]? = some v->w.cell? ⟨vb,voff+j,none⟩=some v) (h1:∀ v∈news,v.oneCell'=true) :
  Calls Tryz.prog 103 #[.slice base n cap,.int .i64 n,.slice (some ⟨vb,voff,none⟩) m vc] w λ ed w'=>
   ed=.returned (.slice (some ⟨w.heap.size,0,none⟩) (n+m) (grownCap w (n+m) cap 9))/\w'=w.drew.alloc (.cells ((olds++news).toArray++Builtin.zeroCells (.string ⟨#[]⟩:Value).cells (grownCap w (n+m) cap 9-(n+m))) 9):=by
 have mixed:=jm;obtain ⟨i0,hi0,hz⟩:=ld.1 mL;have hzz:i0.zero=some (.string ⟨#[]⟩):=congrArg Prod.fst hz;have hzs:i0.size=1:=congrArg (λ x=>x.2.1) hz;have hzb:i0.bytes=16:=congrArg (λ x=>x.2.2) hz;have hz1:¬ ((m:Int)=0):=by omega
 have hsrc:Src Tryz.prog i0.size 31 (.slice (some ⟨vb,voff,none⟩) m vc) m news w:=by
  rw [hzs];exact Src.ofSlice w Tryz.underlying31 ⟨vb,voff,none⟩ m vc news O (λ j u hj=>by rw [Addr.add_lit]; exact hn j u hj) h1
 have hrun:∀ ty,(Builtin.append_ #[31,31] ty #[.slice base n cap,.slice (some ⟨vb,voff,none⟩) m vc]).run Tryz.prog w=_:=λ ty=>
  run_append_grow_src w 31 31 ty 9 i0 _ Tryz.underlying31 hi0 hzz base n cap olds (by rw [hzs]; exact hold) _ m news hsrc hroom O (by rw [hzb]; exact growslice_fits hroom hbig)
 clear hsrc hnl hn h1 hold hzz hzs hzb hz hi0 hbig
 go_enter Tryz.func103,Tryz.ntmps103
 cases base with
 | none=>
  have h0:=hnil rfl;subst h0
  go_wp2_with (at_builtin; refine Lib.wpList_append_run _ Z _ _ _ _ Z _ _ Z Z _ _ (hrun _) ?_)
  all_goals (go_ret; exact ⟨Z,Z⟩)
 | some a=>
  obtain ⟨ab,ao,asp⟩:=a
  go_wp2_with (at_builtin; refine Lib.wpList_append_run _ Z _ _ _ _ Z _ _ Z Z _ _ (hrun _) ?_)
  all_goals (go_ret; exact ⟨Z,Z⟩)
set_option maxRecDepth 100000 in
theorem xQ (w:World)(b n cap i vb voff m vc:Nat)(c:Array Value)(e0:TypeId)(pre news mid:List Value)(hb:w.heap[b]? = some (.cells c e0 (0,0)))(hvw:vb<w.heap.size)(hi:i<n)(hm0:0<m)(hnc:n<=cap)(hroom:cap<n+m)(hbig:(n+m)*16<=140737488355328)
  (hnl:news.length=m) (hn:∀ j v,news[j]? = some v->w.cell? ⟨vb,voff+j,none⟩=some v) (h1:∀ v∈news,v.oneCell'=true) (hpl:pre.length=i) (hp:∀ (j:Nat) (v:Value),pre[j]? = some v->c[j]? = some v)
  (hml:mid.length=(n-i)) (hm:∀ (j:Nat) (v:Value),mid[j]? = some v->c[i+j]? = some v) (hm1:∀ v∈mid,v.oneCell'=true) (G0z:Nat) (hG:G0z=grownCap w (n+m) cap 9) (ROW c1 c2:Array Value)
  (hROW:ROW=pre.toArray++Builtin.zeroCells (.string ⟨#[]⟩:Value).cells (n+m-i)++Builtin.zeroCells (.string ⟨#[]⟩:Value).cells (G0z-(n+m))) (hRl:ROW.size=G0z)
  (hc1:c1=(ROW.toList.take (i)++news++ROW.toList.drop (i+news.length)).toArray) (hc2:c2=(c1.toList.take ((i+m))++mid++c1.toList.drop ((i+m)+mid.length)).toArray) :
  Calls Tryz.prog 103 #[.slice (some ⟨b,0,none⟩) n cap,.int .i64 i,.slice (some ⟨vb,voff,none⟩) m vc] w λ ed w'=>
   ed=.returned (.slice (some ⟨w.heap.size,0,none⟩) (n+m) G0z)/\w'=(((w.alloc (.cells ROW 9)).drew.setRow w.heap.size c1).drew).setRow w.heap.size c2:=by
 have mixed:=jm;obtain ⟨i0,hi0,hz⟩:=ld.1 mL;have hzz:i0.zero=some (.string ⟨#[]⟩):=congrArg Prod.fst hz;have hzs:i0.size=1:=congrArg (λ x=>x.2.1) hz;have hzb:i0.bytes=16:=congrArg (λ x=>x.2.2) hz;have hinf:(Tryz.prog.info? 9).map (·.size)=some 1:=by kernel_rfl
 have hz1:¬ ((m:Int)=0):=by omega
 have hz2:¬ ((i:Int)=(n:Int)):=by omega
 have hz3:(cap:Int)<(n:Int)+(m:Int):=by omega
 have hbw:b<w.heap.size:=(Array.getElem?_eq_some_iff.1 hb).1;have hkk:(n:Int)+(m:Int)-(i:Int)=((n+m-i:Nat):Int):=by omega
 have CR:i+(n+m-i)=n+m:=by omega
 have hold:(Builtin.firstCells i0.size i (.slice (some ⟨b,0,none⟩) i cap)).run Tryz.prog w.drew=.ok pre.toArray w.drew:=by
  rw [hzs]
  exact run_firstCells_some w.drew 1 i ⟨b,0,none⟩ i cap pre O (λ j v hj=>by
   rw [Addr.add_lit,rd,World.cell?_drew]; simp only [World.cell?,hb]; exact hp j v hj)
 have hrz:∀ ty,(Builtin.append_ #[31,3] ty #[.slice (some ⟨b,0,none⟩) i cap,.int .i64 ((n:Int)+(m:Int)-(i:Int))]).run Tryz.prog w =
   .ok (.slice (some ⟨w.heap.size,0,none⟩) (n+m) G0z) (w.drew.alloc (.cells ROW 9)):=λ ty=>by
  have h:=Lib.run_append_grow_zeros w 31 3 ty 9 i0 _ .i64 .i64 Tryz.underlying31 Tryz.underlying3 hi0 hzz (some ⟨b,0,none⟩) i cap pre hold (n+m-i) O O O O  (by rw [hzb]; omega) (by rw [hzb,CR]; exact growslice_fits hroom hbig);rw [CR,<- hG,<- hROW] at h;rw [hkk];exact h
 have hGn:n+m<=G0z:=by rw [hG]; exact grownCap_ge w _ _ _
 have hG63:G0z<=9223372036854775807:=by
  have:=grownCap_le_maxLen w (n+m) cap 9 (by unfold maxLen; omega);rw [<- hG] at this;unfold maxLen at this;omega
 have hfit1:i+news.length<=ROW.size:=by rw [hRl,hnl]; omega
 have hs1:c1.size=ROW.size:=by rw [hc1]; exact co ROW _ news hfit1
 have hcpA:∀ (W:World),W.heap=(w.drew.alloc (.cells ROW 9)).heap->∀ ty dc,(Builtin.copy_ #[31,31] ty #[.slice (some ⟨w.heap.size,i,none⟩) (n+m-i) dc,.slice (some ⟨vb,voff,none⟩) m vc]).run Tryz.prog W=.ok (goInt (Nat.min m (n+m-i))) (W.setRow w.heap.size c1):=λ W hW ty dc=>by
  have hWb:W.heap[w.heap.size]? = some (.cells ROW 9 (0,0)):=by rw [hW]; exact bG (w:=w.drew)
  rw [hc1]
  exact dB W _ _ ty _ w.heap.size (i) (n+m-i) dc ⟨vb,voff,none⟩ m vc 1 ROW 9 news Tryz.underlying31 hinf hWb (by rw [hnl]; simp only [Nat.min_def]; split <;> omega)
   (λ j v hj=>by
    rw [Addr.add_lit];have:=hn j v hj;simp only [World.cell?] at this ⊢;rw [hW,Lib.alloc_old w.drew _ vb hvw]
    exact this) hfit1 h1
 have hcpB:∀ (W:World),W.heap=((w.drew.alloc (.cells ROW 9)).setRow w.heap.size c1).heap->∀ ty dc sc,(Builtin.copy_ #[31,31] ty #[.slice (some ⟨w.heap.size,(i+m),none⟩) (n+m-(i+m)) dc,.slice (some ⟨b,i,none⟩) (n-i) sc]).run Tryz.prog W=.ok (goInt (Nat.min (n-i) (n+m-(i+m)))) (W.setRow w.heap.size c2):=λ W hW ty dc sc=>by
  have hWb:W.heap[w.heap.size]? = some (.cells c1 9 (0,0)):=by rw [hW]; exact setRow_heap _ _ ROW c1 9 (0,0) (bG (w:=w.drew))
  rw [hc2]
  exact dB W _ _ ty _ w.heap.size ((i+m)) (n+m-(i+m)) dc ⟨b,i,none⟩ (n-i) sc 1 c1 9 mid Tryz.underlying31 hinf hWb (by rw [hml]; simp only [Nat.min_def]; split <;> omega)
   (λ j v hj=>by
    rw [Addr.add_lit];simp only [World.cell?];rw [hW,setRow_other _ _ b c1 O,Lib.alloc_old w.drew _ b hbw];have:w.drew.heap[b]? = some (.cells c e0 (0,0)):=hb;rw [this]
    exact hm j v hj) (by rw [hs1,hRl,hml]; omega) hm1
 have hGi:¬ (G0z=i):=by omega
 have hGim:¬ (G0z=i+m):=by omega
 have hci:¬ (cap=i):=by omega
 have hw1:IntKind.i64.wrap ((i:Int)+(m:Int))=(i:Int)+(m:Int):=by rw [IntKind.wrap_i64]; omega
 have hb1:(0:Int)<=(i:Int)+(m:Int):=by omega
 have hin:i<=n:=by omega
 have htn:((i:Int)+(m:Int)).toNat=i+m:=by omega
 have hb3:(i:Int)<=(n:Int):=by omega
 have hE1:((w.alloc (.cells ROW 9)).drew).heap=(w.drew.alloc (.cells ROW 9)).heap:=rfl;have hF1:(((w.alloc (.cells ROW 9)).drew.setRow w.heap.size c1).drew).heap=((w.drew.alloc (.cells ROW 9)).setRow w.heap.size c1).heap:=rfl
 clear hkk CR hold hROW hG hRl hc1 hc2 hfit1 hs1 hml hm hm1 hnl hn h1 hpl hp hb hinf hzz hzs hzb hz hi0 hbig
 go_enter Tryz.func103,Tryz.ntmps103
 go_wp2_with (first
  | (at_builtin; refine Lib.wpList_append_run _ Z _ _ _ _ Z _ _ Z Z _ _ (hrz _) ?_)
  | (at_builtin; refine wpList_copy_runI _ Z _ _ 31 31 Z _ _ Z Z (hcpA _ hE1 _ _) ?_)
  | (at_builtin; refine wpList_copy_runI _ Z _ _ 31 31 Z _ _ Z Z (hcpB _ Z _ _ _) ?_))
 go_region_law_o (refine step_copy_runI Z _ _ 31 31 Z (.slice (some ⟨w.heap.size,(i+m),none⟩) (n+m-(i+m)) (G0z-(i+m))) (.slice (some ⟨b,i,none⟩) (n-i) (cap-i)) (by simp [Act.eval,Act.put]) (by simp [Act.eval,Act.put]) (hcpB _ hF1 3 (G0z-(i+m)) (cap-i)) ?_)
 go_wp2
 go_ret
 exact ⟨Z,Z⟩
theorem zB:uP Tryz.prog 103 9 1 16 where
 room:=by
  intro w b n cap i vb voff vc c e0 news cA tA fA hb CJ hi hroom hn63 hvb hnl hn h1 CH hA;simp only [Nat.mul_one] at *;rcases Nat.lt_or_ge i n with hlt|hge
  ·have hA0:cA.size≠0:=by
    have:0<news.length:=by omega
    have:=hn 0 _ (List.getElem?_eq_getElem this);simp only [World.cell?,hA] at this;intro h0;rw [Array.getElem?_eq_none O] at this
    cases this
   obtain ⟨mid,hmid⟩:∃ mid,mid=(c.toList.drop (i)).take ((n-i)):=⟨_,rfl⟩
   have hml:mid.length=(n-i):=by
    rw [hmid,sm,List.length_drop,ur]; omega
   have hm:∀ (j:Nat) (v:Value),mid[j]? = some v->c[i+j]? = some v:=by
    intro j v hj;have hjl:j<(n-i):=by have:=(List.getElem?_eq_some_iff.1 hj).1; omega
    rw [hmid,List.getElem?_take,if_pos hjl,List.getElem?_drop] at hj;simpa using hj
   have hm1:∀ v∈mid,v.oneCell'=true:=by
    intro v hv;obtain ⟨j,hj⟩:=List.mem_iff_getElem?.1 hv;have hjl:j<(n-i):=by have:=(List.getElem?_eq_some_iff.1 hj).1; omega
    exact CH (i+j) v O (hm j v hj)
   refine (u0 w b n cap i vb voff 1 vc c e0 news mid cA tA fA hb CJ hlt (by decide) hroom O hvb O hn h1 hml hm hm1 hA hA0 _ _ rfl rfl).mono ?_;rintro ed w' ⟨rfl,rfl⟩;have hfit:(i+1)+mid.length<=c.size:=by omega
   have hs1:=co c ((i+1)) mid hfit;have hfit2:=Nat.le_of_eq hs1.symm;refine ⟨Z,_,qY hb _,setRow_size _ _ _,(co _ (i) news O).trans hs1,?_⟩;refine pO (s:=1) (mid:=mid) O hnl O hm (λ j=>?_) (λ j=>eV _ _ news O j);have:=eV c ((i+1)) mid hfit j;exact this
  ·obtain rfl:i=n:=by omega
   refine (qx w b i cap vb voff 1 vc c e0 news hb CJ (by decide) hroom O hn h1 _ rfl).mono ?_;rintro ed w' ⟨rfl,rfl⟩;refine ⟨rfl,_,tG hb _,setRow_size _ _ _,co c _ news O,?_⟩;exact tf (λ j=>eV c _ news O j)
 grow:=by
  intro w base n cap i vb voff vc c news hbase hi hncap hroom hbig hnl hn h1 CH;simp only [Nat.mul_one] at *
  have hvw:vb<w.heap.size:=by
   have:0<news.length:=by omega
   exact block_lt_of_cell (hn 0 _ (List.getElem?_eq_getElem this))
  have hgn:=grownCap_ge w (n+1) cap 9;rcases Nat.lt_or_ge i n with hlt|hge
  ·obtain ⟨b,e0,rfl,hb,CJ⟩:∃ b e0,base=some ⟨b,0,none⟩/\w.heap[b]? = some (.cells c e0 (0,0))/\c.size=cap:=by
    rcases hbase with h|h
    ·omega
    ·exact h
   obtain ⟨mid,hmid⟩:∃ mid,mid=(c.toList.drop (i)).take ((n-i)):=⟨_,rfl⟩
   have hml:mid.length=(n-i):=by
    rw [hmid,sm,List.length_drop,ur]; omega
   have hm:∀ (j:Nat) (v:Value),mid[j]? = some v->c[i+j]? = some v:=by
    intro j v hj;have hjl:j<(n-i):=by have:=(List.getElem?_eq_some_iff.1 hj).1; omega
    rw [hmid,List.getElem?_take,if_pos hjl,List.getElem?_drop] at hj;simpa using hj
   have hm1:∀ v∈mid,v.oneCell'=true:=by
    intro v hv;obtain ⟨j,hj⟩:=List.mem_iff_getElem?.1 hv;have hjl:j<(n-i):=by have:=(List.getElem?_eq_some_iff.1 hj).1; omega
    exact CH (i+j) v O (hm j v hj)
   obtain ⟨pre,hpre⟩:∃ pre,pre=c.toList.take (i):=⟨_,rfl⟩
   have hpl:pre.length=i:=by
    rw [hpre,sm,ur]; omega
   have hp:∀ (j:Nat) (v:Value),pre[j]? = some v->c[j]? = some v:=by
    intro j v hj;have hjl:j<i:=by have:=(List.getElem?_eq_some_iff.1 hj).1; omega
    rw [hpre,List.getElem?_take,if_pos hjl] at hj;simpa using hj
   obtain ⟨G0z,hG⟩:∃ G0z,G0z=grownCap w (n+1) cap 9:=⟨_,rfl⟩
   rw [<- hG] at hgn;obtain ⟨ROW,hROW⟩:∃ ROW:Array Value,ROW=pre.toArray++Builtin.zeroCells (.string ⟨#[]⟩:Value).cells (n+1-i)++Builtin.zeroCells (.string ⟨#[]⟩:Value).cells (G0z-(n+1)):=⟨_,rfl⟩
   have hzc:(.string ⟨#[]⟩:Value).cells.size=1:=by kernel_rfl
   have hRl:ROW.size=G0z:=by
    rw [hROW];simp only [Array.size_append,List.size_toArray,hpl,size_zeroCells,hzc];omega
   refine (xQ w b n cap i vb voff 1 vc c e0 pre news mid hb hvw hlt (by decide) hncap hroom hbig O hn h1 hpl hp hml hm hm1 G0z hG ROW _ _ hROW hRl rfl rfl).mono ?_;rintro ed w' ⟨rfl,rfl⟩;have hfit1:i+news.length<=ROW.size:=by omega
   have hs1:=co ROW (i) news hfit1;have hfit2:(i+1)+mid.length<=ROW.size:=by omega
   refine ⟨G0z,_,Z,nJ w ROW 9 _ _,hgn,((co _ ((i+1)) mid O).trans hs1).trans hRl,?_⟩;refine qV (s:=1) (mid:=mid) (ROW:=ROW) O hnl O hm (λ j hj=>?_) (λ j=>eV ROW _ news hfit1 j) (λ j=>?_)
   ·have hj':j<pre.length:=by omega
    rw [hROW,Array.append_assoc,Array.getElem?_append,if_pos (by simpa using hj'),List.getElem?_toArray,List.getElem?_eq_getElem hj',hp j _ (List.getElem?_eq_getElem hj')]
   ·have:=eV (ROW.toList.take (i)++news++ROW.toList.drop (i+news.length)).toArray ((i+1)) mid (by rw [hs1]; exact hfit2) j;exact this
  ·obtain rfl:i=n:=by omega
   obtain ⟨olds,hol,hold,hoc⟩:∃ olds:List Value,olds.length=i/\(Builtin.firstCells 1 i (.slice base i cap)).run Tryz.prog w.drew=.ok olds.toArray w.drew/\(∀ j,j<i->olds[j]? = c[j]?):=by
    rcases hbase with ⟨rfl,rfl⟩|⟨b,e0,rfl,hb,CJ⟩
    ·refine ⟨[],Z,?_,λ j hj=>by omega⟩
     cases base with
     | none=>exact run_firstCells_none w.drew 1 0 0 0
     | some a=>exact run_firstCells_some w.drew 1 0 a 0 0 [] Z (λ j v hj=>by simp at hj)
    ·have hl:(c.toList.take (i)).length=i:=by rw [sm,ur]; omega
     refine ⟨c.toList.take (i),hl,run_firstCells_some w.drew 1 i ⟨b,0,none⟩ i cap _ O (λ j v hj=>?_),λ j hj=>by rw [List.getElem?_take,if_pos hj]; simp⟩;have hjl:j<i:=by have:=(List.getElem?_eq_some_iff.1 hj).1; omega
     rw [List.getElem?_take,if_pos hjl] at hj;rw [Addr.add_lit,rd,World.cell?_drew]; simp only [World.cell?,hb]; simpa using hj
   have hnil:base=none->i=0:=by
    rintro rfl;rcases hbase with ⟨h,_⟩|⟨b,e0,h,_⟩
    ·exact h
    ·cases h
   refine (qd w base i cap vb voff 1 vc olds news (by decide) hncap hroom hbig hold hnil O hn h1).mono ?_;rintro ed w' ⟨rfl,rfl⟩;obtain ⟨G0z,hG⟩:∃ G0z,G0z=grownCap w (i+1) cap 9:=⟨_,rfl⟩
   rw [<- hG] at hgn ⊢;have hzc:(.string ⟨#[]⟩:Value).cells.size=1:=by kernel_rfl
   refine ⟨G0z,_,Z,nP w _ 9,hgn,?_,?_,?_,λ j h3 h4=>by omega⟩
   ·simp only [Array.size_append,List.size_toArray,n8,hol,hnl,size_zeroCells,hzc]; omega
   ·intro j hj;rw [Array.getElem?_append,if_pos (by simp only [List.size_toArray,n8]; omega),List.getElem?_toArray,List.getElem?_append,if_pos O];exact hoc j hj
   ·intro j hj;rw [Array.getElem?_append,if_pos (by simp only [List.size_toArray,n8]; omega),List.getElem?_toArray,List.getElem?_append,if_neg O];congr 1; omega
def cx (CB:List Bk)(CM:Int)(v_2:List Bk):Option (List Bk) :=ck ((0:Int)<=CM/\CM<=(CB.length:Int))<|ck (v_2.length=1)<|ck ((CB.length+1)*16<=140737488355328)<|some (eF CB CM.toNat (v_2.headD default))
theorem gZ (CB:List Bk)(CM:Int)(v_2:List Bk)(r:List Bk)(h0:cx CB CM v_2=some r):bs Tryz.prog 103 [.stk 900000 1 (CB.map eS),.p (eI CM),.p (eL eS v_2)] [] (λ x y=>x=.stk 2000000 1 (r.map eS)/\y=[]):=by
 unfold cx at h0;obtain ⟨EK,h1⟩:=cU h0;obtain ⟨D1,h2⟩:=cU h1;obtain ⟨EB,h3⟩:=cU h2
 cases h3
 obtain ⟨z,rfl⟩:∃ z,v_2=[z]:=by
  match v_2,D1 with
  | [z],_=>exact ⟨z,Z⟩
 obtain ⟨i,rfl⟩:∃ i:Nat,CM=i:=⟨CM.toNat,by omega⟩
 have hi:i<=(CB.map eS).length:=by rw [n6]; omega
 have h:=pE zB (by decide) (CB.map eS) i (eS z) hi (by rw [n6]; omega) (by rw [n6]; omega) (rfl);rw [tJ] at h;exact h
end Go.Ab
end
section
namespace Go.Ab.R06
open Go.Proofs Go.Ab Go.Ab.RB
attribute [local irreducible] awp ea aO au bs AV.sub M bY
def cu (Do:aa->Option aa)(l_0:List aa):Nat->(List aa)->Int->Option (List aa)|0,_,_=>none|m+1,DZ,ES=>if ES<(l_0.length:Int) then ck ((0:Int)<=ES/\ES<(l_0.length:Int))<|(Do (lat l_0 ES)).bind λ Dn=>ck ((DZ.length+[Dn].length)*80<=140737488355328)<|ck (inR (ES+1))<|cu Do l_0 m (DZ++[Dn]) (ES+1)else some DZ
mutual
def cm:Nat->aa->Option aa|0,_=>none|n+1,Cz=>ck (Cz.AI.length*16<=140737488355328)<|((iL n) Cz.Ar).bind λ r2=>some (aa.mk Cz.AT Cz.A' Cz.By r2 Cz.AI)
def iL:Nat->(List aa)->Option (List aa)|0,_=>none|n+1,l_0=>if (l_0.length:Int)=0 then some [] else ck ((0:Int)<=(l_0.length:Int)/\(l_0.length:Int)<=9223372036854775807/\(80:Int)*(l_0.length:Int)<=281474976710656)<|(cu (cm n) l_0 n ([]:List aa) 0).bind λ G8=>some G8
end
theorem mN (n:Nat):(∀ (Cz:aa) (r:aa),cm n Cz=some r->bs Tryz.prog 102 [.p (.agg (aa.cs Cz))] [] (λ x y=>x=.agg [.p (eI r.AT),.p (eI r.A'),.p (eS r.By),.stk 2000000 5 (r.Ar.map ah),.stk 2000001 1 (r.AI.map eS)]/\y=[]))/\(∀ (l_0:List aa) (r:(List aa)),iL n l_0=some r->bs Tryz.prog 128 [.p (eL ah l_0)] [] (λ x y=>x=.stk 2000000 5 (r.map ah)/\y=[])):=by
 induction n with
 | zero=>exact ⟨(by intro Cz r h0; cases h0),(by intro l_0 r h0; cases h0)⟩
 | succ n ih=>
 obtain ⟨Dw,Dv⟩:=ih;refine ⟨?_,?_⟩
 ·skip
  intro Cz r h0;rw [cm] at h0;refine gN good [800000,800001] [] Tryz.func102 Z Z Z Z Z λ w0 F=>mPo (λ v:aa=>.agg [.p (eI v.AT),.p (eI v.A'),.p (eS v.By),.stk 2000000 5 (v.Ar.map ah),.stk 2000001 1 (v.AI.map eS)]) (λ v=>[]) ?_;refine nx 9 rfl (cc' h0 λ EK h0=>?_);refine mO rfl (br [] [] 101000 101001 (hU Cz.AI EK) Z Z Z Z Z ⟨sr,trivial⟩ Z Z trivial Z Z Z Z Z Z Z Z Tryz.call72 Z Z ?_);refine nx 7 rfl (bd h0 λ r2 e3 h0=>?_);refine mO rfl (br [] [] 102000 102001 (Dv Cz.Ar _ e3) Z Z Z Z Z ⟨sr,trivial⟩ Z Z trivial Z Z Z Z Z Z Z Z Tryz.call128 Z Z ?_);exact nx 9 rfl (mQo (oi h0) (aQ (bp 102000 800000 Z Z Z Z Z) (aQ (bp 101000 800001 Z Z Z Z Z) (bB _))) Z Z Z Z (sr) trivial)
 ·skip
  intro l_0 r h0;rw [iL] at h0;refine gN good [800000] [] Tryz.func128 Z Z Z Z Z λ w0 F=>mPo (λ v:(List aa)=>.stk 2000000 5 (v.map ah)) (λ v=>[]) ?_;refine nx 8 rfl (oLl (f:=ah) Z Z ?_);refine nx 2 rfl (fD [8] h0 rfl (λ c1 h0=>?_) λ c1 h0=>?_)
  ·exact nx 6 Z (mQo (oi h0) (bB _) Z Z Z Z (AV.sub_nilstk _ _) trivial)
  refine nx 5 Z (oLl (f:=ah) Z Z ?_);refine cc' h0 λ D1 h0=>mO Z (wR Z Z Z Z Z Z Z Z D1 Z Z ?_);refine nx 6 Z (oLl (f:=ah) Z Z ?_);refine nx 3 Z (bd h0 λ EY h1 h0=>?_);refine kE 0 EY (λ FD=>⟨[(3,.stk 11 5 (FD.map ah))],[]⟩) ?_ ?_
  ·exact nx 7 Z (mQo (oi h0) (aQ (bp 11 800000 Z Z Z Z Z) (bB _)) Z Z Z Z (sr) trivial)
  refine lG (λ (G3:(List aa)×Int)=>⟨[(3,.stk 11 5 (G3.1.map ah)),(12,.p (eL ah l_0)),(13,.p (eI (l_0.length:Int))),(14,.p (eI G3.2))],[]⟩) (λ m (G3:(List aa)×Int)=>cu (cm n) l_0 m G3.1 G3.2) Y (([]:List aa),0) h1 (gE rfl rfl) ?_;rintro m ⟨DZ,ES⟩ h1;replace h1:cu (cm n) l_0 (m+1) DZ ES=some EY:=h1;rw [cu] at h1;refine nx 5 rfl (fD [15] h1 rfl (λ EO h1=>?_) λ EO h1=>?_)
  ·refine nx 6 Z (oE h1 aa.B' Z Z Y λ DW h1=>?_);refine nx 7 Z (bd h1 λ Dn FX h1=>?_);refine mO Z (iU (λ _ hq=>iU (λ _ hq=>br [] [] 102000 102002 (Dw (lat l_0 ES) _ FX) Z Z Z Z Z ⟨sr,trivial⟩ Z Z trivial Z Z Z Z Z Z Z Z Tryz.call102 Z Z hq) (fH 102000 Z Z Z) hq) (fH 102001 Z Z Z) ?_);refine mO Z (bA ah [Dn] Z Z Z Z Z Z Z Z Z Z Z Z Z (by first|rfl|(simp only [cl,py,aa.Cv]; done)|(simp only [cl,py,aa.Cv]; rfl)) ?_);refine cc' h1 λ D3 h1=>mO Z (ye ah DZ [Dn] Z Z Z Z Z Z Z Z Z Z Z Z (λ x=>congrArg List.length (aa.B' x)) (Nat.zero_lt_succ _) Z Z Z Z D3 Z Z ?_);refine nx 3 Z (oA h1 Z Z λ C4 h1=>?_);exact nx 2 Z (eX (DZ++[Dn],ES+1) h1 (gE Z Z))
  exact nx 2 Z (eXi _ (oi h1).symm (gE Z Z))
theorem iz (n:Nat):∀ (Cz:aa) (r:aa),cm n Cz=some r->bs Tryz.prog 102 [.p (.agg (aa.cs Cz))] [] (λ x y=>x=.agg [.p (eI r.AT),.p (eI r.A'),.p (eS r.By),.stk 2000000 5 (r.Ar.map ah),.stk 2000001 1 (r.AI.map eS)]/\y=[]):=(mN n).1
def iO (n:Nat)(Cz:aa)(key_1:Bk)(x_2:aa):Option aa :=(cm n Cz).bind λ r1=>(aW n r1.AI key_1).bind λ r3=>(if (r1.Ar.length:Int)<r3.1 then some true else if r3.2=true then some (decide (r3.1=(r1.Ar.length:Int)))else some false : Option Bool).bind λ t7=>if t7=true then some r1 else if (!r3.2)=true then(cx r1.AI r3.1 [key_1]).bind λ CG=>(b9 r1.Ar r3.1 ([(aa.mk 0 0 ([]:Bk) [] [])])).bind λ E4=>(cm n x_2).bind λ Ez=>ck ((0:Int)<=r3.1/\r3.1<(E4.length:Int))<|some (aa.mk r1.AT r1.A' r1.By (qa E4 r3.1 Ez) CG)else(cm n x_2).bind λ DV=>ck ((0:Int)<=r3.1/\r3.1<(r1.Ar.length:Int))<|some (aa.mk r1.AT r1.A' r1.By (qa r1.Ar r3.1 DV) r1.AI)
theorem rC (n:Nat)(Cz:aa)(key_1:Bk)(x_2:aa)(r:aa)(h0:iO n Cz key_1 x_2=some r):au Tryz.prog 74 [.agg (aa.cs Cz),eS key_1,.agg (aa.cs x_2)] (·=.p (.agg (aa.cs r))):=by
 unfold iO at h0;refine aZ good Tryz.func74 Z Z Z λ w0=>mP (λ v:aa=>.p (.agg (aa.cs v))) ?_;refine nx 9 Z (bd h0 λ r1 e2 h0=>?_);refine mO Z (br [] [] 101000 101002 (iz _ Cz _ e2) Z Z Z Z Z ⟨sr,trivial⟩ Z Z trivial Z Z Z Z Z Z Z Z Tryz.call102 Z Z ?_);refine nx 8 Z (bd h0 λ r3 e4 h0=>?_);refine mO Z (vj ((cn _ r1.AI key_1 _ e4).q) Z Z Z Z Z (ru Z (ru Z xW)) ⟨sr,sr,trivial⟩ Tryz.call71 ?_);refine nx 8 Z (bd h0 λ o21 h1 h0=>?_);refine kN o21 (λ v22=>⟨[(1,.p (eS key_1)),(5,.ptr 5 0),(6,.ptr 6 0),(7,.ptr 7 0),(8,.p (eI r3.1)),(9,.p (eB r3.2)),(33,.p (eB v22))],[(5,(aa.cs x_2).map .p),(6,[.p (eI 0),.p (eI 0),.p (eS ([]:Bk)),.p (.val (.slice none 0 0)),.p (.val (.slice none 0 0))]),(7,[.p (eI r1.AT),.p (eI r1.A'),.p (eS r1.By),.stk 101000 5 (r1.Ar.map ah),.stk 101001 1 (r1.AI.map eS)])]⟩) ?_ ?_
 ·refine nx 1 Z (fB [33] h0 Z (λ c8 h0=>?_) λ c8 h0=>?_)
  ·refine nx 6 Z (mG (fH 101000 Z Z Z) ?_);refine mG (fH 101001 Z Z Z) (nx 1 Z ?_);exact mQ (oi h0) Z (sr)
  refine nx 8 Z (fB [36] h0 Z (λ c9 h0=>?_) λ c9 h0=>?_)
  ·refine nx 7 rfl (mO rfl (bA eS [key_1] Z Z Z Z Z Z Z Z Z Z Z Z Z Z ?_));refine bd h0 λ CG D7 h0=>mO rfl (br [] [101001] 102000 102001 (gZ r1.AI r3.1 [key_1] _ D7) Z Z Z Z Z ⟨sr,sr,sr,trivial⟩ Z Z trivial Z Z Z Z Z Z Z Z Tryz.call103 Z Z ?_);refine nx 8 rfl (mG (j9 47 (y:=.p (.agg (aa.cs (aa.mk 0 0 ([]:Bk) [] [])))) rfl (dY ⟨.inl rfl,.inl rfl,.inl rfl,.inr ⟨rfl,rfl⟩,.inr ⟨rfl,rfl⟩,trivial⟩)) ?_);refine mO rfl (bA ah [(aa.mk 0 0 ([]:Bk) [] [])] Z Z Z Z Z Z Z Z Z Z Z Z Z (by first|rfl|(simp only [cl,py,aa.Cv]; done)|(simp only [cl,py,aa.Cv]; rfl)) ?_);refine bd h0 λ E4 e13 h0=>mO rfl (br [] [101000] 103000 103001 (fM r1.Ar r3.1 ([(aa.mk 0 0 ([]:Bk) [] [])]) _ e13) Z Z Z Z Z ⟨sr,sr,sr,trivial⟩ Z Z trivial Z Z Z Z Z Z Z Z Tryz.call104 Z Z ?_);refine nx 4 rfl (bd h0 λ Ez HA h0=>?_);refine cc' h0 λ Dl h0=>mG (gE (t:=⟨[(5,.ptr 5 0),(6,.ptr 6 0),(7,.ptr 7 0),(8,.p (eI r3.1))],[(5,(aa.cs x_2).map .p),(6,[.p (eI 0),.p (eI 0),.p (eS ([]:Bk)),.p (.val (.slice none 0 0)),.p (.val (.slice none 0 0))]),(7,[.p (eI r1.AT),.p (eI r1.A'),.p (eS r1.By),.stk 103000 5 (E4.map ah),.stk 102000 1 (CG.map eS)])]⟩) Z Z) (mS ⟨2,[4,6],(by3 (.some (bz [] 104000 104002)) (.some (Nat.beq · 103000)) .none),(λ _=>[(5,.ptr 5 0),(6,.ptr 6 0),(7,.ptr 7 0),(8,.p (eI r3.1))]),(by3 ([(5,[.p (eI x_2.AT),.p (eI x_2.A'),.p (eS x_2.By),.p (eL ah x_2.Ar),.p (eL eS x_2.AI)]),(6,[.p (eI 0),.p (eI 0),.p (eS ([]:Bk)),.p (.val (.slice none 0 0)),.p (.val (.slice none 0 0))]),(7,[.p (eI r1.AT),.p (eI r1.A'),.p (eS r1.By),.stk 103000 5 (E4.map ah),.stk 102000 1 (CG.map eS)])]) ([(5,[.p (eI x_2.AT),.p (eI x_2.A'),.p (eS x_2.By),.p (eL ah x_2.Ar),.p (eL eS x_2.AI)]),(6,[.p (eI 0),.p (eI 0),.p (eS ([]:Bk)),.p (.val (.slice none 0 0)),.p (.val (.slice none 0 0))]),(7,[.p (eI r1.AT),.p (eI r1.A'),.p (eS r1.By),.stk 103000 5 (E4.map ah),.stk 102000 1 (CG.map eS)])]) ([(5,[.p (eI x_2.AT),.p (eI x_2.A'),.p (eS x_2.By),.p (eL ah x_2.Ar),.p (eL eS x_2.AI)]),(6,[.p (eI 0),.p (eI 0),.p (eS ([]:Bk)),.p (.val (.slice none 0 0)),.p (.val (.slice none 0 0))]),(7,[.p (eI r1.AT),.p (eI r1.A'),.p (eS r1.By),.stk 103000 5 ((qa E4 r3.1 Ez).map ah),.stk 102000 1 (CG.map eS)])]))⟩ Z Z Z ⟨rfl,rfl,rfl,rfl,trivial⟩ (lt2 ⟨rfl,rfl,rfl,rfl,trivial⟩ ⟨rfl,rfl,rfl,rfl,trivial⟩) Z Z Z Z ?_);refine al (λ _=>.ptr 7 3) Z Z Z (bj Z Z Y) (lt2 Z Z) (aj rfl (af [(7,_)] ⟨.inl rfl,trivial⟩ (λ sl Cy K hK=>ae rfl (aD Z Z Z Z Z Z Z Z (Cy _ _ rfl) hK)) (af [(7,_)] ⟨.inl rfl,trivial⟩ (λ sl Cy K hK=>ae rfl (aD Z Z Z Z Z Z Z Z (Cy _ _ rfl) hK)) ak))) (al (by3 (.stk 103000 5 (E4.map ah)) (.stk 103000 5 (E4.map ah)) .undef) Z Z Z (bj Z Z Y) (lt2 Z Z) (aj rfl (af [(51,_)] ⟨.inr ⟨0,_,rfl,rfl,rfl⟩,trivial⟩ (λ sl Cy K hK=>ae rfl (bm Z Z Z Z Z (Cy _ _ rfl) Z Z hK)) (af [(51,_)] ⟨.inr ⟨0,_,rfl,rfl,rfl⟩,trivial⟩ (λ sl Cy K hK=>ae rfl (bm Z Z Z Z Z (Cy _ _ rfl) Z Z hK)) ak))) ?_);refine al (λ _=>.p (eI r3.1)) Z Z Z (bj Z Z Y) (lt2 Z Z) (aj rfl (af [(8,_)] ⟨.inl rfl,trivial⟩ (λ sl Cy K hK=>ae rfl (aA Z Z Z (Cy _ _ rfl) hK)) (af [(8,_)] ⟨.inl rfl,trivial⟩ (λ sl Cy K hK=>ae rfl (aA Z Z Z (Cy _ _ rfl) hK)) ak))) (al (λ _=>.p (.agg (aa.cs x_2))) Z Z Z (bj Z Z Y) (lt2 Z Z) (aj rfl (aj rfl (af [(5,_)] ⟨.inl rfl,trivial⟩ (λ sl Cy K hK=>ae rfl (aN Z Z Z Z Z (Cy _ _ rfl) Z Z Z hK)) ak))) ?_);refine cQ (λ _=>.p (.agg (aa.cs Ez))) [(54,_)] rfl ⟨.inr ⟨3,_,rfl,rfl,rfl⟩,trivial⟩ Z Z (bK rfl Y) (lt2 (λ h=>absurd h (by decide)) Y) (λ sl Cy K hK=>ae rfl (jV (λ _ hq=>lq 104001 (λ _ hq=>lq 104000 (λ _ hq=>br [] [] 104000 104002 (iz _ x_2 _ HA) Z Z Z (am (Cy _ _ rfl) aM) rfl ⟨sr,trivial⟩ Z Z trivial Z Z Z Z Z Z Z Z Tryz.call102 Z Z hq) Z Z Z hq) Z Z Z hq) (kH (ds:=aa.cs Ez) ⟨sr,sr,sr,sr,sr,trivial⟩) hK)) (al (by3 (.ptr 103000 (r3.1.toNat*5)) (.ptr 103000 (r3.1.toNat*5)) .undef) Z Z Z (bj Z Z Y) (lt2 Z Z) (aj rfl (af [(52,_),(53,_)] ⟨.inr ⟨1,_,rfl,rfl,rfl⟩,.inr ⟨2,_,rfl,rfl,rfl⟩,trivial⟩ (λ sl Cy K hK=>ae rfl (cG ah E4 Z Z Z Z Z Z (Cy _ _ rfl) (Cy _ _ rfl) rfl Dl hK)) (aj rfl ak))) ?_);refine ct [(55,_),(56,_)] rfl ⟨.inr ⟨4,_,rfl,rfl,rfl⟩,.inr ⟨5,_,rfl,rfl,rfl⟩,trivial⟩ rfl (λ sl Cy K hK=>ae rfl (nM ah E4 Ez 7 3 Z Z Z Z (Cy _ _ rfl) Z Z Dl (Cy _ _ rfl) (AV.sub_of_eq (congrArg AV.p (aa.Cv Ez).symm)) ((λ x=>by cases x; rfl:∀ x,(AV.p (ah x)).cellsA=some ((ah x).cells.map .p)) Ez) (λ x=>congrArg List.length (aa.B' x)) Z Z Z (by simp only [qa,List.map_set]; rfl) hK)) (eY ?_);refine nx 6 rfl (mG (fH 102000 Z Z Z) ?_);refine mG (fH 103000 Z Z Z) (nx 1 rfl ?_);exact mQ (oi h0) rfl (sr)
  refine nx 3 rfl (bd h0 λ DV FW h0=>?_);refine cc' h0 λ DT h0=>mG (gE (t:=⟨[(5,.ptr 5 0),(6,.ptr 6 0),(7,.ptr 7 0),(8,.p (eI r3.1))],[(5,(aa.cs x_2).map .p),(6,[.p (eI 0),.p (eI 0),.p (eS ([]:Bk)),.p (.val (.slice none 0 0)),.p (.val (.slice none 0 0))]),(7,[.p (eI r1.AT),.p (eI r1.A'),.p (eS r1.By),.stk 101000 5 (r1.Ar.map ah),.stk 101001 1 (r1.AI.map eS)])]⟩) Z Z) (mS ⟨2,[4,6],(by3 (.some (bz [] 105000 105002)) (.some (Nat.beq · 101000)) .none),(λ _=>[(5,.ptr 5 0),(6,.ptr 6 0),(7,.ptr 7 0),(8,.p (eI r3.1))]),(by3 ([(5,[.p (eI x_2.AT),.p (eI x_2.A'),.p (eS x_2.By),.p (eL ah x_2.Ar),.p (eL eS x_2.AI)]),(6,[.p (eI 0),.p (eI 0),.p (eS ([]:Bk)),.p (.val (.slice none 0 0)),.p (.val (.slice none 0 0))]),(7,[.p (eI r1.AT),.p (eI r1.A'),.p (eS r1.By),.stk 101000 5 (r1.Ar.map ah),.stk 101001 1 (r1.AI.map eS)])]) ([(5,[.p (eI x_2.AT),.p (eI x_2.A'),.p (eS x_2.By),.p (eL ah x_2.Ar),.p (eL eS x_2.AI)]),(6,[.p (eI 0),.p (eI 0),.p (eS ([]:Bk)),.p (.val (.slice none 0 0)),.p (.val (.slice none 0 0))]),(7,[.p (eI r1.AT),.p (eI r1.A'),.p (eS r1.By),.stk 101000 5 (r1.Ar.map ah),.stk 101001 1 (r1.AI.map eS)])]) ([(5,[.p (eI x_2.AT),.p (eI x_2.A'),.p (eS x_2.By),.p (eL ah x_2.Ar),.p (eL eS x_2.AI)]),(6,[.p (eI 0),.p (eI 0),.p (eS ([]:Bk)),.p (.val (.slice none 0 0)),.p (.val (.slice none 0 0))]),(7,[.p (eI r1.AT),.p (eI r1.A'),.p (eS r1.By),.stk 101000 5 ((qa r1.Ar r3.1 DV).map ah),.stk 101001 1 (r1.AI.map eS)])]))⟩ Z Z Z ⟨rfl,rfl,rfl,rfl,trivial⟩ (lt2 ⟨rfl,rfl,rfl,rfl,trivial⟩ ⟨rfl,rfl,rfl,rfl,trivial⟩) Z Z Z Z ?_);refine al (λ _=>.ptr 7 3) Z Z Z (bj Z Z Y) (lt2 Z Z) (aj rfl (af [(7,_)] ⟨.inl rfl,trivial⟩ (λ sl Cy K hK=>ae rfl (aD Z Z Z Z Z Z Z Z (Cy _ _ rfl) hK)) (af [(7,_)] ⟨.inl rfl,trivial⟩ (λ sl Cy K hK=>ae rfl (aD Z Z Z Z Z Z Z Z (Cy _ _ rfl) hK)) ak))) (al (by3 (.stk 101000 5 (r1.Ar.map ah)) (.stk 101000 5 (r1.Ar.map ah)) .undef) Z Z Z (bj Z Z Y) (lt2 Z Z) (aj rfl (af [(51,_)] ⟨.inr ⟨0,_,rfl,rfl,rfl⟩,trivial⟩ (λ sl Cy K hK=>ae rfl (bm Z Z Z Z Z (Cy _ _ rfl) Z Z hK)) (af [(51,_)] ⟨.inr ⟨0,_,rfl,rfl,rfl⟩,trivial⟩ (λ sl Cy K hK=>ae rfl (bm Z Z Z Z Z (Cy _ _ rfl) Z Z hK)) ak))) ?_);refine al (λ _=>.p (eI r3.1)) Z Z Z (bj Z Z Y) (lt2 Z Z) (aj rfl (af [(8,_)] ⟨.inl rfl,trivial⟩ (λ sl Cy K hK=>ae rfl (aA Z Z Z (Cy _ _ rfl) hK)) (af [(8,_)] ⟨.inl rfl,trivial⟩ (λ sl Cy K hK=>ae rfl (aA Z Z Z (Cy _ _ rfl) hK)) ak))) (al (λ _=>.p (.agg (aa.cs x_2))) Z Z Z (bj Z Z Y) (lt2 Z Z) (aj rfl (aj rfl (af [(5,_)] ⟨.inl rfl,trivial⟩ (λ sl Cy K hK=>ae rfl (aN Z Z Z Z Z (Cy _ _ rfl) Z Z Z hK)) ak))) ?_);refine cQ (λ _=>.p (.agg (aa.cs DV))) [(54,_)] rfl ⟨.inr ⟨3,_,rfl,rfl,rfl⟩,trivial⟩ Z Z (bK rfl Y) (lt2 (λ h=>absurd h (by decide)) Y) (λ sl Cy K hK=>ae rfl (jV (λ _ hq=>lq 105001 (λ _ hq=>lq 105000 (λ _ hq=>br [] [] 105000 105002 (iz _ x_2 _ FW) Z Z Z (am (Cy _ _ rfl) aM) rfl ⟨sr,trivial⟩ Z Z trivial Z Z Z Z Z Z Z Z Tryz.call102 Z Z hq) Z Z Z hq) Z Z Z hq) (kH (ds:=aa.cs DV) ⟨sr,sr,sr,sr,sr,trivial⟩) hK)) (al (by3 (.ptr 101000 (r3.1.toNat*5)) (.ptr 101000 (r3.1.toNat*5)) .undef) Z Z Z (bj Z Z Y) (lt2 Z Z) (aj rfl (af [(52,_),(53,_)] ⟨.inr ⟨1,_,rfl,rfl,rfl⟩,.inr ⟨2,_,rfl,rfl,rfl⟩,trivial⟩ (λ sl Cy K hK=>ae rfl (cG ah r1.Ar Z Z Z Z Z Z (Cy _ _ rfl) (Cy _ _ rfl) rfl DT hK)) (aj rfl ak))) ?_);refine ct [(55,_),(56,_)] rfl ⟨.inr ⟨4,_,rfl,rfl,rfl⟩,.inr ⟨5,_,rfl,rfl,rfl⟩,trivial⟩ rfl (λ sl Cy K hK=>ae rfl (nM ah r1.Ar DV 7 3 Z Z Z Z (Cy _ _ rfl) Z Z DT (Cy _ _ rfl) (AV.sub_of_eq (congrArg AV.p (aa.Cv DV).symm)) ((λ x=>by cases x; rfl:∀ x,(AV.p (ah x)).cellsA=some ((ah x).cells.map .p)) DV) (λ x=>congrArg List.length (aa.B' x)) Z Z Z (by simp only [qa,List.map_set]; rfl) hK)) (eY ?_);refine nx 6 rfl (mG (fH 101000 Z Z Z) ?_);refine mG (fH 101001 Z Z Z) (nx 1 rfl ?_);exact mQ (oi h0) rfl (sr)
 refine nx 4 Z (mO Z (tg ah r1.Ar Z Z Z Z Z Z ?_));refine nx 2 Z (fD [23,24] h1 Z (λ c5 h1=>?_) λ c5 h1=>?_)
 ·exact nx 10 Z (eX _ (oi h1).symm (gE Z Z))
 refine nx 2 Z (fB [9,18,25,26] h1 Z (λ c6 h1=>?_) λ c6 h1=>?_)
 ·refine nx 3 Z (mO Z (tg ah r1.Ar Z Z Z Z Z Z ?_));exact nx 4 Z (eX _ (oi h1).symm (bS (fS ⟨er Z,er Z,er Z,er Z,er Z,⟨_,Z,uj c6.symm⟩,er Z,trivial⟩ ⟨⟨_,Z,⟨sr,sr,sr,sr,sr,trivial⟩⟩,⟨_,Z,⟨sr,sr,sr,sr,sr,trivial⟩⟩,⟨_,Z,⟨sr,sr,sr,sr,sr,trivial⟩⟩,trivial⟩)))
 exact nx 8 Z (eX _ (oi h1).symm (bS (fS ⟨er Z,er Z,er Z,er Z,er Z,⟨_,Z,uj c6.symm⟩,er Z,trivial⟩ ⟨⟨_,Z,⟨sr,sr,sr,sr,sr,trivial⟩⟩,⟨_,Z,⟨sr,sr,sr,sr,sr,trivial⟩⟩,⟨_,Z,⟨sr,sr,sr,sr,sr,trivial⟩⟩,trivial⟩)))
end Go.Ab.R06
end
section
namespace Go.Ab
def Node:List Nat->List Nat->aa->World->Gh->Value->Prop|_,[],v,w,g,x=>PRep w g.st (eL ah v.Ar) x|[],_::_,_,_,_,_=>False|t::ts,i::q,v,w,g,x=>∃ (b cap:Nat) (c:Array Value) (e:TypeId) (y:aa) (u:Value),g.ow t=some b/\w.heap[b]? = some (.cells c e (0,0))/\c.size=cap*5/\v.Ar.length<=cap /\ (∀ o,g.st b o↔o=cap*5)/\x=.slice (some ⟨b,0,none⟩) v.Ar.length cap/\v.Ar[i]? = some y/\c[i*5+3]? = some u/\Node ts q y w g u /\ ∀ (j k:Nat) (z:aa) (p:PV),v.Ar[j]? = some z->(aa.cs z)[k]? = some p->(j=i/\k=3)\/∃ u',c[j*5+k]? = some u'/\PRep w g.st p u'
theorem Node.mono {w w':World}{g g':Gh}:∀ (q ts:List Nat) (v:aa) (x:Value),EvT ts w g w' g'->Node ts q v w g x->Node ts q v w' g' x
 | [],ts,v,x,hE,h=>by simp only [Node] at h ⊢; exact h.mono hE.ev
 | _::_,[],v,x,hE,h=>by simp only [Node] at h
 | i::q,t::ts,v,x,hE,h=>by
  simp only [Node] at h ⊢;obtain ⟨b,cap,c,e,y,u,h1,h2,h3,h4,h5,h6,h7,h8,h9,h10⟩:=h
  refine ⟨b,cap,c,e,y,u,hE.ow t b G h1,(hE.stab t b _ G h1 ((h5 _).2 Z)).trans h2,h3,h4,λ o=>⟨λ h=>(h5 o).1 (hE.tip t b o G h1 h),λ h=>(hE.ev _ _ ((h5 o).2 h)).1⟩,h6,h7,h8,
   Node.mono q ts y u (hE.sub λ t h=>by simp [h]) h9,λ j k z p hz hp=>?_⟩
  rcases h10 j k z p hz hp with h|⟨u',h11,h12⟩
  ·exact .inl h
  ·exact .inr ⟨u',h11,h12.mono hE.ev⟩
theorem Node.hollow {w:World}{g:Gh}:∀ {q ts:List Nat} {v:aa} {x:Value},Node ts q v w g x->PRep w g.st (.slice (v.Ar.map λ _=>.agg [])) x
 | [],ts,v,x,h=>by
  simp only [Node,eL] at h;generalize he:v.Ar.map ah=es at h
  cases h with
  | nils=>rw [List.map_eq_nil_iff.1 he]; exact .nils
  | nile a=>rw [List.map_eq_nil_iff.1 he]; exact .nile a
  | slice sz cf hcap CC CH hc hr=>
   have hl:es.length=(v.Ar.map λ _=>PV.agg []).length:=by rw [<- he]; simp
   rw [hl] at hcap ⊢
   exact .slice 0 (λ _ _=>Go.undef) hcap (λ e he=>by obtain ⟨_,_,rfl⟩:=List.mem_map.1 he; rfl) (λ e he=>by obtain ⟨_,_,rfl⟩:=List.mem_map.1 he; simp [PV.cells])
    (λ i e j c h1 h2=>by simp only [List.getElem?_map,ld] at h1; obtain ⟨_,_,rfl⟩:=h1; simp [PV.cells] at h2) (λ i e j c h1 h2=>by simp only [List.getElem?_map,ld] at h1; obtain ⟨_,_,rfl⟩:=h1; simp [PV.cells] at h2)
 | _::_,[],v,x,h=>by simp only [Node] at h
 | i::q,t::ts,v,x,h=>by
  simp only [Node] at h;obtain ⟨b,cap,c,e,y,u,h1,h2,h3,h4,h5,h6,h7,h8,h9,h10⟩:=h;subst h6;have hl:v.Ar.length=(v.Ar.map λ _=>PV.agg []).length:=by simp
  rw [hl] at h4 ⊢
  exact .slice 0 (λ _ _=>Go.undef) h4 (λ e he=>by obtain ⟨_,_,rfl⟩:=List.mem_map.1 he; rfl) (λ e he=>by obtain ⟨_,_,rfl⟩:=List.mem_map.1 he; simp [PV.cells])
    (λ i e j c h1 h2=>by simp only [List.getElem?_map,ld] at h1; obtain ⟨_,_,rfl⟩:=h1; simp [PV.cells] at h2) (λ i e j c h1 h2=>by simp only [List.getElem?_map,ld] at h1; obtain ⟨_,_,rfl⟩:=h1; simp [PV.cells] at h2)
theorem PRep.slice_one {w:World}{st:Nat->Nat->Prop}{es:List PV}{x:Value}(h:PRep w st (.slice es) x):x.oneCell'=true:=by
 cases h <;> rfl
theorem Node.ren {w:World}{st:Nat->Nat->Prop}{ow ow':Nat->Option Nat}:∀ (q ts ts':List Nat) (v:aa) (x:Value),
  (∀ (k t:Nat),ts[k]? = some t->k<q.length->∃ u,ts'[k]? = some u/\∀ b,ow t=some b->ow' u=some b)->Node ts q v w ⟨st,ow⟩ x->Node ts' q v w ⟨st,ow'⟩ x
 | [],ts,ts',v,x,hm,h=>by simp only [Node] at h ⊢; exact h
 | _::_,[],ts',v,x,hm,h=>by simp only [Node] at h
 | i::q,t::ts,ts',v,x,hm,h=>by
  obtain ⟨t',h0,h01⟩:=hm 0 t rfl G
  obtain ⟨r',rfl⟩:∃ r',ts'=t'::r':=by
   cases ts' with
   | nil=>simp at h0
   | cons a r=>simp only [List.getElem?_cons_zero,aq] at h0; subst h0; exact ⟨r,rfl⟩
  simp only [Node] at h ⊢;obtain ⟨b,cap,c,e,y,u,h1,h2,h3,h4,h5,h6,h7,h8,h9,h10⟩:=h
  exact ⟨b,cap,c,e,y,u,h01 b h1,h2,h3,h4,h5,h6,h7,h8,Node.ren q ts r' y u (λ k t hk hq=>by
   obtain ⟨u,hu,h⟩:=hm (k+1) t (by simpa using hk) (by simpa using hq)
   exact ⟨u,by simpa using hu,h⟩) h9,h10⟩
def tks (a n:Nat):List Nat:=List.range' a n
theorem s4 {ts ts':List Nat}{R:World->Gh->Value->Prop}{q:List Nat}{v:aa}(h:∀ w g x,R w g x->Node ts' q v w g x):(AV.sem ts R).sub (.sem ts' (Node ts' q v)):=by
 intro w g x hx
 cases hx with
 | sem h1 h2=>exact .sem h1 λ w' g' hE=>(h _ _ _ (h2 _ _ (EvT.refl _ _ _))).mono q ts' v x hE
theorem wJ {m:Nat->Option Nat}:∀ {ts l:List Nat},sE m ts=some l->∀ (k t:Nat),ts[k]? = some t->∃ u,l[k]? = some u/\m t=some u
 | [],_,_,k,t,ht=>by simp at ht
 | x::r,l,h,k,t,ht=>by
  simp only [sE] at h;split at h
  ·rename_i u q hu hq
   cases h
   cases k with
   | zero=>simp only [List.getElem?_cons_zero,aq] at ht; subst ht; exact ⟨u,rfl,hu⟩
   | succ k=>obtain ⟨u',h1,h2⟩:=wJ hq k t (by simpa using ht); exact ⟨u',by simpa using h1,h2⟩
  ·cases h
theorem oR {m:Nat->Option Nat}{ts l l':List Nat}{q:List Nat}{v:aa}(hm:sE m ts=some l)(hl:∀ k,k<q.length->∀ u,l[k]? = some u->l'[k]? = some u):(AV.sem l (AC m ts (Node ts q v))).sub (.sem l' (Node l' q v)) :=
 s4 λ w g x h=>by
  obtain ⟨st,ow⟩:=g;refine Node.ren q ts l' v x (λ k t hk hq=>?_) h;obtain ⟨u,h1,h2⟩:=wJ hm k t hk;refine ⟨u,hl k hq u h1,λ b hb=>?_⟩;simpa [List.mem_of_getElem? hk,h2] using hb
theorem xb {ts ts':List Nat}{q:List Nat}{v:aa}(hl:∀ k,k<q.length->∀ u,ts[k]? = some u->ts'[k]? = some u):(AV.sem ts (Node ts q v)).sub (.sem ts' (Node ts' q v)) :=
 s4 λ w g x h=>by
  obtain ⟨st,ow⟩:=g;exact Node.ren q ts ts' v x (λ k t hk hq=>⟨t,hl k hq t hk,λ _ h=>h⟩) h
theorem wK {ts:List Nat}{v:aa}:(AV.sem ts (Node ts [] v)).sub (.p (eL ah v.Ar)):=by
 intro w g x hx
 cases hx with
 | sem h1 h2=>have:=h2 _ _ (EvT.refl _ _ _); simp only [Node] at this; exact .p this
theorem xc {ts:List Nat}{v:aa}:(AV.p (eL ah v.Ar)).sub (.sem ts (Node ts [] v)):=by
 intro w g x hx
 cases hx with
 | p h=>exact .sem h.slice_one λ w' g' hE=>by simp only [Node]; exact h.mono hE.ev
theorem vA {ts q:List Nat}{v:aa}:(AV.sem ts (Node ts q v)).sub (.p (.slice (v.Ar.map λ _=>.agg []))):=by
 intro w g x hx
 cases hx with
 | sem h1 h2=>exact .p (h2 _ _ (EvT.refl _ _ _)).hollow
def zP (z:aa):PV:=.agg [eI z.AT,eI z.A',eS z.By,.slice (z.Ar.map λ _=>.agg []),eL eS z.AI]
def eTH:aa×Bool->PV|(z,false)=>ah z|(z,true)=>zP z
def iB (l:List aa)(i:Nat)(y:aa):List (aa×Bool):=(l.map λ z=>(z,false)).set i (y,true)
theorem wi (x:aa×Bool):(eTH x).cells.length=5:=by
 obtain ⟨z,b⟩:=x
 cases b
 ·simp only [eTH,aa.B']; rfl
 ·rfl
theorem sW (l:List aa)(i:Nat)(y:aa):(iB l i y).length=l.length:=by simp [iB]
theorem yq (l:List aa)(i:Nat)(y z:aa):(qa (iB l i y) (i:Int) (z,false)).map eTH=(l.set i z).map ah:=by
 simp only [qa,iB,Int.toNat_natCast,List.set_set,List.map_set,List.map_map];congr 1
theorem kz {t i:Nat}{ts q:List Nat}{v y:aa}(hy:v.Ar[i]? = some y):(AV.sem (t::ts) (Node (t::ts) (i::q) v)).sub (.stk t 5 ((iB v.Ar i y).map eTH)):=by
 intro w g x hx
 cases hx with
 | sem a1 a2=>
  have h:=a2 _ _ (EvT.refl _ _ _)
  clear a1 a2
  simp only [Node] at h;obtain ⟨b,cap,c,e,y',u,h1,h2,h3,h4,h5,h6,h7,h8,h9,h10⟩:=h;rw [hy] at h7; cases h7;subst h6;have hl:v.Ar.length=((iB v.Ar i y).map eTH).length:=by rw [n6,sW]
  rw [hl] at h4 ⊢;refine .stk h1 h2 h3 h4 (λ e he=>by obtain ⟨z,_,rfl⟩:=List.mem_map.1 he; exact wi z) (λ e he c hc=>?_) h5 (λ j z k p hj hk=>?_)
  ·obtain ⟨⟨z,b⟩,_,rfl⟩:=List.mem_map.1 he
   cases b
   ·simp only [eTH,aa.B',aa.cs,ro,List.not_mem_nil,or_false] at hc;rcases hc with rfl|rfl|rfl|rfl|rfl <;> rfl
   ·simp only [eTH,zP,PV.cells,ro,List.not_mem_nil,or_false] at hc;rcases hc with rfl|rfl|rfl|rfl|rfl <;> rfl
  ·have hi:i<v.Ar.length:=(List.getElem?_eq_some_iff.1 hy).1;simp only [iB,List.getElem?_map,List.getElem?_set,n6] at hj;by_cases e1:i=j
   ·subst e1;rw [if_pos rfl,if_pos hi] at hj;simp only [Option.map_some,aq] at hj;subst hj
    match k,hk with
    | 0,hk=>exact (h10 i 0 y p hy hk).resolve_left O
    | 1,hk=>exact (h10 i 1 y p hy hk).resolve_left O
    | 2,hk=>exact (h10 i 2 y p hy hk).resolve_left O
    | 3,hk=>
     refine ⟨u,h8,?_⟩;simp only [eTH,zP,PV.cells,List.getElem?_cons_succ,List.getElem?_cons_zero,aq] at hk;subst hk;exact h9.hollow
    | 4,hk=>exact (h10 i 4 y p hy hk).resolve_left O
    | k+5,hk=>simp [eTH,zP,PV.cells] at hk
   ·rw [if_neg e1] at hj;simp only [ld] at hj;obtain ⟨_,⟨z0,hz0,rfl⟩,rfl⟩:=hj;simp only [eTH,aa.B'] at hk;rcases h10 j k z0 p hz0 hk with h|h
    ·exact absurd h.1.symm e1
    ·exact h
section
variable {C:Cx} {o:Oper} {K:AS->Prop} {sl:List (Nat×AV)} {ob:List (Nat×List AV)} {d:Nat}
theorem oN (id j:Nat){cs:List AV}{t:TypeId}{x:Operand}{i:TI}{n t0 off:Nat}{ts q:List Nat}{v y:aa}(ho:o.op=.load t x)(hd:o.dst=some d)(hn:Nat.blt d C.n=true)
  (hi:look C.tt t=some i) (hia:i.k.isAgg=true) (hx:evo sl x=some (.ptr t0 off)) (hoff:off=n*5) (hob:look ob id=some cs) (hj:cs[j]? = some (.sem (t0::ts) (Node (t0::ts) (n::q) v))) (CC:i.size=5) (hyv:v.Ar[n]? = some y)
  (hK:K ⟨(d,.agg [.p (eI y.AT),.p (eI y.A'),.p (eS y.By),.sem ts (Node ts q y),.p (eL eS y.AI)])::sl,ob⟩):aO C o K ⟨sl,ob⟩:=by
 subst hoff;refine ok_one hd hn (λ g a w hs=>?_) hK;have h5:=bg hs hx;obtain ⟨b2,c2,e2,_,_,_,_,n5⟩:=hs.ob id cs hob;obtain ⟨hdr,_,hsem⟩:=n5 j _ hj;generalize hv:a.eval x=u at h5
 cases hsem with
 | sem CH h=>
  have h0:=h _ _ (EvT.refl _ _ _);simp only [Node] at h0;obtain ⟨b',cap',c,e',z,u',k1,k2,k3,k4,k5,k6,k7,k8,k9,k10⟩:=h0
  cases h5 with
  | ptr how=>
  rename_i b;obtain rfl:b'=b:=Option.some.inj (k1.symm.trans how);rw [hyv] at k7; cases k7
  have get:∀ j,j<5->∃ u,c[n*5+j]? = some u:=by
   intro j hj;have:n<v.Ar.length:=(List.getElem?_eq_some_iff.1 hyv).1;exact ⟨_,Array.getElem?_eq_getElem O⟩
  have hc:∀ j,j<i.size->w.cell? ⟨b',n*5+j,none⟩=some (c.getD (n*5+j) Go.undef):=by
   intro j hj;obtain ⟨u,hu⟩:=get j O;rw [jf hs k2,Array.getD_eq_getD_getElem?,hu]
   rfl
  have hld:=jy C.good hi hia (f:=λ j=>c.getD (n*5+j) Go.undef) hc;refine ⟨.agg ((List.range i.size).map λ j=>c.getD (n*5+j) Go.undef).toArray,by simp only [execOp,ho,hv,Instr.loadAt,Instr.sureAddr,Sem.run_bind,Sem.run_pure,Result.andThen_ok,hld],.agg (by simp [CC]) λ j y' u h1 h2=>?_⟩;have hj:j<5:=by have:=(List.getElem?_eq_some_iff.1 h1).1; simpa using this
  simp only [List.getElem?_toArray,List.getElem?_map,List.getElem?_range (show j<i.size by omega),Option.map_some,aq] at h2;subst h2
  have plain:∀ p,(aa.cs y)[j]? = some p->j≠3->ARep w g (.p p) (c.getD (n*5+j) Go.undef):=by
   intro p hp hj3;rcases k10 n j y p hyv hp with h|⟨u,hu,hr⟩
   ·exact absurd h.2 hj3
   ·rw [Array.getD_eq_getD_getElem?,hu]; exact .p hr
  match j,hj,h1 with
  | 0,_,h1=>cases h1; exact plain _ rfl (by decide)
  | 1,_,h1=>cases h1; exact plain _ rfl (by decide)
  | 2,_,h1=>cases h1; exact plain _ rfl (by decide)
  | 3,_,h1=>
   cases h1
   rw [Array.getD_eq_getD_getElem?,k8];exact .sem k9.hollow.slice_one λ w' g' hE=>k9.mono q ts y u' hE
  | 4,_,h1=>cases h1; exact plain _ rfl (by decide)
end
def eN (l:List aa)(i:Nat)(X:AV):List AV:=(d5 ah l).set (i*5+3) X
theorem fQ (x:aa):(ah x).cells.length=5:=congrArg List.length (aa.B' x)
theorem mT (l:List aa)(i:Nat)(X:AV):(eN l i X).length=l.length*5:=by
 rw [eN,List.length_set,dH fQ]
theorem vz {l:List aa}{i:Nat}{X:AV}(h:i<l.length):(eN l i X)[i*5+3]? = some X:=by
 rw [eN,List.getElem?_set_self];rw [dH fQ]; omega
theorem xq {l:List aa}{i j k:Nat}{X:AV}{z:aa}{p:PV}(hz:l[j]? = some z)(hp:(aa.cs z)[k]? = some p)(h:¬ (j=i/\k=3)):(eN l i X)[j*5+k]? = some (.p p):=by
 have hk:k<5:=(List.getElem?_eq_some_iff.1 hp).1
 rw [eN,List.getElem?_set_ne O,d5,List.getElem?_map,
  fC (sz:=5) (λ e he=>by obtain ⟨x,_,rfl⟩:=List.mem_map.1 he; exact fQ x) j (ah z) k p (by rw [List.getElem?_map,hz]; rfl) (by rw [aa.B']; exact hp)]
 rfl
theorem vh {l:List aa}{i n:Nat}{X:AV}(h:n≠i):((eN l i X).drop (n*5)).take 5=((d5 ah l).drop (n*5)).take 5:=by
 apply List.ext_getElem?;intro j;rw [List.getElem?_take,List.getElem?_take];by_cases hj:j<5
 ·rw [if_pos hj,if_pos hj,List.getElem?_drop,List.getElem?_drop,eN,List.getElem?_set_ne O]
 ·rw [if_neg hj,if_neg hj]
theorem xo {l:List aa}{i n:Nat}{X:AV}(hn:n<l.length)(h:n≠i)(y:aa):mC (eN l i X) (n*5) ((aa.cs y).map .p)=eN (l.set n y) i X:=by
 have h5:((aa.cs y).map AV.p).length=5:=rfl;rw [eN,eN,<- kJ (by decide) fQ l hn y,aa.B'];apply List.ext_getElem?;intro k;rw [i7 _ _ _ (by rw [h5,List.length_set,dH fQ]; omega),h5,List.getElem?_set];rw [List.getElem?_set]
 have hl:(mC (d5 ah l) (n*5) ((aa.cs y).map AV.p)).length=(d5 ah l).length:=by
  rw [<- aa.B',kJ (by decide) fQ l hn y,dH fQ,dH fQ,List.length_set]
 rw [hl,i7 _ _ _ (by rw [h5,dH fQ]; omega),h5];by_cases e1:n*5<=k/\k<n*5+5
 ·rw [if_pos e1,if_pos e1,if_neg O]
 ·rw [if_neg e1,if_neg e1]
theorem xa {l:List aa}{i:Nat}{X:AV}(hn:i<l.length)(y:aa):mC (d5 ah l) (i*5) [.p (eI y.AT),.p (eI y.A'),.p (eS y.By),X,.p (eL eS y.AI)]=eN (l.set i y) i X:=by
 rw [eN,<- kJ (by decide) fQ l hn y,aa.B']
 have hl:(mC (d5 ah l) (i*5) ((aa.cs y).map AV.p)).length=(d5 ah l).length:=by
  rw [<- aa.B',kJ (by decide) fQ l hn y,dH fQ,dH fQ,List.length_set]
 apply List.ext_getElem?;intro k;have h5:((aa.cs y).map AV.p).length=5:=rfl;have hle:i*5+5<=(d5 ah l).length:=by rw [dH fQ]; omega
 rw [i7 _ _ _ hle,List.getElem?_set,hl,i7 _ _ _ (by rw [h5]; exact hle),h5];simp only [d4,List.length_nil,rd,Nat.reduceAdd];by_cases e1:i*5<=k/\k<i*5+5
 ·rw [if_pos e1,if_pos e1];obtain ⟨m,rfl⟩:∃ m,k=i*5+m:=⟨k-i*5,by omega⟩
  rw [Nat.add_sub_cancel_left];have hm:m<5:=by omega
  match m,hm with
  | 0,_=>rw [if_neg O]; rfl
  | 1,_=>rw [if_neg O]; rfl
  | 2,_=>rw [if_neg O]; rfl
  | 3,_=>rw [if_pos O,if_pos O]; rfl
  | 4,_=>rw [if_neg O]; rfl
 ·rw [if_neg e1,if_neg e1,if_neg O]
section
variable {C:Cx} {o:Oper} {K:AS->Prop} {sl:List (Nat×AV)} {ob:List (Nat×List AV)} {d:Nat}
theorem sR (l:List aa)(i:Nat)(X:AV){t:TypeId}{x:Operand}{ti:TI}{id:Nat}{n:Int}(ho:o.op=.load t x)(hd:o.dst=some d)(hn:Nat.blt d C.n=true)
  (hi:look C.tt t=some ti) (hia:ti.k.isAgg=true) (hx:evo sl x=some (.ptr id (0+n.toNat*5))) (hob:look ob id=some (eN l i X)) (hiz:ti.size=5) (hb:0<=n/\n<(l.length:Int)) (CQ:n.toNat≠i)
  (hK:K ⟨(d,.p (.agg (aa.cs (lat l n))))::sl,ob⟩):aO C o K ⟨sl,ob⟩:=by
 have hnl:n.toNat<l.length:=by omega
 refine aN ho hd hn hi hia hx hob (Nat.ble_eq_true_of_le (by rw [mT]; omega)) (y:=.p (.agg (aa.cs (lat l n)))) ?_ hK;rw [rd,hiz,vh CQ,tI (by decide) fQ l hnl,vO,aa.B']
 rfl
theorem sn (l:List aa)(i:Nat)(X:AV)(y:aa){t:TypeId}{x v:Operand}{ti:TI}{id:Nat}{n:Int}(ho:o.op=.store t x v)(hd:o.dst=none)
  (hi:look C.tt t=some ti) (hx:evo sl x=some (.ptr id (0+n.toNat*5))) (hv:evo sl v=some (.p (.agg (aa.cs y)))) (hob:look ob id=some (eN l i X)) (hiz:ti.size=5) (hb:0<=n/\n<(l.length:Int)) (CQ:n.toNat≠i)
  (hK:K ⟨sl,(id,eN (l.set n.toNat y) i X)::ob⟩):aO C o K ⟨sl,ob⟩:=by
 have hnl:n.toNat<l.length:=by omega
 refine cv (xs:=(aa.cs y).map .p) ho hd hi hx hv (pN _ Z) (by rw [n6,hiz]; rfl) hob (by rw [n6,mT]; show 0+n.toNat*5+5<=_; omega) ?_;rw [rd,xo hnl CQ];exact hK
theorem se (l:List aa)(ts:List Nat)(R:World->Gh->Value->Prop)(y:aa){t:TypeId}{x v:Operand}{ti:TI}{id:Nat}{n:Int}(ho:o.op=.store t x v)(hd:o.dst=none)
  (hi:look C.tt t=some ti) (hx:evo sl x=some (.ptr id (0+n.toNat*5))) (hv:evo sl v=some (.agg [.p (eI y.AT),.p (eI y.A'),.p (eS y.By),.sem ts R,.p (eL eS y.AI)])) (hob:look ob id=some (d5 ah l)) (hiz:ti.size=5) (hb:0<=n/\n<(l.length:Int))
  (hK:K ⟨sl,(id,eN (l.set n.toNat y) n.toNat (.sem ts R))::ob⟩):aO C o K ⟨sl,ob⟩:=by
 have hnl:n.toNat<l.length:=by omega
 refine cv (xs:=[.p (eI y.AT),.p (eI y.A'),.p (eS y.By),.sem ts R,.p (eL eS y.AI)]) ho hd hi hx hv Z (by rw [hiz]; rfl) hob (by rw [dH fQ]; show 0+n.toNat*5+5<=_; omega) ?_;rw [rd,xa hnl];exact hK
theorem vS {t:AS}(hle:(⟨sl,ob⟩:AS).le t)(h:aO C o K t):aO C o K ⟨sl,ob⟩:=λ g a w hs=>h g a w (hs.weaken hle)
end
def AZ (R:AV->AV->Prop):List AV->List AV->Prop|[],[]=>True|x::r,y::q=>R x y/\AZ R r q|_,_=>False
def Bp (R:AV->AV->Prop)(sl:List (Nat×AV)):List (Nat×AV)->Prop|[]=>True|p::r=>(∃ x,look sl p.1=some x/\R x p.2)/\Bp R sl r
def BB (k:Nat)(R:AV->AV->Prop)(ob:List (Nat×List AV)):List (Nat×List AV)->Prop|[]=>True|p::r=>(Nat.beq p.1 k=false/\∃ cs,look ob p.1=some cs/\AZ R cs p.2)/\BB k R ob r
theorem qN {R:AV->AV->Prop}:∀ {l q:List AV},AZ R l q->l.length=q.length/\∀ (i:Nat) x y,l[i]? = some x->q[i]? = some y->R x y
 | [],[],_=>⟨Z,by simp⟩
 | [],_::_,h=>h.elim
 | _::_,[],h=>h.elim
 | x::r,y::q,h=>by
  obtain ⟨h1,h2⟩:=qN h.2;refine ⟨by simp [h1],λ i a b ha hb=>?_⟩
  cases i with
  | zero=>simp only [List.getElem?_cons_zero,aq] at ha hb; subst ha hb; exact h.1
  | succ i=>simp only [List.getElem?_cons_succ] at ha hb; exact h2 i a b ha hb
theorem qX {R:AV->AV->Prop}{sl:List (Nat×AV)}:∀ {q:List (Nat×AV)},Bp R sl q->∀ i y,look q i=some y->∃ x,look sl i=some x/\R x y
 | [],_,i,y,h=>by cases h
 | p::r,hq,i,y,h=>by
  obtain ⟨p1,p2⟩:=p;rw [aJ] at h;split at h
  ·cases h; subst_vars; exact hq.1
  ·exact qX hq.2 i y h
theorem qP {k:Nat}{R:AV->AV->Prop}{ob:List (Nat×List AV)}:∀ {q:List (Nat×List AV)},BB k R ob q->∀ i y,look q i=some y->Nat.beq i k=false/\∃ x,look ob i=some x/\AZ R x y
 | [],_,i,y,h=>by cases h
 | p::r,hq,i,y,h=>by
  obtain ⟨p1,p2⟩:=p;rw [aJ] at h;split at h
  ·cases h; subst_vars; exact hq.1
  ·exact qP hq.2 i y h
def ndz (k n:Nat)(X:AV)(x y:AV):Prop:=y=x.dem (λ i=>Nat.beq i k)\/(x=.arr k 5 0 n/\y=X)
theorem uH {C:Cx}{sl sl':List (Nat×AV)}{ob ob':List (Nat×List AV)}(k i:Nat)(ts q:List Nat)(v y:aa){cs:List AV}(hk:Nat.blt k M1=true)(hts:ts.any (Nat.beq k)=false)(hob:look ob k=some cs)(CE:cs.length=v.Ar.length*5)
  (hy:v.Ar[i]? = some y) (hX:∃ X,cs[i*5+3]? = some X/\X.sub (.sem ts (Node ts q y))) (CJ:∀ (j m:Nat) (z:aa) (p:PV),v.Ar[j]? = some z->(aa.cs z)[m]? = some p->(j=i/\m=3)\/cs[j*5+m]? = some (.p p))
  (hS:Bp (ndz k v.Ar.length (.sem (k::ts) (Node (k::ts) (i::q) v))) sl sl') (hO:BB k (ndz k v.Ar.length (.sem (k::ts) (Node (k::ts) (i::q) v))) ob ob'):bY C ⟨sl,ob⟩ ⟨sl',ob'⟩:=by
 have hk':k<M1:=mv ▸ hk;intro g a w hs;obtain ⟨b,c,e,k1,k2,k3,k4,k5⟩:=hs.ob k cs hob;have hlt:b<w.heap.size:=(hs.own k b k1).1
 have keyD:∀ id b',Nat.beq id k=false->g.ow id=some b'->b'=b->False:=by
  rintro id b' hD h rfl;have:=hs.inj id k b' h k1;subst this;simp at hD
 obtain ⟨st',hst'⟩:∃ st':Nat->Nat->Prop,∀ b' o,st' b' o↔g.st b' o\/(b'=b/\o=c.size):=⟨_,λ _ _=>Iff.rfl⟩
 obtain ⟨g',hg1,hg2⟩:∃ g':Gh,g'.st=st'/\g'.ow=g.ow:=⟨⟨st',g.ow⟩,rfl,rfl⟩
 have CN:∀ b' o,g'.st b' o↔g.st b' o\/(b'=b/\o=c.size):=λ b' o=>by rw [hg1]; exact hst' b' o
 have CL:Ev w g.st w g'.st:=λ b' o h=>⟨(CN b' o).2 (.inl h),Z⟩
 have tip:∀ id b' o,Nat.beq id k=false->g.ow id=some b'->g'.st b' o->g.st b' o:=λ id b' o hD h ho=>((CN b' o).1 ho).resolve_right λ h'=>keyD id b' hD h h'.1
 have hlo:∀ i,M1<=i->Nat.beq i k=false:=λ i hi=>by
  cases hq:Nat.beq i k
  ·rfl
  ·have:=bx hq; omega
 have hs':=hs.evolve (λ i=>Nat.beq i k) (λ i hi=>by have:=bx hi; omega) (g':=g') CL (λ id b' hD h=>⟨by rw [hg2]; exact h,Z,λ o ho=>tip id b' o hD h ho⟩)
  (λ i j b h1 h2=>hs.inj i j b (by rw [<- hg2]; exact h1) (by rw [<- hg2]; exact h2)) (λ i b h=>hs.own i b (by rw [<- hg2]; exact h)) (λ b' o h=>by
   rcases (CN b' o).1 h with h|⟨rfl,_⟩
   ·exact hs.lt b' o h
   ·exact hlt) (λ b h=>rfl) Z Z Z (bt _) (λ b' hb' o=>⟨λ h=>((CN b' o).1 h).resolve_right λ h'=>(hs.own k b k1).2 (h'.1 ▸ hb'),λ h=>(CN b' o).2 (.inl h)⟩) (λ i hi=>by rw [hg2])
 have hE:EvO (λ i=>Nat.beq i k) w g w g':=⟨CL,λ id b' hD h=>by rw [hg2]; exact h,λ id b' c' e' hD h hb'=>⟨c',hb',Z⟩,tip,λ id b' es' k' hD h hb'=>hb',λ i hi=>hlo i (nN hi),λ id b' o hD h _=>rfl⟩
 have hET:EvT ts w g w g':=hE.evT (by
  rw [List.any_eq_false] at hts ⊢;intro x hx;have:=hts x hx;intro h
  exact this (by have:=bx h; subst this; simp))
 have hnd:∀ u,ARep w g (.arr k 5 0 v.Ar.length) u->ARep w g' (.sem (k::ts) (Node (k::ts) (i::q) v)) u:=by
  intro u hu
  cases hu with
  | arr how hb hcs' hn=>
   rename_i b' cap c' e';rw [k1] at how; cases how;rw [k2] at hb; cases hb
   have hN:Node (k::ts) (i::q) v w g' (.slice (some ⟨b,0,none⟩) v.Ar.length cap):=by
    obtain ⟨X,hX1,hX2⟩:=hX;obtain ⟨u,hu,hr⟩:=k5 _ X hX1;have hu2:=hX2 _ _ _ hr;simp only [Node];refine ⟨b,cap,c,e,y,u,by rw [hg2]; exact k1,k2,by omega,hn,λ o=>⟨λ h=>?_,λ h=>(CN b o).2 (.inr ⟨rfl,by omega⟩)⟩,rfl,hy,hu,?_,λ j m z p hz hp=>?_⟩
    ·rcases (CN b o).1 h with h|h
     ·exact absurd h (k4 o)
     ·omega
    ·cases hu2 with
     | sem a1 a2=>exact a2 _ _ hET
    ·rcases CJ j m z p hz hp with h|h
     ·exact .inl h
     ·obtain ⟨u',h1,h2⟩:=k5 _ _ h;refine .inr ⟨u',h1,?_⟩
      cases h2 with
      | p h=>exact h.mono CL
   exact .sem Z λ w2 g2 hE2=>hN.mono _ _ _ _ hE2
 have val:∀ x y u,ndz k v.Ar.length (.sem (k::ts) (Node (k::ts) (i::q) v)) x y->ARep w g x u->ARep w g' y u:=by
  rintro x y u (rfl|⟨rfl,rfl⟩) h
  ·exact h.dem hE
  ·exact hnd u h
 refine ⟨g',{ hs' with sl:=λ i=>?_,ob:=λ id cs hc=>?_ }⟩
 ·simp only [AS.get]
  cases hl:look sl' i with
  | none=>exact .undef _
  | some y=>
   obtain ⟨x,hx,hf⟩:=qX hS i y hl;have h1:=hs.sl i;simp only [AS.get,hx,rg] at h1;exact val x y _ hf h1
 ·obtain ⟨CQ,ds,hds,hfL⟩:=qP hO id cs hc;obtain ⟨b1,c1,e1,n1,n2,n3,n4,n5⟩:=hs.ob id ds hds;obtain ⟨q1,q2⟩:=qN hfL;refine ⟨b1,c1,e1,by rw [hg2]; exact n1,n2,by omega,λ o ho=>n4 o (tip id b1 o CQ n1 ho),λ i y hy=>?_⟩;have hi:i<ds.length:=by have:=(List.getElem?_eq_some_iff.1 hy).1; omega
  obtain ⟨v,hv,hr⟩:=n5 i ds[i] (List.getElem?_eq_getElem hi);exact ⟨v,hv,val _ y v (q2 i _ y (List.getElem?_eq_getElem hi) hy) hr⟩
def gY (j:Nat)(e:List Nat):eJ->eJ->Prop|(k,d,v)::r,(k',d',v')::r'=>(k=k'/\d=d'/\(e.any (Nat.beq k)=true\/v j=v' j))/\gY j e r r'|[],[]=>True|_,_=>False
theorem nD {j:Nat}{e:List Nat}:∀ {r1 r2:eJ},gY j e r1 r2->∀ k p,e.any (Nat.beq k)=false->cg r2 k=some p->∃ v,cg r1 k=some (p.1,v)/\v j=p.2 j
 | [],[],_,k,p,_,h=>by cases h
 | (k1,d1,v1)::r,(k2,d2,v2)::r',⟨⟨e1,e2,e3⟩,hr⟩,k,p,hk,h=>by
  subst e1 e2;simp only [cg] at h ⊢
  cases hb:Nat.beq k1 k
  ·rw [hb,cond_false] at h;rw [cond_false];exact nD hr k p hk h
  ·rw [hb,cond_true] at h
   cases h
   rw [cond_true];have:=bx hb;subst this;exact ⟨v1,rfl,e3.resolve_left (by rw [hk]; exact λ h=>by cases h)⟩
 | [],_::_,h,_,_,_,_=>h.elim
 | _::_,[],h,_,_,_,_=>h.elim
theorem PAt.switch {C:Cx}{ops:Array Oper}{S1 S2:eg}{fin1 fin2:eJ}{fuel:Nat}{listed:Array Bool}{g:Gh}{a:Act}{w:World}{sl':List (Nat×AV)}{j:Nat}{e:List Nat}(h:PAt C ops S1 fin1 fuel listed g a w sl' j)(hj:j<=S2.m)
  (himp:∀ (i k:Nat),S2.imp[i]? = some k->(listed.getD k false=true↔i<j)) (hbas:S2.bas j=S1.bas j) (hobj:S2.obj j=S1.obj j) (hag:gY j e fin1 fin2) (he:∀ k,e.any (Nat.beq k)=true->listed.getD k false=false):PAt C ops S2 fin2 fuel listed g a w sl' j:=by
 refine ⟨h.sz,h.un,⟨hj,himp,h.inv.2.2⟩,⟨λ z x hx=>h.kn.1 z x (by rw [<- hbas]; exact hx),λ k p hk hp=>?_⟩,by rw [hobj]; exact h.st⟩
 have hk':e.any (Nat.beq k)=false:=by
  cases hq:e.any (Nat.beq k) with
  | false=>rfl
  | true=>rw [he k hq] at hk; cases hk
 obtain ⟨v,hv1,hv2⟩:=nD hag k p hk' hp;have:=h.kn.2 k _ hk hv1;rw [<- hv2]; exact this
theorem tV {C:Cx}{id:Nat}{ops:Array Oper}{Q:Exit->AS->Prop}{sl:List (Nat×AV)}{ob:List (Nat×List AV)}(S1 S2 S3:eg){c s f:Nat}{r:List Nat}(hm:C.P.follows .mixedOrders=true)
  (hi1:S1.imp=c::s::f::r) (hi2:S2.imp=c::f::s::r) (hi3:S3.imp=f::c::s::r) (hlen1:S1.imp.length=S1.m) (hlen2:S2.imp.length=S2.m) (hlen3:S3.imp.length=S3.m) (hob1:S1.obj 0=ob) (hob2:S2.obj 1=S1.obj 1) (hob3:S3.obj 0=ob)
  (hb:de sl (S1.bas 0)) (hb2:S2.bas 1=S1.bas 1) (hb3:S3.bas 0=S1.bas 0)
  (hbas1:∀ j,j<S1.m->de (trL (S1.D j) (S1.bas j)) (S1.bas (j+1))) (hbas2:∀ j,j<S2.m->de (trL (S2.D j) (S2.bas j)) (S2.bas (j+1))) (hbas3:∀ j,j<S3.m->de (trL (S3.D j) (S3.bas j)) (S3.bas (j+1)))
  (hnd1:nodupB (c::s::f::r)=true) (hnd2:nodupB (c::f::s::r)=true) (hnd3:nodupB (f::c::s::r)=true) (hin:(c::s::f::r).all (λ i=>Nat.blt i ops.size)=true) (hch1:chainB ops (c::s::r)=true) (hch2:chainB ops (f::r)=true)
  (hord:(ops.toList.zipIdx.all λ p=>p.1.after.toList.all λ e=>!(Region.binds .any e)||Nat.blt e.on p.2)=true)
  (h:DS C ops S1 (λ rev1=>Q .normal ⟨bD rev1 S1.m++S1.bas S1.m,S1.obj S1.m⟩ /\
   DS C ops S2 (λ rev2=>((⟨bD rev2 S2.m++S2.bas S2.m,S2.obj S2.m⟩:AS).le ⟨bD rev1 S1.m++S1.bas S1.m,S1.obj S1.m⟩/\gY 1 (s::f::r) rev1 rev2) /\
    DS C ops S3 (λ rev3=>(⟨bD rev3 S3.m++S3.bas S3.m,S3.obj S3.m⟩:AS).le ⟨bD rev1 S1.m++S1.bas S1.m,S1.obj S1.m⟩/\gY 0 (c::s::f::r) rev1 rev3) ops.toList 0 []) ops.toList 0 []) ops.toList 0 []):awp C (.region id ops true) Q ⟨sl,ob⟩:=by
 intro g a w hs;simp only [List.all_cons,n7] at hin;obtain ⟨fin1,⟨hf1,h2⟩,hP1⟩:=rU.mk' hlen1 hbas1 (by rw [hi1]; exact hnd1) (by rw [hi1]; simp only [List.all_cons,n7]; exact hin) hord h;obtain ⟨fin2,⟨⟨hf2,hag2⟩,h3⟩,hP2⟩:=rU.mk' hlen2 hbas2 (by rw [hi2]; exact hnd2) (by rw [hi2]; simp only [List.all_cons,n7]; exact ⟨hin.1,hin.2.2.1,hin.2.1,hin.2.2.2⟩) hord h2;obtain ⟨fin3,⟨hf3,hag3⟩,hP3⟩:=rU.mk' hlen3 hbas3 (by rw [hi3]; exact hnd3) (by rw [hi3]; simp only [List.all_cons,n7]; exact ⟨hin.2.2.1,hin.1,hin.2.1,hin.2.2.2⟩) hord h3
 have use:∀ {S:eg} {listed:Array Bool} {j i:Nat} {o:Oper} {z zi:Nat},sS ops S listed j->i∈Region.ready .any ops listed->ops[i]? = some o->S.imp[z]? = some zi->iD ops 4 o zi=true->z<j:=by
  intro S listed j i o z zi hI hi ho hz hb;obtain ⟨_,o',ho',hafter⟩:=mem_ready.1 hi;rw [ho] at ho'; cases ho';exact (hI.2.1 z zi hz).1 (fR hI.2.2 4 o zi hb hafter)
 have rdy:∀ {listed:Array Bool} {i:Nat},i∈Region.ready .any ops listed->∃ o,ops[i]? = some o:=λ hi=>by
  obtain ⟨_,o,ho,_⟩:=mem_ready.1 hi; exact ⟨o,ho⟩
 -- behind the third place all come in order
 have tail:∀ (x y z:Nat) (S:eg),S.imp=x::y::z::r->(z=s\/z=f)->∀ (listed:Array Bool) (j i q:Nat),sS ops S listed j->i∈Region.ready .any ops listed->S.imp[q]? = some i->3<=q->q<=j:=by
  intro x y z S hS hz listed j i q hI hi hq h3;obtain ⟨o,ho⟩:=rdy hi;obtain ⟨m,rfl⟩:∃ m,q=m+3:=⟨q-3,by omega⟩
  rw [hS] at hq;simp only [List.getElem?_cons_succ] at hq
  cases m with
  | zero=>
   have b:iD ops 4 o z=true:=by
    rcases hz with rfl|rfl
    ·exact gC hch1 1 _ i o Z (by simpa using hq) ho
    ·exact gC hch2 0 _ i o Z (by simpa using hq) ho
   have:=use (z:=2) hI hi ho (by rw [hS]; rfl) b;omega
  | succ m=>
   have hm:m<r.length:=by have:=(List.getElem?_eq_some_iff.1 hq).1; omega
   have b:=gC hch2 (m+1) r[m] i o (by simp [List.getElem?_eq_getElem hm]) (by simpa using hq) ho;have:=use (z:=m+3) hI hi ho (by rw [hS]; simp [List.getElem?_eq_getElem hm]) b;omega
 have sAfter:∀ {S:eg} {listed:Array Bool} {j:Nat} {z:Nat},sS ops S listed j->s∈Region.ready .any ops listed->S.imp[z]? = some c->z<j:=by
  intro S listed j z hI hi hz;obtain ⟨o,ho⟩:=rdy hi;exact use hI hi ho hz (gC hch1 0 c s o Z Z ho)
 have two:=iN hP2 hf2 hf1 2 (λ fuel listed g a w sl' j hj Dm i q hi hq hjq=>by
  exfalso;have:=tail c f s S2 hi2 (.inl Z) listed j i q Dm.inv hi hq O
  omega)
 have three:=iN hP3 hf3 hf1 1 (λ fuel listed g a w sl' j hj Dm i q hi hq hjq=>by
  exfalso;rcases Nat.lt_or_ge q 3 with h3|h3
  ·have hq2:q=2:=by omega
   subst hq2;have hi':i=s:=by rw [hi3] at hq; simpa using hq.symm
   subst hi';have:=sAfter (z:=1) Dm.inv hi (by rw [hi3]; rfl);omega
  ·have:=tail f c s S3 hi3 (.inl Z) listed j i q Dm.inv hi hq h3
   omega)
 refine wp_region_any hm ?_;refine (iN hP1 (AS.le_refl _) hf1 0 ?_).1 _ _ g a _ sl 0 (Nat.zero_le _) (PAt.start hb (by rw [hob1]; exact hs.drew));intro fuel listed g a w sl' j _ Dm i q hi hq hjq;rcases Nat.lt_or_ge q 3 with h3|h3
 ·match q,h3,hq,hjq with
  | 0,_,_,hjq=>omega
  | 1,_,hq,hjq=>
   exfalso;have hi':i=s:=by rw [hi1] at hq; simpa using hq.symm
   subst hi';have:=sAfter (z:=0) Dm.inv hi (by rw [hi1]; rfl);omega
  | 2,_,hq,hjq=>
   have hi':i=f:=by rw [hi1] at hq; simpa using hq.symm
   subst hi';have lst:∀ (z k:Nat),(c::s::i::r)[z]? = some k->(listed.getD k false=true↔z<j):=λ z k hz=>Dm.inv.2.1 z k (by rw [hi1]; exact hz)
   have no:∀ (z k:Nat),(c::s::i::r)[z]? = some k->j<=z->listed.getD k false=false:=λ z k hz hjz=>by
    cases hl:listed.getD k false with
    | false=>rfl
    | true=>have:=(lst z k hz).1 hl; omega
   match j,hjq,Dm,lst,no with
   | 0,_,Dm,lst,no=>
    refine three.2 fuel listed g a w sl' 0 i (.inr ⟨bt _,by rw [hi3]; rfl⟩) hi (Dm.switch (Nat.zero_le _) (λ z k hz=>?_) hb3 (by rw [hob3,<- hob1]) hag3 (λ k hk=>?_))
    ·constructor
     ·intro hl
      have hmem:k∈(c::s::i::r):=by
       have:=List.mem_of_getElem? hz;rw [hi3] at this;simp only [ro] at this ⊢;rcases this with h|h|h|h
       ·exact .inr (.inr (.inl h))
       ·exact .inl h
       ·exact .inr (.inl h)
       ·exact .inr (.inr (.inr h))
      obtain ⟨z',hz'⟩:=List.mem_iff_getElem?.1 hmem;rw [no z' k hz' (Nat.zero_le _)] at hl; cases hl
     ·intro h; omega
    ·obtain ⟨x,hx,hkx⟩:=List.any_eq_true.1 hk;have:=bx hkx;subst this;obtain ⟨z',hz'⟩:=List.mem_iff_getElem?.1 hx;exact no z' k hz' (Nat.zero_le _)
   | 1,_,Dm,lst,no=>
    refine two.2 fuel listed g a w sl' 1 i (.inr ⟨bt _,by rw [hi2]; rfl⟩) hi (Dm.switch (by rw [<- hlen2,hi2]; simp) (λ z k hz=>?_) hb2 hob2 hag2 (λ k hk=>?_))
    ·rw [hi2] at hz
     match z,hz with
     | 0,hz=>exact lst 0 k hz
     | 1,hz=>
      have hz':i=k:=by simpa using hz
      subst hz';have:=no 2 i rfl O;exact ⟨λ h=>(by rw [this] at h; cases h),λ h=> O⟩
     | 2,hz=>
      have hz':s=k:=by simpa using hz
      subst hz';have:=no 1 s rfl O;exact ⟨λ h=>(by rw [this] at h; cases h),λ h=> O⟩
     | z+3,hz=>
      have:=no (z+3) k (by simpa using hz) O;exact ⟨λ h=>(by rw [this] at h; cases h),λ h=> O⟩
    ·obtain ⟨x,hx,hkx⟩:=List.any_eq_true.1 hk;have:=bx hkx;subst this;obtain ⟨z',hz'⟩:=List.mem_iff_getElem?.1 hx;exact no (z'+1) k (by simpa using hz') O
 ·exfalso;have:=tail c s f S1 hi1 (.inr Z) listed j i q Dm.inv hi hq h3;omega
theorem rk {x y z:AV}(h:x.sub y)(k:y.sub z):x.sub z:=λ w g v hv=>k w g v (h w g v hv)
theorem wD {D:Nat->Bool}(hD:∀ i,MZ<=i->D i=false)(x:AV):x.sub (x.dem D):=λ w g _ h=>
 h.dem ⟨Ev.refl _ _,λ _ _ _ h=>h,λ _ _ c _ _ _ h=>⟨c,h,Z⟩,λ _ _ _ _ _ h=>h,λ _ _ _ _ _ _ h=>h,hD,λ _ _ _ _ _ _=>rfl⟩
theorem yP {D:Nat->Bool}(hD:∀ i,MZ<=i->D i=false){sl:List (Nat×AV)}{ob ob':List (Nat×List AV)}(hob:dmO D ob=some ob'){d:Nat}{X Y0z:AV}(h:X.sub Y0z) :
  (⟨(d,X)::sl,ob⟩:AS).le ⟨(d,Y0z)::trL (.some D) sl,ob'⟩:=by
 refine ⟨λ j z hz=>?_,λ id cs hc=>?_⟩
 ·simp only [aJ] at hz;simp only [AS.get,aJ];by_cases e:d=j
  ·rw [if_pos e] at hz ⊢
   cases hz
   exact h
  ·rw [if_neg e] at hz ⊢;simp only [trL,ep,ld] at hz;obtain ⟨x,hx,rfl⟩:=hz;rw [hx];exact wD hD x
 ·rw [jE hob] at hc;have hf:=fq D ob id;simp only [ep] at hc;rw [hf] at hc;split at hc
  ·cases hc
  ·simp only [ld] at hc;obtain ⟨ds,hds,rfl⟩:=hc;refine ⟨ds,hds,by rw [eZ]; simp,λ i c e h1 h2=>?_⟩;rw [eZ] at h1;simp only [List.getElem?_map,h2,Option.map_some,aq] at h1;subst h1;exact wD hD e
theorem A7 {sl:List (Nat×AV)}{ob ob':List (Nat×List AV)}(ho:leO ob ob'):(⟨sl,ob⟩:AS).le ⟨sl,ob'⟩ :=
 ⟨λ j x hx=>by simp only [AS.get,hx,rg]; exact AV.sub_refl x,(fS (s:=⟨[],ob⟩) (t:=⟨[],ob'⟩) trivial ho).ob⟩
theorem wA {a n NB NE:Nat}(h1:a+n<=MZ)(h2:NE<=MZ):∀ i,MZ<=i->bz (tks a n) NB NE i=false:=λ i hi=>by
 have hb:Nat.blt i NE=false:=by
  cases h:Nat.blt i NE
  ·rfl
  ·have h3:i<NE:=mv ▸ h;omega
 have hc:(tks a n).any (Nat.beq i)=false:=by
  rw [List.any_eq_false];intro x hx hq;have:=bx hq;subst this;have:=List.mem_range'.1 hx;obtain ⟨k,hk,e⟩:=this;omega
 simp [bz,oc,hb,hc]
def CopC (P:Program)(f:FuncId)(q:List Nat)(x r:aa):Prop:=match q with
 | []=>au P f [.agg (aa.cs x)] (·=.p (.agg (aa.cs r)))
 | i::q'=>bs P f [.p (.agg (aa.cs x))] [] (λ a b=>a=.agg [.p (eI r.AT),.p (eI r.A'),.p (eS r.By),.sem (tks 2000000 32) (Node (tks 2000000 32) (i::q') r),.p (eL eS r.AI)]/\b=[])
def q5 (a:Nat)(q:List Nat)(r:aa):AV:=.agg [.p (eI r.AT),.p (eI r.A'),.p (eS r.By),.sem (tks a 32) (Node (tks a 32) q r),.p (eL eS r.AI)]
section
variable {C:Cx} {o:Oper} {K:AS->Prop} {sl:List (Nat×AV)} {ob:List (Nat×List AV)} {d:Nat}
theorem sr' {x:AV}:x.sub x:=AV.sub_refl x
theorem sk {f:FuncId}{args:Array Operand}{ts:Array TypeId}{q:List Nat}{x r:aa}{ob':List (Nat×List AV)}(hc:CopC C.P f q x r)(ho:o.op=.call { callee:=.value (.func f),args:=args,argTypes:=ts })
  (hd:o.dst=some d) (hn:Nat.blt d C.n=true) (hl:gx sl args.toList=some [.p (.agg (aa.cs x))]) (henter:∀ vs w,(callFunc f vs).run C.P w=.ok (.enter f vs) w) (hob:dmO (bz [] 104000 104032) ob=some ob')
  (hK:K ⟨(d,q5 104000 q r)::trL (.some (bz [] 104000 104032)) sl,ob'⟩):aO C o K ⟨sl,ob⟩:=by
 have hD:∀ i,MZ<=i->bz [] 104000 104032 i=false:=λ i hi=>by
  have:¬ i<104032:=by unfold MZ at hi; omega
  have hb:Nat.blt i 104032=false:=by
   cases h:Nat.blt i 104032
   ·rfl
   ·exact absurd (mv ▸ h) this
  simp [bz,oc,hb]
 cases q with
 | nil=>
  exact iU (s1:=⟨(d,.p (.agg (aa.cs r)))::sl,ob⟩) (λ K' hK'=>aY hc ho hd hn hl ⟨sr',trivial⟩ henter Z hK')
   (bS (yP hD hob (rk yE (by unfold q5; exact l7 ⟨sr',sr',sr',xc,sr',trivial⟩)))) hK
 | cons i q=>
  have e1:(bV (bz [] 104000 104032) ⟨sl,ob.filter λ p=>!(([]:List Nat).any (Nat.beq p.1))⟩).ob=ob':=by
   rw [jE hob];simp [bV]
  have e2:(bV (bz [] 104000 104032) ⟨sl,ob⟩).sl=trL (.some (bz [] 104000 104032)) sl:=rfl;refine jV (x:=.agg [.p (eI r.AT),.p (eI r.A'),.p (eS r.By),.sem (tks 104000 32) (AC (kg [] 104000 104032) (tks 2000000 32) (Node (tks 2000000 32) (i::q) r)),.p (eL eS r.AI)]) (λ K' hK'=>?_) (by unfold q5; exact l7 ⟨sr',sr',sr',oR Z (λ _ _ _ h=>h),sr',trivial⟩) hK;exact br [] [] 104000 104032 hc ho hd hn hl Z ⟨sr',trivial⟩ Z Z trivial Z Z Z Z Z Z Z Z henter Z Z (by rw [e1,e2]; exact hK')
def SetC (P:Program)(f:FuncId)(q:List Nat)(v:aa)(p:List ac)(x:aa)(r:aa×Int):Prop:=match q with
 | []=>au P f [.agg (aa.cs v),eL ag p,.agg (aa.cs x)] (·=.tuple [.p (.agg (aa.cs r.1)),.p (eI r.2)])
 | i::q'=>bs P f [q5 900000 (i::q') v,.p (eL ag p),.p (.agg (aa.cs x))] [] (λ a b=>a=.tuple [.p (.agg (aa.cs r.1)),.p (eI r.2)]/\b=[])
theorem mB {a n:Nat}{f:FuncId}{args:Array Operand}{ts:Array TypeId}{q:List Nat}{v x:aa}{p:List ac}{r:aa×Int}{ob':List (Nat×List AV)}(hc:SetC C.P f q v p x r)(ho:o.op=.call { callee:=.value (.func f),args:=args,argTypes:=ts })
  (hd:o.dst=some d) (hn:Nat.blt d C.n=true) (hl:gx sl args.toList=some [.agg [.p (eI v.AT),.p (eI v.A'),.p (eS v.By),.sem (tks a n) (Node (tks a n) q v),.p (eL eS v.AI)],.p (eL ag p),.p (.agg (aa.cs x))])
  (henter:∀ vs w,(callFunc f vs).run C.P w=.ok (.enter f vs) w) (hm:sE (ke [] (tks a n)) (tks a n)=some (tks 900000 n)) (hn32:n<=32) (hD:∀ i,MZ<=i->bz (tks a n) 105000 105000 i=false)
  (hdis:nodupB (tks a n)=true) (hvl:(tks a n).all (λ i=>Nat.blt i M1)=true) (hob:dmO (bz (tks a n) 105000 105000) ob=some ob')
  (hK:K ⟨(d,.tuple [.p (.agg (aa.cs r.1)),.p (eI r.2)])::trL (.some (bz (tks a n) 105000 105000)) sl,ob'⟩):aO C o K ⟨sl,ob⟩:=by
 cases q with
 | nil=>
  exact iU (s1:=⟨(d,.tuple [.p (.agg (aa.cs r.1)),.p (eI r.2)])::sl,ob⟩) (λ K' hK'=>aY hc ho hd hn hl ⟨kH ⟨sr',sr',sr',wK,sr',trivial⟩,sr',sr',trivial⟩ henter Z hK') (bS (yP hD hob sr')) hK
 | cons i q=>
  have e1:(bV (bz (tks a n) 105000 105000) ⟨sl,ob.filter λ p=>!(([]:List Nat).any (Nat.beq p.1))⟩).ob=ob':=by
   rw [jE hob];simp [bV]
  have e2:(bV (bz (tks a n) 105000 105000) ⟨sl,ob⟩).sl=trL (.some (bz (tks a n) 105000 105000)) sl:=rfl
  have hlk:∀ k u,(tks 900000 n)[k]? = some u->(tks 900000 32)[k]? = some u:=λ k u h=>by
   have hk:k<n:=by have:=(List.getElem?_eq_some_iff.1 h).1; simpa [tks] using this
   unfold tks at h ⊢;rw [List.getElem?_range' hk] at h;rw [List.getElem?_range' O];exact h
  refine br [] (tks a n) 105000 105000 (l':=[.agg [.p (eI v.AT),.p (eI v.A'),.p (eS v.By),.sem (tks 900000 n) (AC (ke [] (tks a n)) (tks a n) (Node (tks a n) (i::q) v)),.p (eL eS v.AI)],.p (eL ag p),.p (.agg (aa.cs x))])
   hc ho hd hn hl ?_ ⟨by unfold q5; exact l7 ⟨sr',sr',sr',oR hm (λ k _ u h=>hlk k u h),sr',trivial⟩,sr',sr',trivial⟩ Z Z trivial Z Z Z Z Z hdis hvl ?_ henter Z Z (by rw [e1,e2]; exact hK)
  ·simp only [AV.mapA.go,AV.mapA,hm]
  ·simp only [tks,List.length_range'];exact Nat.ble_eq_true_of_le O
end
theorem mSSS {C:Cx}{Q:Exit->AS->Prop}{k:List Fr}{ops:Array Oper}{sl:List (Nat×AV)}{ob:List (Nat×List AV)}(S1 S2 S3:eg){id c s f:Nat}{r:List Nat}(hm:C.P.follows .mixedOrders=true)
  (hi1:S1.imp=c::s::f::r) (hi2:S2.imp=c::f::s::r) (hi3:S3.imp=f::c::s::r) (hlen1:S1.imp.length=S1.m) (hlen2:S2.imp.length=S2.m) (hlen3:S3.imp.length=S3.m) (hob1:S1.obj 0=ob) (hob2:S2.obj 1=S1.obj 1) (hob3:S3.obj 0=ob)
  (hb:de sl (S1.bas 0)) (hb2:S2.bas 1=S1.bas 1) (hb3:S3.bas 0=S1.bas 0)
  (hbas1:∀ j,j<S1.m->de (trL (S1.D j) (S1.bas j)) (S1.bas (j+1))) (hbas2:∀ j,j<S2.m->de (trL (S2.D j) (S2.bas j)) (S2.bas (j+1))) (hbas3:∀ j,j<S3.m->de (trL (S3.D j) (S3.bas j)) (S3.bas (j+1)))
  (hnd1:nodupB (c::s::f::r)=true) (hnd2:nodupB (c::f::s::r)=true) (hnd3:nodupB (f::c::s::r)=true) (hin:(c::s::f::r).all (λ i=>Nat.blt i ops.size)=true) (hch1:chainB ops (c::s::r)=true) (hch2:chainB ops (f::r)=true)
  (hord:(ops.toList.zipIdx.all λ p=>p.1.after.toList.all λ e=>!(Region.binds .any e)||Nat.blt e.on p.2)=true)
  (h:DS C ops S1 (λ rev1=>M C Q ⟨.ex .normal,k,⟨bD rev1 S1.m++S1.bas S1.m,S1.obj S1.m⟩⟩ /\
   DS C ops S2 (λ rev2=>((⟨bD rev2 S2.m++S2.bas S2.m,S2.obj S2.m⟩:AS).le ⟨bD rev1 S1.m++S1.bas S1.m,S1.obj S1.m⟩/\gY 1 (s::f::r) rev1 rev2) /\
    DS C ops S3 (λ rev3=>(⟨bD rev3 S3.m++S3.bas S3.m,S3.obj S3.m⟩:AS).le ⟨bD rev1 S1.m++S1.bas S1.m,S1.obj S1.m⟩/\gY 0 (c::s::f::r) rev1 rev3) ops.toList 0 []) ops.toList 0 []) ops.toList 0 []):M C Q ⟨.cd (.region id ops true),k,⟨sl,ob⟩⟩ :=
 tV S1 S2 S3 hm hi1 hi2 hi3 hlen1 hlen2 hlen3 hob1 hob2 hob3 hb hb2 hb3 hbas1 hbas2 hbas3 hnd1 hnd2 hnd3 hin hch1 hch2 hord h
theorem leJ {S1 S2:eg}{r1 r2:eJ}(h1:lks (bD r2 S2.m++S2.bas S2.m) ((bD r1 S1.m++S1.bas S1.m).map (·.1))=some ((bD r1 S1.m++S1.bas S1.m).map (·.2)))(h2:lkE (S1.obj S1.m) (S2.obj S2.m) (S1.obj S1.m)) :
  (⟨bD r2 S2.m++S2.bas S2.m,S2.obj S2.m⟩:AS).le ⟨bD r1 S1.m++S1.bas S1.m,S1.obj S1.m⟩:=by
 refine ⟨λ j x h=>?_,λ id cs h=>⟨cs,(vu h2 id cs h).trans h,bt _,λ i c d a b=>by rw [a] at b; cases b; exact AV.sub_refl _⟩⟩;have:=sA h1 j x h;unfold AS.get;rw [this];exact AV.sub_refl _
theorem AO {C:Cx}{ops:Array Oper}{S1 S2 S3:eg}{k:Nat}{r1 r2:eJ}{e e':List Nat}(h1:lks (bD r2 S2.m++S2.bas S2.m) ((bD r1 S1.m++S1.bas S1.m).map (·.1))=some ((bD r1 S1.m++S1.bas S1.m).map (·.2)))
  (h2:lkE (S1.obj S1.m) (S2.obj S2.m) (S1.obj S1.m)) (h3:gY 1 e r1 r2) (h4:DS C ops S3 (λ rev3=>(⟨bD rev3 S3.m++S3.bas S3.m,S3.obj S3.m⟩:AS).le ⟨bD r1 S1.m++S1.bas S1.m,S1.obj S1.m⟩/\gY 0 e' r1 rev3) ops.toList 0 []) :
  DS C ops S2 (λ rev2=>((⟨bD rev2 S2.m++S2.bas S2.m,S2.obj S2.m⟩:AS).le ⟨bD r1 S1.m++S1.bas S1.m,S1.obj S1.m⟩/\gY 1 e r1 rev2) /\
    DS C ops S3 (λ rev3=>(⟨bD rev3 S3.m++S3.bas S3.m,S3.obj S3.m⟩:AS).le ⟨bD r1 S1.m++S1.bas S1.m,S1.obj S1.m⟩/\gY 0 e' r1 rev3) ops.toList 0 []) [] k r2:=⟨⟨leJ h1 h2,h3⟩,h4⟩
theorem xJ {C:Cx}{ops:Array Oper}{S1 S3:eg}{k:Nat}{r1 r3:eJ}{e':List Nat}(h1:lks (bD r3 S3.m++S3.bas S3.m) ((bD r1 S1.m++S1.bas S1.m).map (·.1))=some ((bD r1 S1.m++S1.bas S1.m).map (·.2)))
  (h2:lkE (S1.obj S1.m) (S3.obj S3.m) (S1.obj S1.m)) (h3:gY 0 e' r1 r3) :
  DS C ops S3 (λ rev3=>(⟨bD rev3 S3.m++S3.bas S3.m,S3.obj S3.m⟩:AS).le ⟨bD r1 S1.m++S1.bas S1.m,S1.obj S1.m⟩/\gY 0 e' r1 rev3) [] k r3:=⟨leJ h1 h2,h3⟩
end Go.Ab
end
