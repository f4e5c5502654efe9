/- Texts of the proof, one behind the other. No statement is proved here. -/
import Derived.Lib.IndexMore
import Derived.Lib.Replace
import Derived.Lib.CountLaws
import Derived.Lib.Join
import Derived.Test.YtjaadgogdbkdfaaGreatDoorCards
import Derived.Test.YtjaadgogdbkdfaaGreatDoorTie
import Derived.WalkKit
import Derived.SizedLaws
import Derived.ProofKit
import Derived.OpenShut
import Derived.ShutString
import Derived.LaidMore
import Derived.Stop.Joined
import Derived.Deep.DeepHandedRow
import Derived.Deep.DeepWitnessRowRef
import Derived.Test.YtjaadgogdbkdfaaGreatDoorZ16Ba
import Derived.Test.YtjaadgogdbkdfaaGreatDoorZ16Bb
import Derived.Test.YtjaadgogdbkdfaaGreatDoorZ16Bc
import Derived.Test.YtjaadgogdbkdfaaGreatDoorZ16Bd
import Derived.Test.YtjaadgogdbkdfaaGreatDoorZ16Be
import Derived.Test.YtjaadgogdbkdfaaGreatDoorZ16Bf
set_option maxHeartbeats 4000000
section
namespace Go.Ab.R06
open Go.Proofs Go.Ab Go.Ab.RB
variable {p:Prop}
theorem vv (h:p:=by
  exact nx 2 Z (eX _ (oi h4).symm (gE Z Z))):p:=h
theorem Bi (h:p:=by
  exact nx 3 Z (mQo (oi h0) (aJ (aS 900000 800000 Z Z Z Z Z) (aJ (aS 900001 800001 Z Z Z Z Z) (aQ _))) Z Z Z Z (sr) ⟨⟨_,Z,⟨sr,sr,sr,sr,sr,trivial⟩⟩,⟨_,Z,⟨sr,sr,trivial⟩⟩,trivial⟩)):p:=h
theorem M8 (h:p:=by
  exact nx 1 Z (mQo (hR0 _ (oi h1).symm) (aQ _) Z Z Z Z (fI ⟨nM _,sr,trivial⟩) ⟨⟨_,Z,⟨sr,sr,sr,sr,sr,trivial⟩⟩,trivial⟩)):p:=h
theorem J9 (h:p:=by
  exact nx 6 Z (mQo (oi h0) (aJ (aS 900000 800000 Z Z Z Z Z) (aJ (aS 900001 800001 Z Z Z Z Z) (aQ _))) Z Z Z Z (sr) ⟨⟨_,Z,⟨sr,sr,sr,sr,sr,trivial⟩⟩,⟨_,Z,⟨sr,sr,trivial⟩⟩,trivial⟩)):p:=h
theorem Oe (h:p:=by exact eX _ (oi h2).symm (dZ (oh ⟨er Z,er Z,er Z,er Z,⟨_,Z,K7 c6.symm⟩,er Z,trivial⟩ ⟨⟨_,Z,⟨sr,sr,trivial⟩⟩,⟨_,Z,⟨sr,sr,sr,trivial⟩⟩,⟨_,Z,⟨sr,sr,trivial⟩⟩,⟨_,Z,⟨sr,sr,sr,sr,sr,trivial⟩⟩,trivial⟩))):p:=h
theorem Nh (h:p:=by exact λ sl UT K hK=>al Z (EC (z:=.agg [eS name_2.C',eL eS r1.1,eL aw Vl.1.B',eL aI Vl.1.By,eI name_2.fAt]) Z Z Z Z (UT _ _ Z) (UT _ _ Z) Z Z Z Z Z hK)):p:=h
theorem Lo (h:p:=by exact λ sl UT K hK=>al Z (yw aI T'.By Z Z Z Z Z Z Z Z (UT _ _ Z) Z Z (UT _ _ Z) Z Z Z Z Z W7 hK)):p:=h
set_option maxRecDepth 4000
attribute [local irreducible] awp iH bu bA cj AV.sub M cN
abbrev mu (v:List af×Int×Int×Int×Bk):List AV:=[.p (eL aE v.1),.p (eI v.2.1),.p (eI v.2.2.1),.p (eI v.2.2.2.1),.p (eS v.2.2.2.2)]
abbrev QJ (v:Int×Int×Bk):List AV:=[.p (eI v.1),.p (eI v.2.1),.p (eS v.2.2)]
abbrev Hh:List AV:=[.p (eI 0),.p (eI 0),.p (eS ([]:Bk)),.p (eS ([]:Bk)),.p (eI 0),.p (eI 0),.p (eS ([]:Bk)),.p (.val (.slice none 0 0)),.p (.val (.slice none 0 0)),.p (.val (.slice none 0 0)),.p (eI 0)]
abbrev wy:List PV:=[eS ([]:Bk),.val (.slice none 0 0),.val (.slice none 0 0),.val (.slice none 0 0),eI 0]
abbrev oj:List AV:=[.p (.val (.slice none 0 0)),.p (.val (.slice none 0 0))]
abbrev sK:List AV:=[.p (eI 0),.p (eI 0),.p (eS ([]:Bk))]
def cv (Sn:aj):Option (af×aj) :=ck ((0:Int)<=Sn.fat/\Sn.fat<(Sn.fl.length:Int))<|some ((lat Sn.fl Sn.fat),Sn)
instance DC (Sn:aj):∀ (r:af×aj),HO (cv Sn=some r) Tryz.prog 36 [.ptr 1000000 0] [(1000000,[.p (eL aE Sn.fl),.p (eI Sn.fat),.p (eI Sn.AI.Ar),.p (eI Sn.AI.fAt),.p (eS Sn.AI.AT)])] (.p (.agg (af.cs r.1))) ([(1000000,[.p (eL aE r.2.fl),.p (eI r.2.fat),.p (eI r.2.AI.Ar),.p (eI r.2.AI.fAt),.p (eS r.2.AI.AT)])]):=by
 refine hO good [] [1000000] Tryz.func36 Z Z λ r h0 _ w0 F=>?_;unfold cv at h0;refine nx 5 Z (cc' h0 λ X7 h0=>?_);refine mG (gE (t:=⟨[(0,.ptr 1000000 0),(2,.ptr 2 0)],[(2,[.p (eI 0),.p (eS ([]:Bk)),.p (eI 0)]),(1000000,[.p (eL aE Sn.fl),.p (eI Sn.fat),.p (eI Sn.AI.Ar),.p (eI Sn.AI.fAt),.p (eS Sn.AI.AT)])]⟩) Z Z) (mSq ⟨1,[10],(λ _=>.none),(λ _=>[(0,.ptr 1000000 0),(2,.ptr 2 0)]),(ob2 ([(2,[.p (eI 0),.p (eS ([]:Bk)),.p (eI 0)]),(1000000,[.p (eL aE Sn.fl),.p (eI Sn.fat),.p (eI Sn.AI.Ar),.p (eI Sn.AI.fAt),.p (eS Sn.AI.AT)])]) (2,[.p (eI ((lat Sn.fl Sn.fat).Ar)),.p (eS ((lat Sn.fl Sn.fat).C')),.p (eI ((lat Sn.fl Sn.fat).fAt))]))⟩ Z ?_);refine dPc (.ptr 1000000 0) Z (dPc (.ptr 1000000 0) Z ?_);refine dPc (.ptr 1000000 0) Z (dPc (.p (eL aE Sn.fl)) Z ?_);refine dPc (.ptr 1000000 0) Z (dPc (.ptr 1000000 0) Z ?_);refine dPc (.ptr 1000000 1) Z (dPc (.p (eI Sn.fat)) Z ?_);refine dO (.rptr (af.cs (lat Sn.fl Sn.fat))) [6,10] Z (λ _ sl UT K hK=>al Z (dh (f:=aE) (l:=Sn.fl) af.cs Z Z Z Z Z Z (UT _ _ Z) Z (UT _ _ Z) X7 af.E' Y hK)) (dPc (.p (.agg (af.cs (lat Sn.fl Sn.fat)))) Z ?_);exact J0
def bS:Nat->(List af)->Int->Int->Int->Bk->Option ((List af)×Int×Int×Int×Bk)|0,_,_,_,_,_=>none|m+1,f10,f11,f12,f13,X8=>(cv (aj.mk f10 f11 (az.mk f12 f13 X8))).bind λ U2=>if U2.1.Ar=5 then ck (inR (U2.2.fat+1))<|bS m U2.2.fl (U2.2.fat+1) U2.2.AI.Ar U2.2.AI.fAt U2.2.AI.AT else some (U2.2.fl,U2.2.fat,U2.2.AI.Ar,U2.2.AI.fAt,U2.2.AI.AT)
def cA (n:Nat)(Sn:aj):Option (Bool×aj) :=(bS n Sn.fl Sn.fat Sn.AI.Ar Sn.AI.fAt Sn.AI.AT).bind λ Y3=>some (decide (Sn.fat<Y3.2.1),(aj.mk Y3.1 Y3.2.1 (az.mk Y3.2.2.1 Y3.2.2.2.1 Y3.2.2.2.2)))
instance zq (n:Nat) (Sn:aj):∀ (r:Bool×aj),HO (cA n Sn=some r) Tryz.prog 68 [.ptr 1000000 0] [(1000000,[.p (eL aE Sn.fl),.p (eI Sn.fat),.p (eI Sn.AI.Ar),.p (eI Sn.AI.fAt),.p (eS Sn.AI.AT)])] (.p (eB r.1)) ([(1000000,[.p (eL aE r.2.fl),.p (eI r.2.fat),.p (eI r.2.AI.Ar),.p (eI r.2.AI.fAt),.p (eS r.2.AI.AT)])]):=by
 refine hO good [] [1000000] Tryz.func68 Z Z λ r h0 _ w0 F=>?_;unfold cA at h0;refine nx 14 Z (bd h0 λ ZN h1 h0=>?_);refine kE 0 ZN (λ Yo=>⟨[(0,.ptr 1000000 0),(3,.p (eI Sn.fat))],[(1000000,(mu Yo))]⟩) ?_ ?_
 ·exact J0
 refine lG (λ (Z8:(List af)×Int×Int×Int×Bk)=>⟨[(0,.ptr 1000000 0),(3,.p (eI Sn.fat))],[(1000000,(mu Z8))]⟩) (λ m (Z8:(List af)×Int×Int×Int×Bk)=>bS m Z8.1 Z8.2.1 Z8.2.2.1 Z8.2.2.2.1 Z8.2.2.2.2) Y (Sn.fl,Sn.fat,Sn.AI.Ar,Sn.AI.fAt,Sn.AI.AT) h1 (gE rfl rfl) ?_;rintro m ⟨f10,f11,f12,f13,X8⟩ h1;replace h1:bS (m+1) f10 f11 f12 f13 X8=some ZN:=h1;rw [bS] at h1;exact aB
def fH (Sn:aj)(s_1:Bk):Option (Bool×aj) :=(cv Sn).bind λ r1=>(if r1.1.Ar=4 then some (decide (r1.1.C'=s_1))else some false).bind λ t4=>some (t4,r1.2)
instance Dy (Sn:aj) (s_1:Bk):∀ (r:Bool×aj),HO (fH Sn s_1=some r) Tryz.prog 69 [.ptr 1000000 0,.p (eS s_1)] [(1000000,[.p (eL aE Sn.fl),.p (eI Sn.fat),.p (eI Sn.AI.Ar),.p (eI Sn.AI.fAt),.p (eS Sn.AI.AT)])] (.p (eB r.1)) ([(1000000,[.p (eL aE r.2.fl),.p (eI r.2.fat),.p (eI r.2.AI.Ar),.p (eI r.2.AI.fAt),.p (eS r.2.AI.AT)])]):=by
 refine hO good [] [1000000] Tryz.func69 Z Z λ r h0 _ w0 F=>?_;unfold fH at h0;have:=js [200];have:=jS 200 Bool λ v=>[(4,.p (eB v))]
 exact J0
def fG (Sn:aj)(k_1:Int)(at_2:Int)(name_3:Bk):Option (Bool×aj) :=some (false,(aj.mk Sn.fl Sn.fat (az.mk k_1 at_2 name_3)))
instance Dv (Sn:aj) (k_1:Int) (at_2:Int) (name_3:Bk):∀ (r:Bool×aj),HO (fG Sn k_1 at_2 name_3=some r) Tryz.prog 72 [.ptr 1000000 0,.p (eI k_1),.p (eI at_2),.p (eS name_3)] [(1000000,[.p (eL aE Sn.fl),.p (eI Sn.fat),.p (eI Sn.AI.Ar),.p (eI Sn.AI.fAt),.p (eS Sn.AI.AT)])] (.p (eB r.1)) ([(1000000,[.p (eL aE r.2.fl),.p (eI r.2.fat),.p (eI r.2.AI.Ar),.p (eI r.2.AI.fAt),.p (eS r.2.AI.AT)])]):=by
 refine hO good [] [1000000] Tryz.func72 Z Z λ r h0 _ w0 F=>?_;unfold fG at h0;exact J0
def aN (O':List ai)(f_1:ai->Option Bool):Nat->Int->Option (Unit⊕Int)|0,_=>none|m+1,t8=>if t8<(O'.length:Int) then ck ((0:Int)<=t8/\t8<(O'.length:Int))<|(f_1 (lat O' t8)).bind λ WV=>if WV=true then some (.inr t8)else ck (inR (t8+1))<|aN O' f_1 m (t8+1)else some (.inl ())
def bZ (n:Nat)(O':List ai)(f_1:ai->Option Bool):Option Int :=jn (aN O' f_1 n 0) λ q16=>some (-1)
theorem iF (n:Nat)(O':List ai)(f_1:ai->Option Bool)(F_f_1:FuncId)(C_f_1:List AV)(K_f_1:AV.mapA.go (λ _=>none) C_f_1=some C_f_1)(E_f_1:∀ vs w,(callFunc F_f_1 vs).run Tryz.prog w=.ok (.enter F_f_1 vs) w)(H_f_1:∀ (x0:ai) r,f_1 x0=some r->ip Tryz.prog F_f_1 ([.p (.agg (ai.cs x0))]++C_f_1) (·=.p (eB r)))(r:Int)(h0:bZ n O' f_1=some r):ip Tryz.prog 124 [.p (eL aw O'),.func (.func F_f_1) C_f_1] (·=.p (eI r)):=by
 unfold bZ at h0;refine tE good Tryz.func124 Z Z Z λ w0=>mP (λ v:Int=>.p (eI v)) ?_;refine nx 8 rfl (oLl (f:=aw) Z Z ?_);refine nx 3 rfl ?_;obtain ⟨o17,h1,Vp,hR0⟩:=bJ h0;refine kEx 0 (λ v18:Unit=>o17=.inl v18) (λ v18=>⟨[],[]⟩) (λ v18 hv=>?_) ?_
 ·exact eW
 refine lG (λ (YA:Int)=>⟨[(0,.p (eL aw O')),(1,.func (.func F_f_1) C_f_1),(7,.p (eI (O'.length:Int))),(8,.p (eI YA))],[]⟩) (λ m (YA:Int)=>aN O' f_1 m YA) Y 0 h1 (gE rfl rfl) ?_;rintro m t8 h1;replace h1:aN O' f_1 (m+1) t8=some o17:=h1;rw [aN] at h1;refine nx 5 rfl (fD [9] h1 rfl (λ c9 h1=>?_) λ c9 h1=>?_)
 ·refine nx 14 Z (oE h1 ai.E' Z Z Y λ Wb h1=>?_);refine nx 1 Z (bd h1 λ WV YT h1=>?_);refine mG (gFn 1 C_f_1 Z (by simp only [uB K_f_1])) (mG (gFn 11 C_f_1 Z (by simp only [uB K_f_1])) ?_);refine mO Z (nF (q:=[.p (.agg (ai.cs (lat O' t8)))]) (H_f_1 (lat O' t8) _ YT) Z Z Z Z K_f_1 Z Z ⟨sr,trivial⟩ E_f_1 Z ?_);exact aB
 exact aB
def bF (n:Nat)(O':List ai)(f_1:ai->Option Bool):Option Bool :=(bZ n O' f_1).bind λ r1=>some (decide (0<=r1))
theorem il (n:Nat)(O':List ai)(f_1:ai->Option Bool)(F_f_1:FuncId)(C_f_1:List AV)(K_f_1:AV.mapA.go (λ _=>none) C_f_1=some C_f_1)(E_f_1:∀ vs w,(callFunc F_f_1 vs).run Tryz.prog w=.ok (.enter F_f_1 vs) w)(H_f_1:∀ (x0:ai) r,f_1 x0=some r->ip Tryz.prog F_f_1 ([.p (.agg (ai.cs x0))]++C_f_1) (·=.p (eB r)))(r:Bool)(h0:bF n O' f_1=some r):ip Tryz.prog 98 [.p (eL aw O'),.func (.func F_f_1) C_f_1] (·=.p (eB r)):=by
 unfold bF at h0;refine tE good Tryz.func98 Z Z Z λ w0=>mP (λ v:Bool=>.p (eB v)) ?_;refine nx 8 Z (bd h0 λ r1 e2 h0=>?_);refine mO Z (qh (iF _ O' f_1 F_f_1 C_f_1 K_f_1 E_f_1 H_f_1 _ e2) Z Z Z Z (dv Z (dv (oJ K_f_1) mY)) ⟨sr,sr,trivial⟩ HE.e Z ?_);exact J0
def cK (a_0:ai)(cap_0:af):Option Bool :=some (decide (a_0.AT=cap_0.C'))
theorem pn (a_0:ai)(cap_0:af)(r:Bool)(h0:cK a_0 cap_0=some r):ip Tryz.prog 99 [.p (.agg (ai.cs a_0)),.rptr (af.cs cap_0)] (·=.p (eB r)):=by
 unfold cK at h0;refine tE good Tryz.func99 Z Z Z λ w0=>mP (λ v:Bool=>.p (eB v)) ?_;exact J0
def bT (Sn:aj):Nat->Int->Int->Option (Unit⊕(Int×aj))|0,_,_=>none|m+1,open23,i24=>jn (ck ((0:Int)<=i24/\i24<(Sn.fl.length:Int))<|(if (lat Sn.fl i24).Ar=6 then some true else if (lat Sn.fl i24).Ar=5 then some (decide (open23=0))else some false).bind λ Zf=>if Zf=true then some (.inr (.inr (i24,Sn)))else if (lat Sn.fl i24).Ar=4 then jn ((if (lat Sn.fl i24).C'=([40]:Bk) then some true else if (lat Sn.fl i24).C'=([91]:Bk) then some true else some (decide ((lat Sn.fl i24).C'=([123]:Bk)))).bind λ t33=>if t33=true then ck (inR (open23+1))<|some (.inl (open23+1))else(if (lat Sn.fl i24).C'=([41]:Bk) then some true else if (lat Sn.fl i24).C'=([93]:Bk) then some true else some (decide ((lat Sn.fl i24).C'=([125]:Bk)))).bind λ t38=>if t38=true then if open23=0 then some (.inr (.inr (.inr (i24,Sn))))else ck (inR (open23-1))<|some (.inl (open23-1))else some (.inl open23) : Option (Int⊕(Int⊕(Unit⊕(Int×aj))))) λ open42=>some (.inl open42)else some (.inl open23) : Option (Int⊕(Unit⊕(Int×aj)))) λ open43=>ck (inR (i24+1))<|bT Sn m open43 (i24+1)
def jx (n:Nat)(Sn:aj):Option (Int×aj) :=jn (bT Sn n 0 Sn.fat) λ WO=>none
instance Bu (n:Nat) (Sn:aj):∀ (r:Int×aj),HO (jx n Sn=some r) Tryz.prog 125 [.ptr 1000000 0] [(1000000,[.p (eL aE Sn.fl),.p (eI Sn.fat),.p (eI Sn.AI.Ar),.p (eI Sn.AI.fAt),.p (eS Sn.AI.AT)])] (.p (eI r.1)) ([(1000000,[.p (eL aE r.2.fl),.p (eI r.2.fat),.p (eI r.2.AI.Ar),.p (eI r.2.AI.fAt),.p (eS r.2.AI.AT)])]):=by
 refine hO good [] [1000000] Tryz.func125 Z Z λ r h0 _ w0 F=>?_;unfold jx at h0;refine nx 17 rfl ?_;obtain ⟨Xr,h1,Vp,hR0⟩:=bJ h0;refine kEx 0 (λ YX:Unit=>Xr=.inl YX) (λ YX=>⟨[],[(1000000,[.p (eL aE Sn.fl),.p (eI Sn.fat),.p (eI Sn.AI.Ar),.p (eI Sn.AI.fAt),.p (eS Sn.AI.AT)])]⟩) (λ YX hv=>?_) ?_
 ·exact Av
 refine lG (λ (q55:Int×Int)=>⟨[(0,.ptr 1000000 0),(3,.p (eI q55.1)),(4,.p (eI q55.2))],[(1000000,[.p (eL aE Sn.fl),.p (eI Sn.fat),.p (eI Sn.AI.Ar),.p (eI Sn.AI.fAt),.p (eS Sn.AI.AT)])]⟩) (λ m (q55:Int×Int)=>bT Sn m q55.1 q55.2) Y (0,Sn.fat) h1 (gE rfl rfl) ?_;rintro m ⟨open23,i24⟩ h1;replace h1:bT Sn (m+1) open23 i24=some Xr:=h1;rw [bT] at h1;refine nx 1 rfl ?_;obtain ⟨o56,h2,hL1,hR1⟩:=bJ h1;refine kX (λ v57:Int=>o56=.inl v57) (λ v57=>⟨[(0,.ptr 1000000 0),(3,.p (eI v57)),(4,.p (eI i24))],[(1000000,[.p (eL aE Sn.fl),.p (eI Sn.fat),.p (eI Sn.AI.Ar),.p (eI Sn.AI.fAt),.p (eS Sn.AI.AT)])]⟩) (λ v57 hv=>?_) ?_
 ·have h1:=hL1 _ hv;exact aB
 refine nx 8 Z (oE h2 af.E' Z Z Y λ WC h2=>?_);refine nx 6 Z (bd h2 λ o58 h3 h2=>?_);refine kN o58 (λ v59=>⟨[(0,.ptr 1000000 0),(3,.p (eI open23)),(4,.p (eI i24)),(5,.ptr 5 0),(30,.p (eB v59))],[(5,(af.cs (lat Sn.fl i24)).map .p),(1000000,[.p (eL aE Sn.fl),.p (eI Sn.fat),.p (eI Sn.AI.Ar),.p (eI Sn.AI.fAt),.p (eS Sn.AI.AT)])]⟩) ?_ ?_
 ·refine nx 1 Z (fB [30] h2 Z (λ c29 h2=>?_) λ c29 h2=>?_)
  ·exact nx 7 Z (mQo (hR0 _ (hR1 _ (oi h2).symm).symm) (aQ _) Z Z Z Z (sr) ⟨⟨_,Z,⟨sr,sr,sr,sr,sr,trivial⟩⟩,trivial⟩)
  refine nx 9 Z (fN [34] h2 Z (λ c30 h2=>?_) λ c30 h2=>?_)
  ·refine nx 7 rfl ?_;obtain ⟨o60,h3,hL2,hR2⟩:=bJ h2;refine kX (λ v61:Int=>o60=.inl v61) (λ v61=>⟨[(0,.ptr 1000000 0),(3,.p (eI v61)),(4,.p (eI i24))],[(1000000,[.p (eL aE Sn.fl),.p (eI Sn.fat),.p (eI Sn.AI.Ar),.p (eI Sn.AI.fAt),.p (eS Sn.AI.AT)])]⟩) (λ v61 hv=>?_) ?_
   ·have h2:=hL2 _ hv;exact dj
   refine nx 2 Z (bd h3 λ o62 h4 h3=>?_);refine kN o62 (λ v63=>⟨[(0,.ptr 1000000 0),(3,.p (eI open23)),(4,.p (eI i24)),(36,.p (eS ((lat Sn.fl i24).C'))),(37,.p (eB v63))],[(1000000,[.p (eL aE Sn.fl),.p (eI Sn.fat),.p (eI Sn.AI.Ar),.p (eI Sn.AI.fAt),.p (eS Sn.AI.AT)])]⟩) ?_ ?_
   ·refine nx 1 Z (fB [37] h3 Z (λ c34 h3=>?_) λ c34 h3=>?_)
    ·refine nx 3 Z (oA h3 Z Z λ X6 h3=>?_);exact ry
    refine nx 2 Z (bd h3 λ o64 h4 h3=>?_);refine kN o64 (λ v65=>⟨[(0,.ptr 1000000 0),(3,.p (eI open23)),(4,.p (eI i24)),(43,.p (eB v65))],[(1000000,[.p (eL aE Sn.fl),.p (eI Sn.fat),.p (eI Sn.AI.Ar),.p (eI Sn.AI.fAt),.p (eS Sn.AI.AT)])]⟩) ?_ ?_
    ·refine nx 1 Z (fB [43] h3 Z (λ YU h3=>?_) λ YU h3=>?_)
     ·refine nx 7 Z (fD [48] h3 Z (λ c40 h3=>?_) λ c40 h3=>?_)
      ·exact nx 7 Z (mQo (hR0 _ (hR1 _ (hR2 _ (oi h3).symm).symm).symm) (aQ _) Z Z Z Z (sr) ⟨⟨_,Z,⟨sr,sr,sr,sr,sr,trivial⟩⟩,trivial⟩)
      refine nx 4 Z (oA h3 Z Z λ W6 h3=>?_);exact ry
     exact ry
    refine nx 2 Z (oS Z Z ?_);refine nx 2 Z (fD [43,44] h4 Z (λ YV h4=>?_) λ YV h4=>?_)
    ·exact vv
    refine nx 3 Z (oS Z Z ?_);refine nx 2 Z (fD [43,45] h4 Z (λ c37 h4=>?_) λ c37 h4=>?_)
    ·exact vv
    refine nx 2 Z (oS Z Z ?_);exact vv
   refine nx 2 Z (oS Z Z ?_);refine nx 2 Z (fD [37,38] h4 Z (λ ZA h4=>?_) λ ZA h4=>?_)
   ·exact vv
   refine nx 3 Z (oS Z Z ?_);refine nx 2 Z (fD [37,39] h4 Z (λ c32 h4=>?_) λ c32 h4=>?_)
   ·exact vv
   refine nx 2 Z (oS Z Z ?_);exact vv
  exact dj
 refine nx 5 Z (fD [21,22] h3 Z (λ c26 h3=>?_) λ c26 h3=>?_)
 ·exact nx 9 Z pY
 refine nx 4 Z (fD [25,26] h3 Z (λ c27 h3=>?_) λ c27 h3=>?_)
 ·exact tu
 exact tu
def fe (n:Nat)(Sn:aj):Option (ab×Bool×aj) :=(jx n Sn).bind λ r1=>ck ((0:Int)<=r1.2.fat/\r1.2.fat<=r1.1/\r1.1<=(r1.2.fl.length:Int))<|ck ((sub r1.2.fl r1.2.fat r1.1).length*32<=140737488355328)<|ck ((0:Int)<=r1.1/\r1.1<(r1.2.fl.length:Int))<|ck (((sub r1.2.fl r1.2.fat r1.1).length+([(af.mk 6 ([]:Bk) ((lat r1.2.fl r1.1).fAt))]).length)*32<=140737488355328)<|(qq n ((sub r1.2.fl r1.2.fat r1.1)++([(af.mk 6 ([]:Bk) ((lat r1.2.fl r1.1).fAt))])) 0).bind λ r7=>if r7.2.2.Ar=0 then ck (inR (r1.2.fat+r7.2.1))<|some (r7.1,true,(aj.mk r1.2.fl (r1.2.fat+r7.2.1) r1.2.AI))else some (r7.1,false,(aj.mk r1.2.fl r1.2.fat r7.2.2))
instance yA (n:Nat) (Sn:aj):∀ (r:ab×Bool×aj),HO (fe n Sn=some r) Tryz.prog 100 [.ptr 1000000 0] [(1000000,[.p (eL aE Sn.fl),.p (eI Sn.fat),.p (eI Sn.AI.Ar),.p (eI Sn.AI.fAt),.p (eS Sn.AI.AT)])] (.tuple [.p (.agg (ab.cs r.1)),.p (eB r.2.1)]) ([(1000000,[.p (eL aE r.2.2.fl),.p (eI r.2.2.fat),.p (eI r.2.2.AI.Ar),.p (eI r.2.2.AI.fAt),.p (eS r.2.2.AI.AT)])]):=by
 refine hO good [] [1000000] Tryz.func100 Z Z λ r h0 _ w0 F=>?_;unfold fe at h0;refine nx 8 Z (K0 λ r1 h0=>?_);refine nx 3 Z (cc' h0 λ Xt h0=>?_);refine cc' h0 λ XP h0=>cc' h0 λ X4 h0=>cc' h0 λ ZQ h0=>mG (gE (t:=⟨[(0,.ptr 1000000 0),(2,.ptr 2 0),(4,.p (eI r1.1))],[(2,Hh),(1000000,(aj.cs r1.2).map .p)]⟩) Z Z) (mSq ⟨2,[10,21],(by3 (.some (dk [] 102000 102001)) (.some λ i=>Nat.beq i 102000||Nat.beq i 32) .none),(λ _=>[(0,.ptr 1000000 0),(2,.ptr 2 0),(4,.p (eI r1.1))]),(λ _=>[(2,Hh),(1000000,[.p (eL aE r1.2.fl),.p (eI r1.2.fat),.p (eI r1.2.AI.Ar),.p (eI r1.2.AI.fAt),.p (eS r1.2.AI.AT)])])⟩ Z ?_);refine dPc (.ptr 1000000 0) Z (dPc (.ptr 1000000 0) Z ?_);refine dPc (.ptr 1000000 0) Z (dPc (.p (eL aE r1.2.fl)) Z ?_);refine dPc (.ptr 1000000 0) Z (dPc (.ptr 1000000 0) Z ?_);refine dPc (.ptr 1000000 1) Z (dPc (.p (eI r1.2.fat)) Z ?_);refine dPc (.p (eI r1.1)) Z (dO (.p (eL aE (sub r1.2.fl r1.2.fat r1.1))) [14,18,19] Z (λ _ sl UT K hK=>al Z (sc (f:=aE) (l:=r1.2.fl) Z Z Z Z Z Z (UT _ _ Z) Z xk yz Xt (λ x=>congrArg List.length (af.E' x)) hK)) ?_);refine dI (by3 (.vec 102000 3 0 ((sub r1.2.fl r1.2.fat r1.1).map aE)) (.vec 102000 3 0 ((sub r1.2.fl r1.2.fat r1.1).map aE)) (.p (eL aE (sub r1.2.fl r1.2.fat r1.1)))) [20] Z (λ sl UT K hK=>al Z (bq [] [] 102000 102001 (kr (sub r1.2.fl r1.2.fat r1.1) XP) Z Z Z (aG (UT _ _ Z) bp) Z ⟨sr,trivial⟩ Z Z trivial Z Z Z Z Z Z Z Z HE.e Z Z hK)) (dPc (.ptr 1000000 0) Z ?_);refine dPc (.ptr 1000000 0) Z (dPc (.ptr 1000000 0) Z ?_);refine dPc (.p (eL aE r1.2.fl)) Z (dPc (.p (eI r1.1)) Z ?_);refine dO (.rptr (af.cs (lat r1.2.fl r1.1))) [25,26] Z (λ _ sl UT K hK=>al Z (dh (f:=aE) (l:=r1.2.fl) af.cs Z Z Z Z Z Z (UT _ _ Z) Z (UT _ _ Z) X4 af.E' Y hK)) (dPc (.rptr (List.drop 2 (af.cs (lat r1.2.fl r1.1)))) Z ?_);refine dPc (.p (eI ((lat r1.2.fl r1.1).fAt))) Z (dPc (.p (.agg [eI 6,eS ([]:Bk),eI ((lat r1.2.fl r1.1).fAt)])) Z ?_);refine dO (.p (eL aE ([(af.mk 6 ([]:Bk) ((lat r1.2.fl r1.1).fAt))]))) [30] Z (λ _ sl UT K hK=>al Z (bn aE [(af.mk 6 ([]:Bk) ((lat r1.2.fl r1.1).fAt))] Z Z Z Z Z Z (dz (UT _ _ Z) Z fp) Z Z Z Z Z Z Fs hK)) (dI (λ _=>.vec 32 3 0 (((sub r1.2.fl r1.2.fat r1.1)++([(af.mk 6 ([]:Bk) ((lat r1.2.fl r1.1).fAt))])).map aE)) [21,31] Z (λ sl UT K hK=>al Z (fY aE (sub r1.2.fl r1.2.fat r1.1) ([(af.mk 6 ([]:Bk) ((lat r1.2.fl r1.1).fAt))]) Z Z Z Z Z Z Z Z (UT _ _ Z) Z Z (UT _ _ Z) Z (λ x=>congrArg List.length (af.E' x)) Z Z Z Z ZQ hK)) ?_);refine pu (λ _=>.vec 32 3 0 (((sub r1.2.fl r1.2.fat r1.1)++([(af.mk 6 ([]:Bk) ((lat r1.2.fl r1.1).fAt))])).map aE)) Z Z Z (SS Z Z Y) (lt2 Y (nl Z)) (fX [(32,_)] ⟨.inr ⟨21,_,Z,Z,Z⟩,trivial⟩ AX (ga Z (ga Z j7))) (d5 ?_);exact J0
def iu (n:Nat)(Sn:aj)(T':av)(name_2:af):Option (Bool×aj×av) :=ck (inR (Sn.fat+1))<|(bF n T'.B' (λ x0=>cK x0 name_2)).bind λ r3=>if r3=true then(fG (aj.mk Sn.fl (Sn.fat+1) Sn.AI) 8 name_2.fAt name_2.C').bind λ r6=>some (r6.1,r6.2,(av.mk T'.B' T'.By))else(fe n (aj.mk Sn.fl (Sn.fat+1) Sn.AI)).bind λ r8=>ck ((T'.B'.length+[(ai.mk name_2.C' r8.1 name_2.fAt)].length)*184<=140737488355328)<|some (r8.2.1,r8.2.2,(av.mk (T'.B'++[(ai.mk name_2.C' r8.1 name_2.fAt)]) T'.By))
instance yL (n:Nat) (Sn:aj) (T':av) (name_2:af):∀ (r:Bool×aj×av),HO (iu n Sn T' name_2=some r) Tryz.prog 70 [.ptr 1000000 0,.ptr 1000001 0,.p (.agg (af.cs name_2))] [(1000000,[.p (eL aE Sn.fl),.p (eI Sn.fat),.p (eI Sn.AI.Ar),.p (eI Sn.AI.fAt),.p (eS Sn.AI.AT)]),(1000001,[.vec 900000 13 0 (T'.B'.map aw),.vec 900001 5 0 (T'.By.map aI)])] (.p (eB r.1)) ([(1000000,[.p (eL aE r.2.1.fl),.p (eI r.2.1.fat),.p (eI r.2.1.AI.Ar),.p (eI r.2.1.AI.fAt),.p (eS r.2.1.AI.AT)]),(1000001,[.vec 2000000 13 0 (r.2.2.B'.map aw),.vec 2000001 5 0 (r.2.2.By.map aI)])]):=by
 refine hO good [800000,800001] [1000000,1000001] Tryz.func70 Z Z λ r h0 _ w0 F=>?_;unfold iu at h0;refine nx 11 Z (oA h0 Z Z λ X7 h0=>?_);refine nx 11 Z (mG (yJ 5 (cs:=af.cs name_2) Z Z Z) ?_);refine mO Z (vR Z Z Z Z ?_);refine bd h0 λ r3 e4 h0=>mO Z (qh (il _ T'.B' (λ x0=>cK x0 name_2) 99 [.rptr (af.cs name_2)] Z HE.e (λ x0 r h=>pn x0 name_2 r h) _ e4) Z Z Z Z (dv Z (dv (oJ Z) mY)) ⟨sr,sr,trivial⟩ HE.e Z ?_);refine nx 1 Z (fB [21] h0 Z (λ c5 h0=>?_) λ c5 h0=>?_)
 ·refine nx 8 Z (K0 λ r6 h0=>?_);exact Bi
 refine nx 5 Z (K0 λ r8 h0=>?_);refine nx 8 Z (cc' h0 λ Wb h0=>?_);refine mG (gE (t:=⟨[(1,.ptr 1000001 0),(5,.rptr (af.cs name_2)),(7,.ptr 7 0),(8,.p (eB r8.2.1))],[(7,(ab.cs r8.1).map .p),(1000000,(aj.cs r8.2.2).map .p),(1000001,[.vec 900000 13 0 (T'.B'.map aw),.vec 900001 5 0 (T'.By.map aI)])]⟩) Z Z) (mSq ⟨2,[12,15],(by3 (.some λ i=>Nat.beq i 900000||Nat.beq i 45) .none .none),(λ _=>[(1,.ptr 1000001 0),(5,.rptr (af.cs name_2)),(7,.ptr 7 0),(8,.p (eB r8.2.1))]),(by3 ([(7,[.p (eI r8.1.Ar),.p (eI r8.1.fOp),.p (eS r8.1.AT),.p (eS r8.1.It),.p (eI r8.1.BY.Ar),.p (eI r8.1.BY.G'),.p (eS r8.1.BY.D'),.p (eL cn r8.1.BY.Gw),.p (eL eS r8.1.BY.F'),.p (eL ao r8.1.A'),.p (eI r8.1.fAt)]),(1000000,[.p (eL aE r8.2.2.fl),.p (eI r8.2.2.fat),.p (eI r8.2.2.AI.Ar),.p (eI r8.2.2.AI.fAt),.p (eS r8.2.2.AI.AT)]),(1000001,[.vec 900000 13 0 (T'.B'.map aw),.vec 900001 5 0 (T'.By.map aI)])]) ([(7,[.p (eI r8.1.Ar),.p (eI r8.1.fOp),.p (eS r8.1.AT),.p (eS r8.1.It),.p (eI r8.1.BY.Ar),.p (eI r8.1.BY.G'),.p (eS r8.1.BY.D'),.p (eL cn r8.1.BY.Gw),.p (eL eS r8.1.BY.F'),.p (eL ao r8.1.A'),.p (eI r8.1.fAt)]),(1000000,[.p (eL aE r8.2.2.fl),.p (eI r8.2.2.fat),.p (eI r8.2.2.AI.Ar),.p (eI r8.2.2.AI.fAt),.p (eS r8.2.2.AI.AT)]),(1000001,[.p (eL aw T'.B'),.vec 900001 5 0 (T'.By.map aI)])]) ([(1000001,[.vec 45 13 0 ((T'.B'++[(ai.mk name_2.C' r8.1 name_2.fAt)]).map aw),.vec 900001 5 0 (T'.By.map aI)]),(7,[.p (eI r8.1.Ar),.p (eI r8.1.fOp),.p (eS r8.1.AT),.p (eS r8.1.It),.p (eI r8.1.BY.Ar),.p (eI r8.1.BY.G'),.p (eS r8.1.BY.D'),.p (eL cn r8.1.BY.Gw),.p (eL eS r8.1.BY.F'),.p (eL ao r8.1.A'),.p (eI r8.1.fAt)]),(1000000,[.p (eL aE r8.2.2.fl),.p (eI r8.2.2.fat),.p (eI r8.2.2.AI.Ar),.p (eI r8.2.2.AI.fAt),.p (eS r8.2.2.AI.AT)]),(1000001,[.p (eL aw T'.B'),.vec 900001 5 0 (T'.By.map aI)])]))⟩ Z ?_);refine dPc (.ptr 1000001 0) Z (dPc (.ptr 1000001 0) Z ?_);refine dPc (.ptr 1000001 0) Z (dPc (.ptr 1000001 0) Z ?_);refine dP (by3 (.vec 900000 13 0 (T'.B'.map aw)) (.p (eL aw T'.B')) (.p (eL aw T'.B'))) Z (dPc (.rptr (List.drop 1 (af.cs name_2))) Z ?_);refine dPc (.p (eS name_2.C')) Z (dPc (.p (.agg (ab.cs r8.1))) Z ?_);refine dPc (.rptr (List.drop 2 (af.cs name_2))) Z (dPc (.p (eI name_2.fAt)) Z ?_);refine dPc (.p (.agg [eS name_2.C',eI r8.1.Ar,eI r8.1.fOp,eS r8.1.AT,eS r8.1.It,eI r8.1.BY.Ar,eI r8.1.BY.G',eS r8.1.BY.D',eL cn r8.1.BY.Gw,eL eS r8.1.BY.F',eL ao r8.1.A',eI r8.1.fAt,eI name_2.fAt])) Z (dO (.p (eL aw [(ai.mk name_2.C' r8.1 name_2.fAt)])) [43] Z (λ _ sl UT K hK=>al Z (bn aw [(ai.mk name_2.C' r8.1 name_2.fAt)] Z Z Z Z Z Z (dz (UT _ _ Z) Z fp) Z Z Z Z Z Z Ly hK)) ?_);refine dI (λ _=>.vec 45 13 0 ((T'.B'++[(ai.mk name_2.C' r8.1 name_2.fAt)]).map aw)) [37,44] Z (λ sl UT K hK=>al Z (fY aw T'.B' [(ai.mk name_2.C' r8.1 name_2.fAt)] Z Z Z Z Z Z Z Z (UT _ _ Z) Z Z (UT _ _ Z) Z (λ x=>congrArg List.length (ai.E' x)) Z Z Z Z Wb hK)) (dPc (.ptr 1000001 0) Z ?_);refine dPc (.ptr 1000001 0) Z (dS Z ?_);refine d5 (nx 7 Z ?_);exact mQo (oi h0) (aJ (aS 45 800000 Z Z Z Z Z) (aJ (aS 900001 800001 Z Z Z Z Z) (aQ _))) Z Z Z Z (sr) ⟨⟨_,Z,⟨sr,sr,sr,sr,sr,trivial⟩⟩,⟨_,Z,⟨sr,sr,trivial⟩⟩,trivial⟩
def eG (Sn:aj):Option (Bool×aj) :=(cv Sn).bind λ r1=>if r1.1.Ar=6 then(fG r1.2 40 r1.1.fAt ([]:Bk)).bind λ r4=>some (r4.1,r4.2)else(fG r1.2 2 r1.1.fAt ([]:Bk)).bind λ r6=>some (r6.1,r6.2)
instance Dk (Sn:aj):∀ (r:Bool×aj),HO (eG Sn=some r) Tryz.prog 37 [.ptr 1000000 0] [(1000000,[.p (eL aE Sn.fl),.p (eI Sn.fat),.p (eI Sn.AI.Ar),.p (eI Sn.AI.fAt),.p (eS Sn.AI.AT)])] (.p (eB r.1)) ([(1000000,[.p (eL aE r.2.fl),.p (eI r.2.fat),.p (eI r.2.AI.Ar),.p (eI r.2.AI.fAt),.p (eS r.2.AI.AT)])]):=by
 refine hO good [] [1000000] Tryz.func37 Z Z λ r h0 _ w0 F=>?_;unfold eG at h0;exact J0
def cE (n:Nat):Nat->(List Bk)->(List af)->Int->Int->Int->Bk->Option (((List Bk)×(List af)×Int×Int×Int×Bk)⊕((List Bk)×Bool×aj))|0,_,_,_,_,_,_=>none|m+1,VK,XA,f33,f34,V3,V9=>(cv (aj.mk XA f33 (az.mk f34 V3 V9))).bind λ Y0=>if Y0.1.Ar=3 then(cv Y0.2).bind λ Wy=>(strings_Contains Wy.1.C' ([36,123]:Bk)).bind λ V2=>if V2=true then(eG Wy.2).bind λ Ws=>some (.inr ([],Ws.1,Ws.2))else ck (([34]:Bk).length+Wy.1.C'.length<=9223372036854775807)<|ck ((([34]:Bk)++Wy.1.C').length+([34]:Bk).length<=9223372036854775807)<|(gW n ((([34]:Bk)++Wy.1.C')++([34]:Bk))).bind λ Wa=>if Wa.2.2=0 then(strings_Contains Wa.1 ([36,123]:Bk)).bind λ WJ=>if WJ=true then(eG Wy.2).bind λ Xb=>some (.inr ([],Xb.1,Xb.2))else ck ((VK.length+[Wa.1].length)*16<=140737488355328)<|ck (inR (Wy.2.fat+1))<|cE n m (VK++[Wa.1]) Wy.2.fl (Wy.2.fat+1) Wy.2.AI.Ar Wy.2.AI.fAt Wy.2.AI.AT else(fG Wy.2 Wa.2.2 Wy.1.fAt ([]:Bk)).bind λ r52=>some (.inr ([],r52.1,r52.2))else some (.inl (VK,Y0.2.fl,Y0.2.fat,Y0.2.AI.Ar,Y0.2.AI.fAt,Y0.2.AI.AT))
def jA (n:Nat)(Sn:aj):Option ((List Bk)×Bool×aj) :=jn (cE n n [] Sn.fl Sn.fat Sn.AI.Ar Sn.AI.fAt Sn.AI.AT) λ Xw=>some (Xw.1,true,(aj.mk Xw.2.1 Xw.2.2.1 (az.mk Xw.2.2.2.1 Xw.2.2.2.2.1 Xw.2.2.2.2.2)))
instance Bt (n:Nat) (Sn:aj):∀ (r:(List Bk)×Bool×aj),HO (jA n Sn=some r) Tryz.prog 101 [.ptr 1000000 0] [(1000000,[.p (eL aE Sn.fl),.p (eI Sn.fat),.p (eI Sn.AI.Ar),.p (eI Sn.AI.fAt),.p (eS Sn.AI.AT)])] (.tuple [.p (eL eS r.1),.p (eB r.2.1)]) ([(1000000,[.p (eL aE r.2.2.fl),.p (eI r.2.2.fat),.p (eI r.2.2.AI.Ar),.p (eI r.2.2.AI.fAt),.p (eS r.2.2.AI.AT)])]):=by
 refine hO good [] [1000000] Tryz.func101 Z Z λ r h0 _ w0 F=>?_;unfold jA at h0;refine nx 11 rfl ?_;obtain ⟨o74,h1,Vp,hR0⟩:=bJ h0;refine kEx 0 (λ v75:(List Bk)×(List af)×Int×Int×Int×Bk=>o74=.inl v75) (λ v75=>⟨[(4,.vec 43 1 0 (v75.1.map eS))],[(1000000,(mu v75.2))]⟩) (λ v75 hv=>?_) ?_
 ·exact eW
 refine lG (λ (Zh:(List Bk)×(List af)×Int×Int×Int×Bk)=>⟨[(0,.ptr 1000000 0),(4,.vec 43 1 0 (Zh.1.map eS))],[(1000000,(mu Zh.2))]⟩) (λ m (Zh:(List Bk)×(List af)×Int×Int×Int×Bk)=>cE n m Zh.1 Zh.2.1 Zh.2.2.1 Zh.2.2.2.1 Zh.2.2.2.2.1 Zh.2.2.2.2.2) Y ([],Sn.fl,Sn.fat,Sn.AI.Ar,Sn.AI.fAt,Sn.AI.AT) h1 (dZ (oh ⟨er rfl,⟨_,rfl,AV.sub_nilvec _ _ _⟩,trivial⟩ ⟨⟨_,rfl,⟨sr,sr,sr,sr,sr,trivial⟩⟩,trivial⟩)) ?_;rintro m ⟨VK,XA,f33,f34,V3,V9⟩ h1;replace h1:cE n (m+1) VK XA f33 f34 V3 V9=some o74:=h1;rw [cE] at h1;refine nx 4 rfl (K1 λ Y0 h1=>?_);refine nx 3 rfl (fD [12] h1 rfl (λ YU h1=>?_) λ YU h1=>?_)
 ·refine nx 6 Z (K1 λ Wy h1=>?_);refine nx 8 Z (bd h1 λ V2 e43 h1=>?_);refine oK (kz Wy.1.C' ([36,123]:Bk) _ e43) Z ⟨sr,sr,trivial⟩ HE.e Z (nx 1 Z ?_);refine fB [17] h1 Z (λ Zz h1=>?_) λ Zz h1=>?_
  ·refine nx 4 Z (K1 λ Ws h1=>?_);exact nx 4 Z (mQo (hR0 _ (oi h1).symm) (aQ _) Z Z Z Z (fI ⟨nM _,sr,trivial⟩) ⟨⟨_,Z,⟨sr,sr,sr,sr,sr,trivial⟩⟩,trivial⟩)
  refine nx 6 Z (oC h1 Z λ YO h1=>?_);refine oC h1 Z λ XD h1=>bd h1 λ Wa e50 h1=>oK (HP.c e50) Z ⟨sr,trivial⟩ HE.e Z (nx 14 Z ?_);refine fN [30] h1 Z (λ c51 h1=>?_) λ c51 h1=>?_
  ·refine nx 6 Z (bd h1 λ WJ e55 h1=>?_);refine oK (kz Wa.1 ([36,123]:Bk) _ e55) Z ⟨sr,sr,trivial⟩ HE.e Z (nx 1 Z ?_);refine fB [37] h1 Z (λ c56 h1=>?_) λ c56 h1=>?_
   ·refine nx 4 Z (K1 λ Xb h1=>?_);refine nx 3 Z (mG (gE (t:=⟨[(2,.p (.val (.slice none 0 0))),(3,.p (eB Xb.1))],[(1000000,(aj.cs Xb.2).map .p)]⟩) Z Z) ?_);exact M8
   refine nx 2 Z (mG (gE (t:=⟨[(0,.ptr 1000000 0),(4,.vec 43 1 0 (VK.map eS)),(6,.p (eS Wa.1))],[(1000000,(aj.cs Wy.2).map .p)]⟩) Z Z) ?_);refine nx 4 Z (mO Z (bn eS [Wa.1] Z Z Z Z Z Z Z Z Z Z Z Z Z Z ?_));refine cc' h1 λ X2 h1=>mO Z (fY eS VK [Wa.1] Z Z Z Z Z Z Z Z Z Z Z Z Z Y Z Z Z Z X2 ?_);exact aB
  refine nx 7 Z (K1 λ r52 h1=>?_);refine nx 3 Z (mG (gE (t:=⟨[(2,.p (.val (.slice none 0 0))),(3,.p (eB r52.1))],[(1000000,(aj.cs r52.2).map .p)]⟩) Z Z) ?_);exact M8
 exact aB
def cg (n:Nat)(VJ:aj->av->af->Int->Option (Bool×aj×av))(Sm:Int):Nat->(List ai)->(List au)->(List af)->Int->Int->Int->Bk->Option (((List ai)×(List au)×(List af)×Int×Int×Int×Bk)⊕(av×Bool×aj))|0,_,_,_,_,_,_,_=>none|m+1,V3,V9,VW,VL,Wx,VY,WB=>(cv (aj.mk VW VL (az.mk Wx VY WB))).bind λ V2=>if V2.1.Ar=1 then(cv V2.2).bind λ Ws=>ck (inR (Ws.2.fat+1))<|((fH (aj.mk Ws.2.fl (Ws.2.fat+1) Ws.2.AI) ([61]:Bk)).bind λ WT=>if WT.1=true then(iu n WT.2 (av.mk V3 V9) Ws.1).bind λ VO=>some (VO.1,VO.2.2.B',VO.2.2.By,VO.2.1.fl,VO.2.1.fat,VO.2.1.AI.Ar,VO.2.1.AI.fAt,VO.2.1.AI.AT)else(VJ WT.2 (av.mk V3 V9) Ws.1 Sm).bind λ V'=>some (V'.1,V'.2.2.B',V'.2.2.By,V'.2.1.fl,V'.2.1.fat,V'.2.1.AI.Ar,V'.2.1.AI.fAt,V'.2.1.AI.AT)).bind λ Xd=>if (!Xd.1)=true then some (.inr ((av.mk Xd.2.1 Xd.2.2.1),false,(aj.mk Xd.2.2.2.1 Xd.2.2.2.2.1 (az.mk Xd.2.2.2.2.2.1 Xd.2.2.2.2.2.2.1 Xd.2.2.2.2.2.2.2))))else(cA n (aj.mk Xd.2.2.2.1 Xd.2.2.2.2.1 (az.mk Xd.2.2.2.2.2.1 Xd.2.2.2.2.2.2.1 Xd.2.2.2.2.2.2.2))).bind λ Xp=>if (!Xp.1)=true then some (.inl (Xd.2.1,Xd.2.2.1,Xp.2.fl,Xp.2.fat,Xp.2.AI.Ar,Xp.2.AI.fAt,Xp.2.AI.AT))else cg n VJ Sm m Xd.2.1 Xd.2.2.1 Xp.2.fl Xp.2.fat Xp.2.AI.Ar Xp.2.AI.fAt Xp.2.AI.AT else some (.inl (V3,V9,V2.2.fl,V2.2.fat,V2.2.AI.Ar,V2.2.AI.fAt,V2.2.AI.AT))
mutual
def fh:Nat->aj->Int->Option (av×Bool×aj)|0,_,_=>none|n+1,Sn,Sm=>(cA n Sn).bind λ r1=>jn (cg n (d6 n) Sm n [] [] r1.2.fl r1.2.fat r1.2.AI.Ar r1.2.AI.fAt r1.2.AI.AT) λ WM=>some ((av.mk WM.1 WM.2.1),true,(aj.mk WM.2.2.1 WM.2.2.2.1 (az.mk WM.2.2.2.2.1 WM.2.2.2.2.2.1 WM.2.2.2.2.2.2)))
def d6:Nat->aj->av->af->Int->Option (Bool×aj×av)|0,_,_,_,_=>none|n+1,Sn,T',name_2,VZ=>(jA n Sn).bind λ r1=>if (!r1.2.1)=true then some (false,r1.2.2,(av.mk T'.B' T'.By))else(fH r1.2.2 ([123]:Bk)).bind λ r4=>if (!r4.1)=true then(eG r4.2).bind λ r7=>some (r7.1,r7.2,(av.mk T'.B' T'.By))else if 32<=VZ then(fG r4.2 4 name_2.fAt ([]:Bk)).bind λ Vg=>some (Vg.1,Vg.2,(av.mk T'.B' T'.By))else ck (inR (r4.2.fat+1))<|ck (inR (VZ+1))<|((fh n) (aj.mk r4.2.fl (r4.2.fat+1) r4.2.AI) (VZ+1)).bind λ Vl=>if (!Vl.2.1)=true then some (false,Vl.2.2,(av.mk T'.B' T'.By))else(fH Vl.2.2 ([125]:Bk)).bind λ Vq=>if (!Vq.1)=true then(eG Vq.2).bind λ VH=>some (VH.1,VH.2,(av.mk T'.B' T'.By))else ck (inR (Vq.2.fat+1))<|ck ((T'.By.length+1)*96<=140737488355328)<|some (true,(aj.mk Vq.2.fl (Vq.2.fat+1) Vq.2.AI),(av.mk T'.B' (T'.By++[(au.mk name_2.C' r1.1 Vl.1 name_2.fAt)])))
end
theorem rh (n:Nat):(∀ (Sn:aj) (Sm:Int) (r:av×Bool×aj),HO (fh n Sn Sm=some r) Tryz.prog 35 [.ptr 1000000 0,.p (eI Sm)] [(1000000,[.p (eL aE Sn.fl),.p (eI Sn.fat),.p (eI Sn.AI.Ar),.p (eI Sn.AI.fAt),.p (eS Sn.AI.AT)])] (.tuple [.p (.agg (av.cs r.1)),.p (eB r.2.1)]) ([(1000000,[.p (eL aE r.2.2.fl),.p (eI r.2.2.fat),.p (eI r.2.2.AI.Ar),.p (eI r.2.2.AI.fAt),.p (eS r.2.2.AI.AT)])]))/\(∀ (Sn:aj) (T':av) (name_2:af) (VZ:Int) (r:Bool×aj×av),HO (d6 n Sn T' name_2 VZ=some r) Tryz.prog 71 [.ptr 1000000 0,.ptr 1000001 0,.p (.agg (af.cs name_2)),.p (eI VZ)] [(1000000,[.p (eL aE Sn.fl),.p (eI Sn.fat),.p (eI Sn.AI.Ar),.p (eI Sn.AI.fAt),.p (eS Sn.AI.AT)]),(1000001,[.vec 900000 13 0 (T'.B'.map aw),.vec 900001 5 0 (T'.By.map aI)])] (.p (eB r.1)) ([(1000000,[.p (eL aE r.2.1.fl),.p (eI r.2.1.fat),.p (eI r.2.1.AI.Ar),.p (eI r.2.1.AI.fAt),.p (eS r.2.1.AI.AT)]),(1000001,[.vec 2000000 13 0 (r.2.2.B'.map aw),.vec 2000001 5 0 (r.2.2.By.map aI)])])):=by
 induction n with
 | zero=>exact Zr
 | succ n ih=>
 obtain ⟨_,_⟩:=ih;refine ⟨?_,?_⟩
 ·refine λ Sn Sm=>hO good [] [1000000] Tryz.func35 Z Z λ r h0 _ w0 F=>?_;rw [fh] at h0;refine nx 12 rfl (bd h0 λ r1 e2 h0=>?_);refine mO rfl (cVq [1000000] [] 101000 101000 (HO.c e2) HE.e rfl ?_);refine nx 3 rfl ?_;obtain ⟨o83,h1,Vp,hR0⟩:=bJ h0;refine kEx 0 (λ ZC:(List ai)×(List au)×(List af)×Int×Int×Int×Bk=>o83=.inl ZC) (λ ZC=>⟨[(4,.ptr 4 0),(6,.ptr 6 0)],[(4,oj),(6,[.vec 112000 13 0 (ZC.1.map aw),.vec 112001 5 0 (ZC.2.1.map aI)]),(1000000,(mu ZC.2.2))]⟩) (λ ZC hv=>?_) ?_
  ·exact eW
  refine lG (λ (Yw:(List ai)×(List au)×(List af)×Int×Int×Int×Bk)=>⟨[(0,.ptr 1000000 0),(1,.p (eI Sm)),(4,.ptr 4 0),(6,.ptr 6 0)],[(4,oj),(6,[.vec 106000 13 0 (Yw.1.map aw),.vec 106001 5 0 (Yw.2.1.map aI)]),(1000000,(mu Yw.2.2))]⟩) (λ m (Yw:(List ai)×(List au)×(List af)×Int×Int×Int×Bk)=>cg n (d6 n) Sm m Yw.1 Yw.2.1 Yw.2.2.1 Yw.2.2.2.1 Yw.2.2.2.2.1 Yw.2.2.2.2.2.1 Yw.2.2.2.2.2.2) Y ([],[],r1.2.fl,r1.2.fat,r1.2.AI.Ar,r1.2.AI.fAt,r1.2.AI.AT) h1 (dZ (oh ⟨er rfl,er rfl,er rfl,er rfl,trivial⟩ ⟨⟨_,rfl,⟨sr,sr,trivial⟩⟩,⟨_,rfl,⟨AV.sub_nilvec _ _ _,AV.sub_nilvec _ _ _,trivial⟩⟩,⟨_,rfl,⟨sr,sr,sr,sr,sr,trivial⟩⟩,trivial⟩)) ?_;rintro m ⟨V3,V9,VW,VL,Wx,VY,WB⟩ h1;replace h1:cg n (d6 n) Sm (m+1) V3 V9 VW VL Wx VY WB=some o83:=h1;rw [cg] at h1;refine nx 4 rfl (K1 λ V2 h1=>?_);refine nx 3 rfl (fD [14] h1 rfl (λ Zz h1=>?_) λ Zz h1=>?_)
  ·refine nx 6 Z (K1 λ Ws h1=>?_);refine nx 9 Z (oA h1 Z Z λ YO h1=>?_);refine nx 9 Z (bd h1 λ o86 h2 h1=>?_);refine kN o86 (λ v87=>⟨[(0,.ptr 1000000 0),(1,.p (eI Sm)),(4,.ptr 4 0),(6,.ptr 6 0),(8,.p (eB v87.1))],[(4,oj),(6,[.vec 112000 13 0 (v87.2.1.map aw),.vec 112001 5 0 (v87.2.2.1.map aI)]),(1000000,(mu v87.2.2.2))]⟩) ?_ ?_
   ·refine nx 7 Z (fB [34] h1 Z (λ c63 h1=>?_) λ c63 h1=>?_)
    ·exact nx 8 Z (mQo (hR0 _ (oi h1).symm) (aQ _) Z Z Z Z (fI ⟨BR ⟨sr,sr,trivial⟩,sr,trivial⟩) ⟨⟨_,Z,⟨sr,sr,sr,sr,sr,trivial⟩⟩,trivial⟩)
    refine nx 5 Z (K1 λ Xp h1=>?_);refine nx 2 Z (fB [38] h1 Z (λ c66 h1=>?_) λ c66 h1=>?_)
    ·exact aB
    exact nx 2 Z (eX (o86.2.1,o86.2.2.1,Xp.2.fl,Xp.2.fat,Xp.2.AI.Ar,Xp.2.AI.fAt,Xp.2.AI.AT) h1 (aJ (aS 112000 106000 Z Z Z Z Z) (aJ (aS 112001 106001 Z Z Z Z Z) (gE Z Z))))
   refine nx 3 Z (K2 λ WT h2=>?_);refine nx 1 Z (fB [25] h2 Z (λ Yn h2=>?_) λ Yn h2=>?_)
   ·refine nx 4 Z (bd h2 λ VO e52 h2=>?_);refine mO Z (cVq [1000000,6] [106000,106001] 111000 111002 (HO.c e52) HE.e Z ?_);exact nx 2 Z (eX _ (oi h2).symm (aJ (aS 111000 112000 Z Z Z Z Z) (aJ (aS 111001 112001 Z Z Z Z Z) (gE Z Z))))
   refine nx 5 Z (bd h2 λ V' Y8 h2=>?_);refine mO Z (cVq [1000000,6] [106000,106001] 112000 112002 (HO.c Y8) HE.e Z ?_);exact dj
  exact nx 2 Z (eXi _ (oi h1).symm (aJ (aS 106000 112000 Z Z Z Z Z) (aJ (aS 106001 112001 Z Z Z Z Z) (gE Z Z))))
 ·refine λ Sn T' name_2 VZ=>hO good [800000,800001] [1000000,1000001] Tryz.func71 Z Z λ r h0 _ w0 F=>?_;rw [d6] at h0;refine nx 8 Z (K0 λ r1 h0=>?_);refine nx 12 Z (fB [18] h0 Z (λ c3 h0=>?_) λ c3 h0=>?_)
  ·exact J9
  refine nx 6 Z (K0 λ r4 h0=>?_);refine nx 2 Z (fB [21] h0 Z (λ c6 h0=>?_) λ c6 h0=>?_)
  ·refine nx 4 Z (K0 λ r7 h0=>?_);exact Bi
  refine nx 8 Z (fD [25] h0 Z (λ c9 h0=>?_) λ c9 h0=>?_)
  ·refine nx 6 Z (K0 λ Vg h0=>?_);exact Bi
  refine nx 8 Z (oA h0 Z Z λ W9 h0=>?_);refine nx 8 Z (oA h0 Z Z λ W8 h0=>?_);refine bd h0 λ Vl X9 h0=>mO Z (cVq [1000000] [] 105000 105000 (HO.c X9) HE.e Z ?_);refine nx 7 Z (mG (gE (t:=⟨[(0,.ptr 1000000 0),(1,.ptr 1000001 0),(6,.ptr 6 0),(9,.p (eL eS r1.1)),(10,.p (eB Vl.2.1)),(11,.ptr 11 0)],[(6,(af.cs name_2).map .p),(11,(av.cs Vl.1).map .p),(1000000,(aj.cs Vl.2.2).map .p),(1000001,[.vec 900000 13 0 (T'.B'.map aw),.vec 900001 5 0 (T'.By.map aI)])]⟩) Z Z) ?_);refine nx 6 Z (fB [45] h0 Z (λ c16 h0=>?_) λ c16 h0=>?_)
  ·exact J9
  refine nx 6 Z (K0 λ Vq h0=>?_);refine nx 2 Z (fB [48] h0 Z (λ Ya h0=>?_) λ Ya h0=>?_)
  ·refine nx 4 Z (K0 λ VH h0=>?_);exact Bi
  refine nx 8 Z (oA h0 Z Z λ WE h0=>?_);refine nx 5 Z (cc' h0 λ W7 h0=>?_);refine mG (gE (t:=⟨[(1,.ptr 1000001 0),(6,.ptr 6 0),(9,.p (eL eS r1.1)),(11,.ptr 11 0)],[(6,(af.cs name_2).map .p),(11,(av.cs Vl.1).map .p),(1000000,[.p (eL aE Vq.2.fl),.p (eI (Vq.2.fat+1)),.p (eI Vq.2.AI.Ar),.p (eI Vq.2.AI.fAt),.p (eS Vq.2.AI.AT)]),(1000001,[.vec 900000 13 0 (T'.B'.map aw),.vec 900001 5 0 (T'.By.map aI)])]⟩) Z Z) (mSP ⟨3,[13,15,18],(by4 (.some λ i=>Nat.beq i 900001||Nat.beq i 71) (.fn (upP 71 5 (.agg [eS name_2.C',eL eS r1.1,eL aw Vl.1.B',eL aI Vl.1.By,eI name_2.fAt]))) .none .none),(λ _=>[(1,.ptr 1000001 0),(6,.ptr 6 0),(9,.p (eL eS r1.1)),(11,.ptr 11 0)]),(by4 ([(6,[.p (eI name_2.Ar),.p (eS name_2.C'),.p (eI name_2.fAt)]),(11,[.p (eL aw Vl.1.B'),.p (eL aI Vl.1.By)]),(1000000,[.p (eL aE Vq.2.fl),.p (eI (Vq.2.fat+1)),.p (eI Vq.2.AI.Ar),.p (eI Vq.2.AI.fAt),.p (eS Vq.2.AI.AT)]),(1000001,[.vec 900000 13 0 (T'.B'.map aw),.vec 900001 5 0 (T'.By.map aI)])]) ([(6,[.p (eI name_2.Ar),.p (eS name_2.C'),.p (eI name_2.fAt)]),(11,[.p (eL aw Vl.1.B'),.p (eL aI Vl.1.By)]),(1000000,[.p (eL aE Vq.2.fl),.p (eI (Vq.2.fat+1)),.p (eI Vq.2.AI.Ar),.p (eI Vq.2.AI.fAt),.p (eS Vq.2.AI.AT)]),(1000001,[.vec 900000 13 0 (T'.B'.map aw),.p (eL aI T'.By)])]) ([(6,[.p (eI name_2.Ar),.p (eS name_2.C'),.p (eI name_2.fAt)]),(11,[.p (eL aw Vl.1.B'),.p (eL aI Vl.1.By)]),(1000000,[.p (eL aE Vq.2.fl),.p (eI (Vq.2.fat+1)),.p (eI Vq.2.AI.Ar),.p (eI Vq.2.AI.fAt),.p (eS Vq.2.AI.AT)]),(1000001,[.vec 900000 13 0 (T'.B'.map aw),.p (eL aI T'.By)])]) ([(1000001,[.vec 900000 13 0 (T'.B'.map aw),.vec 71 5 0 (T'.By.map aI++[.agg [eS name_2.C',eL eS r1.1,eL aw Vl.1.B',eL aI Vl.1.By,eI name_2.fAt]])]),(6,[.p (eI name_2.Ar),.p (eS name_2.C'),.p (eI name_2.fAt)]),(11,[.p (eL aw Vl.1.B'),.p (eL aI Vl.1.By)]),(1000000,[.p (eL aE Vq.2.fl),.p (eI (Vq.2.fat+1)),.p (eI Vq.2.AI.Ar),.p (eI Vq.2.AI.fAt),.p (eS Vq.2.AI.AT)]),(1000001,[.vec 900000 13 0 (T'.B'.map aw),.p (eL aI T'.By)])]))⟩ ⟨3,[13,18,15],(by4 (.some λ i=>Nat.beq i 900001||Nat.beq i 71) .none (.fn (upP 71 5 (.agg [eS name_2.C',eL eS r1.1,eL aw Vl.1.B',eL aI Vl.1.By,eI name_2.fAt]))) .none),(λ _=>[(1,.ptr 1000001 0),(6,.ptr 6 0),(9,.p (eL eS r1.1)),(11,.ptr 11 0)]),(by4 ([(6,[.p (eI name_2.Ar),.p (eS name_2.C'),.p (eI name_2.fAt)]),(11,[.p (eL aw Vl.1.B'),.p (eL aI Vl.1.By)]),(1000000,[.p (eL aE Vq.2.fl),.p (eI (Vq.2.fat+1)),.p (eI Vq.2.AI.Ar),.p (eI Vq.2.AI.fAt),.p (eS Vq.2.AI.AT)]),(1000001,[.vec 900000 13 0 (T'.B'.map aw),.vec 900001 5 0 (T'.By.map aI)])]) ([(6,[.p (eI name_2.Ar),.p (eS name_2.C'),.p (eI name_2.fAt)]),(11,[.p (eL aw Vl.1.B'),.p (eL aI Vl.1.By)]),(1000000,[.p (eL aE Vq.2.fl),.p (eI (Vq.2.fat+1)),.p (eI Vq.2.AI.Ar),.p (eI Vq.2.AI.fAt),.p (eS Vq.2.AI.AT)]),(1000001,[.vec 900000 13 0 (T'.B'.map aw),.p (eL aI T'.By)])]) ([(1000001,[.vec 900000 13 0 (T'.B'.map aw),.vecp 71 5 0 (T'.By.map aI)]),(6,[.p (eI name_2.Ar),.p (eS name_2.C'),.p (eI name_2.fAt)]),(11,[.p (eL aw Vl.1.B'),.p (eL aI Vl.1.By)]),(1000000,[.p (eL aE Vq.2.fl),.p (eI (Vq.2.fat+1)),.p (eI Vq.2.AI.Ar),.p (eI Vq.2.AI.fAt),.p (eS Vq.2.AI.AT)]),(1000001,[.vec 900000 13 0 (T'.B'.map aw),.p (eL aI T'.By)])]) ([(1000001,[.vec 900000 13 0 (T'.B'.map aw),.vec 71 5 0 (T'.By.map aI++[.agg [eS name_2.C',eL eS r1.1,eL aw Vl.1.B',eL aI Vl.1.By,eI name_2.fAt]])]),(6,[.p (eI name_2.Ar),.p (eS name_2.C'),.p (eI name_2.fAt)]),(11,[.p (eL aw Vl.1.B'),.p (eL aI Vl.1.By)]),(1000000,[.p (eL aE Vq.2.fl),.p (eI (Vq.2.fat+1)),.p (eI Vq.2.AI.Ar),.p (eI Vq.2.AI.fAt),.p (eS Vq.2.AI.AT)]),(1000001,[.vec 900000 13 0 (T'.B'.map aw),.p (eL aI T'.By)])]))⟩ Z Z Z Z Z Z Z ⟨Z,Z,Z,Z,trivial⟩ Z (lt3 ⟨Z,Z,Z,Z,trivial⟩ ⟨Z,Z,Z,Z,trivial⟩ ⟨Z,Z,Z,Z,trivial⟩) (lt3 ⟨Z,Z,Z,Z,trivial⟩ ⟨Z,Z,Z,Z,trivial⟩ ⟨Z,Z,Z,Z,trivial⟩) Z Z Z Z Z ?_);refine dPc (.ptr 1000001 0) Z (dPc (.ptr 1000001 0) Z ?_);refine dPc (.ptr 1000001 1) Z (dP (by4 (.vec 900001 5 0 (T'.By.map aI)) (.p (eL aI T'.By)) (.p (eL aI T'.By)) (.p (eL aI T'.By))) Z ?_);refine dPc (.ptr 6 1) Z (dPc (.p (eS name_2.C')) Z ?_);refine dPc (.p (eL eS r1.1)) Z (dPc (.p (.agg (av.cs Vl.1))) Z ?_);refine dPc (.ptr 6 2) Z (dPc (.p (eI name_2.fAt)) Z ?_);refine dPc (.p (.agg [eS name_2.C',eL eS r1.1,eL aw Vl.1.B',eL aI Vl.1.By,eI name_2.fAt])) Z (dO (.p (eI (T'.By.length:Int))) [61] Z (λ _ sl UT K hK=>al Z (pN (f:=aI) (l:=T'.By) Z Z Z Z Z (UT _ _ Z) Z hK)) ?_);refine dO (.p (eL (λ x:PV=>x) [.agg wy])) [] Z (λ _ sl UT K hK=>al Z (bn (λ x:PV=>x) [.agg wy] Z Z Z Z Z Z (dz Z Z fp) Z Z Z Z Z Z Z hK)) (dI (by4 (.vecp 71 5 0 (T'.By.map aI)) (.vecp 71 5 0 (T'.By.map aI)) (.vec 71 5 0 (T'.By.map aI++[.agg [eS name_2.C',eL eS r1.1,eL aw Vl.1.B',eL aI Vl.1.By,eI name_2.fAt]])) (.vec 71 5 0 (T'.By.map aI++[.agg [eS name_2.C',eL eS r1.1,eL aw Vl.1.B',eL aI Vl.1.By,eI name_2.fAt]]))) [61,70] Z Lo ?_);refine pu (by4 (.elp 71 5) (.elp 71 5) .undef .undef) Z Z Z (Cn Z Z Z Y) (lt3 (nl Z) Y Y) (ga Z (ga Z (fX [(69,_),(71,_)] ⟨.inr ⟨11,_,Z,Z,Z⟩,.inr ⟨13,_,Z,Z,Z⟩,trivial⟩ q8 (ga Z j7)))) (kG [(68,_),(72,_)] Z ⟨.inr ⟨10,_,Z,Z,Z⟩,.inr ⟨14,_,Z,Z,Z⟩,trivial⟩ Z Nh ?_);refine dPc (.ptr 1000001 0) Z (dPc (.ptr 1000001 1) Z ?_);refine dS Z (xK (dPc (.ptr 1000001 0) Z (dPc (.ptr 1000001 0) Z (dPc (.ptr 1000001 1) Z (dP (by4 (.vec 900001 5 0 (T'.By.map aI)) (.p (eL aI T'.By)) (.p (eL aI T'.By)) (.p (eL aI T'.By))) Z (dPc (.ptr 6 1) Z (dPc (.p (eS name_2.C')) Z (dPc (.p (eL eS r1.1)) Z (dPc (.p (.agg (av.cs Vl.1))) Z (dPc (.ptr 6 2) Z (dPc (.p (eI name_2.fAt)) Z (dPc (.p (.agg [eS name_2.C',eL eS r1.1,eL aw Vl.1.B',eL aI Vl.1.By,eI name_2.fAt])) Z (dO (.p (eI (T'.By.length:Int))) [61] Z (λ _ sl UT K hK=>al Z (pN (f:=aI) (l:=T'.By) Z Z Z Z Z (UT _ _ Z) Z hK)) (dO (.p (eL (λ x:PV=>x) [.agg wy])) [] Z (λ _ sl UT K hK=>al Z (bn (λ x:PV=>x) [.agg wy] Z Z Z Z Z Z (dz Z Z fp) Z Z Z Z Z Z Z hK)) (dI (by4 (.vecp 71 5 0 (T'.By.map aI)) (.vecp 71 5 0 (T'.By.map aI)) (.vecp 71 5 0 (T'.By.map aI)) (.vec 71 5 0 (T'.By.map aI++[.agg [eS name_2.C',eL eS r1.1,eL aw Vl.1.B',eL aI Vl.1.By,eI name_2.fAt]]))) [61,70] Z Lo (pu (by4 (.elp 71 5) (.elp 71 5) (.elp 71 5) .undef) Z Z Z (Cn Z Z Z Y) (lt3 (nl Z) Y Y) (ga Z (fX [(69,_),(71,_)] ⟨.inr ⟨11,_,Z,Z,Z⟩,.inr ⟨13,_,Z,Z,Z⟩,trivial⟩ q8 (fX [(69,_),(71,_)] ⟨.inr ⟨11,_,Z,Z,Z⟩,.inr ⟨13,_,Z,Z,Z⟩,trivial⟩ q8 (ga Z j7)))) (kG [(68,_),(72,_)] Z ⟨.inr ⟨10,_,Z,Z,Z⟩,.inr ⟨14,_,Z,Z,Z⟩,trivial⟩ Z Nh (dPc (.ptr 1000001 0) Z (dPc (.ptr 1000001 1) Z (dS Z (A8 Z ⟨Z,Z,Z,Z,Z,trivial⟩ ⟨⟨Z,Z,.inr Z⟩,⟨⟨Z,Z,.inr Z⟩,⟨⟨Z,Z,.inr Z⟩,⟨⟨Z,Z,.inr Z⟩,⟨⟨Z,Z,.inr Z⟩,⟨⟨Z,Z,.inr Z⟩,⟨⟨Z,Z,.inr Z⟩,⟨⟨Z,Z,.inr Z⟩,⟨⟨Z,Z,.inr Z⟩,⟨⟨Z,Z,.inr Z⟩,⟨⟨Z,Z,.inr Z⟩,⟨⟨Z,Z,.inr Z⟩,⟨⟨Z,Z,.inr Z⟩,⟨⟨Z,Z,.inr Z⟩,⟨⟨Z,Z,.inr Z⟩,⟨⟨Z,Z,.inr Z⟩,⟨⟨Z,Z,.inr Z⟩,trivial⟩⟩⟩⟩⟩⟩⟩⟩⟩⟩⟩⟩⟩⟩⟩⟩⟩)))))))))))))))))))) ?_);refine mG (dZ (t:=⟨[],[(1000000,[.p (eL aE Vq.2.fl),.p (eI (Vq.2.fat+1)),.p (eI Vq.2.AI.Ar),.p (eI Vq.2.AI.fAt),.p (eS Vq.2.AI.AT)]),(1000001,[.vec 900000 13 0 (T'.B'.map aw),.vec 71 5 0 ((T'.By++[(au.mk name_2.C' r1.1 Vl.1 name_2.fAt)]).map aI)])]⟩) (oh trivial ⟨⟨_,Z,⟨sr,sr,sr,sr,sr,trivial⟩⟩,⟨_,Z,⟨sr,AV.sub_of_eq (by first|(simp only [List.map_append,n7,List.map_nil,au.M']; done)|(simp only [List.map_append,n7,List.map_nil,au.M']; rfl)),trivial⟩⟩,trivial⟩)) (nx 6 Z ?_);exact mQo (oi h0) (aJ (aS 900000 800000 Z Z Z Z Z) (aJ (aS 71 800001 Z Z Z Z Z) (aQ _))) Z Z Z Z (sr) ⟨⟨_,Z,⟨sr,sr,sr,sr,sr,trivial⟩⟩,⟨_,Z,⟨sr,sr,trivial⟩⟩,trivial⟩
instance Bz (n:Nat):∀ (Sn:aj) (Sm:Int) (r:av×Bool×aj),HO (fh n Sn Sm=some r) Tryz.prog 35 [.ptr 1000000 0,.p (eI Sm)] [(1000000,[.p (eL aE Sn.fl),.p (eI Sn.fat),.p (eI Sn.AI.Ar),.p (eI Sn.AI.fAt),.p (eS Sn.AI.AT)])] (.tuple [.p (.agg (av.cs r.1)),.p (eB r.2.1)]) ([(1000000,[.p (eL aE r.2.2.fl),.p (eI r.2.2.fat),.p (eI r.2.2.AI.Ar),.p (eI r.2.2.AI.fAt),.p (eS r.2.2.AI.AT)])]):=(rh n).1
def pk (n:Nat)(O':Bk):Option (av×az) :=(mU n O').bind λ r1=>if r1.2.Ar=0 then(fh n (aj.mk r1.1 0 (az.mk 0 0 ([]:Bk))) 0).bind λ r4=>((if r4.2.1=true then(cv r4.2.2).bind λ r7=>some (!decide (r7.1.Ar=6),r7.2.fl,r7.2.fat,r7.2.AI.Ar,r7.2.AI.fAt,r7.2.AI.AT)else some (false,r4.2.2.fl,r4.2.2.fat,r4.2.2.AI.Ar,r4.2.2.AI.fAt,r4.2.2.AI.AT)).bind λ Xq=>if Xq.1=true then(eG (aj.mk Xq.2.1 Xq.2.2.1 (az.mk Xq.2.2.2.1 Xq.2.2.2.2.1 Xq.2.2.2.2.2))).bind λ WL=>some (WL.1,WL.2.fl,WL.2.fat,WL.2.AI.Ar,WL.2.AI.fAt,WL.2.AI.AT)else some (r4.2.1,Xq.2.1,Xq.2.2.1,Xq.2.2.2.1,Xq.2.2.2.2.1,Xq.2.2.2.2.2)).bind λ XN=>if (!XN.1)=true then some ((av.mk [] []),(az.mk XN.2.2.2.1 XN.2.2.2.2.1 XN.2.2.2.2.2))else some (r4.1,(az.mk 0 0 ([]:Bk)))else some ((av.mk [] []),r1.2)
instance OG (n:Nat) (O':Bk):∀ (r:av×az),HP (pk n O'=some r) Tryz.prog 12 [eS O'] (.tuple [.p (.agg (av.cs r.1)),.p (.agg (az.cs r.2))]):=by
 refine hP good Tryz.func12 Z Z λ r h0 _ w0=>?_;unfold pk at h0;refine nx 8 Z (K0 λ r1 h0=>nx 14 Z ?_);refine fN [16] h0 Z (λ c3 h0=>?_) λ c3 h0=>?_
 ·refine nx 12 Z (K0 λ r4 h0=>?_);refine nx 8 Z (bd h0 λ Xs h1 h0=>?_);refine kN Xs (λ YY=>⟨[(2,.ptr 2 0),(3,.ptr 3 0),(6,.ptr 21 0),(7,.ptr 7 0),(8,.p (eB YY.1))],[(2,oj),(3,sK),(7,(av.cs r4.1).map .p),(21,(mu YY.2))]⟩) ?_ ?_
  ·refine nx 7 Z (fB [37] h0 Z (λ ZB h0=>?_) λ ZB h0=>?_)
   ·refine nx 2 Z (mG (gE (t:=⟨[(2,.ptr 2 0),(3,.ptr 3 0),(6,.ptr 21 0)],[(2,oj),(3,sK),(21,(mu Xs.2))]⟩) Z Z) ?_);refine mSq ⟨2,[5,6],(λ _=>.none),(λ _=>[(2,.ptr 2 0),(3,.ptr 3 0),(6,.ptr 21 0)]),(ob3 ([(2,oj),(3,sK),(21,(mu Xs.2))]) (2,[.p (eL aw ((av.mk [] []).B')),.p (eL aI ((av.mk [] []).By))]) (3,(QJ Xs.2.2.2)))⟩ Z (dO (.p (.agg (av.cs (av.mk [] [])))) [] Z (λ _ sl UT K hK=>al Z (xH (y:=.p (.agg (av.cs (av.mk [] [])))) (λ _ hq=>rV Z Z Z Z Z Z vc Z Z hq) (iz ⟨.inr ⟨Z,Z⟩,.inr ⟨Z,Z⟩,trivial⟩) hK)) ?_);refine dPc (.ptr 21 0) Z (dPc (.ptr 21 0) Z ?_);refine dPc (.ptr 21 2) Z (dPc (.p (.agg [eI Xs.2.2.2.1,eI Xs.2.2.2.2.1,eS Xs.2.2.2.2.2])) Z ?_);refine dS Z (dS Z ?_);refine d5 (nx 2 Z ?_);exact mQ (oi h0) Z (fI ⟨sr,sr,trivial⟩)
   exact nx 10 Z (mQ (oi h0) Z (fI ⟨sr,sr,trivial⟩))
  refine nx 1 Z (bd h1 λ WX h2 h1=>?_);refine kN WX (λ V8=>⟨[(2,.ptr 2 0),(3,.ptr 3 0),(6,.ptr 21 0),(7,.ptr 7 0),(8,.p (eB r4.2.1)),(33,.p (eB V8.1))],[(2,oj),(3,sK),(7,(av.cs r4.1).map .p),(21,(mu V8.2))]⟩) ?_ ?_
  ·refine nx 1 Z (fB [33] h1 Z (λ c15 h1=>?_) λ c15 h1=>?_)
   ·refine nx 3 Z (K1 λ WL h1=>?_);exact wR
   exact wR
  refine nx 3 Z (fB [8,26,27,28] h2 Z (λ c6 h2=>?_) λ c6 h2=>?_)
  ·refine nx 1 Z (K2 λ r7 h2=>?_);exact nx 4 Z Oe
  exact nx 6 Z Oe
 refine nx 2 Z (mG (gE (t:=⟨[(2,.ptr 2 0),(3,.ptr 3 0),(5,.ptr 5 0)],[(2,oj),(3,sK),(5,(az.cs r1.2).map .p)]⟩) Z Z) ?_);refine mSq ⟨2,[2,3],(λ _=>.none),(λ _=>[(2,.ptr 2 0),(3,.ptr 3 0),(5,.ptr 5 0)]),(ob3 ([(2,oj),(3,sK),(5,[.p (eI r1.2.Ar),.p (eI r1.2.fAt),.p (eS r1.2.AT)])]) (2,[.p (eL aw ((av.mk [] []).B')),.p (eL aI ((av.mk [] []).By))]) (3,[.p (eI r1.2.Ar),.p (eI r1.2.fAt),.p (eS r1.2.AT)]))⟩ Z (dO (.p (.agg (av.cs (av.mk [] [])))) [] Z (λ _ sl UT K hK=>al Z (xH (y:=.p (.agg (av.cs (av.mk [] [])))) (λ _ hq=>rV Z Z Z Z Z Z vc Z Z hq) (iz ⟨.inr ⟨Z,Z⟩,.inr ⟨Z,Z⟩,trivial⟩) hK)) ?_);refine dPc (.p (.agg (az.cs r1.2))) Z (dS Z ?_);refine dS Z (d5 ?_);exact nx 2 Z (mQ (oi h0) Z (fI ⟨sr,sr,trivial⟩))
set_option maxRecDepth 4000
def gr (n:Nat)(l_0:List ab):Nat->Int->Option (Unit⊕Bool)|0,_=>none|m+1,i13=>if i13<(l_0.length:Int) then(ck ((0:Int)<=i13/\i13<(l_0.length:Int))<|(lD n (lat l_0 i13) 300).bind λ WL=>if (!WL)=true then some true else ck ((0:Int)<=i13/\i13<(l_0.length:Int))<|(lC n (lat l_0 i13)).bind λ VH=>some (!decide (VH=0))).bind λ ZZ=>if ZZ=true then some (.inr false)else ck (inR (i13+1))<|gr n l_0 m (i13+1)else some (.inl ())
def qj (n:Nat)(l_0:List ab):Option Bool :=jn (gr n l_0 n 0) λ Xq=>some true
instance QQ (n:Nat) (l_0:List ab):∀ (r:Bool),HP (qj n l_0=some r) Tryz.prog 4 [eL ao l_0] (.p (eB r)):=by
 refine hP good Tryz.func4 Z Z λ r h0 _ w0=>?_;unfold qj at h0;refine nx 10 rfl ?_;obtain ⟨Y6,h1,Vp,hR0⟩:=bJ h0;refine kEx 0 (λ Yp:Unit=>Y6=.inl Yp) (λ Yp=>⟨[],[]⟩) (λ Yp hv=>?_) ?_
 ·exact eW
 refine lG (λ (XW:Int)=>⟨[(0,.p (eL ao l_0)),(3,.p (eI XW))],[]⟩) (λ m (XW:Int)=>gr n l_0 m XW) Y 0 h1 (gE rfl rfl) ?_;rintro m i13 h1;replace h1:gr n l_0 (m+1) i13=some Y6:=h1;rw [gr] at h1;have:=js [400];have:=jS 400 Bool λ v=>[(23,.p (eB v))]
 exact aB
def eT (n:Nat)(l_0:List av):Nat->Int->Option (Unit⊕Bool)|0,_=>none|m+1,i13=>if i13<(l_0.length:Int) then(ck ((0:Int)<=i13/\i13<(l_0.length:Int))<|(nR n (lat l_0 i13) 300).bind λ WL=>if (!WL)=true then some true else ck ((0:Int)<=i13/\i13<(l_0.length:Int))<|(pM n (lat l_0 i13)).bind λ VH=>some (!decide (VH=0))).bind λ ZZ=>if ZZ=true then some (.inr false)else ck (inR (i13+1))<|eT n l_0 m (i13+1)else some (.inl ())
def nX (n:Nat)(l_0:List av):Option Bool :=jn (eT n l_0 n 0) λ Xq=>some true
instance Mg (n:Nat) (l_0:List av):∀ (r:Bool),HP (nX n l_0=some r) Tryz.prog 5 [eL tF l_0] (.p (eB r)):=by
 refine hP good Tryz.func5 Z Z λ r h0 _ w0=>?_;unfold nX at h0;refine nx 10 rfl ?_;obtain ⟨Y6,h1,Vp,hR0⟩:=bJ h0;refine kEx 0 (λ Yp:Unit=>Y6=.inl Yp) (λ Yp=>⟨[],[]⟩) (λ Yp hv=>?_) ?_
 ·exact eW
 refine lG (λ (XW:Int)=>⟨[(0,.p (eL tF l_0)),(3,.p (eI XW))],[]⟩) (λ m (XW:Int)=>eT n l_0 m XW) Y 0 h1 (gE rfl rfl) ?_;rintro m i13 h1;replace h1:eT n l_0 (m+1) i13=some Y6:=h1;rw [eT] at h1;refine nx 5 rfl (oLl (f:=tF) rfl rfl ?_);refine nx 2 rfl (fD [7] h1 rfl (λ Yb h1=>?_) λ Yb h1=>?_)
 ·refine nx 5 Z (bd h1 λ ZM h2 h1=>?_);refine kN ZM (λ Zd=>⟨[(0,.p (eL tF l_0)),(3,.p (eI i13)),(23,.p (eB Zd))],[]⟩) ?_ ?_
  ·exact aB
  refine nx 3 Z (oE h2 av.E' Z Z Y λ Ww h2=>?_);refine nx 1 Z (K2 λ WL h2=>nx 2 Z ?_);refine fB [15,16] h2 Z (λ c18 h2=>?_) λ c18 h2=>?_
  ·exact dj
  refine nx 2 Z (oE h2 av.E' Z Z Y λ Wv h2=>?_);refine nx 1 Z (K2 λ VH h2=>nx 3 Z ?_);exact AH
 exact aB
def ot (O':Bk):Option Bool :=some (decide (16384<=(O'.length:Int)))
instance IU (O':Bk):∀ (r:Bool),HP (ot O'=some r) Tryz.prog 10 [eS O'] (.p (eB r)):=by
 refine hP good Tryz.func10 Z Z λ r h0 _ w0=>?_;unfold ot at h0;exact J0
def j4 (n:Nat)(US:ab)(T':av):Option Bool :=((qj n [US]).bind λ r1=>if (!r1)=true then some true else(nX n [T']).bind λ r4=>some (!r4)).bind λ t6=>if t6=true then(iD n).bind λ r8=>some r8 else(aK n US).bind λ Vg=>(lA n T').bind λ Vk=>jn (if (Vg.length:Int)<=20000 then(pC n Vg).bind λ U2=>(if U2.2.Ar=14 then(ot Vg).bind λ Wt=>some Wt else some false).bind λ t20=>if t20=true then(iD n).bind λ WK=>some (.inr WK)else(if U2.2.Ar=0/\U2.2.fAt=0/\U2.2.AT=([]:Bk) then(dm n US U2.1).bind λ WR=>some (!WR)else some true).bind λ t27=>if t27=true then some (.inr false)else some (.inl ())else some (.inl ()) : Option (Unit⊕Bool)) λ WO=>jn (if (Vk.length:Int)<=20000 then(pk n Vk).bind λ W0=>(if W0.2.Ar=14 then(ot Vk).bind λ Yt=>some Yt else some false).bind λ t35=>if t35=true then(iD n).bind λ Y0=>some (.inr Y0)else(if W0.2.Ar=0/\W0.2.fAt=0/\W0.2.AT=([]:Bk) then(dQ n T' W0.1).bind λ Wy=>some (!Wy)else some true).bind λ t42=>if t42=true then some (.inr false)else some (.inl ())else some (.inl ()) : Option (Unit⊕Bool)) λ q50=>(iD n).bind λ XL=>some XL
instance Ds (n:Nat) (US:ab) (T':av):∀ (r:Bool),HP (j4 n US T'=some r) Tryz.prog 3 [.agg (ab.cs US),.agg (av.cs T')] (.p (eB r)):=by
 refine hP good Tryz.func3 Z Z λ r h0 _ w0=>?_;unfold j4 at h0;refine nx 8 Z (bd h0 λ Xr h1 h0=>?_);refine kN Xr (λ YX=>⟨[(2,.ptr 2 0),(3,.ptr 3 0),(20,.p (eB YX))],[(2,(ab.cs US).map .p),(3,(av.cs T').map .p)]⟩) ?_ ?_
 ·refine nx 1 Z (fB [20] h0 Z (λ c7 h0=>?_) λ c7 h0=>?_)
  ·exact J0
  refine nx 3 rfl (bd h0 λ Vg XI h0=>?_);refine bd h0 λ Vk Y9 h0=>mD [(2,.ptr 2 0),(3,.ptr 3 0)] rfl ⟨rfl,rfl,trivial⟩ rfl (dR 1 rfl ?_);refine dq (.p (eS Vg)) [22] rfl (λ _ e _ q=>al rfl (bQ (HP.c XI) Z Z Z (aG (e _ _ rfl) bp) ⟨sr,trivial⟩ HE.e rfl q)) rfl (dR 1 rfl ?_);refine dq (.p (eS Vk)) [24] rfl (λ _ e _ q=>al rfl (bQ (HP.c Y9) Z Z Z (aG (e _ _ rfl) bp) ⟨sr,trivial⟩ HE.e rfl q)) rfl (dR 2 rfl ?_);refine dE rfl (nx 2 rfl ?_);obtain ⟨o55,h1,Vp,hR0⟩:=bJ h0;refine kX (λ v56:Unit=>o55=.inl v56) (λ v56=>⟨[(3,.ptr 3 0),(6,.p (eS Vk))],[(3,(av.cs T').map .p)]⟩) (λ v56 hv=>?_) ?_
  ·have h0:=Vp _ hv;refine nx 2 rfl ?_;obtain ⟨o57,h1,Vp,hR0⟩:=bJ h0;refine kX (λ v58:Unit=>o57=.inl v58) (λ v58=>⟨[],[]⟩) (λ v58 hv=>?_) ?_
   ·exact eW
   refine nx 3 Z (oLs Z ?_);refine nx 2 Z (fD [53] h1 Z (λ c29 h1=>?_) λ c29 h1=>?_)
   ·refine nx 4 Z (K1 λ W0 h1=>nx 10 Z ?_);refine bd h1 λ o59 h2 h1=>kN o59 (λ v60=>⟨[(3,.ptr 3 0),(9,.ptr 9 0),(10,.ptr 10 0),(65,.p (eB v60))],[(3,(av.cs T').map .p),(9,(av.cs W0.1).map .p),(10,(az.cs W0.2).map .p)]⟩) ?_ ?_
    ·refine nx 1 Z (fB [65] h1 Z (λ YV h1=>?_) λ YV h1=>?_)
     ·exact aB
     refine nx 3 Z (bd h1 λ o61 h2 h1=>?_);refine kN o61 (λ v62=>⟨[(75,.p (eB v62))],[]⟩) ?_ ?_
     ·exact aB
     refine nx 3 Z (mO Z (Jf (W0.2.Ar=0/\W0.2.fAt=0/\W0.2.AT=([]:Bk)) Z Z Z Z Z Z Z (by kernel_rfl) Z Z (.inr ⟨Z,Z⟩) ?_));exact dj
    exact dj
   exact aB
  refine nx 3 Z (oLs Z ?_);refine nx 2 Z (fD [28] h1 Z (λ Yb h1=>?_) λ Yb h1=>?_)
  ·refine nx 4 Z (K1 λ U2 h1=>nx 10 Z ?_);refine bd h1 λ o63 h2 h1=>kN o63 (λ v64=>⟨[(2,.ptr 2 0),(3,.ptr 3 0),(6,.p (eS Vk)),(7,.ptr 7 0),(8,.ptr 8 0),(40,.p (eB v64))],[(2,(ab.cs US).map .p),(3,(av.cs T').map .p),(7,(ab.cs U2.1).map .p),(8,(az.cs U2.2).map .p)]⟩) ?_ ?_
   ·refine nx 1 Z (fB [40] h1 Z (λ c21 h1=>?_) λ c21 h1=>?_)
    ·exact aB
    refine nx 3 Z (bd h1 λ o65 h2 h1=>?_);refine kN o65 (λ v66=>⟨[(3,.ptr 3 0),(6,.p (eS Vk)),(50,.p (eB v66))],[(3,(av.cs T').map .p)]⟩) ?_ ?_
    ·exact aB
    refine nx 3 Z (mO Z (Jf (U2.2.Ar=0/\U2.2.fAt=0/\U2.2.AT=([]:Bk)) Z Z Z Z Z Z Z (by kernel_rfl) Z Z (.inr ⟨Z,Z⟩) ?_));exact dj
   exact dj
  exact aB
 refine nx 2 Z (mO Z (bn ao [US] Z Z Z Z Z Z Z Z Z Z Z Z Z kw ?_));refine bd h1 λ r1 e2 h1=>oK (HP.c e2) Z ⟨sr,trivial⟩ HE.e Z (nx 2 Z ?_);refine fB [14,15] h1 Z (λ c3 h1=>?_) λ c3 h1=>?_
 ·exact aB
 refine nx 1 Z (mO Z (bn tF [T'] Z Z Z Z Z Z Z Z Z Z Z Z Z (by first|rfl|(simp only [n7,List.map_nil,av.M']; done)|(simp only [n7,List.map_nil,av.M']; rfl)) ?_));exact aB
end Go.Ab.R06
end
section
namespace Go.Ab.R06
open Go.Ab Go.Ab.RB Go.Lib
variable {p:Prop}
theorem yk (h:p:=by exact ac (by grind)):p:=h
theorem Gg (s:Bk):Ev2 (λ n _=>du n s) (·=bW s):=by
 by_cases hs:s.length<=1000000
 ·grind [vp]
 ·have hi:bW s=false:=by
   grind [mV]
  have Vs:s≠[]:=λ h=>by grind
  simp only [du,hi];exact ak true (ar Vs yv) oR
theorem Ps (s:Bk):Ev2 (λ n _=>jf n s) (·=(decide (s.length<=4096)&&validD s)):=by
 by_cases hs:s.length<=1000000
 ·grind [yQ]
 ·simp only [jf];exact ap O EW
theorem se {σ ρ:Type}(F:Nat->Nat->Int->σ->Option ρ)(len:Nat)(I:Nat->σ->Prop){P:ρ->Prop}
  (step:∀ (i:Nat) (s:σ),i<len->I i s->(∀ s',I (i+1) s'->Ev2 (λ n m=>F n m ((i:Int)+1) s') P)->Ev2 (λ n m=>F n (m+1) (i:Int) s) P)
  (fin:∀ s,I len s->Ev2 (λ n m=>F n (m+1) (len:Int) s) P):∀ (s:σ),I 0 s->Ev2 (λ n m=>F n m 0 s) P:=by
 have loop:∀ (k i:Nat) (s:σ),i+k=len->I i s->Ev2 (λ n m=>F n m (i:Int) s) P:=by
  intro k
  induction k with
  | zero=>
   grind [aM]
  | succ k ih=>
   grind [aM]
 exact λ s h=>loop len 0 s O h
theorem nY {ρ:Type}(F:Nat->Nat->Int->Option (Unit⊕ρ))(len:Nat)(I:Nat->Prop)(Q:ρ->Prop)
  (step:∀ (i:Nat),i<len->I i->∀ P:Unit⊕ρ->Prop,(∀ e,Q e->P (.inr e))->(I (i+1)->Ev2 (λ n m=>F n m ((i:Int)+1)) P)->Ev2 (λ n m=>F n (m+1) (i:Int)) P)
  (fin:Ev2 (λ n m=>F n (m+1) (len:Int)) (·=.inl ())) (h0:I 0):Ev2 (λ n m=>F n m 0) (λ r=>(r=.inl ()/\I len)\/∃ e,r=.inr e/\Q e):=by
 refine se (λ n m i (_:Unit)=>F n m i) len (λ i _=>I i) (P:=λ r=>(r=.inl ()/\I len)\/∃ e,r=.inr e/\Q e) (by simp_all) (λ _ h=>cH fin (λ r hr=>.inl ⟨hr,h⟩)) () h0
theorem oc {α:Type}{P:α->Prop}{g:Nat->Nat->Option (Unit⊕α)}{k:Nat->Nat->Unit->Option α}{I:Prop}{Q:α->Prop}(h:Ev2 g (λ r=>(r=.inl ()/\I)\/∃ e,r=.inr e/\Q e))
  (h1:I->Ev2 (λ n m=>k n m ()) P) (h2:∀ e,Q e->P e):Ev2 (λ n m=>jn (g n m) (k n m)) P :=
 gh (cH h (λ r hr=>by
  grind))
theorem av.Bd.ind {P:av->Prop}(h:∀ b,av.Bd b->(∀ k∈b.By,P k.Mp)->P b):∀ b,av.Bd b->P b:=λ b hb=>
 av.Bd.rec (motive_1:=λ b _=>P b) (motive_2:=λ k _=>P k.Mp) (λ {x} b1 b2 b3 b4 ih=>h x (.mk b1 b2 b3 b4) (λ k hk=>ih k hk)) (λ {x} b1 b2 b3 b4 b5 ih=>ih) hb
def oW:List ai->Nat|[]=>0|a::r=>cQ a.I'+oW r
mutual
def jR:av->Nat|.mk l k=>l.length+k.length+oW l+kh k
def vE:au->Nat|.mk _ ls b _=>ls.length+jR b
def kh:List au->Nat|[]=>0|x::r=>vE x+kh r
end
theorem uT (b:av):jR b=b.B'.length+b.By.length+oW b.B'+kh b.By:=by
 cases b; simp only [jR,av.B',av.By]
theorem sF (k:au):vE k=k.J'.length+jR k.Mp:=by
 cases k; simp only [vE,au.J',au.Mp]
theorem Ip:∀ b,av.Bd b->∀ (nodes levels:Int),-ei<=nodes->nodes<=1000->-1000000<=levels->levels<=1000000 ->
  Ev2 (λ n _=>ia n b nodes levels) (λ r=>r<=1000/\-ei<=r/\(0<=r->r=nodes-(jR b:Int))):=by
 refine av.Bd.ind (λ b hb ih=>?_);intro nodes levels h1 h2 h3 h4;have la:=hb.bAttrs;have lb:=hb.bBlocks;have hE:=uT b;unfold ei at *;refine bD ?_;simp only [ia];refine ak (decide (levels<1)||decide (nodes<(b.B'.length:Int)+(b.By.length:Int))) (aH (λ h=>ac (by simp [h])) (λ h=>am aV (ac (by simp [h])))) ?_;refine aH (λ _=>ac ⟨by decide,by decide,by omega⟩) (λ h=>?_);have h:¬ levels<1/\¬ nodes<(b.B'.length:Int)+(b.By.length:Int):=by grind
 refine am aV (am aV ?_)
 have loop1:∀ (k i:Nat) (c:Int),i+k=b.B'.length->-1<=c->c<=1000->Ev2 (λ n m=>eA n b m c (i:Int)) (λ s=>match s with|.inl y=>-1<=y/\y<=1000/\(0<=y->y=c-(oW (b.B'.drop i):Int))|.inr y=>y=-1):=by
  intro k
  induction k with
  | zero=>
   simp_all [aM,eA,ac,oW]
  | succ k ihk=>
   intro i c hi h6 h7;refine aM ?_;simp only [eA];refine ak (decide (0<=c)) yv (aH (λ h8=>?_) (λ h8=>ac ⟨h6,h7,λ h=>absurd (by grind) h8⟩));have h8:0<=c:=by grind
   have hx:ab.Bd (lat b.B' (i:Int)).I':=(hb.eAttrs _ p6).bExpr;refine am O (am aV ?_);refine aW _ (zm hx (c+1) O O) (λ r hr=>?_);refine aH (λ _=>ac Z) (λ h9=>?_);have h9:=hr (by grind);refine am O (ak _ (Ht hx O) ?_);refine am aV (am aV ?_);refine cH (lS (P:=λ j=>Ev2 (λ n m=>eA n b m (c-(cQ (lat b.B' (i:Int)).I':Int)) j) _) (ihk (i+1) _ O O O)) (λ s hs=>?_)
   cases s with
   | inr y=>exact hs
   | inl y=>
    grind [gi,oW]
 have loop2:∀ (k i:Nat) (c:Int),i+k=b.By.length->-140737488351232<=c->c<=1000->Ev2 (λ n m=>eC (ia n) b levels m c (i:Int)) (λ r=>r<=1000/\-140737488351232<=r/\(0<=r->r=c-(kh (b.By.drop i):Int))):=by
  intro k
  induction k with
  | zero=>
   simp_all [aM,eC,ac,kh]
  | succ k ihk=>
   intro i c hi h6 h7;refine aM ?_;simp only [eC];refine ak (decide (0<=c)) yv (aH (λ h8=>?_) (λ h8=>ac ⟨h7,h6,λ h=>absurd (by grind) h8⟩));have h8:0<=c:=by grind
   have hm:lat b.By (i:Int)∈b.By:=mz O;have hx:=(hb.eBlocks _ hm).bLabels;unfold ei at hx;refine am O (am O (am aV (am aV ?_)));refine aW _ (ih _ hm _ (levels-1) O O O O) (λ r hr=>?_);refine am aV ?_;refine cH (lS (P:=λ j=>Ev2 (λ n m=>eC (ia n) b levels m r j) _) (ihk (i+1) _ O O O)) (λ s hs=>⟨hs.1,hs.2.1,λ h=>?_⟩);have a1:=hs.2.2 h;have a2:=hr.2.2 O;have a3:=sF (lat b.By (i:Int));rw [gi b.By (i:=i) O];simp only [kh]; omega
 refine gh (cH (bc (f:=λ n m=>eA n b m ((nodes-(b.B'.length:Int))-(b.By.length:Int)) 0) (loop1 b.B'.length 0 _ O O O)) (λ s hs=>?_))
 cases s with
 | inl y=>
  refine aW _ (bc (f:=λ n m=>eC (ia n) b levels m y 0) (loop2 b.By.length 0 y O (by grind) hs.2.1)) (λ r hr=>ac ⟨hr.1,hr.2.1,λ h=>?_⟩);have a1:=hr.2.2 h;have a2:=hs.2.2 O
  grind
 | inr y=>grind
theorem Fx {b:av}(hb:av.Bd b):Ev2 (λ n _=>nR n b 300) (λ r=>r=true->jR b<=300):=by
 simp only [nR];refine aW _ (Ip b hb 300 40 (by grind) (by decide) (by decide) (by decide)) (λ r hr=>ac (λ h=>?_))
 grind
def pH:Bk->Bool|a::b::r=>(a==36&&b==123)||pH (b::r)|_=>false
theorem qO:∀ s:Bk,Lib.contains s [36,123]=pH s
 | []=>rfl
 | [a]=>by
  grind [Lib.contains,Lib.index,pH]
 | a::b::r=>by
  have ih:=qO (b::r)
  grind [Lib.contains,pH,Lib.index]
theorem Aq (s:Bk)(hs:s.length<=1000000):∀ (k i:Nat),i+k=s.length->Ev2 (λ _ m=>cP s m (i:Int)) (·=if pH (s.drop i)=true then .inr true else .inl ()):=by
 intro k
 induction k with
 | zero=>
  intro i hi;refine aM ?_;simp only [cP];refine am aV (ar O (ac ?_));rw [List.drop_eq_nil_of_le O]; rfl
 | succ k ih=>
  intro i hi;refine aM ?_;simp only [cP];refine am aV (aH (λ h=>?_) (λ h=>?_))
  ·have h1:i+1<s.length:=by omega
   have e1:s.drop i=s.getD i 0::s.getD (i+1) 0::s.drop (i+2):=by
    grind [List.drop_eq_getElem_cons]
   have e2:s.drop (i+1)=s.getD (i+1) 0::s.drop (i+2):=by
    simp_all
   have b1:byt s (i:Int)=((s.getD i 0).toNat:Int):=f0 s i
   have b2:byt s ((i:Int)+1)=((s.getD (i+1) 0).toNat:Int):=by
    have:=f0 s (i+1)
    grind
   refine ak (s.getD i 0==36&&s.getD (i+1) 0==123) ?_ ?_
   ·rw [b1,b2];generalize s.getD i 0=x;generalize s.getD (i+1) 0=y;refine am O (aH (λ h2=>am aV (am O (ac ?_))) (λ h2=>ac ?_))
    ·have:x=36:=UInt8.toNat_inj.1 (by grind);subst this;simp only [BEq.rfl,Bool.true_and];by_cases h3:y=123
     ·subst h3; rfl
     ·have:¬ ((y.toNat:Int)=123):=λ e=>h3 (UInt8.toNat_inj.1 (by grind))
      grind
    ·have:x≠36:=λ e=>h2 (by subst e; rfl);simp [this]
   ·rw [e1,pH,<- e2]
    cases hc:(s.getD i 0==36&&s.getD (i+1) 0==123)
    ·refine ar G (am aV ?_);simp only [Bool.false_or];exact lS (P:=λ j=>Ev2 (λ _ m=>cP s m j) _) (ih (i+1) O)
    simp [ac]
  ·refine ac ?_;have:(s.drop i).length<=1:=by grind
   match hd:s.drop i,this with
   | [],_=>rfl
   | [a],_=>rfl
theorem Be (s:Bk)(hs:s.length<=1000000):Ev2 (λ n _=>jT n s) (·=pH s):=by
 simp only [jT];have h:=bc (f:=λ _ m=>cP s m 0) (Aq s hs s.length 0 O);rw [List.drop_zero] at h
 cases ht:pH s
 ·rw [ht] at h; exact ez () h (ac rfl)
 ·rw [ht] at h; exact kt true h rfl
inductive GB:Nat->av->Prop where
 | mk {d:Nat} {b:av} (attrs:∀ a∈b.B',bW a.AT=true/\chk a.I'=0) (names:(b.B'.map (·.AT)).Nodup) (blocks:∀ k∈b.By,bW k.Mr=true/\d<32/\∀ s∈k.J',s.length<=4096/\validD s=true/\pH s=false) (inner:∀ k∈b.By,GB (d+1) k.Mp):GB d b
theorem wJ {α:Type} [Inhabited α] {l:List α}{Q:α->Prop}(h:∀ j:Nat,j<l.length->Q (lat l (j:Int))):∀ a∈l,Q a:=λ a ha=>by
 grind [List.getElem_of_mem,me]
theorem lt1 {P:Nat->Prop}{i:Nat}(h:∀ j,j<i->P j)(g:P i):∀ j,j<i+1->P j:=λ j hj=>by
 grind
theorem lt0 {P:Nat->Prop}:∀ j,j<0->P j:=λ _ h=>absurd h (Nat.not_lt_zero _)
theorem HM:∀ b,av.Bd b->∀ d:Nat,d<=1000->Ev2 (λ n _=>gI n b (d:Int)) (λ r=>r=0->GB d b):=by
 refine av.Bd.ind (λ b hb ih=>?_);intro d hd;have la:=hb.bAttrs;have lb:=hb.bBlocks;unfold ei at la lb;refine bD ?_;simp only [gI];refine oc (bc (f:=λ n m=>eO n b m 0) (nY (λ n m i=>eO n b m i) b.B'.length (λ i=>∀ j,j<i->(bW (lat b.B' (j:Int)).AT=true/\chk (lat b.B' (j:Int)).I'=0)/\∀ k,k<j->(lat b.B' (k:Int)).AT≠(lat b.B' (j:Int)).AT) (·≠0) (λ i hi h P p1 p2=>?_) (by simp_all [eO,ac]) lt0)) (λ h=>?_) (λ e he q=>absurd q he)
 ·simp only [eO];refine ap O (am O (ak _ (Gg _) (aH (λ _=>ac (p1 _ (by decide))) (λ q=>?_))));have q:bW (lat b.B' (i:Int)).AT=true:=by grind
  refine oc (bc (f:=λ n m=>eQ b (i:Int) m 0) (nY (λ n m k=>eQ b (i:Int) m k) i (λ t=>∀ k,k<t->(lat b.B' (k:Int)).AT≠(lat b.B' (i:Int)).AT) (·=.inr 8) (λ t ht g P p1 p2=>?_) (by simp_all [eQ,ac]) lt0)) (λ g=>?_) (λ e he=>?_)
  ·simp only [eQ];exact ap O (am O (aH (λ _=>ac (p1 _ rfl)) λ q=>am aV (p2 (lt1 g q))))
  ·exact ak _ (Ha (C9 (hb.eAttrs _ p6).bExpr)) (aH (λ c=>am aV (p2 (lt1 h ⟨⟨q,c⟩,g⟩))) λ c=>ac (p1 _ c))
  grind
 refine oc (bc (f:=λ n m=>fc n (gI n) b (d:Int) m 0) (nY (λ n m i=>fc n (gI n) b (d:Int) m i) b.By.length (λ i=>∀ j,j<i->(bW (lat b.By (j:Int)).Mr=true/\d<32/\∀ s∈(lat b.By (j:Int)).J',s.length<=4096/\validD s=true/\pH s=false)/\GB (d+1) (lat b.By (j:Int)).Mp) (·≠0) (λ i hi h P p1 p2=>?_) (by simp_all [fc,ac]) lt0)) (λ g=>?_) (λ e he q=>absurd q he)
 ·have hm:lat b.By (i:Int)∈b.By:=mz O;have hll:=(hb.eBlocks _ hm).bLabels;unfold ei at hll;simp only [fc];refine ap O (am O (ak _ (Gg _) (aH (λ _=>ac (p1 _ (by decide))) (λ q=>?_))));have q:bW (lat b.By (i:Int)).Mr=true:=by grind
  refine oc (bc (f:=λ n m=>fj n b (i:Int) m 0) (nY (λ n m k=>fj n b (i:Int) m k) (lat b.By (i:Int)).J'.length (λ t=>∀ k,k<t->(lat (lat b.By (i:Int)).J' (k:Int)).length<=4096/\validD (lat (lat b.By (i:Int)).J' (k:Int))=true/\pH (lat (lat b.By (i:Int)).J' (k:Int))=false) (·=.inr 1) (λ t ht g P p1 p2=>?_) (by simp_all [fj,ac]) lt0)) (λ g=>?_) (λ e he=>?_)
  ·simp only [fj];refine ap O (aW (λ u=>u=false->(lat (lat b.By (i:Int)).J' (t:Int)).length<=4096/\validD (lat (lat b.By (i:Int)).J' (t:Int))=true/\pH (lat (lat b.By (i:Int)).J' (t:Int))=false) (am O (ak _ (Ps _) (aH (λ _=>ac nofun) λ v=>?_))) λ u hu=>aH (λ _=>ac (p1 _ rfl)) λ q=>am aV (p2 (lt1 g (hu (by grind)))))
   ·simp only [Bool.not_eq_true',Bool.not_eq_false,py,decide_eq_true_eq] at v;exact am O (ak _ (Be _ O) (ac λ h=>⟨v.1,v.2,h⟩))
  ·refine aH (λ _=>ac (p1 _ (by decide))) (λ c=>am aV ?_);exact aW _ (ih _ hm (d+1) O) (λ r hr=>aH (λ z=>am aV (p2 (lt1 h ⟨⟨q,by omega,wJ g⟩,hr z⟩))) λ z=>ac (p1 _ z))
  grind
 ·refine ac λ _=>.mk (wJ λ j hj=>(h j hj).1) ?_ (wJ λ j hj=>(g j hj).1) (wJ λ j hj=>(g j hj).2);rw [List.Nodup,List.pairwise_iff_getElem];intro i j hi hj hij;have hj:j<b.B'.length:=by grind
  have:=(h j hj).2 i hij;rw [me _ _ hj,me _ _ O] at this
  grind
theorem Su {e:ab}(hb:ab.Bd e):Ev2 (λ n _=>qj n [e]) (λ r=>r=true->chk e=0/\cQ e<=300):=by
 simp only [qj];refine oc (bc (f:=λ n m=>gr n [e] m 0) (nY (λ n m i=>gr n [e] m i) 1 (λ i=>i=1->chk e=0/\cQ e<=300) (·=false) (λ i hi h P p1 p2=>?_) (by simp_all [gr,ac]) nofun)) (λ h=>ac λ _=>h rfl) (λ r h q=>by grind);obtain rfl:i=0:=by omega
 simp only [gr];refine ap G (aW (λ u=>u=false->chk e=0/\cQ e<=300) (am G (aW _ (zm hb 300 (by decide) (by decide)) λ r hr=>aH (λ _=>ac nofun) λ q=>am G (ak _ (Ha (C9 hb)) (ac λ h=>⟨by have h:(!decide (chk e=0))=false:=h; grind,by grind⟩)))) λ u hu=>aH (λ _=>ac (p1 _ rfl)) λ q=>am aV (p2 λ _=>hu (by grind)))
theorem Ky {b:av}(hb:av.Bd b):Ev2 (λ n _=>nX n [b]) (λ r=>r=true->GB 0 b/\jR b<=300):=by
 simp only [nX];refine oc (bc (f:=λ n m=>eT n [b] m 0) (nY (λ n m i=>eT n [b] m i) 1 (λ i=>i=1->GB 0 b/\jR b<=300) (·=false) (λ i hi h P p1 p2=>?_) (by simp_all [eT,ac]) nofun)) (λ h=>ac λ _=>h rfl) (λ r h q=>by grind);obtain rfl:i=0:=by omega
 simp only [eT,pM];refine ap G (aW (λ u=>u=false->GB 0 b/\jR b<=300) (am G (aW _ (Fx hb) λ r hr=>aH (λ _=>ac nofun) λ q=>am G (aW (λ r=>r=0->GB 0 b) (aW _ (HM b hb 0 (by decide)) λ r h=>ac h) λ r h=>ac λ z=>⟨h (by grind),hr (by grind)⟩))) λ u hu=>aH (λ _=>ac (p1 _ rfl)) λ q=>am aV (p2 λ _=>hu (by grind)))
theorem Og (h:p:=by
 exact ar O (ac (eqB (by rw [decide_eq_true_eq,decide_eq_true_eq]; omega)))):p:=h
theorem Am (h:p:=by simp only [aq,List.length_nil]; omega):p:=h
theorem xm (h:p:=by simp only [n8,aq,List.length_nil]; omega):p:=h
theorem LR (s:Bk)(hs:s.length<=1000000000):∀ (k i:Nat) (f:Bk),i+k=s.length->f.length<=6*i+1->Ev2 (λ _ m=>fq s m (i:Int) f) (·=f++(s.drop i).flatMap d8):=by
 intro k
 induction k with
 | zero=>
  intro i f hi hf;refine aM ?_;simp only [fq];refine ar O (ac ?_);rw [List.drop_of_length_le O]; simp
 | succ k ih=>
  intro i f hi hf;refine aM ?_;simp only [fq];refine ap O (am O ?_);have hb:byt s i=((s.getD i 0).toNat:Int):=f0 s i;rw [hb]
  have hd:s.drop i=s.getD i 0::s.drop (i+1):=by
   rw [List.getD_eq_getElem?_getD,List.getElem?_eq_getElem O,Option.getD_some];exact List.drop_eq_getElem_cons O
  rw [hd,List.flatMap_cons];generalize s.getD i 0=b;have hbl:=b.toNat_lt;have he:=wQ b;refine ak (f++d8 b) ?_ ?_
  ·refine aH (λ h1=>?_) (λ h1=>aH (λ h2=>?_) (λ h2=>aH (λ h3=>?_) (λ h3=>?_)))
   ·rw [C1 O];exact ak _ (aA (Af f [92,110] Am) rfl) (ac rfl)
   ·rw [Ci O];exact ak _ (aA (Af f [92,114] Am) rfl) (ac rfl)
   ·rw [BB O];exact ak _ (aA (Af f [92,116] Am) rfl) (ac rfl)
   refine ak (decide (b.toNat=34\/b.toNat=92)) ?_ ?_
   ·by_cases h:b.toNat=34
    ·exact ap O (ac (by simp [h]))
    ·exact Og
   by_cases h4:b.toNat=34\/b.toNat=92
   ·rw [B6 h4];refine ap (by simp [h4]) ?_;refine ak _ (aA (xr f 92 O) rfl) (ak _ (aA (xr (f++[92]) b xm) rfl) (ac ?_));simp
   refine ar (by simp only [decide_eq_true_eq]; exact h4) ?_;refine ak (decide (b.toNat<32\/b.toNat=127)) ?_ ?_
   ·by_cases h:b.toNat<32
    ·exact ap O (ac (by simp [h]))
    ·exact Og
   by_cases h5:b.toNat<32\/b.toNat=127
   ·rw [Bw O O O h5];refine ap (by simp [h5]) (am aV ?_)
    have hx:jL (b.toNat:Int) 16=some (eg b.toNat):=by
     unfold jL;rw [cM ⟨Z,by omega,by omega⟩]; rfl
    have hxl:=wh b.toNat;refine ak _ (aA hx Z) (am Am (am xm ?_));exact ak _ (aA (Af f _ xm) Z) tJ
   ·rw [yc O O  h5];refine ar (by simp only [decide_eq_true_eq]; exact h5) ?_;exact ak _ (aA (xr f b O) rfl) (ac rfl)
  ·refine am aV ?_;have:=ih (i+1) (f++d8 b) O (by rw [n8]; omega);rw [Int.natCast_add,Int.natCast_one] at this;simpa using this
theorem Dn (s:Bk)(hs:s.length<=1000000000):Ev2 (λ n _=>j8 n s) (·=iL s):=by
 simp only [j8];have hf:=jQ s;refine ak _ (aA (xr [] 34 G) rfl) ?_;have l:=LR s hs s.length 0 [34] O G;rw [List.drop_zero] at l;refine ak _ (bc l) ?_;refine ak _ (aA (xr _ 34 xm) rfl) (ak _ (aA (QR _ xm) rfl) (ac ?_));simp [iL]
theorem rl (h:p:=by exact ar (nk Z) (ac Z)):p:=h
theorem Aa (h:p:=by exact am (by grind) (ac G)):p:=h
abbrev tO:Bk:=[36,123]
abbrev tN:Bk:=[36,36,123]
theorem LQ (b:UInt8)(r:Bk):tO.isPrefixOf (b::r)=true↔b=36/\r.head? = some 123:=by
 cases r with
 | nil=>grind
 | cons c t=>
  grind
theorem GN:∀ (n:Nat) (s:Bk) (k:Nat),s.length<=n->count s tO<=k->replaceK tO tN k s=nK s
 | _,[],k,_,_=>by
  cases k with
  | zero=>rfl
  | succ k=>rfl
 | n+1,b::r,k,hn,hk=>by
  simp only [aq] at hn;by_cases hp:tO.isPrefixOf (b::r)=true
  ·obtain ⟨rfl,h2⟩:=(LQ b r).1 hp
   obtain ⟨t,rfl⟩:∃ t,r=123::t:=by
    cases r with
    | nil=>cases h2
    | cons c t=>grind
   have hi:index (36::123::t) tO=((0:Nat):Int):=by grind [index]
   have hc:=count_hit (sub:=tO) (by decide) hi;have hc:count (36::123::t) tO=1+count t tO:=by grind
   obtain ⟨k,rfl⟩:∃ j,k=j+1:=⟨k-1,by omega⟩
   rw [replaceK_hit _ _ _ _ 0 hi];have ih:=GN n t k (by grind) O
   grind [nK]
  ·have hp':tO.isPrefixOf (b::r)=false:=Bool.eq_false_iff.2 hp;have Vs:¬ (b=36/\r.head? = some 123):=λ h=>hp ((LQ b r).2 h);have hx:index (b::r) tO=if index r tO == -1 then -1 else index r tO+1:=by simp [index,hp']
   have hge:=index_ge r tO;have he:nK (b::r)=b::nK r:=by simp [nK,Vs]
   by_cases hm:index r tO=-1
   ·rw [hm] at hx;have hx:index (b::r) tO=-1:=by grind
    have ih:=GN n r k O (by grind [count_miss])
    have h1:replaceK tO tN k (b::r)=b::r:=by
     cases k with
     | zero=>rfl
     | succ k=>grind [replaceK]
    have h2:replaceK tO tN k r=r:=by
     cases k with
     | zero=>rfl
     | succ k=>grind [replaceK]
    grind
   ·obtain ⟨i,hi⟩:∃ i:Nat,index r tO=i:=⟨(index r tO).toNat,by omega⟩
    have hx:index (b::r) tO=((i+1:Nat):Int):=by
     grind
    have c1:=count_hit (sub:=tO) (by decide) hx;have c2:=count_hit (sub:=tO) (by decide) hi
    have hd:(b::r).drop (i+1+tO.length)=r.drop (i+tO.length):=by
     grind
    rw [hd] at c1;obtain ⟨k,rfl⟩:∃ j,k=j+1:=⟨k-1,by omega⟩
    have ih:=GN n r (k+1) O O;rw [replaceK_hit _ _ _ _ (i+1) hx,hd,he,<- ih,replaceK_hit _ _ _ _ i hi];simp
theorem Q8 (s:Bk):replaceAll s tO tN=nK s:=by
 unfold replaceAll replace;rw [if_neg (by decide)];refine GN s.length s _ (bt _) ?_
 grind [replaceNum]
theorem w7:∀ (n:Nat) (s:Bk),s.length<=n->count s tO*2<=s.length
 | 0,s,h=>by
  obtain rfl:=List.eq_nil_of_length_eq_zero (by omega:s.length=0);rw [count_miss rfl]; simp
 | n+1,s,h=>by
  by_cases hm:index s tO=-1
  ·grind [count_miss]
  ·have hge:=index_ge s tO;obtain ⟨i,hi⟩:∃ i:Nat,index s tO=i:=⟨(index s tO).toNat,by omega⟩
   have hr:=index_room s tO O;have c:=count_hit (sub:=tO) (by decide) hi;have hl:tO.length=2:=rfl;rw [hl] at hr c;have ih:=w7 n (s.drop (i+2)) (by grind)
   grind
theorem Hs (s:Bk)(hs:s.length<=1000000):kH s=some (nK s):=by
 grind [kH,strings_ReplaceAll,w7,eZ,cM,Q8]
theorem Ir (s:Bk):sub (iL s) 1 (((iL s).length:Int)-1)=s.flatMap d8:=by
 have e:(((iL s).length:Int)-1)=(((s.flatMap d8).length+1:Nat):Int):=by simp [iL]
 rw [e,<- Int.natCast_one,qJ];simp [iL]
theorem zv (s:Bk)(hs:s.length<=300000):Ev2 (λ n _=>jG n s) (·=quo s):=by
 simp only [jG];have h2:=pO s;have h1:=jQ (nK s);have hq:(iL (nK s)).length=((nK s).flatMap d8).length+2:=by simp [iL]
 refine ak _ (aA (Hs s O) Z) (ak _ (Dn _ O) (am aV (am O (ac ?_))));rw [Ir]; rfl
theorem nk {a b:Int}(h:(a==b)=false):¬ a=b:=by grind
theorem Sr {v:ag}(h:Az v):Ev2 (λ n _=>jN n v) (·=HI v):=by
 simp only [jN]
 cases h with
 | null=>exact ar (nk Z) (ar (nk Z) (ar (nk Z) (ac Z)))
 | bool n h=>
  rcases h with rfl|rfl
  ·exact ap Z rl
  ·exact ap Z oR
 | num n h0 h1=>
  have:kF n=some (itoa n):=by
   grind [kF,strconv_Itoa,kO,cM,fL]
  exact ar (nk Z) (ap Z (ak _ (aA this rfl) (ac Z)))
 | str s hs hl=>
  have h1:=pO s;have h2:=jQ (nK s);exact ar (nk Z) (ar (nk Z) (ap Z (ak _ (zv s O) (am (by grind [quo]) (am (by grind [quo]) (ac Z))))))
theorem BK {x:ab}(h:Shp x):ka x=some (lvX x:Int):=by
 unfold ka lvX
 cases h with
 | bin o x y a h=>
  have:o=3\/o=4\/o=5\/o=6\/o=7\/o=8\/o=9\/o=10\/o=11\/o=12\/o=13\/o=14\/o=15:=by omega
  rcases this with rfl|rfl|rfl|rfl|rfl|rfl|rfl|rfl|rfl|rfl|rfl|rfl|rfl <;> rfl
 | loop m=>cases m <;> rfl
 | _=>rfl
theorem F7 {o:Int}(h0:0<=o)(h1:o<16):lw o=some (opX o):=by
 unfold lw;rw [if_neg O,rg,if_neg (by grind),cM ⟨h0,h1⟩]
 rfl
theorem GA {o:Int}(h0:0<=o)(h1:o<16):(opX o).length<=2:=by
 obtain ⟨k,rfl⟩:∃ k:Nat,o=k:=⟨o.toNat,by omega⟩
 unfold opX;rw [A4];have:∀ j:Fin 16,(sgnL.getD j.1 default).length<=2:=by decide
 exact this ⟨k,by omega⟩
theorem zc {x:ab}{t:Bk}(hs:Shp x)(hx:Ev2 (λ n _=>aK n x) (·=t))(hl:t.length<=1000000000)(k:Nat):Ev2 (λ n _=>jE n x (k:Int)) (·=prt false k x t):=by
 refine bD ?_;simp only [jE];unfold prt;refine ak _ (aA (BK hs) Z) (aH (λ h=>?_) λ h=>?_)
 ·rw [if_pos (.inr O)];exact ak _ hx (am (by grind) Aa)
 grind
theorem vf (n:Nat)(x:ab)(t:Bk):(prt false n x t).length<=t.length+2:=by
 grind [prt]
theorem OU (s:Bk)(hs:s.length<=1000000):∀ (k i:Nat),i+k=s.length->Ev2 (λ _ m=>eb s m (i:Int)) (·=if pF (tP s) i k then .inl () else .inr false):=by
 intro k
 induction k with
 | zero=>
  intro i hi;refine aM ?_;simp only [eb];exact tH
 | succ k ih=>
  intro i hi;have hb:=rW (s.getD i 0);have hd:=ns (s.getD i 0);have ho:=Ji (s.getD i 0);refine aM ?_;simp only [eb,f0];refine ap O (am O ?_);refine ak (!tP s i) (am O ?_) ?_
  ·refine aH (λ h1=>ac ?_) (λ h1=>?_)
   ·grind [nH]
   ·have rest:¬ (97<=iOr .u8 ((s.getD i 0).toNat:Int) 32/\iOr .u8 ((s.getD i 0).toNat:Int) 32<=122)->Ev2 (λ _ _=>if (i:Int)=0 then some true else ck ((0:Int)<=(i:Int)/\(i:Int)<(s.length:Int))<|if ((s.getD i 0).toNat:Int)<48 then some true else ck ((0:Int)<=(i:Int)/\(i:Int)<(s.length:Int))<|some (decide (57<((s.getD i 0).toNat:Int)))) (·=!tP s i):=by
     intro hn
     have hl:kD (s.getD i 0)=false:=by
      grind
     refine aH (λ h2=>ac ?_) (λ h2=>am O (aH (λ h3=>ac ?_) (λ h3=>am O (ac ?_))))
     ·grind [tP]
     ·grind [tP]
     grind [nH]
    refine aH (λ h2=>rest O) (λ h2=>aH (λ h3=>rest O) (λ h3=>ac ?_))
    grind [nH]
  ·cases hk:tP s i with
   | false=>simp_all [ac,pF]
   | true=>
    refine ar G (am aV ?_);simp only [pF,hk,Bool.true_and];exact lS (P:=λ j=>Ev2 (λ _ m=>eb s m j) _) (ih (i+1) O)
theorem Pu (s:Bk)(hs:s.length<=1000000):Ev2 (λ n _=>nW n s) (·=(bW s&&!iO s)):=by
 simp only [nW];have l:=OU s hs s.length 0 O;have hi:=mV s;refine gh (cH (bc (f:=λ _ m=>eb s m 0) l) (λ r hr=>?_));subst hr
 cases ha:pF (tP s) 0 s.length with
 | false=>
  grind
 | true=>
  refine ak (decide (s=[])||iO s) ?_ ?_
  ·have hr:=zZ s;unfold ij at hr;by_cases h0:s=[]
   ·simp_all [ac]
   simp_all [aA]
  ·refine aH (λ h=>ac ?_) (λ h=>ac ?_)
   ·grind
   grind
theorem Sp {x:ab}{t:Bk}(hs:Shp x)(hx:Ev2 (λ n _=>aK n x) (·=t))(hl:t.length<=1000000000):Ev2 (λ n _=>jq n x) (·=vF x t):=by
 refine bD ?_;simp only [jq];unfold vF;by_cases h:x.Ar=1/\x.BY.Ar=3
 ·have hv:x.BY.D'.length<=1000000:=by
   cases hs with
   | lit v a hv=>
    cases hv with
    | str s _ hl=>show s.length<=1000000; omega
    | _=>exact ph _
   | _=>simp [ab.BY,ag.D',v0]
  rw [if_pos h];refine ak true (ap h.1 (ac (decide_eq_true h.2))) (ap rfl (ak _ (Pu _ hv) (aH (λ q=>ac ?_) λ q=>ak _ hx (ac ?_))))
  ·grind
  grind
 ·rw [if_neg h];refine ak false (aH (λ h1=>ac (by grind)) λ _=>ac rfl) (ar (by decide) (aH (λ q=>?_) λ q=>?_))
  ·grind
  ·rw [if_neg q]; exact ak _ hx (am (by grind) Aa)
theorem Gc (x:ab)(t:Bk):(vF x t).length<=t.length+66:=by
 grind [vF,mV]
theorem Gu:∀ ts:List Bk,join ts [44,32]=itF ts
 | []=>rfl
 | [t]=>by simp_all [join,itF]
 | t::u::r=>by
  rw [itF,<- Gu (u::r)]
  simp_all [join]
theorem DV:∀ ts:List Bk,(itF ts).length<=(ts.map λ t=>t.length+2).sum
 | []=>bt _
 | [t]=>by simp [itF]
 | t::u::r=>by
  have:=DV (u::r)
  grind [itF]
theorem yX (ts:List Bk)(h1:ts.length<=1000000)(h2:(itF ts).length<=1000000000):strings_Join ts [44,32]=some (itF ts):=by
 grind [Gu,strings_Join,cM]
theorem Qq {l:List ab}(hl:l.length<=1000){f:Nat->ab->Option Bk}{g:ab->Bk}(hf:∀ x∈l,Ev2 (λ n _=>f n x) (·=g x)) :
  Ev2 (λ n _=>dG (f n) l n [] 0) (·=l.map g):=by
 have loop:∀ (k i:Nat) (o:List Bk),i+k=l.length->o.length=i->Ev2 (λ n m=>dG (f n) l m o (i:Int)) (·=o++(l.drop i).map g):=by
  intro k
  induction k with
  | zero=>
   simp_all [aM,dG,ac]
  | succ k ih=>
   intro i o hi ho;refine aM ?_;simp only [dG];refine ap O (am O (ak _ (hf _ p6) (am (by grind) (am aV ?_))));refine cH (lS (P:=λ j=>Ev2 (λ n m=>dG (f n) l m (o++[g (lat l (i:Int))]) j) _) (ih (i+1) _ O (by grind))) (λ r hr=>?_)
   grind [gi]
 refine bc (f:=λ n m=>dG (f n) l m [] 0) (cH (loop l.length 0 [] O rfl) (λ r hr=>?_))
 grind
theorem M0 (h:p:=by
 rw [hcm];refine ⟨bD ?_,by grind⟩;simp only [aK,ab.A']
 repeat' first|refine ar (nk Z) ?_|refine ak false (ar (nk Z) (ac Z)) (ar (by decide) ?_)|refine ak true (ap Z (ac Z)) (ap Z ?_)|fail
 refine ak true (ap Z (ac (decide_eq_true WZ))) (ap Z (ak _ hle (am (by grind) (am (by grind) (ac Z)))))):p:=h
theorem NC (h:p:=by
 exact ak _ (zv _ (by grind)) (am (by grind) (ak _ (aA (Af o _ (by grind)) Z) (ac (by grind))))):p:=h
theorem KJ (h:p:=by exact am (by grind) (am (by grind [List.length_append,List.length_cons]) (ac Z))):p:=h
theorem gv (h:p:=by simp [ab.A']):p:=h
theorem KO (h:p:=by exact Lm (l:=l) O (λ x hx=>(IH x hx).1) O):p:=h
theorem LL (h:p:=by exact am G (ak _ hd (am (by grind) (am (by grind [List.length_append,List.length_cons]) (am G (ac Z)))))):p:=h
def mpG:List ab->List Bk->List Bk|x::_::r,t::u::q=>(vF x t++[32,61,32]++u)::mpG r q|_,_=>[]
theorem LB (f:ab->Bk):∀ l:List ab,l.length%2=0->itF (mpG l (l.map f))=enF l (l.map f)
 | [],_=>rfl
 | [_],h=>by simp at h
 | [k,x],_=>by simp [mpG,enF,itF]
 | [_,_,_],h=>by simp at h
 | k::x::k2::x2::r,h=>by
  have ih:=LB f (k2::x2::r) (by grind)
  simp_all [mpG,itF,enF]
theorem F4 (f:ab->Bk):∀ (n:Nat) (l:List ab),l.length<=n->(∀ x∈l,(f x).length+1000<=60000*cQ x)->((mpG l (l.map f)).map λ t=>t.length+2).sum<=60000*cC l/\(mpG l (l.map f)).length<=l.length
 | _,[],_,_=>by simp [mpG]
 | _,[x],_,_=>by simp [mpG]
 | 0,x::y::r,h,_=>by simp at h
 | n+1,x::y::r,h,hw=>by
  have ih:=F4 f n r (by grind) (λ z hz=>hw z (by simp [hz]))
  grind [Gc,mpG,cC]
section
variable {l:List ab} {f h:Nat->ab->Option Bk} {g:ab->Bk}
theorem P1 (hl:l.length<=1000)(hf:∀ x∈l,Ev2 (λ n _=>f n x) (·=g x))(hk:∀ x∈l,Ev2 (λ n _=>h n x) (·=vF x (g x)))(hg:∀ x∈l,(g x).length<=100000000/\(vF x (g x)).length<=100000000) :
  ∀ (k i:Nat) (o:List Bk),i+k=l.length->o.length<=i->Ev2 (λ n m=>d7 (f n) (h n) l m o (i:Int)) (·=o++mpG (l.drop i) ((l.drop i).map g)):=by
 intro k
 induction k using Nat.strongRecOn with
 | ind k ih=>
  intro i o hi ho;refine aM ?_;simp only [d7];refine am aV (aH (λ hlt=>?_) (λ hlt=>ac ?_))
  ·have hx:lat l (i:Int)∈l:=mz O;have e1:(i:Int)+1=((i+1:Nat):Int):=by omega
   have e2:(i:Int)+2=((i+2:Nat):Int):=by omega
   have hy:lat l ((i+1:Nat):Int)∈l:=mz O;have g1:=hg _ hx;have g2:=hg _ hy;rw [gi l (i:=i) O,gi l (i:=i+1) O];simp only [n7,mpG,e1,e2];refine am O (ak _ (hk _ hx) (am (by grind) (am aV (am O (ak _ (hf _ hy) ?_)))));refine am (by grind) (am (by grind) (am aV ?_));refine cH (ih (k-2) O (i+2) _ O (by grind)) (λ r hr=>?_)
   grind
  grind [gi,List.drop_eq_nil_of_le,mpG]
end
theorem Nc (f:ab->Bk):∀ (l:List ab),(∀ x∈l,(f x).length+1000<=60000*cQ x)->((l.map f).map λ t=>t.length+2).sum<=60000*cC l
 | [],_=>by grind
 | x::r,h=>by
  have h1:=Nc f r (λ y hy=>h y (by simp [hy]))
  grind [cC]
theorem T1 (s:Bk):hasSuffix s [36]=decide (s.getLast? = some 36):=by
 rcases List.eq_nil_or_concat s with rfl|⟨w,z,rfl⟩
 ·rfl
 ·unfold hasSuffix;refine eqB ?_;rw [List.isSuffixOf_iff_suffix,decide_eq_true_eq];constructor
  ·simp_all
  grind
theorem FR {x:ab}(hs:Shp x)(hp:kC x=true)(last:Bool):x.BY.D'.length<=4096/\(qA x.BY.D' last).length<=50000:=by
 obtain ⟨s,a,rfl,h1,h2⟩:=EF hs hp;have h3:=pO s;have h4:=jQ (nK s);have h5:=pO s.dropLast;have h6:=jQ (nK s.dropLast);have h7:=List.length_dropLast (xs:=s);refine ⟨h2,?_⟩;show (qA s last).length<=50000
 grind [qA,quo,List.length_nil]
theorem Mt (e:ab):mc e=some (kC e):=by
 grind [mc,kC]
theorem Mk (big:Bool)(f:ab->Bk):∀ (l:List ab) (b:Bool),(∀ x∈l,Shp x)->(∀ x∈l,(f x).length+1000<=60000*cQ x)->(tmF big (l.map λ x=>(x,f x)) b).length<=60000*cC l
 | [],_,_,_=>by simp [tmF]
 | x::r,b,hs,hw=>by
  have h1:=λ b=>Mk big f r b (λ y hy=>hs y (by simp [hy])) (λ y hy=>hw y (by simp [hy]))
  grind [tmF,cC,FR]
theorem O6 {l:List ab}{f:ab->Bk}(hl:l.length<=1000)(hs:∀ x∈l,Shp x)(hf:∀ x∈l,Ev2 (λ n _=>aK n x) (·=f x))(hn:(tmF (decide (1<l.length)) (l.map λ x=>(x,f x)) false).length<=1000000000):Ev2 (λ n _=>jD n l) (·=34::(tmF (decide (1<l.length)) (l.map λ x=>(x,f x)) false++[34])):=by
 refine bD ?_;simp only [jD];generalize hb:decide (1<l.length)=big at hn ⊢;generalize hW:tmF big (l.map λ x=>(x,f x)) false=W at hn ⊢;refine ak _ (aA (xr [] 34 G) Z) ?_;refine ak (34::W) (bc (f:=λ n m=>dd n (aK n) l m false 0 ([]++[34])) ?_) ?_
 ·refine se (λ n m i (s:Bool×Bk)=>dd n (aK n) l m s.1 i s.2) l.length (λ i s=>s.2++tmF big ((l.drop i).map λ x=>(x,f x)) s.1=34::W) (λ i s hi h k=>?_) (λ s h=>?_) (false,[]++[34]) (by grind)
  ·obtain ⟨b,o⟩:=s;have hx:lat l (i:Int)∈l:=mz O;have Pn:=congrArg List.length h;rw [gi l hi,n7,tmF] at h;have he:((l.drop (i+1)).map λ x=>(x,f x)).isEmpty=decide (l.length<=i+1):=eqB (by simp_all);rw [he] at h;simp only [dd];generalize lat l (i:Int)=x at h hx ⊢;generalize tmF big ((l.drop (i+1)).map λ x=>(x,f x))=R at h k;refine ap O (aW (λ q:Bool×Bk=>q.2++R q.1=34::W) ?_ λ q hq=>am aV (k (q.1,q.2) hq));refine am O (ak (kC x&&!b&&big) ?_ ?_)
   ·refine ak _ (aA (Mt x) Z) ?_;rw [<- hb]
    cases kC x <;> cases b
    ·simp_all [ac]
    ·simp_all [ac]
    ·exact ap Z (ap Z (ac (eqB jW)))
    simp_all [ac]
   by_cases hT:(kC x&&!b&&big)=true
   ·rw [if_pos hT] at h;rw [hT];simp only [py] at hT;obtain ⟨p1,p2⟩:=FR (hs x hx) hT.1.1 (decide (l.length<=i+1))
    have Vs:x.BY.D'≠[]:=by
     grind [kC]
    have hpos:=List.length_pos_iff.2 Vs;have hl2:=congrArg List.length h;simp only [n8,aq] at hl2;refine ar (by decide) ?_;refine ak (if decide (l.length<=i+1)=false/\x.BY.D'.getLast? = some 36 then (x.BY.D'.dropLast,[92,117,123,50,52,125]) else (x.BY.D',[])) (ak (decide (decide (l.length<=i+1)=false/\x.BY.D'.getLast? = some 36)) ?_ (aH (λ q=>?_) λ q=>ac ?_)) ?_
    ·refine am aV (aH (λ q=>?_) λ q=>ac ?_)
     ·have:strings_HasSuffix x.BY.D' [36]=some (decide (x.BY.D'.getLast? = some 36)):=by
       grind [strings_HasSuffix,cM,T1]
      refine ak _ (aA this rfl) (ac ?_)
      grind
     grind
    ·rw [if_pos (of_decide_eq_true q)];refine am aV (am O (ac ?_))
     grind [qJ,List.dropLast_eq_take]
    ·grind
    ·have h7:=List.length_dropLast (xs:=x.BY.D');unfold qA at h hl2 p2;split
     ·rename_i q;rw [if_pos q] at h hl2 p2;simp only [n8,aq,List.length_nil] at p2 hl2;exact NC
     ·rename_i q;rw [if_neg q] at h hl2 p2;exact NC
   ·rw [if_neg hT] at h;have hT:(kC x&&!b&&big)=false:=by grind
    rw [hT];have hl2:=congrArg List.length h;simp only [n8,aq] at hl2;exact ap rfl (ak _ (hf x hx) (am (by grind) (am (by grind) (ak _ (aA (Af o _ (by grind)) rfl) yk))))
  simp_all [dd,ac,tmF]
 ·refine ak _ (aA (xr _ 34 (by grind)) Z) (ak _ (aA (QR _ (by grind)) Z) tJ)
theorem Lm {l:List ab}{f:ab->Bk}(hl:l.length<=1000)(hf:∀ x∈l,Ev2 (λ n _=>aK n x) (·=f x))(hn:(itF (l.map f)).length<=1000000000):Ev2 (λ n _=>lu n l) (·=itF (l.map f)):=by
 refine bD ?_;simp only [lu];exact ak _ (Qq (f:=λ n x=>aK n x) (g:=f) hl hf) (ak _ (aA (yX _ (by grind) hn) Z) (ac Z))
def lpT (m:Bool)(nm ky:Bk)(ks:List ab)(ts:List Bk):Bk :=102::111::114::32::((if ky=[] then [] else ky++[44,32])++(nm++32::105::110::32::(pX false 0 ks ts 0++32::58::32::(pX false 0 ks ts 1 ++ ((if m then 32::61::62::32::pX false 0 ks ts 2 else [])++(if (if m then 3 else 2)<ks.length then 32::105::102::32::pX false 0 ks ts (if m then 3 else 2) else []))))))
theorem Sa (m:Bool)(nm ky:Bk)(ks:List ab)(ts:List Bk):lpX false m nm ky ks ts=lpT m nm ky ks ts++[if m then 125 else 93]:=by
 simp [lpX,lpT]
theorem yE (x:ab)(t:Bk):prt false 0 x t=t:=by
 grind [prt]
theorem PG {f:ab->Bk}{m:Bool}{s y:Bk}{x c:ab}{dl fl:List ab}{a:Int}(hs:s.length<=1000)(hy:y.length<=1000)(hd:m=false/\dl=[]\/m=true/\∃ d,dl=[d])(hf:fl=[]\/∃ f,fl=[f])(he:∀ z∈[x,c]++dl++fl,Ev2 (λ n _=>aK n z) (·=f z)/\(f z).length<=100000000) :
  Ev2 (λ n _=>lq n (ab.mk (if m then 13 else 12) 0 s y v0 ([x,c]++dl++fl) a)) (·=lpT m s y ([x,c]++dl++fl) (([x,c]++dl++fl).map f)):=by
 refine bD ?_;simp only [lq,ab.It,ab.AT,ab.A',ab.Ar];obtain ⟨hx,lx⟩:=he x G;obtain ⟨hc,lc⟩:=he c G;unfold lpT pX;generalize hS:(if y=[] then [] else y++[44,32])=S
 have hSl:S.length<=1002:=by
  grind
 refine ak ([102,111,114,32]++S) (aH (λ h=>ac (by grind)) λ h=>am (by grind) (am (by grind) yk)) ?_
 have hsub:sub ([x,c]++dl++fl) 2 (([x,c]++dl++fl).length:Int)=dl++fl:=by
  rw [show (2:Int)=((2:Nat):Int) from rfl,qJ,List.take_length]; simp
 simp only [hsub];refine am (by grind) (am (by grind) (ak _ hx (am (by grind) (am (by grind) (am (by grind) (ak _ hc (am (by grind) (am (by grind) (am (by grind) ?_)))))))));rcases hd with ⟨rfl,rfl⟩|⟨rfl,d,rfl⟩ <;> rcases hf with rfl|⟨g,rfl⟩
 ·simp_all [ac,yE]
 ·obtain ⟨hg,lg⟩:=he g G;refine ak _ (ar G (ac Z)) (ak _ (ap G (am G (ak _ hg (am (by grind) (am (by grind [List.length_append,List.length_cons]) (ac Z)))))) (ac ?_));simp [yE]
 ·obtain ⟨hd,ld⟩:=he d G;refine ak _ (ap G (am G (ak _ hd (am (by grind) (am (by grind [List.length_append,List.length_cons]) (am G (ac Z))))))) (ak _ (ar (show ¬ (0:Int)<0 by decide) (ac rfl)) (ac ?_));simp [yE]
 ·obtain ⟨hd,ld⟩:=he d G;obtain ⟨hg,lg⟩:=he g G;refine ak _ (ap G (am G (ak _ hd (am (by grind) (am (by grind [List.length_append,List.length_cons]) (am G (ac Z))))))) (ak _ (ap (show (0:Int)<1 by decide) (am (show (0:Int)<=0/\(0:Int)<1 by decide) (ak _ hg (am (by grind) (am (by grind [List.length_append,List.length_cons]) (ac Z)))))) (ac ?_));simp [yE]
theorem xL {s:Bk}(h:bW s=true):s.length<=64:=((mV s).1 h).2.1
theorem P2 {v:ag}(h:Az v):(HI v).length<=50000:=by
 cases h with
 | null=>decide
 | bool n hn=>rcases hn with rfl|rfl <;> decide
 | num n h0 h1=>have:=Kc h0 h1; show (itoa n).length<=50000; omega
 | str s hs hl=>
  have h1:=pO s;have h2:=jQ (nK s);show (34::(quo s++[34])).length<=50000
  grind [quo]
theorem xU {lv:Nat}{e:ab}(h:VE lv e):cQ e<=300->Ev2 (λ n _=>aK n e) (·=bw e)/\(bw e).length+1000<=60000*cQ e:=by
 induction h with
 | @mk lv e h hs hc hb hk ih=>
  intro hN;rw [lr] at hN ⊢;have IH:∀ x∈e.A',Ev2 (λ n _=>aK n x) (·=bw x)/\(bw x).length+1000<=60000*cQ x:=λ x hx=>ih x hx (by have:=lE hx; omega)
  have HS:∀ x∈e.A',Shp x:=λ x hx=>by
   exact E5
  have HL:∀ x∈e.A',(bw x).length<=100000000:=λ x hx=>by have:=(IH x hx).2; have:=lE hx; omega
  have hkn:=tC e.A';have hsum:=Nc bw e.A' λ x hx=>(IH x hx).2;have hit:=DV (e.A'.map bw);rw [uI]
  cases hs with
  | lit v a hv=>
   refine ⟨bD ?_,?_⟩
   ·simp only [aK];exact ap rfl (ak _ (Sr hv) (ac rfl))
   ·have:=P2 hv; show (HI v).length+1000<=_; omega
  | tmpl l a Vs=>
   have hcm:jM (ab.mk 2 0 [] [] v0 l a) (l.map bw)=34::(tmF (decide (1<l.length)) (l.map λ x=>(x,bw x)) false++[34]):=by
    rw [<- zipF l]; rfl
   have hl:=Mk (decide (1<l.length)) bw l false HS λ x hx=>(IH x hx).2;have hpos:=List.length_pos_iff.2 Vs;simp only [ab.A'] at hN hkn ⊢;rw [hcm];refine ⟨bD ?_,by grind⟩;simp only [aK];exact ar (nk Z) (ap Z (ak _ (O6 (l:=l) O HS (λ x hx=>(IH x hx).1) O) (ac Z)))
  | name s a hi hr=>
   refine ⟨bD ?_,?_⟩
   ·simp only [aK];exact ar (nk rfl) (ar (nk rfl) oR)
   ·have:=xL hi; show s.length+1000<=_; omega
  | call s l a hi hr=>
   have:=xL hi;simp only [ab.A'] at hN hkn hit hsum ⊢;show _/\(s++40::(itF (l.map bw)++[41])).length+1000<=_;refine ⟨bD ?_,by grind⟩;simp only [aK];refine ar (nk Z) (ar (nk Z) (ar (nk Z) (ap Z (am (by show s.length+1<=_; omega) (ak _ KO (am (by show (s++[40]).length+_<=_; grind) (am (by show ((s++[40])++_).length+_<=_; grind) (ac (by show (s++[40])++_++[41]=s++40::(itF (l.map bw)++[41]); simp)))))))))
  | list l a=>
   simp only [ab.A'] at hN hkn hit hsum ⊢;show _/\(91::(itF (l.map bw)++[93])).length+1000<=_;refine ⟨bD ?_,by grind⟩;simp only [aK];refine ar (nk rfl) (ar (nk rfl) (ar (nk rfl) (ar (nk rfl) (ap rfl (ak _ KO (am (by grind) EU))))))
  | map l a hm=>
   obtain ⟨m1,m2⟩:=F4 bw l.length l (bt _) λ x hx=>(IH x hx).2;have m3:=DV (mpG l (l.map bw));have m4:=LB bw l hm;rw [m4] at m3;simp only [ab.A'] at hN hkn ⊢;show _/\(123::(enF l (l.map bw)++[125])).length+1000<=_;refine ⟨bD ?_,by grind⟩;simp only [aK];refine ar (nk rfl) (ar (nk rfl) (ar (nk rfl) (ar (nk rfl) (ar (nk rfl) (ap rfl (ak (123::(enF l (l.map bw)++[125])) (bD ?_) (ac rfl)))))));simp only [ma];refine ak _ (bc (f:=λ n m=>d7 (aK n) (jq n) l m [] 0) (P1 (l:=l) (f:=λ n x=>aK n x) (h:=λ n x=>jq n x) (g:=bw) O (λ x hx=>(IH x hx).1) (λ x hx=>Sp (HS x hx) (IH x hx).1 (by have:=HL x hx; omega)) (λ x hx=>⟨HL x hx,by have:=Gc x (bw x); have:=(IH x hx).2; have:=lE (show x∈l from hx); omega⟩) l.length 0 [] O G)) ?_;simp only [List.drop_zero,rd];refine ak _ (aA (yX _ O (by grind)) rfl) ?_;rw [m4];exact am (by grind) Aa
  | attr s x a hi=>
   have:=xL hi;have p:=vf 8 x (bw x);have hx:=IH x gv;have hl:=HL x gv;simp only [ab.A',cC] at hN ⊢;show _/\(prt false 8 x (bw x)++46::s).length+1000<=_;refine ⟨bD ?_,by grind⟩;simp only [aK,ab.A',ab.AT]
   repeat' first|refine ar (nk Z) ?_|refine ak false rl (ar (by decide) ?_)|refine ak true oR (ap Z ?_)|fail
   exact am G (ak _ (zc (HS x gv) hx.1 O 8) (am (by grind) (am (by grind) (ac (by show _=prt false 8 x (bw x)++46::s; simp)))))
  | idx x y a=>
   have p:=vf 8 x (bw x);have hx:=IH x gv;have hy:=IH y gv;have lx:=HL x gv;have ly:=HL y gv;simp only [ab.A',cC] at hN ⊢;show _/\(prt false 8 x (bw x)++91::(prt false 0 y (bw y)++[93])).length+1000<=_;rw [yE];refine ⟨bD ?_,by grind⟩;simp only [aK,ab.A']
   repeat' first|refine ar (nk Z) ?_|refine ak false rl (ar (by decide) ?_)|refine ak true oR (ap Z ?_)|fail
   exact am G (ak _ (zc (HS x gv) hx.1 O 8) (am (by grind) (am G (ak _ hy.1 (am (by grind) (am (by grind) (ac (by show _=prt false 8 x (bw x)++91::(prt false 0 y (bw y)++[93]); simp [yE]))))))))
  | un o x a ho=>
   have p:=vf 7 x (bw x);have hx:=IH x gv;have lx:=HL x gv;have lo:=GA (o:=o) O O;simp only [ab.A',cC] at hN ⊢;show _/\(opX o++prt false 7 x (bw x)).length+1000<=_;refine ⟨bD ?_,by grind⟩;simp only [aK,ab.A',ab.fOp]
   repeat' first|refine ar (nk Z) ?_|refine ak false rl (ar (by decide) ?_)|refine ak true oR (ap Z ?_)|fail
   exact ak _ (aA (F7 O O) Z) (am G (ak _ (zc (HS x gv) hx.1 O 7) (am O (ac Z))))
  | bin o x y a ho=>
   have hlv:=BK (Shp.bin o x y a ho);generalize hn:lvX (ab.mk 7 o [] [] v0 [x,y] a)=n at hlv;have hn8:n<=8:=by grind [pW]
   have p:=vf n x (bw x);have q:=vf (n+1) y (bw y);have hx:=IH x gv;have hy:=IH y gv;have lx:=HL x gv;have ly:=HL y gv;have lo:=GA (o:=o) O O;have hcm:jM (ab.mk 7 o [] [] v0 [x,y] a) ([x,y].map bw)=prt false n x (bw x)++32::(opX o++32::prt false (n+1) y (bw y)):=by rw [<- hn]; rfl
   have ha:=zc (HS y gv) hy.1 O (n+1);rw [Int.natCast_add,Int.natCast_one] at ha;simp only [ab.A',cC] at hN ⊢;rw [hcm];refine ⟨bD ?_,by grind⟩;simp only [aK,ab.A',ab.fOp]
   repeat' first|refine ar (nk Z) ?_|refine ak false rl (ar (by decide) ?_)|refine ak true oR (ap Z ?_)|fail
   exact ak _ (aA hlv Z) (am G (ak _ (zc (HS x gv) hx.1 O n) (am (by grind) (ak _ (aA (F7 O O) Z) (am (by grind) (am (by grind) (am G (am aV (ak _ ha Aa)))))))))
  | cond x y z a=>
   have p:=vf 1 x (bw x);have hx:=IH x gv;have hy:=IH y gv;have hz:=IH z gv;have lx:=HL x gv;have ly:=HL y gv;have lz:=HL z gv;simp only [ab.A',cC] at hN ⊢;show _/\(prt false 1 x (bw x)++32::63::32::(prt false 0 y (bw y)++32::58::32::prt false 0 z (bw z))).length+1000<=_;rw [yE,yE];refine ⟨bD ?_,by grind⟩;simp only [aK,ab.A']
   repeat' first|refine ar (nk Z) ?_|refine ak false rl (ar (by decide) ?_)|refine ak true oR (ap Z ?_)|fail
   exact am G (ak _ (zc (HS x gv) hx.1 O 1) (am (by grind) (am G (ak _ hy.1 (am (by grind) (am (by grind) (am G (ak _ hz.1 (am (by grind) (ac (by show _=prt false 1 x (bw x)++32::63::32::(prt false 0 y (bw y)++32::58::32::prt false 0 z (bw z)); simp [yE])))))))))))
  | loop m s y x c dl fl a hi hr hy hd hf=>
   have h1:=xL hi
   have h2:y.length<=64:=by
    grind [xL]
   have hle:=PG (f:=bw) (s:=s) (a:=a) O (show y.length<=1000 by omega) hd hf λ z hz=>⟨(IH z hz).1,HL z hz⟩
   have hN:1+cC ([x,c]++dl++fl)<=300:=hN;have hT:=Sa m s y ([x,c]++dl++fl) (([x,c]++dl++fl).map bw);have hw:∀ z∈[x,c]++dl++fl,(bw z).length+1000<=60000*cQ z:=λ z hz=>(IH z hz).2
   have Pn:(lpT m s y ([x,c]++dl++fl) (([x,c]++dl++fl).map bw)).length<=200+60000*cC ([x,c]++dl++fl):=by
    have hK:(if y=[] then [] else y++[44,32]:Bk).length<=y.length+2:=by
     grind
    have w1:=hw x G;have w2:=hw c G;unfold lpT pX;simp only [yE];rcases hd with ⟨rfl,rfl⟩|⟨rfl,d,rfl⟩ <;> rcases hf with rfl|⟨g,rfl⟩
    ·simp [cC]; omega
    ·have w3:=hw g G;simp [cC]; omega
    ·have w3:=hw d G;simp [cC]; omega
    ·have w3:=hw d G;have w4:=hw g G;simp [cC]; omega
   cases m with
   | false=>
    have hcm:jM (ab.mk 12 0 s y v0 ([x,c]++dl++fl) a) (([x,c]++dl++fl).map bw)=91::(lpT false s y ([x,c]++dl++fl) (([x,c]++dl++fl).map bw)++[93]):=congrArg (List.cons 91) hT;have WZ:2<=(([x,c]++dl++fl).length:Int):=by simp; omega
    show Ev2 (λ n _=>aK n (ab.mk 12 0 s y v0 ([x,c]++dl++fl) a)) (·=jM (ab.mk 12 0 s y v0 ([x,c]++dl++fl) a) (([x,c]++dl++fl).map bw))/\(jM (ab.mk 12 0 s y v0 ([x,c]++dl++fl) a) (([x,c]++dl++fl).map bw)).length+1000<=60000*(1+cC ([x,c]++dl++fl));exact M0
   | true=>
    have hcm:jM (ab.mk 13 0 s y v0 ([x,c]++dl++fl) a) (([x,c]++dl++fl).map bw)=123::(lpT true s y ([x,c]++dl++fl) (([x,c]++dl++fl).map bw)++[125]):=congrArg (List.cons 123) hT
    have WZ:3<=(([x,c]++dl++fl).length:Int):=by
     grind
    show Ev2 (λ n _=>aK n (ab.mk 13 0 s y v0 ([x,c]++dl++fl) a)) (·=jM (ab.mk 13 0 s y v0 ([x,c]++dl++fl) a) (([x,c]++dl++fl).map bw))/\(jM (ab.mk 13 0 s y v0 ([x,c]++dl++fl) a) (([x,c]++dl++fl).map bw)).length+1000<=60000*(1+cC ([x,c]++dl++fl));exact M0
theorem AW (h:p:=by exact ar (by decide) (am (fL O O) (p2 trivial))):p:=h
theorem Mc (h:p:=by exact am (fL O O) (p2 trivial)):p:=h
theorem Ri {c:Int}{t:Bk}(hl:t.length<=1000000):Ev2 (λ _ _=>if c=3 then
  ck (([34]:Bk).length+t.length<=9223372036854775807) <|
  ck ((([34]:Bk)++t).length+([34]:Bk).length<=9223372036854775807) <|
  some ((([34]:Bk)++t)++([34]:Bk))
  else
  some t) (·=Wd c t):=by
 unfold Wd;refine aH (λ h=>?_) (λ h=>ac (by grind));rw [if_pos h];exact am (by grind) EU
theorem L2 {t:af}(h:VT (t.Ar,t.C'))(hl:t.C'.length<=1000000):Ev2 (λ n _=>nP n t) (·=true):=by
 obtain ⟨hz,b,w,ea,-,-,hb,h4⟩:=h;obtain ⟨c,t,m⟩:=t;have hw:(Wd c t).length<=t.length+2:=by grind [Wd]
 have h4:=h4 0 O;simp only at hl hz ea hb h4;simp only [nP];refine ak (Wd c t) (Ri hl) ?_;rw [ea] at hb hw h4 ⊢;simp only [aq] at hw;refine ak false (ar G (ar (show ¬ c<1 by omega) yk)) (ar (by decide) ?_);have hs:(b::w).length<=1000000000:=by grind
 have hsuf:(b::w) <:+ (b::w):=List.suffix_refl _;have e0:ae.mk (b::w) 0 (-1) (az.mk 0 0 [])=scx (b::w) (b::w) (-1) (az.mk 0 0 []):=by rw [scx,Gx]
 refine ak (scx (b::w) (b::w) (-1) (az.mk 0 0 [])) (aA (by grind [iQ]) Z) ?_;refine ak _ (vJ (b::w) hs hsuf _ _) ?_;simp only [hb];refine ar (by decide) ?_;have htok:=GI hs (d:=az.mk 0 0 []) hsuf (f:=w.length+1) O hb;rw [pr (si O),h4] at htok;refine aW _ htok λ r hrr=>?_;have hrr:r=(af.mk c t (pz (b::w) (b::w)),true,scx (b::w) [] (-1) (az.mk 0 0 [])):=hrr;subst hrr;refine aW (·=true) (ap Z (ak _ (aA (uV _ _ _) Z) (ap Z (ac ?_)))) (λ t ht=>ac ht)
 grind
theorem Eu (a b:af):∃ v,nI a b=some v:=by
 unfold nI strings_Contains strings_HasPrefix
 repeat' (first|exact ⟨_,Z⟩|refine zE ?_ (λ _=>?_)|refine zL (λ _=>?_) (λ _=>?_)|refine Mf (by decide) ?_)
def lens (L:List af):Nat:=(L.map λ t=>t.C'.length+3).sum
theorem lens_cons (t:af)(L:List af):lens (t::L)=t.C'.length+3+lens L:=by simp [lens]
theorem zw (L:List af):lens L=rf (iI L)+3*L.length:=by
 induction L with
 | nil=>rfl
 | cons t L ih=>grind [lens_cons,rf,iI]
theorem Px {L:List af}{t:af}(h:t∈L):t.C'.length<=rf (iI L):=by
 induction L with
 | nil=>cases h
 | cons x L ih=>
  grind [rf,iI]
theorem Ix {L:List af}(h:lens L<=60000):Ev2 (λ n _=>lW n L) (·<=60000):=by
 simp only [lW];have hl:L.length<=60000:=by grind [zw]
 refine aW (·<=60000) (bc (f:=λ n m=>ef L m 0 0) (se (λ n m i a=>ef L m a i) L.length (λ i a=>0<=a/\a+(lens (L.drop i):Int)<=60000) (λ i a hi h k=>?_) (λ a h=>?_) 0 ⟨by omega,by grind⟩)) λ r hr=>ac hr
 ·rw [gi L hi,lens_cons] at h;simp only [ef];generalize lat L (i:Int)=t at *;refine ap O (aW (λ r=>a<=r/\r<=a+(t.C'.length:Int)+3) (am O (am aV (aW (λ r=>a<=r/\r<=a+(t.C'.length:Int)+2) (aH (λ _=>am aV (ac O)) (λ _=>ac O)) (λ r hr=>?_)))) (λ r hr=>am aV (k r Ad)));refine aW (λ _=>True) (aH (λ _=>am aV (am O ?_)) (λ _=>ac trivial)) (λ b _=>aH (λ _=>am aV (ac O)) (λ _=>ac O));obtain ⟨v,hv⟩:=Eu (lat L ((i:Int)-1)) t
  simp_all [ac]
 ·simp only [ef];exact ar O (ac O)
theorem NM {M:List af}{a:Int}(hv:∀ t∈M,VT (t.Ar,t.C'))(hn:M.length<=10000)(hl:rf (iI M)<=20000):Ev2 (λ n _=>nV n (M++[af.mk 6 [] a])) (·=0):=by
 have e1:((M++[af.mk 6 [] a]).length:Int)-1=((M.length:Nat):Int):=by simp
 have e2:(M++[af.mk 6 [] a]).length=M.length+1:=by simp
 have e3:lat (M++[af.mk 6 [] a]) ((M.length:Nat):Int)=af.mk 6 [] a:=by rw [A4]; simp
 have hM:sub (M++[af.mk 6 [] a]) 0 ((M.length:Nat):Int)=M:=by grind [qJ]
 simp only [nV];refine ar O (ar O (am aV ?_));rw [e1,e3];refine ak false (am O (ap rfl (am O (ac rfl)))) (ar (by decide) (am O ?_));refine oc (bc (f:=λ n m=>eJ n (M++[af.mk 6 [] a]) m 0) (nY (λ n m i=>eJ n (M++[af.mk 6 [] a]) m i) M.length (λ _=>True) (λ _=>False) (λ i hi _ P p1 p2=>?_) ?_ trivial)) (λ _=>?_) (λ e he=>he.elim)
 ·simp only [eJ,e1,hM];have hm:=mz (l:=M) (i:=(i:Int)) O;have:=Px hm;exact ap O (am O (ar O (ak _ (L2 (hv _ hm) O) AW)))
 ·simp_all [eJ,ac]
 ·refine aW _ (Ix ?_) (λ r hr=>ar O (ac Z));rw [zw,e2];have:rf (iI (M++[af.mk 6 [] a]))=rf (iI M):=by simp [rf,iI]
  omega
theorem mv0 (L:List af):L.map (mvT 0)=L:=by
 induction L with
 | nil=>rfl
 | cons t r ih=>simp_all [mvT]
theorem FL:∀ {M:List af} {t:af} {r:List af},Gd (M++t::r)->(∀ z∈M,z.Ar≠6)->Gd (M++[af.mk 6 [] t.fAt])
 | [],t,r,h,_=>⟨⟨h.1.1,by have:=h.1.2.1; simp; omega,nofun,nofun⟩,.inl ⟨Z,Z⟩⟩
 | z::M,t,r,h,k=>⟨h.1,.inr ⟨k z th,FL (h.2.resolve_left λ q=>k z th q.1).2 (by grind)⟩⟩
structure ET (ts:List Tok)(e:ab):Prop where
 c:C0 ts e
 b:bal 0 ts=some 0
 v:∀ z∈ts,VT z
 n:ts.length<=10000
 l:rf ts<=20000
 k:chk e=0
theorem O8 {M:List af}{ts:List Tok}{e:ab}(h:ET ts e)(hM:iI M=ts):∃ e',EQV e e'/\∀ (t:af) (r:List af),Gd (M++t::r)->Ev2 (λ n _=>qq n (M++[af.mk 6 [] t.fAt]) 0) (·=(e',(M.length:Int),dOk)):=by
 obtain ⟨e',h1,h2⟩:=h.c M hM;refine ⟨e',h1,λ t r hg=>?_⟩;have Pn:M.length=ts.length:=by grind [iI]
 have hn:=h.n;have hk:=h.k;have hv:∀ t∈M,VT (t.Ar,t.C'):=λ t ht=>h.v _ (by rw [<- hM]; exact List.mem_map.2 ⟨t,ht,Z⟩);have hG:=FL hg λ z hz=>by have:=(hv z hz).1; grind
 generalize t.fAt=a at hG ⊢;obtain ⟨f,h2⟩:=h2 false [af.mk 6 [] a] (tL (show (6:Int)≠4 by decide) (show (6:Int)≠5 by decide) _ _);have c1:=NM (a:=a) hv O (by rw [hM]; exact h.l);generalize hL:M++[af.mk 6 [] a]=L at hG h2 c1 ⊢;have hl:L.length=M.length+1:=by grind
 have f1:=(fol f).e false L L 0 (by grind [mv0]) O 0 0 _ ⟨by omega,by omega,by omega,rfl,by rw [mv0]; rfl⟩ (h2 f (bt _));have U0:=(fct f).e false L ⟨hG,by omega⟩ _ (h2 f (bt _));have hx:Sz e':=U0.1;simp only [qq];refine ak false (ak _ c1 (ap rfl (ar O yk))) (ar (by decide) (aW _ f1 ?_));rintro ⟨z1,z2⟩ ⟨h,j,h3,h4⟩;replace h:z1=e':=h;subst h; cases h3;obtain ⟨j1,_,_,_,j5⟩:=h4;have j5:L.drop j=[af.mk 6 [] a]:=by have j5:(L.drop j).map (mvT 0)=[af.mk 6 [] a]:=j5; rwa [mv0] at j5
 have j6:=congrArg List.length j5;simp only [List.length_drop,aq,List.length_nil] at j6;refine ak (z1,dOk) ?_ (ap Z (ac (by rw [show j=M.length by omega]; rfl)));simp only [jg];have hc:chk z1=0:=by grind [QH]
 exact ap Z (ak _ (Gq hx) (ap hc (ac Z)))
theorem Ku (h:p:=by exact am (fL O O) (ac (by grind))):p:=h
theorem qP (h:p:=by exact aA (Cj e _) Z):p:=h
theorem gS {L:List af}{i:Nat}{t:af}{r:List af}(h:L.drop i=t::r):lat L (i:Int)=t/\L.drop (i+1)=r/\i<L.length:=by
 grind [List.drop_eq_nil_of_le,gi]
theorem Cj {L:List af}{i:Nat}{t:af}{r:List af}(e:L.drop i=t::r)(d:az):cv (.mk L (i:Int) d)=some (t,.mk L (i:Int) d):=by
 grind [gS,cv,cM]
theorem Gp {L:List af}{i:Nat}{t:af}{r:List af}(e:L.drop i=t::r)(d:az)(s:Bk):fH (.mk L (i:Int) d) s=some (decide (t.Ar=4/\t.C'=s),.mk L (i:Int) d):=by
 unfold fH;rw [Cj e,QT]
 grind
theorem ov {α:Type}{L M r:List α}{i:Nat}(e:L.drop i=M++r):L.drop (i+M.length)=r:=by
 rw [<- List.drop_drop,e,List.drop_left]
theorem nl0 {L:List af}{i:Nat}{t:af}{r:List af}(e:L.drop i=t::r)(h:t.Ar≠5)(d:az):Ev2 (λ n _=>cA n (.mk L (i:Int) d)) (·=(false,.mk L (i:Int) d)):=by
 simp only [cA];refine ak (L,(i:Int),d.Ar,d.fAt,d.AT) (bc (f:=λ n m=>bS m L (i:Int) d.Ar d.fAt d.AT) (aM ?_)) tJ;simp only [bS];exact ak _ qP (ar h (ac rfl))
theorem nl1 {L:List af}(hl:L.length<=1000000000){i:Nat}{t u:af}{r:List af}(e:L.drop i=t::u::r)(h:t.Ar=5)(h2:u.Ar≠5)(d:az):Ev2 (λ n _=>cA n (.mk L (i:Int) d)) (·=(true,.mk L ((i+1:Nat):Int) d)):=by
 obtain ⟨_,e2,e3⟩:=gS e;simp only [cA];refine ak (L,((i+1:Nat):Int),d.Ar,d.fAt,d.AT) (bc (f:=λ n m=>bS m L (i:Int) d.Ar d.fAt d.AT) (aM ?_)) EW;simp only [bS];refine ak _ qP (ap h (am gz (aM ?_)));simp only [bS];exact ak (u,.mk L ((i+1:Nat):Int) d) (aA (by have:=Cj e2 d; rwa [Int.natCast_add,Int.natCast_one] at this) (by grind)) (ar h2 (ac rfl))
theorem or3 {a b c:Prop} [Decidable a] [Decidable b] [Decidable c]:Ev2 (λ _ _=>if a then some true else if b then some true else some (decide c)) (·=decide (a\/b\/c)) :=
 aH (λ h=>ac (by simp [h])) λ h=>aH (λ h2=>ac (by simp [h2])) λ h2=>ac (by grind)
theorem JL {L:List af}(hl:L.length<=1000000000){q:az}{j:Int}{d':Nat}{P:Unit⊕(Int×aj)->Prop}:∀ (M:List af) (i d:Nat) (r:List af),L.drop i=M++r->bal d (iI M)=some d'->d<=i->Ev2 (λ _ m=>bT (.mk L j q) m (d':Int) ((i+M.length:Nat):Int)) P->Ev2 (λ _ m=>bT (.mk L j q) m (d:Int) (i:Int)) P
 | [],i,d,r,e,hb,hd,h=>by cases hb; exact h
 | t::M,i,d,r,e,hb,hd,h=>by
  obtain ⟨e1,e2,e3⟩:=gS e;have hb:bal d ((t.Ar,t.C')::iI M)=some d':=hb
  have next:∀ d1:Nat,bal d1 (iI M)=some d'->d1<=i+1->Ev2 (λ _ m=>bT (.mk L j q) m (d1:Int) ((i:Int)+1)) P:=λ d1 h1 h2=>by
   have:=JL hl (q:=q) (j:=j) (P:=P) M (i+1) d1 r e2 h1 h2 (by grind)
   grind
  have hk:t.Ar≠5/\t.Ar≠6:=by
   grind [bal]
  rw [bal] at hb;simp only at hb;refine aM ?_;simp only [bT,e1]
  suffices ∃ d1:Nat,bal d1 (iI M)=some d'/\d1<=i+1/\Ev2 (λ _ _=>if t.Ar=4 then jn ((if t.C'=([40]:Bk) then some true else if t.C'=([91]:Bk) then some true else some (decide (t.C'=([123]:Bk))):Option Bool).bind λ t33=>if t33=true then ck (inR ((d:Int)+1))<|some (.inl ((d:Int)+1)) else (if t.C'=([41]:Bk) then some true else if t.C'=([93]:Bk) then some true else some (decide (t.C'=([125]:Bk))):Option Bool).bind λ t38=>if t38=true then (if (d:Int)=0 then some (.inr (.inr (.inr ((i:Int),(aj.mk L j q))))) else ck (inR ((d:Int)-1))<|some (.inl ((d:Int)-1))) else some (.inl (d:Int)):Option (Int⊕(Int⊕(Unit⊕(Int×aj))))) (λ open42=>some (.inl open42)) else some (.inl (d:Int))) (·=.inl (d1:Int)) by
   obtain ⟨d1,h1,h2,h3⟩:=this;exact ez (d1:Int) (am O (by grind)) (am aV (next d1 h1 h2))
  by_cases k4:t.Ar=4
  ·rw [if_pos k4] at hb;by_cases o:t.C'=[40]\/t.C'=[91]\/t.C'=[123]
   ·rw [if_pos o] at hb;exact ⟨d+1,hb,by omega,ap k4 (ez ((d+1:Nat):Int) (ak _ or3 (ap (decide_eq_true o) Ku)) (ac rfl))⟩
   rw [if_neg o] at hb;by_cases c:t.C'=[41]\/t.C'=[93]\/t.C'=[125]
   ·rw [if_pos c] at hb
    obtain ⟨d,rfl⟩:∃ e,d=e+1:=by cases d with
     | zero=>simp at hb
     | succ e=>grind
    exact ⟨d,by grind,by omega,ap k4 (ez (d:Int) (ak _ or3 (ar (by simp [o]) (ak _ or3 (ap (decide_eq_true c) (ar O Ku))))) (ac Z))⟩
   ·rw [if_neg c] at hb;exact ⟨d,hb,by omega,ap k4 (ez (d:Int) (ak _ or3 (ar (by simp [o]) (ak _ or3 (ar (by simp [c]) (ac rfl))))) (ac rfl))⟩
  ·rw [if_neg k4] at hb;split at hb
   ·exact ⟨d,hb,by omega,ar k4 (ac Z)⟩
   ·cases hb
theorem TG {ts:List Tok}{e:ab}(h:ET ts e){M:List af}(hM:iI M=ts):∃ e',EQV e e'/\∀ (L:List af) (i:Nat) (t:af) (r:List af) (d:az),Gd L->L.length<=1000000000->L.drop i=M++t::r->t.Ar=5->Ev2 (λ n _=>fe n (.mk L (i:Int) d)) (·=(e',true,.mk L ((i+M.length:Nat):Int) d)):=by
 obtain ⟨e',h1,h2⟩:=O8 h hM;refine ⟨e',h1,λ L i t r d hg hl e k5=>?_⟩;have e4:=ov e;obtain ⟨e1,e2,e3⟩:=gS e4
 have hgi:Gd (M++t::r):=by
  have:=wG (base:=0) (L:=L) (i:=i) (by grind [mv0]) O
  grind [mv0]
 have hs:sub L (i:Int) ((i+M.length:Nat):Int)=M:=by
  rw [qJ,List.drop_take,e];simp
 simp only [fe,jx];refine ak (((i+M.length:Nat):Int),.mk L (i:Int) d) ?_ ?_
 ·refine kt _ (bc (f:=λ n m=>bT (.mk L (i:Int) d) m 0 (i:Int)) (JL hl M i 0 (t::r) e (by rw [hM]; exact h.b) (ph _) (aM ?_))) rfl;simp only [bT,e1];exact kt _ (am O (ak true (ar O (ap k5 (ac Z))) oR)) Z
 ·simp only [hs,e1];have Pn:i+M.length<L.length:=e3;refine am O (am O (am O (am (by grind) ?_)));refine ak _ (h2 t r hgi) (ap rfl (am gz yk))
theorem Sf (l:List ai)(t:af)(hl:l.length<=1000000000)(h:∀ a∈l,a.AT≠t.C'):Ev2 (λ n _=>bF n l (λ x0=>cK x0 t)) (·=false):=by
 simp only [bF,bZ];refine ak (-1) (oc (bc (f:=λ n m=>aN l (λ x0=>cK x0 t) m 0) (nY (λ n m i=>aN l (λ x0=>cK x0 t) m i) l.length (λ _=>True) (λ _=>False) (λ i hi _ P p1 p2=>?_) ?_ trivial)) (λ _=>ac rfl) (λ e he=>he.elim)) (ac rfl)
 ·simp only [aN];exact ap O (am O (ak false (aA (congrArg some (decide_eq_false (h _ p6))) rfl) (ar wr Mc)))
 simp_all [aN,ac]
inductive EBd:av->av->Prop where
 | mk {b c:av} (la:c.B'.length=b.B'.length) (a:∀ p∈b.B'.zip c.B',p.2.AT=p.1.AT/\EQV p.1.I' p.2.I') (lb:c.By.length=b.By.length) (k:∀ p∈b.By.zip c.By,p.2.Mr=p.1.Mr/\p.2.J'=p.1.J') (n:∀ p∈b.By.zip c.By,EBd p.1.Mp p.2.Mp):EBd b c
def EA (x y:ai):Prop:=y.AT=x.AT/\EQV x.I' y.I'
def EK (x y:au):Prop:=y.Mr=x.Mr/\y.J'=x.J'/\EBd x.Mp y.Mp
def Zp {α:Type}(R:α->α->Prop)(l m:List α):Prop:=m.length=l.length/\∀ p∈l.zip m,R p.1 p.2
theorem Zp.app {α:Type}{R:α->α->Prop}{l m l' m':List α}(h:Zp R l m)(g:Zp R l' m'):Zp R (l++l') (m++m'):=by
 refine ⟨by simp [h.1,g.1],λ p hp=>?_⟩;rw [List.zip_append h.1.symm] at hp;exact (List.mem_append.1 hp).elim (h.2 p) (g.2 p)
theorem Zp.one {α:Type}{R:α->α->Prop}{x y:α}(h:R x y):Zp R [x] [y]:=⟨Z,λ p hp=>by simp_all⟩
theorem Zp.nil {α:Type}{R:α->α->Prop}:Zp R [] []:=⟨Z,nofun⟩
theorem KY {l m:List ai}(h:Zp EA l m):m.map (·.AT)=l.map (·.AT):=by
 obtain ⟨h1,h2⟩:=h
 induction l generalizing m with
 | nil=>grind
 | cons x l ih=>cases m with
  | nil=>cases h1
  | cons y m=>rw [n7,n7,ih (by grind) λ p hp=>h2 p (by simp_all),(h2 (x,y) G).1]
def Itm (d:Nat)(b:av)(ts:List Tok):Prop:=∀ M,iI M=ts->∃ b',EBd b b'/\∀ (L:List af) (i j:Nat) (u:af) (r:List af),Gd L->L.length<=1000000000->(i=j\/j=i+1/\∃ w,L.drop i=w::L.drop j/\w.Ar=5)->L.drop j=M++u::r->u.Ar≠1->u.Ar≠5->Ev2 (λ n _=>fh n (.mk L (i:Int) dOk) (d:Int)) (·=(b',true,.mk L ((j+M.length:Nat):Int) dOk))
structure Seg (d:Nat)(l:List ai)(k:List au)(ts:List Tok):Prop where
 h:∀ z∈ts.head?,z.1=1
 p:∀ M,iI M=ts->∃ ax bs,Zp EA l ax/\Zp EK k bs/\l.length+k.length<=M.length/\∀ (L:List af) (i:Nat) (u:af) (r:List af) (aa:List ai) (bb:List au) (P:((List ai)×(List au)×(List af)×Int×Int×Int×Bk)⊕(av×Bool×aj)->Prop),Gd L->L.length<=1000000000->L.drop i=M++u::r->u.Ar≠5->(aa.map (·.AT)++l.map (·.AT)).Nodup->aa.length+bb.length<=i ->
  Ev2 (λ n m=>cg n (d6 n) (d:Int) m (aa++ax) (bb++bs) L ((i+M.length:Nat):Int) 0 0 []) P->Ev2 (λ n m=>cg n (d6 n) (d:Int) m aa bb L (i:Int) 0 0 []) P
theorem P8 (d:Nat):Seg d [] [] []:=by
 refine ⟨nofun,λ M hM=>?_⟩
 cases dB hM
 exact ⟨[],[],.nil,.nil,bt _,λ L i u r aa bb P _ _ _ _ _ _ h=>by grind⟩
theorem Gt {d:Nat}{l:List ai}{k:List au}{M:List af}(h:Seg d l k (iI M)){u:af}{r:List af}(hu:u.Ar≠5):∃ v w,M++u::r=v::w/\v.Ar≠5:=by
 cases M with
 | nil=>simp_all
 | cons v M=>exact ⟨v,M++u::r,Z,by have:=h.h (v.Ar,v.C') rfl; grind⟩
theorem Qt {d:Nat}{l l':List ai}{k k':List au}{ts us:List Tok}(h:Seg d l k ts)(g:Seg d l' k' us):Seg d (l++l') (k++k') (ts++us):=by
 refine ⟨λ z hz=>?_,λ M hM=>?_⟩
 ·cases ts with
  | nil=>exact g.h z hz
  | cons x ts=>exact h.h z hz
 ·obtain ⟨A,B,rfl,hA,hB⟩:=dF hM;obtain ⟨ax,bs,a1,a2,a3,a4⟩:=h.p A hA;obtain ⟨ax',bs',b1,b2,b3,b4⟩:=g.p B hB;refine ⟨ax++ax',bs++bs',a1.app b1,a2.app b2,by grind,λ L i u r aa bb P hg hl e hu hn hc hP=>?_⟩;rw [n6] at e;rw [List.map_append,<- n6] at hn;obtain ⟨v,w,e1,e2⟩:=Gt (by rw [hB]; exact g) (u:=u) (r:=r) hu;have e3:=ov e;rw [e1] at e;refine a4 L i v w aa bb P hg hl e e2 (List.nodup_append.1 hn).1 hc ?_;refine b4 L (i+A.length) u r (aa++ax) (bb++bs) P hg hl e3 hu ?_ ?_ ?_
  ·grind [KY]
  ·have:=a1.1; have:=a2.1; grind
  ·rw [n6,n6,show i+A.length+B.length=i+(A++B).length by grind];exact hP
theorem Qu {d:Nat}{a:ai}{ts:List Tok}(h:ET ts a.I'):Seg d [a] [] ((1,a.AT)::(4,[61])::(ts++[(5,[10])])):=by
 refine ⟨λ z hz=>by grind,λ M hM=>?_⟩;obtain ⟨t,M,rfl,t1,t2,hM⟩:=a8 hM;obtain ⟨q,M,rfl,q1,q2,hM⟩:=a8 hM;obtain ⟨E,N,rfl,hE,hN⟩:=dF hM;obtain ⟨w,N,rfl,w1,w2,hN⟩:=a8 hN
 cases dB hN
 simp only at t1 t2 q1 q2 w1 w2;obtain ⟨e',h1,h2⟩:=TG h hE;refine ⟨[ai.mk t.C' e' t.fAt],[],.one ⟨t2,h1⟩,.nil,by simp,λ L i u r aa bb P hg hl e hu hn hc hP=>?_⟩;simp only [mv,n6,rd] at e;obtain ⟨_,e1,i1⟩:=gS e;obtain ⟨_,e2,i2⟩:=gS e1;have e3:=ov e2;obtain ⟨_,_,i3⟩:=gS e3;refine aM ?_;simp only [cg];refine ak _ qP (ap t1 (ak _ qP (am gz ?_)));have s1:=Gp e1 dOk [61];rw [Int.natCast_add,Int.natCast_one,decide_eq_true ⟨q1,q2⟩] at s1;have hx:=h2 L (i+1+1) w (u::r) dOk hg hl e2 w1;rw [Int.natCast_add,Int.natCast_add,Int.natCast_one] at hx;refine ak (true,aa++[ai.mk t.C' e' t.fAt],bb,L,((i+1+1+E.length:Nat):Int),0,0,[]) (ak _ (aA s1 rfl) (ap rfl (ak (true,.mk L ((i+1+1+E.length:Nat):Int) dOk,av.mk (aa++[ai.mk t.C' e' t.fAt]) bb) ?_ (ac rfl)))) (ar wr (ak _ (nl1 hl e3 w1 hu dOk) (ar wr ?_)))
 ·simp only [iu];refine am gz (ak _ (Sf aa t O λ a0 ha0=>?_) (ar wr (ak _ hx (am (by show (aa.length+1)*184<=_; omega) (ac rfl)))))
  grind
 ·rw [List.append_nil,show i+(t::q::(E++[w])).length=i+1+1+E.length+1 by grind] at hP;exact hP
def LOk (s:Bk):Prop:=Lib.contains (s.flatMap d8) [36,123]=false/\Lib.contains s [36,123]=false/\s.length<=4096/\∃ w,Fc (([34]++s.flatMap d8)++[34])=(s,w,0)
theorem Oh {L:List af}(hl:L.length<=1000000000){t:af}{r:List af}(ht:t.Ar≠3):∀ (ls:List Bk) (M:List af) (i:Nat) (out:List Bk),iI M=ls.map (λ s=>((3,s.flatMap d8):Tok))->(∀ s∈ls,LOk s)->L.drop i=M++t::r->out.length<=i->Ev2 (λ n m=>cE n m out L (i:Int) 0 0 []) (·=.inl (out++ls,L,((i+M.length:Nat):Int),0,0,[]))
 | [],M,i,out,hM,_,e,_=>by
  cases dB hM
  refine aM ?_;simp only [cE];exact ak _ qP (ar ht tJ)
 | s::ls,M,i,out,hM,hs,e,ho=>by
  obtain ⟨z,M,rfl,z1,z2,hM⟩:=a8 hM;obtain ⟨o1,o2,o3,w,o4⟩:=hs s th;obtain ⟨_,e1,i1⟩:=gS e;have hf:=jQ s;simp only at z1 z2;rw [<- z2] at o1 o4 hf;have c1:strings_Contains z.C' [36,123]=some false:=by grind [strings_Contains,cM]
  have c2:strings_Contains s [36,123]=some false:=by grind [strings_Contains,cM]
  have hu:=MX (([34]++z.C')++[34]) (by grind);rw [o4] at hu;refine aM ?_;simp only [cE];refine ak _ qP (ap z1 (ak _ qP (ak _ (aA c1 Z) (ar wr (am (by grind) (am (by grind) (ak _ hu (ap Z (ak _ (aA c2 Z) (ar wr (am (by grind) (am gz ?_))))))))))));have:=Oh hl ht ls M (i+1) (out++[s]) hM (by grind) e1 (by grind)
  grind
theorem OY {d:Nat}(hd:d<32){k:au}{ts:List Tok}(hk:∀ s∈k.J',LOk s)(h:Itm (d+1) k.Mp ts):Seg d [] [k] ((1,k.Mr)::(k.J'.map (λ s=>((3,s.flatMap d8):Tok))++(4,[123])::(5,[10])::(ts++[(4,[125]),(5,[10])]))):=by
 refine ⟨λ z hz=>by grind,λ M hM=>?_⟩;obtain ⟨t,M,rfl,t1,t2,hM⟩:=a8 hM;obtain ⟨A,M,rfl,hA,hM⟩:=dF hM;obtain ⟨q,M,rfl,q1,q2,hM⟩:=a8 hM;obtain ⟨w,M,rfl,w1,w2,hM⟩:=a8 hM;obtain ⟨B,N,rfl,hB,hN⟩:=dF hM;obtain ⟨p,N,rfl,p1,p2,hN⟩:=a8 hN;obtain ⟨v,N,rfl,v1,v2,hN⟩:=a8 hN
 cases dB hN
 simp only at t1 t2 q1 q2 w1 w2 p1 p2 v1 v2;obtain ⟨b',h1,h2⟩:=h B hB;refine ⟨[],[au.mk t.C' k.J' b' t.fAt],.nil,.one ⟨t2,rfl,h1⟩,by simp,λ L i u r aa bb P hg hl e hu hn hc hP=>?_⟩;simp only [mv,n6,rd] at e;obtain ⟨_,e1,i1⟩:=gS e;have e2:=ov e1;obtain ⟨_,e3,i3⟩:=gS e2;obtain ⟨_,e4,i4⟩:=gS e3;have e5:=ov e4;obtain ⟨_,e6,i6⟩:=gS e5;obtain ⟨_,e7,i7⟩:=gS e6;refine aM ?_;simp only [cg];refine ak _ qP (ap t1 (ak _ qP (am gz ?_)))
 obtain ⟨y,Y0z,ey,hy⟩:∃ y Y0z,L.drop (i+1)=y::Y0z/\¬ (y.Ar=4/\y.C'=[61]):=by
  rw [e1]
  cases A with
  | nil=>grind
  | cons y A=>
   refine ⟨y,_,Z,λ h=>?_⟩
   cases hls:k.J' with
   | nil=>rw [hls] at hA; cases hA
   | cons s ls=>
    simp_all [iI]
 have s1:=Gp ey dOk [61];rw [Int.natCast_add,Int.natCast_one,decide_eq_false hy] at s1;have hlab:=Oh hl (t:=q) (r:=w::(B++p::v::u::r)) O k.J' A (i+1) [] hA hk e1 (ph _);rw [Int.natCast_add,Int.natCast_one] at hlab;have s2:=Gp e2 dOk [123];rw [decide_eq_true ⟨q1,q2⟩] at s2;have hi:=h2 L (i+1+A.length+1) (i+1+A.length+1+1) p (v::u::r) hg hl (.inr ⟨Z,w,by rw [e3,e4],w1⟩) e4 O O;rw [Int.natCast_add,Int.natCast_one] at hi;have hd1:(d:Int)+1=((d+1:Nat):Int):=by omega
 have s3:=Gp e5 dOk [125];rw [decide_eq_true ⟨p1,p2⟩] at s3;refine ak (true,aa,bb++[au.mk t.C' k.J' b' t.fAt],L,((i+1+A.length+1+1+B.length+1:Nat):Int),0,0,[]) (ak _ (aA s1 Z) (ar wr (ak (true,.mk L ((i+1+A.length+1+1+B.length+1:Nat):Int) dOk,av.mk aa (bb++[au.mk t.C' k.J' b' t.fAt])) ?_ (ac Z)))) (ar wr (ak _ (nl1 hl e6 v1 hu dOk) (ar wr ?_)))
 ·refine bD ?_;simp only [d6,jA];refine ak (k.J',true,.mk L ((i+1+A.length:Nat):Int) dOk) (ez _ (bc hlab) (ac Z)) (ar wr (ak _ (aA s2 Z) (ar wr (ar O (am gz (am aV ?_))))));rw [hd1];refine ak _ hi (ar wr (ak _ (aA s3 Z) (ar wr (am gz (am (by show (bb.length+1)*96<=_; omega) (ac (by rw [Int.natCast_add (i+1+A.length+1+1+B.length) 1]; rfl)))))))
 ·rw [List.append_nil,show i+(t::(A++q::w::(B++[p,v]))).length=i+1+A.length+1+1+B.length+1+1 by grind] at hP;exact hP
theorem Hg {d:Nat}{b:av}{ts:List Tok}(h:Seg d b.B' b.By ts)(hn:(b.B'.map (·.AT)).Nodup):Itm d b ts:=by
 intro M hM;obtain ⟨ax,bs,a1,a2,a3,a4⟩:=h.p M hM;refine ⟨av.mk ax bs,.mk a1.1 a1.2 a2.1 (λ p hp=>⟨(a2.2 p hp).1,(a2.2 p hp).2.1⟩) (λ p hp=>(a2.2 p hp).2.2),λ L i j u r hg hl hj e h1 h5=>?_⟩
 have hx:=a4 L j u r [] [] (·=.inl (ax,bs,L,((j+M.length:Nat):Int),0,0,[])) hg hl e h5 (by grind) (ph _) (by
  refine aM ?_;simp only [cg]
  exact ak _ (aA (Cj (ov e) _) Z) (ar h1 (ac Z)))
 obtain ⟨v,w,e1,e2⟩:=Gt (by rw [hM]; exact h) (u:=u) (r:=r) h5;rw [e1] at e
 have hnl:∃ c,Ev2 (λ n _=>cA n (.mk L (i:Int) dOk)) (·=(c,.mk L (j:Int) dOk)):=by
  rcases hj with rfl|⟨rfl,z,z1,z2⟩
  ·exact ⟨_,nl0 e e2 dOk⟩
  ·rw [e] at z1;exact ⟨_,nl1 hl z1 z2 e2 dOk⟩
 obtain ⟨c,hnl⟩:=hnl;refine bD ?_;simp only [fh];exact ak _ hnl (ez _ (bc hx) (ac rfl))
theorem Fu (h:p:=by exact aA (Af f _ (by grind)) Z):p:=h
def blank (d:Nat):Bk:=List.replicate (2*d) 32
def rj (d:Nat)(a:ai):Bk:=blank d++(a.AT++32::61::32::(bw a.I'++[10]))
def rT (ls:List Bk):Bk:=ls.flatMap λ s=>32::iL s
mutual
def oe:Nat->av->Bk|d,.mk l k=>l.flatMap (rj d)++mj d k
def xW:Nat->au->Bk|d,.mk t ls b _=>blank d++(t++(rT ls++32::123::10::(oe (d+1) b++(blank d++[125,10]))))
def mj:Nat->List au->Bk|_,[]=>[]|d,x::r=>xW d x++mj d r
end
theorem BS (d:Nat)(b:av):oe d b=b.B'.flatMap (rj d)++mj d b.By:=by
 cases b; simp only [oe,av.B',av.By]
theorem sC (d:Nat)(k:au):xW d k=blank d++(k.Mr++(rT k.J'++32::123::10::(oe (d+1) k.Mp++(blank d++[125,10])))):=by
 cases k; simp only [xW,au.Mr,au.J',au.Mp]
theorem vI (d:Nat):(blank d).length=2*d:=by simp [blank]
theorem ym (d:Nat):blank (d+1)=blank d++[32,32]:=by
 unfold blank;rw [show 2*(d+1)=2*d+2 by omega];exact (List.replicate_append_replicate (n:=2*d) (m:=2) (a:=(32:UInt8))).symm
theorem tw:∀ {l:List ai} {x:ai},x∈l->cQ x.I'<=oW l
 | y::r,x,h=>by
  simp only [oW];rcases qr.1 h with rfl|h
  ·omega
  ·have:=tw h; omega
theorem rD:∀ {l:List au} {x:au},x∈l->vE x<=kh l
 | y::r,x,h=>by
  simp only [kh];rcases qr.1 h with rfl|h
  ·omega
  ·have:=rD h; omega
theorem PH:∀ n:Fin 256,(n.val≠36->(d8 (UInt8.ofNat n.val)).all (λ z=>decide (z.toNat≠36))=true)/\((d8 (UInt8.ofNat n.val)).head? = some 123->n.val=123)/\(d8 (UInt8.ofNat n.val)).isEmpty=false:=by decide +kernel
theorem SC (b:UInt8):(b.toNat≠36->∀ z∈d8 b,z.toNat≠36)/\((d8 b).head? = some 123->b=123)/\d8 b≠[]:=by
 have h:=PH ⟨b.toNat,b.toNat_lt⟩;simp only [UInt8.ofNat_toNat,sm,decide_eq_true_eq] at h;exact ⟨h.1,λ k=>UInt8.toNat_inj.1 (h.2.1 k),λ k=>by grind⟩
theorem wS (b:UInt8)(y:Bk):pH (b::y)=(decide (b=36/\y.head? = some 123)||pH y):=by
 cases y with
 | nil=>simp [pH]
 | cons c t=>
  grind [pH]
theorem CW (y:Bk):∀ x:Bk,(∀ z∈x,z.toNat≠36)->pH (x++y)=pH y
 | [],_=>rfl
 | b::x,h=>by
  rw [mv,wS,CW y x (by grind),decide_eq_false (λ k=>(by simp_all)),Bool.false_or]
theorem Ga:∀ s:Bk,pH s=false->pH (s.flatMap d8)=false/\nK s=s
 | [],_=>⟨Z,Z⟩
 | b::r,h=>by
  rw [wS,Bool.or_eq_false_iff,decide_eq_false_iff_not] at h;obtain ⟨i1,i2⟩:=Ga r h.2;refine ⟨?_,by grind [nK]⟩;rw [List.flatMap_cons];by_cases q:b.toNat=36
  ·obtain rfl:b=36:=UInt8.toNat_inj.1 q;rw [show d8 36=[36] by decide +kernel,List.singleton_append,wS,i1,Bool.or_false,decide_eq_false_iff_not];rintro ⟨-,k⟩
   cases r with
   | nil=>cases k
   | cons c r=>
    grind [d8]
  grind [CW,SC]
theorem LI {s:Bk}(h:s.length<=4096/\validD s=true/\pH s=false):LOk s/\qy 32 (s.flatMap d8):=by
 obtain ⟨t1,t2⟩:=Ga s h.2.2;refine ⟨⟨by grind [qO],by grind [qO],h.1,((iL s).length:Int),?_⟩,?_⟩
 ·have:=Eo s [] h.2.1 h.1
  rwa [List.append_nil] at this
 ·have:=(yi h.2.1 h.1 0).2 32
  grind [quo]
theorem NJ (y:Bk):∀ ls:List Bk,(∀ s∈ls,qy 32 (s.flatMap d8))->Go 32 (ls.map λ s=>((3,s.flatMap d8):Tok)) (rT ls++y) y
 | [],_=>Go.refl
 | s::ls,h=>by
  have h1:=Ei (y:=rT ls++y) (h s th);have h2:=NJ y ls (by grind);have e:rT (s::ls)++y=32::34::(s.flatMap d8++34::(rT ls++y)):=by simp [rT,iL]
  rw [e];exact Go.sp.trans (h1.trans h2)
theorem CQ:∀ {ls:List Bk},(∀ s∈ls,s.length<=4096)->(rT ls).length<=70000*ls.length
 | [],_=>by simp [rT]
 | s::r,h=>by
  have h1:=CQ (λ s hs=>h s (List.mem_cons_of_mem _ hs):∀ s∈r,s.length<=4096);have h2:=h s G
  grind [jQ,rT,iL,List.length_cons]
theorem um (x:Bk):∀ d,Go 32 [] (blank d++x) x
 | 0=>Go.refl
 | d+1=>by
  rw [ym,n6];exact (um _ d).trans (Go.sp.trans Go.sp)
theorem T5 {e:ab}(hv:VE 1 e)(hk:chk e=0)(hn:cQ e<=300)(hl:(bw e).length<=20000):∃ ts,ET ts e/\ts.length<=20*cQ e/\∀ y,sO y->Go 32 ts (bw e++y) y:=by
 obtain ⟨-,ts,h1,h2,h3,h4⟩:=((Ge 1 e hv O O).1.weak (ph _) (pW e)).mono (show 32-1<=32 by omega) (bt _);have g:=h4 [] uc;have gn:=g.n;rw [List.append_nil,List.length_nil] at gn;exact ⟨ts,⟨h3,h2.2 0,g.v (bt _),by omega,by omega,hk⟩,by omega,h4⟩
def SG (d n:Nat)(l:List ai)(k:List au)(t:Bk):Prop:=t.length<=70000*n/\(t.length<=20000->∃ ts,Seg d l k ts/\ts.length<=30*n/\∀ y,Go 32 ts (t++y) y)
theorem D8 {d n m:Nat}{l l':List ai}{k k':List au}{t u:Bk}(h:SG d n l k t)(g:SG d m l' k' u):SG d (n+m) (l++l') (k++k') (t++u):=by
 refine ⟨by rw [n8]; have:=h.1; have:=g.1; omega,λ hl=>?_⟩;rw [n8] at hl;obtain ⟨ts,h1,h2,h3⟩:=h.2 O;obtain ⟨us,g1,g2,g3⟩:=g.2 O;exact ⟨ts++us,Qt h1 g1,by grind,λ y=>by rw [n6]; exact (h3 _).trans (g3 y)⟩
theorem Ol (d:Nat):SG d 0 [] [] []:=⟨by simp,λ _=>⟨[],P8 d,by simp,λ _=>Go.refl⟩⟩
theorem CZ {d:Nat}(hd:d<=33):∀ l:List ai,(∀ a∈l,bW a.AT=true/\VE 1 a.I'/\chk a.I'=0/\cQ a.I'<=300)->SG d (l.length+oW l) l [] (l.flatMap (rj d))
 | [],_=>Ol d
 | a::r,h=>by
  obtain ⟨h1,h2,h3,h4⟩:=h a th;have hb:=vI d;have hi:=xL h1;have ht:=(xU h2 h4).2;have:=D8 (n:=1+cQ a.I') (l:=[a]) (k:=[]) (t:=rj d a) ⟨by grind [rj,List.length_cons],λ hl=>?_⟩ (CZ hd r (by grind))
  ·grind [oW]
  ·obtain ⟨ts,e1,e2,e3⟩:=T5 h2 h3 h4 (by grind [rj,List.length_cons]);refine ⟨_,Qu e1,by grind,λ y=>?_⟩;unfold rj;simp only [n6,mv,rd];exact (um _ d).trans ((kU h1 ix).trans ((Kx _).trans ((e3 (10::y) ix).trans JP)))
theorem zz {d:Nat}(hd:d<=33):∀ l:List au,(∀ k∈l,bW k.Mr=true/\d<32/\(∀ s∈k.J',s.length<=4096/\validD s=true/\pH s=false)/\(k.Mp.B'.map (·.AT)).Nodup/\SG (d+1) (jR k.Mp) k.Mp.B' k.Mp.By (oe (d+1) k.Mp))->SG d (l.length+kh l) [] l (mj d l)
 | [],_=>Ol d
 | k::r,h=>by
  obtain ⟨h1,h2,h3,h4,h5,h6⟩:=h k th;have hb:=vI d;have hi:=xL h1;have ht:=CQ λ s hs=>(h3 s hs).1;have hk:=sF k;have:=D8 (n:=1+vE k) (l:=[]) (k:=[k]) (t:=xW d k) ⟨by grind [sC,List.length_cons],λ hl=>?_⟩ (zz hd r λ x hx=>h x (List.mem_cons_of_mem _ hx))
  ·rw [show (k::r).length+kh (k::r)=1+vE k+(r.length+kh r) by grind [kh]];exact this
  ·obtain ⟨ts,e1,e2,e3⟩:=h6 (by grind [sC,List.length_cons]);refine ⟨_,OY h2 (λ s hs=>(LI (h3 s hs)).1) (Hg e1 h4),by grind,λ y=>?_⟩;rw [sC];simp only [n6,mv,rd];have g:=yn (D:=32) ((JP (y:=oe (d+1) k.Mp++(blank d++125::10::y))).trans ((e3 _).trans (um (125::10::y) d)))
   have hg:Go 32 ((1,k.Mr)::(k.J'.map (λ s=>((3,s.flatMap d8):Tok))++((4,[123])::(([(5,[10])]++(ts++[]))++[(4,[125])])++[(5,[10])]))) (blank d++(k.Mr++(rT k.J'++32::123::10::(oe (d+1) k.Mp++(blank d++125::10::y))))) y :=
    (um _ d).trans ((kU h1 (by
     cases k.J' with
     | nil=>exact mH (by decide)
     | cons s ls=>exact mH (by decide))).trans ((NJ _ _ λ s hs=>(LI (h3 s hs)).2).trans (Go.sp.trans (g.trans JP))))
   grind
theorem Hb {d:Nat}{b:av}(hg:GB d b):av.Bd b->jR b<=300->d<=32->SG d (jR b) b.B' b.By (oe d b):=by
 induction hg with
 | @mk d b attrs names blocks inner ih=>
  intro hb hN hd;have hE:=uT b;rw [BS,show jR b=b.B'.length+oW b.B'+(b.By.length+kh b.By) by omega]
  have h1:=CZ (d:=d) O b.B' λ a ha=>by
   have:=tw ha;exact ⟨(attrs a ha).1,GL (hb.eAttrs a ha).bExpr 0 1 O O  (attrs a ha).2,(attrs a ha).2,by omega⟩
  have h2:=zz (d:=d) O b.By λ k hk=>by
   have:=rD hk;have:=sF k;refine ⟨(blocks k hk).1,(blocks k hk).2.1,(blocks k hk).2.2,?_,ih k hk (hb.eBlocks k hk).bBody O (by grind)⟩
   cases inner k hk with
   | mk _ n _ _=>exact n
  simpa using D8 h1 h2
theorem N6 {b:av}{d:Nat}{W R:Bk}(hd:d<=33)(hW:W.length<=90000000)(hl:b.B'.length<=1000)(ha:∀ a∈b.B',VE 1 a.I'/\cQ a.I'<=300){f:Bk}(h0:f++(b.B'.flatMap (rj d)++R)=W):Ev2 (λ n _=>dU n b (blank d) n 0 f) (·++R=W):=by
 refine bc (f:=λ n m=>dU n b (blank d) m 0 f) (se (λ n m i f=>dU n b (blank d) m i f) b.B'.length (λ i f=>f++((b.B'.drop i).flatMap (rj d)++R)=W) (λ i f hi h k=>?_) (λ f h=>?_) f h0)
 ·have hm:=ha _ (mz (l:=b.B') (i:=(i:Int)) O);rw [gi b.B' hi,List.flatMap_cons] at h;simp only [dU];generalize lat b.B' (i:Int)=a at hm h ⊢;have h2:=congrArg List.length h;unfold rj at h2;simp only [n8,aq,List.length_nil] at h2;refine ap O (am O (am O (am (by grind) (ak _ (xU hm.1 hm.2).1 (am (by grind) (am (by grind) (ak _ Fu (am aV (k _ ?_)))))))))
  simp_all [rj]
 simp_all [dU,ac]
theorem PQ {b:av}{t:Nat}{W R:Bk}(hW:W.length<=90000000){ls:List Bk}(hb:(lat b.By (t:Int)).J'=ls)(hl:ls.length<=1000){f:Bk}(h0:f++(rT ls++R)=W):Ev2 (λ n _=>dT n b (t:Int) n 0 f) (·++R=W):=by
 refine bc (f:=λ n m=>dT n b (t:Int) m 0 f) (se (λ n m i f=>dT n b (t:Int) m i f) ls.length (λ i f=>f++(rT (ls.drop i)++R)=W) (λ i f hi h k=>?_) (λ f h=>?_) f h0)
 ·rw [gi ls hi] at h;simp only [dT,hb];generalize lat ls (i:Int)=s at h ⊢;have hq:rT (s::ls.drop (i+1))=32::(iL s++rT (ls.drop (i+1))):=by simp [rT]
  rw [hq] at h;have h2:=congrArg List.length h;have h3:=jQ s;have h4:(iL s).length=(s.flatMap d8).length+2:=by simp [iL]
  simp only [n8,aq] at h2;refine ap O (am O (ak _ (Dn _ O) (am (by grind) (ak _ Fu (am aV (k _ ?_))))))
  grind
 simp_all [dT,ac,rT]
theorem Aw (d:Nat)(l:List au){i:Nat}(h:i<l.length):mj d (l.drop i)=xW d (lat l (i:Int))++mj d (l.drop (i+1)):=by
 rw [gi l h,mj]
theorem L6 {d:Nat}{b:av}(hg:GB d b):av.Bd b->jR b<=300->d<=32->∀ f:Bk,f.length+(oe d b).length<=90000000->Ev2 (λ n _=>fP n (aC.mk f) b (blank d)) (·=aC.mk (f++oe d b)):=by
 induction hg with
 | @mk d b attrs names blocks inner ih=>
  intro hb hN hd f hf;have hE:=uT b;have hbl:=vI d;generalize hW:f++oe d b=W;have hWl:W.length<=90000000:=by grind
  rw [BS] at hW;refine bD ?_;simp only [fP];refine aW _ (N6 (R:=mj d b.By) O hWl O (λ a ha=>?_) hW) λ g hg=>?_
  ·have:=tw ha;exact ⟨GL (hb.eAttrs a ha).bExpr 0 1 O O  (attrs a ha).2,by omega⟩
  refine ak W (bc (f:=λ n m=>ee n (fP n) b (blank d) m 0 g) (se (λ n m i f=>ee n (fP n) b (blank d) m i f) b.By.length (λ i f=>f++mj d (b.By.drop i)=W) (λ i f hi h k=>?_) (λ f h=>?_) g hg)) (ac Z)
  ·have hm:=mz (l:=b.By) (i:=(i:Int)) O;rw [Aw d b.By hi,sC] at h;generalize hk:lat b.By (i:Int)=x at hm h;have hn:=rD hm;have hn2:=sF x;generalize mj d (b.By.drop (i+1))=R at h k;have h2:=congrArg List.length h;simp only [n8,aq,List.length_nil] at h2;simp only [ee,hk];refine ap O (am O (am O (ak _ Fu ?_)));refine aW _ (PQ (t:=i) (R:=32::123::10::(oe (d+1) x.Mp++(blank d++125::10::R))) hWl (ls:=x.J') (by rw [hk]) O (by simp_all)) λ g hg=>?_;have h3:=congrArg List.length hg;simp only [n8,aq] at h3;refine ak _ (aA (Af g _ (by grind [List.length_nil])) Z) (am (by grind) ?_);simp only [<- ym];have hw:=ih x hm (hb.eBlocks x hm).bBody O (by grind) (g++[32,123,10]) (by grind [List.length_cons]);refine ak _ hw (am (by grind) (ak _ (aA (Af _ _ (by grind [List.length_cons])) Z) (am aV (k _ ?_))))
   simp_all
  simp_all [ee,ac,mj]
theorem L3 {b:av}(hb:av.Bd b)(hg:GB 0 b)(hN:jR b<=300):Ev2 (λ n _=>lA n b) (·=oe 0 b):=by
 simp only [lA];have hl:=(Hb hg hb hN O).1;refine ak _ (L6 hg hb hN O [] (by grind)) ?_;simp only [rd];exact ak _ (aA (QR _ O) rfl) (ac rfl)
end Go.Ab.R06
end
section
namespace Go.Ab.R06
open Go.Proofs Go.Ab Go.Ab.RB Go.Lib
variable {p:Prop}
theorem Nk (h:p:=by exact am (fL O O) (ihk (i+1) O)):p:=h
theorem CE {v:ag}(hb:VSz v):Ev2 (λ n _=>gD n v v) (·=true):=by
 induction hb with
 | @mk x hv hs ih=>
  have l1:∀ k i:Nat,i+k=x.F'.length->Ev2 (λ _ m=>fg x x m i) (·=.inl ()):=by
   intro k
   induction k with
   | zero=>intro i hi; exact aM (by simp only [fg]; exact ar O (ac rfl))
   | succ k ihk=>
    intro i hi;refine aM ?_;simp only [fg];exact ap O (am O (am O (ap (by trivial) Nk)))
  have l2:∀ k i:Nat,i+k=x.Gw.length->Ev2 (λ n m=>eP (gD n) x x m i) (·=.inl ()):=by
   intro k
   induction k with
   | zero=>intro i hi; exact aM (by simp only [eP]; exact ar O (ac rfl))
   | succ k ihk=>
    intro i hi;refine aM ?_;simp only [eP];exact ap O (am O (am O (ak _ (ih _ p6) (ar (by decide) Nk))))
  refine bD ?_;simp only [gD];refine ak false (ap (by trivial) (ap (by trivial) (ap (by trivial) (ap (by trivial) tJ)))) (ar (by decide) ?_);exact ez () (bc (f:=λ n m=>fg x x m 0) (l1 x.F'.length 0 O)) (ez () (bc (f:=λ n m=>eP (gD n) x x m 0) (l2 x.Gw.length 0 O)) (ac Z))
theorem A2 {α:Type} [Inhabited α] {l m:List α}(h:m.length=l.length){i:Nat}(hi:i<l.length):(lat l (i:Int),lat m (i:Int))∈l.zip m:=by
 rw [me _ _ hi,me _ _ O,List.mem_iff_getElem];exact ⟨i,by rw [List.length_zip]; omega,by simp⟩
theorem KV {e:ab}(hb:Sz e):∀ e',EQV e e'->Ev2 (λ n _=>dm n e e') (·=true):=by
 induction hb with
 | @mk x hn hk hw hc hs ih=>
  intro y hy
  cases hy with
  | mk k o n m v a c l s=>
   refine bD ?_;simp only [dm,k,o,n,m,v,l];refine ak false (ap (by trivial) (ap (by trivial) (ap (by trivial) (ap (by trivial) (ak _ (CE hw) (ar (by decide) tJ)))))) (ar (by decide) ?_);refine oc (bc (f:=λ n m=>cX (dm n) x y m 0) (nY (λ n m i=>cX (dm n) x y m i) x.A'.length (λ _=>True) (λ _=>False) (λ i hi _ P p1 p2=>?_) ?_ trivial)) (λ _=>ac Z) (λ e he=>he.elim)
   ·simp only [cX];exact ap O (am O (am O (ak _ (ih _ p6 _ (s _ (A2 l hi))) AW)))
   ·simp only [cX];exact tH
theorem OO (l:List Bk)(hl:l.length<=1000000000000000):Ev2 (λ n _=>pi n l l) (·=true):=by
 simp only [pi];refine ap (by trivial) (oc (bc (f:=λ n m=>fR l l m 0) (nY (λ n m i=>fR l l m i) l.length (λ _=>True) (λ _=>False) (λ i hi _ P p1 p2=>?_) ?_ trivial)) (λ _=>ac rfl) (λ e he=>he.elim))
 ·simp only [fR];exact ap O (am O (am O (ap (by trivial) Mc)))
 ·simp only [fR];exact tH
theorem Sq:∀ b,av.Bd b->∀ c,EBd b c->Ev2 (λ n _=>dQ n b c) (·=true):=by
 refine av.Bd.ind (λ b hb ih=>?_);intro c hc;have la:=hb.bAttrs;have lb:=hb.bBlocks;unfold ei at la lb
 cases hc with
 | mk l1 a l2 k kn=>
  refine bD ?_;simp only [dQ,l1,l2];refine ak false (ap (by trivial) tJ) (ar (by decide) ?_);refine oc (bc (f:=λ n m=>de n b c m 0) (nY (λ n m i=>de n b c m i) b.B'.length (λ _=>True) (λ _=>False) (λ i hi _ P p1 p2=>?_) ?_ trivial)) (λ _=>?_) (λ e he=>he.elim)
  ·have h:=a _ (A2 l1 hi);have hm:=mz (l:=b.B') (i:=(i:Int)) O;simp only [de];exact ap O (ak false (am O (am O (ap h.1.symm (am O (am O (ak _ (KV (C9 (hb.eAttrs _ hm).bExpr) _ h.2) (ac Z))))))) AW)
  ·simp only [de];exact tH
  refine oc (bc (f:=λ n m=>dc n (dQ n) b c m 0) (nY (λ n m i=>dc n (dQ n) b c m i) b.By.length (λ _=>True) (λ _=>False) (λ i hi _ P p1 p2=>?_) ?_ trivial)) (λ _=>ac Z) (λ e he=>he.elim)
  ·have h:=k _ (A2 l2 hi);have h3:=kn _ (A2 l2 hi);have hm:=mz (l:=b.By) (i:=(i:Int)) O;have hll:=(hb.eBlocks _ hm).bLabels;unfold ei at hll;simp only at h;simp only [dc,h.2];exact ap O (ak false (am O (am O (ap h.1.symm (am O (am O (ak _ (OO _ O) (ar (by decide) (am O (am O (ak _ (ih _ hm _ h3) (ac Z))))))))))) AW)
  ·simp only [dc];exact tH
theorem II {e:ab}(hb:ab.Bd e)(hc:chk e=0)(hn:cQ e<=300)(hl:(bw e).length<=20000):∃ e',EQV e e'/\Ev2 (λ n _=>pC n (bw e)) (·=(e',az.mk 0 0 [])):=by
 have hv:=GL hb 0 1 O O  hc;obtain ⟨e',h1,N,h2⟩:=Cu ((Ge 1 e hv O O).1.weak (ph _) (pW e)) O O O 0;refine ⟨e',h1,?_⟩;have hp:chk e'=0:=by rw [QH h1]; exact hc
 have f1:=(fol N).w (bw e) 0 e' O O  (h2 N (bt _));have hz:=(fct N).w (bw e) 0 O O  (.inr e') (h2 N (bt _));simp only [pC];refine ak _ f1 ?_;have:=BQ hz
 rw [show outE (uy (.inr e'))=(e',az.mk 0 0 []) by
  unfold uy;simp only
  rw [if_pos hp]; rfl] at this
 exact ak _ this (ac Z)
theorem Ie {b:av}(hb:av.Bd b)(hg:GB 0 b)(hN:jR b<=300)(hl:(oe 0 b).length<=20000):∃ b',EBd b b'/\Ev2 (λ n _=>pk n (oe 0 b)) (·=(b',az.mk 0 0 [])):=by
 obtain ⟨ts,h1,h2,h3⟩:=(Hb hg hb hN O).2 hl;have g:=h3 [];generalize oe 0 b=t at hl g ⊢;rw [List.append_nil] at g;obtain ⟨M,E,hs,hk,hM,hE⟩:=xF (bt _) O O  g;obtain ⟨u,N,rfl,u1,u2,hN2⟩:=a8 (L:=E) hE
 cases dB hN2
 have hn:(b.B'.map (·.AT)).Nodup:=by
  cases hg with
  | mk _ n _ _=>exact n
 obtain ⟨b',e1,e2⟩:=Hg h1 hn M hM;refine ⟨b',e1,?_⟩;have hgl:=Ay (s:=t) (a:=0) O O  hk;rw [mv0,hs] at hgl;simp only at u1;have hi:=e2 (M++[u]) 0 0 u [] hgl.1 hgl.2 (.inl rfl) rfl O O;have hpk:=Cj (L:=M++[u]) (i:=M.length) (t:=u) (r:=[]) G dOk;simp only [pk];refine ak _ (G5 t) (ap hk ?_);rw [hs];refine ak _ hi ?_;simp only [Nat.zero_add];refine ak (true,M++[u],(M.length:Int),0,0,[]) (ak (false,M++[u],(M.length:Int),0,0,[]) (ap trivial (ak _ (aA hpk rfl) (ac (by show (!decide (u.Ar=6),_)=_; rw [decide_eq_true u1]; rfl)))) wX) wX
theorem xw:Ev2 (λ n _=>iD n) (·=true):=⟨true,Z,60,λ n _ hn _=>by
 obtain ⟨m,rfl⟩:∃ m,n=m+60:=⟨n-60,by omega⟩
 exact (by kernel_rfl:iD (m+60)=some true)⟩
theorem Jo {e:ab}{b:av}(he:ab.Bd e)(hb:av.Bd b):Ev2 (λ n _=>j4 n e b) (·=true):=by
 simp only [j4];refine aW (λ t=>t=false->(chk e=0/\cQ e<=300)/\GB 0 b/\jR b<=300) (aW _ (Su he) λ r hr=>aH (λ _=>ac nofun) λ h1=>aW _ (Ky hb) λ q hq=>ac λ h2=>⟨hr (by simpa using h1),hq (by simpa using h2)⟩) λ t ht=>aH (λ _=>ak _ xw (ac rfl)) λ h=>?_;obtain ⟨⟨hc,hn⟩,hg,hN⟩:=ht (by simpa using h);have hv:=GL he 0 1 O O  hc;refine ak _ (xU hv hn).1 (ak _ (L3 hb hg hN) ?_);have fin:Ev2 (λ n _=>(iD n).bind λ r=>some r) (·=true):=ak _ xw (ac rfl);refine ez () (aH (λ hl=>?_) λ _=>ac rfl) (ez () (aH (λ hl=>?_) λ _=>ac rfl) fin)
 ·obtain ⟨e',h1,h2⟩:=II he hc hn O;exact ak _ h2 (ak false rl (ar (by decide) (ak false (ap ⟨rfl,rfl,rfl⟩ (ak _ (KV (C9 he) _ h1) (ac rfl))) A3)))
 ·obtain ⟨b',h1,h2⟩:=Ie hb hg hN O;exact ak _ h2 (ak false rl (ar (by decide) (ak false (ap ⟨rfl,rfl,rfl⟩ (ak _ (Sq b hb _ h1) (ac rfl))) A3)))
end Go.Ab.R06
end
