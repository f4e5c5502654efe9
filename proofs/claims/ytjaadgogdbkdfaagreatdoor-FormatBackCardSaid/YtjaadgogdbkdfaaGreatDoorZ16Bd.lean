/- Texts of the proof, one behind the other. No statement is proved here. -/
import Derived.Lib.IndexLaws
import Derived.Lib.Bytes2
import Derived.Test.YtjaadgogdbkdfaaGreatDoorZ16Ba
import Derived.Test.YtjaadgogdbkdfaaGreatDoorZ16Bb
import Derived.Test.YtjaadgogdbkdfaaGreatDoorZ16Bc
set_option maxHeartbeats 4000000
section
namespace Go.Ab.R06
open Go.Proofs Go.Ab Go.Ab.RB
variable {p:Prop}
theorem xS (h:p:=by
  exact nx 2 Z (eX _ (oi h2).symm (gE Z Z))):p:=h
theorem iw (h:p:=by
  have h0:=h1
  exact S0):p:=h
theorem Av (h:p:=by
  have h0:=Vp _ hv;refine nx 1 Z ?_
  cases h0):p:=h
theorem AH (h:p:=by
  exact eX _ (oi h2).symm (gE Z Z)):p:=h
theorem FI (h:p:=by exact gE (t:=⟨[(0,.ptr 1000000 0),(1,.p (eK .u8 W1)),(2,.p (eK .u8 b_2)),(7,.p (eI UX.fat))],[(1000000,(ae.cs x14).map .p)]⟩) Z Z):p:=h
theorem tQ (h:p:=by exact FM (e _ _ Z)):p:=h
theorem KM (h:p:=by exact nx 3 Z (mQo (hR0 _ (hR1 _ (oi h2).symm).symm) (aQ _) Z Z Z (aD Z (aF _) Z) (sr) ⟨⟨_,Z,bf _⟩,trivial⟩)):p:=h
theorem LX (h:p:=by exact nx 6 Z (mQo (oi h0) (aQ _) Z Z Z (aD Z (aF _) Z) (sr) ⟨⟨_,Z,bf _⟩,trivial⟩)):p:=h
theorem EO (h:p:=by exact mO Z (iB Z Z Z Z Z Z Z Z (ae.b_at _) (ae.u_at _) (nx 1 Z (eX _ (oi h2).symm (gE Z Z))))):p:=h
theorem ML (h:p:=by exact dR 1 Z (dE Z (nx 1 Z (eX _ (oi h3).symm (gE Z Z))))):p:=h
theorem Fs (h:p:=by first|rfl|(simp only [n7,List.map_nil,af.M']; done)|(simp only [n7,List.map_nil,af.M']; rfl)):p:=h
theorem xk (h:p:=by exact FM (UT _ _ Z)):p:=h
theorem Of (h:p:=by exact λ sl UT K hK=>cO (bv Z Z Z Z Z (UT _ _ Z) Z (ae.g_class _ Wv) hK) Z Z (UT _ _ Z) (Vv)):p:=h
theorem RX (h:p:=by exact dE Z (nx 1 Z (eX _ (oi h3).symm (gE Z Z)))):p:=h
theorem rm (h:p:=by repeat (first|exact IC _|apply ES Z|apply xX Z (AZ _ _)|apply xX Z Z)):p:=h
theorem EQ (h:p:=by exact mQ (hR0 _ (oi h1).symm) Z (sr)):p:=h
theorem JF (h:p:=by exact gE (t:=⟨[(3,.ptr 3 0),(4,.ptr 101000 0)],[(3,qQ),(101000,(ae.cs Xr.2).map .p)]⟩) Z Z):p:=h
theorem Ef (h:p:=by exact dPc (.p (.val (.slice none 0 0))) Z (dS Z (d5 (nx 2 Z (mQ (hR0 _ (oi h1).symm) Z (fI ⟨nM _,sr,trivial⟩)))))):p:=h
theorem Nn (h:p:=by exact mQo (hR0 _ (hR1 _ (oi h2).symm).symm) (aQ _) Z Z Z (aD Z (aF _) Z) (sr) ⟨⟨_,Z,bf _⟩,trivial⟩):p:=h
theorem TZ (h:p:=by exact nx 1 Z (eX _ (oi h3).symm (gE Z Z))):p:=h
theorem EP (h:p:=by exact mQo (hR0 _ (hR1 _ (oi h2).symm).symm) (aQ _) Z Z Z (aD Z (aF _) (aD Z Z Z)) (sr) ⟨⟨_,Z,bf _⟩,⟨_,Z,⟨sr,trivial⟩⟩,trivial⟩):p:=h
theorem yz (h:p:=by exact Gi (UT _ _ Z)):p:=h
set_option maxRecDepth 4000
attribute [local irreducible] awp iH bu bA cj AV.sub M cN
theorem S0 {p:Prop}(h:p:=by
  repeat' first
    | refine nxg 12 Z Z ?_
    | refine nxg 4 Z Z ?_
    | refine nxg 1 Z Z ?_
    | exact eX _ (oi h0).symm (gE Z Z)
    | exact mQo (oi h0) (aQ _) Z Z Z (aD Z (aF _) Z) U U
    | exact Jd (oi h0) (aQ _) Z Z Z (aD Z (aF _) Z) U U
    | exact mQo (hR0 _ (oi h0).symm) (aQ _) Z Z Z (aD Z (aF _) Z) U U
    | exact mQo (hR0 _ (hR1 _ (oi h0).symm).symm) (aQ _) Z Z Z (aD Z (aF _) Z) U U
    | exact eXi _ (oi h0).symm (gE Z Z)
    | exact eX _ h0 (gE Z Z)
    | exact mQ (oi h0) Z U
    | refine oS Z Z ?_
    | refine oLs Z ?_
    | refine oA h0 Z Z λ hk h0=>?_
    | refine oI h0 rfl λ hk h0=>?_
    | refine oP h0 Z Z Z λ hk h0=>?_
    | refine mO Z (bv Z Z Z Z Z Z Z (ae.g_at _) ?_)
    | refine mO Z (bv Z Z Z Z Z Z Z (ae.g_outer _) ?_)
    | refine mO Z (iB Z Z Z Z Z Z Z Z (ae.b_at _) (ae.u_at _) ?_)
    | refine bd h0 λ r e h0=>oK (HP.c e) Z U HE.e Z ?_
    | refine bd h0 λ r e h0=>mO Z (bq [1000000] [] 101000 101000 (HO.c e) Z Z Z Z Z U Z (aD Z (aF _) Z) U Z Z Z Z Z Z Z HE.e Z (aD Z (aF _) Z) ?_)
    | refine fBn 2 h0 Z Z (λ c h0=>?_) λ c h0=>?_
    | refine fBn 1 h0 Z Z (λ c h0=>?_) λ c h0=>?_
    | refine fBc h0 Z Z (λ c h0=>?_) λ c h0=>?_
    | refine fDn 3 h0 Z Z (λ c h0=>?_) λ c h0=>?_
    | refine fDn 2 h0 Z Z (λ c h0=>?_) λ c h0=>?_
    | refine fDn 1 h0 Z Z (λ c h0=>?_) λ c h0=>?_
    | refine fDc h0 Z Z (λ c h0=>?_) λ c h0=>?_
    | refine mDa Z Z ?_
    | refine dE Z ?_
    | refine dR 4 Z ?_
    | refine dR 1 Z ?_
    | refine cc' h0 λ hk h0=>?_):p:=h
abbrev GZ (F:ae->Int->Option (Bool×ae))(k:Nat):Prop:=∀ (a0:ae) (a1:Int) (r:Bool×ae),HO (F a0 a1=some r) Tryz.prog k [.ptr 1000000 0,.p (eI a1)] [(1000000,(ae.cs a0).map .p)] (.p (eB r.1)) ([(1000000,(ae.cs r.2).map .p)])
abbrev zM (F:ae->Option (Bool×ae))(k:Nat):Prop:=∀ (a0:ae) (r:Bool×ae),HO (F a0=some r) Tryz.prog k [.ptr 1000000 0] [(1000000,(ae.cs a0).map .p)] (.p (eB r.1)) ([(1000000,(ae.cs r.2).map .p)])
abbrev kR:List AV:=[.p (eI 0),.p (eS ([]:Bk)),.p (eI 0)]
abbrev qQ:List AV:=[.p (eI 0),.p (eI 0),.p (eS ([]:Bk))]
def bO (UX:ae):Option (Bool×ae) :=some (decide (UX.fat<(UX.fs.length:Int)),UX)
instance Bq:zM (bO) 65:=by
 refine λ UX=>hO good [] [1000000] Tryz.func65 Z Z λ r h0 _ w0 F=>?_;unfold bO at h0;exact nx 5 Z (mD [(0,.ptr 1000000 0)] Z ⟨Z,trivial⟩ Z (dR 3 Z (dq (.p (eI UX.fat)) [5] Z (λ _ e _ q=>al Z (bv Z Z Z Z Z (e _ _ Z) Z (ae.g_at _) q)) Z (dR 3 Z (dq (.p (eS UX.fs)) [9] Z (λ _ e _ q=>al Z (bv Z Z Z Z Z (e _ _ Z) Z (ae.g_s _) q)) Z (dq (.p (eI (UX.fs.length:Int))) [10] Z (λ _ e _ q=>al Z (uN Z Z Z Z Z (e _ _ Z) q)) Z (dR 2 Z S0)))))))
def bH:Nat->ae->Option (ae⊕ae)|0,_=>none|m+1,x20=>(bO x20).bind λ U8=>if U8.1=true then ck ((0:Int)<=U8.2.fat/\U8.2.fat<(U8.2.fs.length:Int))<|ck ((0:Int)<=byt U8.2.fs U8.2.fat/\byt U8.2.fs U8.2.fat<256)<|jn (if ((lat kd (byt U8.2.fs U8.2.fat)).toNat:Int)=1 then ck (inR (U8.2.fat+1))<|some (.inl (ae.mk U8.2.fs (U8.2.fat+1) U8.2.N' U8.2.AI))else(if ((lat kd (byt U8.2.fs U8.2.fat)).toNat:Int)=7 then some (decide (U8.2.N'<0))else some false).bind λ t29=>if t29=true then ck ((0:Int)<=U8.2.fat/\U8.2.fat<=(U8.2.fs.length:Int)/\(U8.2.fs.length:Int)<=(U8.2.fs.length:Int))<|(strings_IndexByte (sub U8.2.fs U8.2.fat (U8.2.fs.length:Int)) 10).bind λ WU=>(if WU<0 then ck (inR ((U8.2.fs.length:Int)-U8.2.fat))<|some ((U8.2.fs.length:Int)-U8.2.fat)else some WU).bind λ n36=>ck (inR (U8.2.fat+n36))<|some (.inl (ae.mk U8.2.fs (U8.2.fat+n36) U8.2.N' U8.2.AI))else some (.inr (.inr U8.2)) : Option (ae⊕(ae⊕ae))) λ x38=>bH m x38 else some (.inl U8.2)
def fK (n:Nat)(UX:ae):Option ae :=jn (bH n UX) λ x40=>some x40
instance Bj (n:Nat) (UX:ae):∀ (r:ae),HO (fK n UX=some r) Tryz.prog 64 [.ptr 1000000 0] [(1000000,(ae.cs UX).map .p)] (.tuple []) ([(1000000,(ae.cs r).map .p)]):=by
 refine hO good [] [1000000] Tryz.func64 Z Z λ r h0 _ w0 F=>?_;unfold fK at h0;refine nx 1 rfl ?_;obtain ⟨o45,h1,Vp,hR0⟩:=bJ h0;refine kEx 0 (λ v46:ae=>o45=.inl v46) (λ v46=>⟨[],[(1000000,(ae.cs v46).map .p)]⟩) (λ v46 hv=>?_) ?_
 ·have h0:=Vp _ hv;exact S0
 refine lG (λ (WO:ae)=>⟨[(0,.ptr 1000000 0)],[(1000000,(ae.cs WO).map .p)]⟩) (λ m (WO:ae)=>bH m WO) Y UX h1 (gE rfl rfl) ?_;rintro m x20 h1;replace h1:bH (m+1) x20=some o45:=h1;rw [bH] at h1;refine nx 4 rfl (bd h1 λ U8 e22 h1=>mO rfl (bq [1000000] [] 102000 102000 (HO.c e22) rfl rfl rfl rfl rfl ⟨sr,trivial⟩ rfl (aD rfl (aF _) rfl) ⟨⟨_,rfl,bf _⟩,trivial⟩ rfl rfl rfl rfl rfl rfl rfl rfl HE.e rfl (aD rfl (aF _) rfl) (nx 1 rfl (fB [5] h1 rfl (λ XR h1=>?_) λ XR h1=>?_))))
 ·refine nx 4 rfl (cc' h1 λ Xu h1=>cc' h1 λ WC h1=>mD [(0,.ptr 1000000 0)] rfl ⟨rfl,trivial⟩ rfl (dR 4 rfl (dq (.p (eS U8.2.fs)) [9] rfl (λ _ e _ q=>al rfl (bv Z Z Z Z Z (e _ _ rfl) rfl (ae.g_s _) q)) rfl (dR 3 rfl (dq (.p (eI U8.2.fat)) [13] rfl (λ _ e _ q=>al rfl (bv Z Z Z Z Z (e _ _ rfl) rfl (ae.g_at _) q)) rfl (dq (.p (eK .u8 (byt U8.2.fs U8.2.fat))) [10,14] rfl (λ _ e _ q=>al rfl (iA Z Z Z Z Z (e _ _ rfl) (e _ _ rfl) Xu q)) rfl (dR 2 rfl (dq (.ptr 1000000 (2+(byt U8.2.fs U8.2.fat).toNat*1)) [15,17] rfl (λ _ e _ q=>al rfl (io Z Z Z Z Z Z (e _ _ rfl) (e _ _ rfl) WC q)) rfl (dq (.p (eK .u8 ((lat kd (byt U8.2.fs U8.2.fat)).toNat:Int))) [18] rfl (λ _ e _ q=>al rfl (bv Z Z Z Z Z (e _ _ rfl) rfl (ae.g_class _ WC) q)) rfl (dR 1 rfl (dE rfl (nx 1 rfl ?_))))))))))));obtain ⟨o48,h2,hL1,hR1⟩:=bJ h1;refine kX (λ ZD:ae=>o48=.inl ZD) (λ ZD=>⟨[(0,.ptr 1000000 0)],[(1000000,(ae.cs ZD).map .p)]⟩) (λ ZD hv=>?_) ?_
  ·have h1:=hL1 _ hv;exact iw
  refine nx 7 Z (fD [20,22] h2 Z (λ c26 h2=>?_) λ c26 h2=>?_)
  ·exact nx 5 Z (mO Z (bv Z Z Z Z Z Z Z (ae.g_at _) (oA h2 Z Z λ Zv h2=>nx 2 Z EO)))
  refine nx 2 Z (bd h2 λ o50 h3 h2=>kN o50 (λ v51=>⟨[(0,.ptr 1000000 0),(30,.p (eB v51))],[(1000000,(ae.cs U8.2).map .p)]⟩) ?_ ?_)
  ·refine nx 1 Z (fB [30] h2 Z (λ c30 h2=>?_) λ c30 h2=>?_)
   ·refine nx 2 Z (cc' h2 λ Zu h2=>bd h2 λ WU e33 h2=>mD [(0,.ptr 1000000 0)] Z ⟨Z,trivial⟩ Z (dR 3 Z (dq (.p (eS U8.2.fs)) [42] Z (λ _ e _ q=>al Z (bv Z Z Z Z Z (e _ _ Z) Z (ae.g_s _) q)) Z (dR 3 Z (dq (.p (eI U8.2.fat)) [46] Z (λ _ e _ q=>al Z (bv Z Z Z Z Z (e _ _ Z) Z (ae.g_at _) q)) Z (dq (.p (eS (sub U8.2.fs U8.2.fat (U8.2.fs.length:Int)))) [43,47] Z (λ _ e _ q=>al Z (gV (a:=U8.2.fs) (l:=U8.2.fat) (h:=(U8.2.fs.length:Int)) Z Z Z Z Z (e _ _ Z) tQ Z Zu q)) Z (dq (.p (eI WU)) [48] Z (λ _ e _ q=>al Z (bQ (nq (sub U8.2.fs U8.2.fat (U8.2.fs.length:Int)) 10 _ e33) Z Z Z (aG (e _ _ Z) (aG Z bp)) ⟨sr,sr,trivial⟩ HE.e Z q)) Z (dR 1 Z (dE Z (nx 2 Z (bd h2 λ o52 h3 h2=>kN o52 (λ v53=>⟨[(0,.ptr 1000000 0),(3,.p (eI v53))],[(1000000,(ae.cs U8.2).map .p)]⟩) ?_ ?_)))))))))))
    ·exact nx 5 Z (mO Z (bv Z Z Z Z Z Z Z (ae.g_at _) (nx 1 Z (oA h2 Z Z λ XF h2=>nx 2 Z EO))))
    refine nx 5 Z (fD [51] h3 Z (λ c34 h3=>?_) λ c34 h3=>?_)
    ·exact nx 1 Z (cc' h3 λ X6 h3=>mD [(0,.ptr 1000000 0)] Z ⟨Z,trivial⟩ Z (dR 3 Z (dq (.p (eS U8.2.fs)) [54] Z (λ _ e _ q=>al Z (bv Z Z Z Z Z (e _ _ Z) Z (ae.g_s _) q)) Z (dq (.p (eI (U8.2.fs.length:Int))) [55] Z (λ _ e _ q=>al Z (uN Z Z Z Z Z (e _ _ Z) q)) Z (dR 3 Z (dq (.p (eI U8.2.fat)) [59] Z (λ _ e _ q=>al Z (bv Z Z Z Z Z (e _ _ Z) Z (ae.g_at _) q)) Z (dq (.p (eI ((U8.2.fs.length:Int)-U8.2.fat))) [56,60] Z (λ _ e _ q=>al Z (gJ Z Z Z (e _ _ Z) (e _ _ Z) Z X6 q)) Z ML)))))))
    exact ry
   exact nx 2 Z Nn
  refine nx 4 Z (fD [32,33] h3 Z (λ c28 h3=>?_) λ c28 h3=>?_)
  ·exact nx 3 Z (mO Z (bv Z Z Z Z Z Z Z (ae.g_outer _) (nx 4 Z pY)))
  exact EB
 exact iw
def ec (O':Bk):Nat->Int->Option (Unit⊕Bk)|0,_=>none|m+1,t8=>if t8<7 then ck ((0:Int)<=t8/\t8<7)<|(strings_HasPrefix O' (lat ([([61,62]:Bk),([61,61]:Bk),([33,61]:Bk),([60,61]:Bk),([62,61]:Bk),([38,38]:Bk),([124,124]:Bk)]:List Bk) t8)).bind λ WV=>if WV=true then some (.inr (lat ([([61,62]:Bk),([61,61]:Bk),([33,61]:Bk),([60,61]:Bk),([62,61]:Bk),([38,38]:Bk),([124,124]:Bk)]:List Bk) t8))else ck (inR (t8+1))<|ec O' m (t8+1)else some (.inl ())
def ke (n:Nat)(O':Bk):Option Bk :=jn (ec O' n 0) λ q23=>(if O'=([]:Bk) then some true else ck ((0:Int)<=0/\0<(O'.length:Int))<|(strings_IndexByte ([123,125,91,93,40,41,44,61,60,62,43,45,42,47,37,33,63,58,46]:Bk) (byt O' 0)).bind λ Wt=>some (decide (Wt<0))).bind λ t20=>if t20=true then some ([]:Bk)else ck ((0:Int)<=0/\(0:Int)<=1/\(1:Int)<=(O'.length:Int))<|some (sub O' 0 1)
instance I3 (n:Nat) (O':Bk):∀ (r:Bk),HP (ke n O'=some r) Tryz.prog 94 [eS O'] (.p (eS r)):=by
 refine hP good Tryz.func94 Z Z λ r h0 _ w0=>?_;unfold ke at h0;refine nx 11 rfl ?_;obtain ⟨YD,h1,Vp,hR0⟩:=bJ h0;refine kEx 0 (λ Yq:Unit=>YD=.inl Yq) (λ Yq=>⟨[(0,.p (eS O'))],[]⟩) (λ Yq hv=>?_) ?_
 ·have h0:=Vp _ hv;refine nx 3 Z (bd h0 λ Xs h1 h0=>kN Xs (λ YY=>⟨[(0,.p (eS O')),(21,.p (eB YY))],[]⟩) ?_ ?_)
  ·exact S0
  exact iw
 refine lG (λ (Y3:Int)=>⟨[(0,.p (eS O')),(5,.p (.agg [eS ([61,62]:Bk),eS ([61,61]:Bk),eS ([33,61]:Bk),eS ([60,61]:Bk),eS ([62,61]:Bk),eS ([38,38]:Bk),eS ([124,124]:Bk)])),(6,.p (eI Y3))],[]⟩) (λ m (Y3:Int)=>ec O' m Y3) Y 0 h1 (gE rfl rfl) ?_;rintro m t8 h1;replace h1:ec O' (m+1) t8=some YD:=h1;rw [ec] at h1;refine nx 5 rfl (fD [7] h1 rfl (λ c9 h1=>?_) λ c9 h1=>?_)
 ·refine nx 6 Z (cc' h1 λ Wb h1=>mO Z (yS eS ([([61,62]:Bk),([61,61]:Bk),([33,61]:Bk),([60,61]:Bk),([62,61]:Bk),([38,38]:Bk),([124,124]:Bk)]:List Bk) Z Z Z Z Z Z Z Z Z Z Z (by have:=Wb; simp only [aq,List.length_nil]; omega) (nx 6 Z (bd h1 λ WV YT h1=>oK (dJ O' (lat ([([61,62]:Bk),([61,61]:Bk),([33,61]:Bk),([60,61]:Bk),([62,61]:Bk),([38,38]:Bk),([124,124]:Bk)]:List Bk) t8) _ YT) Z ⟨sr,sr,trivial⟩ HE.e Z (nx 1 Z (fB [11] h1 Z (λ c13 h1=>?_) λ c13 h1=>?_))))))
  ·exact nx 7 Z EQ
  exact nx 3 Z (oA h1 Z Z λ XH h1=>nx 2 Z (eX (t8+1) h1 (gE Z Z)))
 exact iw
def dM (n:Nat)(UX:ae):Option (Bool×ae) :=ck ((0:Int)<=UX.fat/\UX.fat<(UX.fs.length:Int))<|ck ((0:Int)<=byt UX.fs UX.fat/\byt UX.fs UX.fat<256)<|(if ((lat kd (byt UX.fs UX.fat)).toNat:Int)=2 then some true else if ((lat kd (byt UX.fs UX.fat)).toNat:Int)=3 then some true else if ((lat kd (byt UX.fs UX.fat)).toNat:Int)=5 then some true else some (decide (((lat kd (byt UX.fs UX.fat)).toNat:Int)=6))).bind λ t6=>if t6=true then some (true,UX)else ck ((0:Int)<=UX.fat/\UX.fat<=(UX.fs.length:Int)/\(UX.fs.length:Int)<=(UX.fs.length:Int))<|(ke n (sub UX.fs UX.fat (UX.fs.length:Int))).bind λ r9=>some (!decide (r9=([]:Bk)),UX)
instance zC (n:Nat):zM (dM n) 66:=by
 refine λ UX=>hO good [] [1000000] Tryz.func66 Z Z λ r h0 _ w0 F=>?_;unfold dM at h0;refine nx 6 Z (cc' h0 λ X7 h0=>cc' h0 λ WZ h0=>mD [(0,.ptr 1000000 0)] Z ⟨Z,trivial⟩ Z (dR 4 Z (dq (.p (eS UX.fs)) [6] Z (λ _ e _ q=>al Z (bv Z Z Z Z Z (e _ _ Z) Z (ae.g_s _) q)) Z (dR 3 Z (dq (.p (eI UX.fat)) [10] Z (λ _ e _ q=>al Z (bv Z Z Z Z Z (e _ _ Z) Z (ae.g_at _) q)) Z (dq (.p (eK .u8 (byt UX.fs UX.fat))) [7,11] Z (λ _ e _ q=>al Z (iA Z Z Z Z Z (e _ _ Z) (e _ _ Z) X7 q)) Z (dR 2 Z (dq (.ptr 1000000 (2+(byt UX.fs UX.fat).toNat*1)) [12,14] Z (λ _ e _ q=>al Z (io Z Z Z Z Z Z (e _ _ Z) (e _ _ Z) WZ q)) Z (dq (.p (eK .u8 ((lat kd (byt UX.fs UX.fat)).toNat:Int))) [15] Z (λ _ e _ q=>al Z (bv Z Z Z Z Z (e _ _ Z) Z (ae.g_class _ WZ) q)) Z (dE Z (nx 3 Z (bd h0 λ o12 h1 h0=>?_))))))))))));refine kN o12 (λ ZW=>⟨[(0,.ptr 1000000 0),(17,.p (eB ZW))],[(1000000,(ae.cs UX).map .p)]⟩) ?_ ?_
 ·refine nx 1 Z (fB [17] h0 Z (λ c7 h0=>?_) λ c7 h0=>?_)
  ·exact S0
  exact nx 3 Z (cc' h0 λ hk8 h0=>bd h0 λ r9 Xv h0=>mD [(0,.ptr 1000000 0)] Z ⟨Z,trivial⟩ Z (dR 3 Z (dq (.p (eS UX.fs)) [24] Z (λ _ e _ q=>al Z (bv Z Z Z Z Z (e _ _ Z) Z (ae.g_s _) q)) Z (dR 3 Z (dq (.p (eI UX.fat)) [28] Z (λ _ e _ q=>al Z (bv Z Z Z Z Z (e _ _ Z) Z (ae.g_at _) q)) Z (dq (.p (eS (sub UX.fs UX.fat (UX.fs.length:Int)))) [25,29] Z (λ _ e _ q=>al Z (gV (a:=UX.fs) (l:=UX.fat) (h:=(UX.fs.length:Int)) Z Z Z Z Z (e _ _ Z) tQ Z hk8 q)) Z (dq (.p (eS r9)) [30] Z (λ _ e _ q=>al Z (bQ (HP.c Xv) Z Z Z (aG (e _ _ Z) bp) ⟨sr,trivial⟩ HE.e Z q)) Z (dq (.p (eB (!decide (r9=([]:Bk))))) [31] Z (λ _ e _ q=>al Z (ko Z Z Z (e _ _ Z) Z Z q)) Z S0))))))))
 exact iw
def cz (W1:Int)(b_2:Int):Nat->ae->Option ae|0,_=>none|m+1,x14=>((bO x14).bind λ U2=>if U2.1=true then ck ((0:Int)<=U2.2.fat/\U2.2.fat<(U2.2.fs.length:Int))<|ck ((0:Int)<=byt U2.2.fs U2.2.fat/\byt U2.2.fs U2.2.fat<256)<|if ((lat kd (byt U2.2.fs U2.2.fat)).toNat:Int)=W1 then some (true,U2.2)else ck ((0:Int)<=U2.2.fat/\U2.2.fat<(U2.2.fs.length:Int))<|ck ((0:Int)<=byt U2.2.fs U2.2.fat/\byt U2.2.fs U2.2.fat<256)<|some (decide (((lat kd (byt U2.2.fs U2.2.fat)).toNat:Int)=b_2),U2.2)else some (false,U2.2)).bind λ WA=>if WA.1=true then ck (inR (WA.2.fat+1))<|cz W1 b_2 m (ae.mk WA.2.fs (WA.2.fat+1) WA.2.N' WA.2.AI)else some WA.2
def fV (n:Nat)(UX:ae)(W1:Int)(b_2:Int):Option (Bk×ae) :=(cz W1 b_2 n UX).bind λ x28=>ck ((0:Int)<=UX.fat/\UX.fat<=x28.fat/\x28.fat<=(x28.fs.length:Int))<|some (sub x28.fs UX.fat x28.fat,x28)
instance BG (n:Nat) (UX:ae) (W1:Int) (b_2:Int):∀ (r:Bk×ae),HO (fV n UX W1 b_2=some r) Tryz.prog 95 [.ptr 1000000 0,.p (eK .u8 W1),.p (eK .u8 b_2)] [(1000000,(ae.cs UX).map .p)] (.p (eS r.1)) ([(1000000,(ae.cs r.2).map .p)]):=by
 refine hO good [] [1000000] Tryz.func95 Z Z λ r h0 _ w0 F=>?_;unfold fV at h0;refine nx 9 Z (mO Z (bv Z Z Z Z Z Z Z (ae.g_at _) (nx 4 Z (bd h0 λ XO h1 h0=>kE 0 XO (λ ZT=>⟨[(0,.ptr 1000000 0),(7,.p (eI UX.fat))],[(1000000,(ae.cs ZT).map .p)]⟩) ?_ ?_))))
 ·exact nx 2 Z (cc' h0 λ XG h0=>mD [(0,.ptr 1000000 0),(7,.p (eI UX.fat))] Z ⟨Z,Z,trivial⟩ Z (dR 3 Z (dq (.p (eS XO.fs)) [59] Z (λ _ e _ q=>al Z (bv Z Z Z Z Z (e _ _ Z) Z (ae.g_s _) q)) Z (dR 4 Z (dq (.p (eI XO.fat)) [64] Z (λ _ e _ q=>al Z (bv Z Z Z Z Z (e _ _ Z) Z (ae.g_at _) q)) Z (dq (.p (eS (sub XO.fs UX.fat XO.fat))) [60,61,65] Z (λ _ e _ q=>al Z (gV (a:=XO.fs) (l:=UX.fat) (h:=XO.fat) Z Z Z Z Z (e _ _ Z) tQ (Gi (e _ _ Z)) XG q)) Z S0))))))
 refine lG (λ (Yz:ae)=>⟨[(0,.ptr 1000000 0),(1,.p (eK .u8 W1)),(2,.p (eK .u8 b_2)),(7,.p (eI UX.fat))],[(1000000,(ae.cs Yz).map .p)]⟩) (λ m (Yz:ae)=>cz W1 b_2 m Yz) Y UX h1 (gE rfl rfl) ?_;rintro m x14 h1;replace h1:cz W1 b_2 (m+1) x14=some XO:=h1;rw [cz] at h1;refine nx 2 rfl (bd h1 λ o35 h2 h1=>kN o35 (λ ZS=>⟨[(0,.ptr 1000000 0),(1,.p (eK .u8 W1)),(2,.p (eK .u8 b_2)),(7,.p (eI UX.fat)),(49,.p (eB ZS.1))],[(1000000,(ae.cs ZS.2).map .p)]⟩) ?_ ?_)
 ·exact iw
 refine bd h2 λ U2 Zx h2=>fB (p:=U2.1) [] h2 Z (λ Vv h2=>?_) λ Vv h2=>?_
 ·refine cc' h2 λ WG h2=>cc' h2 λ Wv h2=>fD (p:=((lat kd (byt U2.2.fs U2.2.fat)).toNat:Int)=W1) [] h2 Z (λ c20 h2=>?_) λ c20 h2=>?_
  ·refine mG FI (mSq ⟨1,[1],(by2 (.some (dk [] 108000 108000)) .none),(λ _=>[(0,.ptr 1000000 0),(1,.p (eK .u8 W1)),(2,.p (eK .u8 b_2)),(7,.p (eI UX.fat))]),(by2 [(1000000,(ae.cs x14).map .p)] [(1000000,(ae.cs U2.2).map .p)])⟩ Z (dPc (.ptr 1000000 0) Z (dI (λ _=>.p (eB U2.1)) [12] Z (λ sl UT K hK=>al Z (bq [1000000] [] 108000 108000 (HO.c Zx) Z Z Z (aG (UT _ _ Z) bp) Z ⟨sr,trivial⟩ Z (aD Z (aF _) Z) ⟨⟨_,Z,bf _⟩,trivial⟩ Z Z Z Z Z Z Z Z HE.e Z (aD Z (aF _) Z) hK)) (dPc (.p (eB U2.1)) Z (dPy (λ _=>.ptr 1000000 0) (Vv) Z (dPy (λ _=>.ptr 1000000 0) (Vv) Z (dPy (λ _=>.ptr 1000000 0) (Vv) Z (dPy (λ _=>.ptr 1000000 0) (Vv) Z (dPy (λ _=>.p (eS U2.2.fs)) (Vv) Z (dPy (λ _=>.ptr 1000000 0) (Vv) Z (dPy (λ _=>.ptr 1000000 0) (Vv) Z (dPy (λ _=>.ptr 1000000 1) (Vv) Z (dPy (λ _=>.p (eI U2.2.fat)) (Vv) Z ?_)))))))))))));refine dO (.p (eK .u8 (byt U2.2.fs U2.2.fat))) [14,19,23] Z (λ _ sl UT K hK=>cO (iA Z Z Z Z Z (UT _ _ Z) (UT _ _ Z) WG hK) Z Z (UT _ _ Z) (Vv)) (dPy (λ _=>.ptr 1000000 0) (Vv) Z (dPy (λ _=>.ptr 1000000 2) (Vv) Z (dO (.ptr 1000000 (2+(byt U2.2.fs U2.2.fat).toNat*1)) [14,24,26] Z (λ _ sl UT K hK=>cO (io Z Z Z Z Z Z (UT _ _ Z) (UT _ _ Z) Wv hK) Z Z (UT _ _ Z) (Vv)) (kQ (λ _=>.p (eK .u8 ((lat kd (byt U2.2.fs U2.2.fat)).toNat:Int))) Z Z Z (Rj Z Y) (lt1 Z) (fX [(14,_),(27,_)] ⟨.inr ⟨2,_,Z,Z,Z⟩,.inr ⟨15,_,Z,Z,Z⟩,trivial⟩ Of (ga Z j7)) (dPy (λ _=>.p (eK .u8 W1)) (Vv) Z (dPy (λ _=>.p (eB (decide (((lat kd (byt U2.2.fs U2.2.fat)).toNat:Int)=W1)))) (Vv) Z (dPy (λ _=>.p (eB (decide (((lat kd (byt U2.2.fs U2.2.fat)).toNat:Int)=W1)))) (Vv) Z (dPn (dt c20) Z (dPn (dt c20) Z (dPn (dt c20) Z (dPn (dt c20) Z (dPn (dt c20) Z (dPn (dt c20) Z ?_)))))))))))));refine dPn (dt c20) Z (dPn (dt c20) Z (dPn (dt c20) Z (dPn (dt c20) Z (dPn (dt c20) Z (dPn (dt c20) Z (dPn (dt c20) Z (dPn (dt c20) Z (dPn (dt c20) Z (dPn (dt c20) Z (dO (.p (eB true)) [14,31,47] Z (λ _ sl UT K hK=>cO (ou Z Z Z (UT _ _ Z) (dt c20) Z hK) Z Z (UT _ _ Z) (Vv)) (dO (.p (eB true)) [14,48] Z (λ _ sl UT K hK=>al Z (ou Z Z Z (UT _ _ Z) (Vv) (UT _ _ Z) hK)) (d5 (nx 1 Z ?_)))))))))))));exact AH
  refine cc' h2 λ WF h2=>cc' h2 λ WE h2=>mG FI (mSq ⟨1,[1],(by2 (.some (dk [] 109000 109000)) .none),(λ _=>[(0,.ptr 1000000 0),(1,.p (eK .u8 W1)),(2,.p (eK .u8 b_2)),(7,.p (eI UX.fat))]),(by2 [(1000000,(ae.cs x14).map .p)] [(1000000,(ae.cs U2.2).map .p)])⟩ Z (dPc (.ptr 1000000 0) Z (dI (λ _=>.p (eB U2.1)) [12] Z (λ sl UT K hK=>al Z (bq [1000000] [] 109000 109000 (HO.c Zx) Z Z Z (aG (UT _ _ Z) bp) Z ⟨sr,trivial⟩ Z (aD Z (aF _) Z) ⟨⟨_,Z,bf _⟩,trivial⟩ Z Z Z Z Z Z Z Z HE.e Z (aD Z (aF _) Z) hK)) (dPc (.p (eB U2.1)) Z (dPy (λ _=>.ptr 1000000 0) (Vv) Z (dPy (λ _=>.ptr 1000000 0) (Vv) Z (dPy (λ _=>.ptr 1000000 0) (Vv) Z (dPy (λ _=>.ptr 1000000 0) (Vv) Z (dPy (λ _=>.p (eS U2.2.fs)) (Vv) Z (dPy (λ _=>.ptr 1000000 0) (Vv) Z (dPy (λ _=>.ptr 1000000 0) (Vv) Z (dPy (λ _=>.ptr 1000000 1) (Vv) Z (dPy (λ _=>.p (eI U2.2.fat)) (Vv) Z ?_)))))))))))));refine dO (.p (eK .u8 (byt U2.2.fs U2.2.fat))) [14,19,23] Z (λ _ sl UT K hK=>cO (iA Z Z Z Z Z (UT _ _ Z) (UT _ _ Z) WG hK) Z Z (UT _ _ Z) (Vv)) (dPy (λ _=>.ptr 1000000 0) (Vv) Z (dPy (λ _=>.ptr 1000000 2) (Vv) Z (dO (.ptr 1000000 (2+(byt U2.2.fs U2.2.fat).toNat*1)) [14,24,26] Z (λ _ sl UT K hK=>cO (io Z Z Z Z Z Z (UT _ _ Z) (UT _ _ Z) Wv hK) Z Z (UT _ _ Z) (Vv)) (kQ (λ _=>.p (eK .u8 ((lat kd (byt U2.2.fs U2.2.fat)).toNat:Int))) Z Z Z (Rj Z Y) (lt1 Z) (fX [(14,_),(27,_)] ⟨.inr ⟨2,_,Z,Z,Z⟩,.inr ⟨15,_,Z,Z,Z⟩,trivial⟩ Of (ga Z j7)) (dPy (λ _=>.p (eK .u8 W1)) (Vv) Z (dPy (λ _=>.p (eB (decide (((lat kd (byt U2.2.fs U2.2.fat)).toNat:Int)=W1)))) (Vv) Z (dPy (λ _=>.p (eB (decide (((lat kd (byt U2.2.fs U2.2.fat)).toNat:Int)=W1)))) (Vv) Z (dPy (λ _=>.ptr 1000000 0) (df c20) Z (dPy (λ _=>.ptr 1000000 0) (df c20) Z (dPy (λ _=>.ptr 1000000 0) (df c20) Z (dPy (λ _=>.ptr 1000000 0) (df c20) Z (dPy (λ _=>.p (eS U2.2.fs)) (df c20) Z (dPy (λ _=>.ptr 1000000 0) (df c20) Z ?_)))))))))))));refine dPy (λ _=>.ptr 1000000 0) (df c20) Z (dPy (λ _=>.ptr 1000000 1) (df c20) Z (dPy (λ _=>.p (eI U2.2.fat)) (df c20) Z (dO (.p (eK .u8 (byt U2.2.fs U2.2.fat))) [31,36,40] Z (λ _ sl UT K hK=>cO (iA Z Z Z Z Z (UT _ _ Z) (UT _ _ Z) WF hK) Z Z (UT _ _ Z) (df c20)) (dPy (λ _=>.ptr 1000000 0) (df c20) Z (dPy (λ _=>.ptr 1000000 2) (df c20) Z (dO (.ptr 1000000 (2+(byt U2.2.fs U2.2.fat).toNat*1)) [31,41,43] Z (λ _ sl UT K hK=>cO (io Z Z Z Z Z Z (UT _ _ Z) (UT _ _ Z) WE hK) Z Z (UT _ _ Z) (df c20)) (kQ (λ _=>.p (eK .u8 ((lat kd (byt U2.2.fs U2.2.fat)).toNat:Int))) Z Z Z (Rj Z Y) (lt1 Z) (fX [(31,_),(44,_)] ⟨.inr ⟨19,_,Z,Z,Z⟩,.inr ⟨32,_,Z,Z,Z⟩,trivial⟩ (λ sl UT K hK=>cO (bv Z Z Z Z Z (UT _ _ Z) Z (ae.g_class _ WE) hK) Z Z (UT _ _ Z) (df c20)) (ga Z j7)) (dPy (λ _=>.p (eK .u8 b_2)) (df c20) Z (dPy (λ _=>.p (eB (decide (((lat kd (byt U2.2.fs U2.2.fat)).toNat:Int)=b_2)))) (df c20) Z (dO (.p (eB (decide (((lat kd (byt U2.2.fs U2.2.fat)).toNat:Int)=b_2)))) [14,31,47] Z (λ _ sl UT K hK=>cO (qe Z Z Z (UT _ _ Z) (df c20) (UT _ _ Z) hK) Z Z (UT _ _ Z) (Vv)) (dO (.p (eB (decide (((lat kd (byt U2.2.fs U2.2.fat)).toNat:Int)=b_2)))) [14,48] Z (λ _ sl UT K hK=>al Z (ou Z Z Z (UT _ _ Z) (Vv) (UT _ _ Z) hK)) (d5 (nx 1 Z ?_)))))))))))));exact AH
 refine mG FI (mSq ⟨1,[1],(by2 (.some (dk [] 110000 110000)) .none),(λ _=>[(0,.ptr 1000000 0),(1,.p (eK .u8 W1)),(2,.p (eK .u8 b_2)),(7,.p (eI UX.fat))]),(by2 [(1000000,(ae.cs x14).map .p)] [(1000000,(ae.cs U2.2).map .p)])⟩ Z (dPc (.ptr 1000000 0) Z (dI (λ _=>.p (eB U2.1)) [12] Z (λ sl UT K hK=>al Z (bq [1000000] [] 110000 110000 (HO.c Zx) Z Z Z (aG (UT _ _ Z) bp) Z ⟨sr,trivial⟩ Z (aD Z (aF _) Z) ⟨⟨_,Z,bf _⟩,trivial⟩ Z Z Z Z Z Z Z Z HE.e Z (aD Z (aF _) Z) hK)) (dPc (.p (eB U2.1)) Z (dPn (Vv) Z (dPn (Vv) Z (dPn (Vv) Z (dPn (Vv) Z (dPn (Vv) Z (dPn (Vv) Z (dPn (Vv) Z (dPn (Vv) Z (dPn (Vv) Z ?_)))))))))))));refine dPn (Vv) Z (dPn (Vv) Z (dPn (Vv) Z (dPn (Vv) Z (dPn (Vv) Z (dPn (Vv) Z (dPn (Vv) Z (dPn (Vv) Z (dPx Z (dPx Z (dPx Z (dPx Z (dPx Z (dPx Z ?_)))))))))))));refine dPx Z (dPx Z (dPx Z (dPx Z (dPx Z (dPx Z (dPx Z (dPx Z (dPx Z (dPx Z (dPn (Vv) Z (dO (.p (eB false)) [14,48] Z (λ _ sl UT K hK=>al Z (qe Z Z Z (UT _ _ Z) (Vv) Z hK)) (d5 (nx 1 Z ?_)))))))))))));exact AH
def cZ (UX:ae)(k_1:Int)(at_2:Int):Option (Bool×ae) :=some (false,(ae.mk UX.fs UX.fat UX.N' (az.mk k_1 at_2 ([]:Bk))))
instance Br (UX:ae) (k_1:Int) (at_2:Int):∀ (r:Bool×ae),HO (cZ UX k_1 at_2=some r) Tryz.prog 96 [.ptr 1000000 0,.p (eI k_1),.p (eI at_2)] [(1000000,(ae.cs UX).map .p)] (.p (eB r.1)) ([(1000000,(ae.cs r.2).map .p)]):=by
 refine hO good [] [1000000] Tryz.func96 Z Z λ r h0 _ w0 F=>?_;unfold cZ at h0;exact nx 12 Z (mO Z (iB Z Z Z Z Z Z Z Z (ae.b_bad _) (ae.u_bad _) LX))
def ep (UX:ae):Option (Bool×ae) :=ck ((0:Int)<=UX.fat/\UX.fat<=(UX.fs.length:Int)/\(UX.fs.length:Int)<=(UX.fs.length:Int))<|(bo (sub UX.fs UX.fat (UX.fs.length:Int))).bind λ r2=>(if r2.1=65533 then if r2.2=1 then some true else if r2.1<32 then some true else some (decide (r2.1=127))else if r2.1<32 then some true else some (decide (r2.1=127))).bind λ t8=>if t8=true then some (false,UX)else ck (inR (UX.fat+r2.2))<|some (true,(ae.mk UX.fs (UX.fat+r2.2) UX.N' UX.AI))
instance xb:zM (ep) 123:=by
 refine λ UX=>hO good [] [1000000] Tryz.func123 Z Z λ r h0 _ w0 F=>?_;unfold ep at h0;refine nx 5 Z (cc' h0 λ X7 h0=>bd h0 λ r2 e3 h0=>mD [(0,.ptr 1000000 0)] Z ⟨Z,trivial⟩ Z (dR 3 Z (dq (.p (eS UX.fs)) [8] Z (λ _ e _ q=>al Z (bv Z Z Z Z Z (e _ _ Z) Z (ae.g_s _) q)) Z (dR 3 Z (dq (.p (eI UX.fat)) [12] Z (λ _ e _ q=>al Z (bv Z Z Z Z Z (e _ _ Z) Z (ae.g_at _) q)) Z (dq (.p (eS (sub UX.fs UX.fat (UX.fs.length:Int)))) [9,13] Z (λ _ e _ q=>al Z (gV (a:=UX.fs) (l:=UX.fat) (h:=(UX.fs.length:Int)) Z Z Z Z Z (e _ _ Z) tQ Z X7 q)) Z (dq (.tuple [.p (eK .i32 r2.1),.p (eI r2.2)]) [14] Z (λ _ e _ q=>al Z (bQ (eo (sub UX.fs UX.fat (UX.fs.length:Int)) _ e3) Z Z Z (aG (e _ _ Z) bp) ⟨sr,trivial⟩ HE.e Z q)) Z (dR 5 Z (dE Z (nx 3 Z (bd h0 λ o12 h1 h0=>kN o12 (λ ZW=>⟨[(0,.ptr 1000000 0),(4,.p (eI r2.2)),(31,.p (eB ZW))],[(1000000,(ae.cs UX).map .p)]⟩) ?_ ?_)))))))))))
 ·refine nx 1 Z (fB [31] h0 Z (λ c9 h0=>?_) λ c9 h0=>?_)
  ·exact S0
  exact nx 7 Z (mO Z (bv Z Z Z Z Z Z Z (ae.g_at _) (nx 1 Z (oA h0 Z Z λ Wb h0=>nx 2 Z (mO Z (iB Z Z Z Z Z Z Z Z (ae.b_at _) (ae.u_at _) LX))))))
 exact iw
def ba (Vi:ae->Int->Option (Bool×ae))(Sm:Int):Nat->ae->Option (ae⊕(Bool×ae))|0,_=>none|m+1,x33=>(bO x33).bind λ Vd=>if Vd.1=true then ck ((0:Int)<=Vd.2.fat/\Vd.2.fat<=(Vd.2.fs.length:Int)/\(Vd.2.fs.length:Int)<=(Vd.2.fs.length:Int))<|jn (ck ((0:Int)<=0/\0<((sub Vd.2.fs Vd.2.fat (Vd.2.fs.length:Int)).length:Int))<|if byt (sub Vd.2.fs Vd.2.fat (Vd.2.fs.length:Int)) 0=34 then ck (inR (Vd.2.fat+1))<|some (.inr (.inr (true,(ae.mk Vd.2.fs (Vd.2.fat+1) Vd.2.N' Vd.2.AI))))else(strings_HasPrefix (sub Vd.2.fs Vd.2.fat (Vd.2.fs.length:Int)) ([36,36,123]:Bk)).bind λ r41=>if r41=true then ck (inR (Vd.2.fat+3))<|some (.inl (ae.mk Vd.2.fs (Vd.2.fat+3) Vd.2.N' Vd.2.AI))else(strings_HasPrefix (sub Vd.2.fs Vd.2.fat (Vd.2.fs.length:Int)) ([36,123]:Bk)).bind λ Ws=>if Ws=true then(Vi Vd.2 Sm).bind λ WT=>if (!WT.1)=true then some (.inr (.inr (false,WT.2)))else some (.inl WT.2)else(ck ((0:Int)<=0/\0<((sub Vd.2.fs Vd.2.fat (Vd.2.fs.length:Int)).length:Int))<|if byt (sub Vd.2.fs Vd.2.fat (Vd.2.fs.length:Int)) 0=92 then ck (inR (Vd.2.fat+1))<|some (ae.mk Vd.2.fs (Vd.2.fat+1) Vd.2.N' Vd.2.AI)else some Vd.2).bind λ x54=>(bO x54).bind λ Xc=>if (!Xc.1)=true then some (.inl Xc.2)else(ep Xc.2).bind λ Wr=>if (!Wr.1)=true then(cZ Wr.2 2 Wr.2.fat).bind λ VN=>some (.inr (.inr (VN.1,VN.2)))else some (.inl Wr.2) : Option (ae⊕(ae⊕(Bool×ae)))) λ x63=>ba Vi Sm m x63 else some (.inl Vd.2)
def aY (n:Nat)(VB:ae->Int->Option (af×Bool×ae))(Sm:Int):Nat->Int->ae->Option (ae⊕(Bool×ae))|0,_,_=>none|m+1,open35,x36=>if 0<open35 then jn ((fK n x36).bind λ Wl=>(bO Wl).bind λ Wy=>if (!Wy.1)=true then(cZ Wy.2 40 Wy.2.N').bind λ Yc=>some (.inr (.inr (Yc.1,Yc.2)))else(dM n Wy.2).bind λ Ws=>if (!Ws.1)=true then(cZ Ws.2 2 Ws.2.fat).bind λ WT=>some (.inr (.inr (WT.1,WT.2)))else ck (inR (Sm+1))<|(VB Ws.2 (Sm+1)).bind λ VO=>if (!VO.2.1)=true then some (.inr (.inr (false,VO.2.2)))else((if VO.1.Ar=4 then some (decide (VO.1.C'=([123]:Bk)))else some false).bind λ t55=>if t55=true then ck (inR (open35+1))<|some (open35+1)else some open35).bind λ open58=>(if VO.1.Ar=4 then some (decide (VO.1.C'=([125]:Bk)))else some false).bind λ t60=>if t60=true then ck (inR (open58-1))<|some (.inl (open58-1,VO.2.2))else some (.inl (open58,VO.2.2)) : Option ((Int×ae)⊕(ae⊕(Bool×ae)))) λ Z7=>aY n VB Sm m Z7.1 Z7.2 else some (.inl x36)
mutual
def bz:Nat->ae->Int->Option (af×Bool×ae)|0,_,_=>none|n+1,UX,Sm=>ck ((0:Int)<=UX.fat/\UX.fat<(UX.fs.length:Int))<|ck ((0:Int)<=byt UX.fs UX.fat/\byt UX.fs UX.fat<256)<|jn (if ((lat kd (byt UX.fs UX.fat)).toNat:Int)=2 then(fV n UX 2 3).bind λ r4=>if 64<(r4.1.length:Int) then(cZ r4.2 7 UX.fat).bind λ r7=>some (.inr ((af.mk 1 r4.1 UX.fat),r7.1,r7.2))else some (.inl (1,r4.1,r4.2))else if ((lat kd (byt UX.fs UX.fat)).toNat:Int)=3 then(fV n UX 3 3).bind λ Vg=>some (.inl (2,Vg.1,Vg.2))else if ((lat kd (byt UX.fs UX.fat)).toNat:Int)=6 then ck (inR (UX.fat+1))<|some (.inl (5,([10]:Bk),(ae.mk UX.fs (UX.fat+1) UX.N' UX.AI)))else if ((lat kd (byt UX.fs UX.fat)).toNat:Int)=5 then((cT n) UX Sm).bind λ U2=>if (!U2.1)=true then some (.inr ((af.mk 3 ([]:Bk) UX.fat),false,U2.2))else ck (inR (UX.fat+1))<|ck (inR (U2.2.fat-1))<|ck ((0:Int)<=UX.fat+1/\UX.fat+1<=U2.2.fat-1/\U2.2.fat-1<=(U2.2.fs.length:Int))<|some (.inl (3,sub U2.2.fs (UX.fat+1) (U2.2.fat-1),U2.2))else ck ((0:Int)<=UX.fat/\UX.fat<=(UX.fs.length:Int)/\(UX.fs.length:Int)<=(UX.fs.length:Int))<|(ke n (sub UX.fs UX.fat (UX.fs.length:Int))).bind λ WK=>ck (inR (UX.fat+(WK.length:Int)))<|some (.inl (4,WK,(ae.mk UX.fs (UX.fat+(WK.length:Int)) UX.N' UX.AI))) : Option ((Int×Bk×ae)⊕(af×Bool×ae))) λ Z9=>some ((af.mk Z9.1 Z9.2.1 UX.fat),true,Z9.2.2)
def dV:Nat->ae->Int->Option (Bool×ae)|0,_,_=>none|n+1,UX,Sm=>ck (inR (UX.fat+1))<|jn (ba (aU n) Sm n (ae.mk UX.fs (UX.fat+1) UX.N' UX.AI)) λ x65=>(cZ x65 40 x65.N').bind λ WI=>some (WI.1,WI.2)
def cT:Nat->ae->Int->Option (Bool×ae)|0,_,_=>none|n+1,UX,Sm=>if UX.N'<0 then((dV n) (ae.mk UX.fs UX.fat UX.fat UX.AI) Sm).bind λ r1=>some (r1.1,ae.mk r1.2.fs r1.2.fat (-1) r1.2.AI)else (dV n) UX Sm
def aU:Nat->ae->Int->Option (Bool×ae)|0,_,_=>none|n+1,UX,Sm=>if 32<=Sm then(cZ UX 4 UX.fat).bind λ r2=>some (r2.1,r2.2)else ck (inR (UX.fat+2))<|jn (aY n (bz n) Sm n 1 (ae.mk UX.fs (UX.fat+2) UX.N' UX.AI)) λ x67=>some (true,x67)
end
theorem qg (n:Nat):(∀ (UX:ae) (Sm:Int) (r:af×Bool×ae),HO (bz n UX Sm=some r) Tryz.prog 67 [.ptr 1000000 0,.p (eI Sm)] [(1000000,(ae.cs UX).map .p)] (.tuple [.p (.agg (af.cs r.1)),.p (eB r.2.1)]) ([(1000000,(ae.cs r.2.2).map .p)]))/\(∀ (UX:ae) (Sm:Int) (r:Bool×ae),dV n UX Sm=some r->KZ Tryz.prog Tryz.f97 (Uf Tryz.f97.body) [(1,.p (eI Sm)),(2,.ptr 1000001 0)] [(1000000,(ae.cs UX).map .p),(1000001,[.ptr 1000000 0])] (λ x y=>x.sub (.p (eB r.1))/\leO y [(1000000,(ae.cs r.2).map .p),(1000001,[.ptr 1000000 0])]))/\GZ (cT n) 97/\GZ (aU n) 122:=by
 induction n with
 | zero=>exact ⟨Zr,(by intro UX Sm r h0; cases h0),Zr,Zr⟩
 | succ n ih=>
 obtain ⟨_,Vm,_,_⟩:=ih;refine ⟨?_,?_,?_,?_⟩
 ·refine λ UX Sm=>hO good [] [1000000] Tryz.func67 Z Z λ r h0 _ w0 F=>?_;rw [bz] at h0;refine nx 2 rfl (mO rfl (ny Z Z Z Z Z ?_));refine mG (oG (show nO _ _=_ from rm)) (nx 7 rfl ?_);refine mO rfl (bv Z Z Z Z Z Z Z (ae.g_at _) (nx 1 rfl (mO rfl (ny Z Z Z Z Z ?_))));refine mG (oG (show nO _ _=_ from rm)) (nx 4 rfl ?_);refine cc' h0 λ X7 h0=>cc' h0 λ WZ h0=>mD [(0,.ptr 1000000 0),(1,.p (eI Sm)),(4,.ptr 4 0),(6,.ptr 6 0)] rfl ⟨rfl,rfl,rfl,rfl,trivial⟩ rfl (dR 4 rfl (dq (.p (eS UX.fs)) [15] rfl (λ _ e _ q=>al rfl (bv Z Z Z Z Z (e _ _ rfl) rfl (ae.g_s _) q)) rfl (dR 3 rfl (dq (.p (eI UX.fat)) [19] rfl (λ _ e _ q=>al rfl (bv Z Z Z Z Z (e _ _ rfl) rfl (ae.g_at _) q)) rfl (dq (.p (eK .u8 (byt UX.fs UX.fat))) [16,20] rfl (λ _ e _ q=>al rfl (iA Z Z Z Z Z (e _ _ rfl) (e _ _ rfl) X7 q)) rfl (dR 2 rfl (dq (.ptr 1000000 (2+(byt UX.fs UX.fat).toNat*1)) [21,23] rfl (λ _ e _ q=>al rfl (io Z Z Z Z Z Z (e _ _ rfl) (e _ _ rfl) WZ q)) rfl (dq (.p (eK .u8 ((lat kd (byt UX.fs UX.fat)).toNat:Int))) [24] rfl (λ _ e _ q=>al rfl (bv Z Z Z Z Z (e _ _ rfl) rfl (ae.g_class _ WZ) q)) rfl (dE rfl (nx 1 rfl ?_))))))))));obtain ⟨WX,h1,Vp,hR0⟩:=bJ h0;refine kX (λ V8:Int×Bk×ae=>WX=.inl V8) (λ V8=>⟨[(4,.ptr 4 0),(6,.ptr 6 0)],[(4,kR),(6,[.p (eI V8.1),.p (eS V8.2.1),.p (eI UX.fat)]),(1000000,(ae.cs V8.2.2).map .p)]⟩) (λ V8 hv=>?_) ?_
  ·have h0:=Vp _ hv;exact S0
  refine nx 6 Z (fD [48,49] h1 Z (λ c3 h1=>?_) λ c3 h1=>?_)
  ·refine nx 4 Z (bd h1 λ r4 e5 h1=>mO Z (bq [1000000] [] 101000 101000 (HO.c e5) Z Z Z Z Z ⟨sr,sr,sr,trivial⟩ Z (aD Z (aF _) Z) ⟨⟨_,Z,bf _⟩,trivial⟩ Z Z Z Z Z Z Z Z HE.e Z (aD Z (aF _) Z) (nx 9 Z (oLs Z (nx 2 Z (fD [57] h1 Z (λ c6 h1=>?_) λ c6 h1=>?_))))))
   ·exact nx 2 Z (bd h1 λ r7 e8 h1=>mG (gE (t:=⟨[(0,.ptr 1000000 0),(4,.ptr 4 0),(6,.ptr 6 0)],[(4,kR),(6,[.p (eI 1),.p (eS r4.1),.p (eI UX.fat)]),(1000000,(ae.cs r4.2).map .p)]⟩) Z Z) (mSq ⟨2,[4,5],(by3 (.some (dk [] 102000 102000)) .none .none),(λ _=>[(0,.ptr 1000000 0),(4,.ptr 4 0),(6,.ptr 6 0)]),(by3 ([(4,kR),(6,[.p (eI 1),.p (eS r4.1),.p (eI UX.fat)]),(1000000,(ae.cs r4.2).map .p)]) ([(1000000,(ae.cs r7.2).map .p),(4,kR),(6,[.p (eI 1),.p (eS r4.1),.p (eI UX.fat)])]) ([(4,[.p (eI 1),.p (eS r4.1),.p (eI UX.fat)]),(1000000,(ae.cs r7.2).map .p),(4,kR),(6,[.p (eI 1),.p (eS r4.1),.p (eI UX.fat)])]))⟩ Z (dPc (.p (.agg [eI 1,eS r4.1,eI UX.fat])) Z (dPc (.ptr 1000000 0) Z (dPc (.ptr 6 2) Z (dPc (.p (eI UX.fat)) Z (dI (λ _=>.p (eB r7.1)) [59,61] Z (λ sl UT K hK=>al Z (bq [1000000] [] 102000 102000 (HO.c e8) Z Z Z (aG (UT _ _ Z) (aG Z (aG (UT _ _ Z) bp))) Z ⟨sr,sr,sr,trivial⟩ Z (aD Z (aF _) Z) ⟨⟨_,Z,bf _⟩,trivial⟩ Z Z Z Z Z Z Z Z HE.e Z (aD Z (aF _) Z) hK)) (dS Z (dPc (.p (eB r7.1)) Z (d5 (nx 2 Z (mQo (hR0 _ (oi h1).symm) (aQ _) Z Z Z (aD Z (aF _) Z) (fI ⟨sr,sr,trivial⟩) ⟨⟨_,Z,bf _⟩,trivial⟩))))))))))))
   exact wR
  refine nx 6 Z (fD [63,64] h1 Z (λ c9 h1=>?_) λ c9 h1=>?_)
  ·exact nx 3 Z (bd h1 λ Vg XI h1=>mO Z (bq [1000000] [] 103000 103000 (HO.c XI) Z Z Z Z Z ⟨sr,sr,sr,trivial⟩ Z (aD Z (aF _) Z) ⟨⟨_,Z,bf _⟩,trivial⟩ Z Z Z Z Z Z Z Z HE.e Z (aD Z (aF _) Z) (nx 5 Z n0)))
  refine nx 6 Z (fD [69,70] h1 Z (λ c12 h1=>?_) λ c12 h1=>?_)
  ·exact iw
  refine nx 6 Z (fD [80,81] h1 Z (λ Yb h1=>?_) λ Yb h1=>?_)
  ·refine nx 11 Z (bd h1 λ U2 Zx h1=>mO Z (bq [1000000] [] 104000 104000 (HO.c Zx) Z Z Z Z Z ⟨sr,sr,trivial⟩ Z (aD Z (aF _) Z) ⟨⟨_,Z,bf _⟩,trivial⟩ Z Z Z Z Z Z Z Z HE.e Z (aD Z (aF _) Z) (nx 2 Z (mG (gE (t:=⟨[(0,.ptr 1000000 0),(4,.ptr 4 0),(6,.ptr 6 0),(86,.p (eB (!U2.1)))],[(4,kR),(6,[.p (eI 3),.p (eS ([]:Bk)),.p (eI UX.fat)]),(1000000,(ae.cs U2.2).map .p)]⟩) Z Z) (fB [86] h1 Z (λ Vv h1=>?_) λ Vv h1=>?_)))))
   ·exact iw
   refine nx 2 Z (cc' h1 λ WG h1=>cc' h1 λ Wv h1=>cc' h1 λ WY h1=>mG (gE (t:=⟨[(0,.ptr 1000000 0),(4,.ptr 4 0),(6,.ptr 6 0)],[(4,kR),(6,[.p (eI 3),.p (eS ([]:Bk)),.p (eI UX.fat)]),(1000000,(ae.cs U2.2).map .p)]⟩) Z Z) (mSq ⟨1,[14],(λ _=>.none),(λ _=>[(0,.ptr 1000000 0),(4,.ptr 4 0),(6,.ptr 6 0)]),(ob2 ([(4,kR),(6,[.p (eI 3),.p (eS ([]:Bk)),.p (eI UX.fat)]),(1000000,(ae.cs U2.2).map .p)]) (6,[.p (eI 3),.p (eS (sub U2.2.fs (UX.fat+1) (U2.2.fat-1))),.p (eI UX.fat)]))⟩ Z (dPc (.ptr 1000000 0) Z (dPc (.ptr 1000000 0) Z (dPc (.ptr 1000000 0) Z (dPc (.p (eS U2.2.fs)) Z (dPc (.ptr 6 2) Z (dPc (.p (eI UX.fat)) Z (dO (.p (eI (UX.fat+1))) [93] Z (λ _ sl UT K hK=>al Z (gJ Z Z Z (UT _ _ Z) Z Z WG hK)) (dPc (.ptr 1000000 0) Z (dPc (.ptr 1000000 0) Z (dPc (.ptr 1000000 1) Z ?_))))))))))));exact dPc (.p (eI U2.2.fat)) Z (dO (.p (eI (U2.2.fat-1))) [98] Z (λ _ sl UT K hK=>al Z (gJ Z Z Z (UT _ _ Z) Z Z Wv hK)) (dO (.p (eS (sub U2.2.fs (UX.fat+1) (U2.2.fat-1)))) [91,94,99] Z (λ _ sl UT K hK=>al Z (gV (a:=U2.2.fs) (l:=UX.fat+1) (h:=U2.2.fat-1) Z Z Z Z Z (UT _ _ Z) xk yz WY hK)) (dPc (.ptr 6 1) Z (dS Z (d5 (nx 1 Z n0))))))
  refine nx 2 Z (cc' h1 λ WF h1=>bd h1 λ WK e23 h1=>mG (gE (t:=⟨[(0,.ptr 1000000 0),(4,.ptr 4 0),(6,.ptr 6 0)],[(4,kR),(6,[.p (eI 0),.p (eS ([]:Bk)),.p (eI UX.fat)]),(1000000,(ae.cs UX).map .p)]⟩) Z Z) (mSq ⟨2,[11,13],(λ _=>.none),(λ _=>[(0,.ptr 1000000 0),(4,.ptr 4 0),(6,.ptr 6 0)]),(ob3 ([(4,kR),(6,[.p (eI 0),.p (eS ([]:Bk)),.p (eI UX.fat)]),(1000000,(ae.cs UX).map .p)]) (6,[.p (eI 4),.p (eS ([]:Bk)),.p (eI UX.fat)]) (6,[.p (eI 4),.p (eS WK),.p (eI UX.fat)]))⟩ Z (dPc (.ptr 1000000 0) Z (dPc (.ptr 1000000 0) Z (dPc (.ptr 1000000 0) Z (dPc (.p (eS UX.fs)) Z (dPc (.ptr 1000000 0) Z (dPc (.ptr 1000000 0) Z (dPc (.ptr 1000000 1) Z (dPc (.p (eI UX.fat)) Z (dO (.p (eS (sub UX.fs UX.fat (UX.fs.length:Int)))) [29,33] Z (λ _ sl UT K hK=>al Z (gV (a:=UX.fs) (l:=UX.fat) (h:=(UX.fs.length:Int)) Z Z Z Z Z (UT _ _ Z) xk Z WF hK)) (dO (.p (eS WK)) [34] Z (λ _ sl UT K hK=>al Z (bQ (HP.c e23) Z Z Z (aG (UT _ _ Z) bp) ⟨sr,trivial⟩ HE.e Z hK)) ?_))))))))))));refine dPc (.ptr 6 0) Z (kG [(36,_)] Z ⟨.inr ⟨10,_,Z,Z,Z⟩,trivial⟩ Z (λ sl UT K hK=>al Z (qw Z Z Z (UT _ _ Z) Z Z Z Z (Nat.le_of_ble_eq_true Z) hK)) (dPc (.ptr 6 1) Z (dS Z (d5 (nx 1 Z (cc' h1 λ Xu h1=>mG (gE (t:=⟨[(0,.ptr 1000000 0),(4,.ptr 4 0),(6,.ptr 6 0)],[(4,kR),(6,[.p (eI 4),.p (eS WK),.p (eI UX.fat)]),(1000000,(ae.cs UX).map .p)]⟩) Z Z) (mSq ⟨1,[10],(λ _=>.none),(λ _=>[(0,.ptr 1000000 0),(4,.ptr 4 0),(6,.ptr 6 0)]),(ob2 ([(4,kR),(6,[.p (eI 4),.p (eS WK),.p (eI UX.fat)]),(1000000,(ae.cs UX).map .p)]) (1000000,(ae.cs (ae.mk UX.fs (UX.fat+(WK.length:Int)) UX.N' UX.AI)).map .p))⟩ Z (dPc (.ptr 1000000 0) Z (dPc (.ptr 1000000 0) Z (dPc (.ptr 1000000 1) Z (dPc (.p (eI UX.fat)) Z (dPc (.ptr 6 1) Z (dPc (.p (eS WK)) Z ?_)))))))))))));refine dO (.p (eI (WK.length:Int))) [43] Z (λ _ sl UT K hK=>al Z (uN Z Z Z Z Z (UT _ _ Z) hK)) (dO (.p (eI (UX.fat+(WK.length:Int)))) [41,44] Z (λ _ sl UT K hK=>al Z (gJ Z Z Z (UT _ _ Z) (UT _ _ Z) Z Xu hK)) (dPc (.ptr 1000000 0) Z (dPc (.ptr 1000000 1) Z (kG [(45,_),(47,_)] Z ⟨.inr ⟨7,_,Z,Z,Z⟩,.inr ⟨9,_,Z,Z,Z⟩,trivial⟩ Z (λ sl UT K hK=>al Z (iB Z Z Z (UT _ _ Z) (UT _ _ Z) Z Z Z (ae.b_at _) (ae.u_at _) hK)) (d5 ?_)))));exact iw
 ·skip
  intro UX Sm r h0;rw [dV] at h0;refine La good (t:=4) [1000000,1000001] Z Z λ w0 F=>mPo (λ v:Bool×ae=>.p (eB v.1)) (λ v=>[(1000000,(ae.cs v.2).map .p),(1000001,[.ptr 1000000 0])]) (nx 5 rfl (mO rfl (bv Z Z Z Z Z Z Z (ae.g_at _) (oA h0 Z Z λ X7 h0=>nx 2 rfl (mO rfl (iB Z Z Z Z Z Z Z Z (ae.b_at _) (ae.u_at _) (nx 3 rfl ?_)))))));obtain ⟨o71,h1,Vp,hR0⟩:=bJ h0;refine kEx 0 (λ XK:ae=>o71=.inl XK) (λ XK=>⟨[(2,.ptr 1000001 0)],[(1000000,(ae.cs XK).map .p),(1000001,[.ptr 1000000 0])]⟩) (λ XK hv=>?_) ?_
  ·have h0:=Vp _ hv;exact nx 2 Z (bd h0 λ WI e67 h0=>mG (gE (t:=⟨[(2,.ptr 1000001 0)],[(1000000,(ae.cs XK).map .p),(1000001,[.ptr 1000000 0])]⟩) Z Z) (mSq ⟨1,[5],(by2 (.some (dk [] 111000 111000)) .none),(λ _=>[(2,.ptr 1000001 0)]),(by2 ([(1000000,(ae.cs XK).map .p),(1000001,[.ptr 1000000 0])]) ([(1000000,(ae.cs WI.2).map .p),(1000001,[.ptr 1000000 0])]))⟩ Z (dPc (.ptr 1000000 0) Z (dPc (.ptr 1000000 0) Z (dPc (.ptr 1000000 0) Z (dPc (.ptr 1000000 258) Z (dPc (.p (eI XK.N')) Z (dI (λ _=>.p (eB WI.1)) [87,91] Z (λ sl UT K hK=>al Z (bq [1000000] [] 111000 111000 (HO.c e67) Z Z Z (aG (UT _ _ Z) (aG Z (aG (UT _ _ Z) bp))) Z ⟨sr,sr,sr,trivial⟩ Z (aD Z (aF _) Z) ⟨⟨_,Z,bf _⟩,trivial⟩ Z Z Z Z Z Z Z Z HE.e Z (aD Z (aF _) Z) hK)) (dPc (.p (eB WI.1)) Z (d5 (nx 2 Z (mQo (oi h0) (aQ _) Z Z Z (aD Z (aF _) (aD Z Z Z)) (sr) ⟨⟨_,Z,bf _⟩,⟨_,Z,⟨sr,trivial⟩⟩,trivial⟩))))))))))))
  refine lG (λ (Xw:ae)=>⟨[(1,.p (eI Sm)),(2,.ptr 1000001 0)],[(1000000,(ae.cs Xw).map .p),(1000001,[.ptr 1000000 0])]⟩) (λ m (Xw:ae)=>ba (aU n) Sm m Xw) Y (ae.mk UX.fs (UX.fat+1) UX.N' UX.AI) h1 (gE rfl rfl) ?_;rintro m x33 h1;replace h1:ba (aU n) Sm (m+1) x33=some o71:=h1;rw [ba] at h1;refine nx 4 rfl (bd h1 λ Vd e35 h1=>mO rfl (bq [1000000] [] 106000 106000 (HO.c e35) rfl rfl rfl rfl rfl ⟨sr,trivial⟩ rfl (aD rfl (aF _) rfl) ⟨⟨_,rfl,bf _⟩,trivial⟩ rfl rfl rfl rfl rfl rfl rfl rfl HE.e rfl (aD rfl (aF _) rfl) (nx 1 rfl (fB [27] h1 rfl (λ YV h1=>?_) λ YV h1=>?_))))
  ·refine nx 4 rfl (cc' h1 λ XF h1=>mD [(1,.p (eI Sm)),(2,.ptr 1000001 0)] rfl ⟨rfl,rfl,trivial⟩ rfl (dR 3 rfl (dq (.p (eS Vd.2.fs)) [30] rfl (λ _ e _ q=>al rfl (bv Z Z Z Z Z (e _ _ rfl) rfl (ae.g_s _) q)) rfl (dR 3 rfl (dq (.p (eI Vd.2.fat)) [34] rfl (λ _ e _ q=>al rfl (bv Z Z Z Z Z (e _ _ rfl) rfl (ae.g_at _) q)) rfl (dq (.p (eS (sub Vd.2.fs Vd.2.fat (Vd.2.fs.length:Int)))) [31,35] rfl (λ _ e _ q=>al rfl (gV (a:=Vd.2.fs) (l:=Vd.2.fat) (h:=(Vd.2.fs.length:Int)) Z Z Z Z Z (e _ _ rfl) tQ rfl XF q)) rfl (dR 1 rfl (dE rfl (nx 1 rfl ?_)))))))));obtain ⟨o74,h2,hL1,hR1⟩:=bJ h1;refine kX (λ v75:ae=>o74=.inl v75) (λ v75=>⟨[(1,.p (eI Sm)),(2,.ptr 1000001 0)],[(1000000,(ae.cs v75).map .p),(1000001,[.ptr 1000000 0])]⟩) (λ v75 hv=>?_) ?_
   ·have h1:=hL1 _ hv;exact iw
   refine nx 4 Z (oI h2 Z λ abG h2=>nx 3 Z (fD [59,62] h2 Z (λ YU h2=>?_) λ YU h2=>?_))
   ·exact nx 6 Z (mO Z (bv Z Z Z Z Z Z Z (ae.g_at _) (oA h2 Z Z λ XE h2=>nx 2 Z (mO Z (iB Z Z Z Z Z Z Z Z (ae.b_at _) (ae.u_at _) (nx 6 Z EP))))))
   refine nx 4 Z (bd h2 λ r41 e42 h2=>oK (dJ (sub Vd.2.fs Vd.2.fat (Vd.2.fs.length:Int)) ([36,36,123]:Bk) _ e42) Z ⟨sr,sr,trivial⟩ HE.e Z (nx 2 Z (fB [70,72] h2 Z (λ c43 h2=>?_) λ c43 h2=>?_)))
   ·exact nx 5 Z (mO Z (bv Z Z Z Z Z Z Z (ae.g_at _) (oA h2 Z Z λ hk44 h2=>nx 2 Z EO)))
   refine nx 4 Z (bd h2 λ Ws Zw h2=>oK (dJ (sub Vd.2.fs Vd.2.fat (Vd.2.fs.length:Int)) ([36,123]:Bk) _ Zw) Z ⟨sr,sr,trivial⟩ HE.e Z (nx 2 Z (fB [80,82] h2 Z (λ Zy h2=>?_) λ Zy h2=>?_)))
   ·refine nx 5 Z (bd h2 λ WT e49 h2=>mO Z (bq [1000000] [] 107000 107000 (HO.c e49) Z Z Z Z Z ⟨sr,sr,trivial⟩ Z (aD Z (aF _) Z) ⟨⟨_,Z,bf _⟩,trivial⟩ Z Z Z Z Z Z Z Z HE.e Z (aD Z (aF _) Z) (nx 2 Z (fB [86] h2 Z (λ Yn h2=>?_) λ Yn h2=>?_))))
    ·exact nx 5 Z (mG (gE (t:=⟨[(4,.p (eB false))],[(1000000,(ae.cs WT.2).map .p),(1000001,[.ptr 1000000 0])]⟩) Z Z) (nx 1 Z EP))
    exact xS
   refine nx 2 Z (bd h2 λ Y5 h3 h2=>kN Y5 (λ XS=>⟨[(1,.p (eI Sm)),(2,.ptr 1000001 0)],[(1000000,(ae.cs XS).map .p),(1000001,[.ptr 1000000 0])]⟩) ?_ ?_)
   ·refine nx 5 Z (bd h2 λ Xc e56 h2=>mO Z (bq [1000000] [] 108000 108000 (HO.c e56) Z Z Z Z Z ⟨sr,trivial⟩ Z (aD Z (aF _) Z) ⟨⟨_,Z,bf _⟩,trivial⟩ Z Z Z Z Z Z Z Z HE.e Z (aD Z (aF _) Z) (nx 2 Z (fB [49] h2 Z (λ c57 h2=>?_) λ c57 h2=>?_))))
    ·exact xS
    refine nx 5 Z (bd h2 λ Wr e59 h2=>mO Z (bq [1000000] [] 109000 109000 (HO.c e59) Z Z Z Z Z ⟨sr,trivial⟩ Z (aD Z (aF _) Z) ⟨⟨_,Z,bf _⟩,trivial⟩ Z Z Z Z Z Z Z Z HE.e Z (aD Z (aF _) Z) (nx 2 Z (fB [52] h2 Z (λ c60 h2=>?_) λ c60 h2=>?_))))
    ·exact nx 2 Z (bd h2 λ VN e62 h2=>mG (gE (t:=⟨[(2,.ptr 1000001 0)],[(1000000,(ae.cs Wr.2).map .p),(1000001,[.ptr 1000000 0])]⟩) Z Z) (mSq ⟨1,[5],(by2 (.some (dk [] 110000 110000)) .none),(λ _=>[(2,.ptr 1000001 0)]),(by2 ([(1000000,(ae.cs Wr.2).map .p),(1000001,[.ptr 1000000 0])]) ([(1000000,(ae.cs VN.2).map .p),(1000001,[.ptr 1000000 0])]))⟩ Z (dPc (.ptr 1000000 0) Z (dPc (.ptr 1000000 0) Z (dPc (.ptr 1000000 0) Z (dPc (.ptr 1000000 1) Z (dPc (.p (eI Wr.2.fat)) Z (dI (λ _=>.p (eB VN.1)) [53,57] Z (λ sl UT K hK=>al Z (bq [1000000] [] 110000 110000 (HO.c e62) Z Z Z (aG (UT _ _ Z) (aG Z (aG (UT _ _ Z) bp))) Z ⟨sr,sr,sr,trivial⟩ Z (aD Z (aF _) Z) ⟨⟨_,Z,bf _⟩,trivial⟩ Z Z Z Z Z Z Z Z HE.e Z (aD Z (aF _) Z) hK)) (dPc (.p (eB VN.1)) Z (d5 (nx 2 Z EP)))))))))))
    exact xS
   refine nx 3 Z (oI h3 Z λ YN h3=>nx 2 Z (fD [39] h3 Z (λ c52 h3=>?_) λ c52 h3=>?_))
   ·exact nx 5 Z (mO Z (bv Z Z Z Z Z Z Z (ae.g_at _) (oA h3 Z Z λ aas h3=>nx 2 Z (mO Z (iB Z Z Z Z Z Z Z Z (ae.b_at _) (ae.u_at _) TZ)))))
   exact ry
  exact iw
 ·refine λ UX Sm r=>⟨λ h0=>?_⟩
  rw [cT] at h0;refine OW good (k:=121) (j:=2) (q:=18) (b:=decide (UX.N'<0)) (s0:=⟨[(1,.p (eI Sm)),(2,.ptr 2 0)],[(2,[.ptr 1000000 0]),(1000000,(ae.cs UX).map .p)]⟩) (s1:=⟨[(1,.p (eI Sm)),(2,.ptr 2 0),(10,.p (eB (decide (UX.N'<0))))],[(2,[.ptr 1000000 0]),(1000000,(ae.cs UX).map .p)]⟩) (s2:=⟨[(1,.p (eI Sm)),(2,.ptr 2 0)],[(2,[.ptr 1000000 0]),(1000000,(ae.cs (ae.mk UX.fs UX.fat UX.fat UX.AI)).map .p)]⟩) [1000000] Tryz.func97 Z Z Z (λ w0 F=>mR ?_) (λ w0 F=>mR ?_) rfl (λ hb=>?_) (λ hb=>?_);refine nx 1 rfl (mO rfl (EG Z Z Z Z Z ?_));refine mG (oG (show nO _ _=_ from rm)) (nx 3 rfl ?_);exact mE (gE Z Z);exact nx 4 rfl (mO rfl (bv Z Z Z Z Z Z Z (ae.g_outer _) (nx 3 rfl (mE (gE Z Z)))));rw [if_neg (of_decide_eq_false hb)] at h0;exact ⟨⟨[(1,.p (eI Sm)),(2,.ptr 2 0),(10,.p (eB (decide (UX.N'<0))))],[(1000000,(ae.cs r.2).map .p),(2,[.ptr 1000000 0])]⟩,_,_,rfl,(aD rfl (aF _) rfl),⟨⟨_,rfl,bf _⟩,trivial⟩,λ w0 F g a a2 w hs ht=>Jy (C:=⟨Tryz.prog,tt,good,_,rfl,w0,F⟩) (sl:=[(1,.p (eI Sm)),(2,.ptr 2 0),(10,.p (eB (decide (UX.N'<0))))]) (ob:=[(2,[.ptr 1000000 0]),(1000000,(ae.cs UX).map .p)]) [1000000,2] [] 100000 100000 [1,2] rfl (Vm UX Sm _ h0) Z Z Z (aD rfl (aF _) rfl) ⟨⟨_,rfl,bf _⟩,⟨_,rfl,⟨sr,trivial⟩⟩,trivial⟩ Z Z Z Z Z Z Z Z Z (aD rfl (aF _) rfl) hs ht⟩;rw [if_pos (of_decide_eq_true hb)] at h0;refine bd h0 λ r1 e1 h0=>?_
  cases h0
  refine ⟨λ w0 F=>mR ?_,⟨Z,Z,Z,Z,Z,Z,Z,Z⟩,HE.e,⟨[(18,.func (.func 121) [.ptr 2 0]),(1,.p (eI Sm)),(2,.ptr 2 0)],[(1000000,(ae.cs r1.2).map .p),(2,[.ptr 1000000 0])]⟩,⟨[(18,.func (.func 121) [.ptr 2 0]),(1,.p (eI Sm)),(2,.ptr 2 0)],[(2,[.ptr 1000000 0]),(1000000,(ae.cs (ae.mk r1.2.fs r1.2.fat (-1) r1.2.AI)).map .p)]⟩,_,_,.ptr 2 0,Z,Z,(aD Z (aF _) Z),⟨⟨_,Z,bf _⟩,trivial⟩,λ w0 F g a a2 w hs ht=>?_,λ w0 F g a w u hs=>?_⟩
  ·exact mG (gE (t:=⟨[(1,.p (eI Sm)),(2,.ptr 2 0)],[(2,[.ptr 1000000 0]),(1000000,(ae.cs UX).map .p)]⟩) Z Z) (mSq ⟨1,[7],(λ _=>.none),(λ _=>[(1,.p (eI Sm)),(2,.ptr 2 0)]),(ob2 ([(2,[.ptr 1000000 0]),(1000000,(ae.cs UX).map .p)]) (1000000,(ae.cs (ae.mk UX.fs UX.fat UX.fat UX.AI)).map .p))⟩ Z (dPc (.ptr 1000000 0) Z (dPc (.ptr 1000000 0) Z (dPc (.ptr 1000000 0) Z (dPc (.ptr 1000000 1) Z (dPc (.p (eI UX.fat)) Z (dPc (.ptr 1000000 0) Z (dPc (.ptr 1000000 258) Z (kG [(15,_),(17,_)] Z ⟨.inr ⟨4,_,Z,Z,Z⟩,.inr ⟨6,_,Z,Z,Z⟩,trivial⟩ Z (λ sl UT K hK=>al Z (iB Z Z Z (UT _ _ Z) (UT _ _ Z) Z Z Z (ae.b_outer _) (ae.u_outer _) hK)) (d5 (nx 2 Z (mE (gE Z Z)))))))))))))
  ·exact Jy (C:=⟨Tryz.prog,tt,good,_,Z,w0,F⟩) (sl:=[(18,.func (.func 121) [.ptr 2 0]),(1,.p (eI Sm)),(2,.ptr 2 0)]) (ob:=[(2,[.ptr 1000000 0]),(1000000,(ae.cs (ae.mk UX.fs UX.fat UX.fat UX.AI)).map .p)]) [1000000,2] [] 100000 100000 [1,2] Z (Vm (ae.mk UX.fs UX.fat UX.fat UX.AI) Sm _ e1) Z Z Z (aD Z (aF _) Z) ⟨⟨_,Z,bf _⟩,⟨_,Z,⟨sr,trivial⟩⟩,trivial⟩ Z Z Z Z Z Z Z Z Z (aD Z (aF _) Z) hs ht
  exact TP (C:=⟨Tryz.prog,tt,good,_,Z,w0,F⟩) (sl:=[(18,.func (.func 121) [.ptr 2 0]),(1,.p (eI Sm)),(2,.ptr 2 0)]) (ob:=[(1000000,(ae.cs r1.2).map .p),(2,[.ptr 1000000 0])]) [2,1000000] [] 100000 100000 2 (pG r1.2) Z Z Z (aD Z Z (aD Z (aF _) Z)) ⟨⟨_,Z,⟨sr,trivial⟩⟩,⟨_,Z,bf _⟩,trivial⟩ Z Z Z Z Z Z Z Z Z (aD Z Z (aD Z (aF _) Z)) hs
 ·refine λ UX Sm=>hO good [] [1000000] Tryz.func122 Z Z λ r h0 _ w0 F=>?_;rw [aU] at h0;refine nx 10 Z (fD [9] h0 Z (λ c1 h0=>?_) λ c1 h0=>?_)
  ·exact nx 7 Z (mO Z (bv Z Z Z Z Z Z Z (ae.g_at _) (bd h0 λ r2 e3 h0=>mO Z (bq [1000000] [] 101000 101000 (HO.c e3) Z Z Z Z Z ⟨sr,sr,sr,trivial⟩ Z (aD Z (aF _) Z) ⟨⟨_,Z,bf _⟩,trivial⟩ Z Z Z Z Z Z Z Z HE.e Z (aD Z (aF _) Z) (nx 3 Z Kb)))))
  refine nx 7 rfl (mO rfl (bv Z Z Z Z Z Z Z (ae.g_at _) (oA h0 Z Z λ XP h0=>nx 2 rfl (mO rfl (iB Z Z Z Z Z Z Z Z (ae.b_at _) (ae.u_at _) (nx 7 rfl ?_))))));obtain ⟨ZK,h1,Vp,hR0⟩:=bJ h0;refine kEx 0 (λ XB:ae=>ZK=.inl XB) (λ XB=>⟨[],[(1000000,(ae.cs XB).map .p)]⟩) (λ XB hv=>?_) ?_
  ·have h0:=Vp _ hv;exact S0
  refine lG (λ (XC:Int×ae)=>⟨[(0,.ptr 1000000 0),(1,.p (eI Sm)),(5,.p (eI XC.1))],[(1000000,(ae.cs XC.2).map .p)]⟩) (λ m (XC:Int×ae)=>aY n (bz n) Sm m XC.1 XC.2) Y (1,(ae.mk UX.fs (UX.fat+2) UX.N' UX.AI)) h1 (gE rfl rfl) ?_;rintro m ⟨open35,x36⟩ h1;replace h1:aY n (bz n) Sm (m+1) open35 x36=some ZK:=h1;rw [aY] at h1;refine nx 6 rfl (fD [24] h1 rfl (λ c37 h1=>?_) λ c37 h1=>?_)
  ·refine nx 2 rfl ?_;obtain ⟨Y5,h2,hL1,hR1⟩:=bJ h1;refine kX (λ XS:Int×ae=>Y5=.inl XS) (λ XS=>⟨[(0,.ptr 1000000 0),(1,.p (eI Sm)),(5,.p (eI XS.1))],[(1000000,(ae.cs XS.2).map .p)]⟩) (λ XS hv=>?_) ?_
   ·have h1:=hL1 _ hv;exact iw
   refine nx 4 Z (bd h2 λ Wl e39 h2=>mO Z (bq [1000000] [] 108000 108000 (HO.c e39) Z Z Z Z Z ⟨sr,trivial⟩ Z (aD Z (aF _) Z) ⟨⟨_,Z,bf _⟩,trivial⟩ Z Z Z Z Z Z Z Z HE.e Z (aD Z (aF _) Z) (nx 5 Z (bd h2 λ Wy e41 h2=>mO Z (bq [1000000] [] 109000 109000 (HO.c e41) Z Z Z Z Z ⟨sr,trivial⟩ Z (aD Z (aF _) Z) ⟨⟨_,Z,bf _⟩,trivial⟩ Z Z Z Z Z Z Z Z HE.e Z (aD Z (aF _) Z) (nx 2 Z (fB [29] h2 Z (λ c42 h2=>?_) λ c42 h2=>?_)))))))
   ·exact nx 7 Z (mO Z (bv Z Z Z Z Z Z Z (ae.g_outer _) (bd h2 λ Yc e44 h2=>mO Z (bq [1000000] [] 110000 110000 (HO.c e44) Z Z Z Z Z ⟨sr,sr,sr,trivial⟩ Z (aD Z (aF _) Z) ⟨⟨_,Z,bf _⟩,trivial⟩ Z Z Z Z Z Z Z Z HE.e Z (aD Z (aF _) Z) KM))))
   refine nx 6 Z (bd h2 λ Ws Zw h2=>mO Z (bq [1000000] [] 111000 111000 (HO.c Zw) Z Z Z Z Z ⟨sr,trivial⟩ Z (aD Z (aF _) Z) ⟨⟨_,Z,bf _⟩,trivial⟩ Z Z Z Z Z Z Z Z HE.e Z (aD Z (aF _) Z) (nx 2 Z (fB [38] h2 Z (λ Zy h2=>?_) λ Zy h2=>?_))))
   ·exact nx 7 Z (mO Z (bv Z Z Z Z Z Z Z (ae.g_at _) (bd h2 λ WT e49 h2=>mO Z (bq [1000000] [] 112000 112000 (HO.c e49) Z Z Z Z Z ⟨sr,sr,sr,trivial⟩ Z (aD Z (aF _) Z) ⟨⟨_,Z,bf _⟩,trivial⟩ Z Z Z Z Z Z Z Z HE.e Z (aD Z (aF _) Z) KM))))
   refine nx 6 Z (oA h2 Z Z λ Zq h2=>bd h2 λ VO e52 h2=>mO Z (bq [1000000] [] 113000 113000 (HO.c e52) Z Z Z Z Z ⟨sr,sr,trivial⟩ Z (aD Z (aF _) Z) ⟨⟨_,Z,bf _⟩,trivial⟩ Z Z Z Z Z Z Z Z HE.e Z (aD Z (aF _) Z) (nx 3 Z (mO Z (ny Z Z Z Z Z ?_)))));refine mG (oG (show nO _ _=_ from rm)) (nx 9 Z ?_);refine fB [53] h2 Z (λ c53 h2=>?_) λ c53 h2=>?_
   ·exact nx 6 Z Nn
   refine nx 3 Z (bd h2 λ o78 h3 h2=>kN o78 (λ Zb=>⟨[(0,.ptr 1000000 0),(1,.p (eI Sm)),(5,.p (eI Zb)),(6,.ptr 6 0)],[(6,(af.cs VO.1).map .p),(1000000,(ae.cs VO.2.2).map .p)]⟩) ?_ ?_)
   ·refine nx 2 Z (bd h2 λ o80 h3 h2=>kN o80 (λ v81=>⟨[(0,.ptr 1000000 0),(1,.p (eI Sm)),(5,.p (eI o78)),(71,.p (eB v81))],[(1000000,(ae.cs VO.2.2).map .p)]⟩) ?_ ?_)
    ·refine nx 1 Z (fB [71] h2 Z (λ c61 h2=>?_) λ c61 h2=>?_)
     ·exact nx 3 Z (oA h2 Z Z λ YK h2=>nx 2 Z zS)
     exact xS
    refine nx 5 Z (fD [66,67] h3 Z (λ c59 h3=>?_) λ c59 h3=>?_)
    ·exact nx 2 Z (oS Z Z (nx 2 Z pY))
    exact tu
   refine nx 1 Z (bd h3 λ o82 h4 h3=>kN o82 (λ v83=>⟨[(0,.ptr 1000000 0),(1,.p (eI Sm)),(5,.p (eI open35)),(6,.ptr 6 0),(61,.p (eB v83))],[(6,(af.cs VO.1).map .p),(1000000,(ae.cs VO.2.2).map .p)]⟩) ?_ ?_)
   ·refine nx 1 Z (fB [61] h3 Z (λ c56 h3=>?_) λ c56 h3=>?_)
    ·exact nx 3 Z (oA h3 Z Z λ X3 h3=>nx 2 Z pY)
    exact ry
   refine nx 5 Z (fD [56,57] h4 Z (λ c54 h4=>?_) λ c54 h4=>?_)
   ·exact nx 2 Z (oS Z Z (nx 2 Z Ej))
   exact nx 5 Z Ej
  exact iw
instance zV (n:Nat):∀ (UX:ae) (Sm:Int) (r:af×Bool×ae),HO (bz n UX Sm=some r) Tryz.prog 67 [.ptr 1000000 0,.p (eI Sm)] [(1000000,(ae.cs UX).map .p)] (.tuple [.p (.agg (af.cs r.1)),.p (eB r.2.1)]) ([(1000000,(ae.cs r.2.2).map .p)]):=(qg n).1
def gO (n:Nat):Nat->(List af)->ae->Option (Unit⊕((List af)×az))|0,_,_=>none|m+1,V7,x26=>(fK n x26).bind λ Y1=>((bO Y1).bind λ XM=>if XM.1=true then(dM n XM.2).bind λ WU=>some (!WU.1,WU.2)else some (false,XM.2)).bind λ q49=>if q49.1=true then some (.inr ([],(az.mk 2 q49.2.fat ([]:Bk))))else if (V7.length:Int)=16384 then some (.inr ([],(az.mk 14 q49.2.fat ([]:Bk))))else(bO q49.2).bind λ Wl=>if (!Wl.1)=true then ck ((V7.length+([(af.mk 6 ([]:Bk) Wl.2.fat)]).length)*32<=140737488355328)<|some (.inr (V7++([(af.mk 6 ([]:Bk) Wl.2.fat)]),(az.mk 0 0 ([]:Bk))))else(bz n Wl.2 0).bind λ V2=>if (!V2.2.1)=true then some (.inr ([],V2.2.2.AI))else ck ((V7.length+[V2.1].length)*32<=140737488355328)<|gO n m (V7++[V2.1]) V2.2.2
def mU (n:Nat)(O':Bk):Option ((List af)×az) :=if 65536<(O'.length:Int) then some ([],(az.mk 3 0 ([]:Bk)))else(iQ O').bind λ r2=>jn (gO n n [] r2) λ q48=>none
instance OL (n:Nat) (O':Bk):∀ (r:(List af)×az),HP (mU n O'=some r) Tryz.prog 34 [eS O'] (.tuple [.p (eL aE r.1),.p (.agg (az.cs r.2))]):=by
 refine hP good Tryz.func34 Z Z λ r h0 _ w0=>?_;unfold mU at h0;refine nx 9 Z (oLs Z (nx 2 Z (fD [10] h0 Z (λ c1 h0=>?_) λ c1 h0=>?_)))
 ·exact S0
 refine nx 5 rfl (bd h0 λ r2 e3 h0=>mO rfl (bq [] [] 101000 101001 (od O' _ e3) Z Z Z Z Z ⟨sr,trivial⟩ Z Z trivial Z Z Z Z Z Z Z Z HE.e rfl (aD rfl (aF _) rfl) (nx 7 rfl ?_)));obtain ⟨o50,h1,Vp,hR0⟩:=bJ h0;refine kEx 0 (λ v51:Unit=>o50=.inl v51) (λ v51=>⟨[],[]⟩) (λ v51 hv=>?_) ?_
 ·exact Av
 refine lG (λ (q52:(List af)×ae)=>⟨[(3,.ptr 3 0),(4,.ptr 101000 0),(5,.vec 62 3 0 (q52.1.map aE))],[(3,qQ),(101000,(ae.cs q52.2).map .p)]⟩) (λ m (q52:(List af)×ae)=>gO n m q52.1 q52.2) Y ([],r2) h1 (dZ (oh ⟨er rfl,er rfl,⟨_,rfl,AV.sub_nilvec _ _ _⟩,trivial⟩ ⟨⟨_,rfl,⟨sr,sr,sr,trivial⟩⟩,⟨_,rfl,bf _⟩,trivial⟩)) ?_;rintro m ⟨V7,x26⟩ h1;replace h1:gO n (m+1) V7 x26=some o50:=h1;rw [gO] at h1;refine nx 4 rfl (bd h1 λ Y1 e28 h1=>mO rfl (bq [101000] [] 107000 107000 (HO.c e28) rfl rfl rfl rfl rfl ⟨sr,trivial⟩ rfl (aD rfl (aF _) rfl) ⟨⟨_,rfl,bf _⟩,trivial⟩ rfl rfl rfl rfl rfl rfl rfl rfl HE.e rfl (aD rfl (aF _) rfl) (nx 3 rfl (bd h1 λ Xr h2 h1=>kN Xr (λ YX=>⟨[(3,.ptr 3 0),(4,.ptr 101000 0),(5,.vec 62 3 0 (V7.map aE)),(22,.p (eB YX.1))],[(3,qQ),(101000,(ae.cs YX.2).map .p)]⟩) ?_ ?_))))
 ·refine nx 1 Z (fB [22] h1 Z (λ YV h1=>?_) λ YV h1=>?_)
  ·exact nx 2 Z (mG JF (mSq ⟨1,[6],(λ _=>.none),(λ _=>[(3,.ptr 3 0),(4,.ptr 101000 0)]),(ob2 ([(3,qQ),(101000,(ae.cs Xr.2).map .p)]) (3,[.p (eI 2),.p (eI Xr.2.fat),.p (eS ([]:Bk))]))⟩ Z (dPc (.ptr 101000 0) Z (dPc (.ptr 101000 0) Z (dPc (.ptr 101000 1) Z (dPc (.p (eI Xr.2.fat)) Z (dPc (.p (.agg [eI 2,eI Xr.2.fat,eS ([]:Bk)])) Z Ef)))))))
  refine nx 6 Z (oLl (f:=aE) Z Z (nx 2 Z (fD [30] h1 Z (λ c37 h1=>?_) λ c37 h1=>?_)))
  ·exact nx 2 Z (mG JF (mSq ⟨1,[6],(λ _=>.none),(λ _=>[(3,.ptr 3 0),(4,.ptr 101000 0)]),(ob2 ([(3,qQ),(101000,(ae.cs Xr.2).map .p)]) (3,[.p (eI 14),.p (eI Xr.2.fat),.p (eS ([]:Bk))]))⟩ Z (dPc (.ptr 101000 0) Z (dPc (.ptr 101000 0) Z (dPc (.ptr 101000 1) Z (dPc (.p (eI Xr.2.fat)) Z (dPc (.p (.agg [eI 14,eI Xr.2.fat,eS ([]:Bk)])) Z Ef)))))))
  refine nx 6 Z (bd h1 λ Wl e39 h1=>mO Z (bq [101000] [] 110000 110000 (HO.c e39) Z Z Z Z Z ⟨sr,trivial⟩ Z (aD Z (aF _) Z) ⟨⟨_,Z,bf _⟩,trivial⟩ Z Z Z Z Z Z Z Z HE.e Z (aD Z (aF _) Z) (nx 2 Z (fB [38] h1 Z (λ c40 h1=>?_) λ c40 h1=>?_))))
  ·refine nx 7 Z (mO Z (bv Z Z Z Z Z Z Z (ae.g_at _) ?_));refine nx 1 Z (mO Z (bn aE [(af.mk 6 ([]:Bk) Wl.2.fat)] Z Z Z Z Z Z Z Z Z Z Z Z Z Fs ?_));refine cc' h1 λ W6 h1=>mO Z (fY aE V7 ([(af.mk 6 ([]:Bk) Wl.2.fat)]) Z Z Z Z Z Z Z Z Z Z Z Z Z (λ x=>congrArg List.length (af.E' x)) Z Z Z Z W6 ?_);refine mG (BJ (show nO _ _=_ from rm)) (nx 5 Z ?_);exact mQ (hR0 _ (oi h1).symm) Z (fI ⟨AV.sub_vec _ _ _ _,sr,trivial⟩)
  refine nx 5 Z (bd h1 λ V2 e43 h1=>mO Z (bq [101000] [] 111000 111000 (HO.c e43) Z Z Z Z Z ⟨sr,sr,trivial⟩ Z (aD Z (aF _) Z) ⟨⟨_,Z,bf _⟩,trivial⟩ Z Z Z Z Z Z Z Z HE.e Z (aD Z (aF _) Z) (nx 3 Z (mO Z (ny Z Z Z Z Z ?_)))));refine mG (oG (show nO _ _=_ from rm)) (nx 9 Z ?_);refine fB [54] h1 Z (λ Zz h1=>?_) λ Zz h1=>?_
  ·exact nx 2 Z (mG (gE (t:=⟨[(3,.ptr 3 0),(4,.ptr 101000 0)],[(3,qQ),(101000,(ae.cs V2.2.2).map .p)]⟩) Z Z) (mSq ⟨1,[5],(λ _=>.none),(λ _=>[(3,.ptr 3 0),(4,.ptr 101000 0)]),(ob2 ([(3,qQ),(101000,(ae.cs V2.2.2).map .p)]) (3,((az.cs V2.2.2.AI).map .p)))⟩ Z (dPc (.ptr 101000 0) Z (dPc (.ptr 101000 0) Z (dPc (.ptr 101000 259) Z (kQ (λ _=>.p (.agg (az.cs V2.2.2.AI))) Z Z Z (Rj Z Y) (lt1 Z) (ga Z (fX [(57,_)] ⟨.inr ⟨2,_,Z,Z,Z⟩,trivial⟩ (λ sl UT K hK=>al Z (Hm Z Z Z Z Z (UT _ _ Z) Z (ae.l_bad _) (ae.g_bad _) hK)) j7)) Ef))))))
  refine nx 5 Z (mO Z (bn aE [V2.1] Z Z Z Z Z Z Z Z Z Z Z Z Z Fs ?_));refine cc' h1 λ hk45 h1=>mO Z (fY aE V7 [V2.1] Z Z Z Z Z Z Z Z Z Z Z Z Z (λ x=>congrArg List.length (af.E' x)) Z Z Z Z hk45 ?_);refine mG (BJ (show nO _ _=_ from rm)) (nx 2 Z ?_);exact eX (V7++[V2.1],V2.2.2) h1 (gE Z Z)
 refine nx 2 Z (bd h2 λ XM e30 h2=>mO Z (bq [101000] [] 108000 108000 (HO.c e30) Z Z Z Z Z ⟨sr,trivial⟩ Z (aD Z (aF _) Z) ⟨⟨_,Z,bf _⟩,trivial⟩ Z Z Z Z Z Z Z Z HE.e Z (aD Z (aF _) Z) (nx 1 Z (fB [17,18] h2 Z (λ ZA h2=>?_) λ ZA h2=>?_))))
 ·exact nx 1 Z (bd h2 λ WU e33 h2=>mO Z (bq [101000] [] 109000 109000 (HO.c e33) Z Z Z Z Z ⟨sr,trivial⟩ Z (aD Z (aF _) Z) ⟨⟨_,Z,bf _⟩,trivial⟩ Z Z Z Z Z Z Z Z HE.e Z (aD Z (aF _) Z) (nx 3 Z zS)))
 exact nx 5 Z zS
def nI (a_0:af)(T':af):Option Bool :=if a_0.Ar=1 then(if T'.Ar=1 then some true else some (decide (T'.Ar=2))).bind λ t3=>some t3 else if a_0.Ar=2 then some (decide (T'.Ar=2))else(if a_0.Ar=4 then some (!decide (T'.Ar=4))else some true).bind λ t6=>if t6=true then some false else(strings_HasPrefix T'.C' ([61]:Bk)).bind λ r8=>if r8=true then(if (a_0.C'.length:Int)=1 then(strings_Contains ([61,33,60,62]:Bk) a_0.C').bind λ Vk=>some Vk else some false).bind λ Vy=>some Vy else(if a_0.C'=([61]:Bk) then(strings_HasPrefix T'.C' ([62]:Bk)).bind λ WL=>some WL else some false).bind λ Xm=>some Xm
instance JU (a_0:af) (T':af):∀ (r:Bool),HP (nI a_0 T'=some r) Tryz.prog 192 [.agg (af.cs a_0),.agg (af.cs T')] (.p (eB r)):=by
 refine hP good Tryz.func192 Z Z λ r h0 _ w0=>?_;unfold nI at h0;refine nx 15 Z (fD [5,8] h0 Z (λ c1 h0=>?_) λ c1 h0=>?_)
 ·refine nx 2 Z (bd h0 λ Xf h1 h0=>kN Xf (λ Xo=>⟨[(4,.p (eB Xo))],[]⟩) ?_ ?_)
  ·exact S0
  exact iw
 refine nx 8 Z (fD [17,20] h0 Z (λ c4 h0=>?_) λ c4 h0=>?_)
 ·exact S0
 refine nx 2 Z (bd h0 λ YD h1 h0=>kN YD (λ Yq=>⟨[(2,.ptr 2 0),(3,.ptr 3 0),(24,.p (eB Yq))],[(2,(af.cs a_0).map .p),(3,(af.cs T').map .p)]⟩) ?_ ?_)
 ·refine nx 1 Z (fB [24] h0 Z (λ c7 h0=>?_) λ c7 h0=>?_)
  ·exact S0
  refine nx 5 Z (bd h0 λ r8 e9 h0=>oK (dJ T'.C' ([61]:Bk) _ e9) Z ⟨sr,sr,trivial⟩ HE.e Z (nx 2 Z (fB [33,36] h0 Z (λ c10 h0=>?_) λ c10 h0=>?_)))
  ·refine nx 2 Z (bd h0 λ Xs h1 h0=>kN Xs (λ YY=>⟨[(4,.p (eB YY))],[]⟩) ?_ ?_)
   ·exact S0
   exact iw
  refine nx 3 Z (bd h0 λ WX h1 h0=>kN WX (λ V8=>⟨[(4,.p (eB V8))],[]⟩) ?_ ?_)
  ·exact S0
  exact iw
 refine nx 5 Z (fN [27,28] h1 Z (λ c5 h1=>?_) λ c5 h1=>?_)
 ·exact iw
 exact nx 6 Z n0
def nP (n:Nat)(S':af):Option Bool :=(if S'.Ar=3 then ck (([34]:Bk).length+S'.C'.length<=9223372036854775807)<|ck ((([34]:Bk)++S'.C').length+([34]:Bk).length<=9223372036854775807)<|some ((([34]:Bk)++S'.C')++([34]:Bk))else some S'.C').bind λ s4=>(if s4=([]:Bk) then some true else if S'.Ar<1 then some true else some (decide (5<S'.Ar))).bind λ t7=>if t7=true then some false else(iQ s4).bind λ r9=>(dM n r9).bind λ WV=>if (!WV.1)=true then some false else(bz n WV.2 0).bind λ Vl=>(if Vl.2.1=true then(bO Vl.2.2).bind λ Vq=>if (!Vq.1)=true then some (decide (Vl.1.Ar=S'.Ar))else some false else some false).bind λ t20=>some t20
instance On (n:Nat) (S':af):∀ (r:Bool),HP (nP n S'=some r) Tryz.prog 172 [.agg (af.cs S')] (.p (eB r)):=by
 refine hP good Tryz.func172 Z Z λ r h0 _ w0=>?_;unfold nP at h0;refine nx 12 Z (bd h0 λ o24 h1 h0=>kN o24 (λ v25=>⟨[(1,.ptr 1 0),(3,.p (eS v25))],[(1,(af.cs S').map .p)]⟩) ?_ ?_)
 ·refine nx 3 Z (bd h0 λ o26 h1 h0=>kN o26 (λ v27=>⟨[(1,.ptr 1 0),(3,.p (eS o24)),(26,.p (eB v27))],[(1,(af.cs S').map .p)]⟩) ?_ ?_)
  ·refine nx 1 Z (fB [26] h0 Z (λ c8 h0=>?_) λ c8 h0=>?_)
   ·exact S0
   refine nx 5 Z (bd h0 λ r9 Xv h0=>mO Z (bq [] [] 101000 101001 (od o24 _ Xv) Z Z Z Z Z ⟨sr,trivial⟩ Z Z trivial Z Z Z Z Z Z Z Z HE.e Z (aD Z (aF _) Z) (nx 6 Z (bd h0 λ WV YT h0=>mO Z (bq [101000] [] 102000 102000 (HO.c YT) Z Z Z Z Z ⟨sr,trivial⟩ Z (aD Z (aF _) Z) ⟨⟨_,Z,bf _⟩,trivial⟩ Z Z Z Z Z Z Z Z HE.e Z (aD Z (aF _) Z) (nx 2 Z (fB [31] h0 Z (λ c13 h0=>?_) λ c13 h0=>?_)))))))
   ·exact S0
   refine nx 5 Z (bd h0 λ Vl X9 h0=>mO Z (bq [101000] [] 103000 103000 (HO.c X9) Z Z Z Z Z ⟨sr,sr,trivial⟩ Z (aD Z (aF _) Z) ⟨⟨_,Z,bf _⟩,trivial⟩ Z Z Z Z Z Z Z Z HE.e Z (aD Z (aF _) Z) (nx 3 Z (mO Z (ny Z Z Z Z Z ?_)))));refine mG (oG (show nO _ _=_ from rm)) (nx 4 Z ?_);refine bd h0 λ Y6 h1 h0=>kN Y6 (λ Yp=>⟨[(2,.p (eB Yp))],[]⟩) ?_ ?_
   ·exact S0
   refine nx 3 Z (fB [6,36,37,38] h1 Z (λ c16 h1=>?_) λ c16 h1=>?_)
   ·refine nx 1 Z (bd h1 λ Vq e18 h1=>mO Z (bq [101000] [] 104000 104000 (HO.c e18) Z Z Z Z Z ⟨sr,trivial⟩ Z (aD Z (aF _) Z) ⟨⟨_,Z,bf _⟩,trivial⟩ Z Z Z Z Z Z Z Z HE.e Z (aD Z (aF _) Z) (nx 3 Z (fB [41,42,43] h1 Z (λ Ya h1=>?_) λ Ya h1=>?_))))
    ·exact iw
    exact nx 8 Z n0
   exact nx 13 Z n0
  exact iw
 refine nx 6 Z (fD [11] h1 Z (λ c1 h1=>?_) λ c1 h1=>?_)
 ·exact nx 3 Z (oC h1 Z λ WZ h1=>oC h1 Z λ Xt h1=>nx 2 Z n0)
 exact wR
def ef (l_0:List af):Nat->Int->Int->Option Int|0,_,_=>none|m+1,n19,t20=>if t20<(l_0.length:Int) then(ck ((0:Int)<=t20/\t20<(l_0.length:Int))<|ck (inR (n19+(((lat l_0 t20).C').length:Int)))<|(if (lat l_0 t20).Ar=3 then ck (inR ((n19+(((lat l_0 t20).C').length:Int))+2))<|some ((n19+(((lat l_0 t20).C').length:Int))+2)else some (n19+(((lat l_0 t20).C').length:Int))).bind λ n26=>(if 0<t20 then ck (inR (t20-1))<|ck ((0:Int)<=t20-1/\t20-1<(l_0.length:Int))<|(nI (lat l_0 (t20-1)) (lat l_0 t20)).bind λ W0=>some W0 else some false).bind λ t32=>if t32=true then ck (inR (n26+1))<|some (n26+1)else some n26).bind λ n35=>ck (inR (t20+1))<|ef l_0 m n35 (t20+1)else some n19
def lW (n:Nat)(l_0:List af):Option Int :=(ef l_0 n 0 0).bind λ n39=>some n39
instance I6 (n:Nat) (l_0:List af):∀ (r:Int),HP (lW n l_0=some r) Tryz.prog 173 [eL aE l_0] (.p (eI r)):=by
 refine hP good Tryz.func173 Z Z λ r h0 _ w0=>?_;unfold lW at h0;refine nx 12 Z (oLl (f:=aE) Z Z (nx 3 Z (bd h0 λ ZL h1 h0=>kE 0 ZL (λ Zc=>⟨[(3,.p (eI Zc))],[]⟩) ?_ ?_)))
 ·exact S0
 refine lG (λ (W3:Int×Int)=>⟨[(0,.p (eL aE l_0)),(3,.p (eI W3.1)),(6,.p (eL aE l_0)),(7,.p (eI (l_0.length:Int))),(8,.p (eI W3.2))],[]⟩) (λ m (W3:Int×Int)=>ef l_0 m W3.1 W3.2) Y (0,0) h1 (gE rfl rfl) ?_;rintro m ⟨n19,t20⟩ h1;replace h1:ef l_0 (m+1) n19 t20=some ZL:=h1;rw [ef] at h1;refine nx 5 rfl (fD [9] h1 rfl (λ c21 h1=>?_) λ c21 h1=>?_)
 ·refine nx 3 Z (bd h1 λ o47 h2 h1=>kN o47 (λ v48=>⟨[(0,.p (eL aE l_0)),(3,.p (eI v48)),(6,.p (eL aE l_0)),(7,.p (eI (l_0.length:Int))),(8,.p (eI t20))],[]⟩) ?_ ?_)
  ·exact nx 2 Z (oA h1 Z Z λ X5 h1=>nx 2 Z (eX (o47,t20+1) h1 (gE Z Z)))
  refine nx 4 Z (oE h2 af.E' Z Z Y λ WE h2=>nx 10 Z (oLs Z (oA h2 Z Z λ W7 h2=>nx 3 Z (bd h2 λ o49 h3 h2=>kN o49 (λ v50=>⟨[(0,.p (eL aE l_0)),(3,.p (eI v50)),(4,.p (eI t20)),(5,.ptr 5 0),(6,.p (eL aE l_0)),(7,.p (eI (l_0.length:Int))),(8,.p (eI t20))],[(5,(af.cs (lat l_0 t20)).map .p)]⟩) ?_ ?_))))
  ·refine nx 2 Z (bd h2 λ o51 h3 h2=>kN o51 (λ v52=>⟨[(0,.p (eL aE l_0)),(3,.p (eI o49)),(6,.p (eL aE l_0)),(7,.p (eI (l_0.length:Int))),(8,.p (eI t20)),(33,.p (eB v52))],[]⟩) ?_ ?_)
   ·refine nx 1 Z (fB [33] h2 Z (λ c33 h2=>?_) λ c33 h2=>?_)
    ·exact nx 3 Z (oA h2 Z Z λ Zt h2=>nx 2 Z zS)
    exact xS
   refine fD (p:=0<t20) [] h3 Z (λ c27 h3=>?_) λ c27 h3=>?_
   ·exact cc' h3 λ YP h3=>cc' h3 λ XG h3=>bd h3 λ W0 e31 h3=>mD [(0,.p (eL aE l_0)),(3,.p (eI o49)),(4,.p (eI t20)),(5,.ptr 5 0),(6,.p (eL aE l_0)),(7,.p (eI (l_0.length:Int))),(8,.p (eI t20))] Z ⟨Z,Z,Z,Z,Z,Z,Z,trivial⟩ Z (dR 1 Z (dL (dt c27) Z (dR 3 Z (dq (.p (eI (t20-1))) [25,27] Z (λ _ e _ q=>cO (gJ Z Z Z (e _ _ Z) Z Z YP q) Z Z (e _ _ Z) (rfl)) Z (dq (.rptr (af.cs (lat l_0 (t20-1)))) [25,26,28] Z (λ _ e _ q=>cO (dh (f:=aE) (l:=l_0) af.cs Z Z Z Z Z Z (e _ _ Z) Z (e _ _ Z) XG af.E' Y q) Z Z (e _ _ Z) (rfl)) Z (dR 2 Z (dq (.p (eB W0)) [25,30,31] Z (λ _ e _ q=>cO (bQ (HP.c e31) Z Z Z (aG (e _ _ Z) (aG (e _ _ Z) bp)) ⟨sr,sr,trivial⟩ HE.e Z q) Z Z (e _ _ Z) (rfl)) Z ML)))))))
   exact mD [(0,.p (eL aE l_0)),(3,.p (eI o49)),(4,.p (eI t20)),(5,.ptr 5 0),(6,.p (eL aE l_0)),(7,.p (eI (l_0.length:Int))),(8,.p (eI t20))] Z ⟨Z,Z,Z,Z,Z,Z,Z,trivial⟩ Z (dR 1 Z (dL (df c27) Z (dR 9 Z RX)))
  refine nx 6 Z (fD [20] h3 Z (λ ZB h3=>?_) λ ZB h3=>?_)
  ·exact nx 3 Z (oA h3 Z Z λ WC h3=>nx 2 Z pY)
  exact ry
 exact iw
def eJ (n:Nat)(l_0:List af):Nat->Int->Option (Unit⊕Int)|0,_=>none|m+1,Xm=>if Xm<((sub l_0 0 ((l_0.length:Int)-1)).length:Int) then ck ((0:Int)<=Xm/\Xm<((sub l_0 0 ((l_0.length:Int)-1)).length:Int))<|if 65536<(((lat (sub l_0 0 ((l_0.length:Int)-1)) Xm).C').length:Int) then some (.inr 3)else(nP n (lat (sub l_0 0 ((l_0.length:Int)-1)) Xm)).bind λ WK=>if (!WK)=true then some (.inr 1)else ck (inR (Xm+1))<|eJ n l_0 m (Xm+1)else some (.inl ())
def nV (n:Nat)(l_0:List af):Option Int :=if 16384<(l_0.length:Int) then some 14 else if (l_0.length:Int)=0 then some 1 else ck (inR ((l_0.length:Int)-1))<|(ck ((0:Int)<=(l_0.length:Int)-1/\(l_0.length:Int)-1<(l_0.length:Int))<|if (lat l_0 ((l_0.length:Int)-1)).Ar=6 then ck ((0:Int)<=(l_0.length:Int)-1/\(l_0.length:Int)-1<(l_0.length:Int))<|some (!decide ((lat l_0 ((l_0.length:Int)-1)).C'=([]:Bk)))else some true).bind λ t7=>if t7=true then some 1 else ck ((0:Int)<=0/\0<=(l_0.length:Int)-1/\(l_0.length:Int)-1<=(l_0.length:Int))<|jn (eJ n l_0 n 0) λ WA=>(lW n l_0).bind λ Y1=>if 65536<Y1 then some 3 else some 0
instance KQ (n:Nat) (l_0:List af):∀ (r:Int),HP (nV n l_0=some r) Tryz.prog 150 [eL aE l_0] (.p (eI r)):=by
 refine hP good Tryz.func150 Z Z λ r h0 _ w0=>?_;unfold nV at h0;refine nx 8 Z (oLl (f:=aE) Z Z (nx 2 Z (fD [8] h0 Z (λ c1 h0=>?_) λ c1 h0=>?_)))
 ·exact S0
 refine nx 6 Z (oLl (f:=aE) Z Z (nx 2 Z (fD [11] h0 Z (λ c2 h0=>?_) λ c2 h0=>?_)))
 ·exact S0
 refine nx 5 Z (oLl (f:=aE) Z Z (oA h0 Z Z λ Xt h0=>nx 4 Z (bd h0 λ XO h1 h0=>kN XO (λ ZT=>⟨[(0,.p (eL aE l_0)),(3,.p (eI ((l_0.length:Int)-1))),(28,.p (eB ZT))],[]⟩) ?_ ?_)))
 ·refine nx 1 Z (fB [28] h0 Z (λ c8 h0=>?_) λ c8 h0=>?_)
  ·exact S0
  refine nx 7 rfl (cc' h0 λ Yk h0=>mO rfl (sc (f:=aE) (l:=l_0) Z Z Z Z Z Z Z Z Z Z Yk (λ x=>congrArg List.length (af.E' x)) (oLl (f:=aE) Z Z (nx 3 rfl ?_))));obtain ⟨o34,h1,Vp,hR0⟩:=bJ h0;refine kEx 0 (λ XT:Unit=>o34=.inl XT) (λ XT=>⟨[(0,.p (eL aE l_0))],[]⟩) (λ XT hv=>?_) ?_
  ·have h0:=Vp _ hv;exact S0
  refine lG (λ (q36:Int)=>⟨[(0,.p (eL aE l_0)),(31,.p (eL aE (sub l_0 0 ((l_0.length:Int)-1)))),(32,.p (eI ((sub l_0 0 ((l_0.length:Int)-1)).length:Int))),(33,.p (eI q36))],[]⟩) (λ m (q36:Int)=>eJ n l_0 m q36) Y 0 h1 (gE rfl rfl) ?_;rintro m Xm h1;replace h1:eJ n l_0 (m+1) Xm=some o34:=h1;rw [eJ] at h1;refine nx 5 rfl (fD [34] h1 rfl (λ Ya h1=>?_) λ Ya h1=>?_)
  ·refine nx 6 Z (oE h1 af.E' Z Z Y λ WY h1=>nx 9 Z (oLs Z (nx 2 Z (fD [40] h1 Z (λ c21 h1=>?_) λ c21 h1=>?_))))
   ·exact nx 6 Z EQ
   refine nx 5 Z (K1 λ WK h1=>nx 2 Z (fB [43] h1 Z (λ ZB h1=>?_) λ ZB h1=>?_))
   ·exact nx 6 Z EQ
   exact nx 3 Z (oA h1 Z Z λ WC h1=>nx 2 Z (eX (Xm+1) h1 (gE Z Z)))
  exact Fo
 refine nx 3 Z (oE h1 af.E' Z Z Y λ XP h1=>nx 4 Z (fN [20,21] h1 Z (λ c5 h1=>?_) λ c5 h1=>?_))
 ·refine nx 2 Z (oE h1 af.E' Z Z Y λ ZQ h1=>?_);exact iw
 exact nx 8 Z n0
def mt (UZ:ag):Option Bool :=(if UZ.Ar<0 then some true else some (decide (6<UZ.Ar))).bind λ t2=>if t2=true then some false else jn (if UZ.Ar=1 then(if UZ.G'=0 then some false else some (!decide (UZ.G'=1))).bind λ t6=>if t6=true then some (.inr false)else some (.inl ())else if UZ.Ar=2 then some (.inl ())else if UZ.G'=0 then some (.inl ())else some (.inr false) : Option (Unit⊕Bool)) λ q20=>(if UZ.Ar=3 then if UZ.Ar=4 then some false else if UZ.Ar=5 then some false else some (decide (0<(UZ.Gw.length:Int)))else if UZ.D'=([]:Bk) then if UZ.Ar=4 then some false else if UZ.Ar=5 then some false else some (decide (0<(UZ.Gw.length:Int)))else some true).bind λ VX=>if VX=true then some false else if UZ.Ar=5 then some (decide ((UZ.F'.length:Int)=(UZ.Gw.length:Int)))else some (decide ((UZ.F'.length:Int)=0))
instance I1 (UZ:ag):∀ (r:Bool),HP (mt UZ=some r) Tryz.prog 189 [.agg (ag.cs UZ)] (.p (eB r)):=by
 refine hP good Tryz.func189 Z Z λ r h0 _ w0=>?_;unfold mt at h0;refine nx 7 Z (bd h0 λ Xf h1 h0=>kN Xf (λ Xo=>⟨[(1,.ptr 1 0),(10,.p (eB Xo))],[(1,(ag.cs UZ).map .p)]⟩) ?_ ?_)
 ·refine nx 1 Z (fB [10] h0 Z (λ c3 h0=>?_) λ c3 h0=>?_)
  ·exact J0
  refine nx 8 rfl ?_;obtain ⟨YD,h1,Vp,hR0⟩:=bJ h0;refine kX (λ Yq:Unit=>YD=.inl Yq) (λ Yq=>⟨[(1,.ptr 1 0)],[(1,(ag.cs UZ).map .p)]⟩) (λ Yq hv=>?_) ?_
  ·have h0:=Vp _ hv;refine nx 3 Z (bd h0 λ Xs h1 h0=>kN Xs (λ YY=>⟨[(1,.ptr 1 0),(51,.p (eB YY))],[(1,(ag.cs UZ).map .p)]⟩) ?_ ?_)
   ·exact J0
   exact aB
  refine nx 6 Z (fD [16,17] h1 Z (λ c4 h1=>?_) λ c4 h1=>?_)
  ·refine nx 2 Z (bd h1 λ WX h2 h1=>kN WX (λ V8=>⟨[(1,.ptr 1 0),(25,.p (eB V8))],[(1,(ag.cs UZ).map .p)]⟩) ?_ ?_)
   ·exact aB
   exact dj
  exact aB
 exact aB
def mK (O':Bk):Option Int :=if 4096<(O'.length:Int) then some 3 else(lO O').bind λ r2=>if (!r2)=true then some 1 else some 0
instance Ox (O':Bk):∀ (r:Int),HP (mK O'=some r) Tryz.prog 191 [eS O'] (.p (eI r)):=by
 refine hP good Tryz.func191 Z Z λ r h0 _ w0=>?_;unfold mK at h0;exact J0
def kL (UZ:ag):Nat->Int->Option (Unit⊕(Unit⊕Int))|0,_=>none|m+1,Xg=>if Xg<(UZ.F'.length:Int) then ck ((0:Int)<=Xg/\Xg<(UZ.F'.length:Int))<|(mK (lat UZ.F' Xg)).bind λ Y1=>if Y1=0 then(if 0<Xg then ck (inR (Xg-1))<|ck ((0:Int)<=Xg-1/\Xg-1<(UZ.F'.length:Int))<|some (Op.bytesLess (lat UZ.F' Xg) (lat UZ.F' (Xg-1))||decide (lat UZ.F' Xg=lat UZ.F' (Xg-1)))else some false).bind λ t33=>if t33=true then some (.inr (.inr 1))else ck (inR (Xg+1))<|kL UZ m (Xg+1)else some (.inr (.inr Y1))else some (.inl ())
def pE (n:Nat)(UZ:ag):Option Int :=(mt UZ).bind λ r1=>if (!r1)=true then some 1 else jn (if UZ.Ar=2 then(j9 UZ.G').bind λ r5=>if (!r5)=true then some (.inr 5)else some (.inl ())else if UZ.Ar=3 then(mK UZ.D').bind λ r9=>some (.inr r9)else if UZ.Ar=5 then jn (kL UZ n 0) λ q38=>some (.inl ())else some (.inl ()) : Option (Unit⊕Int)) λ Zl=>some 0
instance Ow (n:Nat) (UZ:ag):∀ (r:Int),HP (pE n UZ=some r) Tryz.prog 170 [.agg (ag.cs UZ)] (.p (eI r)):=by
 refine hP good Tryz.func170 Z Z λ r h0 _ w0=>?_;unfold pE at h0;refine nx 9 Z (K0 λ r1 h0=>nx 2 Z (fB [8] h0 Z (λ c3 h0=>?_) λ c3 h0=>?_))
 ·exact J0
 refine nx 8 rfl ?_;obtain ⟨o40,h1,Vp,hR0⟩:=bJ h0;refine kX (λ v41:Unit=>o40=.inl v41) (λ v41=>⟨[],[]⟩) (λ v41 hv=>?_) ?_
 ·exact eW
 refine nx 6 Z (fD [11,12] h1 Z (λ c4 h1=>?_) λ c4 h1=>?_)
 ·exact aB
 refine nx 6 Z (fD [17,18] h1 Z (λ c8 h1=>?_) λ c8 h1=>?_)
 ·exact aB
 refine nx 6 Z (fD [22,23] h1 Z (λ Xa h1=>?_) λ Xa h1=>?_)
 ·refine nx 5 rfl (oLl (f:=eS) Z Z (nx 3 rfl ?_));obtain ⟨Yh,h2,hL1,hR1⟩:=bJ h1;refine kEx 1 (λ Xl:Unit=>Yh=.inl Xl) (λ Xl=>⟨[],[]⟩) (λ Xl hv=>?_) ?_
  ·have h1:=hL1 _ hv;exact aB
  refine lG (λ (Yx:Int)=>⟨[(1,.ptr 1 0),(25,.p (eL eS UZ.F')),(26,.p (eI (UZ.F'.length:Int))),(27,.p (eI Yx))],[(1,(ag.cs UZ).map .p)]⟩) (λ m (Yx:Int)=>kL UZ m Yx) Y 0 h2 (gE rfl rfl) ?_;rintro m Xg h2;replace h2:kL UZ (m+1) Xg=some Yh:=h2;rw [kL] at h2;refine nx 5 rfl (fD [28] h2 rfl (λ c25 h2=>?_) λ c25 h2=>?_)
  ·refine nx 7 Z (oE h2 Y Z Z Y λ YQ h2=>nx 8 Z (K2 λ Y1 h2=>nx 7 Z (fN [35] h2 Z (λ c29 h2=>?_) λ c29 h2=>?_)))
   ·refine nx 3 Z (bd h2 λ o45 h3 h2=>kN o45 (λ v46=>⟨[(1,.ptr 1 0),(25,.p (eL eS UZ.F')),(26,.p (eI (UZ.F'.length:Int))),(27,.p (eI Xg)),(48,.p (eB v46))],[(1,(ag.cs UZ).map .p)]⟩) ?_ ?_)
    ·exact dj
    refine nx 4 Z (fD [38,39] h3 Z (λ c30 h3=>?_) λ c30 h3=>?_)
    ·exact nx 4 Z (oA h3 Z Z λ Zu h3=>oE h3 Y Z Z Y λ abH h3=>nx 1 Z (oS Z Z (nx 2 Z pY)))
    exact nx 10 Z pY
   exact dj
  exact dj
 exact aB
def fE (V0:ag->Int->Int->Option (Int×Int))(UZ:ag)(UU:Int):Nat->Int->Int->Option (Int⊕(Int×Int))|0,_,_=>none|m+1,VX,XQ=>if VX<(UZ.Gw.length:Int) then ck ((0:Int)<=VX/\VX<(UZ.Gw.length:Int))<|ck (inR (UU+1))<|(V0 (lat UZ.Gw VX) (UU+1) XQ).bind λ U8=>if U8.1=0 then ck (inR (VX+1))<|fE V0 UZ UU m (VX+1) U8.2 else some (.inr (U8.1,U8.2))else some (.inl XQ)
def gM:Nat->ag->Int->Int->Option (Int×Int)|0,_,_,_=>none|n+1,UZ,UU,cap_0=>if 32<UU then some (4,cap_0)else if 4096<=cap_0 then some (14,cap_0)else ck (inR (cap_0+1))<|(pE n UZ).bind λ r4=>if r4=0 then jn (fE (gM n) UZ UU n 0 (cap_0+1)) λ f27=>some (0,f27)else some (r4,cap_0+1)
instance Ho (n:Nat):∀ (UZ:ag) (UU:Int) (cap_0:Int) (r:Int×Int),HO (gM n UZ UU cap_0=some r) Tryz.prog 169 [.p (.agg (ag.cs UZ)),.p (eI UU),.ptr 1000000 0,.ptr 1000001 0] [(1000000,[.p (eI cap_0)]),(1000001,[.func (.func 169) [.ptr 1000000 0,.ptr 1000001 0]])] (.p (eI r.1)) ([(1000000,[.p (eI r.2)]),(1000001,[.func (.func 169) [.ptr 1000000 0,.ptr 1000001 0]])]):=by
 induction n with
 | zero=>exact Zr
 | succ n ih=>
 refine λ UZ UU cap_0=>hO good [] [1000000,1000001] Tryz.func169 Z Z λ r h0 _ w0 F=>?_;rw [gM] at h0;refine nx 11 Z (fD [12] h0 Z (λ c1 h0=>?_) λ c1 h0=>?_)
 ·exact J0
 refine nx 8 Z (fD [14] h0 Z (λ c2 h0=>?_) λ c2 h0=>?_)
 ·exact J0
 refine nx 5 Z (oA h0 Z Z λ Xt h0=>nx 6 Z (K0 λ r4 h0=>nx 7 Z (fN [20] h0 Z (λ c6 h0=>?_) λ c6 h0=>?_)))
 ·refine nx 7 rfl (oLl (f:=cn) Z Z (nx 3 rfl ?_));obtain ⟨WX,h1,Vp,hR0⟩:=bJ h0;refine kEx 0 (λ V8:Int=>WX=.inl V8) (λ V8=>⟨[],[(1000000,[.p (eI V8)]),(1000001,[.func (.func 169) [.ptr 1000000 0,.ptr 1000001 0]])]⟩) (λ V8 hv=>?_) ?_
  ·exact eW
  refine lG (λ (WA:Int×Int)=>⟨[(1,.p (eI UU)),(3,.ptr 1000001 0),(23,.p (eL cn UZ.Gw)),(24,.p (eI (UZ.Gw.length:Int))),(25,.p (eI WA.1))],[(1000000,[.p (eI WA.2)]),(1000001,[.func (.func 169) [.ptr 1000000 0,.ptr 1000001 0]])]⟩) (λ m (WA:Int×Int)=>fE (gM n) UZ UU m WA.1 WA.2) Y (0,cap_0+1) h1 (gE rfl rfl) ?_;rintro m ⟨VX,XQ⟩ h1;replace h1:fE (gM n) UZ UU (m+1) VX XQ=some WX:=h1;rw [fE] at h1;refine nx 5 rfl (fD [26] h1 rfl (λ c18 h1=>?_) λ c18 h1=>?_)
  ·refine nx 6 Z (oE h1 ag.E' Z Z Y λ Wv h1=>nx 9 Z (oA h1 Z Z λ WY h1=>bd h1 λ U8 e22 h1=>mO Z (za [1000000,1000001] [] 102000 102000 (HO.c e22) Z Z Z Z Z Z ⟨sr,sr,sr,sr,trivial⟩ Z Z ⟨⟨_,Z,⟨sr,trivial⟩⟩,⟨_,Z,⟨sr,trivial⟩⟩,trivial⟩ Z Z Z Z Z Z Z Z HE.e Z Z ?_)));exact aB
  exact aB
 exact J0
def nu (n:Nat)(UZ:ag):Option Int :=(gM n UZ 1 0).bind λ r1=>some r1.1
instance LF (n:Nat) (UZ:ag):∀ (r:Int),HP (nu n UZ=some r) Tryz.prog 143 [.agg (ag.cs UZ)] (.p (eI r)):=by
 refine hP good Tryz.func143 Z Z λ r h0 _ w0=>?_;unfold nu at h0;exact nx 16 Z (mO Z (vR Z Z Z Z (nx 6 Z (bd h0 λ r1 e2 h0=>mO Z (za [3,4] [] 101000 101000 (HO.c e2) Z Z Z Z Z Z ⟨sr,sr,sr,sr,trivial⟩ Z Z ⟨⟨_,Z,⟨sr,trivial⟩⟩,⟨_,Z,⟨sr,trivial⟩⟩,trivial⟩ Z Z Z Z Z Z Z Z HE.e Z Z J0)))))
end Go.Ab.R06
end
section
namespace Go.Ab.R06
open Go.Proofs Go.Ab Go.Ab.RB
variable {p:Prop}
theorem MS (h:p:=by
  have:=js [200];have:=jB 200 (Bool×List af×Int×Int×Int×Int×Int×Bk) (λ v=>[(4,.p (eB v.1))]) λ v=>[(1000000,(rp v.2))]
  exact J0):p:=h
theorem Kh (h:p:=by exact λ sl UT K hK=>al Z (EC (z:=.agg (ab.cs r3)) Z Z Z Z (UT _ _ Z) (UT _ _ Z) Z Z Z Z Z hK)):p:=h
theorem Nt (h:p:=by exact λ sl UT K hK=>al Z (yw ao S'.Df Z Z Z Z Z Z Z Z (UT _ _ Z) Z Z (UT _ _ Z) Z Z Z Z Z X4 hK)):p:=h
theorem Jx (h:p:=by first|(simp only [List.map_append,n7,List.map_nil,ab.M']; done)|(simp only [List.map_append,n7,List.map_nil,ab.M']; rfl)):p:=h
theorem D9 (h:p:=by exact mQo (oi h0) (aJ (aS 900000 800000 Z Z Z Z Z) (aQ _)) Z Z Z Z (sr) ⟨⟨_,Z,⟨sr,sr,sr,sr,sr,sr,sr,trivial⟩⟩,trivial⟩):p:=h
theorem E3 (h:p:=by exact mQo (oi h0) (aJ (aS 101000 800000 Z Z Z Z Z) (aQ _)) Z Z Z Z (sr) ⟨⟨_,Z,⟨sr,sr,sr,sr,sr,sr,sr,trivial⟩⟩,trivial⟩):p:=h
theorem L9 (h:p:=by exact gE (t:=⟨[(0,.ptr 1000000 0),(2,.ptr 2 0)],[(2,lP),(1000000,[.p (eS S'.fs),.p (eI S'.fat),.p (eI S'.fi),.p (eI S'.H'),.p (eS S'.IN),.vec 900000 11 0 (S'.Df.map ao),.p (eB S'.L')])]⟩) Z Z):p:=h
theorem q8 (h:p:=by exact λ sl UT K hK=>al Z (Qz Z Z Z Z Z Z Z (UT _ _ Z) (UT _ _ Z) (by rw [List.length_map]) hK)):p:=h
set_option maxRecDepth 4000
attribute [local irreducible] awp iH bu bA cj AV.sub M cN
abbrev xG (F:Bk->Int->Option (Int))(k:Nat):Prop:=∀ (a0:Bk) (a1:Int) (r:Int),HP (F a0 a1=some r) Tryz.prog k [eS a0,eI a1] (.p (eI r))
abbrev xT (F:ah->Bk->Option (ah))(k:Nat):Prop:=∀ (a0:ah) (a1:Bk) (r:ah),HO (F a0 a1=some r) Tryz.prog k [.ptr 1000000 0,.p (eS a1)] [(1000000,((ah.cs a0).map .p))] (.tuple []) ([(1000000,((ah.cs r).map .p))])
abbrev rp (v:List af×Int×Int×Int×Int×Int×Bk):List AV:=[.p (eL aE v.1),.p (eI v.2.1),.p (eI v.2.2.1),.p (eI v.2.2.2.1),.p (eI v.2.2.2.2.1),.p (eI v.2.2.2.2.2.1),.p (eS v.2.2.2.2.2.2)]
abbrev uL:List PV:=[eI 0,eI 0,eS ([]:Bk),eS ([]:Bk),eI 0,eI 0,eS ([]:Bk),.val (.slice none 0 0),.val (.slice none 0 0),.val (.slice none 0 0),eI 0]
abbrev ml:List AV:=[.p (eI 0),.p (eS ([]:Bk)),.p (eI 0)]
abbrev lP:List AV:=[.p (eI 0),.p (eI 0),.p (eS ([]:Bk))]
def mL (Vu:Int):Option Bool :=(if Vu=12 then some true else some (decide (Vu=13))).bind λ t2=>some t2
instance Pr (Vu:Int):∀ (r:Bool),HP (mL Vu=some r) Tryz.prog 166 [eI Vu] (.p (eB r)):=by
 refine hP good Tryz.func166 Z Z λ r h0 _ w0=>?_;unfold mL at h0;exact mM
def lh (Vu:Int):Option Bool :=(if Vu=3 then some true else if Vu=4 then some true else if Vu=9 then some true else(mL Vu).bind λ r4=>some r4).bind λ t6=>some t6
instance Ot (Vu:Int):∀ (r:Bool),HP (lh Vu=some r) Tryz.prog 144 [eI Vu] (.p (eB r)):=by
 refine hP good Tryz.func144 Z Z λ r h0 _ w0=>?_;unfold lh at h0;exact mM
def kK (US:ab):Option Bool :=if US.Ar=6 then(if US.fOp=1 then some true else some (decide (US.fOp=2))).bind λ t3=>some t3 else if US.Ar=7 then(if 3<=US.fOp then some (decide (US.fOp<=15))else some false).bind λ t6=>some t6 else some (decide (US.fOp=0))
instance H7 (US:ab):∀ (r:Bool),HP (kK US=some r) Tryz.prog 165 [.agg (ab.cs US)] (.p (eB r)):=by
 refine hP good Tryz.func165 Z Z λ r h0 _ w0=>?_;unfold kK at h0;have:=js [300,500];have:=jS 300 Bool λ v=>[(2,.p (eB v))]
 have:=jS 500 Bool λ v=>[(2,.p (eB v))]
 exact J0
def lJ (UZ:ag):Option Bool :=(if UZ.Ar=0 then if UZ.G'=0 then if UZ.D'=([]:Bk) then ck (inR ((UZ.Gw.length:Int)+(UZ.F'.length:Int)))<|some (decide ((UZ.Gw.length:Int)+(UZ.F'.length:Int)=0))else some false else some false else some false).bind λ t5=>some t5
instance Qs (UZ:ag):∀ (r:Bool),HP (lJ UZ=some r) Tryz.prog 167 [.agg (ag.cs UZ)] (.p (eB r)):=by
 refine hP good Tryz.func167 Z Z λ r h0 _ w0=>?_;unfold lJ at h0;exact mM
def su (Vu:Int):Option (Int×Int×Bool) :=(if Vu=1 then some true else some (decide (Vu=3))).bind λ t2=>if t2=true then some (0,0,false)else(if Vu=4 then some true else some (decide (Vu=6))).bind λ t5=>if t5=true then some (1,1,false)else(if Vu=5 then some true else some (decide (Vu=7))).bind λ t8=>if t8=true then some (2,2,false)else if Vu=8 then some (3,3,false)else if Vu=2 then some (1,4096,false)else if Vu=12 then some (2,3,false)else if Vu=13 then some (3,4,false)else if Vu=11 then some (0,4096,true)else some (0,4096,false)
instance Pe (Vu:Int):∀ (r:Int×Int×Bool),HP (su Vu=some r) Tryz.prog 168 [eI Vu] (.tuple [.p (eI r.1),.p (eI r.2.1),.p (eB r.2.2)]):=by
 refine hP good Tryz.func168 Z Z λ r h0 _ w0=>?_;unfold su at h0;have:=js [201,501,801];have:=jS 201 Bool λ v=>[(6,.p (eB v))]
 have:=jS 501 Bool λ v=>[(9,.p (eB v))]
 have:=jS 801 Bool λ v=>[(12,.p (eB v))]
 exact J0
def jh (US:ab):Option Bool :=(if US.Ar<1 then some true else if 13<US.Ar then some true else(kK US).bind λ r3=>some (!r3)).bind λ t5=>if t5=true then some false else((lh US.Ar).bind λ r7=>if (!r7)=true then if US.AT=([]:Bk) then(mL US.Ar).bind λ WV=>if (!WV)=true then if US.It=([]:Bk) then if US.Ar=1 then some false else(lJ US.BY).bind λ WL=>some (!WL)else some true else if US.Ar=1 then some false else(lJ US.BY).bind λ Yu=>some (!Yu)else some true else(mL US.Ar).bind λ U8=>if (!U8)=true then if US.It=([]:Bk) then if US.Ar=1 then some false else(lJ US.BY).bind λ VI=>some (!VI)else some true else if US.Ar=1 then some false else(lJ US.BY).bind λ XM=>some (!XM)).bind λ t31=>if t31=true then some false else(su US.Ar).bind λ Yt=>(if (US.A'.length:Int)<Yt.1 then some true else if Yt.2.1<(US.A'.length:Int) then if Yt.2.1<4096 then some true else if Yt.2.2=true then ck ((2:Int)≠0)<|some (decide ((US.A'.length:Int).tmod 2=1))else some false else if Yt.2.2=true then ck ((2:Int)≠0)<|some (decide ((US.A'.length:Int).tmod 2=1))else some false).bind λ t42=>if t42=true then some false else if US.Ar=1 then(if 0<=US.BY.Ar then if US.BY.Ar<=3 then if US.BY.Ar=2 then some (decide (0<=US.BY.G'))else some true else some false else some false).bind λ t48=>some t48 else some true
instance NU (US:ab):∀ (r:Bool),HP (jh US=some r) Tryz.prog 142 [.agg (ab.cs US)] (.p (eB r)):=by
 refine hP good Tryz.func142 Z Z λ r h0 _ w0=>?_;unfold jh at h0;refine nx 7 Z (bd h0 λ Xr h1 h0=>?_);refine kN Xr (λ YX=>⟨[(1,.ptr 1 0),(19,.p (eB YX))],[(1,(ab.cs US).map .p)]⟩) ?_ ?_
 ·refine nx 1 Z (fB [19] h0 Z (λ c6 h0=>?_) λ c6 h0=>?_)
  ·exact J0
  refine nx 4 Z (bd h0 λ o55 h1 h0=>?_);refine kN o55 (λ v56=>⟨[(1,.ptr 1 0),(50,.p (eB v56))],[(1,(ab.cs US).map .p)]⟩) ?_ ?_
  ·refine nx 1 Z (fB [50] h0 Z (λ c32 h0=>?_) λ c32 h0=>?_)
   ·exact J0
   refine nx 6 Z (K0 λ Yt h0=>nx 10 Z ?_);refine bd h0 λ o57 h1 h0=>kN o57 (λ v58=>⟨[(1,.ptr 1 0),(83,.p (eB v58))],[(1,(ab.cs US).map .p)]⟩) ?_ ?_
   ·have:=js [1100];have:=jS 1100 Bool λ v=>[(2,.p (eB v))]
    exact J0
   refine nx 3 Z (oLl (f:=ao) Z Z ?_);refine nx 3 Z (fD [62,63] h1 Z (λ c35 h1=>?_) λ c35 h1=>?_)
   ·exact aB
   refine nx 2 Z (oLl (f:=ao) Z Z ?_);refine nx 3 Z (fD [68,69] h1 Z (λ YV h1=>?_) λ YV h1=>?_)
   ·refine nx 5 Z (fD [71,72,73,74] h1 Z (λ c37 h1=>?_) λ c37 h1=>?_)
    ·exact aB
    refine nx 2 Z (fB [5,57,75,76] h1 Z (λ c38 h1=>?_) λ c38 h1=>?_)
    ·refine nx 2 Z (oLl (f:=ao) Z Z ?_);refine cc' h1 λ aau h1=>mO Z (Jb Z Z Z Z Z Z aau ?_);exact aB
    exact aB
   refine nx 7 Z (fB [5,57,75,76] h1 Z (λ c40 h1=>?_) λ c40 h1=>?_)
   ·refine nx 2 Z (oLl (f:=ao) Z Z ?_);refine cc' h1 λ W6 h1=>mO Z (Jb Z Z Z Z Z Z W6 ?_);exact aB
   exact aB
  exact aB
 exact aB
def dK (O':Bk):Nat->Int->Option (Unit⊕Bool)|0,_=>none|m+1,Vz=>if Vz<(O'.length:Int) then ck ((0:Int)<=Vz/\Vz<(O'.length:Int))<|(ck ((0:Int)<=Vz/\Vz<(O'.length:Int))<|if byt O' Vz=95 then some false else if iOr .u8 (byt O' Vz) 32<97 then if Vz=0 then some true else ck ((0:Int)<=Vz/\Vz<(O'.length:Int))<|if byt O' Vz<48 then some true else ck ((0:Int)<=Vz/\Vz<(O'.length:Int))<|some (decide (57<byt O' Vz))else if 122<iOr .u8 (byt O' Vz) 32 then if Vz=0 then some true else ck ((0:Int)<=Vz/\Vz<(O'.length:Int))<|if byt O' Vz<48 then some true else ck ((0:Int)<=Vz/\Vz<(O'.length:Int))<|some (decide (57<byt O' Vz))else some false).bind λ t34=>if t34=true then some (.inr false)else ck (inR (Vz+1))<|dK O' m (Vz+1)else some (.inl ())
def iy (n:Nat)(O':Bk):Option Bool :=jn (dK O' n 0) λ Zk=>(if O'=([]:Bk) then some false else some (decide ((O'.length:Int)<=64))).bind λ Wn=>some Wn
instance EY (n:Nat) (O':Bk):∀ (r:Bool),HP (iy n O'=some r) Tryz.prog 145 [eS O'] (.p (eB r)):=by
 refine hP good Tryz.func145 Z Z λ r h0 _ w0=>?_;unfold iy at h0;refine nx 8 rfl (oLs rfl ?_);refine nx 3 rfl ?_;obtain ⟨o43,h1,Vp,hR0⟩:=bJ h0;refine kEx 0 (λ v44:Unit=>o43=.inl v44) (λ v44=>⟨[(0,.p (eS O'))],[]⟩) (λ v44 hv=>?_) ?_
 ·have h0:=Vp _ hv;have:=js [800];have:=jS 800 Bool λ v=>[(2,.p (eB v))]
  exact J0
 refine lG (λ (WO:Int)=>⟨[(0,.p (eS O')),(6,.p (eI (O'.length:Int))),(7,.p (eI WO))],[]⟩) (λ m (WO:Int)=>dK O' m WO) Y 0 h1 (gE rfl rfl) ?_;rintro m Vz h1;replace h1:dK O' (m+1) Vz=some o43:=h1;rw [dK] at h1;have:=js [500];have:=jS 500 Bool λ v=>[(41,.p (eB v))]
 exact aB
def gB (O':Bk):Option Bool :=(if O'=([110,117,108,108]:Bk) then some true else if O'=([116,114,117,101]:Bk) then some true else if O'=([102,97,108,115,101]:Bk) then some true else if O'=([102,111,114]:Bk) then some true else if O'=([105,110]:Bk) then some true else some (decide (O'=([105,102]:Bk)))).bind λ t6=>if t6=true then some true else some false
instance Hq (O':Bk):∀ (r:Bool),HP (gB O'=some r) Tryz.prog 146 [eS O'] (.p (eB r)):=by
 refine hP good Tryz.func146 Z Z λ r h0 _ w0=>?_;unfold gB at h0;have:=js [201];have:=jS 201 Bool λ v=>[(4,.p (eB v))]
 exact J0
def qn (n:Nat)(US:ab):Option Int :=(jh US).bind λ r1=>if (!r1)=true then some 1 else if US.Ar=1 then(nu n US.BY).bind λ r5=>some r5 else((lh US.Ar).bind λ r7=>if r7=true then(iy n US.AT).bind λ Vg=>if (!Vg)=true then some true else if US.Ar=4 then some false else(gB US.AT).bind λ Vl=>some Vl else some false).bind λ VX=>if VX=true then some 7 else(if US.It=([]:Bk) then some false else(iy n US.It).bind λ Yu=>if (!Yu)=true then some true else(gB US.It).bind λ WK=>some WK).bind λ Xg=>if Xg=true then some 7 else some 0
instance Q7 (n:Nat) (US:ab):∀ (r:Int),HP (qn n US=some r) Tryz.prog 118 [.agg (ab.cs US)] (.p (eI r)):=by
 refine hP good Tryz.func118 Z Z λ r h0 _ w0=>?_;unfold qn at h0;have:=js [500,700];have:=jS 500 Bool λ v=>[(30,.p (eB v))]
 have:=jS 700 Bool λ v=>[(44,.p (eB v))]
 exact J0
def b9 (VG:bP->ab->Int->Option (Int×bP))(e_1:ab)(Vr:Int):Nat->Int->Int->Option (Int⊕(Int×bP))|0,_,_=>none|m+1,VX,XQ=>if VX<(e_1.A'.length:Int) then ck ((0:Int)<=VX/\VX<(e_1.A'.length:Int))<|ck (inR (Vr+1))<|(VG (bP.mk XQ) (lat e_1.A' VX) (Vr+1)).bind λ U8=>if U8.1=0 then ck (inR (VX+1))<|b9 VG e_1 Vr m (VX+1) U8.2.fcount else some (.inr (U8.1,U8.2))else some (.inl XQ)
def cp:Nat->bP->ab->Int->Option (Int×bP)|0,_,_,_=>none|n+1,WQ,e_1,Vr=>if 32<Vr then some (4,WQ)else if 4096<=WQ.fcount then some (14,WQ)else ck (inR (WQ.fcount+1))<|(qn n e_1).bind λ r4=>if r4=0 then jn (b9 (cp n) e_1 Vr n 0 (WQ.fcount+1)) λ f27=>some (0,(bP.mk f27))else some (r4,(bP.mk (WQ.fcount+1)))
instance Bn (n:Nat):∀ (WQ:bP) (e_1:ab) (Vr:Int) (r:Int×bP),HO (cp n WQ e_1 Vr=some r) Tryz.prog 91 [.ptr 1000000 0,.p (.agg (ab.cs e_1)),.p (eI Vr)] [(1000000,[.p (eI WQ.fcount)])] (.p (eI r.1)) ([(1000000,[.p (eI r.2.fcount)])]):=by
 induction n with
 | zero=>exact Zr
 | succ n ih=>
 refine λ WQ e_1 Vr=>hO good [] [1000000] Tryz.func91 Z Z λ r h0 _ w0 F=>?_;rw [cp] at h0;refine nx 11 Z (fD [12] h0 Z (λ c1 h0=>?_) λ c1 h0=>?_)
 ·exact J0
 refine nx 11 Z (fD [17] h0 Z (λ c2 h0=>?_) λ c2 h0=>?_)
 ·exact J0
 refine nx 8 Z (oA h0 Z Z λ Xt h0=>?_);refine nx 8 Z (K0 λ r4 h0=>nx 7 Z ?_);refine fN [28] h0 Z (λ c6 h0=>?_) λ c6 h0=>?_
 ·refine nx 7 rfl (oLl (f:=ao) Z Z ?_);refine nx 3 rfl ?_;obtain ⟨WX,h1,Vp,hR0⟩:=bJ h0;refine kEx 0 (λ V8:Int=>WX=.inl V8) (λ V8=>⟨[],[(1000000,[.p (eI V8)])]⟩) (λ V8 hv=>?_) ?_
  ·exact eW
  refine lG (λ (WA:Int×Int)=>⟨[(0,.ptr 1000000 0),(2,.p (eI Vr)),(31,.p (eL ao e_1.A')),(32,.p (eI (e_1.A'.length:Int))),(33,.p (eI WA.1))],[(1000000,[.p (eI WA.2)])]⟩) (λ m (WA:Int×Int)=>b9 (cp n) e_1 Vr m WA.1 WA.2) Y (0,WQ.fcount+1) h1 (gE rfl rfl) ?_;rintro m ⟨VX,XQ⟩ h1;replace h1:b9 (cp n) e_1 Vr (m+1) VX XQ=some WX:=h1;rw [b9] at h1;exact aB
 exact J0
def oQ (n:Nat)(US:ab):Option Int :=(cp n (bP.mk 0) US 1).bind λ r1=>some r1.1
instance OE (n:Nat) (US:ab):∀ (r:Int),HP (oQ n US=some r) Tryz.prog 62 [.agg (ab.cs US)] (.p (eI r)):=by
 refine hP good Tryz.func62 Z Z λ r h0 _ w0=>?_;unfold oQ at h0;exact J0
def dy (Sn:ah):Nat->Int->Option Int|0,_=>none|m+1,f7=>(if 0<Sn.IT then ck ((0:Int)<=f7/\f7<(Sn.fl.length:Int))<|some (decide ((lat Sn.fl f7).Ar=5))else some false).bind λ Vn=>if Vn=true then ck (inR (f7+1))<|dy Sn m (f7+1)else some f7
def bM (n:Nat)(Sn:ah):Option (af×ah) :=(dy Sn n Sn.fat).bind λ X8=>ck ((0:Int)<=X8/\X8<(Sn.fl.length:Int))<|ck (inR (((lat Sn.fl X8).fAt)+Sn.IS))<|some ((af.mk ((lat Sn.fl X8).Ar) ((lat Sn.fl X8).C') (((lat Sn.fl X8).fAt)+Sn.IS)),(ah.mk Sn.fl X8 Sn.IT Sn.IS Sn.AI))
instance Dr (n:Nat) (Sn:ah):∀ (r:af×ah),HO (bM n Sn=some r) Tryz.prog 60 [.ptr 1000000 0] [(1000000,((ah.cs Sn).map .p))] (.p (.agg (af.cs r.1))) ([(1000000,((ah.cs r.2).map .p))]):=by
 refine hO good [] [1000000] Tryz.func60 Z Z λ r h0 _ w0 F=>?_;unfold bM at h0;refine nx 6 Z (bd h0 λ W5 h1 h0=>?_);refine kE 0 W5 (λ v20=>⟨[(0,.ptr 1000000 0),(2,.ptr 2 0)],[(2,ml),(1000000,[.p (eL aE Sn.fl),.p (eI v20),.p (eI Sn.IT),.p (eI Sn.IS),.p (eI Sn.AI.Ar),.p (eI Sn.AI.fAt),.p (eS Sn.AI.AT)])]⟩) ?_ ?_
 ·refine nx 2 Z (cc' h0 λ Ww h0=>?_);refine mG (gE (t:=⟨[(0,.ptr 1000000 0),(2,.ptr 2 0)],[(2,ml),(1000000,[.p (eL aE Sn.fl),.p (eI W5),.p (eI Sn.IT),.p (eI Sn.IS),.p (eI Sn.AI.Ar),.p (eI Sn.AI.fAt),.p (eS Sn.AI.AT)])]⟩) Z Z) (mSq ⟨2,[10,11],(by3 (.some λ i=>Nat.beq i 3) .none .none),(λ _=>[(0,.ptr 1000000 0),(2,.ptr 2 0)]),(ob3 ([(2,ml),(1000000,[.p (eL aE Sn.fl),.p (eI W5),.p (eI Sn.IT),.p (eI Sn.IS),.p (eI Sn.AI.Ar),.p (eI Sn.AI.fAt),.p (eS Sn.AI.AT)])]) (3,ml) (3,[.p (eI ((lat Sn.fl W5).Ar)),.p (eS ((lat Sn.fl W5).C')),.p (eI ((lat Sn.fl W5).fAt))]))⟩ Z ?_);refine dPc (.ptr 1000000 0) Z (dPc (.ptr 1000000 0) Z ?_);refine dPc (.ptr 1000000 0) Z (dPc (.p (eL aE Sn.fl)) Z ?_);refine dPc (.ptr 1000000 0) Z (dPc (.ptr 1000000 0) Z ?_);refine dPc (.ptr 1000000 1) Z (dPc (.p (eI W5)) Z ?_);refine dO (.rptr (af.cs (lat Sn.fl W5))) [33,37] Z (λ _ sl UT K hK=>al Z (dh (f:=aE) (l:=Sn.fl) af.cs Z Z Z Z Z Z (UT _ _ Z) Z (UT _ _ Z) Ww af.E' Y hK)) (dPc (.p (.agg (af.cs (lat Sn.fl W5)))) Z ?_);refine dI (λ _=>.ptr 3 0) [] Z pT (dS Z ?_);refine d5 (nx 2 Z ?_);refine cc' h0 λ Xk h0=>mG (gE (t:=⟨[(0,.ptr 1000000 0),(2,.ptr 2 0),(3,.ptr 3 0)],[(2,ml),(3,(af.cs (lat Sn.fl W5)).map .p),(1000000,[.p (eL aE Sn.fl),.p (eI W5),.p (eI Sn.IT),.p (eI Sn.IS),.p (eI Sn.AI.Ar),.p (eI Sn.AI.fAt),.p (eS Sn.AI.AT)])]⟩) Z Z) (mSq ⟨1,[8],(λ _=>.none),(λ _=>[(0,.ptr 1000000 0),(2,.ptr 2 0),(3,.ptr 3 0)]),(ob2 ([(2,ml),(3,[.p (eI ((lat Sn.fl W5).Ar)),.p (eS ((lat Sn.fl W5).C')),.p (eI ((lat Sn.fl W5).fAt))]),(1000000,[.p (eL aE Sn.fl),.p (eI W5),.p (eI Sn.IT),.p (eI Sn.IS),.p (eI Sn.AI.Ar),.p (eI Sn.AI.fAt),.p (eS Sn.AI.AT)])]) (3,[.p (eI ((lat Sn.fl W5).Ar)),.p (eS ((lat Sn.fl W5).C')),.p (eI (((lat Sn.fl W5).fAt)+Sn.IS))]))⟩ Z ?_);refine dPc (.ptr 3 2) Z (dPc (.p (eI ((lat Sn.fl W5).fAt))) Z ?_);refine dPc (.ptr 1000000 0) Z (dPc (.ptr 1000000 0) Z ?_);refine dPc (.ptr 1000000 3) Z (dPc (.p (eI Sn.IS)) Z ?_);refine dO (.p (eI (((lat Sn.fl W5).fAt)+Sn.IS))) [41,45] Z (λ _ sl UT K hK=>al Z (gJ Z Z Z (UT _ _ Z) (UT _ _ Z) Z Xk hK)) (dPc (.ptr 3 2) Z ?_);exact J0
 refine lG (λ (q21:Int)=>⟨[(0,.ptr 1000000 0),(2,.ptr 2 0)],[(2,ml),(1000000,[.p (eL aE Sn.fl),.p (eI q21),.p (eI Sn.IT),.p (eI Sn.IS),.p (eI Sn.AI.Ar),.p (eI Sn.AI.fAt),.p (eS Sn.AI.AT)])]⟩) (λ m (q21:Int)=>dy Sn m q21) Y Sn.fat h1 (gE rfl rfl) ?_;rintro m f7 h1;replace h1:dy Sn (m+1) f7=some W5:=h1;rw [dy] at h1;refine nx 2 rfl (bd h1 λ o22 h2 h1=>?_);refine kN o22 (λ v23=>⟨[(0,.ptr 1000000 0),(2,.ptr 2 0),(22,.p (eB v23))],[(2,ml),(1000000,[.p (eL aE Sn.fl),.p (eI f7),.p (eI Sn.IT),.p (eI Sn.IS),.p (eI Sn.AI.Ar),.p (eI Sn.AI.fAt),.p (eS Sn.AI.AT)])]⟩) ?_ ?_
 ·exact aB
 refine fD (p:=0<Sn.IT) [] h2 Z (λ c8 h2=>?_) λ c8 h2=>?_
 ·refine cc' h2 λ Yk h2=>mD [(0,.ptr 1000000 0),(2,.ptr 2 0)] Z ⟨Z,Z,trivial⟩ Z (dR 4 Z ?_);refine dL (dt c8) Z (dR 9 Z ?_);refine dq (.rptr (af.cs (lat Sn.fl f7))) [9,13,17] Z (λ _ e _ q=>cO (dh (f:=aE) (l:=Sn.fl) af.cs Z Z Z Z Z Z (e _ _ Z) Z (e _ _ Z) Yk af.E' Y q) Z Z (e _ _ Z) (rfl)) Z (dR 4 Z ?_);exact dj
 refine mD [(0,.ptr 1000000 0),(2,.ptr 2 0)] Z ⟨Z,Z,trivial⟩ Z (dR 4 Z ?_);refine dL (df c8) Z (dR 14 Z ?_);refine dE Z (nx 1 Z ?_);exact dj
def aX (n:Nat)(Sn:ah):Option (af×ah) :=(bM n Sn).bind λ r1=>(if r1.1.Ar=6 then some r1.2.fat else ck (inR (r1.2.fat+1))<|some (r1.2.fat+1)).bind λ f5=>some (r1.1,(ah.mk r1.2.fl f5 r1.2.IT r1.2.IS r1.2.AI))
instance DJ (n:Nat) (Sn:ah):∀ (r:af×ah),HO (aX n Sn=some r) Tryz.prog 88 [.ptr 1000000 0] [(1000000,((ah.cs Sn).map .p))] (.p (.agg (af.cs r.1))) ([(1000000,((ah.cs r.2).map .p))]):=by
 refine hO good [] [1000000] Tryz.func88 Z Z λ r h0 _ w0 F=>?_;unfold aX at h0;refine nx 7 Z (K0 λ r1 h0=>?_);refine nx 4 Z (bd h0 λ o7 h1 h0=>?_);refine kN o7 (λ v8=>⟨[(2,.ptr 2 0),(3,.ptr 3 0)],[(2,ml),(3,(af.cs r1.1).map .p),(1000000,[.p (eL aE r1.2.fl),.p (eI v8),.p (eI r1.2.IT),.p (eI r1.2.IS),.p (eI r1.2.AI.Ar),.p (eI r1.2.AI.fAt),.p (eS r1.2.AI.AT)])]⟩) ?_ ?_
 ·exact J0
 exact aB
def bK (Sn:ah):Option (Bool×ah) :=some (!decide (Sn.AI.Ar=0),Sn)
instance Bo (Sn:ah):∀ (r:Bool×ah),HO (bK Sn=some r) Tryz.prog 90 [.ptr 1000000 0] [(1000000,((ah.cs Sn).map .p))] (.p (eB r.1)) ([(1000000,((ah.cs r.2).map .p))]):=by
 refine hO good [] [1000000] Tryz.func90 Z Z λ r h0 _ w0 F=>?_;unfold bK at h0;exact J0
def bG (n:Nat)(Sn:ah)(s_1:Bk):Option (Bool×ah) :=(bM n Sn).bind λ r1=>((bK r1.2).bind λ r3=>if (!r3.1)=true then if r1.1.Ar=4 then some (decide (r1.1.C'=s_1),r3.2.fl,r3.2.fat,r3.2.IT,r3.2.IS,r3.2.AI.Ar,r3.2.AI.fAt,r3.2.AI.AT)else some (false,r3.2.fl,r3.2.fat,r3.2.IT,r3.2.IS,r3.2.AI.Ar,r3.2.AI.fAt,r3.2.AI.AT)else some (false,r3.2.fl,r3.2.fat,r3.2.IT,r3.2.IS,r3.2.AI.Ar,r3.2.AI.fAt,r3.2.AI.AT)).bind λ Xe=>some (Xe.1,(ah.mk Xe.2.1 Xe.2.2.1 Xe.2.2.2.1 Xe.2.2.2.2.1 (az.mk Xe.2.2.2.2.2.1 Xe.2.2.2.2.2.2.1 Xe.2.2.2.2.2.2.2)))
instance Dz (n:Nat) (Sn:ah) (s_1:Bk):∀ (r:Bool×ah),HO (bG n Sn s_1=some r) Tryz.prog 87 [.ptr 1000000 0,.p (eS s_1)] [(1000000,((ah.cs Sn).map .p))] (.p (eB r.1)) ([(1000000,((ah.cs r.2).map .p))]):=by
 refine hO good [] [1000000] Tryz.func87 Z Z λ r h0 _ w0 F=>?_;unfold bG at h0;exact MS
def b7 (Sn:ah)(k_1:Int)(at_2:Int):Option (ab×ah) :=((bK Sn).bind λ r1=>if (!r1.1)=true then some (r1.2.fl,r1.2.fat,r1.2.IT,r1.2.IS,k_1,at_2,([]:Bk))else some (r1.2.fl,r1.2.fat,r1.2.IT,r1.2.IS,r1.2.AI.Ar,r1.2.AI.fAt,r1.2.AI.AT)).bind λ q11=>some ((ab.mk 0 0 ([]:Bk) ([]:Bk) (ag.mk 0 0 ([]:Bk) [] []) [] 0),(ah.mk q11.1 q11.2.1 q11.2.2.1 q11.2.2.2.1 (az.mk q11.2.2.2.2.1 q11.2.2.2.2.2.1 q11.2.2.2.2.2.2)))
instance Dx (Sn:ah) (k_1:Int) (at_2:Int):∀ (r:ab×ah),HO (b7 Sn k_1 at_2=some r) Tryz.prog 61 [.ptr 1000000 0,.p (eI k_1),.p (eI at_2)] [(1000000,((ah.cs Sn).map .p))] (.p (.agg (ab.cs r.1))) ([(1000000,((ah.cs r.2).map .p))]):=by
 refine hO good [] [1000000] Tryz.func61 Z Z λ r h0 _ w0 F=>?_;unfold b7 at h0;have:=js [101];have:=jO 101 (List af×Int×Int×Int×Int×Int×Bk) λ v=>[(1000000,(rp v))]
 exact J0
def iE (UZ:ag)(U':Int):Option ab :=some (ab.mk 1 0 ([]:Bk) ([]:Bk) UZ [] U')
instance I8 (UZ:ag) (U':Int):∀ (r:ab),HP (iE UZ U'=some r) Tryz.prog 185 [.agg (ag.cs UZ),eI U'] (.p (.agg (ab.cs r))):=by
 refine hP good Tryz.func185 Z Z λ r h0 _ w0=>?_;unfold iE at h0;exact J0
def jg (n:Nat)(US:ab)(d_1:az):Option (ab×az) :=if d_1.Ar=0 then(oQ n US).bind λ r2=>if r2=0 then some (US,(az.mk 0 0 ([]:Bk)))else some ((ab.mk 0 0 ([]:Bk) ([]:Bk) (ag.mk 0 0 ([]:Bk) [] []) [] 0),(az.mk r2 US.fAt ([]:Bk)))else some ((ab.mk 0 0 ([]:Bk) ([]:Bk) (ag.mk 0 0 ([]:Bk) [] []) [] 0),d_1)
instance LZ (n:Nat) (US:ab) (d_1:az):∀ (r:ab×az),HP (jg n US d_1=some r) Tryz.prog 32 [.agg (ab.cs US),.agg (az.cs d_1)] (.tuple [.p (.agg (ab.cs r.1)),.p (.agg (az.cs r.2))]):=by
 refine hP good Tryz.func32 Z Z λ r h0 _ w0=>?_;unfold jg at h0;exact J0
def ek (S':ay):Option (az×ay) :=if 4096<(S'.IN.length:Int) then ck (inR (S'.fat+S'.H'))<|some ((az.mk 3 (S'.fat+S'.H') ([]:Bk)),(ay.mk S'.fs S'.fat S'.fi S'.H' S'.IN S'.Df S'.L'))else some ((az.mk 0 0 ([]:Bk)),(ay.mk S'.fs S'.fat S'.fi S'.H' S'.IN S'.Df S'.L'))
instance Bs (S':ay):∀ (r:az×ay),HO (ek S'=some r) Tryz.prog 220 [.ptr 1000000 0] [(1000000,[.p (eS S'.fs),.p (eI S'.fat),.p (eI S'.fi),.p (eI S'.H'),.p (eS S'.IN),.vec 900000 11 0 (S'.Df.map ao),.p (eB S'.L')])] (.p (.agg (az.cs r.1))) ([(1000000,[.p (eS r.2.fs),.p (eI r.2.fat),.p (eI r.2.fi),.p (eI r.2.H'),.p (eS r.2.IN),.vec 2000000 11 0 (r.2.Df.map ao),.p (eB r.2.L')])]):=by
 refine hO good [800000] [1000000] Tryz.func220 Z Z λ r h0 _ w0 F=>?_;unfold ek at h0;refine nx 11 Z (oLs Z ?_);refine nx 2 Z (fD [8] h0 Z (λ c1 h0=>?_) λ c1 h0=>?_)
 ·refine nx 2 Z (cc' h0 λ WZ h0=>?_);refine mG L9 (mSq ⟨1,[10],(λ _=>.none),(λ _=>[(0,.ptr 1000000 0),(2,.ptr 2 0)]),(ob2 ([(2,lP),(1000000,[.p (eS S'.fs),.p (eI S'.fat),.p (eI S'.fi),.p (eI S'.H'),.p (eS S'.IN),.vec 900000 11 0 (S'.Df.map ao),.p (eB S'.L')])]) (2,[.p (eI 3),.p (eI (S'.fat+S'.H')),.p (eS ([]:Bk))]))⟩ Z ?_);refine dPc (.ptr 1000000 0) Z (dPc (.ptr 1000000 0) Z ?_);refine dPc (.ptr 1000000 1) Z (dPc (.p (eI S'.fat)) Z ?_);refine dPc (.ptr 1000000 0) Z (dPc (.ptr 1000000 0) Z ?_);refine dPc (.ptr 1000000 3) Z (dPc (.p (eI S'.H')) Z ?_);refine dO (.p (eI (S'.fat+S'.H'))) [12,16] Z (λ _ sl UT K hK=>al Z (gJ Z Z Z (UT _ _ Z) (UT _ _ Z) Z WZ hK)) (dPc (.p (.agg [eI 3,eI (S'.fat+S'.H'),eS ([]:Bk)])) Z ?_);refine dS Z (d5 ?_);exact nx 2 Z D9
 exact nx 8 Z D9
def fm (S':ay):Option ay :=(if S'.H'<S'.fi then ck (inR (S'.fat+S'.H'))<|(iE (ag.mk 3 0 S'.IN [] []) (S'.fat+S'.H')).bind λ r3=>ck ((S'.Df.length+1)*160<=140737488355328)<|some (S'.Df++[r3])else some S'.Df).bind λ f6=>some (ay.mk S'.fs S'.fat S'.fi S'.H' ([]:Bk) f6 S'.L')
instance Bb (S':ay):∀ (r:ay),HO (fm S'=some r) Tryz.prog 210 [.ptr 1000000 0] [(1000000,[.p (eS S'.fs),.p (eI S'.fat),.p (eI S'.fi),.p (eI S'.H'),.p (eS S'.IN),.vec 900000 11 0 (S'.Df.map ao),.p (eB S'.L')])] (.tuple []) ([(1000000,[.p (eS r.fs),.p (eI r.fat),.p (eI r.fi),.p (eI r.H'),.p (eS r.IN),.vec 2000000 11 0 (r.Df.map ao),.p (eB r.L')])]):=by
 refine hO good [800000] [1000000] Tryz.func210 Z Z λ r h0 _ w0 F=>?_;unfold fm at h0;refine nx 1 Z (bd h0 λ o8 h1 h0=>?_);refine kN o8 (λ v9=>⟨[(0,.ptr 1000000 0)],[(1000000,[.p (eS S'.fs),.p (eI S'.fat),.p (eI S'.fi),.p (eI S'.H'),.p (eS S'.IN),.vec 900000 11 0 (v9.map ao),.p (eB S'.L')])]⟩) ?_ ?_
 ·exact nx 7 Z (Jd (oi h0) (aJ (aS 900000 800000 Z Z Z Z Z) (aQ _)) Z Z Z Z (sr) ⟨⟨_,Z,⟨sr,sr,sr,sr,sr,sr,sr,trivial⟩⟩,trivial⟩)
 refine nx 1 Z (mD [(0,.ptr 1000000 0)] Z ⟨Z,trivial⟩ Z ?_);refine dR 9 Z (dE Z ?_);refine nx 1 Z (fD [10] h1 Z (λ c1 h1=>?_) λ c1 h1=>?_)
 ·refine nx 1 Z (cc' h1 λ WZ h1=>?_);refine bd h1 λ r3 e4 h1=>cc' h1 λ X4 h1=>mG (gE (t:=⟨[(0,.ptr 1000000 0)],[(1000000,[.p (eS S'.fs),.p (eI S'.fat),.p (eI S'.fi),.p (eI S'.H'),.p (eS S'.IN),.vec 900000 11 0 (S'.Df.map ao),.p (eB S'.L')])]⟩) Z Z) (mSP ⟨3,[21,23,26],(by4 (.some λ i=>Nat.beq i 900000||Nat.beq i 32) (.fn (upP 32 11 (.agg (ab.cs r3)))) .none .none),(λ _=>[(0,.ptr 1000000 0)]),(by4 ([(1000000,[.p (eS S'.fs),.p (eI S'.fat),.p (eI S'.fi),.p (eI S'.H'),.p (eS S'.IN),.vec 900000 11 0 (S'.Df.map ao),.p (eB S'.L')])]) ([(1000000,((ay.cs S').map .p))]) ([(1000000,((ay.cs S').map .p))]) ([(1000000,[.p (eS S'.fs),.p (eI S'.fat),.p (eI S'.fi),.p (eI S'.H'),.p (eS S'.IN),.vec 32 11 0 (S'.Df.map ao++[.agg (ab.cs r3)]),.p (eB S'.L')]),(1000000,((ay.cs S').map .p))]))⟩ ⟨3,[21,26,23],(by4 (.some λ i=>Nat.beq i 900000||Nat.beq i 32) .none (.fn (upP 32 11 (.agg (ab.cs r3)))) .none),(λ _=>[(0,.ptr 1000000 0)]),(by4 ([(1000000,[.p (eS S'.fs),.p (eI S'.fat),.p (eI S'.fi),.p (eI S'.H'),.p (eS S'.IN),.vec 900000 11 0 (S'.Df.map ao),.p (eB S'.L')])]) ([(1000000,((ay.cs S').map .p))]) ([(1000000,[.p (eS S'.fs),.p (eI S'.fat),.p (eI S'.fi),.p (eI S'.H'),.p (eS S'.IN),.vecp 32 11 0 (S'.Df.map ao),.p (eB S'.L')]),(1000000,((ay.cs S').map .p))]) ([(1000000,[.p (eS S'.fs),.p (eI S'.fat),.p (eI S'.fi),.p (eI S'.H'),.p (eS S'.IN),.vec 32 11 0 (S'.Df.map ao++[.agg (ab.cs r3)]),.p (eB S'.L')]),(1000000,((ay.cs S').map .p))]))⟩ Z Z Z Z Z Z Z ⟨Z,trivial⟩ Z (lt3 ⟨Z,trivial⟩ ⟨Z,trivial⟩ ⟨Z,trivial⟩) (lt3 ⟨Z,trivial⟩ ⟨Z,trivial⟩ ⟨Z,trivial⟩) Z Z Z Z Z ?_);refine dPc (.ptr 1000000 0) Z (dPc (.ptr 1000000 0) Z ?_);refine dPc (.ptr 1000000 5) Z (dP (by4 (.vec 900000 11 0 (S'.Df.map ao)) (.p (eL ao S'.Df)) (.p (eL ao S'.Df)) (.p (eL ao S'.Df))) Z ?_);refine dPc (.ptr 1000000 0) Z (dPc (.ptr 1000000 0) Z ?_);refine dPc (.ptr 1000000 4) Z (dPc (.p (eS S'.IN)) Z ?_);refine dPc (.p (.agg [eI 3,eI 0,eS S'.IN,.val (.slice none 0 0),.val (.slice none 0 0)])) Z (dPc (.ptr 1000000 0) Z ?_);refine dPc (.ptr 1000000 0) Z (dPc (.ptr 1000000 1) Z ?_);refine dPc (.p (eI S'.fat)) Z (dPc (.ptr 1000000 0) Z ?_);refine dPc (.ptr 1000000 0) Z (dPc (.ptr 1000000 3) Z ?_);refine dPc (.p (eI S'.H')) Z (dO (.p (eI (S'.fat+S'.H'))) [23,27] Z (λ _ sl UT K hK=>al Z (gJ Z Z Z (UT _ _ Z) (UT _ _ Z) Z WZ hK)) ?_);refine dO (.p (.agg (ab.cs r3))) [19,28] Z (λ _ sl UT K hK=>al Z (bQ (HP.c e4) Z Z Z (aG (UT _ _ Z) (aG (UT _ _ Z) bp)) ⟨iz ⟨.inl Z,.inl Z,.inl Z,.inr ⟨Z,Z⟩,.inr ⟨Z,Z⟩,trivial⟩,sr,trivial⟩ HE.e Z hK)) (dO (.p (eI (S'.Df.length:Int))) [14] Z (λ _ sl UT K hK=>al Z (pN (f:=ao) (l:=S'.Df) Z Z Z Z Z (UT _ _ Z) Z hK)) ?_);refine dO (.p (eL (λ x:PV=>x) [.agg uL])) [] Z (λ _ sl UT K hK=>al Z (bn (λ x:PV=>x) [.agg uL] Z Z Z Z Z Z (dz Z Z fp) Z Z Z Z Z Z Z hK)) (dI (by4 (.vecp 32 11 0 (S'.Df.map ao)) (.vecp 32 11 0 (S'.Df.map ao)) (.vec 32 11 0 (S'.Df.map ao++[.agg (ab.cs r3)])) (.vec 32 11 0 (S'.Df.map ao++[.agg (ab.cs r3)]))) [14,31] Z Nt ?_);refine pu (by4 (.elp 32 11) (.elp 32 11) .undef .undef) Z Z Z (Cn Z Z Z Y) (lt3 (nl Z) Y Y) (ga Z (ga Z (fX [(30,_),(32,_)] ⟨.inr ⟨19,_,Z,Z,Z⟩,.inr ⟨21,_,Z,Z,Z⟩,trivial⟩ q8 (ga Z j7)))) (kG [(29,_),(33,_)] Z ⟨.inr ⟨18,_,Z,Z,Z⟩,.inr ⟨22,_,Z,Z,Z⟩,trivial⟩ Z Kh ?_);refine dPc (.ptr 1000000 0) Z (dPc (.ptr 1000000 5) Z ?_);refine dS Z (xK (dPc (.ptr 1000000 0) Z (dPc (.ptr 1000000 0) Z (dPc (.ptr 1000000 5) Z (dP (by4 (.vec 900000 11 0 (S'.Df.map ao)) (.p (eL ao S'.Df)) (.p (eL ao S'.Df)) (.p (eL ao S'.Df))) Z (dPc (.ptr 1000000 0) Z (dPc (.ptr 1000000 0) Z (dPc (.ptr 1000000 4) Z (dPc (.p (eS S'.IN)) Z (dPc (.p (.agg [eI 3,eI 0,eS S'.IN,.val (.slice none 0 0),.val (.slice none 0 0)])) Z (dPc (.ptr 1000000 0) Z (dPc (.ptr 1000000 0) Z (dPc (.ptr 1000000 1) Z (dPc (.p (eI S'.fat)) Z (dPc (.ptr 1000000 0) Z (dPc (.ptr 1000000 0) Z (dPc (.ptr 1000000 3) Z (dPc (.p (eI S'.H')) Z (dO (.p (eI (S'.fat+S'.H'))) [23,27] Z (λ _ sl UT K hK=>al Z (gJ Z Z Z (UT _ _ Z) (UT _ _ Z) Z WZ hK)) (dO (.p (.agg (ab.cs r3))) [19,28] Z (λ _ sl UT K hK=>al Z (bQ (HP.c e4) Z Z Z (aG (UT _ _ Z) (aG (UT _ _ Z) bp)) ⟨iz ⟨.inl Z,.inl Z,.inl Z,.inr ⟨Z,Z⟩,.inr ⟨Z,Z⟩,trivial⟩,sr,trivial⟩ HE.e Z hK)) (dO (.p (eI (S'.Df.length:Int))) [14] Z (λ _ sl UT K hK=>al Z (pN (f:=ao) (l:=S'.Df) Z Z Z Z Z (UT _ _ Z) Z hK)) (dO (.p (eL (λ x:PV=>x) [.agg uL])) [] Z (λ _ sl UT K hK=>al Z (bn (λ x:PV=>x) [.agg uL] Z Z Z Z Z Z (dz Z Z fp) Z Z Z Z Z Z Z hK)) (dI (by4 (.vecp 32 11 0 (S'.Df.map ao)) (.vecp 32 11 0 (S'.Df.map ao)) (.vecp 32 11 0 (S'.Df.map ao)) (.vec 32 11 0 (S'.Df.map ao++[.agg (ab.cs r3)]))) [14,31] Z Nt (pu (by4 (.elp 32 11) (.elp 32 11) (.elp 32 11) .undef) Z Z Z (Cn Z Z Z Y) (lt3 (nl Z) Y Y) (ga Z (fX [(30,_),(32,_)] ⟨.inr ⟨19,_,Z,Z,Z⟩,.inr ⟨21,_,Z,Z,Z⟩,trivial⟩ q8 (fX [(30,_),(32,_)] ⟨.inr ⟨19,_,Z,Z,Z⟩,.inr ⟨21,_,Z,Z,Z⟩,trivial⟩ q8 (ga Z j7)))) (kG [(29,_),(33,_)] Z ⟨.inr ⟨18,_,Z,Z,Z⟩,.inr ⟨22,_,Z,Z,Z⟩,trivial⟩ Z Kh (dPc (.ptr 1000000 0) Z (dPc (.ptr 1000000 5) Z (dS Z (A8 Z ⟨Z,Z,trivial⟩ ⟨⟨Z,Z,.inr Z⟩,⟨⟨Z,Z,.inr Z⟩,⟨⟨Z,Z,.inr Z⟩,⟨⟨Z,Z,.inr Z⟩,⟨⟨Z,Z,.inr Z⟩,⟨⟨Z,Z,.inr Z⟩,⟨⟨Z,Z,.inr Z⟩,⟨⟨Z,Z,.inr Z⟩,⟨⟨Z,Z,.inr Z⟩,⟨⟨Z,Z,.inr Z⟩,⟨⟨Z,Z,.inr Z⟩,⟨⟨Z,Z,.inr Z⟩,⟨⟨Z,Z,.inr Z⟩,⟨⟨Z,Z,.inr Z⟩,⟨⟨Z,Z,.inr Z⟩,⟨⟨Z,Z,.inr Z⟩,⟨⟨Z,Z,.inr Z⟩,⟨⟨Z,Z,.inr Z⟩,⟨⟨Z,Z,.inr Z⟩,⟨⟨Z,Z,.inr Z⟩,⟨⟨Z,Z,.inr Z⟩,⟨⟨Z,Z,.inr Z⟩,⟨⟨Z,Z,.inr Z⟩,⟨⟨Z,Z,.inr Z⟩,⟨⟨Z,Z,.inr Z⟩,trivial⟩⟩⟩⟩⟩⟩⟩⟩⟩⟩⟩⟩⟩⟩⟩⟩⟩⟩⟩⟩⟩⟩⟩⟩⟩)))))))))))))))))))))))))))) ?_);refine mG (dZ (t:=⟨[(0,.ptr 1000000 0)],[(1000000,[.p (eS S'.fs),.p (eI S'.fat),.p (eI S'.fi),.p (eI S'.H'),.p (eS S'.IN),.vec 32 11 0 ((S'.Df++[r3]).map ao),.p (eB S'.L')])]⟩) (oh ⟨er Z,trivial⟩ ⟨⟨_,Z,⟨sr,sr,sr,sr,sr,AV.sub_of_eq Jx,sr,trivial⟩⟩,trivial⟩)) (nx 1 Z ?_);exact eX _ (oi h1).symm (aJ (aS 32 900000 Z Z Z Z Z) (gE Z Z))
 exact aB
def ed (Wj:Bk->Int->Option Int)(O':Bk):Nat->Int->Int->Option (Unit⊕Int)|0,_,_=>none|m+1,i18,depth19=>if i18<(O'.length:Int) then ck ((0:Int)<=i18/\i18<(O'.length:Int))<|jn (if byt O' i18=123 then ck (inR (depth19+1))<|some (.inl (i18,depth19+1))else if byt O' i18=125 then ck (inR (depth19-1))<|if depth19-1=0 then some (.inr (.inr i18))else some (.inl (i18,depth19-1))else if byt O' i18=34 then ck (inR (i18+1))<|(Wj O' (i18+1)).bind λ XM=>if XM<0 then some (.inr (.inr (-1)))else some (.inl (XM,depth19))else some (.inl (i18,depth19)) : Option ((Int×Int)⊕(Unit⊕Int))) λ q38=>ck (inR (q38.1+1))<|ed Wj O' m (q38.1+1) q38.2 else some (.inl ())
def eN (V6:Bk->Int->Option Int)(O':Bk):Nat->Int->Option (Unit⊕Int)|0,_=>none|m+1,i23=>if i23<(O'.length:Int) then jn (ck ((0:Int)<=i23/\i23<(O'.length:Int))<|if byt O' i23=34 then some (.inr (.inr i23))else ck ((0:Int)<=i23/\i23<(O'.length:Int))<|if byt O' i23=92 then ck (inR (i23+1))<|some (.inl (i23+1))else ck ((0:Int)<=i23/\i23<=(O'.length:Int)/\(O'.length:Int)<=(O'.length:Int))<|(strings_HasPrefix (sub O' i23 (O'.length:Int)) ([36,36,123]:Bk)).bind λ r31=>if r31=true then ck (inR (i23+2))<|some (.inl (i23+2))else ck ((0:Int)<=i23/\i23<=(O'.length:Int)/\(O'.length:Int)<=(O'.length:Int))<|(strings_HasPrefix (sub O' i23 (O'.length:Int)) ([36,123]:Bk)).bind λ r36=>if r36=true then ck (inR (i23+2))<|(V6 O' (i23+2)).bind λ Wy=>if Wy<0 then some (.inr (.inr (-1)))else some (.inl Wy)else some (.inl i23) : Option (Int⊕(Unit⊕Int))) λ i43=>ck (inR (i43+1))<|eN V6 O' m (i43+1)else some (.inl ())
mutual
def eh:Nat->Bk->Int->Option Int|0,_,_=>none|n+1,O',U3=>jn (ed (gC n) O' n U3 1) λ Zl=>some (-1)
def gC:Nat->Bk->Int->Option Int|0,_,_=>none|n+1,O',U3=>jn (eN (eh n) O' n U3) λ W3=>some (-1)
end
theorem u7 (n:Nat):xG (eh n) 228/\xG (gC n) 230:=by
 induction n with
 | zero=>exact Zr
 | succ n ih=>
 obtain ⟨_,_⟩:=ih;refine ⟨?_,?_⟩
 ·refine λ O' U3=>hP good Tryz.func228 Z Z λ r h0 _ w0=>?_;rw [eh] at h0;refine nx 10 rfl ?_;obtain ⟨o39,h1,Vp,hR0⟩:=bJ h0;refine kEx 0 (λ v40:Unit=>o39=.inl v40) (λ v40=>⟨[],[]⟩) (λ v40 hv=>?_) ?_
  ·exact eW
  refine lG (λ (Yy:Int×Int)=>⟨[(0,.p (eS O')),(1,.p (eI Yy.1)),(5,.p (eI Yy.2))],[]⟩) (λ m (Yy:Int×Int)=>ed (gC n) O' m Yy.1 Yy.2) Y (U3,1) h1 (gE rfl rfl) ?_;rintro m ⟨i18,depth19⟩ h1;replace h1:ed (gC n) O' (m+1) i18 depth19=some o39:=h1;rw [ed] at h1;refine nx 5 rfl (oLs rfl ?_);refine nx 2 rfl (fD [9] h1 rfl (λ c20 h1=>?_) λ c20 h1=>?_)
  ·refine nx 8 rfl (oI h1 rfl λ WF h1=>?_);refine nx 1 rfl ?_;obtain ⟨Yh,h2,hL1,hR1⟩:=bJ h1;refine kX (λ Xl:Int×Int=>Yh=.inl Xl) (λ Xl=>⟨[(0,.p (eS O')),(1,.p (eI Xl.1)),(5,.p (eI Xl.2))],[]⟩) (λ Xl hv=>?_) ?_
   ·have h1:=hL1 _ hv;exact aB
   exact dj
  exact aB
 ·refine λ O' U3=>hP good Tryz.func230 Z Z λ r h0 _ w0=>?_;rw [gC] at h0;refine nx 6 rfl ?_;obtain ⟨o48,h1,Vp,hR0⟩:=bJ h0;refine kEx 0 (λ ZD:Unit=>o48=.inl ZD) (λ ZD=>⟨[],[]⟩) (λ ZD hv=>?_) ?_
  ·exact eW
  refine lG (λ (q50:Int)=>⟨[(0,.p (eS O')),(1,.p (eI q50))],[]⟩) (λ m (q50:Int)=>eN (eh n) O' m q50) Y U3 h1 (gE rfl rfl) ?_;rintro m i23 h1;replace h1:eN (eh n) O' (m+1) i23=some o48:=h1;rw [eN] at h1;refine nx 5 rfl (oLs rfl ?_);refine nx 2 rfl (fD [8] h1 rfl (λ ZB h1=>?_) λ ZB h1=>?_)
  ·refine nx 4 rfl ?_;obtain ⟨o51,h2,hL1,hR1⟩:=bJ h1;refine kX (λ v52:Int=>o51=.inl v52) (λ v52=>⟨[(0,.p (eS O')),(1,.p (eI v52))],[]⟩) (λ v52 hv=>?_) ?_
   ·have h1:=hL1 _ hv;exact aB
   exact dj
  exact aB
instance IR (n:Nat):xG (eh n) 228:=(u7 n).1
def cr (O':Bk):Nat->Int->Option Int|0,_=>none|m+1,n10=>(if n10<(O'.length:Int) then if n10<6 then ck ((0:Int)<=n10/\n10<(O'.length:Int))<|(strings_IndexByte ([48,49,50,51,52,53,54,55,56,57,97,98,99,100,101,102]:Bk) (byt O' n10)).bind λ Vl=>some (decide (0<=Vl))else some false else some false).bind λ VX=>if VX=true then ck (inR (n10+1))<|cr O' m (n10+1)else some n10
def iY (n:Nat)(O':Bk):Option Int :=(cr O' n 0).bind λ n20=>some n20
instance Dp (n:Nat) (O':Bk):∀ (r:Int),HP (iY n O'=some r) Tryz.prog 231 [eS O'] (.p (eI r)):=by
 refine hP good Tryz.func231 Z Z λ r h0 _ w0=>?_;unfold iY at h0;refine nx 10 Z (bd h0 λ Xf h1 h0=>?_);refine kE 0 Xf (λ Xo=>⟨[(3,.p (eI Xo))],[]⟩) ?_ ?_
 ·exact J0
 refine lG (λ (XN:Int)=>⟨[(0,.p (eS O')),(3,.p (eI XN))],[]⟩) (λ m (XN:Int)=>cr O' m XN) Y 0 h1 (gE rfl rfl) ?_;rintro m n10 h1;replace h1:cr O' (m+1) n10=some Xf:=h1;rw [cr] at h1;have:=js [200];have:=jS 200 Bool λ v=>[(18,.p (eB v))]
 exact aB
def nw (n:Nat)(O':Bk):Option (Bk×Int×Int) :=jn ((strings_HasPrefix O' ([92,117]:Bk)).bind λ r1=>if r1=true then(if 2<(O'.length:Int) then ck ((0:Int)<=2/\2<(O'.length:Int))<|some (!decide (byt O' 2=123))else some false).bind λ t6=>if t6=true then some (.inr (([]:Bk),0,2))else if 3<(O'.length:Int) then ck ((0:Int)<=3/\3<=(O'.length:Int)/\(O'.length:Int)<=(O'.length:Int))<|(iY n (sub O' 3 (O'.length:Int))).bind λ Vg=>ck (inR (4+Vg))<|some (.inl (4+Vg))else some (.inl 4)else some (.inl 2) : Option (Int⊕(Bk×Int×Int))) λ n13=>if (O'.length:Int)<n13 then some (([]:Bk),0,40)else ck ((0:Int)<=0/\0<=n13/\n13<=(O'.length:Int))<|ck (([34]:Bk).length+(sub O' 0 n13).length<=9223372036854775807)<|ck ((([34]:Bk)++(sub O' 0 n13)).length+([34]:Bk).length<=9223372036854775807)<|(gW n ((([34]:Bk)++(sub O' 0 n13))++([34]:Bk))).bind λ Wt=>if Wt.2.2=0 then some (Wt.1,n13,0)else some (([]:Bk),0,2)
instance Mn (n:Nat) (O':Bk):∀ (r:Bk×Int×Int),HP (nw n O'=some r) Tryz.prog 229 [eS O'] (.tuple [.p (eS r.1),.p (eI r.2.1),.p (eI r.2.2)]):=by
 refine hP good Tryz.func229 Z Z λ r h0 _ w0=>?_;unfold nw at h0;refine nx 11 rfl ?_;obtain ⟨Xf,h1,Vp,hR0⟩:=bJ h0;refine kX (λ Xo:Int=>Xf=.inl Xo) (λ Xo=>⟨[(0,.p (eS O')),(5,.p (eI Xo))],[]⟩) (λ Xo hv=>?_) ?_
 ·exact eW
 have:=js [300];have:=jS 300 Bool λ v=>[(18,.p (eB v))]
 exact aB
def hH (n:Nat)(S':ay):Option (az×ay) :=ck ((0:Int)<=S'.fi/\S'.fi<=(S'.fs.length:Int)/\(S'.fs.length:Int)<=(S'.fs.length:Int))<|jn (ck ((0:Int)<=0/\0<((sub S'.fs S'.fi (S'.fs.length:Int)).length:Int))<|if byt (sub S'.fs S'.fi (S'.fs.length:Int)) 0=92 then(nw n (sub S'.fs S'.fi (S'.fs.length:Int))).bind λ r4=>if r4.2.2=0 then ck (S'.IN.length+r4.1.length<=9223372036854775807)<|ck (inR (S'.fi+r4.2.1))<|some (.inl (S'.fi+r4.2.1,S'.IN++r4.1))else ck (inR (S'.fat+S'.fi))<|some (.inr ((az.mk r4.2.2 (S'.fat+S'.fi) ([]:Bk)),(ay.mk S'.fs S'.fat S'.fi S'.H' S'.IN S'.Df S'.L')))else(bo (sub S'.fs S'.fi (S'.fs.length:Int))).bind λ Vg=>(if Vg.1=65533 then if Vg.2=1 then some true else if Vg.1<32 then some true else if Vg.1=127 then some true else some (decide (Vg.1=34))else if Vg.1<32 then some true else if Vg.1=127 then some true else some (decide (Vg.1=34))).bind λ Xm=>if Xm=true then ck (inR (S'.fat+S'.fi))<|some (.inr ((az.mk 2 (S'.fat+S'.fi) ([]:Bk)),(ay.mk S'.fs S'.fat S'.fi S'.H' S'.IN S'.Df S'.L')))else ck ((0:Int)<=0/\0<=Vg.2/\Vg.2<=((sub S'.fs S'.fi (S'.fs.length:Int)).length:Int))<|ck (S'.IN.length+(sub (sub S'.fs S'.fi (S'.fs.length:Int)) 0 Vg.2).length<=9223372036854775807)<|ck (inR (S'.fi+Vg.2))<|some (.inl (S'.fi+Vg.2,S'.IN++(sub (sub S'.fs S'.fi (S'.fs.length:Int)) 0 Vg.2))) : Option ((Int×Bk)⊕(az×ay))) λ Z9=>(ek (ay.mk S'.fs S'.fat Z9.1 S'.H' Z9.2 S'.Df S'.L')).bind λ VI=>some (VI.1,(ay.mk VI.2.fs VI.2.fat VI.2.fi VI.2.H' VI.2.IN VI.2.Df VI.2.L'))
instance Bl (n:Nat) (S':ay):∀ (r:az×ay),HO (hH n S'=some r) Tryz.prog 222 [.ptr 1000000 0] [(1000000,[.p (eS S'.fs),.p (eI S'.fat),.p (eI S'.fi),.p (eI S'.H'),.p (eS S'.IN),.vec 900000 11 0 (S'.Df.map ao),.p (eB S'.L')])] (.p (.agg (az.cs r.1))) ([(1000000,[.p (eS r.2.fs),.p (eI r.2.fat),.p (eI r.2.fi),.p (eI r.2.H'),.p (eS r.2.IN),.vec 2000000 11 0 (r.2.Df.map ao),.p (eB r.2.L')])]):=by
 refine hO good [800000] [1000000] Tryz.func222 Z Z λ r h0 _ w0 F=>?_;unfold hH at h0;refine nx 5 rfl (cc' h0 λ X7 h0=>?_);refine mD [(0,.ptr 1000000 0),(2,.ptr 2 0)] rfl ⟨rfl,rfl,trivial⟩ rfl (dR 8 rfl ?_);refine dq (.p (eS (sub S'.fs S'.fi (S'.fs.length:Int)))) [12,16] rfl (λ _ e _ q=>al rfl (gV (a:=S'.fs) (l:=S'.fi) (h:=(S'.fs.length:Int)) Z Z Z Z Z (e _ _ rfl) tQ rfl X7 q)) rfl (dR 1 rfl ?_);refine dE rfl (nx 2 rfl ?_);obtain ⟨ZN,h1,Vp,hR0⟩:=bJ h0;refine kX (λ Yo:Int×Bk=>ZN=.inl Yo) (λ Yo=>⟨[(0,.ptr 1000000 0),(2,.ptr 2 0)],[(2,lP),(1000000,[.p (eS S'.fs),.p (eI S'.fat),.p (eI Yo.1),.p (eI S'.H'),.p (eS Yo.2),.vec 900000 11 0 (S'.Df.map ao),.p (eB S'.L')])]⟩) (λ Yo hv=>?_) ?_
 ·have h0:=Vp _ hv;refine nx 4 Z (bd h0 λ VI e27 h0=>?_);refine mO Z (cVq [1000000] [900000] 101000 101001 (HO.c e27) HE.e Z ?_);exact nx 3 Z E3
 refine nx 3 Z (oI h1 Z λ WZ h1=>?_);refine nx 2 Z (fD [20] h1 Z (λ c3 h1=>?_) λ c3 h1=>?_)
 ·refine nx 4 Z (K1 λ r4 h1=>nx 14 Z ?_);refine fN [28] h1 Z (λ c6 h1=>?_) λ c6 h1=>?_
  ·exact aB
  refine nx 2 Z (cc' h1 λ hk7 h1=>?_);refine mG (gE (t:=⟨[(0,.ptr 1000000 0),(2,.ptr 2 0),(6,.p (eI r4.2.2))],[(2,lP),(1000000,[.p (eS S'.fs),.p (eI S'.fat),.p (eI S'.fi),.p (eI S'.H'),.p (eS S'.IN),.vec 900000 11 0 (S'.Df.map ao),.p (eB S'.L')])]⟩) Z Z) (mSq ⟨1,[11],(λ _=>.none),(λ _=>[(0,.ptr 1000000 0),(2,.ptr 2 0),(6,.p (eI r4.2.2))]),(ob2 ([(2,lP),(1000000,[.p (eS S'.fs),.p (eI S'.fat),.p (eI S'.fi),.p (eI S'.H'),.p (eS S'.IN),.vec 900000 11 0 (S'.Df.map ao),.p (eB S'.L')])]) (2,[.p (eI r4.2.2),.p (eI (S'.fat+S'.fi)),.p (eS ([]:Bk))]))⟩ Z ?_);refine dPc (.p (eI r4.2.2)) Z (dPc (.ptr 1000000 0) Z ?_);refine dPc (.ptr 1000000 0) Z (dPc (.ptr 1000000 1) Z ?_);refine dPc (.p (eI S'.fat)) Z (dPc (.ptr 1000000 0) Z ?_);refine dPc (.ptr 1000000 0) Z (dPc (.ptr 1000000 2) Z ?_);refine dPc (.p (eI S'.fi)) Z (dO (.p (eI (S'.fat+S'.fi))) [33,37] Z (λ _ sl UT K hK=>al Z (gJ Z Z Z (UT _ _ Z) (UT _ _ Z) Z hk7 hK)) ?_);refine dPc (.p (.agg [eI r4.2.2,eI (S'.fat+S'.fi),eS ([]:Bk)])) Z (dS Z ?_);refine d5 (nx 2 Z ?_);exact mQo (hR0 _ (oi h1).symm) (aJ (aS 900000 800000 Z Z Z Z Z) (aQ _)) Z Z Z Z (sr) ⟨⟨_,Z,⟨sr,sr,sr,sr,sr,sr,sr,trivial⟩⟩,trivial⟩
 refine nx 4 Z (bd h1 λ Vg XI h1=>?_);refine oK (eo (sub S'.fs S'.fi (S'.fs.length:Int)) _ XI) Z ⟨sr,trivial⟩ HE.e Z (nx 8 Z ?_);refine bd h1 λ XO h2 h1=>kN XO (λ ZT=>⟨[(0,.ptr 1000000 0),(2,.ptr 2 0),(3,.p (eS (sub S'.fs S'.fi (S'.fs.length:Int)))),(8,.p (eI Vg.2)),(78,.p (eB ZT))],[(2,lP),(1000000,[.p (eS S'.fs),.p (eI S'.fat),.p (eI S'.fi),.p (eI S'.H'),.p (eS S'.IN),.vec 900000 11 0 (S'.Df.map ao),.p (eB S'.L')])]⟩) ?_ ?_
 ·refine nx 1 Z (fB [78] h1 Z (λ Ya h1=>?_) λ Ya h1=>?_)
  ·refine nx 2 Z (cc' h1 λ WY h1=>?_);refine mG L9 (mSq ⟨1,[10],(λ _=>.none),(λ _=>[(0,.ptr 1000000 0),(2,.ptr 2 0)]),(ob2 ([(2,lP),(1000000,[.p (eS S'.fs),.p (eI S'.fat),.p (eI S'.fi),.p (eI S'.H'),.p (eS S'.IN),.vec 900000 11 0 (S'.Df.map ao),.p (eB S'.L')])]) (2,[.p (eI 2),.p (eI (S'.fat+S'.fi)),.p (eS ([]:Bk))]))⟩ Z ?_);refine dPc (.ptr 1000000 0) Z (dPc (.ptr 1000000 0) Z ?_);refine dPc (.ptr 1000000 1) Z (dPc (.p (eI S'.fat)) Z ?_);refine dPc (.ptr 1000000 0) Z (dPc (.ptr 1000000 0) Z ?_);refine dPc (.ptr 1000000 2) Z (dPc (.p (eI S'.fi)) Z ?_);refine dO (.p (eI (S'.fat+S'.fi))) [82,86] Z (λ _ sl UT K hK=>al Z (gJ Z Z Z (UT _ _ Z) (UT _ _ Z) Z WY hK)) (dPc (.p (.agg [eI 2,eI (S'.fat+S'.fi),eS ([]:Bk)])) Z ?_);refine dS Z (d5 ?_);exact nx 2 Z (mQo (hR0 _ (oi h1).symm) (aJ (aS 900000 800000 Z Z Z Z Z) (aQ _)) Z Z Z Z (sr) ⟨⟨_,Z,⟨sr,sr,sr,sr,sr,sr,sr,trivial⟩⟩,trivial⟩)
  refine nx 3 Z (cc' h1 λ WF h1=>?_);refine cc' h1 λ WE h1=>mG (gE (t:=⟨[(0,.ptr 1000000 0),(2,.ptr 2 0),(3,.p (eS (sub S'.fs S'.fi (S'.fs.length:Int)))),(8,.p (eI Vg.2))],[(2,lP),(1000000,[.p (eS S'.fs),.p (eI S'.fat),.p (eI S'.fi),.p (eI S'.H'),.p (eS S'.IN),.vec 900000 11 0 (S'.Df.map ao),.p (eB S'.L')])]⟩) Z Z) (mSq ⟨1,[10],(λ _=>.none),(λ _=>[(0,.ptr 1000000 0),(2,.ptr 2 0),(3,.p (eS (sub S'.fs S'.fi (S'.fs.length:Int)))),(8,.p (eI Vg.2))]),(ob2 ([(2,lP),(1000000,[.p (eS S'.fs),.p (eI S'.fat),.p (eI S'.fi),.p (eI S'.H'),.p (eS S'.IN),.vec 900000 11 0 (S'.Df.map ao),.p (eB S'.L')])]) (1000000,[.p (eS S'.fs),.p (eI S'.fat),.p (eI S'.fi),.p (eI S'.H'),.p (eS (S'.IN++(sub (sub S'.fs S'.fi (S'.fs.length:Int)) 0 Vg.2))),.vec 900000 11 0 (S'.Df.map ao),.p (eB S'.L')]))⟩ Z ?_);refine dPc (.ptr 1000000 0) Z (dPc (.ptr 1000000 0) Z ?_);refine dPc (.ptr 1000000 4) Z (dPc (.p (eS S'.IN)) Z ?_);refine dPc (.p (eS (sub S'.fs S'.fi (S'.fs.length:Int)))) Z (dPc (.p (eI Vg.2)) Z ?_);refine dO (.p (eS (sub (sub S'.fs S'.fi (S'.fs.length:Int)) 0 Vg.2))) [93,94] Z (λ _ sl UT K hK=>al Z (gV (a:=sub S'.fs S'.fi (S'.fs.length:Int)) (l:=0) (h:=Vg.2) Z Z Z Z Z (UT _ _ Z) Z yz WF hK)) (dO (.p (eS (S'.IN++(sub (sub S'.fs S'.fi (S'.fs.length:Int)) 0 Vg.2)))) [92,95] Z (λ _ sl UT K hK=>al Z (bV Z Z Z (UT _ _ Z) (UT _ _ Z) WE hK)) ?_);exact aB
 exact dj
def dr (n:Nat)(Sn:ah):Option ah :=(aX n Sn).bind λ r1=>ck (inR (r1.2.IT+1))<|some (ah.mk r1.2.fl r1.2.fat (r1.2.IT+1) r1.2.IS r1.2.AI)
instance Dq (n:Nat) (Sn:ah):∀ (r:ah),HO (dr n Sn=some r) Tryz.prog 163 [.ptr 1000000 0] [(1000000,((ah.cs Sn).map .p))] (.tuple []) ([(1000000,((ah.cs r).map .p))]):=by
 refine hO good [] [1000000] Tryz.func163 Z Z λ r h0 _ w0 F=>?_;unfold dr at h0;exact J0
def dW (n:Nat)(Sn:ah)(s_1:Bk):Option ah :=(bG n Sn s_1).bind λ r1=>if (!r1.1)=true then(bM n r1.2).bind λ r4=>(b7 r4.2 2 r4.1.fAt).bind λ r6=>some r6.2 else(aX n r1.2).bind λ r8=>some r8.2
instance DF (n:Nat):xT (dW n) 89:=by
 refine λ Sn s_1=>hO good [] [1000000] Tryz.func89 Z Z λ r h0 _ w0 F=>?_;unfold dW at h0;exact J0
def co (n:Nat)(Sn:ah)(s_1:Bk):Option ah :=(dW n Sn s_1).bind λ r1=>ck (inR (r1.IT-1))<|some (ah.mk r1.fl r1.fat (r1.IT-1) r1.IS r1.AI)
instance Cs (n:Nat):xT (co n) 164:=by
 refine λ Sn s_1=>hO good [] [1000000] Tryz.func164 Z Z λ r h0 _ w0 F=>?_;unfold co at h0;exact J0
def eu (n:Nat)(Sn:ah)(s_1:Bk):Option (Bool×ah) :=(bM n Sn).bind λ r1=>((bK r1.2).bind λ r3=>if (!r3.1)=true then if r1.1.Ar=1 then some (decide (r1.1.C'=s_1),r3.2.fl,r3.2.fat,r3.2.IT,r3.2.IS,r3.2.AI.Ar,r3.2.AI.fAt,r3.2.AI.AT)else some (false,r3.2.fl,r3.2.fat,r3.2.IT,r3.2.IS,r3.2.AI.Ar,r3.2.AI.fAt,r3.2.AI.AT)else some (false,r3.2.fl,r3.2.fat,r3.2.IT,r3.2.IS,r3.2.AI.Ar,r3.2.AI.fAt,r3.2.AI.AT)).bind λ Xe=>some (Xe.1,(ah.mk Xe.2.1 Xe.2.2.1 Xe.2.2.2.1 Xe.2.2.2.2.1 (az.mk Xe.2.2.2.2.2.1 Xe.2.2.2.2.2.2.1 Xe.2.2.2.2.2.2.2)))
instance DI (n:Nat) (Sn:ah) (s_1:Bk):∀ (r:Bool×ah),HO (eu n Sn s_1=some r) Tryz.prog 202 [.ptr 1000000 0,.p (eS s_1)] [(1000000,((ah.cs Sn).map .p))] (.p (eB r.1)) ([(1000000,((ah.cs r.2).map .p))]):=by
 refine hO good [] [1000000] Tryz.func202 Z Z λ r h0 _ w0 F=>?_;unfold eu at h0;exact MS
def et (n:Nat)(Sn:ah):Option (Bk×ah) :=(bM n Sn).bind λ r1=>((bK r1.2).bind λ r3=>if r3.1=true then some (true,r3.2.fl,r3.2.fat,r3.2.IT,r3.2.IS,r3.2.AI.Ar,r3.2.AI.fAt,r3.2.AI.AT)else if r1.1.Ar=1 then(gB r1.1.C').bind λ r7=>some (r7,r3.2.fl,r3.2.fat,r3.2.IT,r3.2.IS,r3.2.AI.Ar,r3.2.AI.fAt,r3.2.AI.AT)else some (true,r3.2.fl,r3.2.fat,r3.2.IT,r3.2.IS,r3.2.AI.Ar,r3.2.AI.fAt,r3.2.AI.AT)).bind λ Vw=>if Vw.1=true then(b7 (ah.mk Vw.2.1 Vw.2.2.1 Vw.2.2.2.1 Vw.2.2.2.2.1 (az.mk Vw.2.2.2.2.2.1 Vw.2.2.2.2.2.2.1 Vw.2.2.2.2.2.2.2)) 2 r1.1.fAt).bind λ Wt=>some (([]:Bk),Wt.2)else(aX n (ah.mk Vw.2.1 Vw.2.2.1 Vw.2.2.2.1 Vw.2.2.2.2.1 (az.mk Vw.2.2.2.2.2.1 Vw.2.2.2.2.2.2.1 Vw.2.2.2.2.2.2.2))).bind λ VH=>some (r1.1.C',VH.2)
instance yP (n:Nat) (Sn:ah):∀ (r:Bk×ah),HO (et n Sn=some r) Tryz.prog 211 [.ptr 1000000 0] [(1000000,((ah.cs Sn).map .p))] (.p (eS r.1)) ([(1000000,((ah.cs r.2).map .p))]):=by
 refine hO good [] [1000000] Tryz.func211 Z Z λ r h0 _ w0 F=>?_;unfold et at h0;have:=js [200];have:=jB 200 (Bool×List af×Int×Int×Int×Int×Int×Bk) (λ v=>[(17,.p (eB v.1))]) λ v=>[(1000000,(rp v.2))]
 exact J0
def gp (n:Nat)(Sn:ah)(s_1:Bk):Option ah :=(eu n Sn s_1).bind λ r1=>if (!r1.1)=true then(bM n r1.2).bind λ r4=>(b7 r4.2 2 r4.1.fAt).bind λ r6=>some r6.2 else(aX n r1.2).bind λ r8=>some r8.2
instance AF (n:Nat):xT (gp n) 212:=by
 refine λ Sn s_1=>hO good [] [1000000] Tryz.func212 Z Z λ r h0 _ w0 F=>?_;unfold gp at h0;exact J0
def cy (n:Nat)(l_1:List Bk):Nat->Int->(List af)->Int->Int->Int->Int->Int->Bk->Option (((List af)×Int×Int×Int×Int×Int×Bk)⊕(Bk×Bool×ah))|0,_,_,_,_,_,_,_,_=>none|m+1,t15,f16,XQ,f18,f19,f20,f21,f22=>if t15<(l_1.length:Int) then ck ((0:Int)<=t15/\t15<(l_1.length:Int))<|(bG n (ah.mk f16 XQ f18 f19 (az.mk f20 f21 f22)) (lat l_1 t15)).bind λ WR=>if WR.1=true then some (.inr (lat l_1 t15,true,WR.2))else ck (inR (t15+1))<|cy n l_1 m (t15+1) WR.2.fl WR.2.fat WR.2.IT WR.2.IS WR.2.AI.Ar WR.2.AI.fAt WR.2.AI.AT else some (.inl (f16,XQ,f18,f19,f20,f21,f22))
def iJ (n:Nat)(Sn:ah)(l_1:List Bk):Option (Bk×Bool×ah) :=jn (cy n l_1 n 0 Sn.fl Sn.fat Sn.IT Sn.IS Sn.AI.Ar Sn.AI.fAt Sn.AI.AT) λ Yx=>some (([]:Bk),false,(ah.mk Yx.1 Yx.2.1 Yx.2.2.1 Yx.2.2.2.1 (az.mk Yx.2.2.2.2.1 Yx.2.2.2.2.2.1 Yx.2.2.2.2.2.2)))
instance BF (n:Nat) (Sn:ah) (l_1:List Bk):∀ (r:Bk×Bool×ah),HO (iJ n Sn l_1=some r) Tryz.prog 115 [.ptr 1000000 0,.p (eL eS l_1)] [(1000000,((ah.cs Sn).map .p))] (.tuple [.p (eS r.1),.p (eB r.2.1)]) ([(1000000,((ah.cs r.2.2).map .p))]):=by
 refine hO good [] [1000000] Tryz.func115 Z Z λ r h0 _ w0 F=>?_;unfold iJ at h0;refine nx 9 rfl (oLl (f:=eS) Z Z ?_);refine nx 3 rfl ?_;obtain ⟨o45,h1,Vp,hR0⟩:=bJ h0;refine kEx 0 (λ v46:(List af)×Int×Int×Int×Int×Int×Bk=>o45=.inl v46) (λ v46=>⟨[],[(1000000,(rp v46))]⟩) (λ v46 hv=>?_) ?_
 ·exact eW
 refine lG (λ (WO:Int×(List af)×Int×Int×Int×Int×Int×Bk)=>⟨[(0,.ptr 1000000 0),(8,.p (eL eS l_1)),(9,.p (eI (l_1.length:Int))),(10,.p (eI WO.1))],[(1000000,(rp WO.2))]⟩) (λ m (WO:Int×(List af)×Int×Int×Int×Int×Int×Bk)=>cy n l_1 m WO.1 WO.2.1 WO.2.2.1 WO.2.2.2.1 WO.2.2.2.2.1 WO.2.2.2.2.2.1 WO.2.2.2.2.2.2.1 WO.2.2.2.2.2.2.2) Y (0,Sn.fl,Sn.fat,Sn.IT,Sn.IS,Sn.AI.Ar,Sn.AI.fAt,Sn.AI.AT) h1 (gE rfl rfl) ?_;rintro m ⟨t15,f16,XQ,f18,f19,f20,f21,f22⟩ h1;replace h1:cy n l_1 (m+1) t15 f16 XQ f18 f19 f20 f21 f22=some o45:=h1;rw [cy] at h1;exact aB
def mf (VV:Int):Option (List Bk) :=if VV=0 then some ([([124,124]:Bk)])else if VV=1 then some ([([38,38]:Bk)])else if VV=2 then some ([([61,61]:Bk),([33,61]:Bk)])else if VV=3 then some ([([60]:Bk),([60,61]:Bk),([62]:Bk),([62,61]:Bk)])else if VV=4 then some ([([43]:Bk),([45]:Bk)])else some ([([42]:Bk),([47]:Bk),([37]:Bk)])
instance Hl (VV:Int):∀ (r:(List Bk)),HP (mf VV=some r) Tryz.prog 116 [eI VV] (.p (eL eS r)):=by
 refine hP good Tryz.func116 Z Z λ r h0 _ w0=>?_;unfold mf at h0;refine nx 15 Z (fD [4,5] h0 Z (λ c1 h0=>?_) λ c1 h0=>?_)
 ·refine nx 3 Z (mO Z (bn eS [([124,124]:Bk)] Z Z Z Z Z Z Z Z Z Z Z Z Z Z ?_));exact J0
 refine nx 6 Z (fD [7,8] h0 Z (λ c2 h0=>?_) λ c2 h0=>?_)
 ·refine nx 3 Z (mO Z (bn eS [([38,38]:Bk)] Z Z Z Z Z Z Z Z Z Z Z Z Z Z ?_));exact J0
 refine nx 6 Z (fD [10,11] h0 Z (λ c3 h0=>?_) λ c3 h0=>?_)
 ·refine nx 3 Z (mO Z (bn eS [([61,61]:Bk),([33,61]:Bk)] Z Z Z Z Z Z Z Z Z Z Z Z Z Z ?_));exact J0
 refine nx 6 Z (fD [13,14] h0 Z (λ c4 h0=>?_) λ c4 h0=>?_)
 ·refine nx 3 Z (mO Z (bn eS [([60]:Bk),([60,61]:Bk),([62]:Bk),([62,61]:Bk)] Z Z Z Z Z Z Z Z Z Z Z Z Z Z ?_));exact J0
 refine nx 6 Z (fD [16,17] h0 Z (λ c5 h0=>?_) λ c5 h0=>?_)
 ·refine nx 3 Z (mO Z (bn eS [([43]:Bk),([45]:Bk)] Z Z Z Z Z Z Z Z Z Z Z Z Z Z ?_));exact J0
 refine nx 4 Z (mO Z (bn eS [([42]:Bk),([47]:Bk),([37]:Bk)] Z Z Z Z Z Z Z Z Z Z Z Z Z Z ?_));exact J0
def jp (O':Bk):Nat->Int->Option (Unit⊕Int)|0,_=>none|m+1,t7=>if t7<13 then ck ((0:Int)<=t7/\t7<13)<|if lat ([([124,124]:Bk),([38,38]:Bk),([61,61]:Bk),([33,61]:Bk),([60]:Bk),([60,61]:Bk),([62]:Bk),([62,61]:Bk),([43]:Bk),([45]:Bk),([42]:Bk),([47]:Bk),([37]:Bk)]:List Bk) t7=O' then ck (inR (3+t7))<|some (.inr (3+t7))else ck (inR (t7+1))<|jp O' m (t7+1)else some (.inl ())
def uq (n:Nat)(O':Bk):Option Int :=jn (jp O' n 0) λ q14=>some 0
instance SQ (n:Nat) (O':Bk):∀ (r:Int),HP (uq n O'=some r) Tryz.prog 117 [eS O'] (.p (eI r)):=by
 refine hP good Tryz.func117 Z Z λ r h0 _ w0=>?_;unfold uq at h0;refine nx 11 rfl ?_;obtain ⟨o15,h1,Vp,hR0⟩:=bJ h0;refine kEx 0 (λ v16:Unit=>o15=.inl v16) (λ v16=>⟨[],[]⟩) (λ v16 hv=>?_) ?_
 ·exact eW
 refine lG (λ (q17:Int)=>⟨[(0,.p (eS O')),(5,.p (.agg [eS ([124,124]:Bk),eS ([38,38]:Bk),eS ([61,61]:Bk),eS ([33,61]:Bk),eS ([60]:Bk),eS ([60,61]:Bk),eS ([62]:Bk),eS ([62,61]:Bk),eS ([43]:Bk),eS ([45]:Bk),eS ([42]:Bk),eS ([47]:Bk),eS ([37]:Bk)])),(6,.p (eI q17))],[]⟩) (λ m (q17:Int)=>jp O' m q17) Y 0 h1 (gE rfl rfl) ?_;rintro m t7 h1;replace h1:jp O' (m+1) t7=some o15:=h1;rw [jp] at h1;refine nx 5 rfl (fD [7] h1 rfl (λ c8 h1=>?_) λ c8 h1=>?_)
 ·refine nx 7 Z (cc' h1 λ Yk h1=>?_);refine mO Z (yS eS ([([124,124]:Bk),([38,38]:Bk),([61,61]:Bk),([33,61]:Bk),([60]:Bk),([60,61]:Bk),([62]:Bk),([62,61]:Bk),([43]:Bk),([45]:Bk),([42]:Bk),([47]:Bk),([37]:Bk)]:List Bk) Z Z Z Z Z Z Z Z Z Z Z (by have:=Yk; simp only [aq,List.length_nil]; omega) ?_);exact aB
 exact aB
theorem JO (h:p:=by exact λ sl UT K hK=>al Z (yw ao r1.Df Z Z Z Z Z Z Z Z (UT _ _ Z) Z Z (UT _ _ Z) Z Z Z Z Z Ww hK)):p:=h
theorem JK (h:p:=by exact mQo (hR0 _ (hR1 _ (oi h2).symm).symm) (aQ _) Z Z Z Z (sr) ⟨⟨_,Z,⟨sr,sr,sr,sr,sr,sr,sr,trivial⟩⟩,trivial⟩):p:=h
theorem MR (h:p:=by exact λ sl UT K hK=>al Z (EC (z:=.agg (ab.cs Vk.1)) Z Z Z Z (UT _ _ Z) (UT _ _ Z) Z Z Z Z Z hK)):p:=h
set_option maxRecDepth 4000
abbrev lV (F:ah->Option (ab×ah))(k:Nat):Prop:=∀ (a0:ah) (r:ab×ah),HO (F a0=some r) Tryz.prog k [.ptr 1000000 0] [(1000000,((ah.cs a0).map .p))] (.p (.agg (ab.cs r.1))) ([(1000000,((ah.cs r.2).map .p))])
abbrev xd (F:Bk->Int->Option (ab×az))(k:Nat):Prop:=∀ (a0:Bk) (a1:Int) (r:ab×az),HP (F a0 a1=some r) Tryz.prog k [eS a0,eI a1] (.tuple [.p (.agg (ab.cs r.1)),.p (.agg (az.cs r.2))])
abbrev BW (F:ay->Option (az×ay))(k:Nat):Prop:=∀ (a0:ay) (r:az×ay),HO (F a0=some r) Tryz.prog k [.ptr 1000000 0] [(1000000,[.p (eS a0.fs),.p (eI a0.fat),.p (eI a0.fi),.p (eI a0.H'),.p (eS a0.IN),.vec 900000 11 0 (a0.Df.map ao),.p (eB a0.L')])] (.p (.agg (az.cs r.1))) ([(1000000,[.p (eS r.2.fs),.p (eI r.2.fat),.p (eI r.2.fi),.p (eI r.2.H'),.p (eS r.2.IN),.vec 2000000 11 0 (r.2.Df.map ao),.p (eB r.2.L')])])
abbrev LC (v:Int×Int×Bk×Bk×Int×Int×Bk×List ag×List Bk×List ab×Int):List AV:=[.p (eI v.1),.p (eI v.2.1),.p (eS v.2.2.1),.p (eS v.2.2.2.1),.p (eI v.2.2.2.2.1),.p (eI v.2.2.2.2.2.1),.p (eS v.2.2.2.2.2.2.1),.p (eL cn v.2.2.2.2.2.2.2.1),.p (eL eS v.2.2.2.2.2.2.2.2.1),.p (eL ao v.2.2.2.2.2.2.2.2.2.1),.p (eI v.2.2.2.2.2.2.2.2.2.2)]
abbrev gg (v:List af×Int×Int×Int×Int×Int×Bk):List AV:=[.p (eL aE v.1),.p (eI v.2.1),.p (eI v.2.2.1),.p (eI v.2.2.2.1),.p (eI v.2.2.2.2.1),.p (eI v.2.2.2.2.2.1),.p (eS v.2.2.2.2.2.2)]
abbrev d9 (a0 a1 a2 a3 a4:AV):List AV:=[a0,.p (eI 0),a1,a2,.p (eI 0),.p (eI 0),.p (eS ([]:Bk)),.p (.val (.slice none 0 0)),.p (.val (.slice none 0 0)),a3,a4]
abbrev qD (a0 a1 a2 a3:AV):List AV:=[a0,.p (eI 0),a1,a2,.p (eI 0),.p (eI 0),.p (eS ([]:Bk)),.p (.val (.slice none 0 0)),.p (.val (.slice none 0 0)),.p (.val (.slice none 0 0)),a3]
abbrev bR:List AV:=[.p (eI 0),.p (eI 0),.p (eS ([]:Bk)),.p (eS ([]:Bk)),.p (eI 0),.p (eI 0),.p (eS ([]:Bk)),.p (.val (.slice none 0 0)),.p (.val (.slice none 0 0)),.p (.val (.slice none 0 0)),.p (eI 0)]
abbrev rL:List PV:=[eI 0,eI 0,eS ([]:Bk),eS ([]:Bk),eI 0,eI 0,eS ([]:Bk),.val (.slice none 0 0),.val (.slice none 0 0),.val (.slice none 0 0),eI 0]
abbrev cS:List AV:=[.p (eI 0),.p (eI 0),.p (eS ([]:Bk))]
def cq (n:Nat)(Vj:ay->Option (az×ay)):Nat->Bk->Int->Int->Int->Bk->(List ab)->Bool->Option ((Bk×Int×Int×Int×Bk×(List ab)×Bool)⊕(az×ay))|0,_,_,_,_,_,_,_=>none|m+1,V3,V9,VW,VL,Wx,VY,WB=>if VW<(V3.length:Int) then ck ((0:Int)<=VW/\VW<=(V3.length:Int)/\(V3.length:Int)<=(V3.length:Int))<|((strings_HasPrefix (sub V3 VW (V3.length:Int)) ([36,36,123]:Bk)).bind λ XL=>if XL=true then ck (Wx.length+([36,123]:Bk).length<=9223372036854775807)<|ck (inR (VW+3))<|(ek (ay.mk V3 V9 (VW+3) VL (Wx++([36,123]:Bk)) VY WB)).bind λ Wa=>some (Wa.1.Ar,Wa.1.fAt,Wa.1.AT,Wa.2.fs,Wa.2.fat,Wa.2.fi,Wa.2.H',Wa.2.IN,Wa.2.Df,Wa.2.L')else(strings_HasPrefix (sub V3 VW (V3.length:Int)) ([36,123]:Bk)).bind λ VO=>if VO=true then(Vj (ay.mk V3 V9 VW VL Wx VY WB)).bind λ WJ=>some (WJ.1.Ar,WJ.1.fAt,WJ.1.AT,WJ.2.fs,WJ.2.fat,WJ.2.fi,WJ.2.H',WJ.2.IN,WJ.2.Df,WJ.2.L')else(hH n (ay.mk V3 V9 VW VL Wx VY WB)).bind λ W2=>some (W2.1.Ar,W2.1.fAt,W2.1.AT,W2.2.fs,W2.2.fat,W2.2.fi,W2.2.H',W2.2.IN,W2.2.Df,W2.2.L')).bind λ Wz=>if Wz.1=0 then cq n Vj m Wz.2.2.2.1 Wz.2.2.2.2.1 Wz.2.2.2.2.2.1 Wz.2.2.2.2.2.2.1 Wz.2.2.2.2.2.2.2.1 Wz.2.2.2.2.2.2.2.2.1 Wz.2.2.2.2.2.2.2.2.2 else some (.inr ((az.mk Wz.1 Wz.2.1 Wz.2.2.1),(ay.mk Wz.2.2.2.1 Wz.2.2.2.2.1 Wz.2.2.2.2.2.1 Wz.2.2.2.2.2.2.1 Wz.2.2.2.2.2.2.2.1 Wz.2.2.2.2.2.2.2.2.1 Wz.2.2.2.2.2.2.2.2.2)))else some (.inl (V3,V9,VW,VL,Wx,VY,WB))
def cF (n:Nat)(VF:ah->Int->Option (ab×ah))(UU:Int)(r5:ab×ah):Nat->Int->Int->Bk->Bk->Int->Int->Bk->(List ag)->(List Bk)->(List ab)->(List af)->Int->Int->Int->Int->Int->Bk->Option (((List af)×Int×Int×Int×Int×Int×Bk)⊕(ab×ah))|0,_,_,_,_,_,_,_,_,_,_,_,_,_,_,_,_,_=>none|m+1,V9,VW,VL,Wx,VY,WB,Xz,Xy,Ym,Yl,f46,f47,f48,f49,f50,YS,YR=>(mf UU).bind λ V'=>(iJ n (ah.mk f46 f47 f48 f49 (az.mk f50 YS YR)) V').bind λ Xc=>if (!Xc.2.1)=true then some (.inr ((ab.mk V9 VW VL Wx (ag.mk VY WB Xz Xy Ym) Yl r5.1.fAt),Xc.2.2))else(aX n Xc.2.2).bind λ Wr=>ck (inR (UU+1))<|(VF Wr.2 (UU+1)).bind λ VN=>(uq n Xc.1).bind λ Xh=>cF n VF UU r5 m 7 Xh ([]:Bk) ([]:Bk) 0 0 ([]:Bk) [] [] [(ab.mk V9 VW VL Wx (ag.mk VY WB Xz Xy Ym) Yl r5.1.fAt),VN.1] VN.2.fl VN.2.fat VN.2.IT VN.2.IS VN.2.AI.Ar VN.2.AI.fAt VN.2.AI.AT
def cw (n:Nat)(U1:ah->Option (ab×ah))(r1:ab×ah):Nat->Int->Int->Bk->Bk->Int->Int->Bk->(List ag)->(List Bk)->(List ab)->(List af)->Int->Int->Int->Int->Int->Bk->Option (((List af)×Int×Int×Int×Int×Int×Bk)⊕(ab×ah))|0,_,_,_,_,_,_,_,_,_,_,_,_,_,_,_,_,_=>none|m+1,YS,YR,f53,f54,f55,f56,f57,f58,f59,f60,f61,f62,f63,f64,f65,f66,f67=>jn ((bG n (ah.mk f61 f62 f63 f64 (az.mk f65 f66 f67)) ([46]:Bk)).bind λ Z2=>if Z2.1=true then(aX n Z2.2).bind λ r71=>(bM n r71.2).bind λ Xn=>if Xn.1.Ar=1 then(aX n Xn.2).bind λ ZF=>some (.inl (4,Xn.1.C',[(ab.mk YS YR f53 f54 (ag.mk f55 f56 f57 f58 f59) f60 r1.1.fAt)],ZF.2.fl,ZF.2.fat,ZF.2.IT,ZF.2.IS,ZF.2.AI.Ar,ZF.2.AI.fAt,ZF.2.AI.AT))else(b7 Xn.2 2 Xn.1.fAt).bind λ r76=>some (.inr (.inr (r76.1,r76.2)))else(bG n Z2.2 ([91]:Bk)).bind λ r80=>if r80.1=true then(dr n r80.2).bind λ r83=>(U1 r83).bind λ r85=>(co n r85.2 ([93]:Bk)).bind λ ZE=>some (.inl (5,([]:Bk),[(ab.mk YS YR f53 f54 (ag.mk f55 f56 f57 f58 f59) f60 r1.1.fAt),r85.1],ZE.fl,ZE.fat,ZE.IT,ZE.IS,ZE.AI.Ar,ZE.AI.fAt,ZE.AI.AT))else some (.inr (.inr ((ab.mk YS YR f53 f54 (ag.mk f55 f56 f57 f58 f59) f60 r1.1.fAt),r80.2))) : Option ((Int×Bk×(List ab)×(List af)×Int×Int×Int×Int×Int×Bk)⊕(((List af)×Int×Int×Int×Int×Int×Bk)⊕(ab×ah)))) λ W4=>cw n U1 r1 m W4.1 0 W4.2.1 ([]:Bk) 0 0 ([]:Bk) [] [] W4.2.2.1 W4.2.2.2.1 W4.2.2.2.2.1 W4.2.2.2.2.2.1 W4.2.2.2.2.2.2.1 W4.2.2.2.2.2.2.2.1 W4.2.2.2.2.2.2.2.2.1 W4.2.2.2.2.2.2.2.2.2
def dx (n:Nat)(U1:ah->Option (ab×ah))(end_1:Bk):Nat->(List ab)->(List af)->Int->Int->Int->Int->Int->Bk->Option ((List ab)×(List af)×Int×Int×Int×Int×Int×Bk)|0,_,_,_,_,_,_,_,_=>none|m+1,VK,XA,f33,f34,V3,V9,VW,VL=>((bK (ah.mk XA f33 f34 V3 (az.mk V9 VW VL))).bind λ Yd=>if (!Yd.1)=true then(bG n Yd.2 end_1).bind λ V2=>some (!V2.1,V2.2.fl,V2.2.fat,V2.2.IT,V2.2.IS,V2.2.AI.Ar,V2.2.AI.fAt,V2.2.AI.AT)else some (false,Yd.2.fl,Yd.2.fat,Yd.2.IT,Yd.2.IS,Yd.2.AI.Ar,Yd.2.AI.fAt,Yd.2.AI.AT)).bind λ WN=>if WN.1=true then(U1 (ah.mk WN.2.1 WN.2.2.1 WN.2.2.2.1 WN.2.2.2.2.1 (az.mk WN.2.2.2.2.2.1 WN.2.2.2.2.2.2.1 WN.2.2.2.2.2.2.2))).bind λ V'=>ck ((VK.length+[V'.1].length)*160<=140737488355328)<|(bG n V'.2 ([44]:Bk)).bind λ W2=>if (!W2.1)=true then some (VK++[V'.1],W2.2.fl,W2.2.fat,W2.2.IT,W2.2.IS,W2.2.AI.Ar,W2.2.AI.fAt,W2.2.AI.AT)else(aX n W2.2).bind λ Z4=>dx n U1 end_1 m (VK++[V'.1]) Z4.2.fl Z4.2.fat Z4.2.IT Z4.2.IS Z4.2.AI.Ar Z4.2.AI.fAt Z4.2.AI.AT else some (VK,WN.2.1,WN.2.2.1,WN.2.2.2.1,WN.2.2.2.2.1,WN.2.2.2.2.2.1,WN.2.2.2.2.2.2.1,WN.2.2.2.2.2.2.2)
def cx (n:Nat)(U1:ah->Option (ab×ah))(VS:ah->Option (ab×ah)):Nat->(List ab)->(List af)->Int->Int->Int->Int->Int->Bk->Option ((List ab)×(List af)×Int×Int×Int×Int×Int×Bk)|0,_,_,_,_,_,_,_,_=>none|m+1,Wk,VW,VL,Wx,VY,WB,Xz,Xy=>((bK (ah.mk VW VL Wx VY (az.mk WB Xz Xy))).bind λ XL=>if (!XL.1)=true then(bG n XL.2 ([125]:Bk)).bind λ ZG=>some (!ZG.1,ZG.2.fl,ZG.2.fat,ZG.2.IT,ZG.2.IS,ZG.2.AI.Ar,ZG.2.AI.fAt,ZG.2.AI.AT)else some (false,XL.2.fl,XL.2.fat,XL.2.IT,XL.2.IS,XL.2.AI.Ar,XL.2.AI.fAt,XL.2.AI.AT)).bind λ WW=>if WW.1=true then(VS (ah.mk WW.2.1 WW.2.2.1 WW.2.2.2.1 WW.2.2.2.2.1 (az.mk WW.2.2.2.2.2.1 WW.2.2.2.2.2.2.1 WW.2.2.2.2.2.2.2))).bind λ Wr=>ck ((Wk.length+[Wr.1].length)*160<=140737488355328)<|(dW n Wr.2 ([61]:Bk)).bind λ VN=>(U1 VN).bind λ Xh=>ck (((Wk++[Wr.1]).length+[Xh.1].length)*160<=140737488355328)<|(bG n Xh.2 ([44]:Bk)).bind λ WI=>if (!WI.1)=true then some ((Wk++[Wr.1])++[Xh.1],WI.2.fl,WI.2.fat,WI.2.IT,WI.2.IS,WI.2.AI.Ar,WI.2.AI.fAt,WI.2.AI.AT)else(aX n WI.2).bind λ Z1=>cx n U1 VS m ((Wk++[Wr.1])++[Xh.1]) Z1.2.fl Z1.2.fat Z1.2.IT Z1.2.IS Z1.2.AI.Ar Z1.2.AI.fAt Z1.2.AI.AT else some (Wk,WW.2.1,WW.2.2.1,WW.2.2.2.1,WW.2.2.2.2.1,WW.2.2.2.2.2.1,WW.2.2.2.2.2.2.1,WW.2.2.2.2.2.2.2)
mutual
def jF:Nat->Bk->Int->Option (ab×az)|0,_,_=>none|n+1,O',U'=>((jw n) (ay.mk O' U' 0 0 ([]:Bk) [] false)).bind λ r1=>if r1.1.Ar=0 then(iE (ag.mk 3 0 r1.2.IN [] []) U').bind λ r4=>(if r1.2.L'=true then(fm (ay.mk r1.2.fs r1.2.fat r1.2.fi r1.2.H' r1.2.IN r1.2.Df r1.2.L')).bind λ r7=>some (2,0,([]:Bk),([]:Bk),0,0,([]:Bk),[],[],r7.Df,U')else some (r4.Ar,r4.fOp,r4.AT,r4.It,r4.BY.Ar,r4.BY.G',r4.BY.D',r4.BY.Gw,r4.BY.F',r4.A',r4.fAt)).bind λ Vw=>(jg n (ab.mk Vw.1 Vw.2.1 Vw.2.2.1 Vw.2.2.2.1 (ag.mk Vw.2.2.2.2.1 Vw.2.2.2.2.2.1 Vw.2.2.2.2.2.2.1 Vw.2.2.2.2.2.2.2.1 Vw.2.2.2.2.2.2.2.2.1) Vw.2.2.2.2.2.2.2.2.2.1 Vw.2.2.2.2.2.2.2.2.2.2) r1.1).bind λ VH=>some (VH.1,VH.2)else some ((ab.mk 0 0 ([]:Bk) ([]:Bk) (ag.mk 0 0 ([]:Bk) [] []) [] 0),r1.1)
def jr:Nat->Bk->Int->Option (ab×az)|0,_,_=>none|n+1,O',base_1=>(mU n O').bind λ r1=>if r1.2.Ar=0 then((aO n) (ah.mk r1.1 0 1 base_1 (az.mk 0 0 ([]:Bk)))).bind λ r5=>((bM n r5.2).bind λ r7=>if r7.1.Ar=6 then some (r7.2.fl,r7.2.fat,r7.2.IT,r7.2.IS,r7.2.AI.Ar,r7.2.AI.fAt,r7.2.AI.AT)else(b7 r7.2 2 r7.1.fAt).bind λ Vg=>some (Vg.2.fl,Vg.2.fat,Vg.2.IT,Vg.2.IS,Vg.2.AI.Ar,Vg.2.AI.fAt,Vg.2.AI.AT)).bind λ YA=>some (r5.1,(az.mk YA.2.2.2.2.1 YA.2.2.2.2.2.1 YA.2.2.2.2.2.2))else ck (inR (base_1+r1.2.fAt))<|some ((ab.mk 0 0 ([]:Bk) ([]:Bk) (ag.mk 0 0 ([]:Bk) [] []) [] 0),(az.mk r1.2.Ar (base_1+r1.2.fAt) ([]:Bk)))
def jw:Nat->ay->Option (az×ay)|0,_=>none|n+1,S'=>jn (cq n (bm n) n S'.fs S'.fat S'.fi S'.H' S'.IN S'.Df S'.L') λ Z6=>some ((az.mk 0 0 ([]:Bk)),(ay.mk Z6.1 Z6.2.1 Z6.2.2.1 Z6.2.2.2.1 Z6.2.2.2.2.1 Z6.2.2.2.2.2.1 Z6.2.2.2.2.2.2))
def aO:Nat->ah->Option (ab×ah)|0,_=>none|n+1,Sn=>((ca n) Sn 0).bind λ r1=>(bG n r1.2 ([63]:Bk)).bind λ r3=>if (!r3.1)=true then some (r1.1,r3.2)else(aX n r3.2).bind λ r6=>((aO n) r6.2).bind λ r8=>(dW n r8.2 ([58]:Bk)).bind λ Vg=>((aO n) Vg).bind λ Vk=>some ((ab.mk 8 0 ([]:Bk) ([]:Bk) (ag.mk 0 0 ([]:Bk) [] []) [r1.1,r8.1,Vk.1] r1.1.fAt),Vk.2)
def bm:Nat->ay->Option (az×ay)|0,_=>none|n+1,S'=>(fm (ay.mk S'.fs S'.fat S'.fi S'.H' S'.IN S'.Df S'.L')).bind λ r1=>ck (inR (r1.fi+2))<|(eh n r1.fs (r1.fi+2)).bind λ r4=>if r4<0 then ck (inR (r1.fat+r1.fi))<|some ((az.mk 40 (r1.fat+r1.fi) ([]:Bk)),(ay.mk r1.fs r1.fat r1.fi r1.H' r1.IN r1.Df true))else ck (inR (r1.fi+2))<|ck ((0:Int)<=r1.fi+2/\r1.fi+2<=r4/\r4<=(r1.fs.length:Int))<|ck (inR (r1.fat+r1.fi))<|ck (inR ((r1.fat+r1.fi)+2))<|((jr n) (sub r1.fs (r1.fi+2) r4) ((r1.fat+r1.fi)+2)).bind λ Vk=>if Vk.2.Ar=0 then ck ((r1.Df.length+1)*160<=140737488355328)<|ck (inR (r4+1))<|some ((az.mk 0 0 ([]:Bk)),(ay.mk r1.fs r1.fat (r4+1) (r4+1) r1.IN (r1.Df++[Vk.1]) true))else some (Vk.2,(ay.mk r1.fs r1.fat r1.fi r1.H' r1.IN r1.Df true))
def ca:Nat->ah->Int->Option (ab×ah)|0,_,_=>none|n+1,Sn,UU=>if 5<UU then((eH n) Sn).bind λ r2=>some (r2.1,r2.2)else ck (inR (UU+1))<|((ca n) Sn (UU+1)).bind λ r5=>jn (cF n (ca n) UU r5 n r5.1.Ar r5.1.fOp r5.1.AT r5.1.It r5.1.BY.Ar r5.1.BY.G' r5.1.BY.D' r5.1.BY.Gw r5.1.BY.F' r5.1.A' r5.2.fl r5.2.fat r5.2.IT r5.2.IS r5.2.AI.Ar r5.2.AI.fAt r5.2.AI.AT) λ q89=>none
def eH:Nat->ah->Option (ab×ah)|0,_=>none|n+1,Sn=>((bG n Sn ([33]:Bk)).bind λ r1=>if r1.1=true then some (1,r1.2.fl,r1.2.fat,r1.2.IT,r1.2.IS,r1.2.AI.Ar,r1.2.AI.fAt,r1.2.AI.AT)else(bG n r1.2 ([45]:Bk)).bind λ r4=>if r4.1=true then some (2,r4.2.fl,r4.2.fat,r4.2.IT,r4.2.IS,r4.2.AI.Ar,r4.2.AI.fAt,r4.2.AI.AT)else some (0,r4.2.fl,r4.2.fat,r4.2.IT,r4.2.IS,r4.2.AI.Ar,r4.2.AI.fAt,r4.2.AI.AT)).bind λ Vw=>if Vw.1=0 then((gq n) (ah.mk Vw.2.1 Vw.2.2.1 Vw.2.2.2.1 Vw.2.2.2.2.1 (az.mk Vw.2.2.2.2.2.1 Vw.2.2.2.2.2.2.1 Vw.2.2.2.2.2.2.2))).bind λ WL=>some (WL.1,WL.2)else(aX n (ah.mk Vw.2.1 Vw.2.2.1 Vw.2.2.2.1 Vw.2.2.2.2.1 (az.mk Vw.2.2.2.2.2.1 Vw.2.2.2.2.2.2.1 Vw.2.2.2.2.2.2.2))).bind λ Wt=>((eH n) Wt.2).bind λ VH=>some ((ab.mk 6 Vw.1 ([]:Bk) ([]:Bk) (ag.mk 0 0 ([]:Bk) [] []) [VH.1] Wt.1.fAt),VH.2)
def gq:Nat->ah->Option (ab×ah)|0,_=>none|n+1,Sn=>((fo n) Sn).bind λ r1=>jn (cw n (aO n) r1 n r1.1.Ar r1.1.fOp r1.1.AT r1.1.It r1.1.BY.Ar r1.1.BY.G' r1.1.BY.D' r1.1.BY.Gw r1.1.BY.F' r1.1.A' r1.2.fl r1.2.fat r1.2.IT r1.2.IS r1.2.AI.Ar r1.2.AI.fAt r1.2.AI.AT) λ q123=>none
def fo:Nat->ah->Option (ab×ah)|0,_=>none|n+1,Sn=>(bK Sn).bind λ r1=>if r1.1=true then some ((ab.mk 0 0 ([]:Bk) ([]:Bk) (ag.mk 0 0 ([]:Bk) [] []) [] 0),r1.2)else(bM n r1.2).bind λ r4=>if r4.1.Ar=2 then(mn n r4.1.C').bind λ r7=>if r7.2=0 then(aX n r4.2).bind λ Vk=>(iE (ag.mk 2 r7.1 ([]:Bk) [] []) r4.1.fAt).bind λ Vl=>some (Vl,Vk.2)else(b7 r4.2 r7.2 r4.1.fAt).bind λ Vg=>some (Vg.1,Vg.2)else if r4.1.Ar=3 then((fJ n) r4.2).bind λ Vq=>some (Vq.1,Vq.2)else if r4.1.Ar=1 then((gT n) r4.2).bind λ VH=>some (VH.1,VH.2)else if r4.1.Ar=4 then((iG n) r4.2).bind λ VC=>some (VC.1,VC.2)else(b7 r4.2 2 r4.1.fAt).bind λ WR=>some (WR.1,WR.2)
def fJ:Nat->ah->Option (ab×ah)|0,_=>none|n+1,Sn=>(bM n Sn).bind λ r1=>ck (inR (r1.1.fAt+1))<|((jF n) r1.1.C' (r1.1.fAt+1)).bind λ r4=>if r4.2.Ar=0 then(aX n r1.2).bind λ r9=>some ((ab.mk r4.1.Ar r4.1.fOp r4.1.AT r4.1.It r4.1.BY r4.1.A' r1.1.fAt),r9.2)else(b7 r1.2 r4.2.Ar r4.2.fAt).bind λ r7=>some (r7.1,r7.2)
def gT:Nat->ah->Option (ab×ah)|0,_=>none|n+1,Sn=>(bM n Sn).bind λ r1=>if r1.1.C'=([110,117,108,108]:Bk) then(aX n r1.2).bind λ r4=>(iE (ag.mk 0 0 ([]:Bk) [] []) r1.1.fAt).bind λ r6=>some (r6,r4.2)else(if r1.1.C'=([116,114,117,101]:Bk) then some true else some (decide (r1.1.C'=([102,97,108,115,101]:Bk)))).bind λ t9=>if t9=true then(aX n r1.2).bind λ WV=>(if r1.1.C'=([116,114,117,101]:Bk) then some 1 else some 0).bind λ X8=>(iE (ag.mk 1 X8 ([]:Bk) [] []) r1.1.fAt).bind λ U2=>some (U2,WV.2)else(gB r1.1.C').bind λ Vq=>if Vq=true then(b7 r1.2 2 r1.1.fAt).bind λ VH=>some (VH.1,VH.2)else(aX n r1.2).bind λ WK=>(bG n WK.2 ([40]:Bk)).bind λ Y2=>if (!Y2.1)=true then some ((ab.mk 3 0 r1.1.C' ([]:Bk) (ag.mk 0 0 ([]:Bk) [] []) [] r1.1.fAt),Y2.2)else(dr n Y2.2).bind λ Y1=>((gU n) Y1 ([41]:Bk)).bind λ XM=>(co n XM.2 ([41]:Bk)).bind λ r31=>some ((ab.mk 9 0 r1.1.C' ([]:Bk) (ag.mk 0 0 ([]:Bk) [] []) XM.1 r1.1.fAt),r31)
def iG:Nat->ah->Option (ab×ah)|0,_=>none|n+1,Sn=>(bM n Sn).bind λ r1=>if r1.1.C'=([40]:Bk) then(dr n r1.2).bind λ r4=>((aO n) r4).bind λ r6=>(co n r6.2 ([41]:Bk)).bind λ r8=>some (r6.1,r8)else if r1.1.C'=([91]:Bk) then(dr n r1.2).bind λ WV=>(eu n WV ([102,111,114]:Bk)).bind λ Ye=>if Ye.1=true then((fO n) Ye.2 r1.1.fAt 12).bind λ WL=>some (WL.1,WL.2)else((gU n) Ye.2 ([93]:Bk)).bind λ Wt=>(co n Wt.2 ([93]:Bk)).bind λ VH=>some ((ab.mk 10 0 ([]:Bk) ([]:Bk) (ag.mk 0 0 ([]:Bk) [] []) Wt.1 r1.1.fAt),VH)else if r1.1.C'=([123]:Bk) then(dr n r1.2).bind λ VC=>(eu n VC ([102,111,114]:Bk)).bind λ WR=>if WR.1=true then((fO n) WR.2 r1.1.fAt 13).bind λ VP=>some (VP.1,VP.2)else((gk n) WR.2).bind λ W0=>(co n W0.2 ([125]:Bk)).bind λ WU=>some ((ab.mk 11 0 ([]:Bk) ([]:Bk) (ag.mk 0 0 ([]:Bk) [] []) W0.1 r1.1.fAt),WU)else(b7 r1.2 2 r1.1.fAt).bind λ Vd=>some (Vd.1,Vd.2)
def gU:Nat->ah->Bk->Option ((List ab)×ah)|0,_,_=>none|n+1,Sn,end_1=>(dx n (aO n) end_1 n [] Sn.fl Sn.fat Sn.IT Sn.IS Sn.AI.Ar Sn.AI.fAt Sn.AI.AT).bind λ ZH=>some (ZH.1,(ah.mk ZH.2.1 ZH.2.2.1 ZH.2.2.2.1 ZH.2.2.2.2.1 (az.mk ZH.2.2.2.2.2.1 ZH.2.2.2.2.2.2.1 ZH.2.2.2.2.2.2.2)))
def fO:Nat->ah->Int->Int->Option (ab×ah)|0,_,_,_=>none|n+1,Sn,U',k_2=>(aX n Sn).bind λ r1=>(et n r1.2).bind λ r3=>((bG n r3.2 ([44]:Bk)).bind λ r5=>if r5.1=true then(aX n r5.2).bind λ r8=>(et n r8.2).bind λ Vg=>some (Vg.1,r3.1,Vg.2.fl,Vg.2.fat,Vg.2.IT,Vg.2.IS,Vg.2.AI.Ar,Vg.2.AI.fAt,Vg.2.AI.AT)else some (r3.1,([]:Bk),r5.2.fl,r5.2.fat,r5.2.IT,r5.2.IS,r5.2.AI.Ar,r5.2.AI.fAt,r5.2.AI.AT)).bind λ Zj=>(gp n (ah.mk Zj.2.2.1 Zj.2.2.2.1 Zj.2.2.2.2.1 Zj.2.2.2.2.2.1 (az.mk Zj.2.2.2.2.2.2.1 Zj.2.2.2.2.2.2.2.1 Zj.2.2.2.2.2.2.2.2)) ([105,110]:Bk)).bind λ U8=>((aO n) U8).bind λ VC=>ck ([VC.1].length*160<=140737488355328)<|(dW n VC.2 ([58]:Bk)).bind λ VI=>((aO n) VI).bind λ VP=>ck (([VC.1].length+[VP.1].length)*160<=140737488355328)<|(if k_2=13 then(dW n VP.2 ([61,62]:Bk)).bind λ WU=>((aO n) WU).bind λ Vd=>ck ((([VC.1]++[VP.1]).length+[Vd.1].length)*160<=140737488355328)<|some (([125]:Bk),([VC.1]++[VP.1])++[Vd.1],Vd.2.fl,Vd.2.fat,Vd.2.IT,Vd.2.IS,Vd.2.AI.Ar,Vd.2.AI.fAt,Vd.2.AI.AT)else some (([93]:Bk),[VC.1]++[VP.1],VP.2.fl,VP.2.fat,VP.2.IT,VP.2.IS,VP.2.AI.Ar,VP.2.AI.fAt,VP.2.AI.AT)).bind λ Yf=>((eu n (ah.mk Yf.2.2.1 Yf.2.2.2.1 Yf.2.2.2.2.1 Yf.2.2.2.2.2.1 (az.mk Yf.2.2.2.2.2.2.1 Yf.2.2.2.2.2.2.2.1 Yf.2.2.2.2.2.2.2.2)) ([105,102]:Bk)).bind λ YZ=>if YZ.1=true then(aX n YZ.2).bind λ Wa=>((aO n) Wa.2).bind λ VO=>ck ((Yf.2.1.length+[VO.1].length)*160<=140737488355328)<|some (Yf.2.1++[VO.1],VO.2.fl,VO.2.fat,VO.2.IT,VO.2.IS,VO.2.AI.Ar,VO.2.AI.fAt,VO.2.AI.AT)else some (Yf.2.1,YZ.2.fl,YZ.2.fat,YZ.2.IT,YZ.2.IS,YZ.2.AI.Ar,YZ.2.AI.fAt,YZ.2.AI.AT)).bind λ ZI=>(co n (ah.mk ZI.2.1 ZI.2.2.1 ZI.2.2.2.1 ZI.2.2.2.2.1 (az.mk ZI.2.2.2.2.2.1 ZI.2.2.2.2.2.2.1 ZI.2.2.2.2.2.2.2)) Yf.1).bind λ r62=>some ((ab.mk k_2 0 Zj.1 Zj.2.1 (ag.mk 0 0 ([]:Bk) [] []) ZI.1 U'),r62)
def gk:Nat->ah->Option ((List ab)×ah)|0,_=>none|n+1,Sn=>(cx n (aO n) (dN n) n [] Sn.fl Sn.fat Sn.IT Sn.IS Sn.AI.Ar Sn.AI.fAt Sn.AI.AT).bind λ WS=>some (WS.1,(ah.mk WS.2.1 WS.2.2.1 WS.2.2.2.1 WS.2.2.2.2.1 (az.mk WS.2.2.2.2.2.1 WS.2.2.2.2.2.2.1 WS.2.2.2.2.2.2.2)))
def dN:Nat->ah->Option (ab×ah)|0,_=>none|n+1,Sn=>(bM n Sn).bind λ r1=>if r1.1.Ar=1 then(aX n r1.2).bind λ r4=>(iE (ag.mk 3 0 r1.1.C' [] []) r1.1.fAt).bind λ r6=>some (r6,r4.2)else if r1.1.Ar=3 then((fJ n) r1.2).bind λ r9=>some (r9.1,r9.2)else(bG n r1.2 ([40]:Bk)).bind λ WV=>if WV.1=true then(dr n WV.2).bind λ Vl=>((aO n) Vl).bind λ WL=>(co n WL.2 ([41]:Bk)).bind λ Wt=>some (WL.1,Wt)else(b7 WV.2 2 r1.1.fAt).bind λ VH=>some (VH.1,VH.2)
end
theorem pR (n:Nat):xd (jF n) 200/\xd (jr n) 31/\BW (jw n) 209/\lV (aO n) 59/\BW (bm n) 221/\(∀ (Sn:ah) (UU:Int) (r:ab×ah),HO (ca n Sn UU=some r) Tryz.prog 86 [.ptr 1000000 0,.p (eI UU)] [(1000000,((ah.cs Sn).map .p))] (.p (.agg (ab.cs r.1))) ([(1000000,((ah.cs r.2).map .p))]))/\lV (eH n) 114/\lV (gq n) 141/\lV (fo n) 162/\lV (fJ n) 186/\lV (gT n) 187/\lV (iG n) 188/\(∀ (Sn:ah) (end_1:Bk) (r:(List ab)×ah),HO (gU n Sn end_1=some r) Tryz.prog 201 [.ptr 1000000 0,.p (eS end_1)] [(1000000,((ah.cs Sn).map .p))] (.p (eL ao r.1)) ([(1000000,((ah.cs r.2).map .p))]))/\(∀ (Sn:ah) (U':Int) (k_2:Int) (r:ab×ah),HO (fO n Sn U' k_2=some r) Tryz.prog 203 [.ptr 1000000 0,.p (eI U'),.p (eI k_2)] [(1000000,((ah.cs Sn).map .p))] (.p (.agg (ab.cs r.1))) ([(1000000,((ah.cs r.2).map .p))]))/\(∀ (Sn:ah) (r:(List ab)×ah),HO (gk n Sn=some r) Tryz.prog 204 [.ptr 1000000 0] [(1000000,((ah.cs Sn).map .p))] (.p (eL ao r.1)) ([(1000000,((ah.cs r.2).map .p))]))/\lV (dN n) 213:=by
 induction n with
 | zero=>exact Zr
 | succ n ih=>
 obtain ⟨_,_,_,_,_,_,_,_,_,_,_,_,_,_,_,_⟩:=ih;refine ⟨?_,?_,?_,?_,?_,?_,?_,?_,?_,?_,?_,?_,?_,?_,?_,?_⟩
 ·refine λ O' U'=>hP good Tryz.func200 Z Z λ r h0 _ w0=>?_;rw [jF] at h0;refine nx 16 Z (bd h0 λ r1 e2 h0=>?_);refine mO Z (bq [12] [890000] 101000 101001 (HO.c e2) Z Z Z Z Z ⟨sr,trivial⟩ Z Z ⟨⟨_,Z,⟨sr,sr,sr,sr,sr,AV.sub_nilvec _ _ _,sr,trivial⟩⟩,trivial⟩ Z Z Z Z Z Z Z Z HE.e Z Z ?_);refine nx 10 Z (fN [17] h0 Z (λ c3 h0=>?_) λ c3 h0=>?_)
  ·refine nx 10 Z (bd h0 λ r4 e5 h0=>?_);refine oK (HP.c e5) Z ⟨iz ⟨.inl Z,.inl Z,.inl Z,.inr ⟨Z,Z⟩,.inr ⟨Z,Z⟩,trivial⟩,sr,trivial⟩ HE.e Z (nx 4 Z ?_);refine bd h0 λ Xf h1 h0=>kN Xf (λ Xo=>⟨[(4,.ptr 4 0),(5,.ptr 5 0),(7,.ptr 7 0),(8,.ptr 8 0)],[(4,bR),(5,cS),(7,(az.cs r1.1).map .p),(8,(LC Xo))]⟩) ?_ ?_
   ·exact J0
   refine nx 7 Z (fB [30] h1 Z (λ c6 h1=>?_) λ c6 h1=>?_)
   ·refine nx 4 Z (bd h1 λ r7 e8 h1=>?_);refine mO Z (cVq [12] [101000] 102000 102001 (HO.c e8) HE.e Z ?_);exact aB
   exact aB
  exact J0
 ·refine λ O' base_1=>hP good Tryz.func31 Z Z λ r h0 _ w0=>?_;rw [jr] at h0;refine nx 8 Z (bd h0 λ r1 e2 h0=>?_);refine oK (HP.c e2) Z ⟨sr,trivial⟩ HE.e Z (nx 14 Z ?_);refine fN [18] h0 Z (λ c3 h0=>?_) λ c3 h0=>?_
  ·have:=js [601];have:=jO 601 (List af×Int×Int×Int×Int×Int×Bk) λ v=>[(30,(gg v))]
   exact J0
  refine nx 2 Z (cc' h0 λ XP h0=>?_);refine mG (gE (t:=⟨[(1,.p (eI base_1)),(4,.ptr 4 0),(5,.ptr 5 0),(7,.ptr 7 0)],[(4,bR),(5,cS),(7,(az.cs r1.2).map .p)]⟩) Z Z) (mSq ⟨2,[8,9],(λ _=>.none),(λ _=>[(1,.p (eI base_1)),(4,.ptr 4 0),(5,.ptr 5 0),(7,.ptr 7 0)]),(ob3 ([(4,bR),(5,cS),(7,((az.cs r1.2).map .p))]) (4,bR) (5,[.p (eI r1.2.Ar),.p (eI (base_1+r1.2.fAt)),.p (eS ([]:Bk))]))⟩ Z ?_);refine dPc (.p (.agg rL)) Z (dPc (.ptr 7 0) Z ?_);refine dPc (.p (eI r1.2.Ar)) Z (dPc (.p (eI base_1)) Z ?_);refine dPc (.ptr 7 1) Z (dPc (.p (eI r1.2.fAt)) Z ?_);refine dO (.p (eI (base_1+r1.2.fAt))) [22,24] Z (λ _ sl UT K hK=>al Z (gJ Z Z Z (UT _ _ Z) (UT _ _ Z) Z XP hK)) (dPc (.p (.agg [eI r1.2.Ar,eI (base_1+r1.2.fAt),eS ([]:Bk)])) Z ?_);exact J0
 ·refine λ S'=>hO good [800000] [1000000] Tryz.func209 Z Z λ r h0 _ w0 F=>?_;rw [jw] at h0;refine nx 6 rfl ?_;obtain ⟨o85,h1,Vp,hR0⟩:=bJ h0;refine kEx 0 (λ XJ:Bk×Int×Int×Int×Bk×(List ab)×Bool=>o85=.inl XJ) (λ XJ=>⟨[(2,.ptr 2 0)],[(2,cS),(1000000,[.p (eS XJ.1),.p (eI XJ.2.1),.p (eI XJ.2.2.1),.p (eI XJ.2.2.2.1),.p (eS XJ.2.2.2.2.1),.vec 900000 11 0 (XJ.2.2.2.2.2.1.map ao),.p (eB XJ.2.2.2.2.2.2)])]⟩) (λ XJ hv=>?_) ?_
  ·have h0:=Vp _ hv;exact nx 7 Z D9
  refine lG (λ (WS:Bk×Int×Int×Int×Bk×(List ab)×Bool)=>⟨[(0,.ptr 1000000 0),(2,.ptr 2 0)],[(2,cS),(1000000,[.p (eS WS.1),.p (eI WS.2.1),.p (eI WS.2.2.1),.p (eI WS.2.2.2.1),.p (eS WS.2.2.2.2.1),.vec 900000 11 0 (WS.2.2.2.2.2.1.map ao),.p (eB WS.2.2.2.2.2.2)])]⟩) (λ m (WS:Bk×Int×Int×Int×Bk×(List ab)×Bool)=>cq n (bm n) m WS.1 WS.2.1 WS.2.2.1 WS.2.2.2.1 WS.2.2.2.2.1 WS.2.2.2.2.2.1 WS.2.2.2.2.2.2) Y (S'.fs,S'.fat,S'.fi,S'.H',S'.IN,S'.Df,S'.L') h1 (gE rfl rfl) ?_;rintro m ⟨V3,V9,VW,VL,Wx,VY,WB⟩ h1;replace h1:cq n (bm n) (m+1) V3 V9 VW VL Wx VY WB=some o85:=h1;rw [cq] at h1;refine nx 2 rfl (mD [(0,.ptr 1000000 0),(2,.ptr 2 0)] rfl ⟨rfl,rfl,trivial⟩ rfl ?_);refine dR 8 rfl (dq (.p (eI (V3.length:Int))) [12] rfl (λ _ e _ q=>al rfl (uN rfl rfl rfl rfl rfl (e _ _ rfl) q)) rfl ?_);refine dR 1 rfl (dE rfl ?_);refine nx 1 rfl (fD [14] h1 rfl (λ c42 h1=>?_) λ c42 h1=>?_)
  ·refine nx 9 Z (cc' h1 λ hk43 h1=>?_);refine mD [(0,.ptr 1000000 0),(2,.ptr 2 0),(3,.ptr 3 0)] Z ⟨Z,Z,Z,trivial⟩ Z (dR 8 Z ?_);refine dq (.p (eS (sub V3 VW (V3.length:Int)))) [18,22] Z (λ _ e _ q=>al Z (gV (a:=V3) (l:=VW) (h:=(V3.length:Int)) Z Z Z Z Z (e _ _ Z) tQ Z hk43 q)) Z (dR 1 Z ?_);refine dE Z (nx 1 Z ?_);refine bd h1 λ ZJ h2 h1=>kN ZJ (λ YW=>⟨[(0,.ptr 1000000 0),(2,.ptr 2 0),(3,.ptr 3 0)],[(2,cS),(3,[.p (eI YW.1),.p (eI YW.2.1),.p (eS YW.2.2.1)]),(1000000,[.p (eS YW.2.2.2.1),.p (eI YW.2.2.2.2.1),.p (eI YW.2.2.2.2.2.1),.p (eI YW.2.2.2.2.2.2.1),.p (eS YW.2.2.2.2.2.2.2.1),.vec 106000 11 0 (YW.2.2.2.2.2.2.2.2.1.map ao),.p (eB YW.2.2.2.2.2.2.2.2.2)])]⟩) ?_ ?_
   ·refine nx 7 Z (fN [52] h1 Z (λ c68 h1=>?_) λ c68 h1=>?_)
    ·exact nx 2 Z (eX (ZJ.2.2.2.1,ZJ.2.2.2.2.1,ZJ.2.2.2.2.2.1,ZJ.2.2.2.2.2.2.1,ZJ.2.2.2.2.2.2.2.1,ZJ.2.2.2.2.2.2.2.2.1,ZJ.2.2.2.2.2.2.2.2.2) h1 (aJ (aS 106000 900000 Z Z Z Z Z) (gE Z Z)))
    exact nx 7 Z (mQo (hR0 _ (oi h1).symm) (aJ (aS 106000 800000 Z Z Z Z Z) (aQ _)) Z Z Z Z (sr) ⟨⟨_,Z,⟨sr,sr,sr,sr,sr,sr,sr,trivial⟩⟩,trivial⟩)
   refine nx 4 Z (bd h2 λ XL e45 h2=>?_);refine oK (dJ (sub V3 VW (V3.length:Int)) ([36,36,123]:Bk) _ e45) Z ⟨sr,sr,trivial⟩ HE.e Z (nx 2 Z ?_);refine fB [26,28] h2 Z (λ c46 h2=>?_) λ c46 h2=>?_
   ·refine nx 7 Z (oC h2 Z λ YO h2=>?_);refine nx 10 Z (oA h2 Z Z λ XD h2=>?_);refine nx 4 Z (mG (gE (t:=⟨[(0,.ptr 1000000 0),(2,.ptr 2 0),(3,.ptr 3 0)],[(2,cS),(3,cS),(1000000,[.p (eS V3),.p (eI V9),.p (eI (VW+3)),.p (eI VL),.p (eS (Wx++([36,123]:Bk))),.vec 900000 11 0 (VY.map ao),.p (eB WB)])]⟩) Z Z) ?_);refine nx 2 Z (bd h2 λ Wa e50 h2=>?_);refine mO Z (cVq [1000000] [900000] 104000 104001 (HO.c e50) HE.e Z ?_);exact nx 2 Z (eX _ (oi h2).symm (aJ (aS 104000 106000 Z Z Z Z Z) (gE Z Z)))
   refine nx 4 Z (bd h2 λ VO e52 h2=>?_);refine oK (dJ (sub V3 VW (V3.length:Int)) ([36,123]:Bk) _ e52) Z ⟨sr,sr,trivial⟩ HE.e Z (nx 2 Z ?_);refine fB [45,47] h2 Z (λ c53 h2=>?_) λ c53 h2=>?_
   ·refine nx 3 Z (bd h2 λ WJ e55 h2=>?_);refine mO Z (cVq [1000000] [900000] 105000 105001 (HO.c e55) HE.e Z ?_);exact nx 2 Z (eX _ (oi h2).symm (aJ (aS 105000 106000 Z Z Z Z Z) (gE Z Z)))
   refine nx 3 Z (bd h2 λ W2 e57 h2=>?_);refine mO Z (cVq [1000000] [900000] 106000 106001 (HO.c e57) HE.e Z ?_);exact dj
  exact aB
 ·refine λ Sn=>hO good [] [1000000] Tryz.func59 Z Z λ r h0 _ w0 F=>?_;rw [aO] at h0;refine nx 7 Z (bd h0 λ r1 e2 h0=>?_);refine mO Z (cVq [1000000] [] 101000 101000 (HO.c e2) HE.e Z ?_);refine nx 7 Z (bd h0 λ r3 e4 h0=>?_);refine mO Z (cVq [1000000] [] 102000 102000 (HO.c e4) HE.e Z ?_);refine nx 2 Z (fB [10] h0 Z (λ c5 h0=>?_) λ c5 h0=>?_)
  ·exact J0
  refine nx 5 Z (K0 λ r6 h0=>?_);refine nx 4 Z (K0 λ r8 h0=>?_);refine nx 6 Z (K0 λ Vg h0=>?_);refine nx 4 Z (bd h0 λ Vk Y9 h0=>?_);refine mO Z (cVq [1000000] [] 106000 106000 (HO.c Y9) HE.e Z ?_);refine nx 8 Z (mO Z (bn ao [r1.1,r8.1,Vk.1] Z Z Z Z Z Z Z Z Z Z Z Z Z kw ?_));exact J0
 ·refine λ S'=>hO good [800000] [1000000] Tryz.func221 Z Z λ r h0 _ w0 F=>?_;rw [bm] at h0;refine nx 7 Z (bd h0 λ r1 e2 h0=>?_);refine mO Z (cVq [1000000] [900000] 101000 101001 (HO.c e2) HE.e Z ?_);refine nx 9 Z (cc' h0 λ Xt h0=>?_);refine bd h0 λ r4 e5 h0=>mD [(0,.ptr 1000000 0),(2,.ptr 2 0)] Z ⟨Z,Z,trivial⟩ Z (dR 8 Z ?_);refine dq (.p (eI (r1.fi+2))) [18] Z (λ _ e _ q=>al Z (gJ Z Z Z (e _ _ Z) Z Z Xt q)) Z (dq (.p (eI r4)) [14,19] Z (λ _ e _ q=>al Z (bQ (HP.c e5) Z Z Z (aG (e _ _ Z) (aG (e _ _ Z) bp)) ⟨sr,sr,trivial⟩ HE.e Z q)) Z ?_);refine dR 1 Z (dE Z ?_);refine nx 7 Z (fD [22] h0 Z (λ c6 h0=>?_) λ c6 h0=>?_)
  ·refine nx 2 Z (cc' h0 λ hk7 h0=>?_);refine mG (gE (t:=⟨[(0,.ptr 1000000 0),(2,.ptr 2 0)],[(2,cS),(1000000,[.p (eS r1.fs),.p (eI r1.fat),.p (eI r1.fi),.p (eI r1.H'),.p (eS r1.IN),.vec 101000 11 0 (r1.Df.map ao),.p (eB true)])]⟩) Z Z) (mSq ⟨1,[10],(λ _=>.none),(λ _=>[(0,.ptr 1000000 0),(2,.ptr 2 0)]),(ob2 ([(2,cS),(1000000,[.p (eS r1.fs),.p (eI r1.fat),.p (eI r1.fi),.p (eI r1.H'),.p (eS r1.IN),.vec 101000 11 0 (r1.Df.map ao),.p (eB true)])]) (2,[.p (eI 40),.p (eI (r1.fat+r1.fi)),.p (eS ([]:Bk))]))⟩ Z ?_);refine dPc (.ptr 1000000 0) Z (dPc (.ptr 1000000 0) Z ?_);refine dPc (.ptr 1000000 1) Z (dPc (.p (eI r1.fat)) Z ?_);refine dPc (.ptr 1000000 0) Z (dPc (.ptr 1000000 0) Z ?_);refine dPc (.ptr 1000000 2) Z (dPc (.p (eI r1.fi)) Z ?_);refine dO (.p (eI (r1.fat+r1.fi))) [26,30] Z (λ _ sl UT K hK=>al Z (gJ Z Z Z (UT _ _ Z) (UT _ _ Z) Z hk7 hK)) (dPc (.p (.agg [eI 40,eI (r1.fat+r1.fi),eS ([]:Bk)])) Z ?_);refine dS Z (d5 ?_);exact nx 2 Z E3
  refine nx 3 Z (cc' h0 λ hk8 h0=>?_);refine cc' h0 λ Yk h0=>cc' h0 λ Wb h0=>cc' h0 λ WP h0=>bd h0 λ Vk Y9 h0=>mG (gE (t:=⟨[(0,.ptr 1000000 0),(2,.ptr 2 0),(3,.p (eI r4))],[(2,cS),(1000000,[.p (eS r1.fs),.p (eI r1.fat),.p (eI r1.fi),.p (eI r1.H'),.p (eS r1.IN),.vec 101000 11 0 (r1.Df.map ao),.p (eB true)])]⟩) Z Z) (mSS ⟨4,[25,26,27,28],(by5 (.some λ i=>Nat.beq i 4) (.some λ i=>Nat.beq i 5) .none .none .none),(λ _=>[(0,.ptr 1000000 0),(2,.ptr 2 0),(3,.p (eI r4))]),(ob5 ([(2,cS),(1000000,[.p (eS r1.fs),.p (eI r1.fat),.p (eI r1.fi),.p (eI r1.H'),.p (eS r1.IN),.vec 101000 11 0 (r1.Df.map ao),.p (eB true)])]) (4,bR) (5,cS) (4,((ab.cs Vk.1).map .p)) (5,((az.cs Vk.2).map .p)))⟩ ⟨4,[26,25,27,28],(by5 (.some λ i=>Nat.beq i 5) (.some λ i=>Nat.beq i 4) .none .none .none),(λ _=>[(0,.ptr 1000000 0),(2,.ptr 2 0),(3,.p (eI r4))]),(ob5 ([(2,cS),(1000000,[.p (eS r1.fs),.p (eI r1.fat),.p (eI r1.fi),.p (eI r1.H'),.p (eS r1.IN),.vec 101000 11 0 (r1.Df.map ao),.p (eB true)])]) (5,cS) (4,bR) (4,((ab.cs Vk.1).map .p)) (5,((az.cs Vk.2).map .p)))⟩ Z Z Z Z Z Z Z ⟨Z,Z,Z,trivial⟩ Z (lt4 ⟨Z,Z,Z,trivial⟩ ⟨Z,Z,Z,trivial⟩ ⟨Z,Z,Z,trivial⟩ ⟨Z,Z,Z,trivial⟩) (lt4 ⟨Z,Z,Z,trivial⟩ ⟨Z,Z,Z,trivial⟩ ⟨Z,Z,Z,trivial⟩ ⟨Z,Z,Z,trivial⟩) Z Z Z Z Z ?_);refine dPc (.ptr 1000000 0) Z (dPc (.ptr 1000000 0) Z ?_);refine dPc (.ptr 1000000 0) Z (dPc (.p (eS r1.fs)) Z ?_);refine dPc (.ptr 1000000 0) Z (dPc (.ptr 1000000 0) Z ?_);refine dPc (.ptr 1000000 2) Z (dPc (.p (eI r1.fi)) Z ?_);refine dO (.p (eI (r1.fi+2))) [41] Z (λ _ sl UT K hK=>al Z (gJ Z Z Z (UT _ _ Z) Z Z hk8 hK)) (dPc (.p (eI r4)) Z ?_);refine dO (.p (eS (sub r1.fs (r1.fi+2) r4))) [37,42,43] Z (λ _ sl UT K hK=>al Z (gV (a:=r1.fs) (l:=r1.fi+2) (h:=r4) Z Z Z Z Z (UT _ _ Z) xk yz Yk hK)) (dPc (.ptr 1000000 0) Z ?_);refine dPc (.ptr 1000000 0) Z (dPc (.ptr 1000000 1) Z ?_);refine dPc (.p (eI r1.fat)) Z (dPc (.ptr 1000000 0) Z ?_);refine dPc (.ptr 1000000 0) Z (dPc (.ptr 1000000 2) Z ?_);refine dPc (.p (eI r1.fi)) Z (dO (.p (eI (r1.fat+r1.fi))) [48,52] Z (λ _ sl UT K hK=>al Z (gJ Z Z Z (UT _ _ Z) (UT _ _ Z) Z Wb hK)) ?_);refine dO (.p (eI ((r1.fat+r1.fi)+2))) [53] Z (λ _ sl UT K hK=>al Z (gJ Z Z Z (UT _ _ Z) Z Z WP hK)) (dO (.tuple [.p (.agg (ab.cs Vk.1)),.p (.agg (az.cs Vk.2))]) [44,54] Z (λ _ sl UT K hK=>al Z (bQ (HP.c Y9) Z Z Z (aG (UT _ _ Z) (aG (UT _ _ Z) bp)) ⟨sr,sr,trivial⟩ HE.e Z hK)) ?_);refine dPc (.tuple [.p (.agg (ab.cs Vk.1)),.p (.agg (az.cs Vk.2))]) Z (dPc (.p (.agg (ab.cs Vk.1))) Z ?_);refine dPc (.p (.agg (az.cs Vk.2))) Z (dI (λ _=>.ptr 4 0) [] Z pT ?_);refine dI (λ _=>.ptr 5 0) [] Z pT (dS Z ?_);refine dS Z (xK (dPc (.ptr 1000000 0) Z (dPc (.ptr 1000000 0) Z (dPc (.ptr 1000000 0) Z (dPc (.p (eS r1.fs)) Z (dPc (.ptr 1000000 0) Z (dPc (.ptr 1000000 0) Z (dPc (.ptr 1000000 2) Z (dPc (.p (eI r1.fi)) Z (dO (.p (eI (r1.fi+2))) [41] Z (λ _ sl UT K hK=>al Z (gJ Z Z Z (UT _ _ Z) Z Z hk8 hK)) (dPc (.p (eI r4)) Z (dO (.p (eS (sub r1.fs (r1.fi+2) r4))) [37,42,43] Z (λ _ sl UT K hK=>al Z (gV (a:=r1.fs) (l:=r1.fi+2) (h:=r4) Z Z Z Z Z (UT _ _ Z) xk yz Yk hK)) (dPc (.ptr 1000000 0) Z (dPc (.ptr 1000000 0) Z (dPc (.ptr 1000000 1) Z (dPc (.p (eI r1.fat)) Z (dPc (.ptr 1000000 0) Z (dPc (.ptr 1000000 0) Z (dPc (.ptr 1000000 2) Z (dPc (.p (eI r1.fi)) Z (dO (.p (eI (r1.fat+r1.fi))) [48,52] Z (λ _ sl UT K hK=>al Z (gJ Z Z Z (UT _ _ Z) (UT _ _ Z) Z Wb hK)) (dO (.p (eI ((r1.fat+r1.fi)+2))) [53] Z (λ _ sl UT K hK=>al Z (gJ Z Z Z (UT _ _ Z) Z Z WP hK)) (dO (.tuple [.p (.agg (ab.cs Vk.1)),.p (.agg (az.cs Vk.2))]) [44,54] Z (λ _ sl UT K hK=>al Z (bQ (HP.c Y9) Z Z Z (aG (UT _ _ Z) (aG (UT _ _ Z) bp)) ⟨sr,sr,trivial⟩ HE.e Z hK)) (dPc (.tuple [.p (.agg (ab.cs Vk.1)),.p (.agg (az.cs Vk.2))]) Z (dPc (.p (.agg (ab.cs Vk.1))) Z (dPc (.p (.agg (az.cs Vk.2))) Z (dI (λ _=>.ptr 4 0) [] Z pT (dI (λ _=>.ptr 5 0) [] Z pT (dS Z (dS Z (NY Z ⟨Z,Z,Z,Z,Z,Z,trivial⟩ ⟨⟨Z,Z,.inl Z⟩,⟨⟨Z,Z,.inl Z⟩,⟨⟨Z,Z,.inr Z⟩,⟨⟨Z,Z,.inr Z⟩,⟨⟨Z,Z,.inr Z⟩,⟨⟨Z,Z,.inr Z⟩,⟨⟨Z,Z,.inr Z⟩,⟨⟨Z,Z,.inr Z⟩,⟨⟨Z,Z,.inr Z⟩,⟨⟨Z,Z,.inr Z⟩,⟨⟨Z,Z,.inr Z⟩,⟨⟨Z,Z,.inr Z⟩,⟨⟨Z,Z,.inr Z⟩,⟨⟨Z,Z,.inr Z⟩,⟨⟨Z,Z,.inr Z⟩,⟨⟨Z,Z,.inr Z⟩,⟨⟨Z,Z,.inr Z⟩,⟨⟨Z,Z,.inr Z⟩,⟨⟨Z,Z,.inr Z⟩,⟨⟨Z,Z,.inr Z⟩,⟨⟨Z,Z,.inr Z⟩,⟨⟨Z,Z,.inr Z⟩,⟨⟨Z,Z,.inr Z⟩,⟨⟨Z,Z,.inr Z⟩,⟨⟨Z,Z,.inr Z⟩,⟨⟨Z,Z,.inr Z⟩,⟨⟨Z,Z,.inr Z⟩,trivial⟩⟩⟩⟩⟩⟩⟩⟩⟩⟩⟩⟩⟩⟩⟩⟩⟩⟩⟩⟩⟩⟩⟩⟩⟩⟩⟩)))))))))))))))))))))))))))))) ?_);refine nx 1 Z (mG (gE (t:=⟨[(0,.ptr 1000000 0),(2,.ptr 2 0),(3,.p (eI r4)),(4,.ptr 4 0),(5,.ptr 5 0)],[(2,cS),(4,(ab.cs Vk.1).map .p),(5,(az.cs Vk.2).map .p),(1000000,[.p (eS r1.fs),.p (eI r1.fat),.p (eI r1.fi),.p (eI r1.H'),.p (eS r1.IN),.vec 101000 11 0 (r1.Df.map ao),.p (eB true)])]⟩) Z Z) ?_);refine nx 7 Z (fN [60] h0 Z (λ Yb h0=>?_) λ Yb h0=>?_)
  ·refine nx 3 Z (cc' h0 λ Ww h0=>?_);refine mG (gE (t:=⟨[(0,.ptr 1000000 0),(2,.ptr 2 0),(3,.p (eI r4)),(4,.ptr 4 0)],[(2,cS),(4,(ab.cs Vk.1).map .p),(1000000,[.p (eS r1.fs),.p (eI r1.fat),.p (eI r1.fi),.p (eI r1.H'),.p (eS r1.IN),.vec 101000 11 0 (r1.Df.map ao),.p (eB true)])]⟩) Z Z) (mSP ⟨3,[7,9,12],(by4 (.some λ i=>Nat.beq i 101000||Nat.beq i 69) (.fn (upP 69 11 (.agg (ab.cs Vk.1)))) .none .none),(λ _=>[(0,.ptr 1000000 0),(2,.ptr 2 0),(3,.p (eI r4)),(4,.ptr 4 0)]),(by4 ([(2,cS),(4,((ab.cs Vk.1).map .p)),(1000000,[.p (eS r1.fs),.p (eI r1.fat),.p (eI r1.fi),.p (eI r1.H'),.p (eS r1.IN),.vec 101000 11 0 (r1.Df.map ao),.p (eB true)])]) ([(2,cS),(4,((ab.cs Vk.1).map .p)),(1000000,[.p (eS r1.fs),.p (eI r1.fat),.p (eI r1.fi),.p (eI r1.H'),.p (eS r1.IN),.p (eL ao r1.Df),.p (eB true)])]) ([(2,cS),(4,((ab.cs Vk.1).map .p)),(1000000,[.p (eS r1.fs),.p (eI r1.fat),.p (eI r1.fi),.p (eI r1.H'),.p (eS r1.IN),.p (eL ao r1.Df),.p (eB true)])]) ([(1000000,[.p (eS r1.fs),.p (eI r1.fat),.p (eI r1.fi),.p (eI r1.H'),.p (eS r1.IN),.vec 69 11 0 (r1.Df.map ao++[.agg (ab.cs Vk.1)]),.p (eB true)]),(2,cS),(4,((ab.cs Vk.1).map .p)),(1000000,[.p (eS r1.fs),.p (eI r1.fat),.p (eI r1.fi),.p (eI r1.H'),.p (eS r1.IN),.p (eL ao r1.Df),.p (eB true)])]))⟩ ⟨3,[7,12,9],(by4 (.some λ i=>Nat.beq i 101000||Nat.beq i 69) .none (.fn (upP 69 11 (.agg (ab.cs Vk.1)))) .none),(λ _=>[(0,.ptr 1000000 0),(2,.ptr 2 0),(3,.p (eI r4)),(4,.ptr 4 0)]),(by4 ([(2,cS),(4,((ab.cs Vk.1).map .p)),(1000000,[.p (eS r1.fs),.p (eI r1.fat),.p (eI r1.fi),.p (eI r1.H'),.p (eS r1.IN),.vec 101000 11 0 (r1.Df.map ao),.p (eB true)])]) ([(2,cS),(4,((ab.cs Vk.1).map .p)),(1000000,[.p (eS r1.fs),.p (eI r1.fat),.p (eI r1.fi),.p (eI r1.H'),.p (eS r1.IN),.p (eL ao r1.Df),.p (eB true)])]) ([(1000000,[.p (eS r1.fs),.p (eI r1.fat),.p (eI r1.fi),.p (eI r1.H'),.p (eS r1.IN),.vecp 69 11 0 (r1.Df.map ao),.p (eB true)]),(2,cS),(4,((ab.cs Vk.1).map .p)),(1000000,[.p (eS r1.fs),.p (eI r1.fat),.p (eI r1.fi),.p (eI r1.H'),.p (eS r1.IN),.p (eL ao r1.Df),.p (eB true)])]) ([(1000000,[.p (eS r1.fs),.p (eI r1.fat),.p (eI r1.fi),.p (eI r1.H'),.p (eS r1.IN),.vec 69 11 0 (r1.Df.map ao++[.agg (ab.cs Vk.1)]),.p (eB true)]),(2,cS),(4,((ab.cs Vk.1).map .p)),(1000000,[.p (eS r1.fs),.p (eI r1.fat),.p (eI r1.fi),.p (eI r1.H'),.p (eS r1.IN),.p (eL ao r1.Df),.p (eB true)])]))⟩ Z Z Z Z Z Z Z ⟨Z,Z,Z,Z,trivial⟩ Z (lt3 ⟨Z,Z,Z,Z,trivial⟩ ⟨Z,Z,Z,Z,trivial⟩ ⟨Z,Z,Z,Z,trivial⟩) (lt3 ⟨Z,Z,Z,Z,trivial⟩ ⟨Z,Z,Z,Z,trivial⟩ ⟨Z,Z,Z,Z,trivial⟩) Z Z Z Z Z ?_);refine dPc (.ptr 1000000 0) Z (dPc (.ptr 1000000 0) Z ?_);refine dPc (.ptr 1000000 5) Z (dP (by4 (.vec 101000 11 0 (r1.Df.map ao)) (.p (eL ao r1.Df)) (.p (eL ao r1.Df)) (.p (eL ao r1.Df))) Z ?_);refine dPc (.p (.agg (ab.cs Vk.1))) Z (dO (.p (eI (r1.Df.length:Int))) [65] Z (λ _ sl UT K hK=>al Z (pN (f:=ao) (l:=r1.Df) Z Z Z Z Z (UT _ _ Z) Z hK)) ?_);refine dO (.p (eL (λ x:PV=>x) [.agg rL])) [] Z (λ _ sl UT K hK=>al Z (bn (λ x:PV=>x) [.agg rL] Z Z Z Z Z Z (dz Z Z fp) Z Z Z Z Z Z Z hK)) (dI (by4 (.vecp 69 11 0 (r1.Df.map ao)) (.vecp 69 11 0 (r1.Df.map ao)) (.vec 69 11 0 (r1.Df.map ao++[.agg (ab.cs Vk.1)])) (.vec 69 11 0 (r1.Df.map ao++[.agg (ab.cs Vk.1)]))) [65,68] Z JO ?_);refine pu (by4 (.elp 69 11) (.elp 69 11) .undef .undef) Z Z Z (Cn Z Z Z Y) (lt3 (nl Z) Y Y) (ga Z (ga Z (fX [(67,_),(69,_)] ⟨.inr ⟨5,_,Z,Z,Z⟩,.inr ⟨7,_,Z,Z,Z⟩,trivial⟩ q8 (ga Z j7)))) (kG [(66,_),(70,_)] Z ⟨.inr ⟨4,_,Z,Z,Z⟩,.inr ⟨8,_,Z,Z,Z⟩,trivial⟩ Z MR ?_);refine dPc (.ptr 1000000 0) Z (dPc (.ptr 1000000 5) Z ?_);refine dS Z (xK (dPc (.ptr 1000000 0) Z (dPc (.ptr 1000000 0) Z (dPc (.ptr 1000000 5) Z (dP (by4 (.vec 101000 11 0 (r1.Df.map ao)) (.p (eL ao r1.Df)) (.p (eL ao r1.Df)) (.p (eL ao r1.Df))) Z (dPc (.p (.agg (ab.cs Vk.1))) Z (dO (.p (eI (r1.Df.length:Int))) [65] Z (λ _ sl UT K hK=>al Z (pN (f:=ao) (l:=r1.Df) Z Z Z Z Z (UT _ _ Z) Z hK)) (dO (.p (eL (λ x:PV=>x) [.agg rL])) [] Z (λ _ sl UT K hK=>al Z (bn (λ x:PV=>x) [.agg rL] Z Z Z Z Z Z (dz Z Z fp) Z Z Z Z Z Z Z hK)) (dI (by4 (.vecp 69 11 0 (r1.Df.map ao)) (.vecp 69 11 0 (r1.Df.map ao)) (.vecp 69 11 0 (r1.Df.map ao)) (.vec 69 11 0 (r1.Df.map ao++[.agg (ab.cs Vk.1)]))) [65,68] Z JO (pu (by4 (.elp 69 11) (.elp 69 11) (.elp 69 11) .undef) Z Z Z (Cn Z Z Z Y) (lt3 (nl Z) Y Y) (ga Z (fX [(67,_),(69,_)] ⟨.inr ⟨5,_,Z,Z,Z⟩,.inr ⟨7,_,Z,Z,Z⟩,trivial⟩ q8 (fX [(67,_),(69,_)] ⟨.inr ⟨5,_,Z,Z,Z⟩,.inr ⟨7,_,Z,Z,Z⟩,trivial⟩ q8 (ga Z j7)))) (kG [(66,_),(70,_)] Z ⟨.inr ⟨4,_,Z,Z,Z⟩,.inr ⟨8,_,Z,Z,Z⟩,trivial⟩ Z MR (dPc (.ptr 1000000 0) Z (dPc (.ptr 1000000 5) Z (dS Z (A8 Z ⟨Z,Z,Z,Z,trivial⟩ ⟨⟨Z,Z,.inr Z⟩,⟨⟨Z,Z,.inr Z⟩,⟨⟨Z,Z,.inr Z⟩,⟨⟨Z,Z,.inr Z⟩,⟨⟨Z,Z,.inr Z⟩,⟨⟨Z,Z,.inr Z⟩,⟨⟨Z,Z,.inr Z⟩,⟨⟨Z,Z,.inr Z⟩,⟨⟨Z,Z,.inr Z⟩,⟨⟨Z,Z,.inr Z⟩,⟨⟨Z,Z,.inr Z⟩,trivial⟩⟩⟩⟩⟩⟩⟩⟩⟩⟩⟩)))))))))))))) ?_);refine mG (dZ (t:=⟨[(0,.ptr 1000000 0),(2,.ptr 2 0),(3,.p (eI r4))],[(2,cS),(1000000,[.p (eS r1.fs),.p (eI r1.fat),.p (eI r1.fi),.p (eI r1.H'),.p (eS r1.IN),.vec 69 11 0 ((r1.Df++[Vk.1]).map ao),.p (eB true)])]⟩) (oh ⟨er Z,er Z,er Z,trivial⟩ ⟨⟨_,Z,⟨sr,sr,sr,trivial⟩⟩,⟨_,Z,⟨sr,sr,sr,sr,sr,AV.sub_of_eq Jx,sr,trivial⟩⟩,trivial⟩)) (nx 5 Z ?_);exact oA h0 Z Z λ Xk h0=>nx 21 Z (mQo (oi h0) (aJ (aS 69 800000 Z Z Z Z Z) (aQ _)) Z Z Z Z (sr) ⟨⟨_,Z,⟨sr,sr,sr,sr,sr,sr,sr,trivial⟩⟩,trivial⟩)
  exact nx 7 Z E3
 ·refine λ Sn UU=>hO good [] [1000000] Tryz.func86 Z Z λ r h0 _ w0 F=>?_;rw [ca] at h0;refine nx 10 Z (fD [10] h0 Z (λ c1 h0=>?_) λ c1 h0=>?_)
  ·exact J0
  refine nx 6 rfl (oA h0 Z Z λ XP h0=>?_);refine bd h0 λ r5 e6 h0=>mO rfl (cVq [1000000] [] 102000 102000 (HO.c e6) HE.e rfl ?_);refine nx 4 rfl ?_;obtain ⟨o90,h1,Vp,hR0⟩:=bJ h0;refine kEx 0 (λ v91:(List af)×Int×Int×Int×Int×Int×Bk=>o90=.inl v91) (λ v91=>⟨[],[(1000000,(gg v91))]⟩) (λ v91 hv=>?_) ?_
  ·exact Av
  refine lG (λ (Wu:Int×Int×Bk×Bk×Int×Int×Bk×(List ag)×(List Bk)×(List ab)×(List af)×Int×Int×Int×Int×Int×Bk)=>⟨[(0,.ptr 1000000 0),(1,.p (eI UU)),(4,.ptr 4 0),(5,.ptr 5 0)],[(4,bR),(5,[.p (eI Wu.1),.p (eI Wu.2.1),.p (eS Wu.2.2.1),.p (eS Wu.2.2.2.1),.p (eI Wu.2.2.2.2.1),.p (eI Wu.2.2.2.2.2.1),.p (eS Wu.2.2.2.2.2.2.1),.p (eL cn Wu.2.2.2.2.2.2.2.1),.p (eL eS Wu.2.2.2.2.2.2.2.2.1),.p (eL ao Wu.2.2.2.2.2.2.2.2.2.1),.p (eI r5.1.fAt)]),(1000000,(gg Wu.2.2.2.2.2.2.2.2.2.2))]⟩) (λ m (Wu:Int×Int×Bk×Bk×Int×Int×Bk×(List ag)×(List Bk)×(List ab)×(List af)×Int×Int×Int×Int×Int×Bk)=>cF n (ca n) UU r5 m Wu.1 Wu.2.1 Wu.2.2.1 Wu.2.2.2.1 Wu.2.2.2.2.1 Wu.2.2.2.2.2.1 Wu.2.2.2.2.2.2.1 Wu.2.2.2.2.2.2.2.1 Wu.2.2.2.2.2.2.2.2.1 Wu.2.2.2.2.2.2.2.2.2.1 Wu.2.2.2.2.2.2.2.2.2.2.1 Wu.2.2.2.2.2.2.2.2.2.2.2.1 Wu.2.2.2.2.2.2.2.2.2.2.2.2.1 Wu.2.2.2.2.2.2.2.2.2.2.2.2.2.1 Wu.2.2.2.2.2.2.2.2.2.2.2.2.2.2.1 Wu.2.2.2.2.2.2.2.2.2.2.2.2.2.2.2.1 Wu.2.2.2.2.2.2.2.2.2.2.2.2.2.2.2.2) Y (r5.1.Ar,r5.1.fOp,r5.1.AT,r5.1.It,r5.1.BY.Ar,r5.1.BY.G',r5.1.BY.D',r5.1.BY.Gw,r5.1.BY.F',r5.1.A',r5.2.fl,r5.2.fat,r5.2.IT,r5.2.IS,r5.2.AI.Ar,r5.2.AI.fAt,r5.2.AI.AT) h1 (gE rfl rfl) ?_;rintro m ⟨V9,VW,VL,Wx,VY,WB,Xz,Xy,Ym,Yl,f46,f47,f48,f49,f50,YS,YR⟩ h1;replace h1:cF n (ca n) UU r5 (m+1) V9 VW VL Wx VY WB Xz Xy Ym Yl f46 f47 f48 f49 f50 YS YR=some o90:=h1;rw [cF] at h1;refine nx 5 rfl (bd h1 λ V' Y8 h1=>?_);refine oK (HP.c Y8) rfl ⟨sr,trivial⟩ HE.e rfl (K1 λ Xc h1=>?_);refine nx 12 rfl (fB [25] h1 rfl (λ c57 h1=>?_) λ c57 h1=>?_)
  ·exact aB
  refine nx 5 Z (bd h1 λ Wr e59 h1=>?_);refine mO Z (cVq [1000000] [] 107000 107000 (HO.c e59) HE.e Z ?_);refine nx 5 Z (oA h1 Z Z λ Xj h1=>?_);refine bd h1 λ VN e62 h1=>mO Z (cVq [1000000] [] 108000 108000 (HO.c e62) HE.e Z ?_);refine nx 3 Z (bd h1 λ Xh e64 h1=>?_);refine mG (gE (t:=⟨[(0,.ptr 1000000 0),(1,.p (eI UU)),(4,.ptr 4 0),(5,.ptr 5 0),(6,.p (eS Xc.1)),(8,.ptr 8 0)],[(4,bR),(5,[.p (eI V9),.p (eI VW),.p (eS VL),.p (eS Wx),.p (eI VY),.p (eI WB),.p (eS Xz),.p (eL cn Xy),.p (eL eS Ym),.p (eL ao Yl),.p (eI r5.1.fAt)]),(8,(ab.cs VN.1).map .p),(1000000,(ah.cs VN.2).map .p)]⟩) Z Z) (mSq ⟨1,[8],(λ _=>.none),(λ _=>[(0,.ptr 1000000 0),(1,.p (eI UU)),(4,.ptr 4 0),(5,.ptr 5 0),(6,.p (eS Xc.1)),(8,.ptr 8 0)]),(ob2 ([(4,bR),(5,[.p (eI V9),.p (eI VW),.p (eS VL),.p (eS Wx),.p (eI VY),.p (eI WB),.p (eS Xz),.p (eL cn Xy),.p (eL eS Ym),.p (eL ao Yl),.p (eI r5.1.fAt)]),(8,((ab.cs VN.1).map .p)),(1000000,((ah.cs VN.2).map .p))]) (5,[.p (eI 7),.p (eI Xh),.p (eS ([]:Bk)),.p (eS ([]:Bk)),.p (eI 0),.p (eI 0),.p (eS ([]:Bk)),.p (.val (.slice none 0 0)),.p (.val (.slice none 0 0)),.p (eL ao [(ab.mk V9 VW VL Wx (ag.mk VY WB Xz Xy Ym) Yl r5.1.fAt),VN.1]),.p (eI r5.1.fAt)]))⟩ Z ?_);refine dPc (.p (eS Xc.1)) Z (dO (.p (eI Xh)) [33] Z (λ _ sl UT K hK=>al Z (bQ (HP.c e64) Z Z Z (aG (UT _ _ Z) bp) ⟨sr,trivial⟩ HE.e Z hK)) ?_);refine dPc (.p (.agg [eI V9,eI VW,eS VL,eS Wx,eI VY,eI WB,eS Xz,eL cn Xy,eL eS Ym,eL ao Yl,eI r5.1.fAt])) Z (dPc (.p (.agg (ab.cs VN.1))) Z ?_);refine dO (.p (eL ao [(ab.mk V9 VW VL Wx (ag.mk VY WB Xz Xy Ym) Yl r5.1.fAt),VN.1])) [35,36] Z (λ _ sl UT K hK=>al Z (bn ao [(ab.mk V9 VW VL Wx (ag.mk VY WB Xz Xy Ym) Yl r5.1.fAt),VN.1] Z Z Z Z Z Z (dz (UT _ _ Z) Z (dz (UT _ _ Z) Z fp)) Z Z Z Z Z Z kw hK)) (dPc (.ptr 5 10) Z ?_);refine dPc (.p (eI r5.1.fAt)) Z (dPc (.p (.agg [eI 7,eI Xh,eS ([]:Bk),eS ([]:Bk),eI 0,eI 0,eS ([]:Bk),.val (.slice none 0 0),.val (.slice none 0 0),eL ao [(ab.mk V9 VW VL Wx (ag.mk VY WB Xz Xy Ym) Yl r5.1.fAt),VN.1],eI r5.1.fAt])) Z ?_);refine dS Z (d5 ?_);exact nx 1 Z (eX (7,Xh,([]:Bk),([]:Bk),0,0,([]:Bk),[],[],[(ab.mk V9 VW VL Wx (ag.mk VY WB Xz Xy Ym) Yl r5.1.fAt),VN.1],VN.2.fl,VN.2.fat,VN.2.IT,VN.2.IS,VN.2.AI.Ar,VN.2.AI.fAt,VN.2.AI.AT) h1 (dZ (oh ⟨er Z,er Z,er Z,er Z,trivial⟩ ⟨⟨_,Z,⟨sr,sr,sr,sr,sr,sr,sr,sr,sr,sr,sr,trivial⟩⟩,⟨_,Z,⟨sr,sr,sr,sr,sr,sr,sr,nM _,nM _,sr,sr,trivial⟩⟩,⟨_,Z,⟨sr,sr,sr,sr,sr,sr,sr,trivial⟩⟩,trivial⟩)))
 ·refine λ Sn=>hO good [] [1000000] Tryz.func114 Z Z λ r h0 _ w0 F=>?_;rw [eH] at h0;refine nx 9 Z (bd h0 λ Xf h1 h0=>?_);refine kN Xf (λ Xo=>⟨[(0,.ptr 1000000 0),(2,.ptr 2 0),(3,.p (eI Xo.1))],[(2,bR),(1000000,(gg Xo.2))]⟩) ?_ ?_
  ·refine nx 7 Z (fD [10] h0 Z (λ c15 h0=>?_) λ c15 h0=>?_)
   ·exact J0
   refine nx 5 Z (K0 λ Wt h0=>?_);refine nx 4 Z (bd h0 λ VH e21 h0=>?_);refine mG (gE (t:=⟨[(0,.ptr 1000000 0),(2,.ptr 2 0),(3,.p (eI Xf.1)),(4,.ptr 4 0)],[(2,bR),(4,(af.cs Wt.1).map .p),(1000000,(ah.cs Wt.2).map .p)]⟩) Z Z) (mSq ⟨2,[2,7],(by3 (.some (dk [] 105000 105000)) .none .none),(λ _=>[(0,.ptr 1000000 0),(2,.ptr 2 0),(3,.p (eI Xf.1)),(4,.ptr 4 0)]),(by3 ([(2,bR),(4,((af.cs Wt.1).map .p)),(1000000,((ah.cs Wt.2).map .p))]) ([(1000000,((ah.cs VH.2).map .p)),(2,bR),(4,((af.cs Wt.1).map .p))]) ([(2,[.p (eI 6),.p (eI Xf.1),.p (eS ([]:Bk)),.p (eS ([]:Bk)),.p (eI 0),.p (eI 0),.p (eS ([]:Bk)),.p (.val (.slice none 0 0)),.p (.val (.slice none 0 0)),.p (eL ao [VH.1]),.p (eI Wt.1.fAt)]),(1000000,((ah.cs VH.2).map .p)),(2,bR),(4,((af.cs Wt.1).map .p))]))⟩ Z ?_);refine dPc (.p (eI Xf.1)) Z (dPc (.ptr 1000000 0) Z ?_);refine dI (λ _=>.p (.agg (ab.cs VH.1))) [16] Z (λ sl UT K hK=>al Z (bq [1000000] [] 105000 105000 (HO.c e21) Z Z Z (aG (UT _ _ Z) bp) Z ⟨sr,trivial⟩ Z Z ⟨⟨_,Z,⟨sr,sr,sr,sr,sr,sr,sr,trivial⟩⟩,trivial⟩ Z Z Z Z Z Z Z Z HE.e Z Z hK)) (dO (.p (eL ao [VH.1])) [17] Z (λ _ sl UT K hK=>al Z (bn ao [VH.1] Z Z Z Z Z Z (dz (UT _ _ Z) Z fp) Z Z Z Z Z Z kw hK)) ?_);refine dPc (.ptr 4 2) Z (dPc (.p (eI Wt.1.fAt)) Z ?_);refine dPc (.p (.agg [eI 6,eI Xf.1,eS ([]:Bk),eS ([]:Bk),eI 0,eI 0,eS ([]:Bk),.val (.slice none 0 0),.val (.slice none 0 0),eL ao [VH.1],eI Wt.1.fAt])) Z (dS Z ?_);refine d5 (nx 2 Z ?_);exact J0
  exact aB
 ·refine λ Sn=>hO good [] [1000000] Tryz.func141 Z Z λ r h0 _ w0 F=>?_;rw [gq] at h0;refine nx 7 rfl (bd h0 λ r1 e2 h0=>?_);refine mO rfl (cVq [1000000] [] 101000 101000 (HO.c e2) HE.e rfl ?_);refine nx 4 rfl ?_;obtain ⟨abz,h1,Vp,hR0⟩:=bJ h0;refine kEx 0 (λ Ze:(List af)×Int×Int×Int×Int×Int×Bk=>abz=.inl Ze) (λ Ze=>⟨[],[(1000000,(gg Ze))]⟩) (λ Ze hv=>?_) ?_
  ·exact Av
  refine lG (λ (Vx:Int×Int×Bk×Bk×Int×Int×Bk×(List ag)×(List Bk)×(List ab)×(List af)×Int×Int×Int×Int×Int×Bk)=>⟨[(0,.ptr 1000000 0),(2,.ptr 2 0),(3,.ptr 3 0)],[(2,bR),(3,[.p (eI Vx.1),.p (eI Vx.2.1),.p (eS Vx.2.2.1),.p (eS Vx.2.2.2.1),.p (eI Vx.2.2.2.2.1),.p (eI Vx.2.2.2.2.2.1),.p (eS Vx.2.2.2.2.2.2.1),.p (eL cn Vx.2.2.2.2.2.2.2.1),.p (eL eS Vx.2.2.2.2.2.2.2.2.1),.p (eL ao Vx.2.2.2.2.2.2.2.2.2.1),.p (eI r1.1.fAt)]),(1000000,(gg Vx.2.2.2.2.2.2.2.2.2.2))]⟩) (λ m (Vx:Int×Int×Bk×Bk×Int×Int×Bk×(List ag)×(List Bk)×(List ab)×(List af)×Int×Int×Int×Int×Int×Bk)=>cw n (aO n) r1 m Vx.1 Vx.2.1 Vx.2.2.1 Vx.2.2.2.1 Vx.2.2.2.2.1 Vx.2.2.2.2.2.1 Vx.2.2.2.2.2.2.1 Vx.2.2.2.2.2.2.2.1 Vx.2.2.2.2.2.2.2.2.1 Vx.2.2.2.2.2.2.2.2.2.1 Vx.2.2.2.2.2.2.2.2.2.2.1 Vx.2.2.2.2.2.2.2.2.2.2.2.1 Vx.2.2.2.2.2.2.2.2.2.2.2.2.1 Vx.2.2.2.2.2.2.2.2.2.2.2.2.2.1 Vx.2.2.2.2.2.2.2.2.2.2.2.2.2.2.1 Vx.2.2.2.2.2.2.2.2.2.2.2.2.2.2.2.1 Vx.2.2.2.2.2.2.2.2.2.2.2.2.2.2.2.2) Y (r1.1.Ar,r1.1.fOp,r1.1.AT,r1.1.It,r1.1.BY.Ar,r1.1.BY.G',r1.1.BY.D',r1.1.BY.Gw,r1.1.BY.F',r1.1.A',r1.2.fl,r1.2.fat,r1.2.IT,r1.2.IS,r1.2.AI.Ar,r1.2.AI.fAt,r1.2.AI.AT) h1 (gE rfl rfl) ?_;rintro m ⟨YS,YR,f53,f54,f55,f56,f57,f58,f59,f60,f61,f62,f63,f64,f65,f66,f67⟩ h1;replace h1:cw n (aO n) r1 (m+1) YS YR f53 f54 f55 f56 f57 f58 f59 f60 f61 f62 f63 f64 f65 f66 f67=some abz:=h1;rw [cw] at h1;refine nx 1 rfl ?_;obtain ⟨o128,h2,hL1,hR1⟩:=bJ h1;refine kX (λ V4:Int×Bk×(List ab)×(List af)×Int×Int×Int×Int×Int×Bk=>o128=.inl V4) (λ V4=>⟨[(0,.ptr 1000000 0),(2,.ptr 2 0),(3,.ptr 3 0)],[(2,bR),(3,[.p (eI V4.1),.p (eI 0),.p (eS V4.2.1),.p (eS ([]:Bk)),.p (eI 0),.p (eI 0),.p (eS ([]:Bk)),.p (.val (.slice none 0 0)),.p (.val (.slice none 0 0)),.p (eL ao V4.2.2.1),.p (eI r1.1.fAt)]),(1000000,(gg V4.2.2.2))]⟩) (λ V4 hv=>?_) ?_
  ·have h1:=hL1 _ hv;exact nx 1 Z (eX (V4.1,0,V4.2.1,([]:Bk),0,0,([]:Bk),[],[],V4.2.2.1,V4.2.2.2.1,V4.2.2.2.2.1,V4.2.2.2.2.2.1,V4.2.2.2.2.2.2.1,V4.2.2.2.2.2.2.2.1,V4.2.2.2.2.2.2.2.2.1,V4.2.2.2.2.2.2.2.2.2) h1 (dZ (oh ⟨er Z,er Z,er Z,trivial⟩ ⟨⟨_,Z,⟨sr,sr,sr,sr,sr,sr,sr,sr,sr,sr,sr,trivial⟩⟩,⟨_,Z,⟨sr,sr,sr,sr,sr,sr,sr,nM _,nM _,sr,sr,trivial⟩⟩,⟨_,Z,⟨sr,sr,sr,sr,sr,sr,sr,trivial⟩⟩,trivial⟩)))
  refine nx 4 Z (K2 λ Z2 h2=>?_);refine nx 2 Z (fB [9,11] h2 Z (λ c70 h2=>?_) λ c70 h2=>?_)
  ·refine nx 4 Z (K2 λ r71 h2=>?_);refine nx 4 Z (K2 λ Xn h2=>?_);refine nx 10 Z (fN [18] h2 Z (λ c75 h2=>?_) λ c75 h2=>?_)
   ·refine nx 5 Z (K2 λ ZF h2=>?_);refine nx 5 Z (mO Z (bn ao [(ab.mk YS YR f53 f54 (ag.mk f55 f56 f57 f58 f59) f60 r1.1.fAt)] Z Z Z Z Z Z Z Z Z Z Z Z Z kw ?_));exact dj
   refine nx 6 Z (K2 λ r76 h2=>?_);exact nx 3 Z JK
  refine nx 4 Z (K2 λ r80 h2=>?_);refine nx 2 Z (fB [32,34] h2 Z (λ c82 h2=>?_) λ c82 h2=>?_)
  ·refine nx 4 Z (K2 λ r83 h2=>?_);refine nx 4 Z (K2 λ r85 h2=>?_);refine nx 6 Z (K2 λ ZE h2=>?_);refine nx 4 Z (mO Z (bn ao [(ab.mk YS YR f53 f54 (ag.mk f55 f56 f57 f58 f59) f60 r1.1.fAt),r85.1] Z Z Z Z Z Z Z Z Z Z Z Z Z kw ?_));exact dj
  exact nx 7 Z JK
 ·refine λ Sn=>hO good [] [1000000] Tryz.func162 Z Z λ r h0 _ w0 F=>?_;rw [fo] at h0;exact J0
 ·refine λ Sn=>hO good [] [1000000] Tryz.func186 Z Z λ r h0 _ w0 F=>?_;rw [fJ] at h0;exact J0
 ·refine λ Sn=>hO good [] [1000000] Tryz.func187 Z Z λ r h0 _ w0 F=>?_;rw [gT] at h0;have:=js [601,1001];have:=jS 601 Bool λ v=>[(18,.p (eB v))]
  have:=jO 1001 Int λ v=>[(4,[.p (eI 1),.p (eI v),.p (eS ([]:Bk)),.p (.val (.slice none 0 0)),.p (.val (.slice none 0 0))])]
  exact J0
 ·refine λ Sn=>hO good [] [1000000] Tryz.func188 Z Z λ r h0 _ w0 F=>?_;rw [iG] at h0;exact J0
 ·refine λ Sn end_1=>hO good [] [1000000] Tryz.func201 Z Z λ r h0 _ w0 F=>?_;rw [gU] at h0;refine nx 10 Z (bd h0 λ o79 h1 h0=>?_);refine kE 0 o79 (λ v80=>⟨[(5,.vec 19 11 0 (v80.1.map ao))],[(1000000,(gg v80.2))]⟩) ?_ ?_
  ·exact J0
  refine lG (λ (WM:(List ab)×(List af)×Int×Int×Int×Int×Int×Bk)=>⟨[(0,.ptr 1000000 0),(1,.p (eS end_1)),(5,.vec 19 11 0 (WM.1.map ao))],[(1000000,(gg WM.2))]⟩) (λ m (WM:(List ab)×(List af)×Int×Int×Int×Int×Int×Bk)=>dx n (aO n) end_1 m WM.1 WM.2.1 WM.2.2.1 WM.2.2.2.1 WM.2.2.2.2.1 WM.2.2.2.2.2.1 WM.2.2.2.2.2.2.1 WM.2.2.2.2.2.2.2) Y ([],Sn.fl,Sn.fat,Sn.IT,Sn.IS,Sn.AI.Ar,Sn.AI.fAt,Sn.AI.AT) h1 (dZ (oh ⟨er rfl,er rfl,⟨_,rfl,AV.sub_nilvec _ _ _⟩,trivial⟩ ⟨⟨_,rfl,⟨sr,sr,sr,sr,sr,sr,sr,trivial⟩⟩,trivial⟩)) ?_;rintro m ⟨VK,XA,f33,f34,V3,V9,VW,VL⟩ h1;replace h1:dx n (aO n) end_1 (m+1) VK XA f33 f34 V3 V9 VW VL=some o79:=h1;rw [dx] at h1;refine nx 2 rfl (bd h1 λ o82 h2 h1=>?_);refine kN o82 (λ v83=>⟨[(0,.ptr 1000000 0),(1,.p (eS end_1)),(5,.vec 19 11 0 (VK.map ao)),(14,.p (eB v83.1))],[(1000000,(gg v83.2))]⟩) ?_ ?_
  ·refine nx 1 Z (fB [14] h1 Z (λ c52 h1=>?_) λ c52 h1=>?_)
   ·refine nx 7 Z (K1 λ V' h1=>?_);refine mO Z (bn ao [V'.1] Z Z Z Z Z Z Z Z Z Z Z Z Z kw ?_);refine cc' h1 λ aar h1=>mO Z (fY ao VK [V'.1] Z Z Z Z Z Z Z Z Z Z Z Z Z (λ x=>congrArg List.length (ab.E' x)) Z Z Z Z aar ?_);exact aB
   exact aB
  exact dj
 ·refine λ Sn U' k_2=>hO good [] [1000000] Tryz.func203 Z Z λ r h0 _ w0 F=>?_;rw [fO] at h0;refine nx 7 Z (K0 λ r1 h0=>?_);refine nx 6 Z (K0 λ r3 h0=>?_);refine nx 5 Z (bd h0 λ VA h1 h0=>?_);refine kN VA (λ v68=>⟨[(0,.ptr 1000000 0),(2,.p (eI k_2)),(6,.ptr 6 0),(7,.ptr 7 0)],[(6,bR),(7,(qD (.p (eI k_2)) (.p (eS v68.1)) (.p (eS v68.2.1)) (.p (eI U')))),(1000000,(gg v68.2.2))]⟩) ?_ ?_
  ·refine nx 4 Z (K0 λ U8 h0=>?_);refine nx 2 Z (bd h0 λ VC e24 h0=>?_);refine cc' h0 λ WC h0=>mG (gE (t:=⟨[(0,.ptr 1000000 0),(2,.p (eI k_2)),(6,.ptr 6 0),(7,.ptr 7 0)],[(6,bR),(7,(qD (.p (eI k_2)) (.p (eS VA.1)) (.p (eS VA.2.1)) (.p (eI U')))),(1000000,(ah.cs U8).map .p)]⟩) Z Z) (mSq ⟨3,[3,5,7],(by4 (.some (dk [] 107000 107000)) (.some λ i=>Nat.beq i 33) .none .none),(λ _=>[(0,.ptr 1000000 0),(2,.p (eI k_2)),(6,.ptr 6 0),(7,.ptr 7 0)]),(by4 ([(6,bR),(7,(qD (.p (eI k_2)) (.p (eS VA.1)) (.p (eS VA.2.1)) (.p (eI U')))),(1000000,((ah.cs U8).map .p))]) ([(1000000,((ah.cs VC.2).map .p)),(6,bR),(7,(qD (.p (eI k_2)) (.p (eS VA.1)) (.p (eS VA.2.1)) (.p (eI U'))))]) ([(1000000,((ah.cs VC.2).map .p)),(6,bR),(7,(qD (.p (eI k_2)) (.p (eS VA.1)) (.p (eS VA.2.1)) (.p (eI U'))))]) ([(7,(d9 (.p (eI k_2)) (.p (eS VA.1)) (.p (eS VA.2.1)) (.vec 33 11 0 ([VC.1].map ao)) (.p (eI U')))),(1000000,((ah.cs VC.2).map .p)),(6,bR),(7,(qD (.p (eI k_2)) (.p (eS VA.1)) (.p (eS VA.2.1)) (.p (eI U'))))]))⟩ Z ?_);refine dPc (.ptr 7 9) Z (dPc (.p (.val (.slice none 0 0))) Z ?_);refine dPc (.ptr 1000000 0) Z (dI (λ _=>.p (.agg (ab.cs VC.1))) [30] Z (λ sl UT K hK=>al Z (bq [1000000] [] 107000 107000 (HO.c e24) Z Z Z (aG (UT _ _ Z) bp) Z ⟨sr,trivial⟩ Z Z ⟨⟨_,Z,⟨sr,sr,sr,sr,sr,sr,sr,trivial⟩⟩,trivial⟩ Z Z Z Z Z Z Z Z HE.e Z Z hK)) ?_);refine dO (.p (eL ao [VC.1])) [31] Z (λ _ sl UT K hK=>al Z (bn ao [VC.1] Z Z Z Z Z Z (dz (UT _ _ Z) Z fp) Z Z Z Z Z Z kw hK)) (dI (λ _=>.vec 33 11 0 ([VC.1].map ao)) [29,32] Z (λ sl UT K hK=>al Z (PL ao [VC.1] 0 Z Z Z Z Z Z Z Z (UT _ _ Z) (UT _ _ Z) Z (λ x=>congrArg List.length (ab.E' x)) Z Z Z Z WC hK)) ?_);refine dPc (.ptr 7 9) Z (dS Z ?_);refine d5 (nx 4 Z ?_);refine bd h0 λ VI e27 h0=>mO Z (cVq [1000000] [] 108000 108000 (HO.c e27) HE.e Z ?_);refine nx 2 Z (bd h0 λ VP e29 h0=>?_);refine cc' h0 λ aaw h0=>mG (gE (t:=⟨[(0,.ptr 1000000 0),(2,.p (eI k_2)),(6,.ptr 6 0),(7,.ptr 7 0)],[(6,bR),(7,(d9 (.p (eI k_2)) (.p (eS VA.1)) (.p (eS VA.2.1)) (.vec 33 11 0 ([VC.1].map ao)) (.p (eI U')))),(1000000,(ah.cs VI).map .p)]⟩) Z Z) (mSq ⟨3,[3,5,7],(by4 (.some (dk [] 109000 109000)) (.some λ i=>Nat.beq i 33||Nat.beq i 42) .none .none),(λ _=>[(0,.ptr 1000000 0),(2,.p (eI k_2)),(6,.ptr 6 0),(7,.ptr 7 0)]),(by4 ([(6,bR),(7,(d9 (.p (eI k_2)) (.p (eS VA.1)) (.p (eS VA.2.1)) (.vec 33 11 0 ([VC.1].map ao)) (.p (eI U')))),(1000000,((ah.cs VI).map .p))]) ([(1000000,((ah.cs VP.2).map .p)),(6,bR),(7,(d9 (.p (eI k_2)) (.p (eS VA.1)) (.p (eS VA.2.1)) (.vec 33 11 0 ([VC.1].map ao)) (.p (eI U'))))]) ([(1000000,((ah.cs VP.2).map .p)),(6,bR),(7,(d9 (.p (eI k_2)) (.p (eS VA.1)) (.p (eS VA.2.1)) (.p (eL ao [VC.1])) (.p (eI U'))))]) ([(7,(d9 (.p (eI k_2)) (.p (eS VA.1)) (.p (eS VA.2.1)) (.vec 42 11 0 (([VC.1]++[VP.1]).map ao)) (.p (eI U')))),(1000000,((ah.cs VP.2).map .p)),(6,bR),(7,(d9 (.p (eI k_2)) (.p (eS VA.1)) (.p (eS VA.2.1)) (.p (eL ao [VC.1])) (.p (eI U'))))]))⟩ Z ?_);refine dPc (.ptr 7 9) Z (dP (by4 (.vec 33 11 0 ([VC.1].map ao)) (.vec 33 11 0 ([VC.1].map ao)) (.p (eL ao [VC.1])) (.p (eL ao [VC.1]))) Z ?_);refine dPc (.ptr 1000000 0) Z (dI (λ _=>.p (.agg (ab.cs VP.1))) [39] Z (λ sl UT K hK=>al Z (bq [1000000] [] 109000 109000 (HO.c e29) Z Z Z (aG (UT _ _ Z) bp) Z ⟨sr,trivial⟩ Z Z ⟨⟨_,Z,⟨sr,sr,sr,sr,sr,sr,sr,trivial⟩⟩,trivial⟩ Z Z Z Z Z Z Z Z HE.e Z Z hK)) ?_);refine dO (.p (eL ao [VP.1])) [40] Z (λ _ sl UT K hK=>al Z (bn ao [VP.1] Z Z Z Z Z Z (dz (UT _ _ Z) Z fp) Z Z Z Z Z Z kw hK)) (dI (λ _=>.vec 42 11 0 (([VC.1]++[VP.1]).map ao)) [38,41] Z (λ sl UT K hK=>al Z (fY ao [VC.1] [VP.1] Z Z Z Z Z Z Z Z (UT _ _ Z) Z Z (UT _ _ Z) Z (λ x=>congrArg List.length (ab.E' x)) Z Z Z Z aaw hK)) ?_);refine dPc (.ptr 7 9) Z (dS Z ?_);refine d5 (nx 6 Z ?_);refine bd h0 λ Wm h1 h0=>kN Wm (λ ZR=>⟨[(0,.ptr 1000000 0),(6,.ptr 6 0),(7,.ptr 7 0),(8,.p (eS ZR.1))],[(6,bR),(7,(d9 (.p (eI k_2)) (.p (eS VA.1)) (.p (eS VA.2.1)) (.vec 53 11 0 (ZR.2.1.map ao)) (.p (eI U')))),(1000000,(gg ZR.2.2))]⟩) ?_ ?_
   ·refine nx 2 Z (bd h0 λ o71 h1 h0=>?_);refine kN o71 (λ XK=>⟨[(0,.ptr 1000000 0),(6,.ptr 6 0),(7,.ptr 7 0),(8,.p (eS Wm.1))],[(6,bR),(7,(d9 (.p (eI k_2)) (.p (eS VA.1)) (.p (eS VA.2.1)) (.vec 64 11 0 (XK.1.map ao)) (.p (eI U')))),(1000000,(gg XK.2))]⟩) ?_ ?_
    ·exact J0
    refine nx 3 Z (K1 λ YZ h1=>?_);refine nx 1 Z (fB [56] h1 Z (λ c48 h1=>?_) λ c48 h1=>?_)
    ·refine nx 4 Z (K1 λ Wa h1=>?_);refine nx 1 Z (bd h1 λ VO e52 h1=>?_);refine cc' h1 λ aas h1=>mG (gE (t:=⟨[(0,.ptr 1000000 0),(6,.ptr 6 0),(7,.ptr 7 0),(8,.p (eS Wm.1))],[(6,bR),(7,(d9 (.p (eI k_2)) (.p (eS VA.1)) (.p (eS VA.2.1)) (.vec 53 11 0 (Wm.2.1.map ao)) (.p (eI U')))),(1000000,(ah.cs Wa.2).map .p)]⟩) Z Z) (mSq ⟨3,[3,5,7],(by4 (.some (dk [] 114000 114000)) (.some λ i=>Nat.beq i 53||Nat.beq i 64) .none .none),(λ _=>[(0,.ptr 1000000 0),(6,.ptr 6 0),(7,.ptr 7 0),(8,.p (eS Wm.1))]),(by4 ([(6,bR),(7,(d9 (.p (eI k_2)) (.p (eS VA.1)) (.p (eS VA.2.1)) (.vec 53 11 0 (Wm.2.1.map ao)) (.p (eI U')))),(1000000,((ah.cs Wa.2).map .p))]) ([(1000000,((ah.cs VO.2).map .p)),(6,bR),(7,(d9 (.p (eI k_2)) (.p (eS VA.1)) (.p (eS VA.2.1)) (.vec 53 11 0 (Wm.2.1.map ao)) (.p (eI U'))))]) ([(1000000,((ah.cs VO.2).map .p)),(6,bR),(7,(d9 (.p (eI k_2)) (.p (eS VA.1)) (.p (eS VA.2.1)) (.p (eL ao Wm.2.1)) (.p (eI U'))))]) ([(7,(d9 (.p (eI k_2)) (.p (eS VA.1)) (.p (eS VA.2.1)) (.vec 64 11 0 ((Wm.2.1++[VO.1]).map ao)) (.p (eI U')))),(1000000,((ah.cs VO.2).map .p)),(6,bR),(7,(d9 (.p (eI k_2)) (.p (eS VA.1)) (.p (eS VA.2.1)) (.p (eL ao Wm.2.1)) (.p (eI U'))))]))⟩ Z ?_);refine dPc (.ptr 7 9) Z (dP (by4 (.vec 53 11 0 (Wm.2.1.map ao)) (.vec 53 11 0 (Wm.2.1.map ao)) (.p (eL ao Wm.2.1)) (.p (eL ao Wm.2.1))) Z ?_);refine dPc (.ptr 1000000 0) Z (dI (λ _=>.p (.agg (ab.cs VO.1))) [61] Z (λ sl UT K hK=>al Z (bq [1000000] [] 114000 114000 (HO.c e52) Z Z Z (aG (UT _ _ Z) bp) Z ⟨sr,trivial⟩ Z Z ⟨⟨_,Z,⟨sr,sr,sr,sr,sr,sr,sr,trivial⟩⟩,trivial⟩ Z Z Z Z Z Z Z Z HE.e Z Z hK)) ?_);refine dO (.p (eL ao [VO.1])) [62] Z (λ _ sl UT K hK=>al Z (bn ao [VO.1] Z Z Z Z Z Z (dz (UT _ _ Z) Z fp) Z Z Z Z Z Z kw hK)) (dI (λ _=>.vec 64 11 0 ((Wm.2.1++[VO.1]).map ao)) [60,63] Z (λ sl UT K hK=>al Z (fY ao Wm.2.1 [VO.1] Z Z Z Z Z Z Z Z (UT _ _ Z) Z Z (UT _ _ Z) Z (λ x=>congrArg List.length (ab.E' x)) Z Z Z Z aas hK)) ?_);refine dPc (.ptr 7 9) Z (dS Z ?_);exact aB
    exact nx 2 Z (eX _ (oi h1).symm (aJ (aS 53 64 Z Z Z Z Z) (gE Z Z)))
   refine nx 5 Z (fD [45] h1 Z (λ ZA h1=>?_) λ ZA h1=>?_)
   ·refine nx 4 Z (K1 λ WU h1=>?_);refine nx 2 Z (bd h1 λ Vd e35 h1=>?_);refine cc' h1 λ X5 h1=>mG (gE (t:=⟨[(0,.ptr 1000000 0),(6,.ptr 6 0),(7,.ptr 7 0)],[(6,bR),(7,(d9 (.p (eI k_2)) (.p (eS VA.1)) (.p (eS VA.2.1)) (.vec 42 11 0 (([VC.1]++[VP.1]).map ao)) (.p (eI U')))),(1000000,(ah.cs WU).map .p)]⟩) Z Z) (mSq ⟨3,[3,5,7],(by4 (.some (dk [] 111000 111000)) (.some λ i=>Nat.beq i 42||Nat.beq i 53) .none .none),(λ _=>[(0,.ptr 1000000 0),(6,.ptr 6 0),(7,.ptr 7 0)]),(by4 ([(6,bR),(7,(d9 (.p (eI k_2)) (.p (eS VA.1)) (.p (eS VA.2.1)) (.vec 42 11 0 (([VC.1]++[VP.1]).map ao)) (.p (eI U')))),(1000000,((ah.cs WU).map .p))]) ([(1000000,((ah.cs Vd.2).map .p)),(6,bR),(7,(d9 (.p (eI k_2)) (.p (eS VA.1)) (.p (eS VA.2.1)) (.vec 42 11 0 (([VC.1]++[VP.1]).map ao)) (.p (eI U'))))]) ([(1000000,((ah.cs Vd.2).map .p)),(6,bR),(7,(d9 (.p (eI k_2)) (.p (eS VA.1)) (.p (eS VA.2.1)) (.p (eL ao ([VC.1]++[VP.1]))) (.p (eI U'))))]) ([(7,(d9 (.p (eI k_2)) (.p (eS VA.1)) (.p (eS VA.2.1)) (.vec 53 11 0 ((([VC.1]++[VP.1])++[Vd.1]).map ao)) (.p (eI U')))),(1000000,((ah.cs Vd.2).map .p)),(6,bR),(7,(d9 (.p (eI k_2)) (.p (eS VA.1)) (.p (eS VA.2.1)) (.p (eL ao ([VC.1]++[VP.1]))) (.p (eI U'))))]))⟩ Z ?_);refine dPc (.ptr 7 9) Z (dP (by4 (.vec 42 11 0 (([VC.1]++[VP.1]).map ao)) (.vec 42 11 0 (([VC.1]++[VP.1]).map ao)) (.p (eL ao ([VC.1]++[VP.1]))) (.p (eL ao ([VC.1]++[VP.1])))) Z ?_);refine dPc (.ptr 1000000 0) Z (dI (λ _=>.p (.agg (ab.cs Vd.1))) [50] Z (λ sl UT K hK=>al Z (bq [1000000] [] 111000 111000 (HO.c e35) Z Z Z (aG (UT _ _ Z) bp) Z ⟨sr,trivial⟩ Z Z ⟨⟨_,Z,⟨sr,sr,sr,sr,sr,sr,sr,trivial⟩⟩,trivial⟩ Z Z Z Z Z Z Z Z HE.e Z Z hK)) ?_);refine dO (.p (eL ao [Vd.1])) [51] Z (λ _ sl UT K hK=>al Z (bn ao [Vd.1] Z Z Z Z Z Z (dz (UT _ _ Z) Z fp) Z Z Z Z Z Z kw hK)) (dI (λ _=>.vec 53 11 0 ((([VC.1]++[VP.1])++[Vd.1]).map ao)) [49,52] Z (λ sl UT K hK=>al Z (fY ao ([VC.1]++[VP.1]) [Vd.1] Z Z Z Z Z Z Z Z (UT _ _ Z) Z Z (UT _ _ Z) Z (λ x=>congrArg List.length (ab.E' x)) Z Z Z Z X5 hK)) ?_);refine dPc (.ptr 7 9) Z (dS Z ?_);exact aB
   exact nx 2 Z (eX _ (oi h1).symm (aJ (aS 42 53 Z Z Z Z Z) (gE Z Z)))
  exact aB
 ·refine λ Sn=>hO good [] [1000000] Tryz.func204 Z Z λ r h0 _ w0 F=>?_;rw [gk] at h0;refine nx 10 Z (bd h0 λ Y4 h1 h0=>?_);refine kE 0 Y4 (λ Za=>⟨[(3,.vec 23 11 0 (Za.1.map ao))],[(1000000,(gg Za.2))]⟩) ?_ ?_
  ·exact J0
  refine lG (λ (Yv:(List ab)×(List af)×Int×Int×Int×Int×Int×Bk)=>⟨[(0,.ptr 1000000 0),(3,.vec 23 11 0 (Yv.1.map ao))],[(1000000,(gg Yv.2))]⟩) (λ m (Yv:(List ab)×(List af)×Int×Int×Int×Int×Int×Bk)=>cx n (aO n) (dN n) m Yv.1 Yv.2.1 Yv.2.2.1 Yv.2.2.2.1 Yv.2.2.2.2.1 Yv.2.2.2.2.2.1 Yv.2.2.2.2.2.2.1 Yv.2.2.2.2.2.2.2) Y ([],Sn.fl,Sn.fat,Sn.IT,Sn.IS,Sn.AI.Ar,Sn.AI.fAt,Sn.AI.AT) h1 (dZ (oh ⟨er rfl,⟨_,rfl,AV.sub_nilvec _ _ _⟩,trivial⟩ ⟨⟨_,rfl,⟨sr,sr,sr,sr,sr,sr,sr,trivial⟩⟩,trivial⟩)) ?_;rintro m ⟨Wk,VW,VL,Wx,VY,WB,Xz,Xy⟩ h1;replace h1:cx n (aO n) (dN n) (m+1) Wk VW VL Wx VY WB Xz Xy=some Y4:=h1;rw [cx] at h1;refine nx 2 rfl (bd h1 λ o92 h2 h1=>?_);refine kN o92 (λ v93=>⟨[(0,.ptr 1000000 0),(3,.vec 23 11 0 (Wk.map ao)),(11,.p (eB v93.1))],[(1000000,(gg v93.2))]⟩) ?_ ?_
  ·refine nx 1 Z (fB [11] h1 Z (λ c57 h1=>?_) λ c57 h1=>?_)
   ·refine nx 7 Z (K1 λ Wr h1=>?_);refine mO Z (bn ao [Wr.1] Z Z Z Z Z Z Z Z Z Z Z Z Z kw ?_);refine cc' h1 λ Xj h1=>mO Z (fY ao Wk [Wr.1] Z Z Z Z Z Z Z Z Z Z Z Z Z (λ x=>congrArg List.length (ab.E' x)) Z Z Z Z Xj ?_);refine nx 5 Z (K1 λ VN h1=>?_);refine nx 5 Z (K1 λ Xh h1=>?_);refine mO Z (bn ao [Xh.1] Z Z Z Z Z Z Z Z Z Z Z Z Z kw ?_);refine cc' h1 λ YJ h1=>mO Z (fY ao (Wk++[Wr.1]) [Xh.1] Z Z Z Z Z Z Z Z Z Z Z Z Z (λ x=>congrArg List.length (ab.E' x)) Z Z Z Z YJ ?_);exact aB
   exact aB
  exact dj
 ·refine λ Sn=>hO good [] [1000000] Tryz.func213 Z Z λ r h0 _ w0 F=>?_;rw [dN] at h0;exact J0
instance Oy (n:Nat):xd (jr n) 31:=(pR n).2.1
instance Dt (n:Nat):lV (aO n) 59:=(pR n).2.2.2.1
def pC (n:Nat)(O':Bk):Option (ab×az) :=(jr n O' 0).bind λ r1=>(jg n r1.1 r1.2).bind λ r3=>some (r3.1,r3.2)
instance OK (n:Nat) (O':Bk):∀ (r:ab×az),HP (pC n O'=some r) Tryz.prog 9 [eS O'] (.tuple [.p (.agg (ab.cs r.1)),.p (.agg (az.cs r.2))]):=by
 refine hP good Tryz.func9 Z Z λ r h0 _ w0=>?_;unfold pC at h0;exact J0
theorem uR (h:p:=by exact λ sl UT K hK=>al Z (bQ (HP.c Xv) Z Z Z (aG (UT _ _ Z) (aG (UT _ _ Z) bp)) ⟨sr,sr,trivial⟩ HE.e Z hK)):p:=h
set_option maxRecDepth 4000
abbrev lN:List AV:=[.p (eI 0),.p (eI 0),.p (eS ([]:Bk)),.p (eS ([]:Bk)),.p (eI 0),.p (eI 0),.p (eS ([]:Bk)),.p (.val (.slice none 0 0)),.p (.val (.slice none 0 0)),.p (.val (.slice none 0 0)),.p (eI 0)]
abbrev lU:List AV:=[.p (eI 0),.p (eI 0),.p (eS ([]:Bk))]
def qq (n:Nat)(l_0:List af)(U':Int):Option (ab×Int×az) :=((nV n l_0).bind λ r1=>if r1=0 then if U'<0 then some true else some (decide ((l_0.length:Int)<=U'))else some true).bind λ t5=>if t5=true then some ((ab.mk 0 0 ([]:Bk) ([]:Bk) (ag.mk 0 0 ([]:Bk) [] []) [] 0),0,(az.mk 1 0 ([]:Bk)))else(aO n (ah.mk l_0 U' 0 0 (az.mk 0 0 ([]:Bk)))).bind λ r7=>(jg n r7.1 r7.2.AI).bind λ r9=>if r9.2.Ar=0 then some (r9.1,r7.2.fat,(az.mk 0 0 ([]:Bk)))else some ((ab.mk 0 0 ([]:Bk) ([]:Bk) (ag.mk 0 0 ([]:Bk) [] []) [] 0),0,r9.2)
instance Q0 (n:Nat) (l_0:List af) (U':Int):∀ (r:ab×Int×az),HP (qq n l_0 U'=some r) Tryz.prog 127 [eL aE l_0,eI U'] (.tuple [.p (.agg (ab.cs r.1)),.p (eI r.2.1),.p (.agg (az.cs r.2.2))]):=by
 refine hP good Tryz.func127 Z Z λ r h0 _ w0=>?_;unfold qq at h0;refine nx 8 Z (bd h0 λ o13 h1 h0=>?_);refine kN o13 (λ v14=>⟨[(0,.p (eL aE l_0)),(1,.p (eI U')),(4,.ptr 4 0),(6,.ptr 6 0),(23,.p (eB v14))],[(4,lN),(6,lU)]⟩) ?_ ?_
 ·refine nx 1 Z (fB [23] h0 Z (λ c6 h0=>?_) λ c6 h0=>?_)
  ·exact nx 10 Z (mQ (oi h0) Z (fI ⟨iz ⟨.inl Z,.inl Z,.inl Z,.inl Z,.inl Z,.inl Z,.inl Z,.inr ⟨Z,Z⟩,.inr ⟨Z,Z⟩,.inr ⟨Z,Z⟩,.inl Z,trivial⟩,sr,sr,trivial⟩))
  refine nx 13 Z (K0 λ r7 h0=>?_);refine nx 4 Z (bd h0 λ r9 Xv h0=>?_);refine mG (gE (t:=⟨[(4,.ptr 4 0),(6,.ptr 6 0),(7,.ptr 29 0),(8,.ptr 8 0)],[(4,lN),(6,lU),(8,(ab.cs r7.1).map .p),(29,(ah.cs r7.2).map .p)]⟩) Z Z) (mSS ⟨4,[9,10,11,12],(by5 (.some λ i=>Nat.beq i 9) (.some λ i=>Nat.beq i 10) .none .none .none),(λ _=>[(4,.ptr 4 0),(6,.ptr 6 0),(7,.ptr 29 0),(8,.ptr 8 0)]),(ob5 ([(4,lN),(6,lU),(8,((ab.cs r7.1).map .p)),(29,((ah.cs r7.2).map .p))]) (9,lN) (10,lU) (9,((ab.cs r9.1).map .p)) (10,((az.cs r9.2).map .p)))⟩ ⟨4,[10,9,11,12],(by5 (.some λ i=>Nat.beq i 10) (.some λ i=>Nat.beq i 9) .none .none .none),(λ _=>[(4,.ptr 4 0),(6,.ptr 6 0),(7,.ptr 29 0),(8,.ptr 8 0)]),(ob5 ([(4,lN),(6,lU),(8,((ab.cs r7.1).map .p)),(29,((ah.cs r7.2).map .p))]) (10,lU) (9,lN) (9,((ab.cs r9.1).map .p)) (10,((az.cs r9.2).map .p)))⟩ Z Z Z Z Z Z Z ⟨Z,Z,Z,Z,trivial⟩ Z (lt4 ⟨Z,Z,Z,Z,trivial⟩ ⟨Z,Z,Z,Z,trivial⟩ ⟨Z,Z,Z,Z,trivial⟩ ⟨Z,Z,Z,Z,trivial⟩) (lt4 ⟨Z,Z,Z,Z,trivial⟩ ⟨Z,Z,Z,Z,trivial⟩ ⟨Z,Z,Z,Z,trivial⟩ ⟨Z,Z,Z,Z,trivial⟩) Z Z Z Z Z ?_);refine dPc (.p (.agg (ab.cs r7.1))) Z (dPc (.ptr 29 0) Z ?_);refine dPc (.ptr 29 0) Z (dPc (.ptr 29 4) Z ?_);refine dPc (.p (.agg (az.cs r7.2.AI))) Z (kQ (λ _=>.tuple [.p (.agg (ab.cs r9.1)),.p (.agg (az.cs r9.2))]) Z Z Z (all5 Z Z Z Z Y) (lt4 Z Z Z Z) (ga Z (ga Z (fX [(33,_),(37,_)] ⟨.inr ⟨0,_,Z,Z,Z⟩,.inr ⟨4,_,Z,Z,Z⟩,trivial⟩ uR (fX [(33,_),(37,_)] ⟨.inr ⟨0,_,Z,Z,Z⟩,.inr ⟨4,_,Z,Z,Z⟩,trivial⟩ uR (fX [(33,_),(37,_)] ⟨.inr ⟨0,_,Z,Z,Z⟩,.inr ⟨4,_,Z,Z,Z⟩,trivial⟩ uR j7))))) ?_);refine dPc (.tuple [.p (.agg (ab.cs r9.1)),.p (.agg (az.cs r9.2))]) Z (dPc (.p (.agg (ab.cs r9.1))) Z ?_);refine dPc (.p (.agg (az.cs r9.2))) Z (rI (λ _=>.ptr 9 0) [] Z trivial Z Z (Cn Z Z Z Y) (lt4 (λ h=>absurd h (by decide)) Y Y Y) pT ?_);refine rI (λ _=>.ptr 10 0) [] Z trivial Z Z (SS Z Z Y) (lt4 (λ h=>absurd h (by decide)) (λ h=>absurd h (by decide)) Y Y) pT (dS Z ?_);refine dS Z (xK (dPc (.p (.agg (ab.cs r7.1))) Z (dPc (.ptr 29 0) Z (dPc (.ptr 29 0) Z (dPc (.ptr 29 4) Z (dPc (.p (.agg (az.cs r7.2.AI))) Z (kQ (λ _=>.tuple [.p (.agg (ab.cs r9.1)),.p (.agg (az.cs r9.2))]) Z Z Z (all5 Z Z Z Z Y) (lt4 Z Z Z Z) (ga Z (ga Z (fX [(33,_),(37,_)] ⟨.inr ⟨0,_,Z,Z,Z⟩,.inr ⟨4,_,Z,Z,Z⟩,trivial⟩ uR (fX [(33,_),(37,_)] ⟨.inr ⟨0,_,Z,Z,Z⟩,.inr ⟨4,_,Z,Z,Z⟩,trivial⟩ uR (fX [(33,_),(37,_)] ⟨.inr ⟨0,_,Z,Z,Z⟩,.inr ⟨4,_,Z,Z,Z⟩,trivial⟩ uR j7))))) (dPc (.tuple [.p (.agg (ab.cs r9.1)),.p (.agg (az.cs r9.2))]) Z (dPc (.p (.agg (ab.cs r9.1))) Z (dPc (.p (.agg (az.cs r9.2))) Z (rI (λ _=>.ptr 9 0) [] Z trivial Z Z (SS Z Z Y) (lt4 (λ h=>absurd h (by decide)) (λ h=>absurd h (by decide)) Y Y) pT (rI (λ _=>.ptr 10 0) [] Z trivial Z Z (Cn Z Z Z Y) (lt4 (λ h=>absurd h (by decide)) Y Y Y) pT (dS Z (dS Z (NY Z ⟨Z,Z,Z,Z,Z,Z,Z,Z,trivial⟩ ⟨⟨Z,Z,.inl Z⟩,⟨⟨Z,Z,.inl Z⟩,⟨⟨Z,Z,.inr Z⟩,⟨⟨Z,Z,.inr Z⟩,⟨⟨Z,Z,.inr Z⟩,⟨⟨Z,Z,.inr Z⟩,⟨⟨Z,Z,.inr Z⟩,⟨⟨Z,Z,.inr Z⟩,⟨⟨Z,Z,.inr Z⟩,⟨⟨Z,Z,.inr Z⟩,⟨⟨Z,Z,.inr Z⟩,trivial⟩⟩⟩⟩⟩⟩⟩⟩⟩⟩⟩)))))))))))))) ?_);refine nx 8 Z (fN [43] h0 Z (λ Xa h0=>?_) λ Xa h0=>?_)
  ·refine nx 3 Z (mG (gE (t:=⟨[(4,.ptr 4 0),(6,.ptr 6 0),(7,.ptr 29 0),(9,.ptr 9 0)],[(4,lN),(6,lU),(9,(ab.cs r9.1).map .p),(29,(ah.cs r7.2).map .p)]⟩) Z Z) ?_);refine mSq ⟨2,[6,8],(λ _=>.none),(λ _=>[(4,.ptr 4 0),(6,.ptr 6 0),(7,.ptr 29 0),(9,.ptr 9 0)]),(ob3 ([(4,lN),(6,lU),(9,((ab.cs r9.1).map .p)),(29,((ah.cs r7.2).map .p))]) (4,((ab.cs r9.1).map .p)) (6,lU))⟩ Z (dPc (.p (.agg (ab.cs r9.1))) Z ?_);refine dPc (.ptr 29 0) Z (dPc (.ptr 29 0) Z ?_);refine dPc (.ptr 29 1) Z (dPc (.p (eI r7.2.fat)) Z ?_);refine dPc (.p (.agg [eI 0,eI 0,eS ([]:Bk)])) Z (dS Z ?_);refine dPc (.p (eI r7.2.fat)) Z (dS Z ?_);refine d5 (nx 2 Z ?_);exact mQ (oi h0) Z (fI ⟨sr,sr,sr,trivial⟩)
  refine nx 2 Z (mG (gE (t:=⟨[(4,.ptr 4 0),(6,.ptr 6 0),(10,.ptr 10 0)],[(4,lN),(6,lU),(10,(az.cs r9.2).map .p)]⟩) Z Z) ?_);refine mSq ⟨2,[2,4],(λ _=>.none),(λ _=>[(4,.ptr 4 0),(6,.ptr 6 0),(10,.ptr 10 0)]),(ob3 ([(4,lN),(6,lU),(10,((az.cs r9.2).map .p))]) (4,lN) (6,((az.cs r9.2).map .p)))⟩ Z (dPc (.p (.agg [eI 0,eI 0,eS ([]:Bk),eS ([]:Bk),eI 0,eI 0,eS ([]:Bk),.val (.slice none 0 0),.val (.slice none 0 0),.val (.slice none 0 0),eI 0])) Z ?_);refine dPc (.p (.agg (az.cs r9.2))) Z (dS Z ?_);refine dPc (.p (eI 0)) Z (dS Z ?_);refine d5 (nx 2 Z ?_);exact mQ (oi h0) Z (fI ⟨iz ⟨.inl Z,.inl Z,.inl Z,.inl Z,.inl Z,.inl Z,.inl Z,.inr ⟨Z,Z⟩,.inr ⟨Z,Z⟩,.inr ⟨Z,Z⟩,.inl Z,trivial⟩,sr,sr,trivial⟩)
 refine nx 2 Z (K1 λ r1 h1=>nx 2 Z ?_);refine fN [13,14] h1 Z (λ c3 h1=>?_) λ c3 h1=>?_
 ·refine nx 4 Z (fD [16,17,18] h1 Z (λ c4 h1=>?_) λ c4 h1=>?_)
  ·exact nx 6 Z n0
  refine nx 2 Z (oLl (f:=aE) Z Z ?_);exact nx 3 Z n0
 exact nx 10 Z n0
end Go.Ab.R06
end
section
namespace Go.Ab.R06
open Go.Ab Go.Ab.RB Go.Lib
variable {p:Prop}
theorem tH (h:p:=by
 exact ar O (ac Z)):p:=h
theorem ti (h:p:=by exact ar G (ac Z)):p:=h
theorem A1 (h:p:=by exact aA (tT s (b::r) o d) Z):p:=h
theorem EU (h:p:=by exact am (by grind) (ac Z)):p:=h
def pz (s l:Bk):Int:=(s.length:Int)-(l.length:Int)
theorem FB {s l:Bk}(h:l <:+ s):pz s l=((s.length-l.length:Nat):Int):=by
 grind [pz]
theorem xE {s l:Bk}(h:l <:+ s):s.drop (s.length-l.length)=l:=by
 obtain ⟨t,rfl⟩:=h;simp
theorem mx {s r:Bk}{b:UInt8}(h:(b::r) <:+ s):r <:+ s:=(List.suffix_cons b r).trans h
theorem GO {s l:Bk}(k:Nat)(h:l <:+ s):l.drop k <:+ s:=(List.drop_suffix k l).trans h
theorem sw {s r:Bk}{b:UInt8}:pz s r=pz s (b::r)+1:=by
 grind [pz]
theorem wA {s l:Bk}{k:Nat}(hk:k<=l.length):pz s (l.drop k)=pz s l+(k:Int):=by
 grind [pz]
theorem Gs {s l:Bk}(h:l <:+ s):0<=pz s l:=by grind [pz]
theorem Rt {s l:Bk}:pz s l<=s.length:=by grind [pz]
theorem F0 {s r:Bk}{b:UInt8}:pz s (b::r)<s.length:=by grind [pz]
theorem Gx (s:Bk):pz s s=0:=by grind [pz]
theorem qU {s r:Bk}{b:UInt8}(h:(b::r) <:+ s):byt s (pz s (b::r))=(b.toNat:Int):=by
 rw [FB h,f0];have h1:=xE h
 grind [List.drop_eq_getElem_cons]
theorem uA {s l:Bk}(h:l <:+ s):sub s (pz s l) (s.length:Int)=l:=by
 simp_all [mw,FB,xE]
theorem G7 {s l l':Bk}(h:l <:+ s)(h':l' <:+ l):sub s (pz s l) (pz s l')=l.take (l.length-l'.length):=by
 grind [FB,qJ,List.drop_take,xE]
def ku (b:UInt8):Bool:=decide (b.toNat=32)||decide (b.toNat=9)||decide (b.toNat=13)
def nC (b:UInt8):Nat:=if kD b then 2 else if hQ b then 3 else if b.toNat=34 then 5 else if b.toNat=10 then 6 else if b.toNat=35 then 7 else if ku b then 1 else if (lat kd (b.toNat:Int)).toNat=4 then 4 else 0
theorem Uo:(List.range 256).all (λ n=>(lat kd ((UInt8.ofNat n).toNat:Int)).toNat==nC (UInt8.ofNat n))=true:=by decide +kernel
theorem vz (b:UInt8):(lat kd (b.toNat:Int)).toNat=nC b:=by
 grind [Uo,UInt8.toNat_lt,UInt8.ofNat_toNat]
theorem u6 {s r:Bk}{b:UInt8}(h:(b::r) <:+ s):(0:Int)<=byt s (pz s (b::r))/\byt s (pz s (b::r))<256:=by
 grind [qU,UInt8.toNat_lt]
theorem rQ {s r:Bk}{b:UInt8}(h:(b::r) <:+ s):(0:Int)<=pz s (b::r)/\pz s (b::r)<(s.length:Int):=⟨Gs h,F0⟩
theorem lL (b:UInt8):(nC b=1↔ku b=true)/\(nC b=2↔kD b=true)/\(nC b=3↔hQ b=true)/\(nC b=5↔b.toNat=34)/\(nC b=6↔b.toNat=10)/\(nC b=7↔b.toNat=35):=by
 have h1:=rW b;have h2:=ns b;have h3:ku b=true↔b.toNat=32\/b.toNat=9\/b.toNat=13:=by grind [ku]
 unfold nC
 repeat' split
 all_goals grind
def scx (s l:Bk)(o:Int)(d:az):ae:=.mk s (pz s l) o d
theorem tT (s l:Bk)(o:Int)(d:az):bO (scx s l o d)=some (!l.isEmpty,scx s l o d):=by
 unfold bO scx;simp only [bx,Prod.mk.injEq,and_true]
 cases l with
 | nil=>simp [pz]
 | cons b r=>grind [F0]
def fw (c:Bool)(l:Bk):Bk :=
 match l.dropWhile ku with
 | b::r=>if c&&decide (b.toNat=35) then (b::r).dropWhile (λ x=>!decide (x=10)) else b::r
 | []=>[]
theorem xQ {p:UInt8->Bool}(l:Bk):l.dropWhile p <:+ l:=List.dropWhile_suffix p
theorem mW (c:Bool)(l:Bk):fw c l <:+ l:=by
 grind [fw,xQ]
theorem BN:∀ (l:Bk),(indexByte l 10<0->l.dropWhile (λ x=>!decide (x=10))=[])/\(0<=indexByte l 10->l.dropWhile (λ x=>!decide (x=10))=l.drop (indexByte l 10).toNat/\(indexByte l 10).toNat<l.length)
 | []=>by simp [indexByte]
 | b::r=>by
  have ih:=BN r;have hge:=indexByte_ge r 10;unfold indexByte;by_cases h:b=10
  ·subst h; simp
  ·rw [if_neg (by grind)];simp only [List.dropWhile_cons,h,decide_false,Bool.not_false,if_true];by_cases hn:indexByte r 10<0
   ·grind
   ·rw [if_neg (by grind)];have:=ih.2 O;refine ⟨λ h=>by omega,λ _=>⟨?_,?_⟩⟩
    ·rw [this.1,show (indexByte r 10+1).toNat=(indexByte r 10).toNat+1 by omega,List.drop_succ_cons]
    grind
theorem UK (l:Bk):strings_IndexByte l 10=some (indexByte l 10):=rfl
theorem zp {s r:Bk}{b:UInt8}{o:Int}{d:az}(h:(b::r) <:+ s)(h1:nC b≠1)(h7:¬ (nC b=7/\o<0)):Ev2 (λ _ m=>bH m (scx s (b::r) o d)) (·=.inr (scx s (b::r) o d)):=by
 refine aM ?_;simp only [bH];refine ak _ A1 (ap G ?_);simp only [scx];refine am (rQ h) (am (u6 h) ?_);simp only [qU h,vz];refine kt _ (ar O ?_) rfl;by_cases h7':nC b=7
 ·exact ak false (ap O (ac (decide_eq_false O))) ti
 ·exact ak false AO ti
theorem CC {s:Bk}{o:Int}{d:az}:Ev2 (λ _ m=>bH m (scx s [] o d)) (·=.inl (scx s [] o d)):=by
 simp_all [aM,bH,tT,ac]
def skR (c:Bool)(l:Bk)(x:ae):ae⊕ae:=if (fw c l).isEmpty then .inl x else .inr x
theorem FV (s:Bk)(hs:s.length<=1000000000)(o:Int)(d:az):∀ (l:Bk),l <:+ s->Ev2 (λ _ m=>bH m (scx s l o d)) (·=skR (decide (o<0)) l (scx s (fw (decide (o<0)) l) o d))
 | [],_=>CC
 | b::r,h=>by
  by_cases h1:nC b=1
  ·have hb:=(lL b).1.1 h1
   have e:fw (decide (o<0)) (b::r)=fw (decide (o<0)) r:=by
    grind [fw,List.dropWhile_cons_of_pos]
   unfold skR;rw [e];have ih:=FV s hs o d r (mx h);unfold skR at ih;refine aM ?_;simp only [bH];refine ak _ A1 (ap G ?_);simp only [scx];have:=rQ h;refine am (rQ h) (am (u6 h) ?_);simp only [qU h,vz];refine ez (scx s r o d) (ap O (am aV (ac ?_))) ih
   grind [scx,sw]
  ·have hb:¬ ku b=true:=λ q=>h1 ((lL b).1.2 q);have e0:(b::r).dropWhile ku=b::r:=List.dropWhile_cons_of_neg hb;by_cases h7:nC b=7/\o<0
   ·have h35:=(lL b).2.2.2.2.2.1 h7.1
    have e:fw (decide (o<0)) (b::r)=(b::r).dropWhile (λ x=>!decide (x=10)):=by
     grind [fw]
    have hsf:(b::r).dropWhile (λ x=>!decide (x=10)) <:+ s:=(xQ _).trans h;have hi:=BN (b::r);have VD:=rQ h;have hge:=indexByte_ge (b::r) 10;unfold skR;rw [e];refine aM ?_;simp only [bH];refine ak _ A1 (ap G ?_);simp only [scx];refine am (rQ h) (am (u6 h) ?_);simp only [qU h,vz];refine ez (scx s ((b::r).dropWhile (λ x=>!decide (x=10))) o d) (ar O (ak true (ap O (ac (decide_eq_true h7.2))) (ap Z (am O ?_)))) ?_
    ·rw [uA h];refine ak _ (aA (UK _) rfl) ?_;by_cases hn:indexByte (b::r) 10<0
     ·rw [hi.1 hn];refine ak ((s.length:Int)-pz s (b::r)) (ap hn xP) (am aV (ac ?_))
      grind [scx,pz]
     ·have hh:=hi.2 O;rw [hh.1];refine ak (indexByte (b::r) 10) (ar hn (ac Z)) (am gz (ac ?_))
      grind [scx,wA]
    ·generalize hq:(b::r).dropWhile (λ x=>!decide (x=10))=q at hsf
     cases q with
     | nil=>exact CC
     | cons c t=>
      have hc:c=10:=by
       grind [List.head?_dropWhile_not]
      subst hc;exact zp hsf (by decide) (λ q=>absurd q.1 (by decide))
   ·have e:fw (decide (o<0)) (b::r)=b::r:=by
     grind [fw,lL]
    simp_all [skR,zp]
theorem Gn (s l:Bk)(hs:s.length<=1000000000)(h:l <:+ s)(o:Int)(d:az):Ev2 (λ n _=>fK n (scx s l o d)) (·=scx s (fw (decide (o<0)) l) o d):=by
 simp only [fK];refine gh (cH (bc (f:=λ _ m=>bH m (scx s l o d)) (FV s hs o d l h)) λ r hr=>?_);subst hr;unfold skR;split
 ·rename_i hx;split at hx
  ·simp_all [ac]
  ·cases hx
 grind
def vb:List Bk:=[[61,62],[61,61],[33,61],[60,61],[62,61],[38,38],[124,124]]
def yU:Bk:=[123,125,91,93,40,41,44,61,60,62,43,45,42,47,37,33,63,58,46]
def S5:Bk->Bk|[]=>[]|b::_=>if indexByte yU b<0 then [] else [b]
theorem zt (b:UInt8)(r:Bk):S5 (b::r)=if indexByte yU b<0 then [] else [b]:=rfl
def iU (l:Bk):Bk:=match vb.find? (λ t=>hasPrefix l t) with
 | some t=>t
 | none=>S5 l
theorem L8 (l:Bk):∀ (j k:Nat),k+j=7->Ev2 (λ _ m=>ec l m (k:Int)) (·=match (vb.drop k).find? (λ t=>hasPrefix l t) with|some t=>.inr t|none=>.inl ())
 | 0,k,hk=>by
  have:k=7:=by omega
  subst this;refine aM ?_;simp only [ec];exact tH
 | j+1,k,hk=>by
  have hk7:k<vb.length:=by show k<7; omega
  refine aM ?_;simp only [ec];refine ap O (am O ?_);have e:lat ([([61,62]:Bk),([61,61]:Bk),([33,61]:Bk),([60,61]:Bk),([62,61]:Bk),([38,38]:Bk),([124,124]:Bk)]:List Bk) (k:Int)=vb[k]:=me vb k hk7;rw [e,List.drop_eq_getElem_cons hk7,List.find?_cons];refine ak (hasPrefix l vb[k]) (aA Z Z) ?_
  cases hp:hasPrefix l vb[k]
  ·refine ar G (am aV ?_);exact L8 l j (k+1) O
  simp_all [ac]
theorem ze (l:Bk)(hl:l.length<=1000000000):Ev2 (λ n _=>ke n l) (·=iU l):=by
 simp only [ke];refine gh (cH (bc (f:=λ _ m=>ec l m 0) (L8 l 7 0 rfl)) λ r hr=>?_);subst hr;unfold iU;rw [List.drop_zero]
 cases vb.find? (λ t=>hasPrefix l t) with
 | some t=>rfl
 | none=>
  cases l with
  | nil=>exact ak true (ap Z (ac Z)) (ap Z (ac Z))
  | cons b r=>
   have hb:byt (b::r) 0=(b.toNat:Int):=rfl;refine ak (decide (indexByte yU b<0)) (ar G (am (by grind) ?_)) ?_
   ·rw [hb];simp [indexByte,yU,ac,strings_IndexByte]
   ·simp only [zt];by_cases h:indexByte yU b<0
    ·simp_all [ac]
    ·rw [if_neg h];exact ar (by grind) EU
theorem yq {l:Bk}(hs:iU l≠[]):1<=(iU l).length/\(iU l).length<=l.length:=by
 have h0:1<=(iU l).length:=by grind
 refine ⟨h0,?_⟩;unfold iU
 cases h:vb.find? (λ t=>hasPrefix l t) with
 | some t=>exact hasPrefix_le (List.find?_some h)
 | none=>
  cases l with
  | nil=>exact bt _
  | cons b r=>
   grind [zt]
def lX:Bk->Bool|[]=>false|b::r=>kD b||hQ b||decide (b.toNat=34)||decide (b.toNat=10)||!(iU (b::r)).isEmpty
theorem gA (b:UInt8)(r:Bk):lX (b::r)=(kD b||hQ b||decide (b.toNat=34)||decide (b.toNat=10)||!(iU (b::r)).isEmpty):=rfl
theorem vJ (s:Bk)(hs:s.length<=1000000000){b:UInt8}{r:Bk}(h:(b::r) <:+ s)(o:Int)(d:az):Ev2 (λ n _=>dM n (scx s (b::r) o d)) (·=(lX (b::r),scx s (b::r) o d)):=by
 obtain ⟨f1,f2,f3,f4,f5,f6⟩:=lL b;have VD:=rQ h;simp only [dM,scx];refine am VD (am (u6 h) ?_);simp only [qU h,vz];refine ak (kD b||hQ b||decide (b.toNat=34)||decide (b.toNat=10)) (aH (λ q=>ac ?_) (λ q2=>aH (λ q=>ac ?_) (λ q3=>aH (λ q=>ac ?_) (λ q5=>ac ?_)))) ?_
 ·grind
 ·grind
 ·grind
 ·grind
 ·refine aH (λ q=>ac ?_) (λ q=>am ⟨VD.1,by omega,by omega⟩ ?_)
  ·rw [gA,q]; rfl
  ·rw [uA h];refine ak _ (ze (b::r) (by grind)) (ac ?_);rw [Bool.not_eq_true] at q;rw [gA,q,Bool.false_or];congr 1
   grind
theorem Ll (s:Bk)(hs:s.length<=1000000000)(o:Int)(d:az)(p:UInt8->Bool)(x y:Nat)(hp:∀ c,p c=true↔nC c=x\/nC c=y):∀ (l:Bk),l <:+ s->Ev2 (λ _ m=>cz (x:Int) (y:Int) m (scx s l o d)) (·=scx s (l.dropWhile p) o d)
 | [],_=>by
  refine aM ?_;simp only [cz];refine ak (false,scx s [] o d) (ak _ (aA (tT s [] o d) Z) ti) ti
 | b::r,h=>by
  have VD:=rQ h;refine aM ?_;simp only [cz];refine ak (p b,scx s (b::r) o d) (ak _ A1 (ap G ?_)) ?_
  ·simp only [scx];refine am VD (am (u6 h) ?_);simp only [qU h,vz];refine aH (λ q=>ac ?_) (λ q=>am VD (am ?_ (ac ?_)))
   ·grind
   ·grind [UInt8.toNat_lt]
   ·congr 1
    grind
  ·cases hb:p b
   ·simp_all [ac]
   ·rw [List.dropWhile_cons_of_pos hb];refine ap rfl ?_;simp only [scx];refine am aV ?_;rw [<- show pz s r=pz s (b::r)+1 from sw];exact Ll s hs o d p x y hp r (mx h)
theorem Rm (p:UInt8->Bool)(l:Bk):l.take (l.length-(l.dropWhile p).length)=l.takeWhile p:=by
 grind [List.takeWhile_append_dropWhile,List.length,List.length_append,List.take_of_length_le]
theorem E1 (s l:Bk)(hs:s.length<=1000000000)(h:l <:+ s)(o:Int)(d:az)(p:UInt8->Bool)(x y:Nat)(hp:∀ c,p c=true↔nC c=x\/nC c=y):Ev2 (λ n _=>fV n (scx s l o d) (x:Int) (y:Int)) (·=(l.takeWhile p,scx s (l.dropWhile p) o d)):=by
 simp only [fV];refine ak _ (bc (f:=λ _ m=>cz (x:Int) (y:Int) m (scx s l o d)) (Ll s hs o d p x y hp l h)) ?_;simp only [scx];have h1:=Gs h;have h2:pz s l<=pz s (l.dropWhile p):=by grind [xQ,pz]
 simp_all [am,Rt,ac,G7,xQ,Rm]
theorem LK (c:UInt8):idB c=true↔nC c=2\/nC c=3:=by
 grind [lL,idB]
theorem PM (c:UInt8):hQ c=true↔nC c=3\/nC c=3:=by
 grind [lL]
theorem Ax (s l:Bk)(o:Int)(d:az)(k a:Int):cZ (scx s l o d) k a=some (false,scx s l o (az.mk k a [])):=rfl
theorem Qe (s:Bk)(hs:s.length<=1000000000){b:UInt8}{r:Bk}(h:(b::r) <:+ s)(o:Int)(d:az):Ev2 (λ _ _=>ep (scx s (b::r) o d)) (·=if mC (decodeL (b::r)) then (false,scx s (b::r) o d) else (true,scx s ((b::r).drop (decodeL (b::r)).2) o d)):=by
 have VD:=rQ h;simp only [ep,scx];refine am ⟨VD.1,by omega,by omega⟩ ?_;rw [uA h]
 have hd:bo (b::r)=some (((decodeL (b::r)).1:Int),((decodeL (b::r)).2:Int)):=by
  grind [bo,jt]
 refine ak _ (aA hd rfl) ?_;have hdf:=ja (b::r) G;have Pn:=h.length_le;generalize decodeL (b::r)=D at hdf ⊢;obtain ⟨c,w⟩:=D;simp only at hdf ⊢
 have hbad:Ev2 (λ _ _=>(if (c:Int)=65533 then if (w:Int)=1 then some true else if (c:Int)<32 then some true else some (decide ((c:Int)=127)) else if (c:Int)<32 then some true else some (decide ((c:Int)=127)):Option Bool)) (·=decide (mC (c,w))):=by
  exact MJ
 refine ak _ hbad ?_;by_cases hb:mC (c,w)
 ·simp_all [ac]
 ·rw [if_neg hb];refine ar (by grind) (am (fL O (by grind)) (ac ?_));rw [wA hdf.2.1]
theorem E2 (h:p:=by
 exact ap (by rw [hx.1]; rfl) (ac ⟨Z,hx.2⟩)):p:=h
theorem FA (h:p:=by exact fL (by show _<=pz s (b::r)+1; omega) (by show pz s (b::r)+1<=_; omega)):p:=h
theorem Me (h:p:=by exact ak _ (aA (Ax _ _ _ _ _ _) Z) (ac ⟨Z,Z⟩)):p:=h
theorem SX (h:p:=by show pz s (b::r)+1<=_; omega):p:=h
theorem EN (h:p:=by exact aA (Ax _ _ _ _ _ _) Z):p:=h
abbrev SE:=Int×Option Nat
def my (src:Bk->SE⊕Bk):Bk->SE⊕(Int×Bk×Bk)
 | []=>.inl (2,some 0)
 | b::r=>if kD b=true then (if 64<((b::r).takeWhile idB).length then .inl (7,some (b::r).length) else .inr (1,(b::r).takeWhile idB,(b::r).dropWhile idB))
  else if hQ b=true then .inr (2,(b::r).takeWhile hQ,(b::r).dropWhile hQ)
  else if b.toNat=10 then .inr (5,[10],r)
  else if b.toNat=34 then (match src r with|.inl e=>.inl e|.inr r'=>.inr (3,r.take (r.length-r'.length-1),r'))
  else if iU (b::r)=[] then .inl (2,some (b::r).length) else .inr (4,iU (b::r),(b::r).drop (iU (b::r)).length)
mutual
def ig:Nat->Nat->Bk->SE⊕Bk
 | 0,_,_=>.inl (40,none)
 | _+1,_,[]=>.inl (40,none)
 | f+1,k,b::r=>if b.toNat=34 then .inr r
  else if hasPrefix (b::r) [36,36,123]=true then ig f k ((b::r).drop 3)
  else if hasPrefix (b::r) [36,123]=true then (if 32<=k then .inl (4,some (b::r).length) else match mB f (k+1) 1 ((b::r).drop 2) with|.inl e=>.inl e|.inr l=>ig f k l)
  else match (if b.toNat=92 then r else b::r) with
   | []=>.inl (40,none)
   | c::t=>if mC (decodeL (c::t)) then .inl (2,some (c::t).length) else ig f k ((c::t).drop (decodeL (c::t)).2)
def mB:Nat->Nat->Nat->Bk->SE⊕Bk
 | 0,_,_,_=>.inl (40,none)
 | f+1,k,n,l=>match fw false l with
  | []=>.inl (40,none)
  | b::r=>match my (ig f k) (b::r) with
   | .inl e=>.inl e
   | .inr (c,t,l')=>if c=4/\t=[125] then (if n=1 then .inr l' else mB f k (n-1) l') else if c=4/\t=[123] then mB f k (n+1) l' else mB f k n l'
end
theorem jc (src:Bk->SE⊕Bk)(b:UInt8)(r:Bk):my src (b::r)=if kD b=true then (if 64<((b::r).takeWhile idB).length then .inl (7,some (b::r).length) else .inr (1,(b::r).takeWhile idB,(b::r).dropWhile idB))
  else if hQ b=true then .inr (2,(b::r).takeWhile hQ,(b::r).dropWhile hQ)
  else if b.toNat=10 then .inr (5,[10],r)
  else if b.toNat=34 then (match src r with|.inl e=>.inl e|.inr r'=>.inr (3,r.take (r.length-r'.length-1),r'))
  else if iU (b::r)=[] then .inl (2,some (b::r).length) else .inr (4,iU (b::r),(b::r).drop (iU (b::r)).length):=rfl
theorem oy (f k:Nat)(b:UInt8)(r:Bk):ig (f+1) k (b::r)=if b.toNat=34 then .inr r
  else if hasPrefix (b::r) [36,36,123]=true then ig f k ((b::r).drop 3)
  else if hasPrefix (b::r) [36,123]=true then (if 32<=k then .inl (4,some (b::r).length) else match mB f (k+1) 1 ((b::r).drop 2) with|.inl e=>.inl e|.inr l=>ig f k l)
  else match (if b.toNat=92 then r else b::r) with
   | []=>.inl (40,none)
   | c::t=>if mC (decodeL (c::t)) then .inl (2,some (c::t).length) else ig f k ((c::t).drop (decodeL (c::t)).2):=by rw [ig]; rfl
def JW (q:Nat->Bk->SE⊕Bk)(n:Nat):SE⊕(Int×Bk×Bk)->SE⊕Bk|.inl e=>.inl e|.inr (c,t,l')=>if c=4/\t=[125] then (if n=1 then .inr l' else q (n-1) l') else if c=4/\t=[123] then q (n+1) l' else q n l'
def RS (q:Nat->Bk->SE⊕Bk)(src:Bk->SE⊕Bk)(n:Nat):Bk->SE⊕Bk|[]=>.inl (40,none)|b::r=>JW q n (my src (b::r))
theorem lH (q:Nat->Bk->SE⊕Bk)(src:Bk->SE⊕Bk)(n:Nat)(b:UInt8)(r:Bk):RS q src n (b::r)=JW q n (my src (b::r)):=rfl
theorem Ck (q:Nat->Bk->SE⊕Bk)(n:Nat)(e:SE):JW q n (.inl e)=.inl e:=rfl
theorem qm (q:Nat->Bk->SE⊕Bk)(n:Nat)(c:Int)(t l':Bk):JW q n (.inr (c,t,l'))=if c=4/\t=[125] then (if n=1 then .inr l' else q (n-1) l') else if c=4/\t=[123] then q (n+1) l' else q n l':=rfl
theorem oL (f k n:Nat)(l:Bk):mB (f+1) k n l=RS (mB f k) (ig f k) n (fw false l):=by
 rw [mB]
 cases fw false l with
 | nil=>rfl
 | cons b r=>
  show (match my (ig f k) (b::r) with
   | .inl e=>.inl e
   | .inr (c,t,l')=>if c=4/\t=[125] then (if n=1 then .inr l' else mB f k (n-1) l') else if c=4/\t=[123] then mB f k (n+1) l' else mB f k n l')=JW (mB f k) n (my (ig f k) (b::r))
  cases my (ig f k) (b::r) with
  | inl e=>rfl
  | inr z=>rfl
theorem nt {src:Bk->SE⊕Bk}{l:Bk}(hsrc:∀ r r',r.length<l.length->src r=.inr r'->r' <:+ r/\r'.length<r.length){c:Int}{t l':Bk}(h:my src l=.inr (c,t,l')):l' <:+ l/\l'.length<l.length:=by
 cases l with
 | nil=>cases h
 | cons b r=>
  grind [jc,xQ,List.dropWhile_cons_of_pos,idB,Nat.lt_succ_of_lt,yq,List.drop_suffix]
theorem jK:∀ (f k:Nat),(∀ l l',ig f k l=.inr l'->l' <:+ l/\l'.length<l.length)/\(∀ n l l',mB f k n l=.inr l'->l' <:+ l/\l'.length<l.length)
 | 0,k=>⟨λ l l' h=>(by grind [ig]),λ n l l' h=>(by grind [mB])⟩
 | f+1,k=>by
  have ih:=jK f;constructor
  ·intro l l' h
   cases l with
   | nil=>grind [ig]
   | cons b r=>
    grind [oy,List.drop_suffix]
  ·intro n l l' h;rw [oL] at h;have hs:=mW false l;generalize hbr:fw false l=l0 at h hs
   cases l0 with
   | nil=>cases h
   | cons b r=>
    rw [lH] at h
    cases hl1:my (ig f k) (b::r) with
    | inl e=>rw [hl1] at h; cases h
    | inr z=>
     obtain ⟨c,t,l1⟩:=z;rw [hl1,qm] at h;obtain ⟨h1,h2⟩:=nt (λ r r' _ hr=>(ih k).1 _ _ hr) hl1
     grind
def HK (s:Bk)(o:Int)(e:SE):az:=az.mk e.1 (match e.2 with|some n=>(s.length:Int)-(n:Int)|none=>o) []
def Hr (s:Bk)(o o':Int)(d:az)(q:SE⊕Bk)(r:Bool×ae):Prop:=match q with
 | .inl e=>r.1=false/\r.2.AI=HK s o e
 | .inr l=>r=(true,scx s l o' d)
def Sy (s l:Bk)(o o':Int)(d:az)(q:SE⊕(Int×Bk×Bk))(r:af×Bool×ae):Prop:=match q with
 | .inl e=>r.2.1=false/\r.2.2.AI=HK s o e
 | .inr (c,t,l')=>r=(af.mk c t (pz s l),true,scx s l' o' d)
theorem KU {s:Bk}(hs:s.length<=1000000000){o o':Int}{d:az}{k:Nat}{src:Bk->SE⊕Bk}{b:UInt8}{r:Bk}(h:(b::r) <:+ s)(hsuf:∀ l',src r=.inr l'->l' <:+ r/\l'.length<r.length)(ho:¬ b.toNat=34->o'=(scx s (b::r) o d).N')
  {oE:Int} (hsrc:b.toNat=34->Ev2 (λ n _=>cT n (scx s (b::r) o d) (k:Int)) (Hr s oE o' d (src r))) (hb:lX (b::r)=true) :
  Ev2 (λ n _=>bz n (scx s (b::r) o d) (k:Int)) (Sy s (b::r) oE o' d (my src (b::r))):=by
 obtain ⟨f1,f2,f3,f4,f5,f6⟩:=lL b;have VD:=rQ h;have hle:=h.length_le;refine bD ?_;simp only [bz];rw [jc];have hat':(0:Int)<=(scx s (b::r) o d).fat/\(scx s (b::r) o d).fat<((scx s (b::r) o d).fs.length:Int):=VD;refine am hat' (am (u6 h) ?_);simp only [show byt (scx s (b::r) o d).fs (scx s (b::r) o d).fat=(b.toNat:Int) from qU h,vz];by_cases h2:kD b=true
 ·have hn34:¬ b.toNat=34:=λ q=>by grind
  rw [if_pos h2];have hc:=f2.2 h2;by_cases hl:64<((b::r).takeWhile idB).length
  ·rw [if_pos hl];refine gh (ap O (ak _ (E1 s (b::r) hs h o d idB 2 3 LK) (ap (by grind) (ak _ EN (ac ?_)))));exact ⟨rfl,rfl⟩
  ·rw [if_neg hl];refine gh (ap O (ak _ (E1 s (b::r) hs h o d idB 2 3 LK) (ar (by grind) (ac (ac ?_)))));rw [ho hn34]; rfl
 rw [if_neg h2];have c2:¬ ((nC b:Nat):Int)=2:=λ q=>h2 (f2.1 O);by_cases h3:hQ b=true
 ·have hn34:¬ b.toNat=34:=λ q=>by grind
  rw [if_pos h3];have hc:=f3.2 h3;refine gh (ar c2 (ap O (ak _ (E1 s (b::r) hs h o d hQ 3 3 PM) (ac (ac ?_)))));rw [ho hn34]; rfl
 rw [if_neg h3];have c3:¬ ((nC b:Nat):Int)=3:=λ q=>h3 (f3.1 O);by_cases h10:b.toNat=10
 ·rw [if_pos h10];have hc:=f5.2 h10;refine gh (ar c2 (ar c3 (ap O (am (fL (by grind) SX) (ac (ac ?_))))));rw [ho O];show (af.mk 5 [10] (pz s (b::r)),true,ae.mk s (pz s (b::r)+1) o d)=_;rw [<- show pz s r=pz s (b::r)+1 from sw]; rfl
 rw [if_neg h10];have c6:¬ ((nC b:Nat):Int)=6:=λ q=>h10 (f5.1 O);by_cases h34:b.toNat=34
 ·rw [if_pos h34];have hc:=f4.2 h34;refine gh (ar c2 (ar c3 (ar c6 (ap O (aW _ (hsrc h34) λ x hx=>?_)))))
  cases hq:src r with
  | inl e=>
   rw [hq] at hx;exact E2
  | inr l'=>
   rw [hq] at hx;obtain ⟨g1,g2⟩:=hsuf l' hq;have hx:x=(true,scx s l' o' d):=hx;subst hx;have e1:(scx s (b::r) o d).fat+1=pz s r:=(sw (b:=b)).symm;have hl':l' <:+ s:=g1.trans (mx h);have e2:(scx s l' o' d).fat-1=(s.length:Int)-((l'.length+1:Nat):Int):=by show pz s l'-1=_; grind [pz]
   have hrl:=(mx h).length_le;have hd:r.drop (r.length-(l'.length+1)) <:+ r:=List.drop_suffix _ _;have hdl:(r.drop (r.length-(l'.length+1))).length=l'.length+1:=by grind
   have e3:(scx s l' o' d).fat-1=pz s (r.drop (r.length-(l'.length+1))):=by grind [pz]
   refine ar G (am (fL (by grind) (by grind [pz])) (am gz (am ?_ (ac (ac ?_)))))
   ·rw [e1,e3];refine ⟨Gs (mx h),?_,Rt⟩
    grind [pz]
   ·show _=_
    grind [scx,G7,mx]
 rw [if_neg h34];have c5:¬ ((nC b:Nat):Int)=5:=λ q=>h34 (f4.1 O)
 have hsn:iU (b::r)≠[]:=by
  grind [gA]
 rw [if_neg hsn];have UT:=yq hsn;refine gh (ar c2 (ar c3 (ar c6 (ar c5 (am ⟨VD.1,by grind,by grind⟩ ?_)))));rw [show sub (scx s (b::r) o d).fs (scx s (b::r) o d).fat ((scx s (b::r) o d).fs.length:Int)=b::r from uA h];refine ak _ (ze (b::r) O) (am (fL (by grind) (by show pz s (b::r)+_<=_; omega)) (ac (ac ?_)));rw [ho h34];show (af.mk 4 (iU (b::r)) (pz s (b::r)),true,ae.mk s (pz s (b::r)+((iU (b::r)).length:Int)) o d)=_;rw [<- wA UT.2]; rfl
def Fi (s:Bk)(o:Int)(d:az)(q:SE⊕Bk)(r:ae⊕(Bool×ae)):Prop:=match r with
 | .inl x=>x=scx s [] o d/\q=.inl (40,none)
 | .inr y=>Hr s o o d q y
def Qa (s:Bk)(o:Int)(d:az)(q:SE⊕Bk)(r:ae⊕(Bool×ae)):Prop:=match r with
 | .inl x=>∃ l,q=.inr l/\x=scx s l o d
 | .inr y=>∃ e,q=.inl e/\y.1=false/\y.2.AI=HK s o e
theorem JI {src:Bk->SE⊕Bk}{b:UInt8}{r:Bk}(h:lX (b::r)=false):my src (b::r)=.inl (2,some (b::r).length):=by
 grind [gA,jc]
theorem vQ {s:Bk}(hs:s.length<=1000000000){o:Int}{d:az}{k:Nat}{b:UInt8}{r:Bk}(h:(b::r) <:+ s){q:SE⊕Bk}(hl:Ev2 (λ n m=>ba (aU n) (k:Int) m (scx s r o d)) (Fi s o d q)) :
  Ev2 (λ n _=>dV n (scx s (b::r) o d) (k:Int)) (Hr s o o d q):=by
 have VD:=rQ h;have hle:=h.length_le;refine bD ?_;simp only [dV];refine am FA ?_
 have e:ae.mk (scx s (b::r) o d).fs ((scx s (b::r) o d).fat+1) (scx s (b::r) o d).N' (scx s (b::r) o d).AI=scx s r o d:=by
  show ae.mk s (pz s (b::r)+1) o d=_;rw [<- show pz s r=pz s (b::r)+1 from sw]; rfl
 rw [e];refine gh (cH (bc (f:=λ n m=>ba (aU n) (k:Int) m (scx s r o d)) hl) λ x hx=>?_)
 cases x with
 | inl x=>
  obtain ⟨rfl,rfl⟩:=hx;exact ak _ EN (ac ⟨rfl,rfl⟩)
 | inr y=>exact hx
theorem Iw {s:Bk}(hs:s.length<=1000000000){o:Int}(ho:0<=o){d:az}{k:Nat}{b:UInt8}{r:Bk}(h:(b::r) <:+ s){q:SE⊕Bk}(hl:Ev2 (λ n m=>ba (aU n) (k:Int) m (scx s r o d)) (Fi s o d q)) :
  Ev2 (λ n _=>cT n (scx s (b::r) o d) (k:Int)) (Hr s o o d q):=by
 refine bD ?_;simp only [cT];exact ar (by show ¬ o<0; omega) (vQ hs h hl)
theorem Ff {s:Bk}(hs:s.length<=1000000000){d:az}{k:Nat}{b:UInt8}{r:Bk}(h:(b::r) <:+ s){q:SE⊕Bk}(hl:Ev2 (λ n m=>ba (aU n) (k:Int) m (scx s r (pz s (b::r)) d)) (Fi s (pz s (b::r)) d q)) :
  Ev2 (λ n _=>cT n (scx s (b::r) (-1) d) (k:Int)) (Hr s (pz s (b::r)) (-1) d q):=by
 refine bD ?_;simp only [cT];refine ap (by show (-1:Int)<0; omega) (aW _ (vQ hs h hl) λ x hx=>ac ?_)
 cases q with
 | inl e=>exact hx
 | inr l=>
  have hx:x=(true,scx s l (pz s (b::r)) d):=hx;subst hx; rfl
theorem xA (s:Bk)(b:UInt8)(r:Bk)(o:Int)(d:az):bO (scx s (b::r) o d)=some (true,scx s (b::r) o d):=tT _ _ _ _
theorem uV (s:Bk)(o:Int)(d:az):bO (scx s [] o d)=some (false,scx s [] o d):=tT _ _ _ _
theorem LJ (l p:Bk):strings_HasPrefix l p=some (hasPrefix l p):=rfl
theorem G1 {s l:Bk}{o:Int}{d:az}{k:Nat}(hk:k<=l.length):ae.mk s (pz s l+(k:Int)) o d=scx s (l.drop k) o d:=by rw [scx,wA hk]
theorem BC {s r:Bk}{b:UInt8}{o:Int}{d:az}:ae.mk s (pz s (b::r)+1) o d=scx s r o d:=by grind [scx,sw]
theorem NO {s:Bk}(hs:s.length<=1000000000){o:Int}{d:az}{f k:Nat}
  (ih1:∀ l,l <:+ s->l.length<f->Ev2 (λ n m=>ba (aU n) (k:Int) m (scx s l o d)) (Fi s o d (ig f k l)))
  (ih2:∀ l,l <:+ s->l.length<f->k<32->Ev2 (λ nn m=>aY nn (bz nn) (k:Int) m 1 (scx s l o d)) (Qa s o d (mB f (k+1) 1 l))) :
  ∀ l,l <:+ s->l.length<f+1->Ev2 (λ n m=>ba (aU n) (k:Int) m (scx s l o d)) (Fi s o d (ig (f+1) k l)):=by
 intro l h hf;refine aM ?_;simp only [ba]
 cases l with
 | nil=>
  refine ak _ (aA (uV s o d) Z) (ar G (ac ⟨Z,?_⟩));rw [ig]
 | cons b r=>
  have VD:=rQ h;have hle:=h.length_le;have hfr:r.length<f:=by grind
  refine ak _ (aA (xA s b r o d) Z) (ap Z (am ⟨VD.1,by show pz s (b::r)<=(s.length:Int); omega,by grind⟩ ?_));rw [oy];simp only [show sub (scx s (b::r) o d).fs (scx s (b::r) o d).fat ((scx s (b::r) o d).fs.length:Int)=b::r from uA h,show byt (b::r) 0=(b.toNat:Int) from rfl];refine gh (am (by grind) ?_);by_cases h34:b.toNat=34
  ·rw [if_pos h34];refine ap O (am FA (ac ?_));show (true,ae.mk s (pz s (b::r)+1) o d)=_;rw [BC]
  rw [if_neg h34];refine ar O (ak _ (aA (LJ _ _) rfl) ?_);by_cases h3:hasPrefix (b::r) [36,36,123]=true
  ·rw [if_pos h3];have hp:=hasPrefix_le h3;simp only [aq,List.length_nil] at hp;refine ap h3 (am (fL (by show _<=pz s (b::r)+3; omega) (by show pz s (b::r)+3<=_; omega)) (ac ?_));have:=ih1 ((b::r).drop 3) (GO 3 h) (by grind);rw [<- G1 (k:=3) (by grind)] at this;exact this
  rw [if_neg h3];refine ar h3 (ak _ (aA (LJ _ _) rfl) ?_);by_cases h2:hasPrefix (b::r) [36,123]=true
  ·rw [if_pos h2];have hp:=hasPrefix_le h2;simp only [aq,List.length_nil] at hp;refine ap h2 (aW (Hr s o o d (if 32<=k then .inl (4,some (b::r).length) else mB f (k+1) 1 ((b::r).drop 2))) ?_ λ x hx=>?_)
   ·refine bD ?_;simp only [aU];by_cases hk:32<=k
    ·rw [if_pos hk];exact ap O Me
    ·rw [if_neg hk];refine ar O (am (fL (by show _<=pz s (b::r)+2; omega) (by show pz s (b::r)+2<=_; omega)) ?_);have:=ih2 ((b::r).drop 2) (GO 2 h) (by grind) O;rw [<- G1 (k:=2) (by grind)] at this;refine gh (cH (bc (f:=λ nn m=>aY nn (bz nn) (k:Int) m 1 (ae.mk s (pz s (b::r)+2) o d)) this) λ y hy=>?_)
     cases y with
     | inl y=>
      obtain ⟨l',e1,rfl⟩:=hy;rw [e1];exact ac rfl
     | inr y=>
      obtain ⟨e,e1,e2,e3⟩:=hy;rw [e1];exact ⟨e2,e3⟩
   ·by_cases hk:32<=k
    ·rw [if_pos hk] at hx ⊢;exact E2
    ·rw [if_neg hk] at hx ⊢
     cases hq:mB f (k+1) 1 ((b::r).drop 2) with
     | inl e=>
      rw [hq] at hx;exact E2
     | inr l'=>
      rw [hq] at hx;have hx:x=(true,scx s l' o d):=hx;subst hx;obtain ⟨g1,g2⟩:=(jK f (k+1)).2 _ _ _ hq;refine ar G (ac (ih1 l' (g1.trans (GO 2 h)) ?_))
      grind
  rw [if_neg h2];refine ar h2 (ak (scx s (if b.toNat=92 then r else b::r) o d) (am (by grind) ?_) ?_)
  ·by_cases h92:b.toNat=92
   ·rw [if_pos h92];refine ap O (am FA (ac ?_));show ae.mk s (pz s (b::r)+1) o d=_;rw [BC]
   ·rw [if_neg h92];exact tH
  ·have hsf:(if b.toNat=92 then r else b::r) <:+ s:=by grind [mx]
   have hln:(if b.toNat=92 then r else b::r).length<=r.length+1:=by grind
   generalize (if b.toNat=92 then r else b::r)=l1 at hsf hln ⊢
   cases l1 with
   | nil=>
    refine ak _ (aA (uV s o d) rfl) (ap rfl (ac ?_));have:=ih1 [] List.nil_suffix (by grind);obtain ⟨f,rfl⟩:∃ g,f=g+1:=⟨f-1,by omega⟩
    grind [ig]
   | cons c t=>
    refine ak _ (aA (xA s c t o d) Z) (ar G (ak _ (Qe s hs hsf o d) ?_));have hdf:=ja (c::t) G;by_cases hb:mC (decodeL (c::t))
    ·simp only [if_pos hb];exact ap rfl Me
    ·simp only [if_neg hb];refine ar G (ac (ih1 _ (GO _ hsf) ?_))
     grind
theorem JD {s:Bk}(hs:s.length<=1000000000){o:Int}(ho:0<=o){d:az}{f k:Nat}(hk:k<32)
  (ih1:∀ l,l <:+ s->l.length<f->Ev2 (λ n m=>ba (aU n) ((k+1:Nat):Int) m (scx s l o d)) (Fi s o d (ig f (k+1) l)))
  (ih2:∀ l n,1<=n->n+l.length<=s.length+1->l <:+ s->l.length<f->Ev2 (λ nn m=>aY nn (bz nn) (k:Int) m (n:Int) (scx s l o d)) (Qa s o d (mB f (k+1) n l))) :
  ∀ l n,1<=n->n+l.length<=s.length+1->l <:+ s->l.length<f+1->Ev2 (λ nn m=>aY nn (bz nn) (k:Int) m (n:Int) (scx s l o d)) (Qa s o d (mB (f+1) (k+1) n l)):=by
 intro l n hn hnl h hf;refine aM ?_;simp only [aY];rw [oL];have hsk:=mW false l;have hd:decide (o<0)=false:=decide_eq_false O;have hskip:=Gn s l hs h o d;rw [hd] at hskip;refine ap O (gh (ak _ hskip ?_));have UT:=hsk.length_le;have hss:=hsk.trans h;generalize fw false l=l1 at hsk UT hss ⊢
 cases l1 with
 | nil=>exact ak _ (aA (uV s o d) Z) (ap Z (ak _ (aA (Ax _ _ _ _ _ _) Z) (ac ⟨_,Z,Z,Z⟩)))
 | cons b r=>
  refine ak _ (aA (xA s b r o d) Z) (ar G (ak _ (vJ s hs hss o d) ?_));rw [lH]
  cases hb:lX (b::r)
  ·rw [JI hb,Ck];exact ap rfl (ak _ EN (ac ⟨_,rfl,rfl,rfl⟩))
  ·have hbl:=hss.length_le;simp only [aq] at UT hbl;have htok:=KU (k:=k+1) (src:=ig f (k+1)) (o':=o) (oE:=o) hs hss (λ l' hl'=>(jK f (k+1)).1 _ _ hl') Y (λ _=>Iw hs ho hss (ih1 r (mx hss) O)) hb (d:=d);refine ar G (am aV (aW (Sy s (b::r) o o d (my (ig f (k+1)) (b::r))) htok λ x hx=>?_))
   cases hq:my (ig f (k+1)) (b::r) with
   | inl e=>
    rw [hq] at hx;rw [Ck];exact ap (by rw [hx.1]; rfl) (ac ⟨e,rfl,rfl,hx.2⟩)
   | inr z=>
    obtain ⟨c,t,l'⟩:=z;rw [hq] at hx;have hx:x=(af.mk c t (pz s (b::r)),true,scx s l' o d):=hx;subst hx;obtain ⟨g1,g2⟩:=nt (λ r r' _ hr=>(jK f (k+1)).1 _ _ hr) hq;simp only [aq] at g2;have hl's:=g1.trans hss;rw [qm];refine ar G (ak (if c=4/\t=[123] then (n:Int)+1 else (n:Int)) (ak (decide (c=4/\t=[123])) (aH (λ q=>ac ?_) (λ q=>ac ?_)) (aH (λ q=>am aV (ac ?_)) (λ q=>ac ?_))) (ak (decide (c=4/\t=[125])) (aH (λ q=>ac ?_) (λ q=>ac ?_)) ?_))
    ·grind
    ·grind
    ·grind
    ·grind
    ·grind
    ·grind
    by_cases h125:c=4/\t=[125]
    ·have hn123:¬ (c=4/\t=[123]):=λ w=>by grind
     rw [if_neg hn123];simp only [if_pos h125];refine ap (by grind) (am aV (ac ?_));by_cases h1:n=1
     ·subst h1;rw [if_pos rfl];refine aM ?_;simp only [aY];exact ar O (ac ⟨l',rfl,rfl⟩)
     grind
    ·simp only [if_neg h125];refine ar (by grind) (ac ?_)
     grind
theorem GH {s:Bk}(hs:s.length<=1000000000){o:Int}(ho:0<=o){d:az}:∀ (f:Nat),
  (∀ (k:Nat) l,l <:+ s->l.length<f->Ev2 (λ n m=>ba (aU n) (k:Int) m (scx s l o d)) (Fi s o d (ig f k l))) /\
  (∀ (k:Nat) l n,k<32->1<=n->n+l.length<=s.length+1->l <:+ s->l.length<f->Ev2 (λ nn m=>aY nn (bz nn) (k:Int) m (n:Int) (scx s l o d)) (Qa s o d (mB f (k+1) n l)))
 | 0=>(by grind)
 | f+1=>by
  obtain ⟨i1,i2⟩:=GH hs ho (d:=d) f
  grind [NO,JD]
theorem GI {s:Bk}(hs:s.length<=1000000000){d:az}{f:Nat}{b:UInt8}{r:Bk}(h:(b::r) <:+ s)(hf:r.length<f)(hb:lX (b::r)=true) :
  Ev2 (λ n _=>bz n (scx s (b::r) (-1) d) 0) (Sy s (b::r) (pz s (b::r)) (-1) d (my (ig f 0) (b::r))) :=
 KU (k:=0) hs h (λ l' hl'=>(jK f 0).1 _ _ hl') Y (λ _=>Ff hs h ((GH hs (Gs h) f).1 0 r (mx h) hf)) hb
def endE (n:Nat)(e:SE):SE:=(e.1,some (e.2.getD n))
abbrev Tk:=Int×Bk×Nat
def Kt (q:Bk->SE⊕List Tk)(n:Nat):SE⊕(Int×Bk×Bk)->SE⊕List Tk
 | .inl e=>.inl (endE n e)
 | .inr (k,t,l')=>(match q l' with
  | .inl e=>.inl e
  | .inr ts=>.inr ((k,t,n)::ts))
def CR (q:Bk->SE⊕List Tk)(src:Bk->SE⊕Bk)(c:Nat):Bk->SE⊕List Tk|[]=>if c=16384 then .inl (14,some 0) else .inr [(6,[],0)]|b::r=>if lX (b::r)=false then .inl (2,some (b::r).length) else if c=16384 then .inl (14,some (b::r).length)else Kt q (b::r).length (my src (b::r))
def mg:Nat->Nat->Bk->SE⊕List Tk|0,_,_=>.inl (40,none)|f+1,c,l=>CR (mg f (c+1)) (ig f 0) c (fw true l)
theorem na (f c:Nat)(l:Bk):mg (f+1) c l=CR (mg f (c+1)) (ig f 0) c (fw true l):=rfl
theorem sB (q:Bk->SE⊕List Tk)(src:Bk->SE⊕Bk)(c:Nat):CR q src c []=if c=16384 then .inl (14,some 0) else .inr [(6,[],0)]:=rfl
theorem jP (q:Bk->SE⊕List Tk)(src:Bk->SE⊕Bk)(c:Nat)(b:UInt8)(r:Bk):CR q src c (b::r)=if lX (b::r)=false then .inl (2,some (b::r).length) else if c=16384 then .inl (14,some (b::r).length)
   else Kt q (b::r).length (my src (b::r)):=rfl
theorem nb (q:Bk->SE⊕List Tk)(n:Nat)(k:Int)(t l':Bk):Kt q n (.inr (k,t,l'))=match q l' with
  | .inl e=>.inl e
  | .inr ts=>.inr ((k,t,n)::ts):=rfl
def tkS (s:Bk)(z:Tk):af:=af.mk z.1 z.2.1 ((s.length:Int)-(z.2.2:Int))
def Rr (s:Bk)(out:List af)(q:SE⊕List Tk):List af×az:=match q with
 | .inl e=>([],HK s 0 e)
 | .inr ts=>(out++ts.map (tkS s),az.mk 0 0 [])
theorem Nl (s l:Bk)(o:Int)(e:SE):HK s (pz s l) e=HK s o (endE l.length e):=by
 obtain ⟨k,n⟩:=e
 cases n <;> rfl
theorem G3 {s:Bk}(hs:s.length<=1000000000){d:az}:∀ (f:Nat) (l:Bk) (out:List af),out.length<=16384->l <:+ s->l.length<f->Ev2 (λ n m=>gO n m out (scx s l (-1) d)) (·=.inr (Rr s out (mg f out.length l)))
 | 0,l,out,_,_,h=>absurd h (Nat.not_lt_zero _)
 | f+1,l,out,hout,h,hf=>by
  refine aM ?_;simp only [gO];rw [na];have hsk:=mW true l;have hskip:=Gn s l hs h (-1) d;rw [show decide ((-1:Int)<0)=true from rfl] at hskip;refine ak _ hskip ?_;have UT:=hsk.length_le;have hss:=hsk.trans h;generalize fw true l=l1 at hsk UT hss ⊢
  cases l1 with
  | nil=>
   refine ak (false,scx s [] (-1) d) (ak _ (aA (uV s (-1) d) Z) ti) (ar G ?_);rw [sB];by_cases hc:out.length=16384
   ·rw [if_pos hc];refine ap O (ac ?_)
    rfl
   ·rw [if_neg hc];refine ar O (ak _ (aA (uV s (-1) d) rfl) (ap rfl (am (by grind) (ac ?_))))
    rfl
  | cons b r=>
   refine ak (!lX (b::r),scx s (b::r) (-1) d) (ak _ (aA (xA s b r (-1) d) Z) (ap Z (ak _ (vJ s hs hss (-1) d) (ac Z)))) ?_;rw [jP]
   cases hb:lX (b::r)
   ·exact ap Z (ac Z)
   ·refine ar G ?_;rw [if_neg G];by_cases hc:out.length=16384
    ·rw [if_pos hc];exact ap O (ac rfl)
    ·rw [if_neg hc];simp only [aq] at UT;refine ar O (ak _ (aA (xA s b r (-1) d) rfl) (ar G (aW _ (GI hs hss (f:=f) O hb) λ x hx=>?_)))
     cases hq:my (ig f 0) (b::r) with
     | inl e=>
      rw [hq] at hx;refine ap (by rw [hx.1]; rfl) (ac ?_);rw [hx.2,Nl s (b::r) 0]
      rfl
     | inr z=>
      obtain ⟨c,t,l'⟩:=z;rw [hq] at hx;have hx:x=(af.mk c t (pz s (b::r)),true,scx s l' (-1) d):=hx;subst hx;obtain ⟨g1,g2⟩:=nt (λ r r' _ hr=>(jK f 0).1 _ _ hr) hq;simp only [aq] at g2;have ih:=G3 hs (d:=d) f l' (out++[af.mk c t (pz s (b::r))]) (by grind) (g1.trans hss) O;simp only [n8,aq,List.length_nil,Nat.zero_add] at ih;rw [nb];refine ar G (am (by grind) (Uh ih ?_));congr 1
      cases mg f (out.length+1) l' with
      | inl e=>rfl
      | inr ts=>
       show (_,_)=(_,_);rw [n6]; rfl
def jU (s:Bk):List af×az:=if 65536<s.length then ([],az.mk 3 0 []) else Rr s [] (mg (s.length+1) 0 s)
theorem G5 (s:Bk):Ev2 (λ n _=>mU n s) (·=jU s):=by
 simp only [mU];unfold jU;by_cases h:65536<s.length
 ·rw [if_pos h];exact ap O (ac rfl)
 ·rw [if_neg h];refine ar O (ak (scx s s (-1) (az.mk 0 0 [])) (aA ?_ rfl) ?_)
  ·rw [scx,Gx]; rfl
  ·have:=G3 (s:=s) O (d:=az.mk 0 0 []) (s.length+1) s [] G List.suffix_rfl (Nat.lt_succ_self _);exact kt _ (bc (f:=λ n m=>gO n m [] (scx s s (-1) (az.mk 0 0 []))) this) Z
end Go.Ab.R06
end
