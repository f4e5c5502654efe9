/- Texts of the proof, one behind the other. No statement is proved here. -/
import Derived.Lib.IndexLaws
import Derived.Lib.Bytes2
import Derived.Test.YtihghalcmfpnaaaGreatDoorZ14Da
import Derived.Test.YtihghalcmfpnaaaGreatDoorZ14Db
import Derived.Test.YtihghalcmfpnaaaGreatDoorZ14Dc
set_option maxHeartbeats 4000000
section
namespace Go.Ab.R06
open Go.Proofs Go.Ab Go.Ab.RB
variable {p:Prop}
theorem vd (h:p:=by
  exact nx 2 Z (eX _ (oi h2).symm (gE Z Z))):p:=h
theorem gJ (h:p:=by
  have h0:=h1
  exact S0):p:=h
theorem yD (h:p:=by
  exact nx 6 Z (mQ (hR0 _ (oi h1).symm) Z (sr))):p:=h
theorem Ck (h:p:=by
  have h0:=UV _ hv;refine nx 1 Z ?_
  cases h0):p:=h
theorem vK (h:p:=by
  exact nx 6 Z (eX _ (oi h1).symm (gE Z Z))):p:=h
theorem CU (h:p:=by exact gE (t:=⟨[(0,.ptr 1000000 0),(1,.p (eK .u8 WX)),(2,.p (eK .u8 b_2)),(7,.p (eI T'.fat))],[(1000000,(ad.cs x14).map .p)]⟩) Z Z):p:=h
theorem JQ (h:p:=by exact nx 3 Z (mQo (hR0 _ (hR1 _ (oi h2).symm).symm) (aU _) Z Z Z (ay Z (aA _) Z) (sr) ⟨⟨_,Z,aR _⟩,trivial⟩)):p:=h
theorem H3 (h:p:=by exact nx 6 Z (mQo (oi h0) (aU _) Z Z Z (ay Z (aA _) Z) (sr) ⟨⟨_,Z,aR _⟩,trivial⟩)):p:=h
theorem B5 (h:p:=by exact mO Z (gP Z Z Z Z Z Z Z Z (ad.b_at _) (ad.u_at _) (nx 1 Z (eX _ (oi h2).symm (gE Z Z))))):p:=h
theorem Lj (h:p:=by exact dR 1 Z (dE Z (nx 1 Z (eX _ (oi h3).symm (gE Z Z))))):p:=h
theorem x9 (h:p:=by exact D1 (Sk _ _ Z)):p:=h
theorem Qw (h:p:=by exact dE Z (nx 1 Z (eX _ (oi h3).symm (gE Z Z)))):p:=h
theorem pF (h:p:=by repeat (first|exact Fp _|apply Dd Z|apply vc Z (yn _ _)|apply vc Z Z)):p:=h
theorem Ir (h:p:=by exact gE (t:=⟨[(3,.ptr 3 0),(4,.ptr 101000 0)],[(3,pi),(101000,(ad.cs XK.2).map .p)]⟩) Z Z):p:=h
theorem Di (h:p:=by exact dPc (.p (.val (.slice none 0 0))) Z (dS Z (eT (nx 2 Z (mQ (hR0 _ (oi h1).symm) Z (kf ⟨jr _,sr,trivial⟩)))))):p:=h
theorem Kp (h:p:=by exact mQo (hR0 _ (hR1 _ (oi h2).symm).symm) (aU _) Z Z Z (ay Z (aA _) Z) (sr) ⟨⟨_,Z,aR _⟩,trivial⟩):p:=h
theorem Rf (h:p:=by exact nx 1 Z (eX _ (oi h3).symm (gE Z Z))):p:=h
theorem C5 (h:p:=by exact mQo (hR0 _ (hR1 _ (oi h2).symm).symm) (aU _) Z Z Z (ay Z (aA _) (ay Z Z Z)) (sr) ⟨⟨_,Z,aR _⟩,⟨_,Z,⟨sr,trivial⟩⟩,trivial⟩):p:=h
theorem yi (h:p:=by exact yB (Sk _ _ Z)):p:=h
set_option maxRecDepth 4000
attribute [local irreducible] awp hH bc bG co AV.sub M cO
theorem S0 {p:Prop}(h:p:=by
  repeat' first
    | refine nxg 12 Z Z ?_
    | refine nxg 4 Z Z ?_
    | refine nxg 1 Z Z ?_
    | exact eX _ (oi h0).symm (gE Z Z)
    | exact mQo (oi h0) (aU _) Z Z Z (ay Z (aA _) Z) U U
    | exact M7 (oi h0) (aU _) Z Z Z (ay Z (aA _) Z) U U
    | exact mQo (hR0 _ (oi h0).symm) (aU _) Z Z Z (ay Z (aA _) Z) U U
    | exact mQo (hR0 _ (hR1 _ (oi h0).symm).symm) (aU _) Z Z Z (ay Z (aA _) Z) U U
    | exact eXi _ (oi h0).symm (gE Z Z)
    | exact eX _ h0 (gE Z Z)
    | exact mQ (oi h0) Z U
    | refine oS Z Z ?_
    | refine oLs Z ?_
    | refine oA h0 Z Z λ hk h0=>?_
    | refine oI h0 rfl λ hk h0=>?_
    | refine oP h0 Z Z Z λ hk h0=>?_
    | refine mO Z (aW Z Z Z Z Z Z Z (ad.g_at _) ?_)
    | refine mO Z (aW Z Z Z Z Z Z Z (ad.g_outer _) ?_)
    | refine mO Z (gP Z Z Z Z Z Z Z Z (ad.b_at _) (ad.u_at _) ?_)
    | refine bd h0 λ r e h0=>oK (HP.c e) Z U HE.e Z ?_
    | refine bd h0 λ r e h0=>mO Z (aV [1000000] [] 101000 101000 (HO.c e) Z Z Z Z Z U Z (ay Z (aA _) Z) U Z Z Z Z Z Z Z HE.e Z (ay Z (aA _) Z) ?_)
    | refine fBn 2 h0 Z Z (λ c h0=>?_) λ c h0=>?_
    | refine fBn 1 h0 Z Z (λ c h0=>?_) λ c h0=>?_
    | refine fBc h0 Z Z (λ c h0=>?_) λ c h0=>?_
    | refine fDn 3 h0 Z Z (λ c h0=>?_) λ c h0=>?_
    | refine fDn 2 h0 Z Z (λ c h0=>?_) λ c h0=>?_
    | refine fDn 1 h0 Z Z (λ c h0=>?_) λ c h0=>?_
    | refine fDc h0 Z Z (λ c h0=>?_) λ c h0=>?_
    | refine mDa Z Z ?_
    | refine dE Z ?_
    | refine dR 4 Z ?_
    | refine dR 1 Z ?_
    | refine cc' h0 λ hk h0=>?_):p:=h
instance T6:HE Tryz.prog 75:=⟨Tryz.call75⟩
instance RS:HE Tryz.prog 90:=⟨Tryz.call90⟩
instance Ss:HE Tryz.prog 99:=⟨Tryz.call99⟩
instance Sg:HE Tryz.prog 98:=⟨Tryz.call98⟩
abbrev Eo (F:ad->Int->Option (Bool×ad))(k:Nat):Prop:=∀ (a0:ad) (a1:Int) (r:Bool×ad),HO (F a0 a1=some r) Tryz.prog k [.ptr 1000000 0,.p (eI a1)] [(1000000,(ad.cs a0).map .p)] (.p (eB r.1)) ([(1000000,(ad.cs r.2).map .p)])
abbrev yA (F:ad->Option (Bool×ad))(k:Nat):Prop:=∀ (a0:ad) (r:Bool×ad),HO (F a0=some r) Tryz.prog k [.ptr 1000000 0] [(1000000,(ad.cs a0).map .p)] (.p (eB r.1)) ([(1000000,(ad.cs r.2).map .p)])
abbrev jQ:List AV:=[.p (eI 0),.p (eS ([]:Bk)),.p (eI 0)]
abbrev pi:List AV:=[.p (eI 0),.p (eI 0),.p (eS ([]:Bk))]
def bA (T':ad):Option (Bool×ad) :=some (decide (T'.fat<(T'.fs.length:Int)),T')
instance yX:yA (bA) 53:=by
 refine λ T'=>hO good [] [1000000] Tryz.func53 Z Z λ r h0 _ w0 F=>?_;unfold bA at h0;exact nx 5 Z (mD [(0,.ptr 1000000 0)] Z ⟨Z,trivial⟩ Z (dR 3 Z (dq (.p (eI T'.fat)) [5] Z (λ _ e _ q=>ap Z (aW Z Z Z Z Z (e _ _ Z) Z (ad.g_at _) q)) Z (dR 3 Z (dq (.p (eS T'.fs)) [9] Z (λ _ e _ q=>ap Z (aW Z Z Z Z Z (e _ _ Z) Z (ad.g_s _) q)) Z (dq (.p (eI (T'.fs.length:Int))) [10] Z (λ _ e _ q=>ap Z (nU Z Z Z Z Z (e _ _ Z) q)) Z (dR 2 Z S0)))))))
def bj:Nat->ad->Option (ad⊕ad)|0,_=>none|m+1,x20=>(bA x20).bind λ UE=>if UE.1=true then ck ((0:Int)<=UE.2.fat/\UE.2.fat<(UE.2.fs.length:Int))<|ck ((0:Int)<=byt UE.2.fs UE.2.fat/\byt UE.2.fs UE.2.fat<256)<|jn (if ((lat jE (byt UE.2.fs UE.2.fat)).toNat:Int)=1 then ck (inR (UE.2.fat+1))<|some (.inl (ad.mk UE.2.fs (UE.2.fat+1) UE.2.IS UE.2.AT))else(if ((lat jE (byt UE.2.fs UE.2.fat)).toNat:Int)=7 then some (decide (UE.2.IS<0))else some false).bind λ t29=>if t29=true then ck ((0:Int)<=UE.2.fat/\UE.2.fat<=(UE.2.fs.length:Int)/\(UE.2.fs.length:Int)<=(UE.2.fs.length:Int))<|(strings_IndexByte (sub UE.2.fs UE.2.fat (UE.2.fs.length:Int)) 10).bind λ WO=>(if WO<0 then ck (inR ((UE.2.fs.length:Int)-UE.2.fat))<|some ((UE.2.fs.length:Int)-UE.2.fat)else some WO).bind λ n36=>ck (inR (UE.2.fat+n36))<|some (.inl (ad.mk UE.2.fs (UE.2.fat+n36) UE.2.IS UE.2.AT))else some (.inr (.inr UE.2)) : Option (ad⊕(ad⊕ad))) λ x38=>bj m x38 else some (.inl UE.2)
def fo (n:Nat)(T':ad):Option ad :=jn (bj n T') λ x40=>some x40
instance y5 (n:Nat) (T':ad):∀ (r:ad),HO (fo n T'=some r) Tryz.prog 52 [.ptr 1000000 0] [(1000000,(ad.cs T').map .p)] (.tuple []) ([(1000000,(ad.cs r).map .p)]):=by
 refine hO good [] [1000000] Tryz.func52 Z Z λ r h0 _ w0 F=>?_;unfold fo at h0;refine nx 1 rfl ?_;obtain ⟨o45,h1,UV,hR0⟩:=bo h0;refine kEx 0 (λ v46:ad=>o45=.inl v46) (λ v46=>⟨[],[(1000000,(ad.cs v46).map .p)]⟩) (λ v46 hv=>?_) ?_
 ·have h0:=UV _ hv;exact S0
 refine lG (λ (Wt:ad)=>⟨[(0,.ptr 1000000 0)],[(1000000,(ad.cs Wt).map .p)]⟩) (λ m (Wt:ad)=>bj m Wt) Y T' h1 (gE rfl rfl) ?_;rintro m x20 h1;replace h1:bj (m+1) x20=some o45:=h1;rw [bj] at h1;refine nx 4 rfl (bd h1 λ UE e22 h1=>mO rfl (aV [1000000] [] 102000 102000 (HO.c e22) rfl rfl rfl rfl rfl ⟨sr,trivial⟩ rfl (ay rfl (aA _) rfl) ⟨⟨_,rfl,aR _⟩,trivial⟩ rfl rfl rfl rfl rfl rfl rfl rfl Tryz.call53 rfl (ay rfl (aA _) rfl) (nx 1 rfl (fB [5] h1 rfl (λ Xp h1=>?_) λ Xp h1=>?_))))
 ·refine nx 4 rfl (cc' h1 λ Zh h1=>cc' h1 λ WS h1=>mD [(0,.ptr 1000000 0)] rfl ⟨rfl,trivial⟩ rfl (dR 4 rfl (dq (.p (eS UE.2.fs)) [9] rfl (λ _ e _ q=>ap rfl (aW Z Z Z Z Z (e _ _ rfl) rfl (ad.g_s _) q)) rfl (dR 3 rfl (dq (.p (eI UE.2.fat)) [13] rfl (λ _ e _ q=>ap rfl (aW Z Z Z Z Z (e _ _ rfl) rfl (ad.g_at _) q)) rfl (dq (.p (eK .u8 (byt UE.2.fs UE.2.fat))) [10,14] rfl (λ _ e _ q=>ap rfl (fK Z Z Z Z Z (e _ _ rfl) (e _ _ rfl) Zh q)) rfl (dR 2 rfl (dq (.ptr 1000000 (2+(byt UE.2.fs UE.2.fat).toNat*1)) [15,17] rfl (λ _ e _ q=>ap rfl (gA Z Z Z Z Z Z (e _ _ rfl) (e _ _ rfl) WS q)) rfl (dq (.p (eK .u8 ((lat jE (byt UE.2.fs UE.2.fat)).toNat:Int))) [18] rfl (λ _ e _ q=>ap rfl (aW Z Z Z Z Z (e _ _ rfl) rfl (ad.g_class _ WS) q)) rfl (dR 1 rfl (dE rfl (nx 1 rfl ?_))))))))))));obtain ⟨ZQ,h2,hL1,hR1⟩:=bo h1;refine kX (λ Ym:ad=>ZQ=.inl Ym) (λ Ym=>⟨[(0,.ptr 1000000 0)],[(1000000,(ad.cs Ym).map .p)]⟩) (λ Ym hv=>?_) ?_
  ·have h1:=hL1 _ hv;exact gJ
  refine nx 7 Z (fD [20,22] h2 Z (λ Z5 h2=>?_) λ Z5 h2=>?_)
  ·exact nx 5 Z (mO Z (aW Z Z Z Z Z Z Z (ad.g_at _) (oA h2 Z Z λ X5 h2=>nx 2 Z B5)))
  refine nx 2 Z (bd h2 λ X3 h3 h2=>kN X3 (λ v51=>⟨[(0,.ptr 1000000 0),(30,.p (eB v51))],[(1000000,(ad.cs UE.2).map .p)]⟩) ?_ ?_)
  ·refine nx 1 Z (fB [30] h2 Z (λ c30 h2=>?_) λ c30 h2=>?_)
   ·refine nx 2 Z (cc' h2 λ Zg h2=>bd h2 λ WO e33 h2=>mD [(0,.ptr 1000000 0)] Z ⟨Z,trivial⟩ Z (dR 3 Z (dq (.p (eS UE.2.fs)) [42] Z (λ _ e _ q=>ap Z (aW Z Z Z Z Z (e _ _ Z) Z (ad.g_s _) q)) Z (dR 3 Z (dq (.p (eI UE.2.fat)) [46] Z (λ _ e _ q=>ap Z (aW Z Z Z Z Z (e _ _ Z) Z (ad.g_at _) q)) Z (dq (.p (eS (sub UE.2.fs UE.2.fat (UE.2.fs.length:Int)))) [43,47] Z (λ _ e _ q=>ap Z (fH (a:=UE.2.fs) (l:=UE.2.fat) (h:=(UE.2.fs.length:Int)) Z Z Z Z Z (e _ _ Z) pZ Z Zg q)) Z (dq (.p (eI WO)) [48] Z (λ _ e _ q=>ap Z (cW (lY (sub UE.2.fs UE.2.fat (UE.2.fs.length:Int)) 10 _ e33) Z Z Z (aE (e _ _ Z) (aE Z bz)) ⟨sr,sr,trivial⟩ Tryz.call85 Z q)) Z (dR 1 Z (dE Z (nx 2 Z (bd h2 λ Zz h3 h2=>kN Zz (λ v53=>⟨[(0,.ptr 1000000 0),(3,.p (eI v53))],[(1000000,(ad.cs UE.2).map .p)]⟩) ?_ ?_)))))))))))
    ·exact nx 5 Z (mO Z (aW Z Z Z Z Z Z Z (ad.g_at _) (nx 1 Z (oA h2 Z Z λ XA h2=>nx 2 Z B5))))
    refine nx 5 Z (fD [51] h3 Z (λ c34 h3=>?_) λ c34 h3=>?_)
    ·exact nx 1 Z (cc' h3 λ X4 h3=>mD [(0,.ptr 1000000 0)] Z ⟨Z,trivial⟩ Z (dR 3 Z (dq (.p (eS UE.2.fs)) [54] Z (λ _ e _ q=>ap Z (aW Z Z Z Z Z (e _ _ Z) Z (ad.g_s _) q)) Z (dq (.p (eI (UE.2.fs.length:Int))) [55] Z (λ _ e _ q=>ap Z (nU Z Z Z Z Z (e _ _ Z) q)) Z (dR 3 Z (dq (.p (eI UE.2.fat)) [59] Z (λ _ e _ q=>ap Z (aW Z Z Z Z Z (e _ _ Z) Z (ad.g_at _) q)) Z (dq (.p (eI ((UE.2.fs.length:Int)-UE.2.fat))) [56,60] Z (λ _ e _ q=>ap Z (fM Z Z Z (e _ _ Z) (e _ _ Z) Z X4 q)) Z Lj)))))))
    exact mi
   exact nx 2 Z Kp
  refine nx 4 Z (fD [32,33] h3 Z (λ c28 h3=>?_) λ c28 h3=>?_)
  ·exact nx 3 Z (mO Z (aW Z Z Z Z Z Z Z (ad.g_outer _) (nx 4 Z nw)))
  exact yc
 exact gJ
def dT (Mr:Bk):Nat->Int->Option (Unit⊕Bk)|0,_=>none|m+1,t8=>if t8<7 then ck ((0:Int)<=t8/\t8<7)<|(strings_HasPrefix Mr (lat ([([61,62]:Bk),([61,61]:Bk),([33,61]:Bk),([60,61]:Bk),([62,61]:Bk),([38,38]:Bk),([124,124]:Bk)]:List Bk) t8)).bind λ Wy=>if Wy=true then some (.inr (lat ([([61,62]:Bk),([61,61]:Bk),([33,61]:Bk),([60,61]:Bk),([62,61]:Bk),([38,38]:Bk),([124,124]:Bk)]:List Bk) t8))else ck (inR (t8+1))<|dT Mr m (t8+1)else some (.inl ())
def jF (n:Nat)(Mr:Bk):Option Bk :=jn (dT Mr n 0) λ _XW=>(if Mr=([]:Bk) then some true else ck ((0:Int)<=0/\0<(Mr.length:Int))<|(strings_IndexByte ([123,125,91,93,40,41,44,61,60,62,43,45,42,47,37,33,63,58,46]:Bk) (byt Mr 0)).bind λ Vx=>some (decide (Vx<0))).bind λ t20=>if t20=true then some ([]:Bk)else ck ((0:Int)<=0/\(0:Int)<=1/\(1:Int)<=(Mr.length:Int))<|some (sub Mr 0 1)
instance Gy (n:Nat) (Mr:Bk):∀ (r:Bk),HP (jF n Mr=some r) Tryz.prog 86 [eS Mr] (.p (eS r)):=by
 refine hP good Tryz.func86 Z Z λ r h0 _ w0=>?_;unfold jF at h0;refine nx 11 rfl ?_;obtain ⟨W8,h1,UV,hR0⟩:=bo h0;refine kEx 0 (λ WY:Unit=>W8=.inl WY) (λ WY=>⟨[(0,.p (eS Mr))],[]⟩) (λ WY hv=>?_) ?_
 ·have h0:=UV _ hv;refine nx 3 Z (bd h0 λ ZR h1 h0=>kN ZR (λ v28=>⟨[(0,.p (eS Mr)),(21,.p (eB v28))],[]⟩) ?_ ?_)
  ·exact S0
  exact gJ
 refine lG (λ (VS:Int)=>⟨[(0,.p (eS Mr)),(5,.p (.agg [eS ([61,62]:Bk),eS ([61,61]:Bk),eS ([33,61]:Bk),eS ([60,61]:Bk),eS ([62,61]:Bk),eS ([38,38]:Bk),eS ([124,124]:Bk)])),(6,.p (eI VS))],[]⟩) (λ m (VS:Int)=>dT Mr m VS) Y 0 h1 (gE rfl rfl) ?_;rintro m t8 h1;replace h1:dT Mr (m+1) t8=some W8:=h1;rw [dT] at h1;refine nx 5 rfl (fD [7] h1 rfl (λ c9 h1=>?_) λ c9 h1=>?_)
 ·refine nx 6 Z (cc' h1 λ Xh h1=>mO Z (wO eS ([([61,62]:Bk),([61,61]:Bk),([33,61]:Bk),([60,61]:Bk),([62,61]:Bk),([38,38]:Bk),([124,124]:Bk)]:List Bk) Z Z Z Z Z Z Z Z Z Z Z (by have:=Xh; simp only [aq,mv]; omega) (nx 6 Z (bd h1 λ Wy Z3 h1=>oK (dk Mr (lat ([([61,62]:Bk),([61,61]:Bk),([33,61]:Bk),([60,61]:Bk),([62,61]:Bk),([38,38]:Bk),([124,124]:Bk)]:List Bk) t8) _ Z3) Z ⟨sr,sr,trivial⟩ Tryz.call75 Z (nx 1 Z (fB [11] h1 Z (λ YL h1=>?_) λ YL h1=>?_))))))
  ·exact nx 7 Z (mQ (hR0 _ (oi h1).symm) Z (sr))
  exact nx 3 Z (oA h1 Z Z λ WU h1=>nx 2 Z (eX (t8+1) h1 (gE Z Z)))
 exact gJ
def dl (n:Nat)(T':ad):Option (Bool×ad) :=ck ((0:Int)<=T'.fat/\T'.fat<(T'.fs.length:Int))<|ck ((0:Int)<=byt T'.fs T'.fat/\byt T'.fs T'.fat<256)<|(if ((lat jE (byt T'.fs T'.fat)).toNat:Int)=2 then some true else if ((lat jE (byt T'.fs T'.fat)).toNat:Int)=3 then some true else if ((lat jE (byt T'.fs T'.fat)).toNat:Int)=5 then some true else some (decide (((lat jE (byt T'.fs T'.fat)).toNat:Int)=6))).bind λ t6=>if t6=true then some (true,T')else ck ((0:Int)<=T'.fat/\T'.fat<=(T'.fs.length:Int)/\(T'.fs.length:Int)<=(T'.fs.length:Int))<|(jF n (sub T'.fs T'.fat (T'.fs.length:Int))).bind λ r9=>some (!decide (r9=([]:Bk)),T')
instance wS (n:Nat):yA (dl n) 54:=by
 refine λ T'=>hO good [] [1000000] Tryz.func54 Z Z λ r h0 _ w0 F=>?_;unfold dl at h0;refine nx 6 Z (cc' h0 λ YG h0=>cc' h0 λ Wz h0=>mD [(0,.ptr 1000000 0)] Z ⟨Z,trivial⟩ Z (dR 4 Z (dq (.p (eS T'.fs)) [6] Z (λ _ e _ q=>ap Z (aW Z Z Z Z Z (e _ _ Z) Z (ad.g_s _) q)) Z (dR 3 Z (dq (.p (eI T'.fat)) [10] Z (λ _ e _ q=>ap Z (aW Z Z Z Z Z (e _ _ Z) Z (ad.g_at _) q)) Z (dq (.p (eK .u8 (byt T'.fs T'.fat))) [7,11] Z (λ _ e _ q=>ap Z (fK Z Z Z Z Z (e _ _ Z) (e _ _ Z) YG q)) Z (dR 2 Z (dq (.ptr 1000000 (2+(byt T'.fs T'.fat).toNat*1)) [12,14] Z (λ _ e _ q=>ap Z (gA Z Z Z Z Z Z (e _ _ Z) (e _ _ Z) Wz q)) Z (dq (.p (eK .u8 ((lat jE (byt T'.fs T'.fat)).toNat:Int))) [15] Z (λ _ e _ q=>ap Z (aW Z Z Z Z Z (e _ _ Z) Z (ad.g_class _ Wz) q)) Z (dE Z (nx 3 Z (bd h0 λ o12 h1 h0=>?_))))))))))));refine kN o12 (λ v13=>⟨[(0,.ptr 1000000 0),(17,.p (eB v13))],[(1000000,(ad.cs T').map .p)]⟩) ?_ ?_
 ·refine nx 1 Z (fB [17] h0 Z (λ c7 h0=>?_) λ c7 h0=>?_)
  ·exact S0
  exact nx 3 Z (cc' h0 λ hk8 h0=>bd h0 λ r9 Xb h0=>mD [(0,.ptr 1000000 0)] Z ⟨Z,trivial⟩ Z (dR 3 Z (dq (.p (eS T'.fs)) [24] Z (λ _ e _ q=>ap Z (aW Z Z Z Z Z (e _ _ Z) Z (ad.g_s _) q)) Z (dR 3 Z (dq (.p (eI T'.fat)) [28] Z (λ _ e _ q=>ap Z (aW Z Z Z Z Z (e _ _ Z) Z (ad.g_at _) q)) Z (dq (.p (eS (sub T'.fs T'.fat (T'.fs.length:Int)))) [25,29] Z (λ _ e _ q=>ap Z (fH (a:=T'.fs) (l:=T'.fat) (h:=(T'.fs.length:Int)) Z Z Z Z Z (e _ _ Z) pZ Z hk8 q)) Z (dq (.p (eS r9)) [30] Z (λ _ e _ q=>ap Z (cW (HP.c Xb) Z Z Z (aE (e _ _ Z) bz) ⟨sr,trivial⟩ Tryz.call86 Z q)) Z (dq (.p (eB (!decide (r9=([]:Bk))))) [31] Z (λ _ e _ q=>ap Z (kR Z Z Z (e _ _ Z) Z Z q)) Z S0))))))))
 exact gJ
def cm (WX:Int)(b_2:Int):Nat->ad->Option ad|0,_=>none|m+1,x14=>((bA x14).bind λ Uu=>if Uu.1=true then ck ((0:Int)<=Uu.2.fat/\Uu.2.fat<(Uu.2.fs.length:Int))<|ck ((0:Int)<=byt Uu.2.fs Uu.2.fat/\byt Uu.2.fs Uu.2.fat<256)<|if ((lat jE (byt Uu.2.fs Uu.2.fat)).toNat:Int)=WX then some (true,Uu.2)else ck ((0:Int)<=Uu.2.fat/\Uu.2.fat<(Uu.2.fs.length:Int))<|ck ((0:Int)<=byt Uu.2.fs Uu.2.fat/\byt Uu.2.fs Uu.2.fat<256)<|some (decide (((lat jE (byt Uu.2.fs Uu.2.fat)).toNat:Int)=b_2),Uu.2)else some (false,Uu.2)).bind λ V'=>if V'.1=true then ck (inR (V'.2.fat+1))<|cm WX b_2 m (ad.mk V'.2.fs (V'.2.fat+1) V'.2.IS V'.2.AT)else some V'.2
def fJ (n:Nat)(T':ad)(WX:Int)(b_2:Int):Option (Bk×ad) :=(cm WX b_2 n T').bind λ x28=>ck ((0:Int)<=T'.fat/\T'.fat<=x28.fat/\x28.fat<=(x28.fs.length:Int))<|some (sub x28.fs T'.fat x28.fat,x28)
instance ze (n:Nat) (T':ad) (WX:Int) (b_2:Int):∀ (r:Bk×ad),HO (fJ n T' WX b_2=some r) Tryz.prog 87 [.ptr 1000000 0,.p (eK .u8 WX),.p (eK .u8 b_2)] [(1000000,(ad.cs T').map .p)] (.p (eS r.1)) ([(1000000,(ad.cs r.2).map .p)]):=by
 refine hO good [] [1000000] Tryz.func87 Z Z λ r h0 _ w0 F=>?_;unfold fJ at h0;refine nx 9 Z (mO Z (aW Z Z Z Z Z Z Z (ad.g_at _) (nx 4 Z (bd h0 λ XL h1 h0=>kE 0 XL (λ ZE=>⟨[(0,.ptr 1000000 0),(7,.p (eI T'.fat))],[(1000000,(ad.cs ZE).map .p)]⟩) ?_ ?_))))
 ·exact nx 2 Z (cc' h0 λ aaT h0=>mD [(0,.ptr 1000000 0),(7,.p (eI T'.fat))] Z ⟨Z,Z,trivial⟩ Z (dR 3 Z (dq (.p (eS XL.fs)) [59] Z (λ _ e _ q=>ap Z (aW Z Z Z Z Z (e _ _ Z) Z (ad.g_s _) q)) Z (dR 4 Z (dq (.p (eI XL.fat)) [64] Z (λ _ e _ q=>ap Z (aW Z Z Z Z Z (e _ _ Z) Z (ad.g_at _) q)) Z (dq (.p (eS (sub XL.fs T'.fat XL.fat))) [60,61,65] Z (λ _ e _ q=>ap Z (fH (a:=XL.fs) (l:=T'.fat) (h:=XL.fat) Z Z Z Z Z (e _ _ Z) pZ (yB (e _ _ Z)) aaT q)) Z S0))))))
 refine lG (λ (q34:ad)=>⟨[(0,.ptr 1000000 0),(1,.p (eK .u8 WX)),(2,.p (eK .u8 b_2)),(7,.p (eI T'.fat))],[(1000000,(ad.cs q34).map .p)]⟩) (λ m (q34:ad)=>cm WX b_2 m q34) Y T' h1 (gE rfl rfl) ?_;rintro m x14 h1;replace h1:cm WX b_2 (m+1) x14=some XL:=h1;rw [cm] at h1;refine nx 2 rfl (bd h1 λ o35 h2 h1=>kN o35 (λ v36=>⟨[(0,.ptr 1000000 0),(1,.p (eK .u8 WX)),(2,.p (eK .u8 b_2)),(7,.p (eI T'.fat)),(49,.p (eB v36.1))],[(1000000,(ad.cs v36.2).map .p)]⟩) ?_ ?_)
 ·exact gJ
 refine bd h2 λ Uu Z2 h2=>fB (p:=Uu.1) [] h2 Z (λ UY h2=>?_) λ UY h2=>?_
 ·refine cc' h2 λ VP h2=>cc' h2 λ Wq h2=>fD (p:=((lat jE (byt Uu.2.fs Uu.2.fat)).toNat:Int)=WX) [] h2 Z (λ c20 h2=>?_) λ c20 h2=>?_
  ·refine mG CU (mSq ⟨1,[1],(by2 (.some (cp [] 108000 108000)) .none),(λ _=>[(0,.ptr 1000000 0),(1,.p (eK .u8 WX)),(2,.p (eK .u8 b_2)),(7,.p (eI T'.fat))]),(by2 [(1000000,(ad.cs x14).map .p)] [(1000000,(ad.cs Uu.2).map .p)])⟩ Z (dPc (.ptr 1000000 0) Z (dI (λ _=>.p (eB Uu.1)) [12] Z (λ sl Sk K hK=>ap Z (aV [1000000] [] 108000 108000 (HO.c Z2) Z Z Z (aE (Sk _ _ Z) bz) Z ⟨sr,trivial⟩ Z (ay Z (aA _) Z) ⟨⟨_,Z,aR _⟩,trivial⟩ Z Z Z Z Z Z Z Z Tryz.call53 Z (ay Z (aA _) Z) hK)) (dPc (.p (eB Uu.1)) Z (dPy (λ _=>.ptr 1000000 0) (UY) Z (dPy (λ _=>.ptr 1000000 0) (UY) Z (dPy (λ _=>.ptr 1000000 0) (UY) Z (dPy (λ _=>.ptr 1000000 0) (UY) Z (dPy (λ _=>.p (eS Uu.2.fs)) (UY) Z (dPy (λ _=>.ptr 1000000 0) (UY) Z (dPy (λ _=>.ptr 1000000 0) (UY) Z (dPy (λ _=>.ptr 1000000 1) (UY) Z (dPy (λ _=>.p (eI Uu.2.fat)) (UY) Z ?_)))))))))))));refine dO (.p (eK .u8 (byt Uu.2.fs Uu.2.fat))) [14,19,23] Z (λ _ sl Sk K hK=>cx (fK Z Z Z Z Z (Sk _ _ Z) (Sk _ _ Z) VP hK) Z Z (Sk _ _ Z) (UY)) (dPy (λ _=>.ptr 1000000 0) (UY) Z (dPy (λ _=>.ptr 1000000 2) (UY) Z (dO (.ptr 1000000 (2+(byt Uu.2.fs Uu.2.fat).toNat*1)) [14,24,26] Z (λ _ sl Sk K hK=>cx (gA Z Z Z Z Z Z (Sk _ _ Z) (Sk _ _ Z) Wq hK) Z Z (Sk _ _ Z) (UY)) (jU (λ _=>.p (eK .u8 ((lat jE (byt Uu.2.fs Uu.2.fat)).toNat:Int))) Z Z Z (Hg Z Y) (lt1 Z) (hQ [(14,_),(27,_)] ⟨.inr ⟨2,_,Z,Z,Z⟩,.inr ⟨15,_,Z,Z,Z⟩,trivial⟩ (λ sl Sk K hK=>cx (aW Z Z Z Z Z (Sk _ _ Z) Z (ad.g_class _ Wq) hK) Z Z (Sk _ _ Z) (UY)) (iW Z lA)) (dPy (λ _=>.p (eK .u8 WX)) (UY) Z (dPy (λ _=>.p (eB (decide (((lat jE (byt Uu.2.fs Uu.2.fat)).toNat:Int)=WX)))) (UY) Z (dPy (λ _=>.p (eB (decide (((lat jE (byt Uu.2.fs Uu.2.fat)).toNat:Int)=WX)))) (UY) Z (dPn (dt c20) Z (dPn (dt c20) Z (dPn (dt c20) Z (dPn (dt c20) Z (dPn (dt c20) Z (dPn (dt c20) Z ?_)))))))))))));refine dPn (dt c20) Z (dPn (dt c20) Z (dPn (dt c20) Z (dPn (dt c20) Z (dPn (dt c20) Z (dPn (dt c20) Z (dPn (dt c20) Z (dPn (dt c20) Z (dPn (dt c20) Z (dPn (dt c20) Z (dO (.p (eB true)) [14,31,47] Z (λ _ sl Sk K hK=>cx (mB Z Z Z (Sk _ _ Z) (dt c20) Z hK) Z Z (Sk _ _ Z) (UY)) (dO (.p (eB true)) [14,48] Z (λ _ sl Sk K hK=>ap Z (mB Z Z Z (Sk _ _ Z) (UY) (Sk _ _ Z) hK)) (eT (nx 1 Z ?_)))))))))))));exact eX _ (oi h2).symm (gE Z Z)
  refine cc' h2 λ Wp h2=>cc' h2 λ X7 h2=>mG CU (mSq ⟨1,[1],(by2 (.some (cp [] 109000 109000)) .none),(λ _=>[(0,.ptr 1000000 0),(1,.p (eK .u8 WX)),(2,.p (eK .u8 b_2)),(7,.p (eI T'.fat))]),(by2 [(1000000,(ad.cs x14).map .p)] [(1000000,(ad.cs Uu.2).map .p)])⟩ Z (dPc (.ptr 1000000 0) Z (dI (λ _=>.p (eB Uu.1)) [12] Z (λ sl Sk K hK=>ap Z (aV [1000000] [] 109000 109000 (HO.c Z2) Z Z Z (aE (Sk _ _ Z) bz) Z ⟨sr,trivial⟩ Z (ay Z (aA _) Z) ⟨⟨_,Z,aR _⟩,trivial⟩ Z Z Z Z Z Z Z Z Tryz.call53 Z (ay Z (aA _) Z) hK)) (dPc (.p (eB Uu.1)) Z (dPy (λ _=>.ptr 1000000 0) (UY) Z (dPy (λ _=>.ptr 1000000 0) (UY) Z (dPy (λ _=>.ptr 1000000 0) (UY) Z (dPy (λ _=>.ptr 1000000 0) (UY) Z (dPy (λ _=>.p (eS Uu.2.fs)) (UY) Z (dPy (λ _=>.ptr 1000000 0) (UY) Z (dPy (λ _=>.ptr 1000000 0) (UY) Z (dPy (λ _=>.ptr 1000000 1) (UY) Z (dPy (λ _=>.p (eI Uu.2.fat)) (UY) Z ?_)))))))))))));refine dO (.p (eK .u8 (byt Uu.2.fs Uu.2.fat))) [14,19,23] Z (λ _ sl Sk K hK=>cx (fK Z Z Z Z Z (Sk _ _ Z) (Sk _ _ Z) VP hK) Z Z (Sk _ _ Z) (UY)) (dPy (λ _=>.ptr 1000000 0) (UY) Z (dPy (λ _=>.ptr 1000000 2) (UY) Z (dO (.ptr 1000000 (2+(byt Uu.2.fs Uu.2.fat).toNat*1)) [14,24,26] Z (λ _ sl Sk K hK=>cx (gA Z Z Z Z Z Z (Sk _ _ Z) (Sk _ _ Z) Wq hK) Z Z (Sk _ _ Z) (UY)) (jU (λ _=>.p (eK .u8 ((lat jE (byt Uu.2.fs Uu.2.fat)).toNat:Int))) Z Z Z (Hg Z Y) (lt1 Z) (hQ [(14,_),(27,_)] ⟨.inr ⟨2,_,Z,Z,Z⟩,.inr ⟨15,_,Z,Z,Z⟩,trivial⟩ (λ sl Sk K hK=>cx (aW Z Z Z Z Z (Sk _ _ Z) Z (ad.g_class _ Wq) hK) Z Z (Sk _ _ Z) (UY)) (iW Z lA)) (dPy (λ _=>.p (eK .u8 WX)) (UY) Z (dPy (λ _=>.p (eB (decide (((lat jE (byt Uu.2.fs Uu.2.fat)).toNat:Int)=WX)))) (UY) Z (dPy (λ _=>.p (eB (decide (((lat jE (byt Uu.2.fs Uu.2.fat)).toNat:Int)=WX)))) (UY) Z (dPy (λ _=>.ptr 1000000 0) (df c20) Z (dPy (λ _=>.ptr 1000000 0) (df c20) Z (dPy (λ _=>.ptr 1000000 0) (df c20) Z (dPy (λ _=>.ptr 1000000 0) (df c20) Z (dPy (λ _=>.p (eS Uu.2.fs)) (df c20) Z (dPy (λ _=>.ptr 1000000 0) (df c20) Z ?_)))))))))))));refine dPy (λ _=>.ptr 1000000 0) (df c20) Z (dPy (λ _=>.ptr 1000000 1) (df c20) Z (dPy (λ _=>.p (eI Uu.2.fat)) (df c20) Z (dO (.p (eK .u8 (byt Uu.2.fs Uu.2.fat))) [31,36,40] Z (λ _ sl Sk K hK=>cx (fK Z Z Z Z Z (Sk _ _ Z) (Sk _ _ Z) Wp hK) Z Z (Sk _ _ Z) (df c20)) (dPy (λ _=>.ptr 1000000 0) (df c20) Z (dPy (λ _=>.ptr 1000000 2) (df c20) Z (dO (.ptr 1000000 (2+(byt Uu.2.fs Uu.2.fat).toNat*1)) [31,41,43] Z (λ _ sl Sk K hK=>cx (gA Z Z Z Z Z Z (Sk _ _ Z) (Sk _ _ Z) X7 hK) Z Z (Sk _ _ Z) (df c20)) (jU (λ _=>.p (eK .u8 ((lat jE (byt Uu.2.fs Uu.2.fat)).toNat:Int))) Z Z Z (Hg Z Y) (lt1 Z) (hQ [(31,_),(44,_)] ⟨.inr ⟨19,_,Z,Z,Z⟩,.inr ⟨32,_,Z,Z,Z⟩,trivial⟩ (λ sl Sk K hK=>cx (aW Z Z Z Z Z (Sk _ _ Z) Z (ad.g_class _ X7) hK) Z Z (Sk _ _ Z) (df c20)) (iW Z lA)) (dPy (λ _=>.p (eK .u8 b_2)) (df c20) Z (dPy (λ _=>.p (eB (decide (((lat jE (byt Uu.2.fs Uu.2.fat)).toNat:Int)=b_2)))) (df c20) Z (dO (.p (eB (decide (((lat jE (byt Uu.2.fs Uu.2.fat)).toNat:Int)=b_2)))) [14,31,47] Z (λ _ sl Sk K hK=>cx (oh Z Z Z (Sk _ _ Z) (df c20) (Sk _ _ Z) hK) Z Z (Sk _ _ Z) (UY)) (dO (.p (eB (decide (((lat jE (byt Uu.2.fs Uu.2.fat)).toNat:Int)=b_2)))) [14,48] Z (λ _ sl Sk K hK=>ap Z (mB Z Z Z (Sk _ _ Z) (UY) (Sk _ _ Z) hK)) (eT (nx 1 Z ?_)))))))))))));exact eX _ (oi h2).symm (gE Z Z)
 refine mG CU (mSq ⟨1,[1],(by2 (.some (cp [] 110000 110000)) .none),(λ _=>[(0,.ptr 1000000 0),(1,.p (eK .u8 WX)),(2,.p (eK .u8 b_2)),(7,.p (eI T'.fat))]),(by2 [(1000000,(ad.cs x14).map .p)] [(1000000,(ad.cs Uu.2).map .p)])⟩ Z (dPc (.ptr 1000000 0) Z (dI (λ _=>.p (eB Uu.1)) [12] Z (λ sl Sk K hK=>ap Z (aV [1000000] [] 110000 110000 (HO.c Z2) Z Z Z (aE (Sk _ _ Z) bz) Z ⟨sr,trivial⟩ Z (ay Z (aA _) Z) ⟨⟨_,Z,aR _⟩,trivial⟩ Z Z Z Z Z Z Z Z Tryz.call53 Z (ay Z (aA _) Z) hK)) (dPc (.p (eB Uu.1)) Z (dPn (UY) Z (dPn (UY) Z (dPn (UY) Z (dPn (UY) Z (dPn (UY) Z (dPn (UY) Z (dPn (UY) Z (dPn (UY) Z (dPn (UY) Z ?_)))))))))))));refine dPn (UY) Z (dPn (UY) Z (dPn (UY) Z (dPn (UY) Z (dPn (UY) Z (dPn (UY) Z (dPn (UY) Z (dPn (UY) Z (dPx Z (dPx Z (dPx Z (dPx Z (dPx Z (dPx Z ?_)))))))))))));refine dPx Z (dPx Z (dPx Z (dPx Z (dPx Z (dPx Z (dPx Z (dPx Z (dPx Z (dPx Z (dPn (UY) Z (dO (.p (eB false)) [14,48] Z (λ _ sl Sk K hK=>ap Z (oh Z Z Z (Sk _ _ Z) (UY) Z hK)) (eT (nx 1 Z ?_)))))))))))));exact eX _ (oi h2).symm (gE Z Z)
def cE (T':ad)(k_1:Int)(at_2:Int):Option (Bool×ad) :=some (false,(ad.mk T'.fs T'.fat T'.IS (ao.mk k_1 at_2 ([]:Bk))))
instance y6 (T':ad) (k_1:Int) (at_2:Int):∀ (r:Bool×ad),HO (cE T' k_1 at_2=some r) Tryz.prog 88 [.ptr 1000000 0,.p (eI k_1),.p (eI at_2)] [(1000000,(ad.cs T').map .p)] (.p (eB r.1)) ([(1000000,(ad.cs r.2).map .p)]):=by
 refine hO good [] [1000000] Tryz.func88 Z Z λ r h0 _ w0 F=>?_;unfold cE at h0;exact nx 12 Z (mO Z (gP Z Z Z Z Z Z Z Z (ad.b_bad _) (ad.u_bad _) H3))
def d7 (T':ad):Option (Bool×ad) :=ck ((0:Int)<=T'.fat/\T'.fat<=(T'.fs.length:Int)/\(T'.fs.length:Int)<=(T'.fs.length:Int))<|(bn (sub T'.fs T'.fat (T'.fs.length:Int))).bind λ r2=>(if r2.1=65533 then if r2.2=1 then some true else if r2.1<32 then some true else some (decide (r2.1=127))else if r2.1<32 then some true else some (decide (r2.1=127))).bind λ t8=>if t8=true then some (false,T')else ck (inR (T'.fat+r2.2))<|some (true,(ad.mk T'.fs (T'.fat+r2.2) T'.IS T'.AT))
instance vY:yA (d7) 134:=by
 refine λ T'=>hO good [] [1000000] Tryz.func134 Z Z λ r h0 _ w0 F=>?_;unfold d7 at h0;refine nx 5 Z (cc' h0 λ YG h0=>bd h0 λ r2 e3 h0=>mD [(0,.ptr 1000000 0)] Z ⟨Z,trivial⟩ Z (dR 3 Z (dq (.p (eS T'.fs)) [8] Z (λ _ e _ q=>ap Z (aW Z Z Z Z Z (e _ _ Z) Z (ad.g_s _) q)) Z (dR 3 Z (dq (.p (eI T'.fat)) [12] Z (λ _ e _ q=>ap Z (aW Z Z Z Z Z (e _ _ Z) Z (ad.g_at _) q)) Z (dq (.p (eS (sub T'.fs T'.fat (T'.fs.length:Int)))) [9,13] Z (λ _ e _ q=>ap Z (fH (a:=T'.fs) (l:=T'.fat) (h:=(T'.fs.length:Int)) Z Z Z Z Z (e _ _ Z) pZ Z YG q)) Z (dq (.tuple [.p (eK .i32 r2.1),.p (eI r2.2)]) [14] Z (λ _ e _ q=>ap Z (cW (dX (sub T'.fs T'.fat (T'.fs.length:Int)) _ e3) Z Z Z (aE (e _ _ Z) bz) ⟨sr,trivial⟩ Tryz.call126 Z q)) Z (dR 5 Z (dE Z (nx 3 Z (bd h0 λ o12 h1 h0=>kN o12 (λ v13=>⟨[(0,.ptr 1000000 0),(4,.p (eI r2.2)),(31,.p (eB v13))],[(1000000,(ad.cs T').map .p)]⟩) ?_ ?_)))))))))))
 ·refine nx 1 Z (fB [31] h0 Z (λ c9 h0=>?_) λ c9 h0=>?_)
  ·exact S0
  exact nx 7 Z (mO Z (aW Z Z Z Z Z Z Z (ad.g_at _) (nx 1 Z (oA h0 Z Z λ Xh h0=>nx 2 Z (mO Z (gP Z Z Z Z Z Z Z Z (ad.b_at _) (ad.u_at _) H3))))))
 exact gJ
def aQ (UH:ad->Int->Option (Bool×ad))(S':Int):Nat->ad->Option (ad⊕(Bool×ad))|0,_=>none|m+1,x33=>(bA x33).bind λ UF=>if UF.1=true then ck ((0:Int)<=UF.2.fat/\UF.2.fat<=(UF.2.fs.length:Int)/\(UF.2.fs.length:Int)<=(UF.2.fs.length:Int))<|jn (ck ((0:Int)<=0/\0<((sub UF.2.fs UF.2.fat (UF.2.fs.length:Int)).length:Int))<|if byt (sub UF.2.fs UF.2.fat (UF.2.fs.length:Int)) 0=34 then ck (inR (UF.2.fat+1))<|some (.inr (.inr (true,(ad.mk UF.2.fs (UF.2.fat+1) UF.2.IS UF.2.AT))))else(strings_HasPrefix (sub UF.2.fs UF.2.fat (UF.2.fs.length:Int)) ([36,36,123]:Bk)).bind λ ZK=>if ZK=true then ck (inR (UF.2.fat+3))<|some (.inl (ad.mk UF.2.fs (UF.2.fat+3) UF.2.IS UF.2.AT))else(strings_HasPrefix (sub UF.2.fs UF.2.fat (UF.2.fs.length:Int)) ([36,123]:Bk)).bind λ Xr=>if Xr=true then(UH UF.2 S').bind λ ZJ=>if (!ZJ.1)=true then some (.inr (.inr (false,ZJ.2)))else some (.inl ZJ.2)else(ck ((0:Int)<=0/\0<((sub UF.2.fs UF.2.fat (UF.2.fs.length:Int)).length:Int))<|if byt (sub UF.2.fs UF.2.fat (UF.2.fs.length:Int)) 0=92 then ck (inR (UF.2.fat+1))<|some (ad.mk UF.2.fs (UF.2.fat+1) UF.2.IS UF.2.AT)else some UF.2).bind λ x54=>(bA x54).bind λ U0=>if (!U0.1)=true then some (.inl U0.2)else(d7 U0.2).bind λ Vi=>if (!Vi.1)=true then(cE Vi.2 2 Vi.2.fat).bind λ Va=>some (.inr (.inr (Va.1,Va.2)))else some (.inl Vi.2) : Option (ad⊕(ad⊕(Bool×ad)))) λ x63=>aQ UH S' m x63 else some (.inl UF.2)
def aM (n:Nat)(U6:ad->Int->Option (ab×Bool×ad))(S':Int):Nat->Int->ad->Option (ad⊕(Bool×ad))|0,_,_=>none|m+1,open35,x36=>if 0<open35 then jn ((fo n x36).bind λ VI=>(bA VI).bind λ Yo=>if (!Yo.1)=true then(cE Yo.2 40 Yo.2.IS).bind λ We=>some (.inr (.inr (We.1,We.2)))else(dl n Yo.2).bind λ Xr=>if (!Xr.1)=true then(cE Xr.2 2 Xr.2.fat).bind λ ZJ=>some (.inr (.inr (ZJ.1,ZJ.2)))else ck (inR (S'+1))<|(U6 Xr.2 (S'+1)).bind λ Vb=>if (!Vb.2.1)=true then some (.inr (.inr (false,Vb.2.2)))else((if Vb.1.Ar=4 then some (decide (Vb.1.By=([123]:Bk)))else some false).bind λ t55=>if t55=true then ck (inR (open35+1))<|some (open35+1)else some open35).bind λ open58=>(if Vb.1.Ar=4 then some (decide (Vb.1.By=([125]:Bk)))else some false).bind λ t60=>if t60=true then ck (inR (open58-1))<|some (.inl (open58-1,Vb.2.2))else some (.inl (open58,Vb.2.2)) : Option ((Int×ad)⊕(ad⊕(Bool×ad)))) λ q69=>aM n U6 S' m q69.1 q69.2 else some (.inl x36)
mutual
def a8:Nat->ad->Int->Option (ab×Bool×ad)|0,_,_=>none|n+1,T',S'=>ck ((0:Int)<=T'.fat/\T'.fat<(T'.fs.length:Int))<|ck ((0:Int)<=byt T'.fs T'.fat/\byt T'.fs T'.fat<256)<|jn (if ((lat jE (byt T'.fs T'.fat)).toNat:Int)=2 then(fJ n T' 2 3).bind λ r4=>if 64<(r4.1.length:Int) then(cE r4.2 7 T'.fat).bind λ r7=>some (.inr ((ab.mk 1 r4.1 T'.fat),r7.1,r7.2))else some (.inl (1,r4.1,r4.2))else if ((lat jE (byt T'.fs T'.fat)).toNat:Int)=3 then(fJ n T' 3 3).bind λ UN=>some (.inl (2,UN.1,UN.2))else if ((lat jE (byt T'.fs T'.fat)).toNat:Int)=6 then ck (inR (T'.fat+1))<|some (.inl (5,([10]:Bk),(ad.mk T'.fs (T'.fat+1) T'.IS T'.AT)))else if ((lat jE (byt T'.fs T'.fat)).toNat:Int)=5 then((cA n) T' S').bind λ Uu=>if (!Uu.1)=true then some (.inr ((ab.mk 3 ([]:Bk) T'.fat),false,Uu.2))else ck (inR (T'.fat+1))<|ck (inR (Uu.2.fat-1))<|ck ((0:Int)<=T'.fat+1/\T'.fat+1<=Uu.2.fat-1/\Uu.2.fat-1<=(Uu.2.fs.length:Int))<|some (.inl (3,sub Uu.2.fs (T'.fat+1) (Uu.2.fat-1),Uu.2))else ck ((0:Int)<=T'.fat/\T'.fat<=(T'.fs.length:Int)/\(T'.fs.length:Int)<=(T'.fs.length:Int))<|(jF n (sub T'.fs T'.fat (T'.fs.length:Int))).bind λ V9=>ck (inR (T'.fat+(V9.length:Int)))<|some (.inl (4,V9,(ad.mk T'.fs (T'.fat+(V9.length:Int)) T'.IS T'.AT))) : Option ((Int×Bk×ad)⊕(ab×Bool×ad))) λ q28=>some ((ab.mk q28.1 q28.2.1 T'.fat),true,q28.2.2)
def dw:Nat->ad->Int->Option (Bool×ad)|0,_,_=>none|n+1,T',S'=>ck (inR (T'.fat+1))<|jn (aQ (aI n) S' n (ad.mk T'.fs (T'.fat+1) T'.IS T'.AT)) λ x65=>(cE x65 40 x65.IS).bind λ Xc=>some (Xc.1,Xc.2)
def cA:Nat->ad->Int->Option (Bool×ad)|0,_,_=>none|n+1,T',S'=>if T'.IS<0 then((dw n) (ad.mk T'.fs T'.fat T'.fat T'.AT) S').bind λ r1=>some (r1.1,ad.mk r1.2.fs r1.2.fat (-1) r1.2.AT)else (dw n) T' S'
def aI:Nat->ad->Int->Option (Bool×ad)|0,_,_=>none|n+1,T',S'=>if 32<=S' then(cE T' 4 T'.fat).bind λ r2=>some (r2.1,r2.2)else ck (inR (T'.fat+2))<|jn (aM n (a8 n) S' n 1 (ad.mk T'.fs (T'.fat+2) T'.IS T'.AT)) λ x67=>some (true,x67)
end
theorem oU (n:Nat):(∀ (T':ad) (S':Int) (r:ab×Bool×ad),HO (a8 n T' S'=some r) Tryz.prog 55 [.ptr 1000000 0,.p (eI S')] [(1000000,(ad.cs T').map .p)] (.tuple [.p (.agg (ab.cs r.1)),.p (eB r.2.1)]) ([(1000000,(ad.cs r.2.2).map .p)]))/\(∀ (T':ad) (S':Int) (r:Bool×ad),dw n T' S'=some r->IZ Tryz.prog Tryz.f89 (Tj Tryz.f89.body) [(1,.p (eI S')),(2,.ptr 1000001 0)] [(1000000,(ad.cs T').map .p),(1000001,[.ptr 1000000 0])] (λ x y=>x.sub (.p (eB r.1))/\leO y [(1000000,(ad.cs r.2).map .p),(1000001,[.ptr 1000000 0])]))/\Eo (cA n) 89/\Eo (aI n) 133:=by
 induction n with
 | zero=>exact ⟨Zr,(by intro T' S' r h0; cases h0),Zr,Zr⟩
 | succ n ih=>
 obtain ⟨_,UJ,_,_⟩:=ih;refine ⟨?_,?_,?_,?_⟩
 ·refine λ T' S'=>hO good [] [1000000] Tryz.func55 Z Z λ r h0 _ w0 F=>?_;rw [a8] at h0;refine nx 2 rfl (mO rfl (fU Z Z Z Z Z ?_));refine mG (mM (show mc _ _=_ from pF)) (nx 7 rfl ?_);refine mO rfl (aW Z Z Z Z Z Z Z (ad.g_at _) (nx 1 rfl (mO rfl (fU Z Z Z Z Z ?_))));refine mG (mM (show mc _ _=_ from pF)) (nx 4 rfl ?_);refine cc' h0 λ YG h0=>cc' h0 λ Wz h0=>mD [(0,.ptr 1000000 0),(1,.p (eI S')),(4,.ptr 4 0),(6,.ptr 6 0)] rfl ⟨rfl,rfl,rfl,rfl,trivial⟩ rfl (dR 4 rfl (dq (.p (eS T'.fs)) [15] rfl (λ _ e _ q=>ap rfl (aW Z Z Z Z Z (e _ _ rfl) rfl (ad.g_s _) q)) rfl (dR 3 rfl (dq (.p (eI T'.fat)) [19] rfl (λ _ e _ q=>ap rfl (aW Z Z Z Z Z (e _ _ rfl) rfl (ad.g_at _) q)) rfl (dq (.p (eK .u8 (byt T'.fs T'.fat))) [16,20] rfl (λ _ e _ q=>ap rfl (fK Z Z Z Z Z (e _ _ rfl) (e _ _ rfl) YG q)) rfl (dR 2 rfl (dq (.ptr 1000000 (2+(byt T'.fs T'.fat).toNat*1)) [21,23] rfl (λ _ e _ q=>ap rfl (gA Z Z Z Z Z Z (e _ _ rfl) (e _ _ rfl) Wz q)) rfl (dq (.p (eK .u8 ((lat jE (byt T'.fs T'.fat)).toNat:Int))) [24] rfl (λ _ e _ q=>ap rfl (aW Z Z Z Z Z (e _ _ rfl) rfl (ad.g_class _ Wz) q)) rfl (dE rfl (nx 1 rfl ?_))))))))));obtain ⟨W4,h1,UV,hR0⟩:=bo h0;refine kX (λ VL:Int×Bk×ad=>W4=.inl VL) (λ VL=>⟨[(4,.ptr 4 0),(6,.ptr 6 0)],[(4,jQ),(6,[.p (eI VL.1),.p (eS VL.2.1),.p (eI T'.fat)]),(1000000,(ad.cs VL.2.2).map .p)]⟩) (λ VL hv=>?_) ?_
  ·have h0:=UV _ hv;exact S0
  refine nx 6 Z (fD [48,49] h1 Z (λ c3 h1=>?_) λ c3 h1=>?_)
  ·refine nx 4 Z (bd h1 λ r4 e5 h1=>mO Z (aV [1000000] [] 101000 101000 (HO.c e5) Z Z Z Z Z ⟨sr,sr,sr,trivial⟩ Z (ay Z (aA _) Z) ⟨⟨_,Z,aR _⟩,trivial⟩ Z Z Z Z Z Z Z Z Tryz.call87 Z (ay Z (aA _) Z) (nx 9 Z (oLs Z (nx 2 Z (fD [57] h1 Z (λ c6 h1=>?_) λ c6 h1=>?_))))))
   ·exact nx 2 Z (bd h1 λ r7 e8 h1=>mG (gE (t:=⟨[(0,.ptr 1000000 0),(4,.ptr 4 0),(6,.ptr 6 0)],[(4,jQ),(6,[.p (eI 1),.p (eS r4.1),.p (eI T'.fat)]),(1000000,(ad.cs r4.2).map .p)]⟩) Z Z) (mSq ⟨2,[4,5],(by3 (.some (cp [] 102000 102000)) .none .none),(λ _=>[(0,.ptr 1000000 0),(4,.ptr 4 0),(6,.ptr 6 0)]),(by3 ([(4,jQ),(6,[.p (eI 1),.p (eS r4.1),.p (eI T'.fat)]),(1000000,(ad.cs r4.2).map .p)]) ([(1000000,(ad.cs r7.2).map .p),(4,jQ),(6,[.p (eI 1),.p (eS r4.1),.p (eI T'.fat)])]) ([(4,[.p (eI 1),.p (eS r4.1),.p (eI T'.fat)]),(1000000,(ad.cs r7.2).map .p),(4,jQ),(6,[.p (eI 1),.p (eS r4.1),.p (eI T'.fat)])]))⟩ Z (dPc (.p (.agg [eI 1,eS r4.1,eI T'.fat])) Z (dPc (.ptr 1000000 0) Z (dPc (.ptr 6 2) Z (dPc (.p (eI T'.fat)) Z (dI (λ _=>.p (eB r7.1)) [59,61] Z (λ sl Sk K hK=>ap Z (aV [1000000] [] 102000 102000 (HO.c e8) Z Z Z (aE (Sk _ _ Z) (aE Z (aE (Sk _ _ Z) bz))) Z ⟨sr,sr,sr,trivial⟩ Z (ay Z (aA _) Z) ⟨⟨_,Z,aR _⟩,trivial⟩ Z Z Z Z Z Z Z Z Tryz.call88 Z (ay Z (aA _) Z) hK)) (dS Z (dPc (.p (eB r7.1)) Z (eT (nx 2 Z (mQo (hR0 _ (oi h1).symm) (aU _) Z Z Z (ay Z (aA _) Z) (kf ⟨sr,sr,trivial⟩) ⟨⟨_,Z,aR _⟩,trivial⟩))))))))))))
   exact CQ
  refine nx 6 Z (fD [63,64] h1 Z (λ c9 h1=>?_) λ c9 h1=>?_)
  ·exact nx 3 Z (bd h1 λ UN Zs h1=>mO Z (aV [1000000] [] 103000 103000 (HO.c Zs) Z Z Z Z Z ⟨sr,sr,sr,trivial⟩ Z (ay Z (aA _) Z) ⟨⟨_,Z,aR _⟩,trivial⟩ Z Z Z Z Z Z Z Z Tryz.call87 Z (ay Z (aA _) Z) (nx 5 Z fS)))
  refine nx 6 Z (fD [69,70] h1 Z (λ c12 h1=>?_) λ c12 h1=>?_)
  ·exact gJ
  refine nx 6 Z (fD [80,81] h1 Z (λ YK h1=>?_) λ YK h1=>?_)
  ·refine nx 11 Z (bd h1 λ Uu Z2 h1=>mO Z (aV [1000000] [] 104000 104000 (HO.c Z2) Z Z Z Z Z ⟨sr,sr,trivial⟩ Z (ay Z (aA _) Z) ⟨⟨_,Z,aR _⟩,trivial⟩ Z Z Z Z Z Z Z Z Tryz.call89 Z (ay Z (aA _) Z) (nx 2 Z (mG (gE (t:=⟨[(0,.ptr 1000000 0),(4,.ptr 4 0),(6,.ptr 6 0),(86,.p (eB (!Uu.1)))],[(4,jQ),(6,[.p (eI 3),.p (eS ([]:Bk)),.p (eI T'.fat)]),(1000000,(ad.cs Uu.2).map .p)]⟩) Z Z) (fB [86] h1 Z (λ UY h1=>?_) λ UY h1=>?_)))))
   ·exact gJ
   refine nx 2 Z (cc' h1 λ VP h1=>cc' h1 λ Wq h1=>cc' h1 λ WT h1=>mG (gE (t:=⟨[(0,.ptr 1000000 0),(4,.ptr 4 0),(6,.ptr 6 0)],[(4,jQ),(6,[.p (eI 3),.p (eS ([]:Bk)),.p (eI T'.fat)]),(1000000,(ad.cs Uu.2).map .p)]⟩) Z Z) (mSq ⟨1,[14],(λ _=>.none),(λ _=>[(0,.ptr 1000000 0),(4,.ptr 4 0),(6,.ptr 6 0)]),(ob2 ([(4,jQ),(6,[.p (eI 3),.p (eS ([]:Bk)),.p (eI T'.fat)]),(1000000,(ad.cs Uu.2).map .p)]) (6,[.p (eI 3),.p (eS (sub Uu.2.fs (T'.fat+1) (Uu.2.fat-1))),.p (eI T'.fat)]))⟩ Z (dPc (.ptr 1000000 0) Z (dPc (.ptr 1000000 0) Z (dPc (.ptr 1000000 0) Z (dPc (.p (eS Uu.2.fs)) Z (dPc (.ptr 6 2) Z (dPc (.p (eI T'.fat)) Z (dO (.p (eI (T'.fat+1))) [93] Z (λ _ sl Sk K hK=>ap Z (fM Z Z Z (Sk _ _ Z) Z Z VP hK)) (dPc (.ptr 1000000 0) Z (dPc (.ptr 1000000 0) Z (dPc (.ptr 1000000 1) Z ?_))))))))))));exact dPc (.p (eI Uu.2.fat)) Z (dO (.p (eI (Uu.2.fat-1))) [98] Z (λ _ sl Sk K hK=>ap Z (fM Z Z Z (Sk _ _ Z) Z Z Wq hK)) (dO (.p (eS (sub Uu.2.fs (T'.fat+1) (Uu.2.fat-1)))) [91,94,99] Z (λ _ sl Sk K hK=>ap Z (fH (a:=Uu.2.fs) (l:=T'.fat+1) (h:=Uu.2.fat-1) Z Z Z Z Z (Sk _ _ Z) x9 yi WT hK)) (dPc (.ptr 6 1) Z (dS Z (eT (nx 1 Z fS))))))
  refine nx 2 Z (cc' h1 λ Wp h1=>bd h1 λ V9 e23 h1=>mG (gE (t:=⟨[(0,.ptr 1000000 0),(4,.ptr 4 0),(6,.ptr 6 0)],[(4,jQ),(6,[.p (eI 0),.p (eS ([]:Bk)),.p (eI T'.fat)]),(1000000,(ad.cs T').map .p)]⟩) Z Z) (mSq ⟨2,[11,13],(λ _=>.none),(λ _=>[(0,.ptr 1000000 0),(4,.ptr 4 0),(6,.ptr 6 0)]),(ob3 ([(4,jQ),(6,[.p (eI 0),.p (eS ([]:Bk)),.p (eI T'.fat)]),(1000000,(ad.cs T').map .p)]) (6,[.p (eI 4),.p (eS ([]:Bk)),.p (eI T'.fat)]) (6,[.p (eI 4),.p (eS V9),.p (eI T'.fat)]))⟩ Z (dPc (.ptr 1000000 0) Z (dPc (.ptr 1000000 0) Z (dPc (.ptr 1000000 0) Z (dPc (.p (eS T'.fs)) Z (dPc (.ptr 1000000 0) Z (dPc (.ptr 1000000 0) Z (dPc (.ptr 1000000 1) Z (dPc (.p (eI T'.fat)) Z (dO (.p (eS (sub T'.fs T'.fat (T'.fs.length:Int)))) [29,33] Z (λ _ sl Sk K hK=>ap Z (fH (a:=T'.fs) (l:=T'.fat) (h:=(T'.fs.length:Int)) Z Z Z Z Z (Sk _ _ Z) x9 Z Wp hK)) (dO (.p (eS V9)) [34] Z (λ _ sl Sk K hK=>ap Z (cW (HP.c e23) Z Z Z (aE (Sk _ _ Z) bz) ⟨sr,trivial⟩ Tryz.call86 Z hK)) ?_))))))))))));refine dPc (.ptr 6 0) Z (lZ [(36,_)] Z ⟨.inr ⟨10,_,Z,Z,Z⟩,trivial⟩ Z (λ sl Sk K hK=>ap Z (oW Z Z Z (Sk _ _ Z) Z Z Z Z (sm Z) hK)) (dPc (.ptr 6 1) Z (dS Z (eT (nx 1 Z (cc' h1 λ Zh h1=>mG (gE (t:=⟨[(0,.ptr 1000000 0),(4,.ptr 4 0),(6,.ptr 6 0)],[(4,jQ),(6,[.p (eI 4),.p (eS V9),.p (eI T'.fat)]),(1000000,(ad.cs T').map .p)]⟩) Z Z) (mSq ⟨1,[10],(λ _=>.none),(λ _=>[(0,.ptr 1000000 0),(4,.ptr 4 0),(6,.ptr 6 0)]),(ob2 ([(4,jQ),(6,[.p (eI 4),.p (eS V9),.p (eI T'.fat)]),(1000000,(ad.cs T').map .p)]) (1000000,(ad.cs (ad.mk T'.fs (T'.fat+(V9.length:Int)) T'.IS T'.AT)).map .p))⟩ Z (dPc (.ptr 1000000 0) Z (dPc (.ptr 1000000 0) Z (dPc (.ptr 1000000 1) Z (dPc (.p (eI T'.fat)) Z (dPc (.ptr 6 1) Z (dPc (.p (eS V9)) Z ?_)))))))))))));refine dO (.p (eI (V9.length:Int))) [43] Z (λ _ sl Sk K hK=>ap Z (nU Z Z Z Z Z (Sk _ _ Z) hK)) (dO (.p (eI (T'.fat+(V9.length:Int)))) [41,44] Z (λ _ sl Sk K hK=>ap Z (fM Z Z Z (Sk _ _ Z) (Sk _ _ Z) Z Zh hK)) (dPc (.ptr 1000000 0) Z (dPc (.ptr 1000000 1) Z (lZ [(45,_),(47,_)] Z ⟨.inr ⟨7,_,Z,Z,Z⟩,.inr ⟨9,_,Z,Z,Z⟩,trivial⟩ Z (λ sl Sk K hK=>ap Z (gP Z Z Z (Sk _ _ Z) (Sk _ _ Z) Z Z Z (ad.b_at _) (ad.u_at _) hK)) (eT ?_)))));exact gJ
 ·skip
  intro T' S' r h0;rw [dw] at h0;refine Lk good (t:=4) [1000000,1000001] Z Z λ w0 F=>mPo (λ v:Bool×ad=>.p (eB v.1)) (λ v=>[(1000000,(ad.cs v.2).map .p),(1000001,[.ptr 1000000 0])]) (nx 5 rfl (mO rfl (aW Z Z Z Z Z Z Z (ad.g_at _) (oA h0 Z Z λ YG h0=>nx 2 rfl (mO rfl (gP Z Z Z Z Z Z Z Z (ad.b_at _) (ad.u_at _) (nx 3 rfl ?_)))))));obtain ⟨o71,h1,UV,hR0⟩:=bo h0;refine kEx 0 (λ Zu:ad=>o71=.inl Zu) (λ Zu=>⟨[(2,.ptr 1000001 0)],[(1000000,(ad.cs Zu).map .p),(1000001,[.ptr 1000000 0])]⟩) (λ Zu hv=>?_) ?_
  ·have h0:=UV _ hv;exact nx 2 Z (bd h0 λ Xc e67 h0=>mG (gE (t:=⟨[(2,.ptr 1000001 0)],[(1000000,(ad.cs Zu).map .p),(1000001,[.ptr 1000000 0])]⟩) Z Z) (mSq ⟨1,[5],(by2 (.some (cp [] 111000 111000)) .none),(λ _=>[(2,.ptr 1000001 0)]),(by2 ([(1000000,(ad.cs Zu).map .p),(1000001,[.ptr 1000000 0])]) ([(1000000,(ad.cs Xc.2).map .p),(1000001,[.ptr 1000000 0])]))⟩ Z (dPc (.ptr 1000000 0) Z (dPc (.ptr 1000000 0) Z (dPc (.ptr 1000000 0) Z (dPc (.ptr 1000000 258) Z (dPc (.p (eI Zu.IS)) Z (dI (λ _=>.p (eB Xc.1)) [87,91] Z (λ sl Sk K hK=>ap Z (aV [1000000] [] 111000 111000 (HO.c e67) Z Z Z (aE (Sk _ _ Z) (aE Z (aE (Sk _ _ Z) bz))) Z ⟨sr,sr,sr,trivial⟩ Z (ay Z (aA _) Z) ⟨⟨_,Z,aR _⟩,trivial⟩ Z Z Z Z Z Z Z Z Tryz.call88 Z (ay Z (aA _) Z) hK)) (dPc (.p (eB Xc.1)) Z (eT (nx 2 Z (mQo (oi h0) (aU _) Z Z Z (ay Z (aA _) (ay Z Z Z)) (sr) ⟨⟨_,Z,aR _⟩,⟨_,Z,⟨sr,trivial⟩⟩,trivial⟩))))))))))))
  refine lG (λ (ZL:ad)=>⟨[(1,.p (eI S')),(2,.ptr 1000001 0)],[(1000000,(ad.cs ZL).map .p),(1000001,[.ptr 1000000 0])]⟩) (λ m (ZL:ad)=>aQ (aI n) S' m ZL) Y (ad.mk T'.fs (T'.fat+1) T'.IS T'.AT) h1 (gE rfl rfl) ?_;rintro m x33 h1;replace h1:aQ (aI n) S' (m+1) x33=some o71:=h1;rw [aQ] at h1;refine nx 4 rfl (bd h1 λ UF e35 h1=>mO rfl (aV [1000000] [] 106000 106000 (HO.c e35) rfl rfl rfl rfl rfl ⟨sr,trivial⟩ rfl (ay rfl (aA _) rfl) ⟨⟨_,rfl,aR _⟩,trivial⟩ rfl rfl rfl rfl rfl rfl rfl rfl Tryz.call53 rfl (ay rfl (aA _) rfl) (nx 1 rfl (fB [27] h1 rfl (λ YH h1=>?_) λ YH h1=>?_))))
  ·refine nx 4 rfl (cc' h1 λ XA h1=>mD [(1,.p (eI S')),(2,.ptr 1000001 0)] rfl ⟨rfl,rfl,trivial⟩ rfl (dR 3 rfl (dq (.p (eS UF.2.fs)) [30] rfl (λ _ e _ q=>ap rfl (aW Z Z Z Z Z (e _ _ rfl) rfl (ad.g_s _) q)) rfl (dR 3 rfl (dq (.p (eI UF.2.fat)) [34] rfl (λ _ e _ q=>ap rfl (aW Z Z Z Z Z (e _ _ rfl) rfl (ad.g_at _) q)) rfl (dq (.p (eS (sub UF.2.fs UF.2.fat (UF.2.fs.length:Int)))) [31,35] rfl (λ _ e _ q=>ap rfl (fH (a:=UF.2.fs) (l:=UF.2.fat) (h:=(UF.2.fs.length:Int)) Z Z Z Z Z (e _ _ rfl) pZ rfl XA q)) rfl (dR 1 rfl (dE rfl (nx 1 rfl ?_)))))))));obtain ⟨o74,h2,hL1,hR1⟩:=bo h1;refine kX (λ v75:ad=>o74=.inl v75) (λ v75=>⟨[(1,.p (eI S')),(2,.ptr 1000001 0)],[(1000000,(ad.cs v75).map .p),(1000001,[.ptr 1000000 0])]⟩) (λ v75 hv=>?_) ?_
   ·have h1:=hL1 _ hv;exact gJ
   refine nx 4 Z (oI h2 Z λ aaQ h2=>nx 3 Z (fD [59,62] h2 Z (λ c39 h2=>?_) λ c39 h2=>?_))
   ·exact nx 6 Z (mO Z (aW Z Z Z Z Z Z Z (ad.g_at _) (oA h2 Z Z λ ZW h2=>nx 2 Z (mO Z (gP Z Z Z Z Z Z Z Z (ad.b_at _) (ad.u_at _) (nx 6 Z C5))))))
   refine nx 4 Z (bd h2 λ ZK e42 h2=>oK (dk (sub UF.2.fs UF.2.fat (UF.2.fs.length:Int)) ([36,36,123]:Bk) _ e42) Z ⟨sr,sr,trivial⟩ Tryz.call75 Z (nx 2 Z (fB [70,72] h2 Z (λ c43 h2=>?_) λ c43 h2=>?_)))
   ·exact nx 5 Z (mO Z (aW Z Z Z Z Z Z Z (ad.g_at _) (oA h2 Z Z λ hk44 h2=>nx 2 Z B5)))
   refine nx 4 Z (bd h2 λ Xr e46 h2=>oK (dk (sub UF.2.fs UF.2.fat (UF.2.fs.length:Int)) ([36,123]:Bk) _ e46) Z ⟨sr,sr,trivial⟩ Tryz.call75 Z (nx 2 Z (fB [80,82] h2 Z (λ c47 h2=>?_) λ c47 h2=>?_)))
   ·refine nx 5 Z (bd h2 λ ZJ e49 h2=>mO Z (aV [1000000] [] 107000 107000 (HO.c e49) Z Z Z Z Z ⟨sr,sr,trivial⟩ Z (ay Z (aA _) Z) ⟨⟨_,Z,aR _⟩,trivial⟩ Z Z Z Z Z Z Z Z Tryz.call133 Z (ay Z (aA _) Z) (nx 2 Z (fB [86] h2 Z (λ c50 h2=>?_) λ c50 h2=>?_))))
    ·exact nx 5 Z (mG (gE (t:=⟨[(4,.p (eB false))],[(1000000,(ad.cs ZJ.2).map .p),(1000001,[.ptr 1000000 0])]⟩) Z Z) (nx 1 Z C5))
    exact vd
   refine nx 2 Z (bd h2 λ o76 h3 h2=>kN o76 (λ XQ=>⟨[(1,.p (eI S')),(2,.ptr 1000001 0)],[(1000000,(ad.cs XQ).map .p),(1000001,[.ptr 1000000 0])]⟩) ?_ ?_)
   ·refine nx 5 Z (bd h2 λ U0 e56 h2=>mO Z (aV [1000000] [] 108000 108000 (HO.c e56) Z Z Z Z Z ⟨sr,trivial⟩ Z (ay Z (aA _) Z) ⟨⟨_,Z,aR _⟩,trivial⟩ Z Z Z Z Z Z Z Z Tryz.call53 Z (ay Z (aA _) Z) (nx 2 Z (fB [49] h2 Z (λ c57 h2=>?_) λ c57 h2=>?_))))
    ·exact vd
    refine nx 5 Z (bd h2 λ Vi e59 h2=>mO Z (aV [1000000] [] 109000 109000 (HO.c e59) Z Z Z Z Z ⟨sr,trivial⟩ Z (ay Z (aA _) Z) ⟨⟨_,Z,aR _⟩,trivial⟩ Z Z Z Z Z Z Z Z Tryz.call134 Z (ay Z (aA _) Z) (nx 2 Z (fB [52] h2 Z (λ c60 h2=>?_) λ c60 h2=>?_))))
    ·exact nx 2 Z (bd h2 λ Va e62 h2=>mG (gE (t:=⟨[(2,.ptr 1000001 0)],[(1000000,(ad.cs Vi.2).map .p),(1000001,[.ptr 1000000 0])]⟩) Z Z) (mSq ⟨1,[5],(by2 (.some (cp [] 110000 110000)) .none),(λ _=>[(2,.ptr 1000001 0)]),(by2 ([(1000000,(ad.cs Vi.2).map .p),(1000001,[.ptr 1000000 0])]) ([(1000000,(ad.cs Va.2).map .p),(1000001,[.ptr 1000000 0])]))⟩ Z (dPc (.ptr 1000000 0) Z (dPc (.ptr 1000000 0) Z (dPc (.ptr 1000000 0) Z (dPc (.ptr 1000000 1) Z (dPc (.p (eI Vi.2.fat)) Z (dI (λ _=>.p (eB Va.1)) [53,57] Z (λ sl Sk K hK=>ap Z (aV [1000000] [] 110000 110000 (HO.c e62) Z Z Z (aE (Sk _ _ Z) (aE Z (aE (Sk _ _ Z) bz))) Z ⟨sr,sr,sr,trivial⟩ Z (ay Z (aA _) Z) ⟨⟨_,Z,aR _⟩,trivial⟩ Z Z Z Z Z Z Z Z Tryz.call88 Z (ay Z (aA _) Z) hK)) (dPc (.p (eB Va.1)) Z (eT (nx 2 Z C5)))))))))))
    exact vd
   refine nx 3 Z (oI h3 Z λ abR h3=>nx 2 Z (fD [39] h3 Z (λ c52 h3=>?_) λ c52 h3=>?_))
   ·exact nx 5 Z (mO Z (aW Z Z Z Z Z Z Z (ad.g_at _) (oA h3 Z Z λ ZU h3=>nx 2 Z (mO Z (gP Z Z Z Z Z Z Z Z (ad.b_at _) (ad.u_at _) Rf)))))
   exact mi
  exact gJ
 ·refine λ T' S' r=>⟨λ h0=>?_⟩
  rw [cA] at h0;refine MY good (k:=132) (j:=2) (q:=18) (b:=decide (T'.IS<0)) (s0:=⟨[(1,.p (eI S')),(2,.ptr 2 0)],[(2,[.ptr 1000000 0]),(1000000,(ad.cs T').map .p)]⟩) (s1:=⟨[(1,.p (eI S')),(2,.ptr 2 0),(10,.p (eB (decide (T'.IS<0))))],[(2,[.ptr 1000000 0]),(1000000,(ad.cs T').map .p)]⟩) (s2:=⟨[(1,.p (eI S')),(2,.ptr 2 0)],[(2,[.ptr 1000000 0]),(1000000,(ad.cs (ad.mk T'.fs T'.fat T'.fat T'.AT)).map .p)]⟩) [1000000] Tryz.func89 Z Z Z (λ w0 F=>mR ?_) (λ w0 F=>mR ?_) rfl (λ hb=>?_) (λ hb=>?_);refine nx 1 rfl (mO rfl (CF Z Z Z Z Z ?_));refine mG (mM (show mc _ _=_ from pF)) (nx 3 rfl ?_);exact mE (gE Z Z);exact nx 4 rfl (mO rfl (aW Z Z Z Z Z Z Z (ad.g_outer _) (nx 3 rfl (mE (gE Z Z)))));rw [if_neg (of_decide_eq_false hb)] at h0;exact ⟨⟨[(1,.p (eI S')),(2,.ptr 2 0),(10,.p (eB (decide (T'.IS<0))))],[(1000000,(ad.cs r.2).map .p),(2,[.ptr 1000000 0])]⟩,_,_,rfl,(ay rfl (aA _) rfl),⟨⟨_,rfl,aR _⟩,trivial⟩,λ w0 F g a a2 w hs ht=>Hi (C:=⟨Tryz.prog,tt,good,_,rfl,w0,F⟩) (sl:=[(1,.p (eI S')),(2,.ptr 2 0),(10,.p (eB (decide (T'.IS<0))))]) (ob:=[(2,[.ptr 1000000 0]),(1000000,(ad.cs T').map .p)]) [1000000,2] [] 100000 100000 [1,2] rfl (UJ T' S' _ h0) Z Z Z (ay rfl (aA _) rfl) ⟨⟨_,rfl,aR _⟩,⟨_,rfl,⟨sr,trivial⟩⟩,trivial⟩ Z Z Z Z Z Z Z Z Z (ay rfl (aA _) rfl) hs ht⟩;rw [if_pos (of_decide_eq_true hb)] at h0;refine bd h0 λ r1 e1 h0=>?_
  cases h0
  refine ⟨λ w0 F=>mR ?_,⟨Z,Z,Z,Z,Z,Z,Z,Z⟩,Tryz.call132,⟨[(18,.func (.func 132) [.ptr 2 0]),(1,.p (eI S')),(2,.ptr 2 0)],[(1000000,(ad.cs r1.2).map .p),(2,[.ptr 1000000 0])]⟩,⟨[(18,.func (.func 132) [.ptr 2 0]),(1,.p (eI S')),(2,.ptr 2 0)],[(2,[.ptr 1000000 0]),(1000000,(ad.cs (ad.mk r1.2.fs r1.2.fat (-1) r1.2.AT)).map .p)]⟩,_,_,.ptr 2 0,Z,Z,(ay Z (aA _) Z),⟨⟨_,Z,aR _⟩,trivial⟩,λ w0 F g a a2 w hs ht=>?_,λ w0 F g a w u hs=>?_⟩
  ·exact mG (gE (t:=⟨[(1,.p (eI S')),(2,.ptr 2 0)],[(2,[.ptr 1000000 0]),(1000000,(ad.cs T').map .p)]⟩) Z Z) (mSq ⟨1,[7],(λ _=>.none),(λ _=>[(1,.p (eI S')),(2,.ptr 2 0)]),(ob2 ([(2,[.ptr 1000000 0]),(1000000,(ad.cs T').map .p)]) (1000000,(ad.cs (ad.mk T'.fs T'.fat T'.fat T'.AT)).map .p))⟩ Z (dPc (.ptr 1000000 0) Z (dPc (.ptr 1000000 0) Z (dPc (.ptr 1000000 0) Z (dPc (.ptr 1000000 1) Z (dPc (.p (eI T'.fat)) Z (dPc (.ptr 1000000 0) Z (dPc (.ptr 1000000 258) Z (lZ [(15,_),(17,_)] Z ⟨.inr ⟨4,_,Z,Z,Z⟩,.inr ⟨6,_,Z,Z,Z⟩,trivial⟩ Z (λ sl Sk K hK=>ap Z (gP Z Z Z (Sk _ _ Z) (Sk _ _ Z) Z Z Z (ad.b_outer _) (ad.u_outer _) hK)) (eT (nx 2 Z (mE (gE Z Z)))))))))))))
  ·exact Hi (C:=⟨Tryz.prog,tt,good,_,Z,w0,F⟩) (sl:=[(18,.func (.func 132) [.ptr 2 0]),(1,.p (eI S')),(2,.ptr 2 0)]) (ob:=[(2,[.ptr 1000000 0]),(1000000,(ad.cs (ad.mk T'.fs T'.fat T'.fat T'.AT)).map .p)]) [1000000,2] [] 100000 100000 [1,2] Z (UJ (ad.mk T'.fs T'.fat T'.fat T'.AT) S' _ e1) Z Z Z (ay Z (aA _) Z) ⟨⟨_,Z,aR _⟩,⟨_,Z,⟨sr,trivial⟩⟩,trivial⟩ Z Z Z Z Z Z Z Z Z (ay Z (aA _) Z) hs ht
  exact PZ (C:=⟨Tryz.prog,tt,good,_,Z,w0,F⟩) (sl:=[(18,.func (.func 132) [.ptr 2 0]),(1,.p (eI S')),(2,.ptr 2 0)]) (ob:=[(1000000,(ad.cs r1.2).map .p),(2,[.ptr 1000000 0])]) [2,1000000] [] 100000 100000 2 (nK r1.2) Z Z Z (ay Z Z (ay Z (aA _) Z)) ⟨⟨_,Z,⟨sr,trivial⟩⟩,⟨_,Z,aR _⟩,trivial⟩ Z Z Z Z Z Z Z Z Z (ay Z Z (ay Z (aA _) Z)) hs
 ·refine λ T' S'=>hO good [] [1000000] Tryz.func133 Z Z λ r h0 _ w0 F=>?_;rw [aI] at h0;refine nx 10 Z (fD [9] h0 Z (λ c1 h0=>?_) λ c1 h0=>?_)
  ·exact nx 7 Z (mO Z (aW Z Z Z Z Z Z Z (ad.g_at _) (bd h0 λ r2 e3 h0=>mO Z (aV [1000000] [] 101000 101000 (HO.c e3) Z Z Z Z Z ⟨sr,sr,sr,trivial⟩ Z (ay Z (aA _) Z) ⟨⟨_,Z,aR _⟩,trivial⟩ Z Z Z Z Z Z Z Z Tryz.call88 Z (ay Z (aA _) Z) (nx 3 Z IA)))))
  refine nx 7 rfl (mO rfl (aW Z Z Z Z Z Z Z (ad.g_at _) (oA h0 Z Z λ Yq h0=>nx 2 rfl (mO rfl (gP Z Z Z Z Z Z Z Z (ad.b_at _) (ad.u_at _) (nx 7 rfl ?_))))));obtain ⟨o73,h1,UV,hR0⟩:=bo h0;refine kEx 0 (λ YU:ad=>o73=.inl YU) (λ YU=>⟨[],[(1000000,(ad.cs YU).map .p)]⟩) (λ YU hv=>?_) ?_
  ·have h0:=UV _ hv;exact S0
  refine lG (λ (XU:Int×ad)=>⟨[(0,.ptr 1000000 0),(1,.p (eI S')),(5,.p (eI XU.1))],[(1000000,(ad.cs XU.2).map .p)]⟩) (λ m (XU:Int×ad)=>aM n (a8 n) S' m XU.1 XU.2) Y (1,(ad.mk T'.fs (T'.fat+2) T'.IS T'.AT)) h1 (gE rfl rfl) ?_;rintro m ⟨open35,x36⟩ h1;replace h1:aM n (a8 n) S' (m+1) open35 x36=some o73:=h1;rw [aM] at h1;refine nx 6 rfl (fD [24] h1 rfl (λ c37 h1=>?_) λ c37 h1=>?_)
  ·refine nx 2 rfl ?_;obtain ⟨o76,h2,hL1,hR1⟩:=bo h1;refine kX (λ XQ:Int×ad=>o76=.inl XQ) (λ XQ=>⟨[(0,.ptr 1000000 0),(1,.p (eI S')),(5,.p (eI XQ.1))],[(1000000,(ad.cs XQ.2).map .p)]⟩) (λ XQ hv=>?_) ?_
   ·have h1:=hL1 _ hv;exact gJ
   refine nx 4 Z (bd h2 λ VI e39 h2=>mO Z (aV [1000000] [] 108000 108000 (HO.c e39) Z Z Z Z Z ⟨sr,trivial⟩ Z (ay Z (aA _) Z) ⟨⟨_,Z,aR _⟩,trivial⟩ Z Z Z Z Z Z Z Z Tryz.call52 Z (ay Z (aA _) Z) (nx 5 Z (bd h2 λ Yo e41 h2=>mO Z (aV [1000000] [] 109000 109000 (HO.c e41) Z Z Z Z Z ⟨sr,trivial⟩ Z (ay Z (aA _) Z) ⟨⟨_,Z,aR _⟩,trivial⟩ Z Z Z Z Z Z Z Z Tryz.call53 Z (ay Z (aA _) Z) (nx 2 Z (fB [29] h2 Z (λ c42 h2=>?_) λ c42 h2=>?_)))))))
   ·exact nx 7 Z (mO Z (aW Z Z Z Z Z Z Z (ad.g_outer _) (bd h2 λ We e44 h2=>mO Z (aV [1000000] [] 110000 110000 (HO.c e44) Z Z Z Z Z ⟨sr,sr,sr,trivial⟩ Z (ay Z (aA _) Z) ⟨⟨_,Z,aR _⟩,trivial⟩ Z Z Z Z Z Z Z Z Tryz.call88 Z (ay Z (aA _) Z) JQ))))
   refine nx 6 Z (bd h2 λ Xr e46 h2=>mO Z (aV [1000000] [] 111000 111000 (HO.c e46) Z Z Z Z Z ⟨sr,trivial⟩ Z (ay Z (aA _) Z) ⟨⟨_,Z,aR _⟩,trivial⟩ Z Z Z Z Z Z Z Z Tryz.call54 Z (ay Z (aA _) Z) (nx 2 Z (fB [38] h2 Z (λ c47 h2=>?_) λ c47 h2=>?_))))
   ·exact nx 7 Z (mO Z (aW Z Z Z Z Z Z Z (ad.g_at _) (bd h2 λ ZJ e49 h2=>mO Z (aV [1000000] [] 112000 112000 (HO.c e49) Z Z Z Z Z ⟨sr,sr,sr,trivial⟩ Z (ay Z (aA _) Z) ⟨⟨_,Z,aR _⟩,trivial⟩ Z Z Z Z Z Z Z Z Tryz.call88 Z (ay Z (aA _) Z) JQ))))
   refine nx 6 Z (oA h2 Z Z λ Ze h2=>bd h2 λ Vb e52 h2=>mO Z (aV [1000000] [] 113000 113000 (HO.c e52) Z Z Z Z Z ⟨sr,sr,trivial⟩ Z (ay Z (aA _) Z) ⟨⟨_,Z,aR _⟩,trivial⟩ Z Z Z Z Z Z Z Z Tryz.call55 Z (ay Z (aA _) Z) (nx 3 Z (mO Z (fU Z Z Z Z Z ?_)))));refine mG (mM (show mc _ _=_ from pF)) (nx 9 Z ?_);refine fB [53] h2 Z (λ c53 h2=>?_) λ c53 h2=>?_
   ·exact nx 6 Z Kp
   refine nx 3 Z (bd h2 λ o78 h3 h2=>kN o78 (λ ZD=>⟨[(0,.ptr 1000000 0),(1,.p (eI S')),(5,.p (eI ZD)),(6,.ptr 6 0)],[(6,(ab.cs Vb.1).map .p),(1000000,(ad.cs Vb.2.2).map .p)]⟩) ?_ ?_)
   ·refine nx 2 Z (bd h2 λ o80 h3 h2=>kN o80 (λ v81=>⟨[(0,.ptr 1000000 0),(1,.p (eI S')),(5,.p (eI o78)),(71,.p (eB v81))],[(1000000,(ad.cs Vb.2.2).map .p)]⟩) ?_ ?_)
    ·refine nx 1 Z (fB [71] h2 Z (λ c61 h2=>?_) λ c61 h2=>?_)
     ·exact nx 3 Z (oA h2 Z Z λ aaN h2=>nx 2 Z sR)
     exact vd
    refine nx 5 Z (fD [66,67] h3 Z (λ c59 h3=>?_) λ c59 h3=>?_)
    ·exact nx 2 Z BS
    exact Cn
   refine nx 1 Z (bd h3 λ o82 h4 h3=>kN o82 (λ v83=>⟨[(0,.ptr 1000000 0),(1,.p (eI S')),(5,.p (eI open35)),(6,.ptr 6 0),(61,.p (eB v83))],[(6,(ab.cs Vb.1).map .p),(1000000,(ad.cs Vb.2.2).map .p)]⟩) ?_ ?_)
   ·refine nx 1 Z (fB [61] h3 Z (λ c56 h3=>?_) λ c56 h3=>?_)
    ·exact nx 3 Z (oA h3 Z Z λ YB h3=>nx 2 Z nw)
    exact mi
   refine nx 5 Z (fD [56,57] h4 Z (λ c54 h4=>?_) λ c54 h4=>?_)
   ·exact nx 2 Z (oS Z Z (nx 2 Z (eX _ (oi h4).symm (gE Z Z))))
   exact nx 5 Z (eX _ (oi h4).symm (gE Z Z))
  exact gJ
instance xw (n:Nat):∀ (T':ad) (S':Int) (r:ab×Bool×ad),HO (a8 n T' S'=some r) Tryz.prog 55 [.ptr 1000000 0,.p (eI S')] [(1000000,(ad.cs T').map .p)] (.tuple [.p (.agg (ab.cs r.1)),.p (eB r.2.1)]) ([(1000000,(ad.cs r.2.2).map .p)]):=(oU n).1
def gi (n:Nat):Nat->(List ab)->ad->Option (Unit⊕((List ab)×ao))|0,_,_=>none|m+1,Vv,x26=>(fo n x26).bind λ Vr=>((bA Vr).bind λ YQ=>if YQ.1=true then(dl n YQ.2).bind λ WO=>some (!WO.1,WO.2)else some (false,YQ.2)).bind λ Y6=>if Y6.1=true then some (.inr ([],(ao.mk 2 Y6.2.fat ([]:Bk))))else if (Vv.length:Int)=16384 then some (.inr ([],(ao.mk 14 Y6.2.fat ([]:Bk))))else(bA Y6.2).bind λ VI=>if (!VI.1)=true then ck ((Vv.length+([(ab.mk 6 ([]:Bk) VI.2.fat)]).length)*32<=140737488355328)<|some (.inr (Vv++([(ab.mk 6 ([]:Bk) VI.2.fat)]),(ao.mk 0 0 ([]:Bk))))else(a8 n VI.2 0).bind λ VH=>if (!VH.2.1)=true then some (.inr ([],VH.2.2.AT))else ck ((Vv.length+[VH.1].length)*32<=140737488355328)<|gi n m (Vv++[VH.1]) VH.2.2
def nI (n:Nat)(Mr:Bk):Option ((List ab)×ao) :=if 65536<(Mr.length:Int) then some ([],(ao.mk 3 0 ([]:Bk)))else(iw Mr).bind λ r2=>jn (gi n n [] r2) λ _Y7=>none
instance L9 (n:Nat) (Mr:Bk):∀ (r:(List ab)×ao),HP (nI n Mr=some r) Tryz.prog 25 [eS Mr] (.tuple [.p (eL aB r.1),.p (.agg (ao.cs r.2))]):=by
 refine hP good Tryz.func25 Z Z λ r h0 _ w0=>?_;unfold nI at h0;refine nx 9 Z (oLs Z (nx 2 Z (fD [10] h0 Z (λ c1 h0=>?_) λ c1 h0=>?_)))
 ·exact S0
 refine nx 5 rfl (bd h0 λ r2 e3 h0=>mO rfl (aV [] [] 101000 101001 (mt Mr _ e3) Z Z Z Z Z ⟨sr,trivial⟩ Z Z trivial Z Z Z Z Z Z Z Z Tryz.call51 rfl (ay rfl (aA _) rfl) (nx 7 rfl ?_)));obtain ⟨X3,h1,UV,hR0⟩:=bo h0;refine kEx 0 (λ v51:Unit=>X3=.inl v51) (λ v51=>⟨[],[]⟩) (λ v51 hv=>?_) ?_
 ·exact Ck
 refine lG (λ (Xu:(List ab)×ad)=>⟨[(3,.ptr 3 0),(4,.ptr 101000 0),(5,.vec 62 3 0 (Xu.1.map aB))],[(3,pi),(101000,(ad.cs Xu.2).map .p)]⟩) (λ m (Xu:(List ab)×ad)=>gi n m Xu.1 Xu.2) Y ([],r2) h1 (d3 (ma ⟨er rfl,er rfl,⟨_,rfl,AV.sub_nilvec _ _ _⟩,trivial⟩ ⟨⟨_,rfl,⟨sr,sr,sr,trivial⟩⟩,⟨_,rfl,aR _⟩,trivial⟩)) ?_;rintro m ⟨Vv,x26⟩ h1;replace h1:gi n (m+1) Vv x26=some X3:=h1;rw [gi] at h1;refine nx 4 rfl (bd h1 λ Vr e28 h1=>mO rfl (aV [101000] [] 107000 107000 (HO.c e28) rfl rfl rfl rfl rfl ⟨sr,trivial⟩ rfl (ay rfl (aA _) rfl) ⟨⟨_,rfl,aR _⟩,trivial⟩ rfl rfl rfl rfl rfl rfl rfl rfl Tryz.call52 rfl (ay rfl (aA _) rfl) (nx 3 rfl (bd h1 λ XK h2 h1=>kN XK (λ YV=>⟨[(3,.ptr 3 0),(4,.ptr 101000 0),(5,.vec 62 3 0 (Vv.map aB)),(22,.p (eB YV.1))],[(3,pi),(101000,(ad.cs YV.2).map .p)]⟩) ?_ ?_))))
 ·refine nx 1 Z (fB [22] h1 Z (λ YH h1=>?_) λ YH h1=>?_)
  ·exact nx 2 Z (mG Ir (mSq ⟨1,[6],(λ _=>.none),(λ _=>[(3,.ptr 3 0),(4,.ptr 101000 0)]),(ob2 ([(3,pi),(101000,(ad.cs XK.2).map .p)]) (3,[.p (eI 2),.p (eI XK.2.fat),.p (eS ([]:Bk))]))⟩ Z (dPc (.ptr 101000 0) Z (dPc (.ptr 101000 0) Z (dPc (.ptr 101000 1) Z (dPc (.p (eI XK.2.fat)) Z (dPc (.p (.agg [eI 2,eI XK.2.fat,eS ([]:Bk)])) Z Di)))))))
  refine nx 6 Z (oLl (f:=aB) Z Z (nx 2 Z (fD [30] h1 Z (λ c37 h1=>?_) λ c37 h1=>?_)))
  ·exact nx 2 Z (mG Ir (mSq ⟨1,[6],(λ _=>.none),(λ _=>[(3,.ptr 3 0),(4,.ptr 101000 0)]),(ob2 ([(3,pi),(101000,(ad.cs XK.2).map .p)]) (3,[.p (eI 14),.p (eI XK.2.fat),.p (eS ([]:Bk))]))⟩ Z (dPc (.ptr 101000 0) Z (dPc (.ptr 101000 0) Z (dPc (.ptr 101000 1) Z (dPc (.p (eI XK.2.fat)) Z (dPc (.p (.agg [eI 14,eI XK.2.fat,eS ([]:Bk)])) Z Di)))))))
  refine nx 6 Z (bd h1 λ VI e39 h1=>mO Z (aV [101000] [] 110000 110000 (HO.c e39) Z Z Z Z Z ⟨sr,trivial⟩ Z (ay Z (aA _) Z) ⟨⟨_,Z,aR _⟩,trivial⟩ Z Z Z Z Z Z Z Z Tryz.call53 Z (ay Z (aA _) Z) (nx 2 Z (fB [38] h1 Z (λ c40 h1=>?_) λ c40 h1=>?_))))
  ·refine nx 7 Z (mO Z (aW Z Z Z Z Z Z Z (ad.g_at _) ?_));refine nx 1 Z (mO Z (aK aB [(ab.mk 6 ([]:Bk) VI.2.fat)] Z Z Z Z Z Z Z Z Z Z Z Z Z uu ?_));refine cc' h1 λ W5 h1=>mO Z (ef aB Vv ([(ab.mk 6 ([]:Bk) VI.2.fat)]) Z Z Z Z Z Z Z Z Z Z Z Z Z (λ x=>congrArg List.length (ab.It x)) Z Z Z Z W5 ?_);refine mG (Aa (show mc _ _=_ from pF)) (nx 5 Z ?_);exact mQ (hR0 _ (oi h1).symm) Z (kf ⟨AV.sub_vec _ _ _ _,sr,trivial⟩)
  refine nx 5 Z (bd h1 λ VH e43 h1=>mO Z (aV [101000] [] 111000 111000 (HO.c e43) Z Z Z Z Z ⟨sr,sr,trivial⟩ Z (ay Z (aA _) Z) ⟨⟨_,Z,aR _⟩,trivial⟩ Z Z Z Z Z Z Z Z Tryz.call55 Z (ay Z (aA _) Z) (nx 3 Z (mO Z (fU Z Z Z Z Z ?_)))));refine mG (mM (show mc _ _=_ from pF)) (nx 9 Z ?_);refine fB [54] h1 Z (λ c44 h1=>?_) λ c44 h1=>?_
  ·exact nx 2 Z (mG (gE (t:=⟨[(3,.ptr 3 0),(4,.ptr 101000 0)],[(3,pi),(101000,(ad.cs VH.2.2).map .p)]⟩) Z Z) (mSq ⟨1,[5],(λ _=>.none),(λ _=>[(3,.ptr 3 0),(4,.ptr 101000 0)]),(ob2 ([(3,pi),(101000,(ad.cs VH.2.2).map .p)]) (3,((ao.cs VH.2.2.AT).map .p)))⟩ Z (dPc (.ptr 101000 0) Z (dPc (.ptr 101000 0) Z (dPc (.ptr 101000 259) Z (jU (λ _=>.p (.agg (ao.cs VH.2.2.AT))) Z Z Z (Hg Z Y) (lt1 Z) (iW Z (hQ [(57,_)] ⟨.inr ⟨2,_,Z,Z,Z⟩,trivial⟩ (λ sl Sk K hK=>ap Z (ET Z Z Z Z Z (Sk _ _ Z) Z (ad.l_bad _) (ad.g_bad _) hK)) lA)) Di))))))
  refine nx 5 Z (mO Z (aK aB [VH.1] Z Z Z Z Z Z Z Z Z Z Z Z Z uu ?_));refine cc' h1 λ abS h1=>mO Z (ef aB Vv [VH.1] Z Z Z Z Z Z Z Z Z Z Z Z Z (λ x=>congrArg List.length (ab.It x)) Z Z Z Z abS ?_);refine mG (Aa (show mc _ _=_ from pF)) (nx 2 Z ?_);exact eX (Vv++[VH.1],VH.2.2) h1 (gE Z Z)
 refine nx 2 Z (bd h2 λ YQ e30 h2=>mO Z (aV [101000] [] 108000 108000 (HO.c e30) Z Z Z Z Z ⟨sr,trivial⟩ Z (ay Z (aA _) Z) ⟨⟨_,Z,aR _⟩,trivial⟩ Z Z Z Z Z Z Z Z Tryz.call53 Z (ay Z (aA _) Z) (nx 1 Z (fB [17,18] h2 Z (λ c31 h2=>?_) λ c31 h2=>?_))))
 ·exact nx 1 Z (bd h2 λ WO e33 h2=>mO Z (aV [101000] [] 109000 109000 (HO.c e33) Z Z Z Z Z ⟨sr,trivial⟩ Z (ay Z (aA _) Z) ⟨⟨_,Z,aR _⟩,trivial⟩ Z Z Z Z Z Z Z Z Tryz.call54 Z (ay Z (aA _) Z) (nx 3 Z sR)))
 exact nx 5 Z sR
def md (a_0:ab)(UB:ab):Option Bool :=if a_0.Ar=1 then(if UB.Ar=1 then some true else some (decide (UB.Ar=2))).bind λ t3=>some t3 else if a_0.Ar=2 then some (decide (UB.Ar=2))else(if a_0.Ar=4 then some (!decide (UB.Ar=4))else some true).bind λ t6=>if t6=true then some false else(strings_HasPrefix UB.By ([61]:Bk)).bind λ r8=>if r8=true then(if (a_0.By.length:Int)=1 then(strings_Contains ([61,33,60,62]:Bk) a_0.By).bind λ US=>some US else some false).bind λ YY=>some YY else(if a_0.By=([61]:Bk) then(strings_HasPrefix UB.By ([62]:Bk)).bind λ XH=>some XH else some false).bind λ Xl=>some Xl
instance L5 (a_0:ab) (UB:ab):∀ (r:Bool),HP (md a_0 UB=some r) Tryz.prog 56 [.agg (ab.cs a_0),.agg (ab.cs UB)] (.p (eB r)):=by
 refine hP good Tryz.func56 Z Z λ r h0 _ w0=>?_;unfold md at h0;refine nx 15 Z (fD [5,8] h0 Z (λ c1 h0=>?_) λ c1 h0=>?_)
 ·refine nx 2 Z (bd h0 λ Xz h1 h0=>kN Xz (λ XT=>⟨[(4,.p (eB XT))],[]⟩) ?_ ?_)
  ·exact S0
  exact gJ
 refine nx 8 Z (fD [17,20] h0 Z (λ c4 h0=>?_) λ c4 h0=>?_)
 ·exact S0
 refine nx 2 Z (bd h0 λ W8 h1 h0=>kN W8 (λ WY=>⟨[(2,.ptr 2 0),(3,.ptr 3 0),(24,.p (eB WY))],[(2,(ab.cs a_0).map .p),(3,(ab.cs UB).map .p)]⟩) ?_ ?_)
 ·refine nx 1 Z (fB [24] h0 Z (λ c7 h0=>?_) λ c7 h0=>?_)
  ·exact S0
  refine nx 5 Z (bd h0 λ r8 e9 h0=>oK (dk UB.By ([61]:Bk) _ e9) Z ⟨sr,sr,trivial⟩ Tryz.call75 Z (nx 2 Z (fB [33,36] h0 Z (λ YM h0=>?_) λ YM h0=>?_)))
  ·refine nx 2 Z (bd h0 λ ZR h1 h0=>kN ZR (λ v28=>⟨[(4,.p (eB v28))],[]⟩) ?_ ?_)
   ·exact S0
   exact gJ
  refine nx 3 Z (bd h0 λ W4 h1 h0=>kN W4 (λ VL=>⟨[(4,.p (eB VL))],[]⟩) ?_ ?_)
  ·exact S0
  exact gJ
 refine nx 5 Z (fN [27,28] h1 Z (λ c5 h1=>?_) λ c5 h1=>?_)
 ·exact gJ
 exact vK
def ke (n:Nat)(Pn:ab):Option Bool :=(if Pn.Ar=3 then ck (([34]:Bk).length+Pn.By.length<=9223372036854775807)<|ck ((([34]:Bk)++Pn.By).length+([34]:Bk).length<=9223372036854775807)<|some ((([34]:Bk)++Pn.By)++([34]:Bk))else some Pn.By).bind λ s4=>(if s4=([]:Bk) then some true else if Pn.Ar<1 then some true else some (decide (5<Pn.Ar))).bind λ t7=>if t7=true then some false else(iw s4).bind λ r9=>(dl n r9).bind λ Wy=>if (!Wy.1)=true then some false else(a8 n Wy.2 0).bind λ Xs=>(if Xs.2.1=true then(bA Xs.2.2).bind λ Wg=>if (!Wg.1)=true then some (decide (Xs.1.Ar=Pn.Ar))else some false else some false).bind λ t20=>some t20
instance KB (n:Nat) (Pn:ab):∀ (r:Bool),HP (ke n Pn=some r) Tryz.prog 98 [.agg (ab.cs Pn)] (.p (eB r)):=by
 refine hP good Tryz.func98 Z Z λ r h0 _ w0=>?_;unfold ke at h0;refine nx 12 Z (bd h0 λ o24 h1 h0=>kN o24 (λ v25=>⟨[(1,.ptr 1 0),(3,.p (eS v25))],[(1,(ab.cs Pn).map .p)]⟩) ?_ ?_)
 ·refine nx 3 Z (bd h0 λ o26 h1 h0=>kN o26 (λ v27=>⟨[(1,.ptr 1 0),(3,.p (eS o24)),(26,.p (eB v27))],[(1,(ab.cs Pn).map .p)]⟩) ?_ ?_)
  ·refine nx 1 Z (fB [26] h0 Z (λ c8 h0=>?_) λ c8 h0=>?_)
   ·exact S0
   refine nx 5 Z (bd h0 λ r9 Xb h0=>mO Z (aV [] [] 101000 101001 (mt o24 _ Xb) Z Z Z Z Z ⟨sr,trivial⟩ Z Z trivial Z Z Z Z Z Z Z Z Tryz.call51 Z (ay Z (aA _) Z) (nx 6 Z (bd h0 λ Wy Z3 h0=>mO Z (aV [101000] [] 102000 102000 (HO.c Z3) Z Z Z Z Z ⟨sr,trivial⟩ Z (ay Z (aA _) Z) ⟨⟨_,Z,aR _⟩,trivial⟩ Z Z Z Z Z Z Z Z Tryz.call54 Z (ay Z (aA _) Z) (nx 2 Z (fB [31] h0 Z (λ YL h0=>?_) λ YL h0=>?_)))))))
   ·exact S0
   refine nx 5 Z (bd h0 λ Xs e15 h0=>mO Z (aV [101000] [] 103000 103000 (HO.c e15) Z Z Z Z Z ⟨sr,sr,trivial⟩ Z (ay Z (aA _) Z) ⟨⟨_,Z,aR _⟩,trivial⟩ Z Z Z Z Z Z Z Z Tryz.call55 Z (ay Z (aA _) Z) (nx 3 Z (mO Z (fU Z Z Z Z Z ?_)))));refine mG (mM (show mc _ _=_ from pF)) (nx 4 Z ?_);refine bd h0 λ o28 h1 h0=>kN o28 (λ v29=>⟨[(2,.p (eB v29))],[]⟩) ?_ ?_
   ·exact S0
   refine nx 3 Z (fB [6,36,37,38] h1 Z (λ YI h1=>?_) λ YI h1=>?_)
   ·refine nx 1 Z (bd h1 λ Wg e18 h1=>mO Z (aV [101000] [] 104000 104000 (HO.c e18) Z Z Z Z Z ⟨sr,trivial⟩ Z (ay Z (aA _) Z) ⟨⟨_,Z,aR _⟩,trivial⟩ Z Z Z Z Z Z Z Z Tryz.call53 Z (ay Z (aA _) Z) (nx 3 Z (fB [41,42,43] h1 Z (λ XP h1=>?_) λ XP h1=>?_))))
    ·exact gJ
    exact nx 8 Z fS
   exact nx 13 Z fS
  exact gJ
 refine nx 6 Z (fD [11] h1 Z (λ c1 h1=>?_) λ c1 h1=>?_)
 ·exact nx 3 Z (oC h1 Z λ Wz h1=>oC h1 Z λ YF h1=>nx 2 Z fS)
 exact CQ
def dr (l_0:List ab):Nat->Int->Int->Option Int|0,_,_=>none|m+1,n19,t20=>if t20<(l_0.length:Int) then(ck ((0:Int)<=t20/\t20<(l_0.length:Int))<|ck (inR (n19+(((lat l_0 t20).By).length:Int)))<|(if (lat l_0 t20).Ar=3 then ck (inR ((n19+(((lat l_0 t20).By).length:Int))+2))<|some ((n19+(((lat l_0 t20).By).length:Int))+2)else some (n19+(((lat l_0 t20).By).length:Int))).bind λ n26=>(if 0<t20 then ck (inR (t20-1))<|ck ((0:Int)<=t20-1/\t20-1<(l_0.length:Int))<|(md (lat l_0 (t20-1)) (lat l_0 t20)).bind λ Xd=>some Xd else some false).bind λ t32=>if t32=true then ck (inR (n26+1))<|some (n26+1)else some n26).bind λ n35=>ck (inR (t20+1))<|dr l_0 m n35 (t20+1)else some n19
def kG (n:Nat)(l_0:List ab):Option Int :=(dr l_0 n 0 0).bind λ n39=>some n39
instance Gk (n:Nat) (l_0:List ab):∀ (r:Int),HP (kG n l_0=some r) Tryz.prog 99 [eL aB l_0] (.p (eI r)):=by
 refine hP good Tryz.func99 Z Z λ r h0 _ w0=>?_;unfold kG at h0;refine nx 12 Z (oLl (f:=aB) Z Z (nx 3 Z (bd h0 λ Xy h1 h0=>kE 0 Xy (λ XS=>⟨[(3,.p (eI XS))],[]⟩) ?_ ?_)))
 ·exact S0
 refine lG (λ (WF:Int×Int)=>⟨[(0,.p (eL aB l_0)),(3,.p (eI WF.1)),(6,.p (eL aB l_0)),(7,.p (eI (l_0.length:Int))),(8,.p (eI WF.2))],[]⟩) (λ m (WF:Int×Int)=>dr l_0 m WF.1 WF.2) Y (0,0) h1 (gE rfl rfl) ?_;rintro m ⟨n19,t20⟩ h1;replace h1:dr l_0 (m+1) n19 t20=some Xy:=h1;rw [dr] at h1;refine nx 5 rfl (fD [9] h1 rfl (λ c21 h1=>?_) λ c21 h1=>?_)
 ·refine nx 3 Z (bd h1 λ o47 h2 h1=>kN o47 (λ v48=>⟨[(0,.p (eL aB l_0)),(3,.p (eI v48)),(6,.p (eL aB l_0)),(7,.p (eI (l_0.length:Int))),(8,.p (eI t20))],[]⟩) ?_ ?_)
  ·exact nx 2 Z (oA h1 Z Z λ ZY h1=>nx 2 Z (eX (o47,t20+1) h1 (gE Z Z)))
  refine nx 4 Z (oE h2 ab.It Z Z Y λ X7 h2=>nx 10 Z (oLs Z (oA h2 Z Z λ abV h2=>nx 3 Z (bd h2 λ YA h3 h2=>kN YA (λ XR=>⟨[(0,.p (eL aB l_0)),(3,.p (eI XR)),(4,.p (eI t20)),(5,.ptr 5 0),(6,.p (eL aB l_0)),(7,.p (eI (l_0.length:Int))),(8,.p (eI t20))],[(5,(ab.cs (lat l_0 t20)).map .p)]⟩) ?_ ?_))))
  ·refine nx 2 Z (bd h2 λ o51 h3 h2=>kN o51 (λ YW=>⟨[(0,.p (eL aB l_0)),(3,.p (eI YA)),(6,.p (eL aB l_0)),(7,.p (eI (l_0.length:Int))),(8,.p (eI t20)),(33,.p (eB YW))],[]⟩) ?_ ?_)
   ·refine nx 1 Z (fB [33] h2 Z (λ Z4 h2=>?_) λ Z4 h2=>?_)
    ·exact nx 3 Z (oA h2 Z Z λ XB h2=>nx 2 Z sR)
    exact vd
   refine fD (p:=0<t20) [] h3 Z (λ c27 h3=>?_) λ c27 h3=>?_
   ·exact cc' h3 λ hk28 h3=>cc' h3 λ aaT h3=>bd h3 λ Xd e31 h3=>mD [(0,.p (eL aB l_0)),(3,.p (eI YA)),(4,.p (eI t20)),(5,.ptr 5 0),(6,.p (eL aB l_0)),(7,.p (eI (l_0.length:Int))),(8,.p (eI t20))] Z ⟨Z,Z,Z,Z,Z,Z,Z,trivial⟩ Z (dR 1 Z (dL (dt c27) Z (dR 3 Z (dq (.p (eI (t20-1))) [25,27] Z (λ _ e _ q=>cx (fM Z Z Z (e _ _ Z) Z Z hk28 q) Z Z (e _ _ Z) (rfl)) Z (dq (.rptr (ab.cs (lat l_0 (t20-1)))) [25,26,28] Z (λ _ e _ q=>cx (jG (f:=aB) (l:=l_0) ab.cs Z Z Z Z Z Z (e _ _ Z) Z (e _ _ Z) aaT ab.It Y q) Z Z (e _ _ Z) (rfl)) Z (dR 2 Z (dq (.p (eB Xd)) [25,30,31] Z (λ _ e _ q=>cx (cW (HP.c e31) Z Z Z (aE (e _ _ Z) (aE (e _ _ Z) bz)) ⟨sr,sr,trivial⟩ Tryz.call56 Z q) Z Z (e _ _ Z) (rfl)) Z Lj)))))))
   exact mD [(0,.p (eL aB l_0)),(3,.p (eI YA)),(4,.p (eI t20)),(5,.ptr 5 0),(6,.p (eL aB l_0)),(7,.p (eI (l_0.length:Int))),(8,.p (eI t20))] Z ⟨Z,Z,Z,Z,Z,Z,Z,trivial⟩ Z (dR 1 Z (dL (df c27) Z (dR 9 Z Qw)))
  refine nx 6 Z (fD [20] h3 Z (λ Yk h3=>?_) λ Yk h3=>?_)
  ·exact nx 3 Z (oA h3 Z Z λ WS h3=>nx 2 Z nw)
  exact mi
 exact gJ
def dQ (n:Nat)(l_0:List ab):Nat->Int->Option (Unit⊕Int)|0,_=>none|m+1,Xl=>if Xl<((sub l_0 0 ((l_0.length:Int)-1)).length:Int) then ck ((0:Int)<=Xl/\Xl<((sub l_0 0 ((l_0.length:Int)-1)).length:Int))<|if 65536<(((lat (sub l_0 0 ((l_0.length:Int)-1)) Xl).By).length:Int) then some (.inr 3)else(ke n (lat (sub l_0 0 ((l_0.length:Int)-1)) Xl)).bind λ V9=>if (!V9)=true then some (.inr 1)else ck (inR (Xl+1))<|dQ n l_0 m (Xl+1)else some (.inl ())
def ji (n:Nat)(l_0:List ab):Option Int :=if 16384<(l_0.length:Int) then some 14 else if (l_0.length:Int)=0 then some 1 else ck (inR ((l_0.length:Int)-1))<|(ck ((0:Int)<=(l_0.length:Int)-1/\(l_0.length:Int)-1<(l_0.length:Int))<|if (lat l_0 ((l_0.length:Int)-1)).Ar=6 then ck ((0:Int)<=(l_0.length:Int)-1/\(l_0.length:Int)-1<(l_0.length:Int))<|some (!decide ((lat l_0 ((l_0.length:Int)-1)).By=([]:Bk)))else some true).bind λ t7=>if t7=true then some 1 else ck ((0:Int)<=0/\0<=(l_0.length:Int)-1/\(l_0.length:Int)-1<=(l_0.length:Int))<|jn (dQ n l_0 n 0) λ _V'=>(kG n l_0).bind λ Vr=>if 65536<Vr then some 3 else some 0
instance H8 (n:Nat) (l_0:List ab):∀ (r:Int),HP (ji n l_0=some r) Tryz.prog 64 [eL aB l_0] (.p (eI r)):=by
 refine hP good Tryz.func64 Z Z λ r h0 _ w0=>?_;unfold ji at h0;refine nx 8 Z (oLl (f:=aB) Z Z (nx 2 Z (fD [8] h0 Z (λ c1 h0=>?_) λ c1 h0=>?_)))
 ·exact S0
 refine nx 6 Z (oLl (f:=aB) Z Z (nx 2 Z (fD [11] h0 Z (λ c2 h0=>?_) λ c2 h0=>?_)))
 ·exact S0
 refine nx 5 Z (oLl (f:=aB) Z Z (oA h0 Z Z λ YF h0=>nx 4 Z (bd h0 λ XL h1 h0=>kN XL (λ ZE=>⟨[(0,.p (eL aB l_0)),(3,.p (eI ((l_0.length:Int)-1))),(28,.p (eB ZE))],[]⟩) ?_ ?_)))
 ·refine nx 1 Z (fB [28] h0 Z (λ c8 h0=>?_) λ c8 h0=>?_)
  ·exact S0
  refine nx 7 rfl (cc' h0 λ ZC h0=>mO rfl (Fi (f:=aB) (l:=l_0) Z Z Z Z Z Z Z Z Z Z ZC (λ x=>congrArg List.length (ab.It x)) (oLl (f:=aB) Z Z (nx 3 rfl ?_))));obtain ⟨o34,h1,UV,hR0⟩:=bo h0;refine kEx 0 (λ Ys:Unit=>o34=.inl Ys) (λ Ys=>⟨[(0,.p (eL aB l_0))],[]⟩) (λ Ys hv=>?_) ?_
  ·have h0:=UV _ hv;exact S0
  refine lG (λ (q36:Int)=>⟨[(0,.p (eL aB l_0)),(31,.p (eL aB (sub l_0 0 ((l_0.length:Int)-1)))),(32,.p (eI ((sub l_0 0 ((l_0.length:Int)-1)).length:Int))),(33,.p (eI q36))],[]⟩) (λ m (q36:Int)=>dQ n l_0 m q36) Y 0 h1 (gE rfl rfl) ?_;rintro m Xl h1;replace h1:dQ n l_0 (m+1) Xl=some o34:=h1;rw [dQ] at h1;refine nx 5 rfl (fD [34] h1 rfl (λ XP h1=>?_) λ XP h1=>?_)
  ·refine nx 6 Z (oE h1 ab.It Z Z Y λ WT h1=>nx 9 Z (oLs Z (nx 2 Z (fD [40] h1 Z (λ c21 h1=>?_) λ c21 h1=>?_))))
   ·exact yD
   refine nx 5 Z (K1 λ V9 h1=>nx 2 Z (fB [43] h1 Z (λ Yk h1=>?_) λ Yk h1=>?_))
   ·exact yD
   exact nx 3 Z (oA h1 Z Z λ WS h1=>nx 2 Z (eX (Xl+1) h1 (gE Z Z)))
  exact uC
 refine nx 3 Z (oE h1 ab.It Z Z Y λ Yq h1=>nx 4 Z (fN [20,21] h1 Z (λ c5 h1=>?_) λ c5 h1=>?_))
 ·refine nx 2 Z (oE h1 ab.It Z Z Y λ hk6 h1=>?_);exact gJ
 exact nx 8 Z fS
instance S7:HE Tryz.prog 188:=⟨Tryz.call188⟩
instance S8:HE Tryz.prog 170:=⟨Tryz.call170⟩
instance Uc:HE Tryz.prog 172:=⟨Tryz.call172⟩
instance TN:HE Tryz.prog 150:=⟨Tryz.call150⟩
def kx (Uj:am):Option Bool :=(if Uj.Ar<0 then some true else some (decide (6<Uj.Ar))).bind λ t2=>if t2=true then some false else jn (if Uj.Ar=1 then(if Uj.F'=0 then some false else some (!decide (Uj.F'=1))).bind λ t6=>if t6=true then some (.inr false)else some (.inl ())else if Uj.Ar=2 then some (.inl ())else if Uj.F'=0 then some (.inl ())else some (.inr false) : Option (Unit⊕Bool)) λ _q20=>(if Uj.Ar=3 then if Uj.Ar=4 then some false else if Uj.Ar=5 then some false else some (decide (0<(Uj.Df.length:Int)))else if Uj.If=([]:Bk) then if Uj.Ar=4 then some false else if Uj.Ar=5 then some false else some (decide (0<(Uj.Df.length:Int)))else some true).bind λ Vl=>if Vl=true then some false else if Uj.Ar=5 then some (decide ((Uj.C'.length:Int)=(Uj.Df.length:Int)))else some (decide ((Uj.C'.length:Int)=0))
instance Gn (Uj:am):∀ (r:Bool),HP (kx Uj=some r) Tryz.prog 170 [.agg (am.cs Uj)] (.p (eB r)):=by
 refine hP good Tryz.func170 Z Z λ r h0 _ w0=>?_;unfold kx at h0;refine nx 7 Z (bd h0 λ Xz h1 h0=>kN Xz (λ XT=>⟨[(1,.ptr 1 0),(10,.p (eB XT))],[(1,(am.cs Uj).map .p)]⟩) ?_ ?_)
 ·refine nx 1 Z (fB [10] h0 Z (λ c3 h0=>?_) λ c3 h0=>?_)
  ·exact J0
  refine nx 8 rfl ?_;obtain ⟨W8,h1,UV,hR0⟩:=bo h0;refine kX (λ WY:Unit=>W8=.inl WY) (λ WY=>⟨[(1,.ptr 1 0)],[(1,(am.cs Uj).map .p)]⟩) (λ WY hv=>?_) ?_
  ·have h0:=UV _ hv;refine nx 3 Z (bd h0 λ ZR h1 h0=>kN ZR (λ v28=>⟨[(1,.ptr 1 0),(51,.p (eB v28))],[(1,(am.cs Uj).map .p)]⟩) ?_ ?_)
   ·exact J0
   exact az
  refine nx 6 Z (fD [16,17] h1 Z (λ c4 h1=>?_) λ c4 h1=>?_)
  ·refine nx 2 Z (bd h1 λ W4 h2 h1=>kN W4 (λ VL=>⟨[(1,.ptr 1 0),(25,.p (eB VL))],[(1,(am.cs Uj).map .p)]⟩) ?_ ?_)
   ·exact az
   exact bP
  exact az
 exact az
def lk (Mr:Bk):Option Int :=if 4096<(Mr.length:Int) then some 3 else(kI Mr).bind λ r2=>if (!r2)=true then some 1 else some 0
instance Mb (Mr:Bk):∀ (r:Int),HP (lk Mr=some r) Tryz.prog 172 [eS Mr] (.p (eI r)):=by
 refine hP good Tryz.func172 Z Z λ r h0 _ w0=>?_;unfold lk at h0;exact J0
def jP (Uj:am):Nat->Int->Option (Unit⊕(Unit⊕Int))|0,_=>none|m+1,WZ=>if WZ<(Uj.C'.length:Int) then ck ((0:Int)<=WZ/\WZ<(Uj.C'.length:Int))<|(lk (lat Uj.C' WZ)).bind λ Vr=>if Vr=0 then(if 0<WZ then ck (inR (WZ-1))<|ck ((0:Int)<=WZ-1/\WZ-1<(Uj.C'.length:Int))<|some (Op.bytesLess (lat Uj.C' WZ) (lat Uj.C' (WZ-1))||decide (lat Uj.C' WZ=lat Uj.C' (WZ-1)))else some false).bind λ t33=>if t33=true then some (.inr (.inr 1))else ck (inR (WZ+1))<|jP Uj m (WZ+1)else some (.inr (.inr Vr))else some (.inl ())
def nz (n:Nat)(Uj:am):Option Int :=(kx Uj).bind λ r1=>if (!r1)=true then some 1 else jn (if Uj.Ar=2 then(jz Uj.F').bind λ r5=>if (!r5)=true then some (.inr 5)else some (.inl ())else if Uj.Ar=3 then(lk Uj.If).bind λ r9=>some (.inr r9)else if Uj.Ar=5 then jn (jP Uj n 0) λ _q38=>some (.inl ())else some (.inl ()) : Option (Unit⊕Int)) λ _ZP=>some 0
instance Md (n:Nat) (Uj:am):∀ (r:Int),HP (nz n Uj=some r) Tryz.prog 150 [.agg (am.cs Uj)] (.p (eI r)):=by
 refine hP good Tryz.func150 Z Z λ r h0 _ w0=>?_;unfold nz at h0;refine nx 9 Z (K0 λ r1 h0=>nx 2 Z (fB [8] h0 Z (λ c3 h0=>?_) λ c3 h0=>?_))
 ·exact J0
 refine nx 8 rfl ?_;obtain ⟨o40,h1,UV,hR0⟩:=bo h0;refine kX (λ v41:Unit=>o40=.inl v41) (λ v41=>⟨[],[]⟩) (λ v41 hv=>?_) ?_
 ·exact fR
 refine nx 6 Z (fD [11,12] h1 Z (λ c4 h1=>?_) λ c4 h1=>?_)
 ·exact az
 refine nx 6 Z (fD [17,18] h1 Z (λ c8 h1=>?_) λ c8 h1=>?_)
 ·exact az
 refine nx 6 Z (fD [22,23] h1 Z (λ Yl h1=>?_) λ Yl h1=>?_)
 ·refine nx 5 rfl (oLl (f:=eS) Z Z (nx 3 rfl ?_));obtain ⟨YS,h2,hL1,hR1⟩:=bo h1;refine kEx 1 (λ Xk:Unit=>YS=.inl Xk) (λ Xk=>⟨[],[]⟩) (λ Xk hv=>?_) ?_
  ·have h1:=hL1 _ hv;exact az
  refine lG (λ (Y8:Int)=>⟨[(1,.ptr 1 0),(25,.p (eL eS Uj.C')),(26,.p (eI (Uj.C'.length:Int))),(27,.p (eI Y8))],[(1,(am.cs Uj).map .p)]⟩) (λ m (Y8:Int)=>jP Uj m Y8) Y 0 h2 (gE rfl rfl) ?_;rintro m WZ h2;replace h2:jP Uj (m+1) WZ=some YS:=h2;rw [jP] at h2;refine nx 5 rfl (fD [28] h2 rfl (λ c25 h2=>?_) λ c25 h2=>?_)
  ·refine nx 7 Z (oE h2 Y Z Z Y λ X6 h2=>nx 8 Z (K2 λ Vr h2=>nx 7 Z (fN [35] h2 Z (λ c29 h2=>?_) λ c29 h2=>?_)))
   ·refine nx 3 Z (bd h2 λ o45 h3 h2=>kN o45 (λ v46=>⟨[(1,.ptr 1 0),(25,.p (eL eS Uj.C')),(26,.p (eI (Uj.C'.length:Int))),(27,.p (eI WZ)),(48,.p (eB v46))],[(1,(am.cs Uj).map .p)]⟩) ?_ ?_)
    ·exact bP
    refine nx 4 Z (fD [38,39] h3 Z (λ c30 h3=>?_) λ c30 h3=>?_)
    ·exact nx 4 Z (oA h3 Z Z λ Zg h3=>oE h3 Y Z Z Y λ aaR h3=>nx 1 Z BS)
    exact nx 10 Z nw
   exact bP
  exact bP
 exact az
def fh (Vm:am->Int->Int->Option (Int×Int))(Uj:am)(O':Int):Nat->Int->Int->Option (Int⊕(Int×Int))|0,_,_=>none|m+1,Vl,Yr=>if Vl<(Uj.Df.length:Int) then ck ((0:Int)<=Vl/\Vl<(Uj.Df.length:Int))<|ck (inR (O'+1))<|(Vm (lat Uj.Df Vl) (O'+1) Yr).bind λ UE=>if UE.1=0 then ck (inR (Vl+1))<|fh Vm Uj O' m (Vl+1) UE.2 else some (.inr (UE.1,UE.2))else some (.inl Yr)
def gg:Nat->am->Int->Int->Option (Int×Int)|0,_,_,_=>none|n+1,Uj,O',cap_0=>if 32<O' then some (4,cap_0)else if 4096<=cap_0 then some (14,cap_0)else ck (inR (cap_0+1))<|(nz n Uj).bind λ r4=>if r4=0 then jn (fh (gg n) Uj O' n 0 (cap_0+1)) λ f27=>some (0,f27)else some (r4,cap_0+1)
instance EN (n:Nat):∀ (Uj:am) (O':Int) (cap_0:Int) (r:Int×Int),HO (gg n Uj O' cap_0=some r) Tryz.prog 149 [.p (.agg (am.cs Uj)),.p (eI O'),.ptr 1000000 0,.ptr 1000001 0] [(1000000,[.p (eI cap_0)]),(1000001,[.func (.func 149) [.ptr 1000000 0,.ptr 1000001 0]])] (.p (eI r.1)) ([(1000000,[.p (eI r.2)]),(1000001,[.func (.func 149) [.ptr 1000000 0,.ptr 1000001 0]])]):=by
 induction n with
 | zero=>exact Zr
 | succ n ih=>
 refine λ Uj O' cap_0=>hO good [] [1000000,1000001] Tryz.func149 Z Z λ r h0 _ w0 F=>?_;rw [gg] at h0;refine nx 11 Z (fD [12] h0 Z (λ c1 h0=>?_) λ c1 h0=>?_)
 ·exact J0
 refine nx 8 Z (fD [14] h0 Z (λ c2 h0=>?_) λ c2 h0=>?_)
 ·exact J0
 refine nx 5 Z (oA h0 Z Z λ YF h0=>nx 6 Z (K0 λ r4 h0=>nx 7 Z (fN [20] h0 Z (λ c6 h0=>?_) λ c6 h0=>?_)))
 ·refine nx 7 rfl (oLl (f:=db) Z Z (nx 3 rfl ?_));obtain ⟨W4,h1,UV,hR0⟩:=bo h0;refine kEx 0 (λ VL:Int=>W4=.inl VL) (λ VL=>⟨[],[(1000000,[.p (eI VL)]),(1000001,[.func (.func 149) [.ptr 1000000 0,.ptr 1000001 0]])]⟩) (λ VL hv=>?_) ?_
  ·exact fR
  refine lG (λ (V':Int×Int)=>⟨[(1,.p (eI O')),(3,.ptr 1000001 0),(23,.p (eL db Uj.Df)),(24,.p (eI (Uj.Df.length:Int))),(25,.p (eI V'.1))],[(1000000,[.p (eI V'.2)]),(1000001,[.func (.func 149) [.ptr 1000000 0,.ptr 1000001 0]])]⟩) (λ m (V':Int×Int)=>fh (gg n) Uj O' m V'.1 V'.2) Y (0,cap_0+1) h1 (gE rfl rfl) ?_;rintro m ⟨Vl,Yr⟩ h1;replace h1:fh (gg n) Uj O' (m+1) Vl Yr=some W4:=h1;rw [fh] at h1;refine nx 5 rfl (fD [26] h1 rfl (λ c18 h1=>?_) λ c18 h1=>?_)
  ·refine nx 6 Z (oE h1 am.It Z Z Y λ Wq h1=>nx 9 Z (oA h1 Z Z λ WT h1=>bd h1 λ UE e22 h1=>mO Z (w7 [1000000,1000001] [] 102000 102000 (HO.c e22) Z Z Z Z Z Z ⟨sr,sr,sr,sr,trivial⟩ Z Z ⟨⟨_,Z,⟨sr,trivial⟩⟩,⟨_,Z,⟨sr,trivial⟩⟩,trivial⟩ Z Z Z Z Z Z Z Z Tryz.call149 Z Z ?_)));exact az
  exact az
 exact J0
def lI (n:Nat)(Uj:am):Option Int :=(gg n Uj 1 0).bind λ r1=>some r1.1
instance IH (n:Nat) (Uj:am):∀ (r:Int),HP (lI n Uj=some r) Tryz.prog 111 [.agg (am.cs Uj)] (.p (eI r)):=by
 refine hP good Tryz.func111 Z Z λ r h0 _ w0=>?_;unfold lI at h0;exact nx 16 Z (mO Z (Au Z Z Z Z (nx 6 Z (bd h0 λ r1 e2 h0=>mO Z (w7 [3,4] [] 101000 101000 (HO.c e2) Z Z Z Z Z Z ⟨sr,sr,sr,sr,trivial⟩ Z Z ⟨⟨_,Z,⟨sr,trivial⟩⟩,⟨_,Z,⟨sr,trivial⟩⟩,trivial⟩ Z Z Z Z Z Z Z Z Tryz.call149 Z Z J0)))))
variable {p:Prop}
theorem GR (h:p:=by
  have:=js [200];have:=jB 200 (Bool×List ab×Int×Int×Int×Int×Int×Bk) (λ v=>[(4,.p (eB v.1))]) λ v=>[(1000000,(pG v.2))]
  exact J0):p:=h
theorem Hf (h:p:=by first|(simp only [List.map_append,dg,List.map_nil,ac.J']; done)|(simp only [List.map_append,dg,List.map_nil,ac.J']; rfl)):p:=h
theorem sy (h:p:=by rw [th]):p:=h
theorem C4 (h:p:=by exact mQo (oi h0) (bm (cb 900000 800000 Z Z Z Z Z) (aU _)) Z Z Z Z (sr) ⟨⟨_,Z,⟨sr,sr,sr,sr,sr,sr,sr,trivial⟩⟩,trivial⟩):p:=h
theorem Dp (h:p:=by exact mQo (oi h0) (bm (cb 101000 800000 Z Z Z Z Z) (aU _)) Z Z Z Z (sr) ⟨⟨_,Z,⟨sr,sr,sr,sr,sr,sr,sr,trivial⟩⟩,trivial⟩):p:=h
theorem ID (h:p:=by exact gE (t:=⟨[(0,.ptr 1000000 0),(2,.ptr 2 0)],[(2,kr),(1000000,[.p (eS Pn.fs),.p (eI Pn.fat),.p (eI Pn.fi),.p (eI Pn.E'),.p (eS Pn.Gw),.vec 900000 11 0 (Pn.B'.map ak),.p (eB Pn.IN)])]⟩) Z Z):p:=h
set_option maxRecDepth 4000
instance Sl:HE Tryz.prog 146:=⟨Tryz.call146⟩
instance R7:HE Tryz.prog 148:=⟨Tryz.call148⟩
instance Se:HE Tryz.prog 112:=⟨Tryz.call112⟩
instance SC:HE Tryz.prog 147:=⟨Tryz.call147⟩
instance Sy:HE Tryz.prog 145:=⟨Tryz.call145⟩
instance SD:HE Tryz.prog 110:=⟨Tryz.call110⟩
instance Sb:HE Tryz.prog 111:=⟨Tryz.call111⟩
instance SL:HE Tryz.prog 113:=⟨Tryz.call113⟩
instance SH:HE Tryz.prog 114:=⟨Tryz.call114⟩
instance SA:HE Tryz.prog 68:=⟨Tryz.call68⟩
instance Rk:HE Tryz.prog 31:=⟨Tryz.call31⟩
instance RD:HE Tryz.prog 70:=⟨Tryz.call70⟩
instance PU:HE Tryz.prog 121:=⟨Tryz.call121⟩
instance Ps:HE Tryz.prog 12:=⟨Tryz.call12⟩
instance Qj:HE Tryz.prog 39:=⟨Tryz.call39⟩
instance PT:HE Tryz.prog 156:=⟨Tryz.call156⟩
instance RR:HE Tryz.prog 124:=⟨Tryz.call124⟩
instance Pi:HE Tryz.prog 158:=⟨Tryz.call158⟩
instance Pz:HE Tryz.prog 157:=⟨Tryz.call157⟩
instance Q6:HE Tryz.prog 125:=⟨Tryz.call125⟩
instance Qk:HE Tryz.prog 102:=⟨Tryz.call102⟩
instance QB:HE Tryz.prog 101:=⟨Tryz.call101⟩
instance PD:HE Tryz.prog 71:=⟨Tryz.call71⟩
instance Qd:HE Tryz.prog 103:=⟨Tryz.call103⟩
instance Qv:HE Tryz.prog 211:=⟨Tryz.call211⟩
abbrev uE (F:Bk->Int->Option (Int))(k:Nat):Prop:=∀ (a0:Bk) (a1:Int) (r:Int),HP (F a0 a1=some r) Tryz.prog k [eS a0,eI a1] (.p (eI r))
abbrev u9 (F:al->Bk->Option (al))(k:Nat):Prop:=∀ (a0:al) (a1:Bk) (r:al),HO (F a0 a1=some r) Tryz.prog k [.ptr 1000000 0,.p (eS a1)] [(1000000,((al.cs a0).map .p))] (.tuple []) ([(1000000,((al.cs r).map .p))])
abbrev pG (v:List ab×Int×Int×Int×Int×Int×Bk):List AV:=[.p (eL aB v.1),.p (eI v.2.1),.p (eI v.2.2.1),.p (eI v.2.2.2.1),.p (eI v.2.2.2.2.1),.p (eI v.2.2.2.2.2.1),.p (eS v.2.2.2.2.2.2)]
abbrev rU:List PV:=[eI 0,eI 0,eS ([]:Bk),eS ([]:Bk),eI 0,eI 0,eS ([]:Bk),.val (.slice none 0 0),.val (.slice none 0 0),.val (.slice none 0 0),eI 0]
abbrev kq:List AV:=[.p (eI 0),.p (eS ([]:Bk)),.p (eI 0)]
abbrev kr:List AV:=[.p (eI 0),.p (eI 0),.p (eS ([]:Bk))]
def ly (UZ:Int):Option Bool :=(if UZ=12 then some true else some (decide (UZ=13))).bind λ t2=>some t2
instance NL (UZ:Int):∀ (r:Bool),HP (ly UZ=some r) Tryz.prog 146 [eI UZ] (.p (eB r)):=by
 refine hP good Tryz.func146 Z Z λ r h0 _ w0=>?_;unfold ly at h0;exact kt
def jV (UZ:Int):Option Bool :=(if UZ=3 then some true else if UZ=4 then some true else if UZ=9 then some true else(ly UZ).bind λ r4=>some r4).bind λ t6=>some t6
instance Me (UZ:Int):∀ (r:Bool),HP (jV UZ=some r) Tryz.prog 112 [eI UZ] (.p (eB r)):=by
 refine hP good Tryz.func112 Z Z λ r h0 _ w0=>?_;unfold jV at h0;exact kt
def jK (Um:ac):Option Bool :=if Um.Ar=6 then(if Um.fOp=1 then some true else some (decide (Um.fOp=2))).bind λ t3=>some t3 else if Um.Ar=7 then(if 3<=Um.fOp then some (decide (Um.fOp<=15))else some false).bind λ t6=>some t6 else some (decide (Um.fOp=0))
instance FQ (Um:ac):∀ (r:Bool),HP (jK Um=some r) Tryz.prog 145 [.agg (ac.cs Um)] (.p (eB r)):=by
 refine hP good Tryz.func145 Z Z λ r h0 _ w0=>?_;unfold jK at h0;have:=js [300,500];have:=jS 300 Bool λ v=>[(2,.p (eB v))]
 have:=jS 500 Bool λ v=>[(2,.p (eB v))]
 exact J0
def j9 (Uj:am):Option Bool :=(if Uj.Ar=0 then if Uj.F'=0 then if Uj.If=([]:Bk) then ck (inR ((Uj.Df.length:Int)+(Uj.C'.length:Int)))<|some (decide ((Uj.Df.length:Int)+(Uj.C'.length:Int)=0))else some false else some false else some false).bind λ t5=>some t5
instance Ot (Uj:am):∀ (r:Bool),HP (j9 Uj=some r) Tryz.prog 147 [.agg (am.cs Uj)] (.p (eB r)):=by
 refine hP good Tryz.func147 Z Z λ r h0 _ w0=>?_;unfold j9 at h0;exact kt
def qn (UZ:Int):Option (Int×Int×Bool) :=(if UZ=1 then some true else some (decide (UZ=3))).bind λ t2=>if t2=true then some (0,0,false)else(if UZ=4 then some true else some (decide (UZ=6))).bind λ t5=>if t5=true then some (1,1,false)else(if UZ=5 then some true else some (decide (UZ=7))).bind λ t8=>if t8=true then some (2,2,false)else if UZ=8 then some (3,3,false)else if UZ=2 then some (1,4096,false)else if UZ=12 then some (2,3,false)else if UZ=13 then some (3,4,false)else if UZ=11 then some (0,4096,true)else some (0,4096,false)
instance NC (UZ:Int):∀ (r:Int×Int×Bool),HP (qn UZ=some r) Tryz.prog 148 [eI UZ] (.tuple [.p (eI r.1),.p (eI r.2.1),.p (eB r.2.2)]):=by
 refine hP good Tryz.func148 Z Z λ r h0 _ w0=>?_;unfold qn at h0;have:=js [201,501,801];have:=jS 201 Bool λ v=>[(6,.p (eB v))]
 have:=jS 501 Bool λ v=>[(9,.p (eB v))]
 have:=jS 801 Bool λ v=>[(12,.p (eB v))]
 exact J0
def iz (Um:ac):Option Bool :=(if Um.Ar<1 then some true else if 13<Um.Ar then some true else(jK Um).bind λ r3=>some (!r3)).bind λ t5=>if t5=true then some false else((jV Um.Ar).bind λ r7=>if (!r7)=true then if Um.AI=([]:Bk) then(ly Um.Ar).bind λ Wy=>if (!Wy)=true then if Um.D'=([]:Bk) then if Um.Ar=1 then some false else(j9 Um.A').bind λ XH=>some (!XH)else some true else if Um.Ar=1 then some false else(j9 Um.A').bind λ Wx=>some (!Wx)else some true else(ly Um.Ar).bind λ UE=>if (!UE)=true then if Um.D'=([]:Bk) then if Um.Ar=1 then some false else(j9 Um.A').bind λ Ve=>some (!Ve)else some true else if Um.Ar=1 then some false else(j9 Um.A').bind λ YQ=>some (!YQ)).bind λ t31=>if t31=true then some false else(qn Um.Ar).bind λ WN=>(if (Um.BY.length:Int)<WN.1 then some true else if WN.2.1<(Um.BY.length:Int) then if WN.2.1<4096 then some true else if WN.2.2=true then ck ((2:Int)≠0)<|some (decide ((Um.BY.length:Int).tmod 2=1))else some false else if WN.2.2=true then ck ((2:Int)≠0)<|some (decide ((Um.BY.length:Int).tmod 2=1))else some false).bind λ t42=>if t42=true then some false else if Um.Ar=1 then(if 0<=Um.A'.Ar then if Um.A'.Ar<=3 then if Um.A'.Ar=2 then some (decide (0<=Um.A'.F'))else some true else some false else some false).bind λ t48=>some t48 else some true
instance Kl (Um:ac):∀ (r:Bool),HP (iz Um=some r) Tryz.prog 110 [.agg (ac.cs Um)] (.p (eB r)):=by
 refine hP good Tryz.func110 Z Z λ r h0 _ w0=>?_;unfold iz at h0;refine nx 7 Z (bd h0 λ XK h1 h0=>?_);refine kN XK (λ YV=>⟨[(1,.ptr 1 0),(19,.p (eB YV))],[(1,(ac.cs Um).map .p)]⟩) ?_ ?_
 ·refine nx 1 Z (fB [19] h0 Z (λ c6 h0=>?_) λ c6 h0=>?_)
  ·exact J0
  refine nx 4 Z (bd h0 λ o55 h1 h0=>?_);refine kN o55 (λ v56=>⟨[(1,.ptr 1 0),(50,.p (eB v56))],[(1,(ac.cs Um).map .p)]⟩) ?_ ?_
  ·refine nx 1 Z (fB [50] h0 Z (λ c32 h0=>?_) λ c32 h0=>?_)
   ·exact J0
   refine nx 6 Z (K0 λ WN h0=>nx 10 Z ?_);refine bd h0 λ o57 h1 h0=>kN o57 (λ v58=>⟨[(1,.ptr 1 0),(83,.p (eB v58))],[(1,(ac.cs Um).map .p)]⟩) ?_ ?_
   ·have:=js [1100];have:=jS 1100 Bool λ v=>[(2,.p (eB v))]
    exact J0
   refine nx 3 Z (oLl (f:=ak) Z Z ?_);refine nx 3 Z (fD [62,63] h1 Z (λ c35 h1=>?_) λ c35 h1=>?_)
   ·exact az
   refine nx 2 Z (oLl (f:=ak) Z Z ?_);refine nx 3 Z (fD [68,69] h1 Z (λ YH h1=>?_) λ YH h1=>?_)
   ·refine nx 5 Z (fD [71,72,73,74] h1 Z (λ c37 h1=>?_) λ c37 h1=>?_)
    ·exact az
    refine nx 2 Z (fB [5,57,75,76] h1 Z (λ c38 h1=>?_) λ c38 h1=>?_)
    ·refine nx 2 Z (oLl (f:=ak) Z Z ?_);refine cc' h1 λ ZX h1=>mO Z (LA Z Z Z Z Z Z ZX ?_);exact az
    exact az
   refine nx 7 Z (fB [5,57,75,76] h1 Z (λ c40 h1=>?_) λ c40 h1=>?_)
   ·refine nx 2 Z (oLl (f:=ak) Z Z ?_);refine cc' h1 λ W5 h1=>mO Z (LA Z Z Z Z Z Z W5 ?_);exact az
   exact az
  exact az
 exact az
def dm (Mr:Bk):Nat->Int->Option (Unit⊕Bool)|0,_=>none|m+1,Vw=>if Vw<(Mr.length:Int) then ck ((0:Int)<=Vw/\Vw<(Mr.length:Int))<|(ck ((0:Int)<=Vw/\Vw<(Mr.length:Int))<|if byt Mr Vw=95 then some false else if iOr .u8 (byt Mr Vw) 32<97 then if Vw=0 then some true else ck ((0:Int)<=Vw/\Vw<(Mr.length:Int))<|if byt Mr Vw<48 then some true else ck ((0:Int)<=Vw/\Vw<(Mr.length:Int))<|some (decide (57<byt Mr Vw))else if 122<iOr .u8 (byt Mr Vw) 32 then if Vw=0 then some true else ck ((0:Int)<=Vw/\Vw<(Mr.length:Int))<|if byt Mr Vw<48 then some true else ck ((0:Int)<=Vw/\Vw<(Mr.length:Int))<|some (decide (57<byt Mr Vw))else some false).bind λ t34=>if t34=true then some (.inr false)else ck (inR (Vw+1))<|dm Mr m (Vw+1)else some (.inl ())
def gQ (n:Nat)(Mr:Bk):Option Bool :=jn (dm Mr n 0) λ _ZO=>(if Mr=([]:Bk) then some false else some (decide ((Mr.length:Int)<=64))).bind λ t39=>some t39
instance Bv (n:Nat) (Mr:Bk):∀ (r:Bool),HP (gQ n Mr=some r) Tryz.prog 113 [eS Mr] (.p (eB r)):=by
 refine hP good Tryz.func113 Z Z λ r h0 _ w0=>?_;unfold gQ at h0;refine nx 8 rfl (oLs rfl ?_);refine nx 3 rfl ?_;obtain ⟨o43,h1,UV,hR0⟩:=bo h0;refine kEx 0 (λ v44:Unit=>o43=.inl v44) (λ v44=>⟨[(0,.p (eS Mr))],[]⟩) (λ v44 hv=>?_) ?_
 ·have h0:=UV _ hv;have:=js [800];have:=jS 800 Bool λ v=>[(2,.p (eB v))]
  exact J0
 refine lG (λ (Wt:Int)=>⟨[(0,.p (eS Mr)),(6,.p (eI (Mr.length:Int))),(7,.p (eI Wt))],[]⟩) (λ m (Wt:Int)=>dm Mr m Wt) Y 0 h1 (gE rfl rfl) ?_;rintro m Vw h1;replace h1:dm Mr (m+1) Vw=some o43:=h1;rw [dm] at h1;have:=js [500];have:=jS 500 Bool λ v=>[(41,.p (eB v))]
 exact az
def gr (Mr:Bk):Option Bool :=(if Mr=([110,117,108,108]:Bk) then some true else if Mr=([116,114,117,101]:Bk) then some true else if Mr=([102,97,108,115,101]:Bk) then some true else if Mr=([102,111,114]:Bk) then some true else if Mr=([105,110]:Bk) then some true else some (decide (Mr=([105,102]:Bk)))).bind λ t6=>if t6=true then some true else some false
instance FR (Mr:Bk):∀ (r:Bool),HP (gr Mr=some r) Tryz.prog 114 [eS Mr] (.p (eB r)):=by
 refine hP good Tryz.func114 Z Z λ r h0 _ w0=>?_;unfold gr at h0;have:=js [201];have:=jS 201 Bool λ v=>[(4,.p (eB v))]
 exact J0
def oZ (n:Nat)(Um:ac):Option Int :=(iz Um).bind λ r1=>if (!r1)=true then some 1 else if Um.Ar=1 then(lI n Um.A').bind λ r5=>some r5 else((jV Um.Ar).bind λ r7=>if r7=true then(gQ n Um.AI).bind λ UN=>if (!UN)=true then some true else if Um.Ar=4 then some false else(gr Um.AI).bind λ Xs=>some Xs else some false).bind λ Vl=>if Vl=true then some 7 else(if Um.D'=([]:Bk) then some false else(gQ n Um.D').bind λ Wx=>if (!Wx)=true then some true else(gr Um.D').bind λ V9=>some V9).bind λ WZ=>if WZ=true then some 7 else some 0
instance MO (n:Nat) (Um:ac):∀ (r:Int),HP (oZ n Um=some r) Tryz.prog 68 [.agg (ac.cs Um)] (.p (eI r)):=by
 refine hP good Tryz.func68 Z Z λ r h0 _ w0=>?_;unfold oZ at h0;have:=js [500,700];have:=jS 500 Bool λ v=>[(30,.p (eB v))]
 have:=jS 700 Bool λ v=>[(44,.p (eB v))]
 exact J0
def bU (U':bZ->ac->Int->Option (Int×bZ))(e_1:ac)(UR:Int):Nat->Int->Int->Option (Int⊕(Int×bZ))|0,_,_=>none|m+1,Vl,Yr=>if Vl<(e_1.BY.length:Int) then ck ((0:Int)<=Vl/\Vl<(e_1.BY.length:Int))<|ck (inR (UR+1))<|(U' (bZ.mk Yr) (lat e_1.BY Vl) (UR+1)).bind λ UE=>if UE.1=0 then ck (inR (Vl+1))<|bU U' e_1 UR m (Vl+1) UE.2.fcount else some (.inr (UE.1,UE.2))else some (.inl Yr)
def b7:Nat->bZ->ac->Int->Option (Int×bZ)|0,_,_,_=>none|n+1,Ut,e_1,UR=>if 32<UR then some (4,Ut)else if 4096<=Ut.fcount then some (14,Ut)else ck (inR (Ut.fcount+1))<|(oZ n e_1).bind λ r4=>if r4=0 then jn (bU (b7 n) e_1 UR n 0 (Ut.fcount+1)) λ f27=>some (0,(bZ.mk f27))else some (r4,(bZ.mk (Ut.fcount+1)))
instance y7 (n:Nat):∀ (Ut:bZ) (e_1:ac) (UR:Int) (r:Int×bZ),HO (b7 n Ut e_1 UR=some r) Tryz.prog 31 [.ptr 1000000 0,.p (.agg (ac.cs e_1)),.p (eI UR)] [(1000000,[.p (eI Ut.fcount)])] (.p (eI r.1)) ([(1000000,[.p (eI r.2.fcount)])]):=by
 induction n with
 | zero=>exact Zr
 | succ n ih=>
 refine λ Ut e_1 UR=>hO good [] [1000000] Tryz.func31 Z Z λ r h0 _ w0 F=>?_;rw [b7] at h0;refine nx 11 Z (fD [12] h0 Z (λ c1 h0=>?_) λ c1 h0=>?_)
 ·exact J0
 refine nx 11 Z (fD [17] h0 Z (λ c2 h0=>?_) λ c2 h0=>?_)
 ·exact J0
 refine nx 8 Z (oA h0 Z Z λ YF h0=>?_);refine nx 8 Z (K0 λ r4 h0=>nx 7 Z ?_);refine fN [28] h0 Z (λ c6 h0=>?_) λ c6 h0=>?_
 ·refine nx 7 rfl (oLl (f:=ak) Z Z ?_);refine nx 3 rfl ?_;obtain ⟨W4,h1,UV,hR0⟩:=bo h0;refine kEx 0 (λ VL:Int=>W4=.inl VL) (λ VL=>⟨[],[(1000000,[.p (eI VL)])]⟩) (λ VL hv=>?_) ?_
  ·exact fR
  refine lG (λ (V':Int×Int)=>⟨[(0,.ptr 1000000 0),(2,.p (eI UR)),(31,.p (eL ak e_1.BY)),(32,.p (eI (e_1.BY.length:Int))),(33,.p (eI V'.1))],[(1000000,[.p (eI V'.2)])]⟩) (λ m (V':Int×Int)=>bU (b7 n) e_1 UR m V'.1 V'.2) Y (0,Ut.fcount+1) h1 (gE rfl rfl) ?_;rintro m ⟨Vl,Yr⟩ h1;replace h1:bU (b7 n) e_1 UR (m+1) Vl Yr=some W4:=h1;rw [bU] at h1;exact az
 exact J0
def nu (n:Nat)(Um:ac):Option Int :=(b7 n (bZ.mk 0) Um 1).bind λ r1=>some r1.1
instance Mg (n:Nat) (Um:ac):∀ (r:Int),HP (nu n Um=some r) Tryz.prog 12 [.agg (ac.cs Um)] (.p (eI r)):=by
 refine hP good Tryz.func12 Z Z λ r h0 _ w0=>?_;unfold nu at h0;exact J0
def cP (OF:al):Nat->Int->Option Int|0,_=>none|m+1,f7=>(if 0<OF.H' then ck ((0:Int)<=f7/\f7<(OF.fl.length:Int))<|some (decide ((lat OF.fl f7).Ar=5))else some false).bind λ Zv=>if Zv=true then ck (inR (f7+1))<|cP OF m (f7+1)else some f7
def br (n:Nat)(OF:al):Option (ab×al) :=(cP OF n OF.fat).bind λ Z1=>ck ((0:Int)<=Z1/\Z1<(OF.fl.length:Int))<|ck (inR (((lat OF.fl Z1).fAt)+OF.G'))<|some ((ab.mk ((lat OF.fl Z1).Ar) ((lat OF.fl Z1).By) (((lat OF.fl Z1).fAt)+OF.G')),(al.mk OF.fl Z1 OF.H' OF.G' OF.AT))
instance A4 (n:Nat) (OF:al):∀ (r:ab×al),HO (br n OF=some r) Tryz.prog 70 [.ptr 1000000 0] [(1000000,((al.cs OF).map .p))] (.p (.agg (ab.cs r.1))) ([(1000000,((al.cs r.2).map .p))]):=by
 refine hO good [] [1000000] Tryz.func70 Z Z λ r h0 _ w0 F=>?_;unfold br at h0;refine nx 6 Z (bd h0 λ WR h1 h0=>?_);refine kE 0 WR (λ v20=>⟨[(0,.ptr 1000000 0),(2,.ptr 2 0)],[(2,kq),(1000000,[.p (eL aB OF.fl),.p (eI v20),.p (eI OF.H'),.p (eI OF.G'),.p (eI OF.AT.Ar),.p (eI OF.AT.fAt),.p (eS OF.AT.AI)])]⟩) ?_ ?_
 ·refine nx 2 Z (cc' h0 λ Wr h0=>?_);refine mG (gE (t:=⟨[(0,.ptr 1000000 0),(2,.ptr 2 0)],[(2,kq),(1000000,[.p (eL aB OF.fl),.p (eI WR),.p (eI OF.H'),.p (eI OF.G'),.p (eI OF.AT.Ar),.p (eI OF.AT.fAt),.p (eS OF.AT.AI)])]⟩) Z Z) (mSq ⟨2,[10,11],(by3 (.some λ i=>Nat.beq i 3) .none .none),(λ _=>[(0,.ptr 1000000 0),(2,.ptr 2 0)]),(ob3 ([(2,kq),(1000000,[.p (eL aB OF.fl),.p (eI WR),.p (eI OF.H'),.p (eI OF.G'),.p (eI OF.AT.Ar),.p (eI OF.AT.fAt),.p (eS OF.AT.AI)])]) (3,kq) (3,[.p (eI ((lat OF.fl WR).Ar)),.p (eS ((lat OF.fl WR).By)),.p (eI ((lat OF.fl WR).fAt))]))⟩ Z ?_);refine dPc (.ptr 1000000 0) Z (dPc (.ptr 1000000 0) Z ?_);refine dPc (.ptr 1000000 0) Z (dPc (.p (eL aB OF.fl)) Z ?_);refine dPc (.ptr 1000000 0) Z (dPc (.ptr 1000000 0) Z ?_);refine dPc (.ptr 1000000 1) Z (dPc (.p (eI WR)) Z ?_);refine dO (.rptr (ab.cs (lat OF.fl WR))) [33,37] Z (λ _ sl Sk K hK=>ap Z (jG (f:=aB) (l:=OF.fl) ab.cs Z Z Z Z Z Z (Sk _ _ Z) Z (Sk _ _ Z) Wr ab.It Y hK)) (dPc (.p (.agg (ab.cs (lat OF.fl WR)))) Z ?_);refine dI (λ _=>.ptr 3 0) [] Z (λ sl Sk K hK=>ap Z (fU Z Z Z Z Z hK)) (dS Z ?_);refine eT (nx 2 Z ?_);refine cc' h0 λ V7 h0=>mG (gE (t:=⟨[(0,.ptr 1000000 0),(2,.ptr 2 0),(3,.ptr 3 0)],[(2,kq),(3,(ab.cs (lat OF.fl WR)).map .p),(1000000,[.p (eL aB OF.fl),.p (eI WR),.p (eI OF.H'),.p (eI OF.G'),.p (eI OF.AT.Ar),.p (eI OF.AT.fAt),.p (eS OF.AT.AI)])]⟩) Z Z) (mSq ⟨1,[8],(λ _=>.none),(λ _=>[(0,.ptr 1000000 0),(2,.ptr 2 0),(3,.ptr 3 0)]),(ob2 ([(2,kq),(3,[.p (eI ((lat OF.fl WR).Ar)),.p (eS ((lat OF.fl WR).By)),.p (eI ((lat OF.fl WR).fAt))]),(1000000,[.p (eL aB OF.fl),.p (eI WR),.p (eI OF.H'),.p (eI OF.G'),.p (eI OF.AT.Ar),.p (eI OF.AT.fAt),.p (eS OF.AT.AI)])]) (3,[.p (eI ((lat OF.fl WR).Ar)),.p (eS ((lat OF.fl WR).By)),.p (eI (((lat OF.fl WR).fAt)+OF.G'))]))⟩ Z ?_);refine dPc (.ptr 3 2) Z (dPc (.p (eI ((lat OF.fl WR).fAt))) Z ?_);refine dPc (.ptr 1000000 0) Z (dPc (.ptr 1000000 0) Z ?_);refine dPc (.ptr 1000000 3) Z (dPc (.p (eI OF.G')) Z ?_);refine dO (.p (eI (((lat OF.fl WR).fAt)+OF.G'))) [41,45] Z (λ _ sl Sk K hK=>ap Z (fM Z Z Z (Sk _ _ Z) (Sk _ _ Z) Z V7 hK)) (dPc (.ptr 3 2) Z ?_);exact J0
 refine lG (λ (XX:Int)=>⟨[(0,.ptr 1000000 0),(2,.ptr 2 0)],[(2,kq),(1000000,[.p (eL aB OF.fl),.p (eI XX),.p (eI OF.H'),.p (eI OF.G'),.p (eI OF.AT.Ar),.p (eI OF.AT.fAt),.p (eS OF.AT.AI)])]⟩) (λ m (XX:Int)=>cP OF m XX) Y OF.fat h1 (gE rfl rfl) ?_;rintro m f7 h1;replace h1:cP OF (m+1) f7=some WR:=h1;rw [cP] at h1;refine nx 2 rfl (bd h1 λ o22 h2 h1=>?_);refine kN o22 (λ v23=>⟨[(0,.ptr 1000000 0),(2,.ptr 2 0),(22,.p (eB v23))],[(2,kq),(1000000,[.p (eL aB OF.fl),.p (eI f7),.p (eI OF.H'),.p (eI OF.G'),.p (eI OF.AT.Ar),.p (eI OF.AT.fAt),.p (eS OF.AT.AI)])]⟩) ?_ ?_
 ·exact az
 refine fD (p:=0<OF.H') [] h2 Z (λ c8 h2=>?_) λ c8 h2=>?_
 ·refine cc' h2 λ ZC h2=>mD [(0,.ptr 1000000 0),(2,.ptr 2 0)] Z ⟨Z,Z,trivial⟩ Z (dR 4 Z ?_);refine dL (dt c8) Z (dR 9 Z ?_);refine dq (.rptr (ab.cs (lat OF.fl f7))) [9,13,17] Z (λ _ e _ q=>cx (jG (f:=aB) (l:=OF.fl) ab.cs Z Z Z Z Z Z (e _ _ Z) Z (e _ _ Z) ZC ab.It Y q) Z Z (e _ _ Z) (rfl)) Z (dR 4 Z ?_);exact bP
 refine mD [(0,.ptr 1000000 0),(2,.ptr 2 0)] Z ⟨Z,Z,trivial⟩ Z (dR 4 Z ?_);refine dL (df c8) Z (dR 14 Z ?_);refine dE Z (nx 1 Z ?_);exact bP
def aJ (n:Nat)(OF:al):Option (ab×al) :=(br n OF).bind λ r1=>(if r1.1.Ar=6 then some r1.2.fat else ck (inR (r1.2.fat+1))<|some (r1.2.fat+1)).bind λ f5=>some (r1.1,(al.mk r1.2.fl f5 r1.2.H' r1.2.G' r1.2.AT))
instance A7 (n:Nat) (OF:al):∀ (r:ab×al),HO (aJ n OF=some r) Tryz.prog 102 [.ptr 1000000 0] [(1000000,((al.cs OF).map .p))] (.p (.agg (ab.cs r.1))) ([(1000000,((al.cs r.2).map .p))]):=by
 refine hO good [] [1000000] Tryz.func102 Z Z λ r h0 _ w0 F=>?_;unfold aJ at h0;refine nx 7 Z (K0 λ r1 h0=>?_);refine nx 4 Z (bd h0 λ o7 h1 h0=>?_);refine kN o7 (λ v8=>⟨[(2,.ptr 2 0),(3,.ptr 3 0)],[(2,kq),(3,(ab.cs r1.1).map .p),(1000000,[.p (eL aB r1.2.fl),.p (eI v8),.p (eI r1.2.H'),.p (eI r1.2.G'),.p (eI r1.2.AT.Ar),.p (eI r1.2.AT.fAt),.p (eS r1.2.AT.AI)])]⟩) ?_ ?_
 ·exact J0
 exact az
def aT (OF:al):Option (Bool×al) :=some (!decide (OF.AT.Ar=0),OF)
instance y4 (OF:al):∀ (r:Bool×al),HO (aT OF=some r) Tryz.prog 121 [.ptr 1000000 0] [(1000000,((al.cs OF).map .p))] (.p (eB r.1)) ([(1000000,((al.cs r.2).map .p))]):=by
 refine hO good [] [1000000] Tryz.func121 Z Z λ r h0 _ w0 F=>?_;unfold aT at h0;exact J0
def aY (n:Nat)(OF:al)(s_1:Bk):Option (Bool×al) :=(br n OF).bind λ r1=>((aT r1.2).bind λ r3=>if (!r3.1)=true then if r1.1.Ar=4 then some (decide (r1.1.By=s_1),r3.2.fl,r3.2.fat,r3.2.H',r3.2.G',r3.2.AT.Ar,r3.2.AT.fAt,r3.2.AT.AI)else some (false,r3.2.fl,r3.2.fat,r3.2.H',r3.2.G',r3.2.AT.Ar,r3.2.AT.fAt,r3.2.AT.AI)else some (false,r3.2.fl,r3.2.fat,r3.2.H',r3.2.G',r3.2.AT.Ar,r3.2.AT.fAt,r3.2.AT.AI)).bind λ Xo=>some (Xo.1,(al.mk Xo.2.1 Xo.2.2.1 Xo.2.2.2.1 Xo.2.2.2.2.1 (ao.mk Xo.2.2.2.2.2.1 Xo.2.2.2.2.2.2.1 Xo.2.2.2.2.2.2.2)))
instance A1 (n:Nat) (OF:al) (s_1:Bk):∀ (r:Bool×al),HO (aY n OF s_1=some r) Tryz.prog 101 [.ptr 1000000 0,.p (eS s_1)] [(1000000,((al.cs OF).map .p))] (.p (eB r.1)) ([(1000000,((al.cs r.2).map .p))]):=by
 refine hO good [] [1000000] Tryz.func101 Z Z λ r h0 _ w0 F=>?_;unfold aY at h0;exact GR
def bq (OF:al)(k_1:Int)(at_2:Int):Option (ac×al) :=((aT OF).bind λ r1=>if (!r1.1)=true then some (r1.2.fl,r1.2.fat,r1.2.H',r1.2.G',k_1,at_2,([]:Bk))else some (r1.2.fl,r1.2.fat,r1.2.H',r1.2.G',r1.2.AT.Ar,r1.2.AT.fAt,r1.2.AT.AI)).bind λ q11=>some ((ac.mk 0 0 ([]:Bk) ([]:Bk) (am.mk 0 0 ([]:Bk) [] []) [] 0),(al.mk q11.1 q11.2.1 q11.2.2.1 q11.2.2.2.1 (ao.mk q11.2.2.2.2.1 q11.2.2.2.2.2.1 q11.2.2.2.2.2.2)))
instance A5 (OF:al) (k_1:Int) (at_2:Int):∀ (r:ac×al),HO (bq OF k_1 at_2=some r) Tryz.prog 71 [.ptr 1000000 0,.p (eI k_1),.p (eI at_2)] [(1000000,((al.cs OF).map .p))] (.p (.agg (ac.cs r.1))) ([(1000000,((al.cs r.2).map .p))]):=by
 refine hO good [] [1000000] Tryz.func71 Z Z λ r h0 _ w0 F=>?_;unfold bq at h0;have:=js [101];have:=jO 101 (List ab×Int×Int×Int×Int×Int×Bk) λ v=>[(1000000,(pG v))]
 exact J0
def gV (Uj:am)(N':Int):Option ac :=some (ac.mk 1 0 ([]:Bk) ([]:Bk) Uj [] N')
instance Gu (Uj:am) (N':Int):∀ (r:ac),HP (gV Uj N'=some r) Tryz.prog 39 [.agg (am.cs Uj),eI N'] (.p (.agg (ac.cs r))):=by
 refine hP good Tryz.func39 Z Z λ r h0 _ w0=>?_;unfold gV at h0;exact J0
def fA (n:Nat)(Um:ac)(d_1:ao):Option (ac×ao) :=if d_1.Ar=0 then(nu n Um).bind λ r2=>if r2=0 then some (Um,(ao.mk 0 0 ([]:Bk)))else some ((ac.mk 0 0 ([]:Bk) ([]:Bk) (am.mk 0 0 ([]:Bk) [] []) [] 0),(ao.mk r2 Um.fAt ([]:Bk)))else some ((ac.mk 0 0 ([]:Bk) ([]:Bk) (am.mk 0 0 ([]:Bk) [] []) [] 0),d_1)
instance IF (n:Nat) (Um:ac) (d_1:ao):∀ (r:ac×ao),HP (fA n Um d_1=some r) Tryz.prog 34 [.agg (ac.cs Um),.agg (ao.cs d_1)] (.tuple [.p (.agg (ac.cs r.1)),.p (.agg (ao.cs r.2))]):=by
 refine hP good Tryz.func34 Z Z λ r h0 _ w0=>?_;unfold fA at h0;exact J0
def dZ (Pn:ar):Option (ao×ar) :=if 4096<(Pn.Gw.length:Int) then ck (inR (Pn.fat+Pn.E'))<|some ((ao.mk 3 (Pn.fat+Pn.E') ([]:Bk)),(ar.mk Pn.fs Pn.fat Pn.fi Pn.E' Pn.Gw Pn.B' Pn.IN))else some ((ao.mk 0 0 ([]:Bk)),(ar.mk Pn.fs Pn.fat Pn.fi Pn.E' Pn.Gw Pn.B' Pn.IN))
instance yY (Pn:ar):∀ (r:ao×ar),HO (dZ Pn=some r) Tryz.prog 76 [.ptr 1000000 0] [(1000000,[.p (eS Pn.fs),.p (eI Pn.fat),.p (eI Pn.fi),.p (eI Pn.E'),.p (eS Pn.Gw),.vec 900000 11 0 (Pn.B'.map ak),.p (eB Pn.IN)])] (.p (.agg (ao.cs r.1))) ([(1000000,[.p (eS r.2.fs),.p (eI r.2.fat),.p (eI r.2.fi),.p (eI r.2.E'),.p (eS r.2.Gw),.vec 2000000 11 0 (r.2.B'.map ak),.p (eB r.2.IN)])]):=by
 refine hO good [800000] [1000000] Tryz.func76 Z Z λ r h0 _ w0 F=>?_;unfold dZ at h0;refine nx 11 Z (oLs Z ?_);refine nx 2 Z (fD [8] h0 Z (λ c1 h0=>?_) λ c1 h0=>?_)
 ·refine nx 2 Z (cc' h0 λ Wz h0=>?_);refine mG ID (mSq ⟨1,[10],(λ _=>.none),(λ _=>[(0,.ptr 1000000 0),(2,.ptr 2 0)]),(ob2 ([(2,kr),(1000000,[.p (eS Pn.fs),.p (eI Pn.fat),.p (eI Pn.fi),.p (eI Pn.E'),.p (eS Pn.Gw),.vec 900000 11 0 (Pn.B'.map ak),.p (eB Pn.IN)])]) (2,[.p (eI 3),.p (eI (Pn.fat+Pn.E')),.p (eS ([]:Bk))]))⟩ Z ?_);refine dPc (.ptr 1000000 0) Z (dPc (.ptr 1000000 0) Z ?_);refine dPc (.ptr 1000000 1) Z (dPc (.p (eI Pn.fat)) Z ?_);refine dPc (.ptr 1000000 0) Z (dPc (.ptr 1000000 0) Z ?_);refine dPc (.ptr 1000000 3) Z (dPc (.p (eI Pn.E')) Z ?_);refine dO (.p (eI (Pn.fat+Pn.E'))) [12,16] Z (λ _ sl Sk K hK=>ap Z (fM Z Z Z (Sk _ _ Z) (Sk _ _ Z) Z Wz hK)) (dPc (.p (.agg [eI 3,eI (Pn.fat+Pn.E'),eS ([]:Bk)])) Z ?_);refine dS Z (eT ?_);exact nx 2 Z C4
 exact nx 8 Z C4
def eP (Pn:ar):Option ar :=(if Pn.E'<Pn.fi then ck (inR (Pn.fat+Pn.E'))<|(gV (am.mk 3 0 Pn.Gw [] []) (Pn.fat+Pn.E')).bind λ r3=>ck ((Pn.B'.length+1)*160<=140737488355328)<|some (Pn.B'++[r3])else some Pn.B').bind λ f6=>some (ar.mk Pn.fs Pn.fat Pn.fi Pn.E' ([]:Bk) f6 Pn.IN)
instance yJ (Pn:ar):∀ (r:ar),HO (eP Pn=some r) Tryz.prog 40 [.ptr 1000000 0] [(1000000,[.p (eS Pn.fs),.p (eI Pn.fat),.p (eI Pn.fi),.p (eI Pn.E'),.p (eS Pn.Gw),.vec 900000 11 0 (Pn.B'.map ak),.p (eB Pn.IN)])] (.tuple []) ([(1000000,[.p (eS r.fs),.p (eI r.fat),.p (eI r.fi),.p (eI r.E'),.p (eS r.Gw),.vec 2000000 11 0 (r.B'.map ak),.p (eB r.IN)])]):=by
 refine hO good [800000] [1000000] Tryz.func40 Z Z λ r h0 _ w0 F=>?_;unfold eP at h0;refine nx 1 Z (bd h0 λ o8 h1 h0=>?_);refine kN o8 (λ v9=>⟨[(0,.ptr 1000000 0)],[(1000000,[.p (eS Pn.fs),.p (eI Pn.fat),.p (eI Pn.fi),.p (eI Pn.E'),.p (eS Pn.Gw),.vec 900000 11 0 (v9.map ak),.p (eB Pn.IN)])]⟩) ?_ ?_
 ·exact nx 7 Z (M7 (oi h0) (bm (cb 900000 800000 Z Z Z Z Z) (aU _)) Z Z Z Z (sr) ⟨⟨_,Z,⟨sr,sr,sr,sr,sr,sr,sr,trivial⟩⟩,trivial⟩)
 refine nx 1 Z (mD [(0,.ptr 1000000 0)] Z ⟨Z,trivial⟩ Z ?_);refine dR 9 Z (dE Z ?_);refine nx 1 Z (fD [10] h1 Z (λ c1 h1=>?_) λ c1 h1=>?_)
 ·refine nx 1 Z (cc' h1 λ Wz h1=>?_);refine bd h1 λ r3 e4 h1=>cc' h1 λ hk5 h1=>mG (gE (t:=⟨[(0,.ptr 1000000 0)],[(1000000,[.p (eS Pn.fs),.p (eI Pn.fat),.p (eI Pn.fi),.p (eI Pn.E'),.p (eS Pn.Gw),.vec 900000 11 0 (Pn.B'.map ak),.p (eB Pn.IN)])]⟩) Z Z) (mSP ⟨3,[21,23,26],(by4 (.some λ i=>Nat.beq i 900000||Nat.beq i 32) (.fn (upP 32 11 (.agg (ac.cs r3)))) .none .none),(λ _=>[(0,.ptr 1000000 0)]),(by4 ([(1000000,[.p (eS Pn.fs),.p (eI Pn.fat),.p (eI Pn.fi),.p (eI Pn.E'),.p (eS Pn.Gw),.vec 900000 11 0 (Pn.B'.map ak),.p (eB Pn.IN)])]) ([(1000000,((ar.cs Pn).map .p))]) ([(1000000,((ar.cs Pn).map .p))]) ([(1000000,[.p (eS Pn.fs),.p (eI Pn.fat),.p (eI Pn.fi),.p (eI Pn.E'),.p (eS Pn.Gw),.vec 32 11 0 (Pn.B'.map ak++[.agg (ac.cs r3)]),.p (eB Pn.IN)]),(1000000,((ar.cs Pn).map .p))]))⟩ ⟨3,[21,26,23],(by4 (.some λ i=>Nat.beq i 900000||Nat.beq i 32) .none (.fn (upP 32 11 (.agg (ac.cs r3)))) .none),(λ _=>[(0,.ptr 1000000 0)]),(by4 ([(1000000,[.p (eS Pn.fs),.p (eI Pn.fat),.p (eI Pn.fi),.p (eI Pn.E'),.p (eS Pn.Gw),.vec 900000 11 0 (Pn.B'.map ak),.p (eB Pn.IN)])]) ([(1000000,((ar.cs Pn).map .p))]) ([(1000000,[.p (eS Pn.fs),.p (eI Pn.fat),.p (eI Pn.fi),.p (eI Pn.E'),.p (eS Pn.Gw),.vecp 32 11 0 (Pn.B'.map ak),.p (eB Pn.IN)]),(1000000,((ar.cs Pn).map .p))]) ([(1000000,[.p (eS Pn.fs),.p (eI Pn.fat),.p (eI Pn.fi),.p (eI Pn.E'),.p (eS Pn.Gw),.vec 32 11 0 (Pn.B'.map ak++[.agg (ac.cs r3)]),.p (eB Pn.IN)]),(1000000,((ar.cs Pn).map .p))]))⟩ Z Z Z Z Z Z Z ⟨Z,trivial⟩ Z (lt3 ⟨Z,trivial⟩ ⟨Z,trivial⟩ ⟨Z,trivial⟩) (lt3 ⟨Z,trivial⟩ ⟨Z,trivial⟩ ⟨Z,trivial⟩) Z Z Z Z Z ?_);refine dPc (.ptr 1000000 0) Z (dPc (.ptr 1000000 0) Z ?_);refine dPc (.ptr 1000000 5) Z (dP (by4 (.vec 900000 11 0 (Pn.B'.map ak)) (.p (eL ak Pn.B')) (.p (eL ak Pn.B')) (.p (eL ak Pn.B'))) Z ?_);refine dPc (.ptr 1000000 0) Z (dPc (.ptr 1000000 0) Z ?_);refine dPc (.ptr 1000000 4) Z (dPc (.p (eS Pn.Gw)) Z ?_);refine dPc (.p (.agg [eI 3,eI 0,eS Pn.Gw,.val (.slice none 0 0),.val (.slice none 0 0)])) Z (dPc (.ptr 1000000 0) Z ?_);refine dPc (.ptr 1000000 0) Z (dPc (.ptr 1000000 1) Z ?_);refine dPc (.p (eI Pn.fat)) Z (dPc (.ptr 1000000 0) Z ?_);refine dPc (.ptr 1000000 0) Z (dPc (.ptr 1000000 3) Z ?_);refine dPc (.p (eI Pn.E')) Z (dO (.p (eI (Pn.fat+Pn.E'))) [23,27] Z (λ _ sl Sk K hK=>ap Z (fM Z Z Z (Sk _ _ Z) (Sk _ _ Z) Z Wz hK)) ?_);refine dO (.p (.agg (ac.cs r3))) [19,28] Z (λ _ sl Sk K hK=>ap Z (cW (HP.c e4) Z Z Z (aE (Sk _ _ Z) (aE (Sk _ _ Z) bz)) ⟨lh ⟨.inl Z,.inl Z,.inl Z,.inr ⟨Z,Z⟩,.inr ⟨Z,Z⟩,trivial⟩,sr,trivial⟩ Tryz.call39 Z hK)) (dO (.p (eI (Pn.B'.length:Int))) [14] Z (λ _ sl Sk K hK=>ap Z (nR (f:=ak) (l:=Pn.B') Z Z Z Z Z (Sk _ _ Z) Z hK)) ?_);refine dO (.p (eL (λ x:PV=>x) [.agg rU])) [] Z (λ _ sl Sk K hK=>ap Z (aK (λ x:PV=>x) [.agg rU] Z Z Z Z Z Z (cU Z Z d5) Z Z Z Z Z Z Z hK)) (dI (by4 (.vecp 32 11 0 (Pn.B'.map ak)) (.vecp 32 11 0 (Pn.B'.map ak)) (.vec 32 11 0 (Pn.B'.map ak++[.agg (ac.cs r3)])) (.vec 32 11 0 (Pn.B'.map ak++[.agg (ac.cs r3)]))) [14,31] Z (λ sl Sk K hK=>ap Z (rj ak Pn.B' Z Z Z Z Z Z Z Z (Sk _ _ Z) Z Z (Sk _ _ Z) Z Z Z Z Z hk5 hK)) ?_);refine rt (by4 (.elp 32 11) (.elp 32 11) .undef .undef) Z Z Z (F4 Z Z Z Y) (lt3 (nl Z) Y Y) (iW Z (iW Z (hQ [(30,_),(32,_)] ⟨.inr ⟨19,_,Z,Z,Z⟩,.inr ⟨21,_,Z,Z,Z⟩,trivial⟩ (λ sl Sk K hK=>ap Z (qu Z Z Z Z Z Z Z (Sk _ _ Z) (Sk _ _ Z) sy hK)) (iW Z lA)))) (lZ [(29,_),(33,_)] Z ⟨.inr ⟨18,_,Z,Z,Z⟩,.inr ⟨22,_,Z,Z,Z⟩,trivial⟩ Z (λ sl Sk K hK=>ap Z (xp (z:=.agg (ac.cs r3)) Z Z Z Z (Sk _ _ Z) (Sk _ _ Z) Z Z Z Z Z hK)) ?_);refine dPc (.ptr 1000000 0) Z (dPc (.ptr 1000000 5) Z ?_);refine dS Z (xL (dPc (.ptr 1000000 0) Z (dPc (.ptr 1000000 0) Z (dPc (.ptr 1000000 5) Z (dP (by4 (.vec 900000 11 0 (Pn.B'.map ak)) (.p (eL ak Pn.B')) (.p (eL ak Pn.B')) (.p (eL ak Pn.B'))) Z (dPc (.ptr 1000000 0) Z (dPc (.ptr 1000000 0) Z (dPc (.ptr 1000000 4) Z (dPc (.p (eS Pn.Gw)) Z (dPc (.p (.agg [eI 3,eI 0,eS Pn.Gw,.val (.slice none 0 0),.val (.slice none 0 0)])) Z (dPc (.ptr 1000000 0) Z (dPc (.ptr 1000000 0) Z (dPc (.ptr 1000000 1) Z (dPc (.p (eI Pn.fat)) Z (dPc (.ptr 1000000 0) Z (dPc (.ptr 1000000 0) Z (dPc (.ptr 1000000 3) Z (dPc (.p (eI Pn.E')) Z (dO (.p (eI (Pn.fat+Pn.E'))) [23,27] Z (λ _ sl Sk K hK=>ap Z (fM Z Z Z (Sk _ _ Z) (Sk _ _ Z) Z Wz hK)) (dO (.p (.agg (ac.cs r3))) [19,28] Z (λ _ sl Sk K hK=>ap Z (cW (HP.c e4) Z Z Z (aE (Sk _ _ Z) (aE (Sk _ _ Z) bz)) ⟨lh ⟨.inl Z,.inl Z,.inl Z,.inr ⟨Z,Z⟩,.inr ⟨Z,Z⟩,trivial⟩,sr,trivial⟩ Tryz.call39 Z hK)) (dO (.p (eI (Pn.B'.length:Int))) [14] Z (λ _ sl Sk K hK=>ap Z (nR (f:=ak) (l:=Pn.B') Z Z Z Z Z (Sk _ _ Z) Z hK)) (dO (.p (eL (λ x:PV=>x) [.agg rU])) [] Z (λ _ sl Sk K hK=>ap Z (aK (λ x:PV=>x) [.agg rU] Z Z Z Z Z Z (cU Z Z d5) Z Z Z Z Z Z Z hK)) (dI (by4 (.vecp 32 11 0 (Pn.B'.map ak)) (.vecp 32 11 0 (Pn.B'.map ak)) (.vecp 32 11 0 (Pn.B'.map ak)) (.vec 32 11 0 (Pn.B'.map ak++[.agg (ac.cs r3)]))) [14,31] Z (λ sl Sk K hK=>ap Z (rj ak Pn.B' Z Z Z Z Z Z Z Z (Sk _ _ Z) Z Z (Sk _ _ Z) Z Z Z Z Z hk5 hK)) (rt (by4 (.elp 32 11) (.elp 32 11) (.elp 32 11) .undef) Z Z Z (F4 Z Z Z Y) (lt3 (nl Z) Y Y) (iW Z (hQ [(30,_),(32,_)] ⟨.inr ⟨19,_,Z,Z,Z⟩,.inr ⟨21,_,Z,Z,Z⟩,trivial⟩ (λ sl Sk K hK=>ap Z (qu Z Z Z Z Z Z Z (Sk _ _ Z) (Sk _ _ Z) sy hK)) (hQ [(30,_),(32,_)] ⟨.inr ⟨19,_,Z,Z,Z⟩,.inr ⟨21,_,Z,Z,Z⟩,trivial⟩ (λ sl Sk K hK=>ap Z (qu Z Z Z Z Z Z Z (Sk _ _ Z) (Sk _ _ Z) sy hK)) (iW Z lA)))) (lZ [(29,_),(33,_)] Z ⟨.inr ⟨18,_,Z,Z,Z⟩,.inr ⟨22,_,Z,Z,Z⟩,trivial⟩ Z (λ sl Sk K hK=>ap Z (xp (z:=.agg (ac.cs r3)) Z Z Z Z (Sk _ _ Z) (Sk _ _ Z) Z Z Z Z Z hK)) (dPc (.ptr 1000000 0) Z (dPc (.ptr 1000000 5) Z (dS Z (Ds Z ⟨Z,Z,trivial⟩ ⟨⟨Z,Z,.inr Z⟩,⟨⟨Z,Z,.inr Z⟩,⟨⟨Z,Z,.inr Z⟩,⟨⟨Z,Z,.inr Z⟩,⟨⟨Z,Z,.inr Z⟩,⟨⟨Z,Z,.inr Z⟩,⟨⟨Z,Z,.inr Z⟩,⟨⟨Z,Z,.inr Z⟩,⟨⟨Z,Z,.inr Z⟩,⟨⟨Z,Z,.inr Z⟩,⟨⟨Z,Z,.inr Z⟩,⟨⟨Z,Z,.inr Z⟩,⟨⟨Z,Z,.inr Z⟩,⟨⟨Z,Z,.inr Z⟩,⟨⟨Z,Z,.inr Z⟩,⟨⟨Z,Z,.inr Z⟩,⟨⟨Z,Z,.inr Z⟩,⟨⟨Z,Z,.inr Z⟩,⟨⟨Z,Z,.inr Z⟩,⟨⟨Z,Z,.inr Z⟩,⟨⟨Z,Z,.inr Z⟩,⟨⟨Z,Z,.inr Z⟩,⟨⟨Z,Z,.inr Z⟩,⟨⟨Z,Z,.inr Z⟩,⟨⟨Z,Z,.inr Z⟩,trivial⟩⟩⟩⟩⟩⟩⟩⟩⟩⟩⟩⟩⟩⟩⟩⟩⟩⟩⟩⟩⟩⟩⟩⟩⟩)))))))))))))))))))))))))))) ?_);refine mG (d3 (t:=⟨[(0,.ptr 1000000 0)],[(1000000,[.p (eS Pn.fs),.p (eI Pn.fat),.p (eI Pn.fi),.p (eI Pn.E'),.p (eS Pn.Gw),.vec 32 11 0 ((Pn.B'++[r3]).map ak),.p (eB Pn.IN)])]⟩) (ma ⟨er Z,trivial⟩ ⟨⟨_,Z,⟨sr,sr,sr,sr,sr,AV.sub_of_eq Hf,sr,trivial⟩⟩,trivial⟩)) (nx 1 Z ?_);exact eX _ (oi h1).symm (bm (cb 32 900000 Z Z Z Z Z) (gE Z Z))
 exact az
def dW (VG:Bk->Int->Option Int)(Mr:Bk):Nat->Int->Int->Option (Unit⊕Int)|0,_,_=>none|m+1,i18,depth19=>if i18<(Mr.length:Int) then ck ((0:Int)<=i18/\i18<(Mr.length:Int))<|jn (if byt Mr i18=123 then ck (inR (depth19+1))<|some (.inl (i18,depth19+1))else if byt Mr i18=125 then ck (inR (depth19-1))<|if depth19-1=0 then some (.inr (.inr i18))else some (.inl (i18,depth19-1))else if byt Mr i18=34 then ck (inR (i18+1))<|(VG Mr (i18+1)).bind λ YQ=>if YQ<0 then some (.inr (.inr (-1)))else some (.inl (YQ,depth19))else some (.inl (i18,depth19)) : Option ((Int×Int)⊕(Unit⊕Int))) λ q38=>ck (inR (q38.1+1))<|dW VG Mr m (q38.1+1) q38.2 else some (.inl ())
def eC (Vu:Bk->Int->Option Int)(Mr:Bk):Nat->Int->Option (Unit⊕Int)|0,_=>none|m+1,i23=>if i23<(Mr.length:Int) then jn (ck ((0:Int)<=i23/\i23<(Mr.length:Int))<|if byt Mr i23=34 then some (.inr (.inr i23))else ck ((0:Int)<=i23/\i23<(Mr.length:Int))<|if byt Mr i23=92 then ck (inR (i23+1))<|some (.inl (i23+1))else ck ((0:Int)<=i23/\i23<=(Mr.length:Int)/\(Mr.length:Int)<=(Mr.length:Int))<|(strings_HasPrefix (sub Mr i23 (Mr.length:Int)) ([36,36,123]:Bk)).bind λ XG=>if XG=true then ck (inR (i23+2))<|some (.inl (i23+2))else ck ((0:Int)<=i23/\i23<=(Mr.length:Int)/\(Mr.length:Int)<=(Mr.length:Int))<|(strings_HasPrefix (sub Mr i23 (Mr.length:Int)) ([36,123]:Bk)).bind λ Y2=>if Y2=true then ck (inR (i23+2))<|(Vu Mr (i23+2)).bind λ Yo=>if Yo<0 then some (.inr (.inr (-1)))else some (.inl Yo)else some (.inl i23) : Option (Int⊕(Unit⊕Int))) λ i43=>ck (inR (i43+1))<|eC Vu Mr m (i43+1)else some (.inl ())
mutual
def dU:Nat->Bk->Int->Option Int|0,_,_=>none|n+1,Mr,Uf=>jn (dW (gk n) Mr n Uf 1) λ _ZP=>some (-1)
def gk:Nat->Bk->Int->Option Int|0,_,_=>none|n+1,Mr,Uf=>jn (eC (dU n) Mr n Uf) λ _WF=>some (-1)
end
theorem ti (n:Nat):uE (dU n) 124/\uE (gk n) 156:=by
 induction n with
 | zero=>exact Zr
 | succ n ih=>
 obtain ⟨_,_⟩:=ih;refine ⟨?_,?_⟩
 ·refine λ Mr Uf=>hP good Tryz.func124 Z Z λ r h0 _ w0=>?_;rw [dU] at h0;refine nx 10 rfl ?_;obtain ⟨o39,h1,UV,hR0⟩:=bo h0;refine kEx 0 (λ v40:Unit=>o39=.inl v40) (λ v40=>⟨[],[]⟩) (λ v40 hv=>?_) ?_
  ·exact fR
  refine lG (λ (q41:Int×Int)=>⟨[(0,.p (eS Mr)),(1,.p (eI q41.1)),(5,.p (eI q41.2))],[]⟩) (λ m (q41:Int×Int)=>dW (gk n) Mr m q41.1 q41.2) Y (Uf,1) h1 (gE rfl rfl) ?_;rintro m ⟨i18,depth19⟩ h1;replace h1:dW (gk n) Mr (m+1) i18 depth19=some o39:=h1;rw [dW] at h1;refine nx 5 rfl (oLs rfl ?_);refine nx 2 rfl (fD [9] h1 rfl (λ c20 h1=>?_) λ c20 h1=>?_)
  ·refine nx 8 rfl (oI h1 rfl λ Wp h1=>?_);refine nx 1 rfl ?_;obtain ⟨YS,h2,hL1,hR1⟩:=bo h1;refine kX (λ Xk:Int×Int=>YS=.inl Xk) (λ Xk=>⟨[(0,.p (eS Mr)),(1,.p (eI Xk.1)),(5,.p (eI Xk.2))],[]⟩) (λ Xk hv=>?_) ?_
   ·have h1:=hL1 _ hv;exact az
   exact bP
  exact az
 ·refine λ Mr Uf=>hP good Tryz.func156 Z Z λ r h0 _ w0=>?_;rw [gk] at h0;refine nx 6 rfl ?_;obtain ⟨ZQ,h1,UV,hR0⟩:=bo h0;refine kEx 0 (λ Ym:Unit=>ZQ=.inl Ym) (λ Ym=>⟨[],[]⟩) (λ Ym hv=>?_) ?_
  ·exact fR
  refine lG (λ (Y5:Int)=>⟨[(0,.p (eS Mr)),(1,.p (eI Y5))],[]⟩) (λ m (Y5:Int)=>eC (dU n) Mr m Y5) Y Uf h1 (gE rfl rfl) ?_;rintro m i23 h1;replace h1:eC (dU n) Mr (m+1) i23=some ZQ:=h1;rw [eC] at h1;refine nx 5 rfl (oLs rfl ?_);refine nx 2 rfl (fD [8] h1 rfl (λ Yk h1=>?_) λ Yk h1=>?_)
  ·refine nx 4 rfl ?_;obtain ⟨o51,h2,hL1,hR1⟩:=bo h1;refine kX (λ YW:Int=>o51=.inl YW) (λ YW=>⟨[(0,.p (eS Mr)),(1,.p (eI YW))],[]⟩) (λ YW hv=>?_) ?_
   ·have h1:=hL1 _ hv;exact az
   exact bP
  exact az
instance Gm (n:Nat):uE (dU n) 124:=(ti n).1
def ca (Mr:Bk):Nat->Int->Option Int|0,_=>none|m+1,n10=>(if n10<(Mr.length:Int) then if n10<6 then ck ((0:Int)<=n10/\n10<(Mr.length:Int))<|(strings_IndexByte ([48,49,50,51,52,53,54,55,56,57,97,98,99,100,101,102]:Bk) (byt Mr n10)).bind λ Xs=>some (decide (0<=Xs))else some false else some false).bind λ Vl=>if Vl=true then ck (inR (n10+1))<|ca Mr m (n10+1)else some n10
def ir (n:Nat)(Mr:Bk):Option Int :=(ca Mr n 0).bind λ n20=>some n20
instance A2 (n:Nat) (Mr:Bk):∀ (r:Int),HP (ir n Mr=some r) Tryz.prog 157 [eS Mr] (.p (eI r)):=by
 refine hP good Tryz.func157 Z Z λ r h0 _ w0=>?_;unfold ir at h0;refine nx 10 Z (bd h0 λ Xz h1 h0=>?_);refine kE 0 Xz (λ XT=>⟨[(3,.p (eI XT))],[]⟩) ?_ ?_
 ·exact J0
 refine lG (λ (q25:Int)=>⟨[(0,.p (eS Mr)),(3,.p (eI q25))],[]⟩) (λ m (q25:Int)=>ca Mr m q25) Y 0 h1 (gE rfl rfl) ?_;rintro m n10 h1;replace h1:ca Mr (m+1) n10=some Xz:=h1;rw [ca] at h1;have:=js [200];have:=jS 200 Bool λ v=>[(18,.p (eB v))]
 exact az
def lE (n:Nat)(Mr:Bk):Option (Bk×Int×Int) :=jn ((strings_HasPrefix Mr ([92,117]:Bk)).bind λ r1=>if r1=true then(if 2<(Mr.length:Int) then ck ((0:Int)<=2/\2<(Mr.length:Int))<|some (!decide (byt Mr 2=123))else some false).bind λ t6=>if t6=true then some (.inr (([]:Bk),0,2))else if 3<(Mr.length:Int) then ck ((0:Int)<=3/\3<=(Mr.length:Int)/\(Mr.length:Int)<=(Mr.length:Int))<|(ir n (sub Mr 3 (Mr.length:Int))).bind λ UN=>ck (inR (4+UN))<|some (.inl (4+UN))else some (.inl 4)else some (.inl 2) : Option (Int⊕(Bk×Int×Int))) λ n13=>if (Mr.length:Int)<n13 then some (([]:Bk),0,40)else ck ((0:Int)<=0/\0<=n13/\n13<=(Mr.length:Int))<|ck (([34]:Bk).length+(sub Mr 0 n13).length<=9223372036854775807)<|ck ((([34]:Bk)++(sub Mr 0 n13)).length+([34]:Bk).length<=9223372036854775807)<|(ii n ((([34]:Bk)++(sub Mr 0 n13))++([34]:Bk))).bind λ Vx=>if Vx.2.2=0 then some (Vx.1,n13,0)else some (([]:Bk),0,2)
instance GO (n:Nat) (Mr:Bk):∀ (r:Bk×Int×Int),HP (lE n Mr=some r) Tryz.prog 125 [eS Mr] (.tuple [.p (eS r.1),.p (eI r.2.1),.p (eI r.2.2)]):=by
 refine hP good Tryz.func125 Z Z λ r h0 _ w0=>?_;unfold lE at h0;refine nx 11 rfl ?_;obtain ⟨Xz,h1,UV,hR0⟩:=bo h0;refine kX (λ XT:Int=>Xz=.inl XT) (λ XT=>⟨[(0,.p (eS Mr)),(5,.p (eI XT))],[]⟩) (λ XT hv=>?_) ?_
 ·exact fR
 have:=js [300];have:=jS 300 Bool λ v=>[(18,.p (eB v))]
 exact az
def gC (n:Nat)(Pn:ar):Option (ao×ar) :=ck ((0:Int)<=Pn.fi/\Pn.fi<=(Pn.fs.length:Int)/\(Pn.fs.length:Int)<=(Pn.fs.length:Int))<|jn (ck ((0:Int)<=0/\0<((sub Pn.fs Pn.fi (Pn.fs.length:Int)).length:Int))<|if byt (sub Pn.fs Pn.fi (Pn.fs.length:Int)) 0=92 then(lE n (sub Pn.fs Pn.fi (Pn.fs.length:Int))).bind λ r4=>if r4.2.2=0 then ck (Pn.Gw.length+r4.1.length<=9223372036854775807)<|ck (inR (Pn.fi+r4.2.1))<|some (.inl (Pn.fi+r4.2.1,Pn.Gw++r4.1))else ck (inR (Pn.fat+Pn.fi))<|some (.inr ((ao.mk r4.2.2 (Pn.fat+Pn.fi) ([]:Bk)),(ar.mk Pn.fs Pn.fat Pn.fi Pn.E' Pn.Gw Pn.B' Pn.IN)))else(bn (sub Pn.fs Pn.fi (Pn.fs.length:Int))).bind λ UN=>(if UN.1=65533 then if UN.2=1 then some true else if UN.1<32 then some true else if UN.1=127 then some true else some (decide (UN.1=34))else if UN.1<32 then some true else if UN.1=127 then some true else some (decide (UN.1=34))).bind λ Xl=>if Xl=true then ck (inR (Pn.fat+Pn.fi))<|some (.inr ((ao.mk 2 (Pn.fat+Pn.fi) ([]:Bk)),(ar.mk Pn.fs Pn.fat Pn.fi Pn.E' Pn.Gw Pn.B' Pn.IN)))else ck ((0:Int)<=0/\0<=UN.2/\UN.2<=((sub Pn.fs Pn.fi (Pn.fs.length:Int)).length:Int))<|ck (Pn.Gw.length+(sub (sub Pn.fs Pn.fi (Pn.fs.length:Int)) 0 UN.2).length<=9223372036854775807)<|ck (inR (Pn.fi+UN.2))<|some (.inl (Pn.fi+UN.2,Pn.Gw++(sub (sub Pn.fs Pn.fi (Pn.fs.length:Int)) 0 UN.2))) : Option ((Int×Bk)⊕(ao×ar))) λ q28=>(dZ (ar.mk Pn.fs Pn.fat q28.1 Pn.E' q28.2 Pn.B' Pn.IN)).bind λ Ve=>some (Ve.1,(ar.mk Ve.2.fs Ve.2.fat Ve.2.fi Ve.2.E' Ve.2.Gw Ve.2.B' Ve.2.IN))
instance yZ (n:Nat) (Pn:ar):∀ (r:ao×ar),HO (gC n Pn=some r) Tryz.prog 78 [.ptr 1000000 0] [(1000000,[.p (eS Pn.fs),.p (eI Pn.fat),.p (eI Pn.fi),.p (eI Pn.E'),.p (eS Pn.Gw),.vec 900000 11 0 (Pn.B'.map ak),.p (eB Pn.IN)])] (.p (.agg (ao.cs r.1))) ([(1000000,[.p (eS r.2.fs),.p (eI r.2.fat),.p (eI r.2.fi),.p (eI r.2.E'),.p (eS r.2.Gw),.vec 2000000 11 0 (r.2.B'.map ak),.p (eB r.2.IN)])]):=by
 refine hO good [800000] [1000000] Tryz.func78 Z Z λ r h0 _ w0 F=>?_;unfold gC at h0;refine nx 5 rfl (cc' h0 λ YG h0=>?_);refine mD [(0,.ptr 1000000 0),(2,.ptr 2 0)] rfl ⟨rfl,rfl,trivial⟩ rfl (dR 8 rfl ?_);refine dq (.p (eS (sub Pn.fs Pn.fi (Pn.fs.length:Int)))) [12,16] rfl (λ _ e _ q=>ap rfl (fH (a:=Pn.fs) (l:=Pn.fi) (h:=(Pn.fs.length:Int)) Z Z Z Z Z (e _ _ rfl) pZ rfl YG q)) rfl (dR 1 rfl ?_);refine dE rfl (nx 2 rfl ?_);obtain ⟨ZA,h1,UV,hR0⟩:=bo h0;refine kX (λ Yn:Int×Bk=>ZA=.inl Yn) (λ Yn=>⟨[(0,.ptr 1000000 0),(2,.ptr 2 0)],[(2,kr),(1000000,[.p (eS Pn.fs),.p (eI Pn.fat),.p (eI Yn.1),.p (eI Pn.E'),.p (eS Yn.2),.vec 900000 11 0 (Pn.B'.map ak),.p (eB Pn.IN)])]⟩) (λ Yn hv=>?_) ?_
 ·have h0:=UV _ hv;refine nx 4 Z (bd h0 λ Ve e27 h0=>?_);refine mO Z (cVq [1000000] [900000] 101000 101001 (HO.c e27) Tryz.call76 Z ?_);exact nx 3 Z Dp
 refine nx 3 Z (oI h1 Z λ Wz h1=>?_);refine nx 2 Z (fD [20] h1 Z (λ c3 h1=>?_) λ c3 h1=>?_)
 ·refine nx 4 Z (K1 λ r4 h1=>nx 14 Z ?_);refine fN [28] h1 Z (λ c6 h1=>?_) λ c6 h1=>?_
  ·exact az
  refine nx 2 Z (cc' h1 λ Yp h1=>?_);refine mG (gE (t:=⟨[(0,.ptr 1000000 0),(2,.ptr 2 0),(6,.p (eI r4.2.2))],[(2,kr),(1000000,[.p (eS Pn.fs),.p (eI Pn.fat),.p (eI Pn.fi),.p (eI Pn.E'),.p (eS Pn.Gw),.vec 900000 11 0 (Pn.B'.map ak),.p (eB Pn.IN)])]⟩) Z Z) (mSq ⟨1,[11],(λ _=>.none),(λ _=>[(0,.ptr 1000000 0),(2,.ptr 2 0),(6,.p (eI r4.2.2))]),(ob2 ([(2,kr),(1000000,[.p (eS Pn.fs),.p (eI Pn.fat),.p (eI Pn.fi),.p (eI Pn.E'),.p (eS Pn.Gw),.vec 900000 11 0 (Pn.B'.map ak),.p (eB Pn.IN)])]) (2,[.p (eI r4.2.2),.p (eI (Pn.fat+Pn.fi)),.p (eS ([]:Bk))]))⟩ Z ?_);refine dPc (.p (eI r4.2.2)) Z (dPc (.ptr 1000000 0) Z ?_);refine dPc (.ptr 1000000 0) Z (dPc (.ptr 1000000 1) Z ?_);refine dPc (.p (eI Pn.fat)) Z (dPc (.ptr 1000000 0) Z ?_);refine dPc (.ptr 1000000 0) Z (dPc (.ptr 1000000 2) Z ?_);refine dPc (.p (eI Pn.fi)) Z (dO (.p (eI (Pn.fat+Pn.fi))) [33,37] Z (λ _ sl Sk K hK=>ap Z (fM Z Z Z (Sk _ _ Z) (Sk _ _ Z) Z Yp hK)) ?_);refine dPc (.p (.agg [eI r4.2.2,eI (Pn.fat+Pn.fi),eS ([]:Bk)])) Z (dS Z ?_);refine eT (nx 2 Z ?_);exact mQo (hR0 _ (oi h1).symm) (bm (cb 900000 800000 Z Z Z Z Z) (aU _)) Z Z Z Z (sr) ⟨⟨_,Z,⟨sr,sr,sr,sr,sr,sr,sr,trivial⟩⟩,trivial⟩
 refine nx 4 Z (bd h1 λ UN Zs h1=>?_);refine oK (dX (sub Pn.fs Pn.fi (Pn.fs.length:Int)) _ Zs) Z ⟨sr,trivial⟩ Tryz.call126 Z (nx 8 Z ?_);refine bd h1 λ XL h2 h1=>kN XL (λ ZE=>⟨[(0,.ptr 1000000 0),(2,.ptr 2 0),(3,.p (eS (sub Pn.fs Pn.fi (Pn.fs.length:Int)))),(8,.p (eI UN.2)),(78,.p (eB ZE))],[(2,kr),(1000000,[.p (eS Pn.fs),.p (eI Pn.fat),.p (eI Pn.fi),.p (eI Pn.E'),.p (eS Pn.Gw),.vec 900000 11 0 (Pn.B'.map ak),.p (eB Pn.IN)])]⟩) ?_ ?_
 ·refine nx 1 Z (fB [78] h1 Z (λ XP h1=>?_) λ XP h1=>?_)
  ·refine nx 2 Z (cc' h1 λ WT h1=>?_);refine mG ID (mSq ⟨1,[10],(λ _=>.none),(λ _=>[(0,.ptr 1000000 0),(2,.ptr 2 0)]),(ob2 ([(2,kr),(1000000,[.p (eS Pn.fs),.p (eI Pn.fat),.p (eI Pn.fi),.p (eI Pn.E'),.p (eS Pn.Gw),.vec 900000 11 0 (Pn.B'.map ak),.p (eB Pn.IN)])]) (2,[.p (eI 2),.p (eI (Pn.fat+Pn.fi)),.p (eS ([]:Bk))]))⟩ Z ?_);refine dPc (.ptr 1000000 0) Z (dPc (.ptr 1000000 0) Z ?_);refine dPc (.ptr 1000000 1) Z (dPc (.p (eI Pn.fat)) Z ?_);refine dPc (.ptr 1000000 0) Z (dPc (.ptr 1000000 0) Z ?_);refine dPc (.ptr 1000000 2) Z (dPc (.p (eI Pn.fi)) Z ?_);refine dO (.p (eI (Pn.fat+Pn.fi))) [82,86] Z (λ _ sl Sk K hK=>ap Z (fM Z Z Z (Sk _ _ Z) (Sk _ _ Z) Z WT hK)) (dPc (.p (.agg [eI 2,eI (Pn.fat+Pn.fi),eS ([]:Bk)])) Z ?_);refine dS Z (eT ?_);exact nx 2 Z (mQo (hR0 _ (oi h1).symm) (bm (cb 900000 800000 Z Z Z Z Z) (aU _)) Z Z Z Z (sr) ⟨⟨_,Z,⟨sr,sr,sr,sr,sr,sr,sr,trivial⟩⟩,trivial⟩)
  refine nx 3 Z (cc' h1 λ Wp h1=>?_);refine cc' h1 λ X7 h1=>mG (gE (t:=⟨[(0,.ptr 1000000 0),(2,.ptr 2 0),(3,.p (eS (sub Pn.fs Pn.fi (Pn.fs.length:Int)))),(8,.p (eI UN.2))],[(2,kr),(1000000,[.p (eS Pn.fs),.p (eI Pn.fat),.p (eI Pn.fi),.p (eI Pn.E'),.p (eS Pn.Gw),.vec 900000 11 0 (Pn.B'.map ak),.p (eB Pn.IN)])]⟩) Z Z) (mSq ⟨1,[10],(λ _=>.none),(λ _=>[(0,.ptr 1000000 0),(2,.ptr 2 0),(3,.p (eS (sub Pn.fs Pn.fi (Pn.fs.length:Int)))),(8,.p (eI UN.2))]),(ob2 ([(2,kr),(1000000,[.p (eS Pn.fs),.p (eI Pn.fat),.p (eI Pn.fi),.p (eI Pn.E'),.p (eS Pn.Gw),.vec 900000 11 0 (Pn.B'.map ak),.p (eB Pn.IN)])]) (1000000,[.p (eS Pn.fs),.p (eI Pn.fat),.p (eI Pn.fi),.p (eI Pn.E'),.p (eS (Pn.Gw++(sub (sub Pn.fs Pn.fi (Pn.fs.length:Int)) 0 UN.2))),.vec 900000 11 0 (Pn.B'.map ak),.p (eB Pn.IN)]))⟩ Z ?_);refine dPc (.ptr 1000000 0) Z (dPc (.ptr 1000000 0) Z ?_);refine dPc (.ptr 1000000 4) Z (dPc (.p (eS Pn.Gw)) Z ?_);refine dPc (.p (eS (sub Pn.fs Pn.fi (Pn.fs.length:Int)))) Z (dPc (.p (eI UN.2)) Z ?_);refine dO (.p (eS (sub (sub Pn.fs Pn.fi (Pn.fs.length:Int)) 0 UN.2))) [93,94] Z (λ _ sl Sk K hK=>ap Z (fH (a:=sub Pn.fs Pn.fi (Pn.fs.length:Int)) (l:=0) (h:=UN.2) Z Z Z Z Z (Sk _ _ Z) Z yi Wp hK)) (dO (.p (eS (Pn.Gw++(sub (sub Pn.fs Pn.fi (Pn.fs.length:Int)) 0 UN.2)))) [92,95] Z (λ _ sl Sk K hK=>ap Z (sT Z Z Z (Sk _ _ Z) (Sk _ _ Z) X7 hK)) ?_);exact az
 exact bP
def cI (n:Nat)(OF:al):Option al :=(aJ n OF).bind λ r1=>ck (inR (r1.2.H'+1))<|some (al.mk r1.2.fl r1.2.fat (r1.2.H'+1) r1.2.G' r1.2.AT)
instance AX (n:Nat) (OF:al):∀ (r:al),HO (cI n OF=some r) Tryz.prog 185 [.ptr 1000000 0] [(1000000,((al.cs OF).map .p))] (.tuple []) ([(1000000,((al.cs r).map .p))]):=by
 refine hO good [] [1000000] Tryz.func185 Z Z λ r h0 _ w0 F=>?_;unfold cI at h0;exact J0
def cw (n:Nat)(OF:al)(s_1:Bk):Option al :=(aY n OF s_1).bind λ r1=>if (!r1.1)=true then(br n r1.2).bind λ r4=>(bq r4.2 2 r4.1.fAt).bind λ r6=>some r6.2 else(aJ n r1.2).bind λ r8=>some r8.2
instance A8 (n:Nat):u9 (cw n) 103:=by
 refine λ OF s_1=>hO good [] [1000000] Tryz.func103 Z Z λ r h0 _ w0 F=>?_;unfold cw at h0;exact J0
def bC (n:Nat)(OF:al)(s_1:Bk):Option al :=(cw n OF s_1).bind λ r1=>ck (inR (r1.H'-1))<|some (al.mk r1.fl r1.fat (r1.H'-1) r1.G' r1.AT)
instance AO (n:Nat):u9 (bC n) 186:=by
 refine λ OF s_1=>hO good [] [1000000] Tryz.func186 Z Z λ r h0 _ w0 F=>?_;unfold bC at h0;exact J0
def cJ (n:Nat)(OF:al)(s_1:Bk):Option (Bool×al) :=(br n OF).bind λ r1=>((aT r1.2).bind λ r3=>if (!r3.1)=true then if r1.1.Ar=1 then some (decide (r1.1.By=s_1),r3.2.fl,r3.2.fat,r3.2.H',r3.2.G',r3.2.AT.Ar,r3.2.AT.fAt,r3.2.AT.AI)else some (false,r3.2.fl,r3.2.fat,r3.2.H',r3.2.G',r3.2.AT.Ar,r3.2.AT.fAt,r3.2.AT.AI)else some (false,r3.2.fl,r3.2.fat,r3.2.H',r3.2.G',r3.2.AT.Ar,r3.2.AT.fAt,r3.2.AT.AI)).bind λ Xo=>some (Xo.1,(al.mk Xo.2.1 Xo.2.2.1 Xo.2.2.2.1 Xo.2.2.2.2.1 (ao.mk Xo.2.2.2.2.2.1 Xo.2.2.2.2.2.2.1 Xo.2.2.2.2.2.2.2)))
instance AY (n:Nat) (OF:al) (s_1:Bk):∀ (r:Bool×al),HO (cJ n OF s_1=some r) Tryz.prog 211 [.ptr 1000000 0,.p (eS s_1)] [(1000000,((al.cs OF).map .p))] (.p (eB r.1)) ([(1000000,((al.cs r.2).map .p))]):=by
 refine hO good [] [1000000] Tryz.func211 Z Z λ r h0 _ w0 F=>?_;unfold cJ at h0;exact GR
def cC (n:Nat)(OF:al):Option (Bk×al) :=(br n OF).bind λ r1=>((aT r1.2).bind λ r3=>if r3.1=true then some (true,r3.2.fl,r3.2.fat,r3.2.H',r3.2.G',r3.2.AT.Ar,r3.2.AT.fAt,r3.2.AT.AI)else if r1.1.Ar=1 then(gr r1.1.By).bind λ r7=>some (r7,r3.2.fl,r3.2.fat,r3.2.H',r3.2.G',r3.2.AT.Ar,r3.2.AT.fAt,r3.2.AT.AI)else some (true,r3.2.fl,r3.2.fat,r3.2.H',r3.2.G',r3.2.AT.Ar,r3.2.AT.fAt,r3.2.AT.AI)).bind λ U2=>if U2.1=true then(bq (al.mk U2.2.1 U2.2.2.1 U2.2.2.2.1 U2.2.2.2.2.1 (ao.mk U2.2.2.2.2.2.1 U2.2.2.2.2.2.2.1 U2.2.2.2.2.2.2.2)) 2 r1.1.fAt).bind λ Vx=>some (([]:Bk),Vx.2)else(aJ n (al.mk U2.2.1 U2.2.2.1 U2.2.2.2.1 U2.2.2.2.2.1 (ao.mk U2.2.2.2.2.2.1 U2.2.2.2.2.2.2.1 U2.2.2.2.2.2.2.2))).bind λ Vp=>some (r1.1.By,Vp.2)
instance wV (n:Nat) (OF:al):∀ (r:Bk×al),HO (cC n OF=some r) Tryz.prog 223 [.ptr 1000000 0] [(1000000,((al.cs OF).map .p))] (.p (eS r.1)) ([(1000000,((al.cs r.2).map .p))]):=by
 refine hO good [] [1000000] Tryz.func223 Z Z λ r h0 _ w0 F=>?_;unfold cC at h0;have:=js [200];have:=jB 200 (Bool×List ab×Int×Int×Int×Int×Int×Bk) (λ v=>[(17,.p (eB v.1))]) λ v=>[(1000000,(pG v.2))]
 exact J0
def dC (n:Nat)(OF:al)(s_1:Bk):Option al :=(cJ n OF s_1).bind λ r1=>if (!r1.1)=true then(br n r1.2).bind λ r4=>(bq r4.2 2 r4.1.fAt).bind λ r6=>some r6.2 else(aJ n r1.2).bind λ r8=>some r8.2
instance yf (n:Nat):u9 (dC n) 224:=by
 refine λ OF s_1=>hO good [] [1000000] Tryz.func224 Z Z λ r h0 _ w0 F=>?_;unfold dC at h0;exact J0
def bu (n:Nat)(l_1:List Bk):Nat->Int->(List ab)->Int->Int->Int->Int->Int->Bk->Option (((List ab)×Int×Int×Int×Int×Int×Bk)⊕(Bk×Bool×al))|0,_,_,_,_,_,_,_,_=>none|m+1,t15,Zq,Yr,f18,f19,Z0,f21,ZZ=>if t15<(l_1.length:Int) then ck ((0:Int)<=t15/\t15<(l_1.length:Int))<|(aY n (al.mk Zq Yr f18 f19 (ao.mk Z0 f21 ZZ)) (lat l_1 t15)).bind λ VX=>if VX.1=true then some (.inr (lat l_1 t15,true,VX.2))else ck (inR (t15+1))<|bu n l_1 m (t15+1) VX.2.fl VX.2.fat VX.2.H' VX.2.G' VX.2.AT.Ar VX.2.AT.fAt VX.2.AT.AI else some (.inl (Zq,Yr,f18,f19,Z0,f21,ZZ))
def ey (n:Nat)(OF:al)(l_1:List Bk):Option (Bk×Bool×al) :=jn (bu n l_1 n 0 OF.fl OF.fat OF.H' OF.G' OF.AT.Ar OF.AT.fAt OF.AT.AI) λ Y8=>some (([]:Bk),false,(al.mk Y8.1 Y8.2.1 Y8.2.2.1 Y8.2.2.2.1 (ao.mk Y8.2.2.2.2.1 Y8.2.2.2.2.2.1 Y8.2.2.2.2.2.2)))
instance y9 (n:Nat) (OF:al) (l_1:List Bk):∀ (r:Bk×Bool×al),HO (ey n OF l_1=some r) Tryz.prog 140 [.ptr 1000000 0,.p (eL eS l_1)] [(1000000,((al.cs OF).map .p))] (.tuple [.p (eS r.1),.p (eB r.2.1)]) ([(1000000,((al.cs r.2.2).map .p))]):=by
 refine hO good [] [1000000] Tryz.func140 Z Z λ r h0 _ w0 F=>?_;unfold ey at h0;refine nx 9 rfl (oLl (f:=eS) Z Z ?_);refine nx 3 rfl ?_;obtain ⟨o45,h1,UV,hR0⟩:=bo h0;refine kEx 0 (λ v46:(List ab)×Int×Int×Int×Int×Int×Bk=>o45=.inl v46) (λ v46=>⟨[],[(1000000,(pG v46))]⟩) (λ v46 hv=>?_) ?_
 ·exact fR
 refine lG (λ (Wt:Int×(List ab)×Int×Int×Int×Int×Int×Bk)=>⟨[(0,.ptr 1000000 0),(8,.p (eL eS l_1)),(9,.p (eI (l_1.length:Int))),(10,.p (eI Wt.1))],[(1000000,(pG Wt.2))]⟩) (λ m (Wt:Int×(List ab)×Int×Int×Int×Int×Int×Bk)=>bu n l_1 m Wt.1 Wt.2.1 Wt.2.2.1 Wt.2.2.2.1 Wt.2.2.2.2.1 Wt.2.2.2.2.2.1 Wt.2.2.2.2.2.2.1 Wt.2.2.2.2.2.2.2) Y (0,OF.fl,OF.fat,OF.H',OF.G',OF.AT.Ar,OF.AT.fAt,OF.AT.AI) h1 (gE rfl rfl) ?_;rintro m ⟨t15,Zq,Yr,f18,f19,Z0,f21,ZZ⟩ h1;replace h1:bu n l_1 (m+1) t15 Zq Yr f18 f19 Z0 f21 ZZ=some o45:=h1;rw [bu] at h1;exact az
def kV (Uo:Int):Option (List Bk) :=if Uo=0 then some ([([124,124]:Bk)])else if Uo=1 then some ([([38,38]:Bk)])else if Uo=2 then some ([([61,61]:Bk),([33,61]:Bk)])else if Uo=3 then some ([([60]:Bk),([60,61]:Bk),([62]:Bk),([62,61]:Bk)])else if Uo=4 then some ([([43]:Bk),([45]:Bk)])else some ([([42]:Bk),([47]:Bk),([37]:Bk)])
instance EF (Uo:Int):∀ (r:(List Bk)),HP (kV Uo=some r) Tryz.prog 141 [eI Uo] (.p (eL eS r)):=by
 refine hP good Tryz.func141 Z Z λ r h0 _ w0=>?_;unfold kV at h0;refine nx 15 Z (fD [4,5] h0 Z (λ c1 h0=>?_) λ c1 h0=>?_)
 ·exact GW
 exact IC
def iH (Mr:Bk):Nat->Int->Option (Unit⊕Int)|0,_=>none|m+1,t7=>if t7<13 then ck ((0:Int)<=t7/\t7<13)<|if lat ([([124,124]:Bk),([38,38]:Bk),([61,61]:Bk),([33,61]:Bk),([60]:Bk),([60,61]:Bk),([62]:Bk),([62,61]:Bk),([43]:Bk),([45]:Bk),([42]:Bk),([47]:Bk),([37]:Bk)]:List Bk) t7=Mr then ck (inR (3+t7))<|some (.inr (3+t7))else ck (inR (t7+1))<|iH Mr m (t7+1)else some (.inl ())
def rO (n:Nat)(Mr:Bk):Option Int :=jn (iH Mr n 0) λ _q14=>some 0
instance P2 (n:Nat) (Mr:Bk):∀ (r:Int),HP (rO n Mr=some r) Tryz.prog 142 [eS Mr] (.p (eI r)):=by
 refine hP good Tryz.func142 Z Z λ r h0 _ w0=>?_;unfold rO at h0;refine nx 11 rfl ?_;obtain ⟨o15,h1,UV,hR0⟩:=bo h0;refine kEx 0 (λ v16:Unit=>o15=.inl v16) (λ v16=>⟨[],[]⟩) (λ v16 hv=>?_) ?_
 ·exact fR
 refine lG (λ (Y9:Int)=>⟨[(0,.p (eS Mr)),(5,.p (.agg [eS ([124,124]:Bk),eS ([38,38]:Bk),eS ([61,61]:Bk),eS ([33,61]:Bk),eS ([60]:Bk),eS ([60,61]:Bk),eS ([62]:Bk),eS ([62,61]:Bk),eS ([43]:Bk),eS ([45]:Bk),eS ([42]:Bk),eS ([47]:Bk),eS ([37]:Bk)])),(6,.p (eI Y9))],[]⟩) (λ m (Y9:Int)=>iH Mr m Y9) Y 0 h1 (gE rfl rfl) ?_;rintro m t7 h1;replace h1:iH Mr (m+1) t7=some o15:=h1;rw [iH] at h1;refine nx 5 rfl (fD [7] h1 rfl (λ c8 h1=>?_) λ c8 h1=>?_)
 ·refine nx 7 Z (cc' h1 λ ZC h1=>?_);refine mO Z (wO eS ([([124,124]:Bk),([38,38]:Bk),([61,61]:Bk),([33,61]:Bk),([60]:Bk),([60,61]:Bk),([62]:Bk),([62,61]:Bk),([43]:Bk),([45]:Bk),([42]:Bk),([47]:Bk),([37]:Bk)]:List Bk) Z Z Z Z Z Z Z Z Z Z Z (by have:=ZC; simp only [aq,mv]; omega) ?_);exact az
 exact az
theorem Jp (h:p:=by exact mQo (hR0 _ (hR1 _ (oi h2).symm).symm) (aU _) Z Z Z Z (sr) ⟨⟨_,Z,⟨sr,sr,sr,sr,sr,sr,sr,trivial⟩⟩,trivial⟩):p:=h
set_option maxRecDepth 4000
instance Sm:HE Tryz.prog 34:=⟨Tryz.call34⟩
instance R5:HE Tryz.prog 65:=⟨Tryz.call65⟩
instance SJ:HE Tryz.prog 33:=⟨Tryz.call33⟩
instance SR:HE Tryz.prog 139:=⟨Tryz.call139⟩
instance RQ:HE Tryz.prog 140:=⟨Tryz.call140⟩
instance Pv:HE Tryz.prog 166:=⟨Tryz.call166⟩
instance RL:HE Tryz.prog 185:=⟨Tryz.call185⟩
instance Qb:HE Tryz.prog 186:=⟨Tryz.call186⟩
instance Rw:HE Tryz.prog 196:=⟨Tryz.call196⟩
instance PI:HE Tryz.prog 197:=⟨Tryz.call197⟩
instance Pl:HE Tryz.prog 198:=⟨Tryz.call198⟩
instance Pu:HE Tryz.prog 199:=⟨Tryz.call199⟩
instance QP:HE Tryz.prog 19:=⟨Tryz.call19⟩
instance Rb:HE Tryz.prog 210:=⟨Tryz.call210⟩
instance QL:HE Tryz.prog 212:=⟨Tryz.call212⟩
instance RO:HE Tryz.prog 213:=⟨Tryz.call213⟩
instance Qg:HE Tryz.prog 223:=⟨Tryz.call223⟩
instance Rx:HE Tryz.prog 224:=⟨Tryz.call224⟩
instance Qe:HE Tryz.prog 225:=⟨Tryz.call225⟩
instance Rv:HE Tryz.prog 14:=⟨Tryz.call14⟩
abbrev kw (F:al->Option (ac×al))(k:Nat):Prop:=∀ (a0:al) (r:ac×al),HO (F a0=some r) Tryz.prog k [.ptr 1000000 0] [(1000000,((al.cs a0).map .p))] (.p (.agg (ac.cs r.1))) ([(1000000,((al.cs r.2).map .p))])
abbrev uq (F:Bk->Int->Option (ac×ao))(k:Nat):Prop:=∀ (a0:Bk) (a1:Int) (r:ac×ao),HP (F a0 a1=some r) Tryz.prog k [eS a0,eI a1] (.tuple [.p (.agg (ac.cs r.1)),.p (.agg (ao.cs r.2))])
abbrev zU (F:ar->Option (ao×ar))(k:Nat):Prop:=∀ (a0:ar) (r:ao×ar),HO (F a0=some r) Tryz.prog k [.ptr 1000000 0] [(1000000,[.p (eS a0.fs),.p (eI a0.fat),.p (eI a0.fi),.p (eI a0.E'),.p (eS a0.Gw),.vec 900000 11 0 (a0.B'.map ak),.p (eB a0.IN)])] (.p (.agg (ao.cs r.1))) ([(1000000,[.p (eS r.2.fs),.p (eI r.2.fat),.p (eI r.2.fi),.p (eI r.2.E'),.p (eS r.2.Gw),.vec 2000000 11 0 (r.2.B'.map ak),.p (eB r.2.IN)])])
abbrev Iw (v:Int×Int×Bk×Bk×Int×Int×Bk×List am×List Bk×List ac×Int):List AV:=[.p (eI v.1),.p (eI v.2.1),.p (eS v.2.2.1),.p (eS v.2.2.2.1),.p (eI v.2.2.2.2.1),.p (eI v.2.2.2.2.2.1),.p (eS v.2.2.2.2.2.2.1),.p (eL db v.2.2.2.2.2.2.2.1),.p (eL eS v.2.2.2.2.2.2.2.2.1),.p (eL ak v.2.2.2.2.2.2.2.2.2.1),.p (eI v.2.2.2.2.2.2.2.2.2.2)]
abbrev fV (v:List ab×Int×Int×Int×Int×Int×Bk):List AV:=[.p (eL aB v.1),.p (eI v.2.1),.p (eI v.2.2.1),.p (eI v.2.2.2.1),.p (eI v.2.2.2.2.1),.p (eI v.2.2.2.2.2.1),.p (eS v.2.2.2.2.2.2)]
abbrev dJ (a0 a1 a2 a3 a4:AV):List AV:=[a0,.p (eI 0),a1,a2,.p (eI 0),.p (eI 0),.p (eS ([]:Bk)),.p (.val (.slice none 0 0)),.p (.val (.slice none 0 0)),a3,a4]
abbrev oD (a0 a1 a2 a3:AV):List AV:=[a0,.p (eI 0),a1,a2,.p (eI 0),.p (eI 0),.p (eS ([]:Bk)),.p (.val (.slice none 0 0)),.p (.val (.slice none 0 0)),.p (.val (.slice none 0 0)),a3]
abbrev bB:List AV:=[.p (eI 0),.p (eI 0),.p (eS ([]:Bk)),.p (eS ([]:Bk)),.p (eI 0),.p (eI 0),.p (eS ([]:Bk)),.p (.val (.slice none 0 0)),.p (.val (.slice none 0 0)),.p (.val (.slice none 0 0)),.p (eI 0)]
abbrev pT:List PV:=[eI 0,eI 0,eS ([]:Bk),eS ([]:Bk),eI 0,eI 0,eS ([]:Bk),.val (.slice none 0 0),.val (.slice none 0 0),.val (.slice none 0 0),eI 0]
abbrev cB:List AV:=[.p (eI 0),.p (eI 0),.p (eS ([]:Bk))]
def b9 (n:Nat)(UI:ar->Option (ao×ar)):Nat->Bk->Int->Int->Int->Bk->(List ac)->Bool->Option ((Bk×Int×Int×Int×Bk×(List ac)×Bool)⊕(ao×ar))|0,_,_,_,_,_,_,_=>none|m+1,Wc,WK,Vq,Wb,WB,WJ,WI=>if Vq<(Wc.length:Int) then ck ((0:Int)<=Vq/\Vq<=(Wc.length:Int)/\(Wc.length:Int)<=(Wc.length:Int))<|((strings_HasPrefix (sub Wc Vq (Wc.length:Int)) ([36,36,123]:Bk)).bind λ W7=>if W7=true then ck (WB.length+([36,123]:Bk).length<=9223372036854775807)<|ck (inR (Vq+3))<|(dZ (ar.mk Wc WK (Vq+3) Wb (WB++([36,123]:Bk)) WJ WI)).bind λ XE=>some (XE.1.Ar,XE.1.fAt,XE.1.AI,XE.2.fs,XE.2.fat,XE.2.fi,XE.2.E',XE.2.Gw,XE.2.B',XE.2.IN)else(strings_HasPrefix (sub Wc Vq (Wc.length:Int)) ([36,123]:Bk)).bind λ Vb=>if Vb=true then(UI (ar.mk Wc WK Vq Wb WB WJ WI)).bind λ V8=>some (V8.1.Ar,V8.1.fAt,V8.1.AI,V8.2.fs,V8.2.fat,V8.2.fi,V8.2.E',V8.2.Gw,V8.2.B',V8.2.IN)else(gC n (ar.mk Wc WK Vq Wb WB WJ WI)).bind λ VR=>some (VR.1.Ar,VR.1.fAt,VR.1.AI,VR.2.fs,VR.2.fat,VR.2.fi,VR.2.E',VR.2.Gw,VR.2.B',VR.2.IN)).bind λ Xn=>if Xn.1=0 then b9 n UI m Xn.2.2.2.1 Xn.2.2.2.2.1 Xn.2.2.2.2.2.1 Xn.2.2.2.2.2.2.1 Xn.2.2.2.2.2.2.2.1 Xn.2.2.2.2.2.2.2.2.1 Xn.2.2.2.2.2.2.2.2.2 else some (.inr ((ao.mk Xn.1 Xn.2.1 Xn.2.2.1),(ar.mk Xn.2.2.2.1 Xn.2.2.2.2.1 Xn.2.2.2.2.2.1 Xn.2.2.2.2.2.2.1 Xn.2.2.2.2.2.2.2.1 Xn.2.2.2.2.2.2.2.2.1 Xn.2.2.2.2.2.2.2.2.2)))else some (.inl (Wc,WK,Vq,Wb,WB,WJ,WI))
def bV (n:Nat)(U9:al->Int->Option (ac×al))(O':Int)(r5:ac×al):Nat->Int->Int->Bk->Bk->Int->Int->Bk->(List am)->(List Bk)->(List ac)->(List ab)->Int->Int->Int->Int->Int->Bk->Option (((List ab)×Int×Int×Int×Int×Int×Bk)⊕(ac×al))|0,_,_,_,_,_,_,_,_,_,_,_,_,_,_,_,_,_=>none|m+1,WK,Vq,Wb,WB,WJ,WI,WH,WG,Xa,W9,Zp,Zo,Yj,Yi,Yh,WW,Xj=>(kV O').bind λ Zx=>(ey n (al.mk Zp Zo Yj Yi (ao.mk Yh WW Xj)) Zx).bind λ U0=>if (!U0.2.1)=true then some (.inr ((ac.mk WK Vq Wb WB (am.mk WJ WI WH WG Xa) W9 r5.1.fAt),U0.2.2))else(aJ n U0.2.2).bind λ Vi=>ck (inR (O'+1))<|(U9 Vi.2 (O'+1)).bind λ Va=>(rO n U0.1).bind λ Ww=>bV n U9 O' r5 m 7 Ww ([]:Bk) ([]:Bk) 0 0 ([]:Bk) [] [] [(ac.mk WK Vq Wb WB (am.mk WJ WI WH WG Xa) W9 r5.1.fAt),Va.1] Va.2.fl Va.2.fat Va.2.H' Va.2.G' Va.2.AT.Ar Va.2.AT.fAt Va.2.AT.AI
def bM (n:Nat)(Un:al->Option (ac×al))(r1:ac×al):Nat->Int->Int->Bk->Bk->Int->Int->Bk->(List am)->(List Bk)->(List ac)->(List ab)->Int->Int->Int->Int->Int->Bk->Option (((List ab)×Int×Int×Int×Int×Int×Bk)⊕(ac×al))|0,_,_,_,_,_,_,_,_,_,_,_,_,_,_,_,_,_=>none|m+1,WW,Xj,Yg,Zn,Zm,Zl,Zk,f58,f59,Xi,Yf,Ye,Yd,Yc,Yb,Ya,X9=>jn ((aY n (al.mk Yf Ye Yd Yc (ao.mk Yb Ya X9)) ([46]:Bk)).bind λ r68=>if r68.1=true then(aJ n r68.2).bind λ Y0=>(br n Y0.2).bind λ VQ=>if VQ.1.Ar=1 then(aJ n VQ.2).bind λ XD=>some (.inl (4,VQ.1.By,[(ac.mk WW Xj Yg Zn (am.mk Zm Zl Zk f58 f59) Xi r1.1.fAt)],XD.2.fl,XD.2.fat,XD.2.H',XD.2.G',XD.2.AT.Ar,XD.2.AT.fAt,XD.2.AT.AI))else(bq VQ.2 2 VQ.1.fAt).bind λ W6=>some (.inr (.inr (W6.1,W6.2)))else(aY n r68.2 ([91]:Bk)).bind λ r80=>if r80.1=true then(cI n r80.2).bind λ W0=>(Un W0).bind λ r85=>(bC n r85.2 ([93]:Bk)).bind λ Z7=>some (.inl (5,([]:Bk),[(ac.mk WW Xj Yg Zn (am.mk Zm Zl Zk f58 f59) Xi r1.1.fAt),r85.1],Z7.fl,Z7.fat,Z7.H',Z7.G',Z7.AT.Ar,Z7.AT.fAt,Z7.AT.AI))else some (.inr (.inr ((ac.mk WW Xj Yg Zn (am.mk Zm Zl Zk f58 f59) Xi r1.1.fAt),r80.2))) : Option ((Int×Bk×(List ac)×(List ab)×Int×Int×Int×Int×Int×Bk)⊕(((List ab)×Int×Int×Int×Int×Int×Bk)⊕(ac×al)))) λ W3=>bM n Un r1 m W3.1 0 W3.2.1 ([]:Bk) 0 0 ([]:Bk) [] [] W3.2.2.1 W3.2.2.2.1 W3.2.2.2.2.1 W3.2.2.2.2.2.1 W3.2.2.2.2.2.2.1 W3.2.2.2.2.2.2.2.1 W3.2.2.2.2.2.2.2.2.1 W3.2.2.2.2.2.2.2.2.2
def cR (n:Nat)(Un:al->Option (ac×al))(end_1:Bk):Nat->(List ac)->(List ab)->Int->Int->Int->Int->Int->Bk->Option ((List ac)×(List ab)×Int×Int×Int×Int×Int×Bk)|0,_,_,_,_,_,_,_,_=>none|m+1,Wu,YT,f33,f34,Wc,WK,Vq,Wb=>((aT (al.mk YT f33 f34 Wc (ao.mk WK Vq Wb))).bind λ XF=>if (!XF.1)=true then(aY n XF.2 end_1).bind λ VH=>some (!VH.1,VH.2.fl,VH.2.fat,VH.2.H',VH.2.G',VH.2.AT.Ar,VH.2.AT.fAt,VH.2.AT.AI)else some (false,XF.2.fl,XF.2.fat,XF.2.H',XF.2.G',XF.2.AT.Ar,XF.2.AT.fAt,XF.2.AT.AI)).bind λ WQ=>if WQ.1=true then(Un (al.mk WQ.2.1 WQ.2.2.1 WQ.2.2.2.1 WQ.2.2.2.2.1 (ao.mk WQ.2.2.2.2.2.1 WQ.2.2.2.2.2.2.1 WQ.2.2.2.2.2.2.2))).bind λ Zx=>ck ((Wu.length+[Zx.1].length)*160<=140737488355328)<|(aY n Zx.2 ([44]:Bk)).bind λ VR=>if (!VR.1)=true then some (Wu++[Zx.1],VR.2.fl,VR.2.fat,VR.2.H',VR.2.G',VR.2.AT.Ar,VR.2.AT.fAt,VR.2.AT.AI)else(aJ n VR.2).bind λ Y1=>cR n Un end_1 m (Wu++[Zx.1]) Y1.2.fl Y1.2.fat Y1.2.H' Y1.2.G' Y1.2.AT.Ar Y1.2.AT.fAt Y1.2.AT.AI else some (Wu,WQ.2.1,WQ.2.2.1,WQ.2.2.2.1,WQ.2.2.2.2.1,WQ.2.2.2.2.2.1,WQ.2.2.2.2.2.2.1,WQ.2.2.2.2.2.2.2)
def cg (n:Nat)(Un:al->Option (ac×al))(Vh:al->Option (ac×al)):Nat->(List ac)->(List ab)->Int->Int->Int->Int->Int->Bk->Option ((List ac)×(List ab)×Int×Int×Int×Int×Int×Bk)|0,_,_,_,_,_,_,_,_=>none|m+1,VJ,Vq,Wb,WB,WJ,WI,WH,WG=>((aT (al.mk Vq Wb WB WJ (ao.mk WI WH WG))).bind λ W7=>if (!W7.1)=true then(aY n W7.2 ([125]:Bk)).bind λ Z'=>some (!Z'.1,Z'.2.fl,Z'.2.fat,Z'.2.H',Z'.2.G',Z'.2.AT.Ar,Z'.2.AT.fAt,Z'.2.AT.AI)else some (false,W7.2.fl,W7.2.fat,W7.2.H',W7.2.G',W7.2.AT.Ar,W7.2.AT.fAt,W7.2.AT.AI)).bind λ XI=>if XI.1=true then(Vh (al.mk XI.2.1 XI.2.2.1 XI.2.2.2.1 XI.2.2.2.2.1 (ao.mk XI.2.2.2.2.2.1 XI.2.2.2.2.2.2.1 XI.2.2.2.2.2.2.2))).bind λ Vi=>ck ((VJ.length+[Vi.1].length)*160<=140737488355328)<|(cw n Vi.2 ([61]:Bk)).bind λ Va=>(Un Va).bind λ Ww=>ck (((VJ++[Vi.1]).length+[Ww.1].length)*160<=140737488355328)<|(aY n Ww.2 ([44]:Bk)).bind λ Xc=>if (!Xc.1)=true then some ((VJ++[Vi.1])++[Ww.1],Xc.2.fl,Xc.2.fat,Xc.2.H',Xc.2.G',Xc.2.AT.Ar,Xc.2.AT.fAt,Xc.2.AT.AI)else(aJ n Xc.2).bind λ Vj=>cg n Un Vh m ((VJ++[Vi.1])++[Ww.1]) Vj.2.fl Vj.2.fat Vj.2.H' Vj.2.G' Vj.2.AT.Ar Vj.2.AT.fAt Vj.2.AT.AI else some (VJ,XI.2.1,XI.2.2.1,XI.2.2.2.1,XI.2.2.2.2.1,XI.2.2.2.2.2.1,XI.2.2.2.2.2.2.1,XI.2.2.2.2.2.2.2)
mutual
def iT:Nat->Bk->Int->Option (ac×ao)|0,_,_=>none|n+1,Mr,N'=>((gG n) (ar.mk Mr N' 0 0 ([]:Bk) [] false)).bind λ r1=>if r1.1.Ar=0 then(gV (am.mk 3 0 r1.2.Gw [] []) N').bind λ r4=>(if r1.2.IN=true then(eP (ar.mk r1.2.fs r1.2.fat r1.2.fi r1.2.E' r1.2.Gw r1.2.B' r1.2.IN)).bind λ r7=>some (2,0,([]:Bk),([]:Bk),0,0,([]:Bk),[],[],r7.B',N')else some (r4.Ar,r4.fOp,r4.AI,r4.D',r4.A'.Ar,r4.A'.F',r4.A'.If,r4.A'.Df,r4.A'.C',r4.BY,r4.fAt)).bind λ U2=>(fA n (ac.mk U2.1 U2.2.1 U2.2.2.1 U2.2.2.2.1 (am.mk U2.2.2.2.2.1 U2.2.2.2.2.2.1 U2.2.2.2.2.2.2.1 U2.2.2.2.2.2.2.2.1 U2.2.2.2.2.2.2.2.2.1) U2.2.2.2.2.2.2.2.2.2.1 U2.2.2.2.2.2.2.2.2.2.2) r1.1).bind λ Vp=>some (Vp.1,Vp.2)else some ((ac.mk 0 0 ([]:Bk) ([]:Bk) (am.mk 0 0 ([]:Bk) [] []) [] 0),r1.1)
def iK:Nat->Bk->Int->Option (ac×ao)|0,_,_=>none|n+1,Mr,base_1=>(nI n Mr).bind λ r1=>if r1.2.Ar=0 then((aD n) (al.mk r1.1 0 1 base_1 (ao.mk 0 0 ([]:Bk)))).bind λ r5=>((br n r5.2).bind λ r7=>if r7.1.Ar=6 then some (r7.2.fl,r7.2.fat,r7.2.H',r7.2.G',r7.2.AT.Ar,r7.2.AT.fAt,r7.2.AT.AI)else(bq r7.2 2 r7.1.fAt).bind λ UN=>some (UN.2.fl,UN.2.fat,UN.2.H',UN.2.G',UN.2.AT.Ar,UN.2.AT.fAt,UN.2.AT.AI)).bind λ q19=>some (r5.1,(ao.mk q19.2.2.2.2.1 q19.2.2.2.2.2.1 q19.2.2.2.2.2.2))else ck (inR (base_1+r1.2.fAt))<|some ((ac.mk 0 0 ([]:Bk) ([]:Bk) (am.mk 0 0 ([]:Bk) [] []) [] 0),(ao.mk r1.2.Ar (base_1+r1.2.fAt) ([]:Bk)))
def gG:Nat->ar->Option (ao×ar)|0,_=>none|n+1,Pn=>jn (b9 n (aP n) n Pn.fs Pn.fat Pn.fi Pn.E' Pn.Gw Pn.B' Pn.IN) λ q83=>some ((ao.mk 0 0 ([]:Bk)),(ar.mk q83.1 q83.2.1 q83.2.2.1 q83.2.2.2.1 q83.2.2.2.2.1 q83.2.2.2.2.2.1 q83.2.2.2.2.2.2))
def aD:Nat->al->Option (ac×al)|0,_=>none|n+1,OF=>((ba n) OF 0).bind λ r1=>(aY n r1.2 ([63]:Bk)).bind λ r3=>if (!r3.1)=true then some (r1.1,r3.2)else(aJ n r3.2).bind λ r6=>((aD n) r6.2).bind λ r8=>(cw n r8.2 ([58]:Bk)).bind λ UN=>((aD n) UN).bind λ US=>some ((ac.mk 8 0 ([]:Bk) ([]:Bk) (am.mk 0 0 ([]:Bk) [] []) [r1.1,r8.1,US.1] r1.1.fAt),US.2)
def aP:Nat->ar->Option (ao×ar)|0,_=>none|n+1,Pn=>(eP (ar.mk Pn.fs Pn.fat Pn.fi Pn.E' Pn.Gw Pn.B' Pn.IN)).bind λ r1=>ck (inR (r1.fi+2))<|(dU n r1.fs (r1.fi+2)).bind λ r4=>if r4<0 then ck (inR (r1.fat+r1.fi))<|some ((ao.mk 40 (r1.fat+r1.fi) ([]:Bk)),(ar.mk r1.fs r1.fat r1.fi r1.E' r1.Gw r1.B' true))else ck (inR (r1.fi+2))<|ck ((0:Int)<=r1.fi+2/\r1.fi+2<=r4/\r4<=(r1.fs.length:Int))<|ck (inR (r1.fat+r1.fi))<|ck (inR ((r1.fat+r1.fi)+2))<|((iK n) (sub r1.fs (r1.fi+2) r4) ((r1.fat+r1.fi)+2)).bind λ US=>if US.2.Ar=0 then ck ((r1.B'.length+1)*160<=140737488355328)<|ck (inR (r4+1))<|some ((ao.mk 0 0 ([]:Bk)),(ar.mk r1.fs r1.fat (r4+1) (r4+1) r1.Gw (r1.B'++[US.1]) true))else some (US.2,(ar.mk r1.fs r1.fat r1.fi r1.E' r1.Gw r1.B' true))
def ba:Nat->al->Int->Option (ac×al)|0,_,_=>none|n+1,OF,O'=>if 5<O' then((cY n) OF).bind λ r2=>some (r2.1,r2.2)else ck (inR (O'+1))<|((ba n) OF (O'+1)).bind λ r5=>jn (bV n (ba n) O' r5 n r5.1.Ar r5.1.fOp r5.1.AI r5.1.D' r5.1.A'.Ar r5.1.A'.F' r5.1.A'.If r5.1.A'.Df r5.1.A'.C' r5.1.BY r5.2.fl r5.2.fat r5.2.H' r5.2.G' r5.2.AT.Ar r5.2.AT.fAt r5.2.AT.AI) λ _q89=>none
def cY:Nat->al->Option (ac×al)|0,_=>none|n+1,OF=>((aY n OF ([33]:Bk)).bind λ r1=>if r1.1=true then some (1,r1.2.fl,r1.2.fat,r1.2.H',r1.2.G',r1.2.AT.Ar,r1.2.AT.fAt,r1.2.AT.AI)else(aY n r1.2 ([45]:Bk)).bind λ r4=>if r4.1=true then some (2,r4.2.fl,r4.2.fat,r4.2.H',r4.2.G',r4.2.AT.Ar,r4.2.AT.fAt,r4.2.AT.AI)else some (0,r4.2.fl,r4.2.fat,r4.2.H',r4.2.G',r4.2.AT.Ar,r4.2.AT.fAt,r4.2.AT.AI)).bind λ U2=>if U2.1=0 then((dF n) (al.mk U2.2.1 U2.2.2.1 U2.2.2.2.1 U2.2.2.2.2.1 (ao.mk U2.2.2.2.2.2.1 U2.2.2.2.2.2.2.1 U2.2.2.2.2.2.2.2))).bind λ XH=>some (XH.1,XH.2)else(aJ n (al.mk U2.2.1 U2.2.2.1 U2.2.2.2.1 U2.2.2.2.2.1 (ao.mk U2.2.2.2.2.2.1 U2.2.2.2.2.2.2.1 U2.2.2.2.2.2.2.2))).bind λ Vx=>((cY n) Vx.2).bind λ Vp=>some ((ac.mk 6 U2.1 ([]:Bk) ([]:Bk) (am.mk 0 0 ([]:Bk) [] []) [Vp.1] Vx.1.fAt),Vp.2)
def dF:Nat->al->Option (ac×al)|0,_=>none|n+1,OF=>((cM n) OF).bind λ r1=>jn (bM n (aD n) r1 n r1.1.Ar r1.1.fOp r1.1.AI r1.1.D' r1.1.A'.Ar r1.1.A'.F' r1.1.A'.If r1.1.A'.Df r1.1.A'.C' r1.1.BY r1.2.fl r1.2.fat r1.2.H' r1.2.G' r1.2.AT.Ar r1.2.AT.fAt r1.2.AT.AI) λ _q123=>none
def cM:Nat->al->Option (ac×al)|0,_=>none|n+1,OF=>(aT OF).bind λ r1=>if r1.1=true then some ((ac.mk 0 0 ([]:Bk) ([]:Bk) (am.mk 0 0 ([]:Bk) [] []) [] 0),r1.2)else(br n r1.2).bind λ r4=>if r4.1.Ar=2 then(kQ n r4.1.By).bind λ r7=>if r7.2=0 then(aJ n r4.2).bind λ US=>(gV (am.mk 2 r7.1 ([]:Bk) [] []) r4.1.fAt).bind λ Xs=>some (Xs,US.2)else(bq r4.2 r7.2 r4.1.fAt).bind λ UN=>some (UN.1,UN.2)else if r4.1.Ar=3 then((fk n) r4.2).bind λ Wg=>some (Wg.1,Wg.2)else if r4.1.Ar=1 then((gx n) r4.2).bind λ Vp=>some (Vp.1,Vp.2)else if r4.1.Ar=4 then((gS n) r4.2).bind λ UQ=>some (UQ.1,UQ.2)else(bq r4.2 2 r4.1.fAt).bind λ VX=>some (VX.1,VX.2)
def fk:Nat->al->Option (ac×al)|0,_=>none|n+1,OF=>(br n OF).bind λ r1=>ck (inR (r1.1.fAt+1))<|((iT n) r1.1.By (r1.1.fAt+1)).bind λ r4=>if r4.2.Ar=0 then(aJ n r1.2).bind λ r9=>some ((ac.mk r4.1.Ar r4.1.fOp r4.1.AI r4.1.D' r4.1.A' r4.1.BY r1.1.fAt),r9.2)else(bq r1.2 r4.2.Ar r4.2.fAt).bind λ r7=>some (r7.1,r7.2)
def gx:Nat->al->Option (ac×al)|0,_=>none|n+1,OF=>(br n OF).bind λ r1=>if r1.1.By=([110,117,108,108]:Bk) then(aJ n r1.2).bind λ r4=>(gV (am.mk 0 0 ([]:Bk) [] []) r1.1.fAt).bind λ r6=>some (r6,r4.2)else(if r1.1.By=([116,114,117,101]:Bk) then some true else some (decide (r1.1.By=([102,97,108,115,101]:Bk)))).bind λ t9=>if t9=true then(aJ n r1.2).bind λ Wy=>(if r1.1.By=([116,114,117,101]:Bk) then some 1 else some 0).bind λ Z1=>(gV (am.mk 1 Z1 ([]:Bk) [] []) r1.1.fAt).bind λ Uu=>some (Uu,Wy.2)else(gr r1.1.By).bind λ Wg=>if Wg=true then(bq r1.2 2 r1.1.fAt).bind λ Vp=>some (Vp.1,Vp.2)else(aJ n r1.2).bind λ V9=>(aY n V9.2 ([40]:Bk)).bind λ WP=>if (!WP.1)=true then some ((ac.mk 3 0 r1.1.By ([]:Bk) (am.mk 0 0 ([]:Bk) [] []) [] r1.1.fAt),WP.2)else(cI n WP.2).bind λ Vr=>((gw n) Vr ([41]:Bk)).bind λ YQ=>(bC n YQ.2 ([41]:Bk)).bind λ XG=>some ((ac.mk 9 0 r1.1.By ([]:Bk) (am.mk 0 0 ([]:Bk) [] []) YQ.1 r1.1.fAt),XG)
def gS:Nat->al->Option (ac×al)|0,_=>none|n+1,OF=>(br n OF).bind λ r1=>if r1.1.By=([40]:Bk) then(cI n r1.2).bind λ r4=>((aD n) r4).bind λ r6=>(bC n r6.2 ([41]:Bk)).bind λ r8=>some (r6.1,r8)else if r1.1.By=([91]:Bk) then(cI n r1.2).bind λ Wy=>(cJ n Wy ([102,111,114]:Bk)).bind λ Wh=>if Wh.1=true then((ff n) Wh.2 r1.1.fAt 12).bind λ XH=>some (XH.1,XH.2)else((gw n) Wh.2 ([93]:Bk)).bind λ Vx=>(bC n Vx.2 ([93]:Bk)).bind λ Vp=>some ((ac.mk 10 0 ([]:Bk) ([]:Bk) (am.mk 0 0 ([]:Bk) [] []) Vx.1 r1.1.fAt),Vp)else if r1.1.By=([123]:Bk) then(cI n r1.2).bind λ UQ=>(cJ n UQ ([102,111,114]:Bk)).bind λ VX=>if VX.1=true then((ff n) VX.2 r1.1.fAt 13).bind λ UX=>some (UX.1,UX.2)else((fW n) VX.2).bind λ Xd=>(bC n Xd.2 ([125]:Bk)).bind λ WO=>some ((ac.mk 11 0 ([]:Bk) ([]:Bk) (am.mk 0 0 ([]:Bk) [] []) Xd.1 r1.1.fAt),WO)else(bq r1.2 2 r1.1.fAt).bind λ UF=>some (UF.1,UF.2)
def gw:Nat->al->Bk->Option ((List ac)×al)|0,_,_=>none|n+1,OF,end_1=>(cR n (aD n) end_1 n [] OF.fl OF.fat OF.H' OF.G' OF.AT.Ar OF.AT.fAt OF.AT.AI).bind λ q77=>some (q77.1,(al.mk q77.2.1 q77.2.2.1 q77.2.2.2.1 q77.2.2.2.2.1 (ao.mk q77.2.2.2.2.2.1 q77.2.2.2.2.2.2.1 q77.2.2.2.2.2.2.2)))
def ff:Nat->al->Int->Int->Option (ac×al)|0,_,_,_=>none|n+1,OF,N',k_2=>(aJ n OF).bind λ r1=>(cC n r1.2).bind λ r3=>((aY n r3.2 ([44]:Bk)).bind λ r5=>if r5.1=true then(aJ n r5.2).bind λ r8=>(cC n r8.2).bind λ UN=>some (UN.1,r3.1,UN.2.fl,UN.2.fat,UN.2.H',UN.2.G',UN.2.AT.Ar,UN.2.AT.fAt,UN.2.AT.AI)else some (r3.1,([]:Bk),r5.2.fl,r5.2.fat,r5.2.H',r5.2.G',r5.2.AT.Ar,r5.2.AT.fAt,r5.2.AT.AI)).bind λ ZN=>(dC n (al.mk ZN.2.2.1 ZN.2.2.2.1 ZN.2.2.2.2.1 ZN.2.2.2.2.2.1 (ao.mk ZN.2.2.2.2.2.2.1 ZN.2.2.2.2.2.2.2.1 ZN.2.2.2.2.2.2.2.2)) ([105,110]:Bk)).bind λ UE=>((aD n) UE).bind λ UQ=>ck ([UQ.1].length*160<=140737488355328)<|(cw n UQ.2 ([58]:Bk)).bind λ Ve=>((aD n) Ve).bind λ UX=>ck (([UQ.1].length+[UX.1].length)*160<=140737488355328)<|(if k_2=13 then(cw n UX.2 ([61,62]:Bk)).bind λ WO=>((aD n) WO).bind λ UF=>ck ((([UQ.1]++[UX.1]).length+[UF.1].length)*160<=140737488355328)<|some (([125]:Bk),([UQ.1]++[UX.1])++[UF.1],UF.2.fl,UF.2.fat,UF.2.H',UF.2.G',UF.2.AT.Ar,UF.2.AT.fAt,UF.2.AT.AI)else some (([93]:Bk),[UQ.1]++[UX.1],UX.2.fl,UX.2.fat,UX.2.H',UX.2.G',UX.2.AT.Ar,UX.2.AT.fAt,UX.2.AT.AI)).bind λ Xt=>((cJ n (al.mk Xt.2.2.1 Xt.2.2.2.1 Xt.2.2.2.2.1 Xt.2.2.2.2.2.1 (ao.mk Xt.2.2.2.2.2.2.1 Xt.2.2.2.2.2.2.2.1 Xt.2.2.2.2.2.2.2.2)) ([105,102]:Bk)).bind λ Xq=>if Xq.1=true then(aJ n Xq.2).bind λ XE=>((aD n) XE.2).bind λ Vb=>ck ((Xt.2.1.length+[Vb.1].length)*160<=140737488355328)<|some (Xt.2.1++[Vb.1],Vb.2.fl,Vb.2.fat,Vb.2.H',Vb.2.G',Vb.2.AT.Ar,Vb.2.AT.fAt,Vb.2.AT.AI)else some (Xt.2.1,Xq.2.fl,Xq.2.fat,Xq.2.H',Xq.2.G',Xq.2.AT.Ar,Xq.2.AT.fAt,Xq.2.AT.AI)).bind λ XJ=>(bC n (al.mk XJ.2.1 XJ.2.2.1 XJ.2.2.2.1 XJ.2.2.2.2.1 (ao.mk XJ.2.2.2.2.2.1 XJ.2.2.2.2.2.2.1 XJ.2.2.2.2.2.2.2)) Xt.1).bind λ r62=>some ((ac.mk k_2 0 ZN.1 ZN.2.1 (am.mk 0 0 ([]:Bk) [] []) XJ.1 N'),r62)
def fW:Nat->al->Option ((List ac)×al)|0,_=>none|n+1,OF=>(cg n (aD n) (dp n) n [] OF.fl OF.fat OF.H' OF.G' OF.AT.Ar OF.AT.fAt OF.AT.AI).bind λ WC=>some (WC.1,(al.mk WC.2.1 WC.2.2.1 WC.2.2.2.1 WC.2.2.2.2.1 (ao.mk WC.2.2.2.2.2.1 WC.2.2.2.2.2.2.1 WC.2.2.2.2.2.2.2)))
def dp:Nat->al->Option (ac×al)|0,_=>none|n+1,OF=>(br n OF).bind λ r1=>if r1.1.Ar=1 then(aJ n r1.2).bind λ r4=>(gV (am.mk 3 0 r1.1.By [] []) r1.1.fAt).bind λ r6=>some (r6,r4.2)else if r1.1.Ar=3 then((fk n) r1.2).bind λ r9=>some (r9.1,r9.2)else(aY n r1.2 ([40]:Bk)).bind λ Wy=>if Wy.1=true then(cI n Wy.2).bind λ Xs=>((aD n) Xs).bind λ XH=>(bC n XH.2 ([41]:Bk)).bind λ Vx=>some (XH.1,Vx)else(bq Wy.2 2 r1.1.fAt).bind λ Vp=>some (Vp.1,Vp.2)
end
theorem nO (n:Nat):uq (iT n) 19/\uq (iK n) 33/\zU (gG n) 38/\kw (aD n) 65/\zU (aP n) 77/\(∀ (OF:al) (O':Int) (r:ac×al),HO (ba n OF O'=some r) Tryz.prog 100 [.ptr 1000000 0,.p (eI O')] [(1000000,((al.cs OF).map .p))] (.p (.agg (ac.cs r.1))) ([(1000000,((al.cs r.2).map .p))]))/\kw (cY n) 139/\kw (dF n) 166/\kw (cM n) 184/\kw (fk n) 197/\kw (gx n) 198/\kw (gS n) 199/\(∀ (OF:al) (end_1:Bk) (r:(List ac)×al),HO (gw n OF end_1=some r) Tryz.prog 210 [.ptr 1000000 0,.p (eS end_1)] [(1000000,((al.cs OF).map .p))] (.p (eL ak r.1)) ([(1000000,((al.cs r.2).map .p))]))/\(∀ (OF:al) (N':Int) (k_2:Int) (r:ac×al),HO (ff n OF N' k_2=some r) Tryz.prog 212 [.ptr 1000000 0,.p (eI N'),.p (eI k_2)] [(1000000,((al.cs OF).map .p))] (.p (.agg (ac.cs r.1))) ([(1000000,((al.cs r.2).map .p))]))/\(∀ (OF:al) (r:(List ac)×al),HO (fW n OF=some r) Tryz.prog 213 [.ptr 1000000 0] [(1000000,((al.cs OF).map .p))] (.p (eL ak r.1)) ([(1000000,((al.cs r.2).map .p))]))/\kw (dp n) 225:=by
 induction n with
 | zero=>exact Zr
 | succ n ih=>
 obtain ⟨_,_,_,_,_,_,_,_,_,_,_,_,_,_,_,_⟩:=ih;refine ⟨?_,?_,?_,?_,?_,?_,?_,?_,?_,?_,?_,?_,?_,?_,?_,?_⟩
 ·refine λ Mr N'=>hP good Tryz.func19 Z Z λ r h0 _ w0=>?_;rw [iT] at h0;refine nx 16 Z (bd h0 λ r1 e2 h0=>?_);refine mO Z (aV [12] [890000] 101000 101001 (HO.c e2) Z Z Z Z Z ⟨sr,trivial⟩ Z Z ⟨⟨_,Z,⟨sr,sr,sr,sr,sr,AV.sub_nilvec _ _ _,sr,trivial⟩⟩,trivial⟩ Z Z Z Z Z Z Z Z Tryz.call38 Z Z ?_);refine nx 10 Z (fN [17] h0 Z (λ c3 h0=>?_) λ c3 h0=>?_)
  ·refine nx 10 Z (bd h0 λ r4 e5 h0=>?_);refine oK (HP.c e5) Z ⟨lh ⟨.inl Z,.inl Z,.inl Z,.inr ⟨Z,Z⟩,.inr ⟨Z,Z⟩,trivial⟩,sr,trivial⟩ Tryz.call39 Z (nx 4 Z ?_);refine bd h0 λ Xz h1 h0=>kN Xz (λ XT=>⟨[(4,.ptr 4 0),(5,.ptr 5 0),(7,.ptr 7 0),(8,.ptr 8 0)],[(4,bB),(5,cB),(7,(ao.cs r1.1).map .p),(8,(Iw XT))]⟩) ?_ ?_
   ·exact J0
   refine nx 7 Z (fB [30] h1 Z (λ c6 h1=>?_) λ c6 h1=>?_)
   ·refine nx 4 Z (bd h1 λ r7 e8 h1=>?_);refine mO Z (cVq [12] [101000] 102000 102001 (HO.c e8) Tryz.call40 Z ?_);exact az
   exact az
  exact J0
 ·refine λ Mr base_1=>hP good Tryz.func33 Z Z λ r h0 _ w0=>?_;rw [iK] at h0;refine nx 8 Z (bd h0 λ r1 e2 h0=>?_);refine oK (HP.c e2) Z ⟨sr,trivial⟩ Tryz.call25 Z (nx 14 Z ?_);refine fN [18] h0 Z (λ c3 h0=>?_) λ c3 h0=>?_
  ·have:=js [601];have:=jO 601 (List ab×Int×Int×Int×Int×Int×Bk) λ v=>[(30,(fV v))]
   exact J0
  refine nx 2 Z (cc' h0 λ Yq h0=>?_);refine mG (gE (t:=⟨[(1,.p (eI base_1)),(4,.ptr 4 0),(5,.ptr 5 0),(7,.ptr 7 0)],[(4,bB),(5,cB),(7,(ao.cs r1.2).map .p)]⟩) Z Z) (mSq ⟨2,[8,9],(λ _=>.none),(λ _=>[(1,.p (eI base_1)),(4,.ptr 4 0),(5,.ptr 5 0),(7,.ptr 7 0)]),(ob3 ([(4,bB),(5,cB),(7,((ao.cs r1.2).map .p))]) (4,bB) (5,[.p (eI r1.2.Ar),.p (eI (base_1+r1.2.fAt)),.p (eS ([]:Bk))]))⟩ Z ?_);refine dPc (.p (.agg pT)) Z (dPc (.ptr 7 0) Z ?_);refine dPc (.p (eI r1.2.Ar)) Z (dPc (.p (eI base_1)) Z ?_);refine dPc (.ptr 7 1) Z (dPc (.p (eI r1.2.fAt)) Z ?_);refine dO (.p (eI (base_1+r1.2.fAt))) [22,24] Z (λ _ sl Sk K hK=>ap Z (fM Z Z Z (Sk _ _ Z) (Sk _ _ Z) Z Yq hK)) (dPc (.p (.agg [eI r1.2.Ar,eI (base_1+r1.2.fAt),eS ([]:Bk)])) Z ?_);exact J0
 ·refine λ Pn=>hO good [800000] [1000000] Tryz.func38 Z Z λ r h0 _ w0 F=>?_;rw [gG] at h0;refine nx 6 rfl ?_;obtain ⟨o85,h1,UV,hR0⟩:=bo h0;refine kEx 0 (λ YN:Bk×Int×Int×Int×Bk×(List ac)×Bool=>o85=.inl YN) (λ YN=>⟨[(2,.ptr 2 0)],[(2,cB),(1000000,[.p (eS YN.1),.p (eI YN.2.1),.p (eI YN.2.2.1),.p (eI YN.2.2.2.1),.p (eS YN.2.2.2.2.1),.vec 900000 11 0 (YN.2.2.2.2.2.1.map ak),.p (eB YN.2.2.2.2.2.2)])]⟩) (λ YN hv=>?_) ?_
  ·have h0:=UV _ hv;exact nx 7 Z C4
  refine lG (λ (WC:Bk×Int×Int×Int×Bk×(List ac)×Bool)=>⟨[(0,.ptr 1000000 0),(2,.ptr 2 0)],[(2,cB),(1000000,[.p (eS WC.1),.p (eI WC.2.1),.p (eI WC.2.2.1),.p (eI WC.2.2.2.1),.p (eS WC.2.2.2.2.1),.vec 900000 11 0 (WC.2.2.2.2.2.1.map ak),.p (eB WC.2.2.2.2.2.2)])]⟩) (λ m (WC:Bk×Int×Int×Int×Bk×(List ac)×Bool)=>b9 n (aP n) m WC.1 WC.2.1 WC.2.2.1 WC.2.2.2.1 WC.2.2.2.2.1 WC.2.2.2.2.2.1 WC.2.2.2.2.2.2) Y (Pn.fs,Pn.fat,Pn.fi,Pn.E',Pn.Gw,Pn.B',Pn.IN) h1 (gE rfl rfl) ?_;rintro m ⟨Wc,WK,Vq,Wb,WB,WJ,WI⟩ h1;replace h1:b9 n (aP n) (m+1) Wc WK Vq Wb WB WJ WI=some o85:=h1;rw [b9] at h1;refine nx 2 rfl (mD [(0,.ptr 1000000 0),(2,.ptr 2 0)] rfl ⟨rfl,rfl,trivial⟩ rfl ?_);refine dR 8 rfl (dq (.p (eI (Wc.length:Int))) [12] rfl (λ _ e _ q=>ap rfl (nU rfl rfl rfl rfl rfl (e _ _ rfl) q)) rfl ?_);refine dR 1 rfl (dE rfl ?_);refine nx 1 rfl (fD [14] h1 rfl (λ c42 h1=>?_) λ c42 h1=>?_)
  ·refine nx 9 Z (cc' h1 λ abT h1=>?_);refine mD [(0,.ptr 1000000 0),(2,.ptr 2 0),(3,.ptr 3 0)] Z ⟨Z,Z,Z,trivial⟩ Z (dR 8 Z ?_);refine dq (.p (eS (sub Wc Vq (Wc.length:Int)))) [18,22] Z (λ _ e _ q=>ap Z (fH (a:=Wc) (l:=Vq) (h:=(Wc.length:Int)) Z Z Z Z Z (e _ _ Z) pZ Z abT q)) Z (dR 1 Z ?_);refine dE Z (nx 1 Z ?_);refine bd h1 λ o88 h2 h1=>kN o88 (λ Zt=>⟨[(0,.ptr 1000000 0),(2,.ptr 2 0),(3,.ptr 3 0)],[(2,cB),(3,[.p (eI Zt.1),.p (eI Zt.2.1),.p (eS Zt.2.2.1)]),(1000000,[.p (eS Zt.2.2.2.1),.p (eI Zt.2.2.2.2.1),.p (eI Zt.2.2.2.2.2.1),.p (eI Zt.2.2.2.2.2.2.1),.p (eS Zt.2.2.2.2.2.2.2.1),.vec 106000 11 0 (Zt.2.2.2.2.2.2.2.2.1.map ak),.p (eB Zt.2.2.2.2.2.2.2.2.2)])]⟩) ?_ ?_
   ·refine nx 7 Z (fN [52] h1 Z (λ c68 h1=>?_) λ c68 h1=>?_)
    ·exact nx 2 Z (eX (o88.2.2.2.1,o88.2.2.2.2.1,o88.2.2.2.2.2.1,o88.2.2.2.2.2.2.1,o88.2.2.2.2.2.2.2.1,o88.2.2.2.2.2.2.2.2.1,o88.2.2.2.2.2.2.2.2.2) h1 (bm (cb 106000 900000 Z Z Z Z Z) (gE Z Z)))
    exact nx 7 Z (mQo (hR0 _ (oi h1).symm) (bm (cb 106000 800000 Z Z Z Z Z) (aU _)) Z Z Z Z (sr) ⟨⟨_,Z,⟨sr,sr,sr,sr,sr,sr,sr,trivial⟩⟩,trivial⟩)
   refine nx 4 Z (bd h2 λ W7 e45 h2=>?_);refine oK (dk (sub Wc Vq (Wc.length:Int)) ([36,36,123]:Bk) _ e45) Z ⟨sr,sr,trivial⟩ Tryz.call75 Z (nx 2 Z ?_);refine fB [26,28] h2 Z (λ c46 h2=>?_) λ c46 h2=>?_
   ·refine nx 7 Z (oC h2 Z λ YE h2=>?_);refine nx 10 Z (oA h2 Z Z λ YD h2=>?_);refine nx 4 Z (mG (gE (t:=⟨[(0,.ptr 1000000 0),(2,.ptr 2 0),(3,.ptr 3 0)],[(2,cB),(3,cB),(1000000,[.p (eS Wc),.p (eI WK),.p (eI (Vq+3)),.p (eI Wb),.p (eS (WB++([36,123]:Bk))),.vec 900000 11 0 (WJ.map ak),.p (eB WI)])]⟩) Z Z) ?_);refine nx 2 Z (bd h2 λ XE e50 h2=>?_);refine mO Z (cVq [1000000] [900000] 104000 104001 (HO.c e50) Tryz.call76 Z ?_);exact nx 2 Z (eX _ (oi h2).symm (bm (cb 104000 106000 Z Z Z Z Z) (gE Z Z)))
   refine nx 4 Z (bd h2 λ Vb e52 h2=>?_);refine oK (dk (sub Wc Vq (Wc.length:Int)) ([36,123]:Bk) _ e52) Z ⟨sr,sr,trivial⟩ Tryz.call75 Z (nx 2 Z ?_);refine fB [45,47] h2 Z (λ c53 h2=>?_) λ c53 h2=>?_
   ·refine nx 3 Z (bd h2 λ V8 e55 h2=>?_);refine mO Z (cVq [1000000] [900000] 105000 105001 (HO.c e55) Tryz.call77 Z ?_);exact nx 2 Z (eX _ (oi h2).symm (bm (cb 105000 106000 Z Z Z Z Z) (gE Z Z)))
   refine nx 3 Z (bd h2 λ VR e57 h2=>?_);refine mO Z (cVq [1000000] [900000] 106000 106001 (HO.c e57) Tryz.call78 Z ?_);exact bP
  exact az
 ·refine λ OF=>hO good [] [1000000] Tryz.func65 Z Z λ r h0 _ w0 F=>?_;rw [aD] at h0;refine nx 7 Z (bd h0 λ r1 e2 h0=>?_);refine mO Z (cVq [1000000] [] 101000 101000 (HO.c e2) Tryz.call100 Z ?_);refine nx 7 Z (bd h0 λ r3 e4 h0=>?_);refine mO Z (cVq [1000000] [] 102000 102000 (HO.c e4) Tryz.call101 Z ?_);refine nx 2 Z (fB [10] h0 Z (λ c5 h0=>?_) λ c5 h0=>?_)
  ·exact J0
  refine nx 5 Z (K0 λ r6 h0=>?_);refine nx 4 Z (K0 λ r8 h0=>?_);refine nx 6 Z (K0 λ UN h0=>?_);refine nx 4 Z (bd h0 λ US e13 h0=>?_);refine mO Z (cVq [1000000] [] 106000 106000 (HO.c e13) Tryz.call65 Z ?_);refine nx 8 Z (mO Z (aK ak [r1.1,r8.1,US.1] Z Z Z Z Z Z Z Z Z Z Z Z Z fF ?_));exact J0
 ·refine λ Pn=>hO good [800000] [1000000] Tryz.func77 Z Z λ r h0 _ w0 F=>?_;rw [aP] at h0;refine nx 7 Z (bd h0 λ r1 e2 h0=>?_);refine mO Z (cVq [1000000] [900000] 101000 101001 (HO.c e2) Tryz.call40 Z ?_);refine nx 9 Z (cc' h0 λ YF h0=>?_);refine bd h0 λ r4 e5 h0=>mD [(0,.ptr 1000000 0),(2,.ptr 2 0)] Z ⟨Z,Z,trivial⟩ Z (dR 8 Z ?_);refine dq (.p (eI (r1.fi+2))) [18] Z (λ _ e _ q=>ap Z (fM Z Z Z (e _ _ Z) Z Z YF q)) Z (dq (.p (eI r4)) [14,19] Z (λ _ e _ q=>ap Z (cW (HP.c e5) Z Z Z (aE (e _ _ Z) (aE (e _ _ Z) bz)) ⟨sr,sr,trivial⟩ Tryz.call124 Z q)) Z ?_);refine dR 1 Z (dE Z ?_);refine nx 7 Z (fD [22] h0 Z (λ c6 h0=>?_) λ c6 h0=>?_)
  ·refine nx 2 Z (cc' h0 λ Yp h0=>?_);refine mG (gE (t:=⟨[(0,.ptr 1000000 0),(2,.ptr 2 0)],[(2,cB),(1000000,[.p (eS r1.fs),.p (eI r1.fat),.p (eI r1.fi),.p (eI r1.E'),.p (eS r1.Gw),.vec 101000 11 0 (r1.B'.map ak),.p (eB true)])]⟩) Z Z) (mSq ⟨1,[10],(λ _=>.none),(λ _=>[(0,.ptr 1000000 0),(2,.ptr 2 0)]),(ob2 ([(2,cB),(1000000,[.p (eS r1.fs),.p (eI r1.fat),.p (eI r1.fi),.p (eI r1.E'),.p (eS r1.Gw),.vec 101000 11 0 (r1.B'.map ak),.p (eB true)])]) (2,[.p (eI 40),.p (eI (r1.fat+r1.fi)),.p (eS ([]:Bk))]))⟩ Z ?_);refine dPc (.ptr 1000000 0) Z (dPc (.ptr 1000000 0) Z ?_);refine dPc (.ptr 1000000 1) Z (dPc (.p (eI r1.fat)) Z ?_);refine dPc (.ptr 1000000 0) Z (dPc (.ptr 1000000 0) Z ?_);refine dPc (.ptr 1000000 2) Z (dPc (.p (eI r1.fi)) Z ?_);refine dO (.p (eI (r1.fat+r1.fi))) [26,30] Z (λ _ sl Sk K hK=>ap Z (fM Z Z Z (Sk _ _ Z) (Sk _ _ Z) Z Yp hK)) (dPc (.p (.agg [eI 40,eI (r1.fat+r1.fi),eS ([]:Bk)])) Z ?_);refine dS Z (eT ?_);exact nx 2 Z Dp
  refine nx 3 Z (cc' h0 λ hk8 h0=>?_);refine cc' h0 λ ZC h0=>cc' h0 λ Xh h0=>cc' h0 λ WV h0=>bd h0 λ US e13 h0=>mG (gE (t:=⟨[(0,.ptr 1000000 0),(2,.ptr 2 0),(3,.p (eI r4))],[(2,cB),(1000000,[.p (eS r1.fs),.p (eI r1.fat),.p (eI r1.fi),.p (eI r1.E'),.p (eS r1.Gw),.vec 101000 11 0 (r1.B'.map ak),.p (eB true)])]⟩) Z Z) (mSS ⟨4,[25,26,27,28],(by5 (.some λ i=>Nat.beq i 4) (.some λ i=>Nat.beq i 5) .none .none .none),(λ _=>[(0,.ptr 1000000 0),(2,.ptr 2 0),(3,.p (eI r4))]),(ob5 ([(2,cB),(1000000,[.p (eS r1.fs),.p (eI r1.fat),.p (eI r1.fi),.p (eI r1.E'),.p (eS r1.Gw),.vec 101000 11 0 (r1.B'.map ak),.p (eB true)])]) (4,bB) (5,cB) (4,((ac.cs US.1).map .p)) (5,((ao.cs US.2).map .p)))⟩ ⟨4,[26,25,27,28],(by5 (.some λ i=>Nat.beq i 5) (.some λ i=>Nat.beq i 4) .none .none .none),(λ _=>[(0,.ptr 1000000 0),(2,.ptr 2 0),(3,.p (eI r4))]),(ob5 ([(2,cB),(1000000,[.p (eS r1.fs),.p (eI r1.fat),.p (eI r1.fi),.p (eI r1.E'),.p (eS r1.Gw),.vec 101000 11 0 (r1.B'.map ak),.p (eB true)])]) (5,cB) (4,bB) (4,((ac.cs US.1).map .p)) (5,((ao.cs US.2).map .p)))⟩ Z Z Z Z Z Z Z ⟨Z,Z,Z,trivial⟩ Z (lt4 ⟨Z,Z,Z,trivial⟩ ⟨Z,Z,Z,trivial⟩ ⟨Z,Z,Z,trivial⟩ ⟨Z,Z,Z,trivial⟩) (lt4 ⟨Z,Z,Z,trivial⟩ ⟨Z,Z,Z,trivial⟩ ⟨Z,Z,Z,trivial⟩ ⟨Z,Z,Z,trivial⟩) Z Z Z Z Z ?_);refine dPc (.ptr 1000000 0) Z (dPc (.ptr 1000000 0) Z ?_);refine dPc (.ptr 1000000 0) Z (dPc (.p (eS r1.fs)) Z ?_);refine dPc (.ptr 1000000 0) Z (dPc (.ptr 1000000 0) Z ?_);refine dPc (.ptr 1000000 2) Z (dPc (.p (eI r1.fi)) Z ?_);refine dO (.p (eI (r1.fi+2))) [41] Z (λ _ sl Sk K hK=>ap Z (fM Z Z Z (Sk _ _ Z) Z Z hk8 hK)) (dPc (.p (eI r4)) Z ?_);refine dO (.p (eS (sub r1.fs (r1.fi+2) r4))) [37,42,43] Z (λ _ sl Sk K hK=>ap Z (fH (a:=r1.fs) (l:=r1.fi+2) (h:=r4) Z Z Z Z Z (Sk _ _ Z) x9 yi ZC hK)) (dPc (.ptr 1000000 0) Z ?_);refine dPc (.ptr 1000000 0) Z (dPc (.ptr 1000000 1) Z ?_);refine dPc (.p (eI r1.fat)) Z (dPc (.ptr 1000000 0) Z ?_);refine dPc (.ptr 1000000 0) Z (dPc (.ptr 1000000 2) Z ?_);refine dPc (.p (eI r1.fi)) Z (dO (.p (eI (r1.fat+r1.fi))) [48,52] Z (λ _ sl Sk K hK=>ap Z (fM Z Z Z (Sk _ _ Z) (Sk _ _ Z) Z Xh hK)) ?_);refine dO (.p (eI ((r1.fat+r1.fi)+2))) [53] Z (λ _ sl Sk K hK=>ap Z (fM Z Z Z (Sk _ _ Z) Z Z WV hK)) (dO (.tuple [.p (.agg (ac.cs US.1)),.p (.agg (ao.cs US.2))]) [44,54] Z (λ _ sl Sk K hK=>ap Z (cW (HP.c e13) Z Z Z (aE (Sk _ _ Z) (aE (Sk _ _ Z) bz)) ⟨sr,sr,trivial⟩ Tryz.call33 Z hK)) ?_);refine dPc (.tuple [.p (.agg (ac.cs US.1)),.p (.agg (ao.cs US.2))]) Z (dPc (.p (.agg (ac.cs US.1))) Z ?_);refine dPc (.p (.agg (ao.cs US.2))) Z (dI (λ _=>.ptr 4 0) [] Z (λ sl Sk K hK=>ap Z (fU Z Z Z Z Z hK)) ?_);refine dI (λ _=>.ptr 5 0) [] Z (λ sl Sk K hK=>ap Z (fU Z Z Z Z Z hK)) (dS Z ?_);refine dS Z (xL (dPc (.ptr 1000000 0) Z (dPc (.ptr 1000000 0) Z (dPc (.ptr 1000000 0) Z (dPc (.p (eS r1.fs)) Z (dPc (.ptr 1000000 0) Z (dPc (.ptr 1000000 0) Z (dPc (.ptr 1000000 2) Z (dPc (.p (eI r1.fi)) Z (dO (.p (eI (r1.fi+2))) [41] Z (λ _ sl Sk K hK=>ap Z (fM Z Z Z (Sk _ _ Z) Z Z hk8 hK)) (dPc (.p (eI r4)) Z (dO (.p (eS (sub r1.fs (r1.fi+2) r4))) [37,42,43] Z (λ _ sl Sk K hK=>ap Z (fH (a:=r1.fs) (l:=r1.fi+2) (h:=r4) Z Z Z Z Z (Sk _ _ Z) x9 yi ZC hK)) (dPc (.ptr 1000000 0) Z (dPc (.ptr 1000000 0) Z (dPc (.ptr 1000000 1) Z (dPc (.p (eI r1.fat)) Z (dPc (.ptr 1000000 0) Z (dPc (.ptr 1000000 0) Z (dPc (.ptr 1000000 2) Z (dPc (.p (eI r1.fi)) Z (dO (.p (eI (r1.fat+r1.fi))) [48,52] Z (λ _ sl Sk K hK=>ap Z (fM Z Z Z (Sk _ _ Z) (Sk _ _ Z) Z Xh hK)) (dO (.p (eI ((r1.fat+r1.fi)+2))) [53] Z (λ _ sl Sk K hK=>ap Z (fM Z Z Z (Sk _ _ Z) Z Z WV hK)) (dO (.tuple [.p (.agg (ac.cs US.1)),.p (.agg (ao.cs US.2))]) [44,54] Z (λ _ sl Sk K hK=>ap Z (cW (HP.c e13) Z Z Z (aE (Sk _ _ Z) (aE (Sk _ _ Z) bz)) ⟨sr,sr,trivial⟩ Tryz.call33 Z hK)) (dPc (.tuple [.p (.agg (ac.cs US.1)),.p (.agg (ao.cs US.2))]) Z (dPc (.p (.agg (ac.cs US.1))) Z (dPc (.p (.agg (ao.cs US.2))) Z (dI (λ _=>.ptr 4 0) [] Z (λ sl Sk K hK=>ap Z (fU Z Z Z Z Z hK)) (dI (λ _=>.ptr 5 0) [] Z (λ sl Sk K hK=>ap Z (fU Z Z Z Z Z hK)) (dS Z (dS Z (LI Z ⟨Z,Z,Z,Z,Z,Z,trivial⟩ ⟨⟨Z,Z,.inl Z⟩,⟨⟨Z,Z,.inl Z⟩,⟨⟨Z,Z,.inr Z⟩,⟨⟨Z,Z,.inr Z⟩,⟨⟨Z,Z,.inr Z⟩,⟨⟨Z,Z,.inr Z⟩,⟨⟨Z,Z,.inr Z⟩,⟨⟨Z,Z,.inr Z⟩,⟨⟨Z,Z,.inr Z⟩,⟨⟨Z,Z,.inr Z⟩,⟨⟨Z,Z,.inr Z⟩,⟨⟨Z,Z,.inr Z⟩,⟨⟨Z,Z,.inr Z⟩,⟨⟨Z,Z,.inr Z⟩,⟨⟨Z,Z,.inr Z⟩,⟨⟨Z,Z,.inr Z⟩,⟨⟨Z,Z,.inr Z⟩,⟨⟨Z,Z,.inr Z⟩,⟨⟨Z,Z,.inr Z⟩,⟨⟨Z,Z,.inr Z⟩,⟨⟨Z,Z,.inr Z⟩,⟨⟨Z,Z,.inr Z⟩,⟨⟨Z,Z,.inr Z⟩,⟨⟨Z,Z,.inr Z⟩,⟨⟨Z,Z,.inr Z⟩,⟨⟨Z,Z,.inr Z⟩,⟨⟨Z,Z,.inr Z⟩,trivial⟩⟩⟩⟩⟩⟩⟩⟩⟩⟩⟩⟩⟩⟩⟩⟩⟩⟩⟩⟩⟩⟩⟩⟩⟩⟩⟩)))))))))))))))))))))))))))))) ?_);refine nx 1 Z (mG (gE (t:=⟨[(0,.ptr 1000000 0),(2,.ptr 2 0),(3,.p (eI r4)),(4,.ptr 4 0),(5,.ptr 5 0)],[(2,cB),(4,(ac.cs US.1).map .p),(5,(ao.cs US.2).map .p),(1000000,[.p (eS r1.fs),.p (eI r1.fat),.p (eI r1.fi),.p (eI r1.E'),.p (eS r1.Gw),.vec 101000 11 0 (r1.B'.map ak),.p (eB true)])]⟩) Z Z) ?_);refine nx 7 Z (fN [60] h0 Z (λ YK h0=>?_) λ YK h0=>?_)
  ·refine nx 3 Z (cc' h0 λ Wr h0=>?_);refine mG (gE (t:=⟨[(0,.ptr 1000000 0),(2,.ptr 2 0),(3,.p (eI r4)),(4,.ptr 4 0)],[(2,cB),(4,(ac.cs US.1).map .p),(1000000,[.p (eS r1.fs),.p (eI r1.fat),.p (eI r1.fi),.p (eI r1.E'),.p (eS r1.Gw),.vec 101000 11 0 (r1.B'.map ak),.p (eB true)])]⟩) Z Z) (mSP ⟨3,[7,9,12],(by4 (.some λ i=>Nat.beq i 101000||Nat.beq i 69) (.fn (upP 69 11 (.agg (ac.cs US.1)))) .none .none),(λ _=>[(0,.ptr 1000000 0),(2,.ptr 2 0),(3,.p (eI r4)),(4,.ptr 4 0)]),(by4 ([(2,cB),(4,((ac.cs US.1).map .p)),(1000000,[.p (eS r1.fs),.p (eI r1.fat),.p (eI r1.fi),.p (eI r1.E'),.p (eS r1.Gw),.vec 101000 11 0 (r1.B'.map ak),.p (eB true)])]) ([(2,cB),(4,((ac.cs US.1).map .p)),(1000000,[.p (eS r1.fs),.p (eI r1.fat),.p (eI r1.fi),.p (eI r1.E'),.p (eS r1.Gw),.p (eL ak r1.B'),.p (eB true)])]) ([(2,cB),(4,((ac.cs US.1).map .p)),(1000000,[.p (eS r1.fs),.p (eI r1.fat),.p (eI r1.fi),.p (eI r1.E'),.p (eS r1.Gw),.p (eL ak r1.B'),.p (eB true)])]) ([(1000000,[.p (eS r1.fs),.p (eI r1.fat),.p (eI r1.fi),.p (eI r1.E'),.p (eS r1.Gw),.vec 69 11 0 (r1.B'.map ak++[.agg (ac.cs US.1)]),.p (eB true)]),(2,cB),(4,((ac.cs US.1).map .p)),(1000000,[.p (eS r1.fs),.p (eI r1.fat),.p (eI r1.fi),.p (eI r1.E'),.p (eS r1.Gw),.p (eL ak r1.B'),.p (eB true)])]))⟩ ⟨3,[7,12,9],(by4 (.some λ i=>Nat.beq i 101000||Nat.beq i 69) .none (.fn (upP 69 11 (.agg (ac.cs US.1)))) .none),(λ _=>[(0,.ptr 1000000 0),(2,.ptr 2 0),(3,.p (eI r4)),(4,.ptr 4 0)]),(by4 ([(2,cB),(4,((ac.cs US.1).map .p)),(1000000,[.p (eS r1.fs),.p (eI r1.fat),.p (eI r1.fi),.p (eI r1.E'),.p (eS r1.Gw),.vec 101000 11 0 (r1.B'.map ak),.p (eB true)])]) ([(2,cB),(4,((ac.cs US.1).map .p)),(1000000,[.p (eS r1.fs),.p (eI r1.fat),.p (eI r1.fi),.p (eI r1.E'),.p (eS r1.Gw),.p (eL ak r1.B'),.p (eB true)])]) ([(1000000,[.p (eS r1.fs),.p (eI r1.fat),.p (eI r1.fi),.p (eI r1.E'),.p (eS r1.Gw),.vecp 69 11 0 (r1.B'.map ak),.p (eB true)]),(2,cB),(4,((ac.cs US.1).map .p)),(1000000,[.p (eS r1.fs),.p (eI r1.fat),.p (eI r1.fi),.p (eI r1.E'),.p (eS r1.Gw),.p (eL ak r1.B'),.p (eB true)])]) ([(1000000,[.p (eS r1.fs),.p (eI r1.fat),.p (eI r1.fi),.p (eI r1.E'),.p (eS r1.Gw),.vec 69 11 0 (r1.B'.map ak++[.agg (ac.cs US.1)]),.p (eB true)]),(2,cB),(4,((ac.cs US.1).map .p)),(1000000,[.p (eS r1.fs),.p (eI r1.fat),.p (eI r1.fi),.p (eI r1.E'),.p (eS r1.Gw),.p (eL ak r1.B'),.p (eB true)])]))⟩ Z Z Z Z Z Z Z ⟨Z,Z,Z,Z,trivial⟩ Z (lt3 ⟨Z,Z,Z,Z,trivial⟩ ⟨Z,Z,Z,Z,trivial⟩ ⟨Z,Z,Z,Z,trivial⟩) (lt3 ⟨Z,Z,Z,Z,trivial⟩ ⟨Z,Z,Z,Z,trivial⟩ ⟨Z,Z,Z,Z,trivial⟩) Z Z Z Z Z ?_);refine dPc (.ptr 1000000 0) Z (dPc (.ptr 1000000 0) Z ?_);refine dPc (.ptr 1000000 5) Z (dP (by4 (.vec 101000 11 0 (r1.B'.map ak)) (.p (eL ak r1.B')) (.p (eL ak r1.B')) (.p (eL ak r1.B'))) Z ?_);refine dPc (.p (.agg (ac.cs US.1))) Z (dO (.p (eI (r1.B'.length:Int))) [65] Z (λ _ sl Sk K hK=>ap Z (nR (f:=ak) (l:=r1.B') Z Z Z Z Z (Sk _ _ Z) Z hK)) ?_);refine dO (.p (eL (λ x:PV=>x) [.agg pT])) [] Z (λ _ sl Sk K hK=>ap Z (aK (λ x:PV=>x) [.agg pT] Z Z Z Z Z Z (cU Z Z d5) Z Z Z Z Z Z Z hK)) (dI (by4 (.vecp 69 11 0 (r1.B'.map ak)) (.vecp 69 11 0 (r1.B'.map ak)) (.vec 69 11 0 (r1.B'.map ak++[.agg (ac.cs US.1)])) (.vec 69 11 0 (r1.B'.map ak++[.agg (ac.cs US.1)]))) [65,68] Z (λ sl Sk K hK=>ap Z (rj ak r1.B' Z Z Z Z Z Z Z Z (Sk _ _ Z) Z Z (Sk _ _ Z) Z Z Z Z Z Wr hK)) ?_);refine rt (by4 (.elp 69 11) (.elp 69 11) .undef .undef) Z Z Z (F4 Z Z Z Y) (lt3 (nl Z) Y Y) (iW Z (iW Z (hQ [(67,_),(69,_)] ⟨.inr ⟨5,_,Z,Z,Z⟩,.inr ⟨7,_,Z,Z,Z⟩,trivial⟩ (λ sl Sk K hK=>ap Z (qu Z Z Z Z Z Z Z (Sk _ _ Z) (Sk _ _ Z) sy hK)) (iW Z lA)))) (lZ [(66,_),(70,_)] Z ⟨.inr ⟨4,_,Z,Z,Z⟩,.inr ⟨8,_,Z,Z,Z⟩,trivial⟩ Z (λ sl Sk K hK=>ap Z (xp (z:=.agg (ac.cs US.1)) Z Z Z Z (Sk _ _ Z) (Sk _ _ Z) Z Z Z Z Z hK)) ?_);refine dPc (.ptr 1000000 0) Z (dPc (.ptr 1000000 5) Z ?_);refine dS Z (xL (dPc (.ptr 1000000 0) Z (dPc (.ptr 1000000 0) Z (dPc (.ptr 1000000 5) Z (dP (by4 (.vec 101000 11 0 (r1.B'.map ak)) (.p (eL ak r1.B')) (.p (eL ak r1.B')) (.p (eL ak r1.B'))) Z (dPc (.p (.agg (ac.cs US.1))) Z (dO (.p (eI (r1.B'.length:Int))) [65] Z (λ _ sl Sk K hK=>ap Z (nR (f:=ak) (l:=r1.B') Z Z Z Z Z (Sk _ _ Z) Z hK)) (dO (.p (eL (λ x:PV=>x) [.agg pT])) [] Z (λ _ sl Sk K hK=>ap Z (aK (λ x:PV=>x) [.agg pT] Z Z Z Z Z Z (cU Z Z d5) Z Z Z Z Z Z Z hK)) (dI (by4 (.vecp 69 11 0 (r1.B'.map ak)) (.vecp 69 11 0 (r1.B'.map ak)) (.vecp 69 11 0 (r1.B'.map ak)) (.vec 69 11 0 (r1.B'.map ak++[.agg (ac.cs US.1)]))) [65,68] Z (λ sl Sk K hK=>ap Z (rj ak r1.B' Z Z Z Z Z Z Z Z (Sk _ _ Z) Z Z (Sk _ _ Z) Z Z Z Z Z Wr hK)) (rt (by4 (.elp 69 11) (.elp 69 11) (.elp 69 11) .undef) Z Z Z (F4 Z Z Z Y) (lt3 (nl Z) Y Y) (iW Z (hQ [(67,_),(69,_)] ⟨.inr ⟨5,_,Z,Z,Z⟩,.inr ⟨7,_,Z,Z,Z⟩,trivial⟩ (λ sl Sk K hK=>ap Z (qu Z Z Z Z Z Z Z (Sk _ _ Z) (Sk _ _ Z) sy hK)) (hQ [(67,_),(69,_)] ⟨.inr ⟨5,_,Z,Z,Z⟩,.inr ⟨7,_,Z,Z,Z⟩,trivial⟩ (λ sl Sk K hK=>ap Z (qu Z Z Z Z Z Z Z (Sk _ _ Z) (Sk _ _ Z) sy hK)) (iW Z lA)))) (lZ [(66,_),(70,_)] Z ⟨.inr ⟨4,_,Z,Z,Z⟩,.inr ⟨8,_,Z,Z,Z⟩,trivial⟩ Z (λ sl Sk K hK=>ap Z (xp (z:=.agg (ac.cs US.1)) Z Z Z Z (Sk _ _ Z) (Sk _ _ Z) Z Z Z Z Z hK)) (dPc (.ptr 1000000 0) Z (dPc (.ptr 1000000 5) Z (dS Z (Ds Z ⟨Z,Z,Z,Z,trivial⟩ ⟨⟨Z,Z,.inr Z⟩,⟨⟨Z,Z,.inr Z⟩,⟨⟨Z,Z,.inr Z⟩,⟨⟨Z,Z,.inr Z⟩,⟨⟨Z,Z,.inr Z⟩,⟨⟨Z,Z,.inr Z⟩,⟨⟨Z,Z,.inr Z⟩,⟨⟨Z,Z,.inr Z⟩,⟨⟨Z,Z,.inr Z⟩,⟨⟨Z,Z,.inr Z⟩,⟨⟨Z,Z,.inr Z⟩,trivial⟩⟩⟩⟩⟩⟩⟩⟩⟩⟩⟩)))))))))))))) ?_);refine mG (d3 (t:=⟨[(0,.ptr 1000000 0),(2,.ptr 2 0),(3,.p (eI r4))],[(2,cB),(1000000,[.p (eS r1.fs),.p (eI r1.fat),.p (eI r1.fi),.p (eI r1.E'),.p (eS r1.Gw),.vec 69 11 0 ((r1.B'++[US.1]).map ak),.p (eB true)])]⟩) (ma ⟨er Z,er Z,er Z,trivial⟩ ⟨⟨_,Z,⟨sr,sr,sr,trivial⟩⟩,⟨_,Z,⟨sr,sr,sr,sr,sr,AV.sub_of_eq Hf,sr,trivial⟩⟩,trivial⟩)) (nx 5 Z ?_);exact oA h0 Z Z λ V7 h0=>nx 21 Z (mQo (oi h0) (bm (cb 69 800000 Z Z Z Z Z) (aU _)) Z Z Z Z (sr) ⟨⟨_,Z,⟨sr,sr,sr,sr,sr,sr,sr,trivial⟩⟩,trivial⟩)
  exact nx 7 Z Dp
 ·refine λ OF O'=>hO good [] [1000000] Tryz.func100 Z Z λ r h0 _ w0 F=>?_;rw [ba] at h0;refine nx 10 Z (fD [10] h0 Z (λ c1 h0=>?_) λ c1 h0=>?_)
  ·exact J0
  refine nx 6 rfl (oA h0 Z Z λ Yq h0=>?_);refine bd h0 λ r5 e6 h0=>mO rfl (cVq [1000000] [] 102000 102000 (HO.c e6) Tryz.call100 rfl ?_);refine nx 4 rfl ?_;obtain ⟨o90,h1,UV,hR0⟩:=bo h0;refine kEx 0 (λ v91:(List ab)×Int×Int×Int×Int×Int×Bk=>o90=.inl v91) (λ v91=>⟨[],[(1000000,(fV v91))]⟩) (λ v91 hv=>?_) ?_
  ·exact Ck
  refine lG (λ (V0:Int×Int×Bk×Bk×Int×Int×Bk×(List am)×(List Bk)×(List ac)×(List ab)×Int×Int×Int×Int×Int×Bk)=>⟨[(0,.ptr 1000000 0),(1,.p (eI O')),(4,.ptr 4 0),(5,.ptr 5 0)],[(4,bB),(5,[.p (eI V0.1),.p (eI V0.2.1),.p (eS V0.2.2.1),.p (eS V0.2.2.2.1),.p (eI V0.2.2.2.2.1),.p (eI V0.2.2.2.2.2.1),.p (eS V0.2.2.2.2.2.2.1),.p (eL db V0.2.2.2.2.2.2.2.1),.p (eL eS V0.2.2.2.2.2.2.2.2.1),.p (eL ak V0.2.2.2.2.2.2.2.2.2.1),.p (eI r5.1.fAt)]),(1000000,(fV V0.2.2.2.2.2.2.2.2.2.2))]⟩) (λ m (V0:Int×Int×Bk×Bk×Int×Int×Bk×(List am)×(List Bk)×(List ac)×(List ab)×Int×Int×Int×Int×Int×Bk)=>bV n (ba n) O' r5 m V0.1 V0.2.1 V0.2.2.1 V0.2.2.2.1 V0.2.2.2.2.1 V0.2.2.2.2.2.1 V0.2.2.2.2.2.2.1 V0.2.2.2.2.2.2.2.1 V0.2.2.2.2.2.2.2.2.1 V0.2.2.2.2.2.2.2.2.2.1 V0.2.2.2.2.2.2.2.2.2.2.1 V0.2.2.2.2.2.2.2.2.2.2.2.1 V0.2.2.2.2.2.2.2.2.2.2.2.2.1 V0.2.2.2.2.2.2.2.2.2.2.2.2.2.1 V0.2.2.2.2.2.2.2.2.2.2.2.2.2.2.1 V0.2.2.2.2.2.2.2.2.2.2.2.2.2.2.2.1 V0.2.2.2.2.2.2.2.2.2.2.2.2.2.2.2.2) Y (r5.1.Ar,r5.1.fOp,r5.1.AI,r5.1.D',r5.1.A'.Ar,r5.1.A'.F',r5.1.A'.If,r5.1.A'.Df,r5.1.A'.C',r5.1.BY,r5.2.fl,r5.2.fat,r5.2.H',r5.2.G',r5.2.AT.Ar,r5.2.AT.fAt,r5.2.AT.AI) h1 (gE rfl rfl) ?_;rintro m ⟨WK,Vq,Wb,WB,WJ,WI,WH,WG,Xa,W9,Zp,Zo,Yj,Yi,Yh,WW,Xj⟩ h1;replace h1:bV n (ba n) O' r5 (m+1) WK Vq Wb WB WJ WI WH WG Xa W9 Zp Zo Yj Yi Yh WW Xj=some o90:=h1;rw [bV] at h1;refine nx 5 rfl (bd h1 λ Zx e54 h1=>?_);refine oK (HP.c e54) rfl ⟨sr,trivial⟩ Tryz.call141 rfl (K1 λ U0 h1=>?_);refine nx 12 rfl (fB [25] h1 rfl (λ c57 h1=>?_) λ c57 h1=>?_)
  ·exact az
  refine nx 5 Z (bd h1 λ Vi e59 h1=>?_);refine mO Z (cVq [1000000] [] 107000 107000 (HO.c e59) Tryz.call102 Z ?_);refine nx 5 Z (oA h1 Z Z λ Zd h1=>?_);refine bd h1 λ Va e62 h1=>mO Z (cVq [1000000] [] 108000 108000 (HO.c e62) Tryz.call100 Z ?_);refine nx 3 Z (bd h1 λ Ww e64 h1=>?_);refine mG (gE (t:=⟨[(0,.ptr 1000000 0),(1,.p (eI O')),(4,.ptr 4 0),(5,.ptr 5 0),(6,.p (eS U0.1)),(8,.ptr 8 0)],[(4,bB),(5,[.p (eI WK),.p (eI Vq),.p (eS Wb),.p (eS WB),.p (eI WJ),.p (eI WI),.p (eS WH),.p (eL db WG),.p (eL eS Xa),.p (eL ak W9),.p (eI r5.1.fAt)]),(8,(ac.cs Va.1).map .p),(1000000,(al.cs Va.2).map .p)]⟩) Z Z) (mSq ⟨1,[8],(λ _=>.none),(λ _=>[(0,.ptr 1000000 0),(1,.p (eI O')),(4,.ptr 4 0),(5,.ptr 5 0),(6,.p (eS U0.1)),(8,.ptr 8 0)]),(ob2 ([(4,bB),(5,[.p (eI WK),.p (eI Vq),.p (eS Wb),.p (eS WB),.p (eI WJ),.p (eI WI),.p (eS WH),.p (eL db WG),.p (eL eS Xa),.p (eL ak W9),.p (eI r5.1.fAt)]),(8,((ac.cs Va.1).map .p)),(1000000,((al.cs Va.2).map .p))]) (5,[.p (eI 7),.p (eI Ww),.p (eS ([]:Bk)),.p (eS ([]:Bk)),.p (eI 0),.p (eI 0),.p (eS ([]:Bk)),.p (.val (.slice none 0 0)),.p (.val (.slice none 0 0)),.p (eL ak [(ac.mk WK Vq Wb WB (am.mk WJ WI WH WG Xa) W9 r5.1.fAt),Va.1]),.p (eI r5.1.fAt)]))⟩ Z ?_);refine dPc (.p (eS U0.1)) Z (dO (.p (eI Ww)) [33] Z (λ _ sl Sk K hK=>ap Z (cW (HP.c e64) Z Z Z (aE (Sk _ _ Z) bz) ⟨sr,trivial⟩ Tryz.call142 Z hK)) ?_);refine dPc (.p (.agg [eI WK,eI Vq,eS Wb,eS WB,eI WJ,eI WI,eS WH,eL db WG,eL eS Xa,eL ak W9,eI r5.1.fAt])) Z (dPc (.p (.agg (ac.cs Va.1))) Z ?_);refine dO (.p (eL ak [(ac.mk WK Vq Wb WB (am.mk WJ WI WH WG Xa) W9 r5.1.fAt),Va.1])) [35,36] Z (λ _ sl Sk K hK=>ap Z (aK ak [(ac.mk WK Vq Wb WB (am.mk WJ WI WH WG Xa) W9 r5.1.fAt),Va.1] Z Z Z Z Z Z (cU (Sk _ _ Z) Z (cU (Sk _ _ Z) Z d5)) Z Z Z Z Z Z fF hK)) (dPc (.ptr 5 10) Z ?_);refine dPc (.p (eI r5.1.fAt)) Z (dPc (.p (.agg [eI 7,eI Ww,eS ([]:Bk),eS ([]:Bk),eI 0,eI 0,eS ([]:Bk),.val (.slice none 0 0),.val (.slice none 0 0),eL ak [(ac.mk WK Vq Wb WB (am.mk WJ WI WH WG Xa) W9 r5.1.fAt),Va.1],eI r5.1.fAt])) Z ?_);refine dS Z (eT ?_);exact nx 1 Z (eX (7,Ww,([]:Bk),([]:Bk),0,0,([]:Bk),[],[],[(ac.mk WK Vq Wb WB (am.mk WJ WI WH WG Xa) W9 r5.1.fAt),Va.1],Va.2.fl,Va.2.fat,Va.2.H',Va.2.G',Va.2.AT.Ar,Va.2.AT.fAt,Va.2.AT.AI) h1 (d3 (ma ⟨er Z,er Z,er Z,er Z,trivial⟩ ⟨⟨_,Z,⟨sr,sr,sr,sr,sr,sr,sr,sr,sr,sr,sr,trivial⟩⟩,⟨_,Z,⟨sr,sr,sr,sr,sr,sr,sr,jr _,jr _,sr,sr,trivial⟩⟩,⟨_,Z,⟨sr,sr,sr,sr,sr,sr,sr,trivial⟩⟩,trivial⟩)))
 ·refine λ OF=>hO good [] [1000000] Tryz.func139 Z Z λ r h0 _ w0 F=>?_;rw [cY] at h0;refine nx 9 Z (bd h0 λ Xz h1 h0=>?_);refine kN Xz (λ XT=>⟨[(0,.ptr 1000000 0),(2,.ptr 2 0),(3,.p (eI XT.1))],[(2,bB),(1000000,(fV XT.2))]⟩) ?_ ?_
  ·refine nx 7 Z (fD [10] h0 Z (λ YJ h0=>?_) λ YJ h0=>?_)
   ·exact J0
   refine nx 5 Z (K0 λ Vx h0=>?_);refine nx 4 Z (bd h0 λ Vp e21 h0=>?_);refine mG (gE (t:=⟨[(0,.ptr 1000000 0),(2,.ptr 2 0),(3,.p (eI Xz.1)),(4,.ptr 4 0)],[(2,bB),(4,(ab.cs Vx.1).map .p),(1000000,(al.cs Vx.2).map .p)]⟩) Z Z) (mSq ⟨2,[2,7],(by3 (.some (cp [] 105000 105000)) .none .none),(λ _=>[(0,.ptr 1000000 0),(2,.ptr 2 0),(3,.p (eI Xz.1)),(4,.ptr 4 0)]),(by3 ([(2,bB),(4,((ab.cs Vx.1).map .p)),(1000000,((al.cs Vx.2).map .p))]) ([(1000000,((al.cs Vp.2).map .p)),(2,bB),(4,((ab.cs Vx.1).map .p))]) ([(2,[.p (eI 6),.p (eI Xz.1),.p (eS ([]:Bk)),.p (eS ([]:Bk)),.p (eI 0),.p (eI 0),.p (eS ([]:Bk)),.p (.val (.slice none 0 0)),.p (.val (.slice none 0 0)),.p (eL ak [Vp.1]),.p (eI Vx.1.fAt)]),(1000000,((al.cs Vp.2).map .p)),(2,bB),(4,((ab.cs Vx.1).map .p))]))⟩ Z ?_);refine dPc (.p (eI Xz.1)) Z (dPc (.ptr 1000000 0) Z ?_);refine dI (λ _=>.p (.agg (ac.cs Vp.1))) [16] Z (λ sl Sk K hK=>ap Z (aV [1000000] [] 105000 105000 (HO.c e21) Z Z Z (aE (Sk _ _ Z) bz) Z ⟨sr,trivial⟩ Z Z ⟨⟨_,Z,⟨sr,sr,sr,sr,sr,sr,sr,trivial⟩⟩,trivial⟩ Z Z Z Z Z Z Z Z Tryz.call139 Z Z hK)) (dO (.p (eL ak [Vp.1])) [17] Z (λ _ sl Sk K hK=>ap Z (aK ak [Vp.1] Z Z Z Z Z Z (cU (Sk _ _ Z) Z d5) Z Z Z Z Z Z fF hK)) ?_);refine dPc (.ptr 4 2) Z (dPc (.p (eI Vx.1.fAt)) Z ?_);refine dPc (.p (.agg [eI 6,eI Xz.1,eS ([]:Bk),eS ([]:Bk),eI 0,eI 0,eS ([]:Bk),.val (.slice none 0 0),.val (.slice none 0 0),eL ak [Vp.1],eI Vx.1.fAt])) Z (dS Z ?_);refine eT (nx 2 Z ?_);exact J0
  exact az
 ·refine λ OF=>hO good [] [1000000] Tryz.func166 Z Z λ r h0 _ w0 F=>?_;rw [dF] at h0;refine nx 7 rfl (bd h0 λ r1 e2 h0=>?_);refine mO rfl (cVq [1000000] [] 101000 101000 (HO.c e2) Tryz.call184 rfl ?_);refine nx 4 rfl ?_;obtain ⟨abH,h1,UV,hR0⟩:=bo h0;refine kEx 0 (λ ZF:(List ab)×Int×Int×Int×Int×Int×Bk=>abH=.inl ZF) (λ ZF=>⟨[],[(1000000,(fV ZF))]⟩) (λ ZF hv=>?_) ?_
  ·exact Ck
  refine lG (λ (U3:Int×Int×Bk×Bk×Int×Int×Bk×(List am)×(List Bk)×(List ac)×(List ab)×Int×Int×Int×Int×Int×Bk)=>⟨[(0,.ptr 1000000 0),(2,.ptr 2 0),(3,.ptr 3 0)],[(2,bB),(3,[.p (eI U3.1),.p (eI U3.2.1),.p (eS U3.2.2.1),.p (eS U3.2.2.2.1),.p (eI U3.2.2.2.2.1),.p (eI U3.2.2.2.2.2.1),.p (eS U3.2.2.2.2.2.2.1),.p (eL db U3.2.2.2.2.2.2.2.1),.p (eL eS U3.2.2.2.2.2.2.2.2.1),.p (eL ak U3.2.2.2.2.2.2.2.2.2.1),.p (eI r1.1.fAt)]),(1000000,(fV U3.2.2.2.2.2.2.2.2.2.2))]⟩) (λ m (U3:Int×Int×Bk×Bk×Int×Int×Bk×(List am)×(List Bk)×(List ac)×(List ab)×Int×Int×Int×Int×Int×Bk)=>bM n (aD n) r1 m U3.1 U3.2.1 U3.2.2.1 U3.2.2.2.1 U3.2.2.2.2.1 U3.2.2.2.2.2.1 U3.2.2.2.2.2.2.1 U3.2.2.2.2.2.2.2.1 U3.2.2.2.2.2.2.2.2.1 U3.2.2.2.2.2.2.2.2.2.1 U3.2.2.2.2.2.2.2.2.2.2.1 U3.2.2.2.2.2.2.2.2.2.2.2.1 U3.2.2.2.2.2.2.2.2.2.2.2.2.1 U3.2.2.2.2.2.2.2.2.2.2.2.2.2.1 U3.2.2.2.2.2.2.2.2.2.2.2.2.2.2.1 U3.2.2.2.2.2.2.2.2.2.2.2.2.2.2.2.1 U3.2.2.2.2.2.2.2.2.2.2.2.2.2.2.2.2) Y (r1.1.Ar,r1.1.fOp,r1.1.AI,r1.1.D',r1.1.A'.Ar,r1.1.A'.F',r1.1.A'.If,r1.1.A'.Df,r1.1.A'.C',r1.1.BY,r1.2.fl,r1.2.fat,r1.2.H',r1.2.G',r1.2.AT.Ar,r1.2.AT.fAt,r1.2.AT.AI) h1 (gE rfl rfl) ?_;rintro m ⟨WW,Xj,Yg,Zn,Zm,Zl,Zk,f58,f59,Xi,Yf,Ye,Yd,Yc,Yb,Ya,X9⟩ h1;replace h1:bM n (aD n) r1 (m+1) WW Xj Yg Zn Zm Zl Zk f58 f59 Xi Yf Ye Yd Yc Yb Ya X9=some abH:=h1;rw [bM] at h1;refine nx 1 rfl ?_;obtain ⟨o128,h2,hL1,hR1⟩:=bo h1;refine kX (λ Vt:Int×Bk×(List ac)×(List ab)×Int×Int×Int×Int×Int×Bk=>o128=.inl Vt) (λ Vt=>⟨[(0,.ptr 1000000 0),(2,.ptr 2 0),(3,.ptr 3 0)],[(2,bB),(3,[.p (eI Vt.1),.p (eI 0),.p (eS Vt.2.1),.p (eS ([]:Bk)),.p (eI 0),.p (eI 0),.p (eS ([]:Bk)),.p (.val (.slice none 0 0)),.p (.val (.slice none 0 0)),.p (eL ak Vt.2.2.1),.p (eI r1.1.fAt)]),(1000000,(fV Vt.2.2.2))]⟩) (λ Vt hv=>?_) ?_
  ·have h1:=hL1 _ hv;exact nx 1 Z (eX (Vt.1,0,Vt.2.1,([]:Bk),0,0,([]:Bk),[],[],Vt.2.2.1,Vt.2.2.2.1,Vt.2.2.2.2.1,Vt.2.2.2.2.2.1,Vt.2.2.2.2.2.2.1,Vt.2.2.2.2.2.2.2.1,Vt.2.2.2.2.2.2.2.2.1,Vt.2.2.2.2.2.2.2.2.2) h1 (d3 (ma ⟨er Z,er Z,er Z,trivial⟩ ⟨⟨_,Z,⟨sr,sr,sr,sr,sr,sr,sr,sr,sr,sr,sr,trivial⟩⟩,⟨_,Z,⟨sr,sr,sr,sr,sr,sr,sr,jr _,jr _,sr,sr,trivial⟩⟩,⟨_,Z,⟨sr,sr,sr,sr,sr,sr,sr,trivial⟩⟩,trivial⟩)))
  refine nx 4 Z (K2 λ r68 h2=>?_);refine nx 2 Z (fB [9,11] h2 Z (λ c70 h2=>?_) λ c70 h2=>?_)
  ·refine nx 4 Z (K2 λ Y0 h2=>?_);refine nx 4 Z (K2 λ VQ h2=>?_);refine nx 10 Z (fN [18] h2 Z (λ c75 h2=>?_) λ c75 h2=>?_)
   ·refine nx 5 Z (K2 λ XD h2=>?_);refine nx 5 Z (mO Z (aK ak [(ac.mk WW Xj Yg Zn (am.mk Zm Zl Zk f58 f59) Xi r1.1.fAt)] Z Z Z Z Z Z Z Z Z Z Z Z Z fF ?_));exact bP
   refine nx 6 Z (K2 λ W6 h2=>?_);exact nx 3 Z Jp
  refine nx 4 Z (K2 λ r80 h2=>?_);refine nx 2 Z (fB [32,34] h2 Z (λ c82 h2=>?_) λ c82 h2=>?_)
  ·refine nx 4 Z (K2 λ W0 h2=>?_);refine nx 4 Z (K2 λ r85 h2=>?_);refine nx 6 Z (K2 λ Z7 h2=>?_);refine nx 4 Z (mO Z (aK ak [(ac.mk WW Xj Yg Zn (am.mk Zm Zl Zk f58 f59) Xi r1.1.fAt),r85.1] Z Z Z Z Z Z Z Z Z Z Z Z Z fF ?_));exact bP
  exact nx 7 Z Jp
 ·refine λ OF=>hO good [] [1000000] Tryz.func184 Z Z λ r h0 _ w0 F=>?_;rw [cM] at h0;exact J0
 ·refine λ OF=>hO good [] [1000000] Tryz.func197 Z Z λ r h0 _ w0 F=>?_;rw [fk] at h0;exact J0
 ·refine λ OF=>hO good [] [1000000] Tryz.func198 Z Z λ r h0 _ w0 F=>?_;rw [gx] at h0;have:=js [601,1001];have:=jS 601 Bool λ v=>[(18,.p (eB v))]
  have:=jO 1001 Int λ v=>[(4,[.p (eI 1),.p (eI v),.p (eS ([]:Bk)),.p (.val (.slice none 0 0)),.p (.val (.slice none 0 0))])]
  exact J0
 ·refine λ OF=>hO good [] [1000000] Tryz.func199 Z Z λ r h0 _ w0 F=>?_;rw [gS] at h0;exact J0
 ·refine λ OF end_1=>hO good [] [1000000] Tryz.func210 Z Z λ r h0 _ w0 F=>?_;rw [gw] at h0;refine nx 10 Z (bd h0 λ o79 h1 h0=>?_);refine kE 0 o79 (λ v80=>⟨[(5,.vec 19 11 0 (v80.1.map ak))],[(1000000,(fV v80.2))]⟩) ?_ ?_
  ·exact J0
  refine lG (λ (Y4:(List ac)×(List ab)×Int×Int×Int×Int×Int×Bk)=>⟨[(0,.ptr 1000000 0),(1,.p (eS end_1)),(5,.vec 19 11 0 (Y4.1.map ak))],[(1000000,(fV Y4.2))]⟩) (λ m (Y4:(List ac)×(List ab)×Int×Int×Int×Int×Int×Bk)=>cR n (aD n) end_1 m Y4.1 Y4.2.1 Y4.2.2.1 Y4.2.2.2.1 Y4.2.2.2.2.1 Y4.2.2.2.2.2.1 Y4.2.2.2.2.2.2.1 Y4.2.2.2.2.2.2.2) Y ([],OF.fl,OF.fat,OF.H',OF.G',OF.AT.Ar,OF.AT.fAt,OF.AT.AI) h1 (d3 (ma ⟨er rfl,er rfl,⟨_,rfl,AV.sub_nilvec _ _ _⟩,trivial⟩ ⟨⟨_,rfl,⟨sr,sr,sr,sr,sr,sr,sr,trivial⟩⟩,trivial⟩)) ?_;rintro m ⟨Wu,YT,f33,f34,Wc,WK,Vq,Wb⟩ h1;replace h1:cR n (aD n) end_1 (m+1) Wu YT f33 f34 Wc WK Vq Wb=some o79:=h1;rw [cR] at h1;refine nx 2 rfl (bd h1 λ o82 h2 h1=>?_);refine kN o82 (λ v83=>⟨[(0,.ptr 1000000 0),(1,.p (eS end_1)),(5,.vec 19 11 0 (Wu.map ak)),(14,.p (eB v83.1))],[(1000000,(fV v83.2))]⟩) ?_ ?_
  ·refine nx 1 Z (fB [14] h1 Z (λ c52 h1=>?_) λ c52 h1=>?_)
   ·refine nx 7 Z (K1 λ Zx h1=>?_);refine mO Z (aK ak [Zx.1] Z Z Z Z Z Z Z Z Z Z Z Z Z fF ?_);refine cc' h1 λ ZT h1=>mO Z (ef ak Wu [Zx.1] Z Z Z Z Z Z Z Z Z Z Z Z Z (λ x=>congrArg List.length (ac.It x)) Z Z Z Z ZT ?_);exact az
   exact az
  exact bP
 ·refine λ OF N' k_2=>hO good [] [1000000] Tryz.func212 Z Z λ r h0 _ w0 F=>?_;rw [ff] at h0;refine nx 7 Z (K0 λ r1 h0=>?_);refine nx 6 Z (K0 λ r3 h0=>?_);refine nx 5 Z (bd h0 λ U5 h1 h0=>?_);refine kN U5 (λ v68=>⟨[(0,.ptr 1000000 0),(2,.p (eI k_2)),(6,.ptr 6 0),(7,.ptr 7 0)],[(6,bB),(7,(oD (.p (eI k_2)) (.p (eS v68.1)) (.p (eS v68.2.1)) (.p (eI N')))),(1000000,(fV v68.2.2))]⟩) ?_ ?_
  ·refine nx 4 Z (K0 λ UE h0=>?_);refine nx 2 Z (bd h0 λ UQ e24 h0=>?_);refine cc' h0 λ WS h0=>mG (gE (t:=⟨[(0,.ptr 1000000 0),(2,.p (eI k_2)),(6,.ptr 6 0),(7,.ptr 7 0)],[(6,bB),(7,(oD (.p (eI k_2)) (.p (eS U5.1)) (.p (eS U5.2.1)) (.p (eI N')))),(1000000,(al.cs UE).map .p)]⟩) Z Z) (mSq ⟨3,[3,5,7],(by4 (.some (cp [] 107000 107000)) (.some λ i=>Nat.beq i 33) .none .none),(λ _=>[(0,.ptr 1000000 0),(2,.p (eI k_2)),(6,.ptr 6 0),(7,.ptr 7 0)]),(by4 ([(6,bB),(7,(oD (.p (eI k_2)) (.p (eS U5.1)) (.p (eS U5.2.1)) (.p (eI N')))),(1000000,((al.cs UE).map .p))]) ([(1000000,((al.cs UQ.2).map .p)),(6,bB),(7,(oD (.p (eI k_2)) (.p (eS U5.1)) (.p (eS U5.2.1)) (.p (eI N'))))]) ([(1000000,((al.cs UQ.2).map .p)),(6,bB),(7,(oD (.p (eI k_2)) (.p (eS U5.1)) (.p (eS U5.2.1)) (.p (eI N'))))]) ([(7,(dJ (.p (eI k_2)) (.p (eS U5.1)) (.p (eS U5.2.1)) (.vec 33 11 0 ([UQ.1].map ak)) (.p (eI N')))),(1000000,((al.cs UQ.2).map .p)),(6,bB),(7,(oD (.p (eI k_2)) (.p (eS U5.1)) (.p (eS U5.2.1)) (.p (eI N'))))]))⟩ Z ?_);refine dPc (.ptr 7 9) Z (dPc (.p (.val (.slice none 0 0))) Z ?_);refine dPc (.ptr 1000000 0) Z (dI (λ _=>.p (.agg (ac.cs UQ.1))) [30] Z (λ sl Sk K hK=>ap Z (aV [1000000] [] 107000 107000 (HO.c e24) Z Z Z (aE (Sk _ _ Z) bz) Z ⟨sr,trivial⟩ Z Z ⟨⟨_,Z,⟨sr,sr,sr,sr,sr,sr,sr,trivial⟩⟩,trivial⟩ Z Z Z Z Z Z Z Z Tryz.call65 Z Z hK)) ?_);refine dO (.p (eL ak [UQ.1])) [31] Z (λ _ sl Sk K hK=>ap Z (aK ak [UQ.1] Z Z Z Z Z Z (cU (Sk _ _ Z) Z d5) Z Z Z Z Z Z fF hK)) (dI (λ _=>.vec 33 11 0 ([UQ.1].map ak)) [29,32] Z (λ sl Sk K hK=>ap Z (Ek ak [UQ.1] 0 Z Z Z Z Z Z Z Z (Sk _ _ Z) (Sk _ _ Z) Z (λ x=>congrArg List.length (ac.It x)) Z Z Z Z WS hK)) ?_);refine dPc (.ptr 7 9) Z (dS Z ?_);refine eT (nx 4 Z ?_);refine bd h0 λ Ve e27 h0=>mO Z (cVq [1000000] [] 108000 108000 (HO.c e27) Tryz.call103 Z ?_);refine nx 2 Z (bd h0 λ UX e29 h0=>?_);refine cc' h0 λ aaS h0=>mG (gE (t:=⟨[(0,.ptr 1000000 0),(2,.p (eI k_2)),(6,.ptr 6 0),(7,.ptr 7 0)],[(6,bB),(7,(dJ (.p (eI k_2)) (.p (eS U5.1)) (.p (eS U5.2.1)) (.vec 33 11 0 ([UQ.1].map ak)) (.p (eI N')))),(1000000,(al.cs Ve).map .p)]⟩) Z Z) (mSq ⟨3,[3,5,7],(by4 (.some (cp [] 109000 109000)) (.some λ i=>Nat.beq i 33||Nat.beq i 42) .none .none),(λ _=>[(0,.ptr 1000000 0),(2,.p (eI k_2)),(6,.ptr 6 0),(7,.ptr 7 0)]),(by4 ([(6,bB),(7,(dJ (.p (eI k_2)) (.p (eS U5.1)) (.p (eS U5.2.1)) (.vec 33 11 0 ([UQ.1].map ak)) (.p (eI N')))),(1000000,((al.cs Ve).map .p))]) ([(1000000,((al.cs UX.2).map .p)),(6,bB),(7,(dJ (.p (eI k_2)) (.p (eS U5.1)) (.p (eS U5.2.1)) (.vec 33 11 0 ([UQ.1].map ak)) (.p (eI N'))))]) ([(1000000,((al.cs UX.2).map .p)),(6,bB),(7,(dJ (.p (eI k_2)) (.p (eS U5.1)) (.p (eS U5.2.1)) (.p (eL ak [UQ.1])) (.p (eI N'))))]) ([(7,(dJ (.p (eI k_2)) (.p (eS U5.1)) (.p (eS U5.2.1)) (.vec 42 11 0 (([UQ.1]++[UX.1]).map ak)) (.p (eI N')))),(1000000,((al.cs UX.2).map .p)),(6,bB),(7,(dJ (.p (eI k_2)) (.p (eS U5.1)) (.p (eS U5.2.1)) (.p (eL ak [UQ.1])) (.p (eI N'))))]))⟩ Z ?_);refine dPc (.ptr 7 9) Z (dP (by4 (.vec 33 11 0 ([UQ.1].map ak)) (.vec 33 11 0 ([UQ.1].map ak)) (.p (eL ak [UQ.1])) (.p (eL ak [UQ.1]))) Z ?_);refine dPc (.ptr 1000000 0) Z (dI (λ _=>.p (.agg (ac.cs UX.1))) [39] Z (λ sl Sk K hK=>ap Z (aV [1000000] [] 109000 109000 (HO.c e29) Z Z Z (aE (Sk _ _ Z) bz) Z ⟨sr,trivial⟩ Z Z ⟨⟨_,Z,⟨sr,sr,sr,sr,sr,sr,sr,trivial⟩⟩,trivial⟩ Z Z Z Z Z Z Z Z Tryz.call65 Z Z hK)) ?_);refine dO (.p (eL ak [UX.1])) [40] Z (λ _ sl Sk K hK=>ap Z (aK ak [UX.1] Z Z Z Z Z Z (cU (Sk _ _ Z) Z d5) Z Z Z Z Z Z fF hK)) (dI (λ _=>.vec 42 11 0 (([UQ.1]++[UX.1]).map ak)) [38,41] Z (λ sl Sk K hK=>ap Z (ef ak [UQ.1] [UX.1] Z Z Z Z Z Z Z Z (Sk _ _ Z) Z Z (Sk _ _ Z) Z (λ x=>congrArg List.length (ac.It x)) Z Z Z Z aaS hK)) ?_);refine dPc (.ptr 7 9) Z (dS Z ?_);refine eT (nx 6 Z ?_);refine bd h0 λ V5 h1 h0=>kN V5 (λ v70=>⟨[(0,.ptr 1000000 0),(6,.ptr 6 0),(7,.ptr 7 0),(8,.p (eS v70.1))],[(6,bB),(7,(dJ (.p (eI k_2)) (.p (eS U5.1)) (.p (eS U5.2.1)) (.vec 53 11 0 (v70.2.1.map ak)) (.p (eI N')))),(1000000,(fV v70.2.2))]⟩) ?_ ?_
   ·refine nx 2 Z (bd h0 λ o71 h1 h0=>?_);refine kN o71 (λ Zu=>⟨[(0,.ptr 1000000 0),(6,.ptr 6 0),(7,.ptr 7 0),(8,.p (eS V5.1))],[(6,bB),(7,(dJ (.p (eI k_2)) (.p (eS U5.1)) (.p (eS U5.2.1)) (.vec 64 11 0 (Zu.1.map ak)) (.p (eI N')))),(1000000,(fV Zu.2))]⟩) ?_ ?_
    ·exact J0
    refine nx 3 Z (K1 λ Xq h1=>?_);refine nx 1 Z (fB [56] h1 Z (λ c48 h1=>?_) λ c48 h1=>?_)
    ·refine nx 4 Z (K1 λ XE h1=>?_);refine nx 1 Z (bd h1 λ Vb e52 h1=>?_);refine cc' h1 λ ZU h1=>mG (gE (t:=⟨[(0,.ptr 1000000 0),(6,.ptr 6 0),(7,.ptr 7 0),(8,.p (eS V5.1))],[(6,bB),(7,(dJ (.p (eI k_2)) (.p (eS U5.1)) (.p (eS U5.2.1)) (.vec 53 11 0 (V5.2.1.map ak)) (.p (eI N')))),(1000000,(al.cs XE.2).map .p)]⟩) Z Z) (mSq ⟨3,[3,5,7],(by4 (.some (cp [] 114000 114000)) (.some λ i=>Nat.beq i 53||Nat.beq i 64) .none .none),(λ _=>[(0,.ptr 1000000 0),(6,.ptr 6 0),(7,.ptr 7 0),(8,.p (eS V5.1))]),(by4 ([(6,bB),(7,(dJ (.p (eI k_2)) (.p (eS U5.1)) (.p (eS U5.2.1)) (.vec 53 11 0 (V5.2.1.map ak)) (.p (eI N')))),(1000000,((al.cs XE.2).map .p))]) ([(1000000,((al.cs Vb.2).map .p)),(6,bB),(7,(dJ (.p (eI k_2)) (.p (eS U5.1)) (.p (eS U5.2.1)) (.vec 53 11 0 (V5.2.1.map ak)) (.p (eI N'))))]) ([(1000000,((al.cs Vb.2).map .p)),(6,bB),(7,(dJ (.p (eI k_2)) (.p (eS U5.1)) (.p (eS U5.2.1)) (.p (eL ak V5.2.1)) (.p (eI N'))))]) ([(7,(dJ (.p (eI k_2)) (.p (eS U5.1)) (.p (eS U5.2.1)) (.vec 64 11 0 ((V5.2.1++[Vb.1]).map ak)) (.p (eI N')))),(1000000,((al.cs Vb.2).map .p)),(6,bB),(7,(dJ (.p (eI k_2)) (.p (eS U5.1)) (.p (eS U5.2.1)) (.p (eL ak V5.2.1)) (.p (eI N'))))]))⟩ Z ?_);refine dPc (.ptr 7 9) Z (dP (by4 (.vec 53 11 0 (V5.2.1.map ak)) (.vec 53 11 0 (V5.2.1.map ak)) (.p (eL ak V5.2.1)) (.p (eL ak V5.2.1))) Z ?_);refine dPc (.ptr 1000000 0) Z (dI (λ _=>.p (.agg (ac.cs Vb.1))) [61] Z (λ sl Sk K hK=>ap Z (aV [1000000] [] 114000 114000 (HO.c e52) Z Z Z (aE (Sk _ _ Z) bz) Z ⟨sr,trivial⟩ Z Z ⟨⟨_,Z,⟨sr,sr,sr,sr,sr,sr,sr,trivial⟩⟩,trivial⟩ Z Z Z Z Z Z Z Z Tryz.call65 Z Z hK)) ?_);refine dO (.p (eL ak [Vb.1])) [62] Z (λ _ sl Sk K hK=>ap Z (aK ak [Vb.1] Z Z Z Z Z Z (cU (Sk _ _ Z) Z d5) Z Z Z Z Z Z fF hK)) (dI (λ _=>.vec 64 11 0 ((V5.2.1++[Vb.1]).map ak)) [60,63] Z (λ sl Sk K hK=>ap Z (ef ak V5.2.1 [Vb.1] Z Z Z Z Z Z Z Z (Sk _ _ Z) Z Z (Sk _ _ Z) Z (λ x=>congrArg List.length (ac.It x)) Z Z Z Z ZU hK)) ?_);refine dPc (.ptr 7 9) Z (dS Z ?_);exact az
    exact nx 2 Z (eX _ (oi h1).symm (bm (cb 53 64 Z Z Z Z Z) (gE Z Z)))
   refine nx 5 Z (fD [45] h1 Z (λ c31 h1=>?_) λ c31 h1=>?_)
   ·refine nx 4 Z (K1 λ WO h1=>?_);refine nx 2 Z (bd h1 λ UF e35 h1=>?_);refine cc' h1 λ ZY h1=>mG (gE (t:=⟨[(0,.ptr 1000000 0),(6,.ptr 6 0),(7,.ptr 7 0)],[(6,bB),(7,(dJ (.p (eI k_2)) (.p (eS U5.1)) (.p (eS U5.2.1)) (.vec 42 11 0 (([UQ.1]++[UX.1]).map ak)) (.p (eI N')))),(1000000,(al.cs WO).map .p)]⟩) Z Z) (mSq ⟨3,[3,5,7],(by4 (.some (cp [] 111000 111000)) (.some λ i=>Nat.beq i 42||Nat.beq i 53) .none .none),(λ _=>[(0,.ptr 1000000 0),(6,.ptr 6 0),(7,.ptr 7 0)]),(by4 ([(6,bB),(7,(dJ (.p (eI k_2)) (.p (eS U5.1)) (.p (eS U5.2.1)) (.vec 42 11 0 (([UQ.1]++[UX.1]).map ak)) (.p (eI N')))),(1000000,((al.cs WO).map .p))]) ([(1000000,((al.cs UF.2).map .p)),(6,bB),(7,(dJ (.p (eI k_2)) (.p (eS U5.1)) (.p (eS U5.2.1)) (.vec 42 11 0 (([UQ.1]++[UX.1]).map ak)) (.p (eI N'))))]) ([(1000000,((al.cs UF.2).map .p)),(6,bB),(7,(dJ (.p (eI k_2)) (.p (eS U5.1)) (.p (eS U5.2.1)) (.p (eL ak ([UQ.1]++[UX.1]))) (.p (eI N'))))]) ([(7,(dJ (.p (eI k_2)) (.p (eS U5.1)) (.p (eS U5.2.1)) (.vec 53 11 0 ((([UQ.1]++[UX.1])++[UF.1]).map ak)) (.p (eI N')))),(1000000,((al.cs UF.2).map .p)),(6,bB),(7,(dJ (.p (eI k_2)) (.p (eS U5.1)) (.p (eS U5.2.1)) (.p (eL ak ([UQ.1]++[UX.1]))) (.p (eI N'))))]))⟩ Z ?_);refine dPc (.ptr 7 9) Z (dP (by4 (.vec 42 11 0 (([UQ.1]++[UX.1]).map ak)) (.vec 42 11 0 (([UQ.1]++[UX.1]).map ak)) (.p (eL ak ([UQ.1]++[UX.1]))) (.p (eL ak ([UQ.1]++[UX.1])))) Z ?_);refine dPc (.ptr 1000000 0) Z (dI (λ _=>.p (.agg (ac.cs UF.1))) [50] Z (λ sl Sk K hK=>ap Z (aV [1000000] [] 111000 111000 (HO.c e35) Z Z Z (aE (Sk _ _ Z) bz) Z ⟨sr,trivial⟩ Z Z ⟨⟨_,Z,⟨sr,sr,sr,sr,sr,sr,sr,trivial⟩⟩,trivial⟩ Z Z Z Z Z Z Z Z Tryz.call65 Z Z hK)) ?_);refine dO (.p (eL ak [UF.1])) [51] Z (λ _ sl Sk K hK=>ap Z (aK ak [UF.1] Z Z Z Z Z Z (cU (Sk _ _ Z) Z d5) Z Z Z Z Z Z fF hK)) (dI (λ _=>.vec 53 11 0 ((([UQ.1]++[UX.1])++[UF.1]).map ak)) [49,52] Z (λ sl Sk K hK=>ap Z (ef ak ([UQ.1]++[UX.1]) [UF.1] Z Z Z Z Z Z Z Z (Sk _ _ Z) Z Z (Sk _ _ Z) Z (λ x=>congrArg List.length (ac.It x)) Z Z Z Z ZY hK)) ?_);refine dPc (.ptr 7 9) Z (dS Z ?_);exact az
   exact nx 2 Z (eX _ (oi h1).symm (bm (cb 42 53 Z Z Z Z Z) (gE Z Z)))
  exact az
 ·refine λ OF=>hO good [] [1000000] Tryz.func213 Z Z λ r h0 _ w0 F=>?_;rw [fW] at h0;refine nx 10 Z (bd h0 λ o89 h1 h0=>?_);refine kE 0 o89 (λ v90=>⟨[(3,.vec 23 11 0 (v90.1.map ak))],[(1000000,(fV v90.2))]⟩) ?_ ?_
  ·exact J0
  refine lG (λ (Y3:(List ac)×(List ab)×Int×Int×Int×Int×Int×Bk)=>⟨[(0,.ptr 1000000 0),(3,.vec 23 11 0 (Y3.1.map ak))],[(1000000,(fV Y3.2))]⟩) (λ m (Y3:(List ac)×(List ab)×Int×Int×Int×Int×Int×Bk)=>cg n (aD n) (dp n) m Y3.1 Y3.2.1 Y3.2.2.1 Y3.2.2.2.1 Y3.2.2.2.2.1 Y3.2.2.2.2.2.1 Y3.2.2.2.2.2.2.1 Y3.2.2.2.2.2.2.2) Y ([],OF.fl,OF.fat,OF.H',OF.G',OF.AT.Ar,OF.AT.fAt,OF.AT.AI) h1 (d3 (ma ⟨er rfl,⟨_,rfl,AV.sub_nilvec _ _ _⟩,trivial⟩ ⟨⟨_,rfl,⟨sr,sr,sr,sr,sr,sr,sr,trivial⟩⟩,trivial⟩)) ?_;rintro m ⟨VJ,Vq,Wb,WB,WJ,WI,WH,WG⟩ h1;replace h1:cg n (aD n) (dp n) (m+1) VJ Vq Wb WB WJ WI WH WG=some o89:=h1;rw [cg] at h1;refine nx 2 rfl (bd h1 λ o92 h2 h1=>?_);refine kN o92 (λ v93=>⟨[(0,.ptr 1000000 0),(3,.vec 23 11 0 (VJ.map ak)),(11,.p (eB v93.1))],[(1000000,(fV v93.2))]⟩) ?_ ?_
  ·refine nx 1 Z (fB [11] h1 Z (λ c57 h1=>?_) λ c57 h1=>?_)
   ·refine nx 7 Z (K1 λ Vi h1=>?_);refine mO Z (aK ak [Vi.1] Z Z Z Z Z Z Z Z Z Z Z Z Z fF ?_);refine cc' h1 λ Zd h1=>mO Z (ef ak VJ [Vi.1] Z Z Z Z Z Z Z Z Z Z Z Z Z (λ x=>congrArg List.length (ac.It x)) Z Z Z Z Zd ?_);refine nx 5 Z (K1 λ Va h1=>?_);refine nx 5 Z (K1 λ Ww h1=>?_);refine mO Z (aK ak [Ww.1] Z Z Z Z Z Z Z Z Z Z Z Z Z fF ?_);refine cc' h1 λ Zc h1=>mO Z (ef ak (VJ++[Vi.1]) [Ww.1] Z Z Z Z Z Z Z Z Z Z Z Z Z (λ x=>congrArg List.length (ac.It x)) Z Z Z Z Zc ?_);exact az
   exact az
  exact bP
 ·refine λ OF=>hO good [] [1000000] Tryz.func225 Z Z λ r h0 _ w0 F=>?_;rw [dp] at h0;exact J0
instance Mc (n:Nat):uq (iK n) 33:=(nO n).2.1
instance A6 (n:Nat):kw (aD n) 65:=(nO n).2.2.2.1
def iL (n:Nat)(Mr:Bk):Option (ac×ao) :=(iK n Mr 0).bind λ r1=>(fA n r1.1 r1.2).bind λ r3=>some (r3.1,r3.2)
instance Mf (n:Nat) (Mr:Bk):∀ (r:ac×ao),HP (iL n Mr=some r) Tryz.prog 16 [eS Mr] (.tuple [.p (.agg (ac.cs r.1)),.p (.agg (ao.cs r.2))]):=by
 refine hP good Tryz.func16 Z Z λ r h0 _ w0=>?_;unfold iL at h0;exact J0
def ei (VV:ac->Option Int)(Um:ac):Nat->Int->Int->Option Int|0,_,_=>none|m+1,n9,Zv=>if Zv<(Um.BY.length:Int) then ck ((0:Int)<=Zv/\Zv<(Um.BY.length:Int))<|(VV (lat Um.BY Zv)).bind λ Wh=>ck (inR (n9+Wh))<|ck (inR (Zv+1))<|ei VV Um m (n9+Wh) (Zv+1)else some n9
def gD:Nat->ac->Option Int|0,_=>none|n+1,Um=>(ei (gD n) Um n 1 0).bind λ n19=>some n19
instance Mv (n:Nat):∀ (Um:ac) (r:Int),HP (gD n Um=some r) Tryz.prog 14 [.agg (ac.cs Um)] (.p (eI r)):=by
 induction n with
 | zero=>exact Zr
 | succ n ih=>
 refine λ Um=>hP good Tryz.func14 Z Z λ r h0 _ w0=>?_;rw [gD] at h0;refine nx 14 Z (oLl (f:=ak) Z Z ?_);refine nx 3 Z (bd h0 λ XM h1 h0=>?_);refine kE 0 XM (λ v22=>⟨[(3,.p (eI v22))],[]⟩) ?_ ?_
 ·exact J0
 refine lG (λ (XW:Int×Int)=>⟨[(3,.p (eI XW.1)),(7,.p (eL ak Um.BY)),(8,.p (eI (Um.BY.length:Int))),(9,.p (eI XW.2))],[]⟩) (λ m (XW:Int×Int)=>ei (gD n) Um m XW.1 XW.2) Y (1,0) h1 (gE rfl rfl) ?_;rintro m ⟨n9,Zv⟩ h1;replace h1:ei (gD n) Um (m+1) n9 Zv=some XM:=h1;rw [ei] at h1;exact az
theorem De (h:p:=by
  exact nx 3 Z (eX _ (oi h1).symm (gE Z Z))):p:=h
set_option maxRecDepth 4000
instance TP:HE Tryz.prog 64:=⟨Tryz.call64⟩
abbrev kK:List AV:=[.p (eI 0),.p (eI 0),.p (eS ([]:Bk)),.p (eS ([]:Bk)),.p (eI 0),.p (eI 0),.p (eS ([]:Bk)),.p (.val (.slice none 0 0)),.p (.val (.slice none 0 0)),.p (.val (.slice none 0 0)),.p (eI 0)]
abbrev kz:List AV:=[.p (eI 0),.p (eI 0),.p (eS ([]:Bk))]
def mV (n:Nat)(l_0:List ab)(N':Int):Option (ac×Int×ao) :=((ji n l_0).bind λ r1=>if r1=0 then if N'<0 then some true else some (decide ((l_0.length:Int)<=N'))else some true).bind λ t5=>if t5=true then some ((ac.mk 0 0 ([]:Bk) ([]:Bk) (am.mk 0 0 ([]:Bk) [] []) [] 0),0,(ao.mk 1 0 ([]:Bk)))else(aD n (al.mk l_0 N' 0 0 (ao.mk 0 0 ([]:Bk)))).bind λ r7=>(fA n r7.1 r7.2.AT).bind λ r9=>if r9.2.Ar=0 then some (r9.1,r7.2.fat,(ao.mk 0 0 ([]:Bk)))else some ((ac.mk 0 0 ([]:Bk) ([]:Bk) (am.mk 0 0 ([]:Bk) [] []) [] 0),0,r9.2)
instance MG (n:Nat) (l_0:List ab) (N':Int):∀ (r:ac×Int×ao),HP (mV n l_0 N'=some r) Tryz.prog 28 [eL aB l_0,eI N'] (.tuple [.p (.agg (ac.cs r.1)),.p (eI r.2.1),.p (.agg (ao.cs r.2.2))]):=by
 refine hP good Tryz.func28 Z Z λ r h0 _ w0=>?_;unfold mV at h0;refine nx 8 Z (bd h0 λ o13 h1 h0=>?_);refine kN o13 (λ v14=>⟨[(0,.p (eL aB l_0)),(1,.p (eI N')),(4,.ptr 4 0),(6,.ptr 6 0),(23,.p (eB v14))],[(4,kK),(6,kz)]⟩) ?_ ?_
 ·refine nx 1 Z (fB [23] h0 Z (λ c6 h0=>?_) λ c6 h0=>?_)
  ·exact nx 10 Z (mQ (oi h0) Z (kf ⟨lh ⟨.inl Z,.inl Z,.inl Z,.inl Z,.inl Z,.inl Z,.inl Z,.inr ⟨Z,Z⟩,.inr ⟨Z,Z⟩,.inr ⟨Z,Z⟩,.inl Z,trivial⟩,sr,sr,trivial⟩))
  refine nx 13 Z (K0 λ r7 h0=>?_);refine nx 4 Z (bd h0 λ r9 Xb h0=>?_);refine mG (gE (t:=⟨[(4,.ptr 4 0),(6,.ptr 6 0),(7,.ptr 29 0),(8,.ptr 8 0)],[(4,kK),(6,kz),(8,(ac.cs r7.1).map .p),(29,(al.cs r7.2).map .p)]⟩) Z Z) (mSS ⟨4,[9,10,11,12],(by5 (.some λ i=>Nat.beq i 9) (.some λ i=>Nat.beq i 10) .none .none .none),(λ _=>[(4,.ptr 4 0),(6,.ptr 6 0),(7,.ptr 29 0),(8,.ptr 8 0)]),(ob5 ([(4,kK),(6,kz),(8,((ac.cs r7.1).map .p)),(29,((al.cs r7.2).map .p))]) (9,kK) (10,kz) (9,((ac.cs r9.1).map .p)) (10,((ao.cs r9.2).map .p)))⟩ ⟨4,[10,9,11,12],(by5 (.some λ i=>Nat.beq i 10) (.some λ i=>Nat.beq i 9) .none .none .none),(λ _=>[(4,.ptr 4 0),(6,.ptr 6 0),(7,.ptr 29 0),(8,.ptr 8 0)]),(ob5 ([(4,kK),(6,kz),(8,((ac.cs r7.1).map .p)),(29,((al.cs r7.2).map .p))]) (10,kz) (9,kK) (9,((ac.cs r9.1).map .p)) (10,((ao.cs r9.2).map .p)))⟩ Z Z Z Z Z Z Z ⟨Z,Z,Z,Z,trivial⟩ Z (lt4 ⟨Z,Z,Z,Z,trivial⟩ ⟨Z,Z,Z,Z,trivial⟩ ⟨Z,Z,Z,Z,trivial⟩ ⟨Z,Z,Z,Z,trivial⟩) (lt4 ⟨Z,Z,Z,Z,trivial⟩ ⟨Z,Z,Z,Z,trivial⟩ ⟨Z,Z,Z,Z,trivial⟩ ⟨Z,Z,Z,Z,trivial⟩) Z Z Z Z Z ?_);refine dPc (.p (.agg (ac.cs r7.1))) Z (dPc (.ptr 29 0) Z ?_);refine dPc (.ptr 29 0) Z (dPc (.ptr 29 4) Z ?_);refine dPc (.p (.agg (ao.cs r7.2.AT))) Z (jU (λ _=>.tuple [.p (.agg (ac.cs r9.1)),.p (.agg (ao.cs r9.2))]) Z Z Z (all5 Z Z Z Z Y) (lt4 Z Z Z Z) (iW Z (iW Z (hQ [(33,_),(37,_)] ⟨.inr ⟨0,_,Z,Z,Z⟩,.inr ⟨4,_,Z,Z,Z⟩,trivial⟩ (λ sl Sk K hK=>ap Z (cW (HP.c Xb) Z Z Z (aE (Sk _ _ Z) (aE (Sk _ _ Z) bz)) ⟨sr,sr,trivial⟩ Tryz.call34 Z hK)) (hQ [(33,_),(37,_)] ⟨.inr ⟨0,_,Z,Z,Z⟩,.inr ⟨4,_,Z,Z,Z⟩,trivial⟩ (λ sl Sk K hK=>ap Z (cW (HP.c Xb) Z Z Z (aE (Sk _ _ Z) (aE (Sk _ _ Z) bz)) ⟨sr,sr,trivial⟩ Tryz.call34 Z hK)) (hQ [(33,_),(37,_)] ⟨.inr ⟨0,_,Z,Z,Z⟩,.inr ⟨4,_,Z,Z,Z⟩,trivial⟩ (λ sl Sk K hK=>ap Z (cW (HP.c Xb) Z Z Z (aE (Sk _ _ Z) (aE (Sk _ _ Z) bz)) ⟨sr,sr,trivial⟩ Tryz.call34 Z hK)) lA))))) ?_);refine dPc (.tuple [.p (.agg (ac.cs r9.1)),.p (.agg (ao.cs r9.2))]) Z (dPc (.p (.agg (ac.cs r9.1))) Z ?_);refine dPc (.p (.agg (ao.cs r9.2))) Z (ra (λ _=>.ptr 9 0) [] Z trivial Z Z (F4 Z Z Z Y) (lt4 (λ h=>absurd h (by decide)) Y Y Y) (λ sl Sk K hK=>ap Z (fU Z Z Z Z Z hK)) ?_);refine ra (λ _=>.ptr 10 0) [] Z trivial Z Z (all3 Z Z Y) (lt4 (λ h=>absurd h (by decide)) (λ h=>absurd h (by decide)) Y Y) (λ sl Sk K hK=>ap Z (fU Z Z Z Z Z hK)) (dS Z ?_);refine dS Z (xL (dPc (.p (.agg (ac.cs r7.1))) Z (dPc (.ptr 29 0) Z (dPc (.ptr 29 0) Z (dPc (.ptr 29 4) Z (dPc (.p (.agg (ao.cs r7.2.AT))) Z (jU (λ _=>.tuple [.p (.agg (ac.cs r9.1)),.p (.agg (ao.cs r9.2))]) Z Z Z (all5 Z Z Z Z Y) (lt4 Z Z Z Z) (iW Z (iW Z (hQ [(33,_),(37,_)] ⟨.inr ⟨0,_,Z,Z,Z⟩,.inr ⟨4,_,Z,Z,Z⟩,trivial⟩ (λ sl Sk K hK=>ap Z (cW (HP.c Xb) Z Z Z (aE (Sk _ _ Z) (aE (Sk _ _ Z) bz)) ⟨sr,sr,trivial⟩ Tryz.call34 Z hK)) (hQ [(33,_),(37,_)] ⟨.inr ⟨0,_,Z,Z,Z⟩,.inr ⟨4,_,Z,Z,Z⟩,trivial⟩ (λ sl Sk K hK=>ap Z (cW (HP.c Xb) Z Z Z (aE (Sk _ _ Z) (aE (Sk _ _ Z) bz)) ⟨sr,sr,trivial⟩ Tryz.call34 Z hK)) (hQ [(33,_),(37,_)] ⟨.inr ⟨0,_,Z,Z,Z⟩,.inr ⟨4,_,Z,Z,Z⟩,trivial⟩ (λ sl Sk K hK=>ap Z (cW (HP.c Xb) Z Z Z (aE (Sk _ _ Z) (aE (Sk _ _ Z) bz)) ⟨sr,sr,trivial⟩ Tryz.call34 Z hK)) lA))))) (dPc (.tuple [.p (.agg (ac.cs r9.1)),.p (.agg (ao.cs r9.2))]) Z (dPc (.p (.agg (ac.cs r9.1))) Z (dPc (.p (.agg (ao.cs r9.2))) Z (ra (λ _=>.ptr 9 0) [] Z trivial Z Z (all3 Z Z Y) (lt4 (λ h=>absurd h (by decide)) (λ h=>absurd h (by decide)) Y Y) (λ sl Sk K hK=>ap Z (fU Z Z Z Z Z hK)) (ra (λ _=>.ptr 10 0) [] Z trivial Z Z (F4 Z Z Z Y) (lt4 (λ h=>absurd h (by decide)) Y Y Y) (λ sl Sk K hK=>ap Z (fU Z Z Z Z Z hK)) (dS Z (dS Z (LI Z ⟨Z,Z,Z,Z,Z,Z,Z,Z,trivial⟩ ⟨⟨Z,Z,.inl Z⟩,⟨⟨Z,Z,.inl Z⟩,⟨⟨Z,Z,.inr Z⟩,⟨⟨Z,Z,.inr Z⟩,⟨⟨Z,Z,.inr Z⟩,⟨⟨Z,Z,.inr Z⟩,⟨⟨Z,Z,.inr Z⟩,⟨⟨Z,Z,.inr Z⟩,⟨⟨Z,Z,.inr Z⟩,⟨⟨Z,Z,.inr Z⟩,⟨⟨Z,Z,.inr Z⟩,trivial⟩⟩⟩⟩⟩⟩⟩⟩⟩⟩⟩)))))))))))))) ?_);refine nx 8 Z (fN [43] h0 Z (λ Yl h0=>?_) λ Yl h0=>?_)
  ·refine nx 3 Z (mG (gE (t:=⟨[(4,.ptr 4 0),(6,.ptr 6 0),(7,.ptr 29 0),(9,.ptr 9 0)],[(4,kK),(6,kz),(9,(ac.cs r9.1).map .p),(29,(al.cs r7.2).map .p)]⟩) Z Z) ?_);refine mSq ⟨2,[6,8],(λ _=>.none),(λ _=>[(4,.ptr 4 0),(6,.ptr 6 0),(7,.ptr 29 0),(9,.ptr 9 0)]),(ob3 ([(4,kK),(6,kz),(9,((ac.cs r9.1).map .p)),(29,((al.cs r7.2).map .p))]) (4,((ac.cs r9.1).map .p)) (6,kz))⟩ Z (dPc (.p (.agg (ac.cs r9.1))) Z ?_);refine dPc (.ptr 29 0) Z (dPc (.ptr 29 0) Z ?_);refine dPc (.ptr 29 1) Z (dPc (.p (eI r7.2.fat)) Z ?_);refine dPc (.p (.agg [eI 0,eI 0,eS ([]:Bk)])) Z (dS Z ?_);refine dPc (.p (eI r7.2.fat)) Z (dS Z ?_);refine eT (nx 2 Z ?_);exact mQ (oi h0) Z (kf ⟨sr,sr,sr,trivial⟩)
  refine nx 2 Z (mG (gE (t:=⟨[(4,.ptr 4 0),(6,.ptr 6 0),(10,.ptr 10 0)],[(4,kK),(6,kz),(10,(ao.cs r9.2).map .p)]⟩) Z Z) ?_);refine mSq ⟨2,[2,4],(λ _=>.none),(λ _=>[(4,.ptr 4 0),(6,.ptr 6 0),(10,.ptr 10 0)]),(ob3 ([(4,kK),(6,kz),(10,((ao.cs r9.2).map .p))]) (4,kK) (6,((ao.cs r9.2).map .p)))⟩ Z (dPc (.p (.agg [eI 0,eI 0,eS ([]:Bk),eS ([]:Bk),eI 0,eI 0,eS ([]:Bk),.val (.slice none 0 0),.val (.slice none 0 0),.val (.slice none 0 0),eI 0])) Z ?_);refine dPc (.p (.agg (ao.cs r9.2))) Z (dS Z ?_);refine dPc (.p (eI 0)) Z (dS Z ?_);refine eT (nx 2 Z ?_);exact mQ (oi h0) Z (kf ⟨lh ⟨.inl Z,.inl Z,.inl Z,.inl Z,.inl Z,.inl Z,.inl Z,.inr ⟨Z,Z⟩,.inr ⟨Z,Z⟩,.inr ⟨Z,Z⟩,.inl Z,trivial⟩,sr,sr,trivial⟩)
 refine nx 2 Z (K1 λ r1 h1=>nx 2 Z ?_);refine fN [13,14] h1 Z (λ c3 h1=>?_) λ c3 h1=>?_
 ·refine nx 4 Z (fD [16,17,18] h1 Z (λ c4 h1=>?_) λ c4 h1=>?_)
  ·exact vK
  refine nx 2 Z (oLl (f:=aB) Z Z ?_);exact De
 exact nx 10 Z fS
theorem vl (h:p:=by
  exact nx 6 Z (mQ (oi h0) Z (sr))):p:=h
theorem Bw (h:p:=by
  exact nx 17 Z (eX _ (oi h1).symm (gE Z Z))):p:=h
set_option maxRecDepth 4000
instance R4:HE Tryz.prog 16:=⟨Tryz.call16⟩
def kc (n:Nat):Option Bool :=(iL n ([49,32,43,32,50,32,42,32,51]:Bk)).bind λ r1=>(iL n ([34,120,36,123,34,121,34,125,34]:Bk)).bind λ r3=>(iL n ([97,32,43]:Bk)).bind λ r5=>(iL n ([91,102,111,114,32,107,44,32,118,32,105,110,32,109,32,58,32,118,32,105,102,32,107,32,33,61,32,34,97,34,93]:Bk)).bind λ r7=>(if r1.2.Ar=0 then if r3.2.Ar=0 then if r5.2.Ar=2 then if r5.2.fAt=3 then if r7.2.Ar=0 then if (r1.1.BY.length:Int)=2 then some (!decide ((r3.1.BY.length:Int)=2))else some true else some true else some true else some true else some true else some true).bind λ t15=>if t15=true then some false else(if r1.1.fOp=11 then ck ((0:Int)<=1/\1<(r1.1.BY.length:Int))<|if (lat r1.1.BY 1).fOp=13 then if r3.1.Ar=2 then if r7.1.Ar=12 then if r7.1.D'=([107]:Bk) then if r7.1.AI=([118]:Bk) then if (r7.1.BY.length:Int)=3 then(gD n r1.1).bind λ VX=>some (decide (VX=5))else some false else some false else some false else some false else some false else some false else some false).bind λ t27=>some t27
instance GB (n:Nat):∀ (r:Bool),HP (kc n=some r) Tryz.prog 11 [] (.p (eB r)):=by
 refine hP good Tryz.func11 Z Z λ r h0 _ w0=>?_;unfold kc at h0;refine nx 6 Z (K0 λ r1 h0=>nx 10 Z ?_);refine bd h0 λ r3 e4 h0=>oK (HP.c e4) Z ⟨sr,trivial⟩ Tryz.call16 Z (nx 10 Z ?_);refine bd h0 λ r5 e6 h0=>oK (HP.c e6) Z ⟨sr,trivial⟩ Tryz.call16 Z (nx 10 Z ?_);refine bd h0 λ r7 e8 h0=>oK (HP.c e8) Z ⟨sr,trivial⟩ Tryz.call16 Z (nx 10 Z ?_);refine bd h0 λ ZA h1 h0=>kN ZA (λ Yn=>⟨[(1,.ptr 1 0),(3,.ptr 3 0),(7,.ptr 7 0),(59,.p (eB Yn))],[(1,(ac.cs r1.1).map .p),(3,(ac.cs r3.1).map .p),(7,(ac.cs r7.1).map .p)]⟩) ?_ ?_
 ·refine nx 1 Z (fB [59] h0 Z (λ YI h0=>?_) λ YI h0=>?_)
  ·exact vl
  refine nx 3 Z (bd h0 λ XL h1 h0=>?_);refine kN XL (λ ZE=>⟨[(0,.p (eB ZE))],[]⟩) ?_ ?_
  ·exact nx 2 Z (mQ (oi h0) Z (sr))
  refine nx 5 Z (fD [62,63] h1 Z (λ UY h1=>?_) λ UY h1=>?_)
  ·refine nx 2 Z (oE h1 ac.It Z Z Y λ VP h1=>?_);refine nx 5 Z (fD [69,70,71] h1 Z (λ XP h1=>?_) λ XP h1=>?_)
   ·refine nx 5 Z (fD [74,75,76] h1 Z (λ c20 h1=>?_) λ c20 h1=>?_)
    ·refine nx 5 Z (fD [79,80,81] h1 Z (λ c21 h1=>?_) λ c21 h1=>?_)
     ·refine nx 2 Z (oS Z Z ?_);refine nx 2 Z (fD [84,85,86] h1 Z (λ c22 h1=>?_) λ c22 h1=>?_)
      ·refine nx 2 Z (oS Z Z ?_);refine nx 2 Z (fD [89,90,91] h1 Z (λ Xp h1=>?_) λ Xp h1=>?_)
       ·refine nx 2 Z (oLl (f:=ak) Z Z ?_);refine nx 3 Z (fD [95,96,97] h1 Z (λ Yk h1=>?_) λ Yk h1=>?_)
        ·refine nx 1 Z (K1 λ VX h1=>nx 4 Z ?_);exact eX _ (oi h1).symm (gE Z Z)
        exact vK
       exact nx 12 Z fS
      exact Bw
     exact nx 22 Z fS
    exact nx 27 Z fS
   exact nx 32 Z fS
  exact nx 40 Z fS
 refine nx 5 Z (fN [27,28] h1 Z (λ c9 h1=>?_) λ c9 h1=>?_)
 ·refine nx 5 Z (fN [31,32,33] h1 Z (λ YM h1=>?_) λ YM h1=>?_)
  ·refine nx 5 Z (fN [36,37,38] h1 Z (λ Yl h1=>?_) λ Yl h1=>?_)
   ·refine nx 5 Z (fN [41,42,43] h1 Z (λ c12 h1=>?_) λ c12 h1=>?_)
    ·refine nx 5 Z (fN [46,47,48] h1 Z (λ YL h1=>?_) λ YL h1=>?_)
     ·refine nx 2 Z (oLl (f:=ak) Z Z ?_);refine nx 3 Z (fN [52,53,54] h1 Z (λ YK h1=>?_) λ YK h1=>?_)
      ·refine nx 2 Z (oLl (f:=ak) Z Z ?_);exact De
      exact vK
     exact nx 12 Z fS
    exact Bw
   exact nx 22 Z fS
  exact nx 27 Z fS
 exact nx 32 Z fS
end Go.Ab.R06
end
section
namespace Go.Ab.R06
open Go.Ab
end Go.Ab.R06
end
section
namespace Go.Ab.R06
open Go.Ab Go.Ab.RB Go.Lib
variable {p:Prop}
theorem sc (h:p:=by
 exact ae Z (aa Z)):p:=h
theorem sI (h:p:=by
 exact af G (aa Z)):p:=h
theorem qL (h:p:=by simp [hb]):p:=h
theorem pd (h:p:=by simpa using h):p:=h
theorem vN (h:p:=by simp only [aq]; omega):p:=h
theorem q9 (h:p:=by simpa using hb):p:=h
theorem xV (h:p:=by exact ax (rk s (b::r) o d) Z):p:=h
def pz (s l:Bk):Int:=(s.length:Int)-(l.length:Int)
theorem ux {s l:Bk}(h:l <:+ s):pz s l=((s.length-l.length:Nat):Int):=by
 have:=h.length_le;unfold pz; omega
theorem ru {s l:Bk}(h:l <:+ s):s.drop (s.length-l.length)=l:=by
 obtain ⟨t,rfl⟩:=h;simp
theorem eq {s r:Bk}{b:UInt8}(h:(b::r) <:+ s):r <:+ s:=(List.suffix_cons b r).trans h
theorem tu {s l:Bk}(k:Nat)(h:l <:+ s):l.drop k <:+ s:=(List.drop_suffix k l).trans h
theorem kB {s r:Bk}{b:UInt8}:pz s r=pz s (b::r)+1:=by
 unfold pz; simp only [aq]; omega
theorem mu {s l:Bk}{k:Nat}(hk:k<=l.length):pz s (l.drop k)=pz s l+(k:Int):=by
 unfold pz; rw [n6]; omega
theorem vA {s l:Bk}(h:l <:+ s):0<=pz s l:=by have:=h.length_le; unfold pz; omega
theorem qF {s l:Bk}:pz s l<=s.length:=by unfold pz; omega
theorem xK {s r:Bk}{b:UInt8}:pz s (b::r)<s.length:=by unfold pz; simp only [aq]; omega
theorem ql (s:Bk):pz s s=0:=by unfold pz; omega
theorem gU {s r:Bk}{b:UInt8}(h:(b::r) <:+ s):byt s (pz s (b::r))=(b.toNat:Int):=by
 rw [ux h,cH];have h1:=ru h;have h2:s.length-(b::r).length<s.length:=by have:=h.length_le; simp only [aq] at this ⊢; omega
 rw [List.drop_eq_getElem_cons h2] at h1;rw [List.getD_eq_getElem?_getD,List.getElem?_eq_getElem h2];exact congrArg _ (congrArg _ (qr h1).1)
theorem rq {s l:Bk}(h:l <:+ s):sub s (pz s l) (s.length:Int)=l:=by
 rw [km,ux h,Int.toNat_natCast,ru h]
theorem qm {s l l':Bk}(h:l <:+ s)(h':l' <:+ l):sub s (pz s l) (pz s l')=l.take (l.length-l'.length):=by
 have h1:=h.length_le;have h2:=h'.length_le;rw [ux h,ux (h'.trans h),uh,List.drop_take,ru h];congr 1; omega
def dj (b:UInt8):Bool:=decide (b.toNat=32)||decide (b.toNat=9)||decide (b.toNat=13)
def lR (b:UInt8):Nat:=if gR b then 2 else if cz b then 3 else if b.toNat=34 then 5 else if b.toNat=10 then 6 else if b.toNat=35 then 7 else if dj b then 1 else if (lat jE (b.toNat:Int)).toNat=4 then 4 else 0
theorem Tc:(List.range 256).all (λ n=>(lat jE ((UInt8.ofNat n).toNat:Int)).toNat==lR (UInt8.ofNat n))=true:=by decide +kernel
theorem sB (b:UInt8):(lat jE (b.toNat:Int)).toNat=lR b:=by
 have:=ph.1 Tc b.toNat (List.mem_range.2 (UInt8.toNat_lt b));rw [UInt8.ofNat_toNat] at this;exact eq_of_beq this
theorem sa {s r:Bk}{b:UInt8}(h:(b::r) <:+ s):(0:Int)<=byt s (pz s (b::r))/\byt s (pz s (b::r))<256:=by
 rw [gU h];have:=UInt8.toNat_lt b;omega
theorem jc {s r:Bk}{b:UInt8}(h:(b::r) <:+ s):(0:Int)<=pz s (b::r)/\pz s (b::r)<(s.length:Int):=⟨vA h,xK⟩
theorem kg (b:UInt8):(lR b=1↔dj b=true)/\(lR b=2↔gR b=true)/\(lR b=3↔cz b=true)/\(lR b=5↔b.toNat=34)/\(lR b=6↔b.toNat=10)/\(lR b=7↔b.toNat=35):=by
 have h1:=lJ b;have h2:=iO b;have h3:dj b=true↔b.toNat=32\/b.toNat=9\/b.toNat=13:=by simp [dj,or_assoc]
 unfold lR
 repeat' split
 all_goals (refine ⟨?_,?_,?_,?_,?_,?_⟩ <;> simp_all <;> omega)
def scx (s l:Bk)(o:Int)(d:ao):ad:=.mk s (pz s l) o d
theorem rk (s l:Bk)(o:Int)(d:ao):bA (scx s l o d)=some (!l.isEmpty,scx s l o d):=by
 unfold bA scx;simp only [bt,wr,and_true]
 cases l with
 | nil=>simp [pz]
 | cons b r=>simp only [List.isEmpty_cons,Bool.not_false,decide_eq_true_eq]; exact xK
def fb (c:Bool)(l:Bk):Bk :=
 match l.dropWhile dj with
 | b::r=>if c&&decide (b.toNat=35) then (b::r).dropWhile (λ x=>!decide (x=10)) else b::r
 | []=>[]
theorem o5 {p:UInt8->Bool}(l:Bk):l.dropWhile p <:+ l:=List.dropWhile_suffix p
theorem oR (c:Bool)(l:Bk):fb c l <:+ l:=by
 unfold fb;have h:=o5 (p:=dj) l;split
 ·rename_i b r hb;rw [hb] at h;split
  ·exact (o5 _).trans h
  ·exact h
 ·exact List.nil_suffix
theorem zl:∀ (l:Bk),(indexByte l 10<0->l.dropWhile (λ x=>!decide (x=10))=[])/\(0<=indexByte l 10->l.dropWhile (λ x=>!decide (x=10))=l.drop (indexByte l 10).toNat/\(indexByte l 10).toNat<l.length)
 | []=>by simp [indexByte]
 | b::r=>by
  have ih:=zl r;have hge:=indexByte_ge r 10;unfold indexByte;by_cases h:b=10
  ·subst h; simp
  ·rw [if_neg pd];simp only [List.dropWhile_cons,h,decide_false,Bool.not_false,if_true];by_cases hn:indexByte r 10<0
   ·rw [if_pos (by rw [beq_iff_eq]; omega)];exact ⟨λ _=>ih.1 hn,λ h=>by omega⟩
   ·rw [if_neg (by rw [beq_iff_eq]; omega)];have:=ih.2 O;refine ⟨λ h=>by omega,λ _=>⟨?_,?_⟩⟩
    ·rw [this.1,show (indexByte r 10+1).toNat=(indexByte r 10).toNat+1 by omega,List.drop_succ_cons]
    ·simp only [aq]; omega
theorem Ua (l:Bk):strings_IndexByte l 10=some (indexByte l 10):=rfl
theorem wU {s r:Bk}{b:UInt8}{o:Int}{d:ao}(h:(b::r) <:+ s)(h1:lR b≠1)(h7:¬ (lR b=7/\o<0)):Ev2 (λ _ m=>bj m (scx s (b::r) o d)) (·=.inr (scx s (b::r) o d)):=by
 refine aw ?_;simp only [bj];refine ai _ xV (ae G ?_);simp only [scx];refine ag (jc h) (ag (sa h) ?_);simp only [gU h,sB];refine iV _ (af O ?_) rfl;by_cases h7':lR b=7
 ·exact ai false (ae O (aa (decide_eq_false O))) pk
 ·exact ai false pf pk
theorem zL {s:Bk}{o:Int}{d:ao}:Ev2 (λ _ m=>bj m (scx s [] o d)) (·=.inl (scx s [] o d)):=by
 refine aw ?_;simp only [bj];exact ai _ (ax (rk s [] o d) Z) pk
def skR (c:Bool)(l:Bk)(x:ad):ad⊕ad:=if (fb c l).isEmpty then .inl x else .inr x
theorem Ec (s:Bk)(hs:s.length<=1000000000)(o:Int)(d:ao):∀ (l:Bk),l <:+ s->Ev2 (λ _ m=>bj m (scx s l o d)) (·=skR (decide (o<0)) l (scx s (fb (decide (o<0)) l) o d))
 | [],_=>zL
 | b::r,h=>by
  by_cases h1:lR b=1
  ·have hb:=(kg b).1.1 h1
   have e:fb (decide (o<0)) (b::r)=fb (decide (o<0)) r:=by
    unfold fb; rw [List.dropWhile_cons_of_pos hb]
   unfold skR;rw [e];have ih:=Ec s hs o d r (eq h);unfold skR at ih;refine aw ?_;simp only [bj];refine ai _ xV (ae G ?_);simp only [scx];have:=jc h;refine ag (jc h) (ag (sa h) ?_);simp only [gU h,sB];refine ek (scx s r o d) (ae O (ag aC (aa ?_))) ih;rw [scx,show pz s r=pz s (b::r)+1 from kB]
  ·have hb:¬ dj b=true:=λ q=>h1 ((kg b).1.2 q);have e0:(b::r).dropWhile dj=b::r:=List.dropWhile_cons_of_neg hb;by_cases h7:lR b=7/\o<0
   ·have h35:=(kg b).2.2.2.2.2.1 h7.1
    have e:fb (decide (o<0)) (b::r)=(b::r).dropWhile (λ x=>!decide (x=10)):=by
     unfold fb; rw [e0]; simp [h7.2,h35]
    have hsf:(b::r).dropWhile (λ x=>!decide (x=10)) <:+ s:=(o5 _).trans h;have hi:=zl (b::r);have Ux:=jc h;have hge:=indexByte_ge (b::r) 10;unfold skR;rw [e];refine aw ?_;simp only [bj];refine ai _ xV (ae G ?_);simp only [scx];refine ag (jc h) (ag (sa h) ?_);simp only [gU h,sB];refine ek (scx s ((b::r).dropWhile (λ x=>!decide (x=10))) o d) (af O (ai true (ae O (aa (decide_eq_true h7.2))) (ae Z (ag O ?_)))) ?_
    ·rw [rq h];refine ai _ (ax (Ua _) rfl) ?_;by_cases hn:indexByte (b::r) 10<0
     ·rw [hi.1 hn];refine ai ((s.length:Int)-pz s (b::r)) (ae hn qV) (ag aC (aa ?_));rw [scx]; congr 2; unfold pz; simp only [mv,aq]; omega
     ·have hh:=hi.2 O;rw [hh.1];refine ai (indexByte (b::r) 10) (af hn (aa Z)) (ag (bv (by have:=qF (s:=s) (l:=b::r); omega) (by unfold pz at Ux ⊢; omega)) (aa ?_));rw [scx,mu O]; congr 2; omega
    ·generalize hq:(b::r).dropWhile (λ x=>!decide (x=10))=q at hsf
     cases q with
     | nil=>exact zL
     | cons c t=>
      have hc:c=10:=by
       have:=List.head?_dropWhile_not (λ x:UInt8=>!decide (x=10)) (b::r);rw [hq] at this;simpa using this
      subst hc;exact wU hsf (by decide) (λ q=>absurd q.1 (by decide))
   ·have e:fb (decide (o<0)) (b::r)=b::r:=by
     unfold fb; rw [e0]
     have:(decide (o<0)&&decide (b.toNat=35))=false:=by
      rw [Bool.and_eq_false_iff,decide_eq_false_iff_not,decide_eq_false_iff_not];by_cases q:o<0
      ·exact .inr λ w=>h7 ⟨(kg b).2.2.2.2.2.2 w,q⟩
      ·exact .inl q
     simp only [this]
     rfl
    unfold skR;rw [e];exact wU h h1 h7
theorem DC (s l:Bk)(hs:s.length<=1000000000)(h:l <:+ s)(o:Int)(d:ao):Ev2 (λ n _=>fo n (scx s l o d)) (·=scx s (fb (decide (o<0)) l) o d):=by
 simp only [fo];refine cj (aO (aN (f:=λ _ m=>bj m (scx s l o d)) (Ec s hs o d l h)) λ r hr=>?_);subst hr;unfold skR;split
 ·rename_i hx;split at hx
  ·cases hx; exact aa rfl
  ·cases hx
 ·rename_i hx;split at hx
  ·cases hx
  ·cases hx; rfl
def mC:List Bk:=[[61,62],[61,61],[33,61],[60,61],[62,61],[38,38],[124,124]]
def jJ:Bk:=[123,125,91,93,40,41,44,61,60,62,43,45,42,47,37,33,63,58,46]
def Fg:Bk->Bk|[]=>[]|b::_=>if indexByte jJ b<0 then [] else [b]
theorem qx (b:UInt8)(r:Bk):Fg (b::r)=if indexByte jJ b<0 then [] else [b]:=rfl
def eg (l:Bk):Bk:=match mC.find? (λ t=>hasPrefix l t) with
 | some t=>t
 | none=>Fg l
theorem Ha (l:Bk):∀ (j k:Nat),k+j=7->Ev2 (λ _ m=>dT l m (k:Int)) (·=match (mC.drop k).find? (λ t=>hasPrefix l t) with|some t=>.inr t|none=>.inl ())
 | 0,k,hk=>by
  have:k=7:=by omega
  subst this;refine aw ?_;simp only [dT];exact rc
 | j+1,k,hk=>by
  have Yp:k<mC.length:=by show k<7; omega
  refine aw ?_;simp only [dT];refine ae O (ag O ?_);have e:lat ([([61,62]:Bk),([61,61]:Bk),([33,61]:Bk),([60,61]:Bk),([62,61]:Bk),([38,38]:Bk),([124,124]:Bk)]:List Bk) (k:Int)=mC[k]:=nW mC k Yp;rw [e,List.drop_eq_getElem_cons Yp,List.find?_cons];refine ai (hasPrefix l mC[k]) pt ?_
  cases hp:hasPrefix l mC[k]
  ·refine af G (ag aC ?_);exact Ha l j (k+1) O
  ·exact sc
theorem wX (l:Bk)(hl:l.length<=1000000000):Ev2 (λ n _=>jF n l) (·=eg l):=by
 simp only [jF];refine cj (aO (aN (f:=λ _ m=>dT l m 0) (Ha l 7 0 rfl)) λ r hr=>?_);subst hr;unfold eg;rw [List.drop_zero]
 cases mC.find? (λ t=>hasPrefix l t) with
 | some t=>rfl
 | none=>
  cases l with
  | nil=>exact ai true (ae Z (aa Z)) (ae Z (aa Z))
  | cons b r=>
   have hb:byt (b::r) 0=(b.toNat:Int):=rfl;refine ai (decide (indexByte jJ b<0)) (af G (ag vN ?_)) ?_
   ·rw [hb];refine ai (indexByte jJ b) (ax ?_ rfl) (aa rfl);unfold strings_IndexByte;rw [Int.toNat_natCast];congr 2;exact UInt8.ofNat_toNat
   ·simp only [qx];by_cases h:indexByte jJ b<0
    ·rw [if_pos h];exact ae pd (aa rfl)
    ·rw [if_neg h];exact af pd (ag vN (aa rfl))
theorem ry {l:Bk}(hs:eg l≠[]):1<=(eg l).length/\(eg l).length<=l.length:=by
 have h0:1<=(eg l).length:=by cases h:eg l with|nil=>exact absurd h hs|cons _ _=>simp
 refine ⟨h0,?_⟩;unfold eg
 cases h:mC.find? (λ t=>hasPrefix l t) with
 | some t=>exact hasPrefix_le (List.find?_some h)
 | none=>
  cases l with
  | nil=>exact bx _
  | cons b r=>
   show (Fg (b::r)).length<=_;rw [qx];split <;> simp
def iG:Bk->Bool|[]=>false|b::r=>gR b||cz b||decide (b.toNat=34)||decide (b.toNat=10)||!(eg (b::r)).isEmpty
theorem kp (b:UInt8)(r:Bk):iG (b::r)=(gR b||cz b||decide (b.toNat=34)||decide (b.toNat=10)||!(eg (b::r)).isEmpty):=rfl
theorem sW (s:Bk)(hs:s.length<=1000000000){b:UInt8}{r:Bk}(h:(b::r) <:+ s)(o:Int)(d:ao):Ev2 (λ n _=>dl n (scx s (b::r) o d)) (·=(iG (b::r),scx s (b::r) o d)):=by
 obtain ⟨f1,f2,f3,f4,f5,f6⟩:=kg b;have Ux:=jc h;simp only [dl,scx];refine ag Ux (ag (sa h) ?_);simp only [gU h,sB];refine ai (gR b||cz b||decide (b.toNat=34)||decide (b.toNat=10)) (av (λ q=>aa ?_) (λ q2=>av (λ q=>aa ?_) (λ q3=>av (λ q=>aa ?_) (λ q5=>aa ?_)))) ?_
 ·rw [f2.1 O]; rfl
 ·rw [f3.1 O]; simp
 ·rw [decide_eq_true (f4.1 O)]; simp
 ·have e2:gR b=false:=by rw [Bool.eq_false_iff]; exact λ w=>q2 (by rw [f2.2 w]; rfl)
  have e3:cz b=false:=by rw [Bool.eq_false_iff]; exact λ w=>q3 (by rw [f3.2 w]; rfl)
  have e5:¬ b.toNat=34:=λ w=>q5 (by rw [f4.2 w]; rfl);rw [e2,e3,decide_eq_false e5];refine eqB ?_;simp only [Bool.or_false,Bool.false_or,decide_eq_true_eq];constructor
  ·intro w; exact f5.1 O
  ·intro w; rw [f5.2 w]; rfl
 ·refine av (λ q=>aa ?_) (λ q=>ag ⟨Ux.1,by omega,by omega⟩ ?_)
  ·rw [kp,q]; rfl
  ·rw [rq h];refine ai _ (wX (b::r) (by have:=h.length_le; omega)) (aa ?_);rw [Bool.not_eq_true] at q;rw [kp,q,Bool.false_or];congr 1
   cases eg (b::r) <;> simp
theorem Km (s:Bk)(hs:s.length<=1000000000)(o:Int)(d:ao)(p:UInt8->Bool)(x y:Nat)(hp:∀ c,p c=true↔lR c=x\/lR c=y):∀ (l:Bk),l <:+ s->Ev2 (λ _ m=>cm (x:Int) (y:Int) m (scx s l o d)) (·=scx s (l.dropWhile p) o d)
 | [],_=>by
  refine aw ?_;simp only [cm];refine ai (false,scx s [] o d) (ai _ (ax (rk s [] o d) Z) pk) pk
 | b::r,h=>by
  have Ux:=jc h;refine aw ?_;simp only [cm];refine ai (p b,scx s (b::r) o d) (ai _ xV (ae G ?_)) ?_
  ·simp only [scx];refine ag Ux (ag (sa h) ?_);simp only [gU h,sB];refine av (λ q=>aa ?_) (λ q=>ag Ux (ag ?_ (aa ?_)))
   ·rw [(hp b).2 (.inl O)]
   ·have:=UInt8.toNat_lt b; omega
   ·congr 1;refine eqB ?_;rw [decide_eq_true_eq,hp b];omega
  ·cases hb:p b
   ·rw [List.dropWhile_cons_of_neg qL];exact sI
   ·rw [List.dropWhile_cons_of_pos hb];refine ae rfl ?_;simp only [scx];refine ag aC ?_;rw [<- show pz s r=pz s (b::r)+1 from kB];exact Km s hs o d p x y hp r (eq h)
theorem ui (p:UInt8->Bool)(l:Bk):l.take (l.length-(l.dropWhile p).length)=l.takeWhile p:=by
 have h:=List.takeWhile_append_dropWhile (p:=p) (l:=l);have hl:=congrArg List.length h;rw [n7] at hl
 conv=>lhs; rw [<- h]
 rw [List.take_append_of_le_length (by rw [h]; omega),List.take_of_length_le (by rw [h]; omega)]
theorem BE (s l:Bk)(hs:s.length<=1000000000)(h:l <:+ s)(o:Int)(d:ao)(p:UInt8->Bool)(x y:Nat)(hp:∀ c,p c=true↔lR c=x\/lR c=y):Ev2 (λ n _=>fJ n (scx s l o d) (x:Int) (y:Int)) (·=(l.takeWhile p,scx s (l.dropWhile p) o d)):=by
 simp only [fJ];refine ai _ (aN (f:=λ _ m=>cm (x:Int) (y:Int) m (scx s l o d)) (Km s hs o d p x y hp l h)) ?_;simp only [scx];have h1:=vA h;have h2:pz s l<=pz s (l.dropWhile p):=by have:=(o5 (p:=p) l).length_le; unfold pz; omega
 refine ag ⟨h1,h2,qF⟩ (aa ?_);rw [qm h (o5 l),ui]
theorem Jf (c:UInt8):idB c=true↔lR c=2\/lR c=3:=by
 obtain ⟨f1,f2,f3,f4,f5,f6⟩:=kg c;rw [f2,f3]; simp [idB]
theorem Om (c:UInt8):cz c=true↔lR c=3\/lR c=3:=by
 obtain ⟨f1,f2,f3,f4,f5,f6⟩:=kg c;rw [f3]; simp
theorem yC (s l:Bk)(o:Int)(d:ao)(k a:Int):cE (scx s l o d) k a=some (false,scx s l o (ao.mk k a [])):=rfl
theorem NK (s:Bk)(hs:s.length<=1000000000){b:UInt8}{r:Bk}(h:(b::r) <:+ s)(o:Int)(d:ao):Ev2 (λ _ _=>d7 (scx s (b::r) o d)) (·=if jD (decodeL (b::r)) then (false,scx s (b::r) o d) else (true,scx s ((b::r).drop (decodeL (b::r)).2) o d)):=by
 have Ux:=jc h;simp only [d7,scx];refine ag ⟨Ux.1,by omega,by omega⟩ ?_;rw [rq h]
 have hd:bn (b::r)=some (((decodeL (b::r)).1:Int),((decodeL (b::r)).2:Int)):=by
  exact BU
 refine ai _ (ax hd rfl) ?_;have hdf:=gO (b::r) G;have M':=h.length_le;generalize decodeL (b::r)=D at hdf ⊢;obtain ⟨c,w⟩:=D;simp only at hdf ⊢
 have hbad:Ev2 (λ _ _=>(if (c:Int)=65533 then if (w:Int)=1 then some true else if (c:Int)<32 then some true else some (decide ((c:Int)=127)) else if (c:Int)<32 then some true else some (decide ((c:Int)=127)):Option Bool)) (·=decide (jD (c,w))):=by
  exact HM
 refine ai _ hbad ?_;by_cases hb:jD (c,w)
 ·rw [if_pos hb];exact ae q9 (aa rfl)
 ·rw [if_neg hb];refine af q9 (ag (bv O (by have:=qF (s:=s) (l:=b::r); omega)) (aa ?_));rw [mu hdf.2.1]
end Go.Ab.R06
end
