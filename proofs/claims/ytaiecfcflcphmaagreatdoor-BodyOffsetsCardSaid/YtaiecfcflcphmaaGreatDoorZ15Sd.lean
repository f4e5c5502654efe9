/- Texts of the proof, one behind the other. No statement is proved here. -/
import Derived.Test.YtaiecfcflcphmaaGreatDoorZ15Sa
import Derived.Test.YtaiecfcflcphmaaGreatDoorZ15Sb
import Derived.Test.YtaiecfcflcphmaaGreatDoorZ15Sc
set_option maxHeartbeats 4000000
section
namespace Go.Ab.R06
open Go.Proofs Go.Ab Go.Ab.RB
variable {p:Prop}
theorem oM (h:p:=by
  exact nx 7 Z (mQ (oi h0) Z (sr))):p:=h
theorem nz (h:p:=by
  exact nx 3 Z (mQ (oi h0) Z (sr))):p:=h
theorem rm (h:p:=by
  exact nx 2 Z (eX _ (oi h4).symm (gE Z Z))):p:=h
theorem Bc (h:p:=by
  exact nx 1 Z (eX _ (oi h3).symm (gE Z Z))):p:=h
theorem mI (h:p:=by
  exact nx 2 Z (eX _ (oi h3).symm (gE Z Z))):p:=h
theorem FU (h:p:=by
  refine dPc (.p (.val (.slice none 0 0))) Z (dS Z ?_);refine cV (nx 2 Z ?_)
  exact mQ (hR0 _ (oi h1).symm) Z (cb ⟨gm _,sr,trivial⟩)):p:=h
theorem vI (h:p:=by
  exact nx 1 Z (eX _ (oi h1).symm (gE Z Z))):p:=h
theorem zk (h:p:=by
  exact nx 1 Z (eX _ (oi h2).symm (gE Z Z))):p:=h
theorem Iq (h:p:=by
  refine dR 1 Z (dE Z ?_)
  exact nx 2 Z (mQo (oi h0) (aJ _) Z Z Z (aF Z (aG _) Z) (sr) ⟨⟨_,Z,aV _⟩,trivial⟩)):p:=h
theorem u6 (h:p:=by
  exact nx 7 Z (mQ (hR0 _ (oi h1).symm) Z (sr))):p:=h
theorem yF (h:p:=by
  refine nx 3 Z (oA h1 Z Z λ RS h1=>?_)
  exact nx 2 Z (eX (t8+1) h1 (gE Z Z))):p:=h
theorem yR (h:p:=by
  have h0:=Ou _ hv;refine nx 1 Z ?_
  cases h0):p:=h
theorem yE (h:p:=by
  refine dE Z (nx 1 Z ?_)
  exact eX _ (oi h3).symm (gE Z Z)):p:=h
theorem sS (h:p:=by
  exact nx 8 Z (eX _ (oi h1).symm (gE Z Z))):p:=h
theorem i8 (h:p:=by
  exact nx 4 Z (eX _ (oi h1).symm (gE Z Z))):p:=h
theorem GM (h:p:=by
  exact nx 3 Z (mQo (hR0 _ (hR1 _ (oi h2).symm).symm) (aJ _) Z Z Z (aF Z (aG _) Z) (sr) ⟨⟨_,Z,aV _⟩,trivial⟩)):p:=h
theorem rq (h:p:=by
  exact nx 10 Z (eX _ (oi h1).symm (gE Z Z))):p:=h
theorem ez (h:p:=by
  exact nx 6 Z (mQ (oi h0) Z (sr))):p:=h
theorem va (h:p:=by
  exact nx 6 Z (mQo (oi h0) (aJ _) Z Z Z (aF Z (aG _) Z) (sr) ⟨⟨_,Z,aV _⟩,trivial⟩)):p:=h
theorem B5 (h:p:=by
  exact nx 5 Z (eX _ (oi h3).symm (gE Z Z))):p:=h
theorem jR (h:p:=by
  exact nx 6 Z (eX _ (oi h1).symm (gE Z Z))):p:=h
theorem pP (h:p:=by
  exact eX _ (oi h2).symm (gE Z Z)):p:=h
theorem Ch (h:p:=by exact gE (t:=⟨[(0,.ptr 1000000 0),(1,.p (eK .u8 Qs)),(2,.p (eK .u8 b_2)),(7,.p (eI NP.fat))],[(1000000,(ab.cs x14).map .p)]⟩) Z Z):p:=h
theorem ra (h:p:=by exact DV (e _ _ Z)):p:=h
theorem ym (h:p:=by first|rfl|(simp only [dg,th,ac.Mr]; done)|(simp only [dg,th,ac.Mr]; rfl)):p:=h
theorem nF (h:p:=by exact DV (NI _ _ Z)):p:=h
theorem p7 (h:p:=by repeat (first|exact ER _|apply BH Z|apply uX Z (x9 _ _)|apply uX Z Z)):p:=h
theorem FZ (h:p:=by exact mQo (hR0 _ (oi h1).symm) (aJ _) Z Z Z (aF Z (aG _) Z) (cb ⟨sr,sr,trivial⟩) ⟨⟨_,Z,aV _⟩,trivial⟩):p:=h
theorem Ii (h:p:=by exact gE (t:=⟨[(3,.ptr 3 0),(4,.ptr 101000 0)],[(3,oy),(101000,(ab.cs Rj.2).map .p)]⟩) Z Z):p:=h
theorem IR (h:p:=by exact mQo (hR0 _ (hR1 _ (oi h2).symm).symm) (aJ _) Z Z Z (aF Z (aG _) Z) (sr) ⟨⟨_,Z,aV _⟩,trivial⟩):p:=h
theorem CI (h:p:=by exact mQo (hR0 _ (hR1 _ (oi h2).symm).symm) (aJ _) Z Z Z (aF Z (aG _) (aF Z Z Z)) (sr) ⟨⟨_,Z,aV _⟩,⟨_,Z,⟨sr,trivial⟩⟩,trivial⟩):p:=h
theorem oQ (h:p:=by exact D9 (NI _ _ Z)):p:=h
attribute [local irreducible] awp fV aX aK aS AV.sub M cv
abbrev jQ:List AV:=[.p (eI 0),.p (eS ([]:Bk)),.p (eI 0)]
abbrev oy:List AV:=[.p (eI 0),.p (eI 0),.p (eS ([]:Bk))]
def bX (NP:ab):Option (Bool×ab) :=some (decide (NP.fat<(NP.fs.length:Int)),NP)
theorem cQ (NP:ab)(r:Bool×ab)(h0:bX NP=some r):aS Tryz.prog 48 [.ptr 1000000 0] [(1000000,(ab.cs NP).map .p)] (λ x y=>x=.p (eB r.1)/\y=[(1000000,(ab.cs r.2).map .p)]):=by
 unfold bX at h0;refine bT good [] [1000000] Tryz.func48 Z Z Z Z Z λ w0 F=>mPo (λ v:Bool×ab=>.p (eB v.1)) (λ v=>[(1000000,(ab.cs v.2).map .p)]) ?_;refine nx 5 Z (mD [(0,.ptr 1000000 0)] Z ⟨Z,trivial⟩ Z ?_);refine dR 3 Z (dq (.p (eI NP.fat)) [5] Z (λ _ e _ q=>ah Z (bm Z Z Z Z Z (e _ _ Z) Z (ab.g_at _) q)) Z ?_);refine dR 3 Z (dq (.p (eS NP.fs)) [9] Z (λ _ e _ q=>ah Z (bm Z Z Z Z Z (e _ _ Z) Z (ab.g_s _) q)) Z ?_);refine dq (.p (eI (NP.fs.length:Int))) [10] Z (λ _ e _ q=>ah Z (ss Z Z Z Z Z (e _ _ Z) q)) Z (dR 2 Z ?_);refine dE Z (nx 2 Z ?_);exact mQo (oi h0) (aJ _) Z Z Z (aF Z (aG _) Z) (sr) ⟨⟨_,Z,aV _⟩,trivial⟩
def bG:Nat->ab->Option (ab⊕ab)|0,_=>none|m+1,x20=>(bX x20).bind λ N9=>if N9.1=true then ck ((0:Int)<=N9.2.fat/\N9.2.fat<(N9.2.fs.length:Int))<|ck ((0:Int)<=byt N9.2.fs N9.2.fat/\byt N9.2.fs N9.2.fat<256)<|jn (if ((lat jm (byt N9.2.fs N9.2.fat)).toNat:Int)=1 then ck (inR (N9.2.fat+1))<|some (.inl (ab.mk N9.2.fs (N9.2.fat+1) N9.2.Mp N9.2.AI))else(if ((lat jm (byt N9.2.fs N9.2.fat)).toNat:Int)=7 then some (decide (N9.2.Mp<0))else some false : Option Bool).bind λ t29=>if t29=true then ck ((0:Int)<=N9.2.fat/\N9.2.fat<=(N9.2.fs.length:Int)/\(N9.2.fs.length:Int)<=(N9.2.fs.length:Int))<|(strings_IndexByte (sub N9.2.fs N9.2.fat (N9.2.fs.length:Int)) 10).bind λ Px=>(if Px<0 then ck (inR ((N9.2.fs.length:Int)-N9.2.fat))<|some ((N9.2.fs.length:Int)-N9.2.fat)else some Px : Option Int).bind λ n36=>ck (inR (N9.2.fat+n36))<|some (.inl (ab.mk N9.2.fs (N9.2.fat+n36) N9.2.Mp N9.2.AI))else some (.inr (.inr N9.2)) : Option (ab⊕(ab⊕ab))) λ x38=>bG m x38 else some (.inl N9.2)
def fw (n:Nat)(NP:ab):Option ab :=jn (bG n NP) λ x40=>some x40
theorem kJ (n:Nat)(NP:ab)(r:ab)(h0:fw n NP=some r):aS Tryz.prog 47 [.ptr 1000000 0] [(1000000,(ab.cs NP).map .p)] (λ x y=>x=.tuple []/\y=[(1000000,(ab.cs r).map .p)]):=by
 unfold fw at h0;refine bT good [] [1000000] Tryz.func47 Z Z Z Z Z λ w0 F=>mPo (λ v:ab=>.tuple []) (λ v=>[(1000000,(ab.cs v).map .p)]) ?_;refine nx 1 rfl ?_;obtain ⟨Sy,h1,Ou,hR0⟩:=cw h0;refine kEx 0 (λ v46:ab=>Sy=.inl v46) (λ v46=>⟨[],[(1000000,(ab.cs v46).map .p)]⟩) (λ v46 hv=>?_) ?_
 ·have h0:=Ou _ hv;exact nx 1 Z (Jt (oi h0) (aJ _) Z Z Z (aF Z (aG _) Z) (sr) ⟨⟨_,Z,aV _⟩,trivial⟩)
 refine lG (λ (PQ:ab)=>⟨[(0,.ptr 1000000 0)],[(1000000,(ab.cs PQ).map .p)]⟩) (λ m (PQ:ab)=>bG m PQ) Y NP h1 (gE rfl rfl) ?_;rintro m x20 h1;replace h1:bG (m+1) x20=some Sy:=h1;rw [bG] at h1;refine nx 4 rfl (bd h1 λ N9 RU h1=>?_);refine mO rfl (aN [1000000] [] 102000 102000 (cQ x20 _ RU) rfl rfl rfl rfl rfl ⟨sr,trivial⟩ rfl (aF rfl (aG _) rfl) ⟨⟨_,rfl,aV _⟩,trivial⟩ rfl rfl rfl rfl rfl rfl rfl rfl Tryz.call48 rfl (aF rfl (aG _) rfl) ?_);refine nx 1 rfl (fB [5] h1 rfl (λ P3 h1=>?_) λ P3 h1=>?_)
 ·refine nx 4 rfl (cc' h1 λ P7 h1=>?_);refine cc' h1 λ Qc h1=>mD [(0,.ptr 1000000 0)] rfl ⟨rfl,trivial⟩ rfl (dR 4 rfl ?_);refine dq (.p (eS N9.2.fs)) [9] rfl (λ _ e _ q=>ah rfl (bm Z Z Z Z Z (e _ _ rfl) rfl (ab.g_s _) q)) rfl (dR 3 rfl ?_);refine dq (.p (eI N9.2.fat)) [13] rfl (λ _ e _ q=>ah rfl (bm Z Z Z Z Z (e _ _ rfl) rfl (ab.g_at _) q)) rfl (dq (.p (eK .u8 (byt N9.2.fs N9.2.fat))) [10,14] rfl (λ _ e _ q=>ah rfl (k8 Z Z Z Z Z (e _ _ rfl) (e _ _ rfl) P7 q)) rfl ?_);refine dR 2 rfl (dq (.ptr 1000000 (2+(byt N9.2.fs N9.2.fat).toNat*1)) [15,17] rfl (λ _ e _ q=>ah rfl (gp Z Z Z Z Z Z (e _ _ rfl) (e _ _ rfl) Qc q)) rfl ?_);refine dq (.p (eK .u8 ((lat jm (byt N9.2.fs N9.2.fat)).toNat:Int))) [18] rfl (λ _ e _ q=>ah rfl (bm Z Z Z Z Z (e _ _ rfl) rfl (ab.g_class _ Qc) q)) rfl (dR 1 rfl ?_);refine dE rfl (nx 1 rfl ?_);obtain ⟨TM,h2,hL1,hR1⟩:=cw h1;refine kX (λ RG:ab=>TM=.inl RG) (λ RG=>⟨[(0,.ptr 1000000 0)],[(1000000,(ab.cs RG).map .p)]⟩) (λ RG hv=>?_) ?_
  ·have h1:=hL1 _ hv;exact nx 1 Z (eX RG h1 (gE Z Z))
  refine nx 7 Z (fD [20,22] h2 Z (λ SP h2=>?_) λ SP h2=>?_)
  ·refine nx 5 Z (mO Z (bm Z Z Z Z Z Z Z (ab.g_at _) ?_));refine oA h2 Z Z λ Rr h2=>nx 2 Z (mO Z (fv Z Z Z Z Z Z Z Z (ab.b_at _) (ab.u_at _) ?_));exact zk
  refine nx 2 Z (bd h2 λ o50 h3 h2=>?_);refine kN o50 (λ v51=>⟨[(0,.ptr 1000000 0),(30,.p (eB v51))],[(1000000,(ab.cs N9.2).map .p)]⟩) ?_ ?_
  ·refine nx 1 Z (fB [30] h2 Z (λ Tt h2=>?_) λ Tt h2=>?_)
   ·refine nx 2 Z (cc' h2 λ Te h2=>?_);refine bd h2 λ Px SJ h2=>mD [(0,.ptr 1000000 0)] Z ⟨Z,trivial⟩ Z (dR 3 Z ?_);refine dq (.p (eS N9.2.fs)) [42] Z (λ _ e _ q=>ah Z (bm Z Z Z Z Z (e _ _ Z) Z (ab.g_s _) q)) Z (dR 3 Z ?_);refine dq (.p (eI N9.2.fat)) [46] Z (λ _ e _ q=>ah Z (bm Z Z Z Z Z (e _ _ Z) Z (ab.g_at _) q)) Z (dq (.p (eS (sub N9.2.fs N9.2.fat (N9.2.fs.length:Int)))) [43,47] Z (λ _ e _ q=>ah Z (ed (a:=N9.2.fs) (l:=N9.2.fat) (h:=(N9.2.fs.length:Int)) Z Z Z Z Z (e _ _ Z) ra Z Te q)) Z ?_);refine dq (.p (eI Px)) [48] Z (λ _ e _ q=>ah Z (cF (gP (sub N9.2.fs N9.2.fat (N9.2.fs.length:Int)) 10 _ SJ) Z Z Z (aQ (e _ _ Z) (aQ Z bU)) ⟨sr,sr,trivial⟩ Tryz.call82 Z q)) Z (dR 1 Z ?_);refine dE Z (nx 2 Z ?_);refine bd h2 λ o52 h3 h2=>kN o52 (λ v53=>⟨[(0,.ptr 1000000 0),(3,.p (eI v53))],[(1000000,(ab.cs N9.2).map .p)]⟩) ?_ ?_
    ·refine nx 5 Z (mO Z (bm Z Z Z Z Z Z Z (ab.g_at _) ?_));refine nx 1 Z (oA h2 Z Z λ T3 h2=>?_);refine nx 2 Z (mO Z (fv Z Z Z Z Z Z Z Z (ab.b_at _) (ab.u_at _) ?_));exact zk
    refine nx 5 Z (fD [51] h3 Z (λ Vp h3=>?_) λ Vp h3=>?_)
    ·refine nx 1 Z (cc' h3 λ SG h3=>?_);refine mD [(0,.ptr 1000000 0)] Z ⟨Z,trivial⟩ Z (dR 3 Z ?_);refine dq (.p (eS N9.2.fs)) [54] Z (λ _ e _ q=>ah Z (bm Z Z Z Z Z (e _ _ Z) Z (ab.g_s _) q)) Z (dq (.p (eI (N9.2.fs.length:Int))) [55] Z (λ _ e _ q=>ah Z (ss Z Z Z Z Z (e _ _ Z) q)) Z ?_);refine dR 3 Z (dq (.p (eI N9.2.fat)) [59] Z (λ _ e _ q=>ah Z (bm Z Z Z Z Z (e _ _ Z) Z (ab.g_at _) q)) Z ?_);refine dq (.p (eI ((N9.2.fs.length:Int)-N9.2.fat))) [56,60] Z (λ _ e _ q=>ah Z (fK Z Z Z (e _ _ Z) (e _ _ Z) Z SG q)) Z (dR 1 Z ?_);exact yE
    exact mI
   exact nx 2 Z IR
  refine nx 4 Z (fD [32,33] h3 Z (λ Ul h3=>?_) λ Ul h3=>?_)
  ·refine nx 3 Z (mO Z (bm Z Z Z Z Z Z Z (ab.g_outer _) ?_));exact pX
  exact nx 8 Z yX
 exact cH
def ep (NN:Bk):Nat->Int->Option (Unit⊕Bk)|0,_=>none|m+1,t8=>if t8<7 then ck ((0:Int)<=t8/\t8<7)<|(strings_HasPrefix NN (lat ([([61,62]:Bk),([61,61]:Bk),([33,61]:Bk),([60,61]:Bk),([62,61]:Bk),([38,38]:Bk),([124,124]:Bk)]:List Bk) t8)).bind λ PM=>if PM=true then some (.inr (lat ([([61,62]:Bk),([61,61]:Bk),([33,61]:Bk),([60,61]:Bk),([62,61]:Bk),([38,38]:Bk),([124,124]:Bk)]:List Bk) t8))else ck (inR (t8+1))<|ep NN m (t8+1)else some (.inl ())
def jp (n:Nat)(NN:Bk):Option Bk :=jn (ep NN n 0) λ _q23=>(if NN=([]:Bk) then some true else ck ((0:Int)<=0/\0<(NN.length:Int))<|(strings_IndexByte ([123,125,91,93,40,41,44,61,60,62,43,45,42,47,37,33,63,58,46]:Bk) (byt NN 0)).bind λ Py=>some (decide (Py<0)) : Option Bool).bind λ t20=>if t20=true then some ([]:Bk)else ck ((0:Int)<=0/\(0:Int)<=1/\(1:Int)<=(NN.length:Int))<|some (sub NN 0 1)
theorem oZ (n:Nat)(NN:Bk)(r:Bk)(h0:jp n NN=some r):aK Tryz.prog 83 [eS NN] (·=.p (eS r)):=by
 unfold jp at h0;refine bV good Tryz.func83 Z Z Z λ w0=>mP (λ v:Bk=>.p (eS v)) ?_;refine nx 11 rfl ?_;obtain ⟨TN,h1,Ou,hR0⟩:=cw h0;refine kEx 0 (λ Sj:Unit=>TN=.inl Sj) (λ Sj=>⟨[(0,.p (eS NN))],[]⟩) (λ Sj hv=>?_) ?_
 ·have h0:=Ou _ hv;refine nx 3 Z (bd h0 λ PC h1 h0=>?_);refine kN PC (λ R5=>⟨[(0,.p (eS NN)),(21,.p (eB R5))],[]⟩) ?_ ?_
  ·refine nx 1 Z (fB [21] h0 Z (λ c21 h0=>?_) λ c21 h0=>?_)
   ·exact ez
   refine nx 5 Z (oP h0 Z Z Z λ Pw h0=>?_);exact nz
  refine nx 2 Z (oS Z Z ?_);refine nx 1 Z (fD [15,16] h1 Z (λ SQ h1=>?_) λ SQ h1=>?_)
  ·exact jR
  refine nx 1 Z (oI h1 Z λ UY h1=>?_);refine bd h1 λ Py SK h1=>oK (gP ([123,125,91,93,40,41,44,61,60,62,43,45,42,47,37,33,63,58,46]:Bk) (byt NN 0) _ SK) Z ⟨sr,sr,trivial⟩ Tryz.call82 Z (nx 3 Z ?_);exact ip
 refine lG (λ (Sv:Int)=>⟨[(0,.p (eS NN)),(5,.p (.agg [eS ([61,62]:Bk),eS ([61,61]:Bk),eS ([33,61]:Bk),eS ([60,61]:Bk),eS ([62,61]:Bk),eS ([38,38]:Bk),eS ([124,124]:Bk)])),(6,.p (eI Sv))],[]⟩) (λ m (Sv:Int)=>ep NN m Sv) Y 0 h1 (gE rfl rfl) ?_;rintro m t8 h1;replace h1:ep NN (m+1) t8=some TN:=h1;rw [ep] at h1;refine nx 5 rfl (fD [7] h1 rfl (λ c9 h1=>?_) λ c9 h1=>?_)
 ·refine nx 6 Z (cc' h1 λ Po h1=>?_);refine mO Z (w6 eS ([([61,62]:Bk),([61,61]:Bk),([33,61]:Bk),([60,61]:Bk),([62,61]:Bk),([38,38]:Bk),([124,124]:Bk)]:List Bk) Z Z Z Z Z Z Z Z Z Z Z (by have:=Po; simp only [cl,n7]; omega) ?_);refine nx 6 Z (bd h1 λ PM QN h1=>?_);refine oK (cr NN (lat ([([61,62]:Bk),([61,61]:Bk),([33,61]:Bk),([60,61]:Bk),([62,61]:Bk),([38,38]:Bk),([124,124]:Bk)]:List Bk) t8) _ QN) Z ⟨sr,sr,trivial⟩ Tryz.call110 Z (nx 1 Z ?_);refine fB [11] h1 Z (λ P8 h1=>?_) λ P8 h1=>?_
  ·exact u6
  exact yF
 exact cH
def dF (n:Nat)(NP:ab):Option (Bool×ab) :=ck ((0:Int)<=NP.fat/\NP.fat<(NP.fs.length:Int))<|ck ((0:Int)<=byt NP.fs NP.fat/\byt NP.fs NP.fat<256)<|(if ((lat jm (byt NP.fs NP.fat)).toNat:Int)=2 then some true else if ((lat jm (byt NP.fs NP.fat)).toNat:Int)=3 then some true else if ((lat jm (byt NP.fs NP.fat)).toNat:Int)=5 then some true else some (decide (((lat jm (byt NP.fs NP.fat)).toNat:Int)=6)) : Option Bool).bind λ t6=>if t6=true then some (true,NP)else ck ((0:Int)<=NP.fat/\NP.fat<=(NP.fs.length:Int)/\(NP.fs.length:Int)<=(NP.fs.length:Int))<|(jp n (sub NP.fs NP.fat (NP.fs.length:Int))).bind λ r9=>some (!decide (r9=([]:Bk)),NP)
theorem il (n:Nat)(NP:ab)(r:Bool×ab)(h0:dF n NP=some r):aS Tryz.prog 49 [.ptr 1000000 0] [(1000000,(ab.cs NP).map .p)] (λ x y=>x=.p (eB r.1)/\y=[(1000000,(ab.cs r.2).map .p)]):=by
 unfold dF at h0;refine bT good [] [1000000] Tryz.func49 Z Z Z Z Z λ w0 F=>mPo (λ v:Bool×ab=>.p (eB v.1)) (λ v=>[(1000000,(ab.cs v.2).map .p)]) ?_;refine nx 6 Z (cc' h0 λ Ra h0=>?_);refine cc' h0 λ P2 h0=>mD [(0,.ptr 1000000 0)] Z ⟨Z,trivial⟩ Z (dR 4 Z ?_);refine dq (.p (eS NP.fs)) [6] Z (λ _ e _ q=>ah Z (bm Z Z Z Z Z (e _ _ Z) Z (ab.g_s _) q)) Z (dR 3 Z ?_);refine dq (.p (eI NP.fat)) [10] Z (λ _ e _ q=>ah Z (bm Z Z Z Z Z (e _ _ Z) Z (ab.g_at _) q)) Z (dq (.p (eK .u8 (byt NP.fs NP.fat))) [7,11] Z (λ _ e _ q=>ah Z (k8 Z Z Z Z Z (e _ _ Z) (e _ _ Z) Ra q)) Z ?_);refine dR 2 Z (dq (.ptr 1000000 (2+(byt NP.fs NP.fat).toNat*1)) [12,14] Z (λ _ e _ q=>ah Z (gp Z Z Z Z Z Z (e _ _ Z) (e _ _ Z) P2 q)) Z ?_);refine dq (.p (eK .u8 ((lat jm (byt NP.fs NP.fat)).toNat:Int))) [15] Z (λ _ e _ q=>ah Z (bm Z Z Z Z Z (e _ _ Z) Z (ab.g_class _ P2) q)) Z (dE Z ?_);refine nx 3 Z (bd h0 λ TV h1 h0=>?_);refine kN TV (λ RH=>⟨[(0,.ptr 1000000 0),(17,.p (eB RH))],[(1000000,(ab.cs NP).map .p)]⟩) ?_ ?_
 ·refine nx 1 Z (fB [17] h0 Z (λ c7 h0=>?_) λ c7 h0=>?_)
  ·exact va
  refine nx 3 Z (cc' h0 λ SC h0=>?_);refine bd h0 λ r9 Qp h0=>mD [(0,.ptr 1000000 0)] Z ⟨Z,trivial⟩ Z (dR 3 Z ?_);refine dq (.p (eS NP.fs)) [24] Z (λ _ e _ q=>ah Z (bm Z Z Z Z Z (e _ _ Z) Z (ab.g_s _) q)) Z (dR 3 Z ?_);refine dq (.p (eI NP.fat)) [28] Z (λ _ e _ q=>ah Z (bm Z Z Z Z Z (e _ _ Z) Z (ab.g_at _) q)) Z (dq (.p (eS (sub NP.fs NP.fat (NP.fs.length:Int)))) [25,29] Z (λ _ e _ q=>ah Z (ed (a:=NP.fs) (l:=NP.fat) (h:=(NP.fs.length:Int)) Z Z Z Z Z (e _ _ Z) ra Z SC q)) Z ?_);refine dq (.p (eS r9)) [30] Z (λ _ e _ q=>ah Z (cF (oZ _ (sub NP.fs NP.fat (NP.fs.length:Int)) _ Qp) Z Z Z (aQ (e _ _ Z) bU) ⟨sr,trivial⟩ Tryz.call83 Z q)) Z (dq (.p (eB (!decide (r9=([]:Bk))))) [31] Z (λ _ e _ q=>ah Z (yq Z Z Z (e _ _ Z) Z Z q)) Z ?_);exact Iq
 refine nx 5 Z (fD [17,18] h1 Z (λ c3 h1=>?_) λ c3 h1=>?_)
 ·exact cZ
 refine nx 6 Z (fD [17,19] h1 Z (λ c4 h1=>?_) λ c4 h1=>?_)
 ·exact cZ
 refine nx 6 Z (fD [17,20] h1 Z (λ c5 h1=>?_) λ c5 h1=>?_)
 ·exact cZ
 exact fx
def cJ (Qs:Int)(b_2:Int):Nat->ab->Option ab|0,_=>none|m+1,x14=>((bX x14).bind λ N8=>if N8.1=true then ck ((0:Int)<=N8.2.fat/\N8.2.fat<(N8.2.fs.length:Int))<|ck ((0:Int)<=byt N8.2.fs N8.2.fat/\byt N8.2.fs N8.2.fat<256)<|if ((lat jm (byt N8.2.fs N8.2.fat)).toNat:Int)=Qs then some (true,N8.2)else ck ((0:Int)<=N8.2.fat/\N8.2.fat<(N8.2.fs.length:Int))<|ck ((0:Int)<=byt N8.2.fs N8.2.fat/\byt N8.2.fs N8.2.fat<256)<|some (decide (((lat jm (byt N8.2.fs N8.2.fat)).toNat:Int)=b_2),N8.2)else some (false,N8.2) : Option (Bool×ab)).bind λ Qr=>if Qr.1=true then ck (inR (Qr.2.fat+1))<|cJ Qs b_2 m (ab.mk Qr.2.fs (Qr.2.fat+1) Qr.2.Mp Qr.2.AI)else some Qr.2
def fJ (n:Nat)(NP:ab)(Qs:Int)(b_2:Int):Option (Bk×ab) :=(cJ Qs b_2 n NP).bind λ x28=>ck ((0:Int)<=NP.fat/\NP.fat<=x28.fat/\x28.fat<=(x28.fs.length:Int))<|some (sub x28.fs NP.fat x28.fat,x28)
theorem lh (n:Nat)(NP:ab)(Qs:Int)(b_2:Int)(r:Bk×ab)(h0:fJ n NP Qs b_2=some r):aS Tryz.prog 84 [.ptr 1000000 0,.p (eK .u8 Qs),.p (eK .u8 b_2)] [(1000000,(ab.cs NP).map .p)] (λ x y=>x=.p (eS r.1)/\y=[(1000000,(ab.cs r.2).map .p)]):=by
 unfold fJ at h0;refine bT good [] [1000000] Tryz.func84 Z Z Z Z Z λ w0 F=>mPo (λ v:Bk×ab=>.p (eS v.1)) (λ v=>[(1000000,(ab.cs v.2).map .p)]) ?_;refine nx 9 Z (mO Z (bm Z Z Z Z Z Z Z (ab.g_at _) ?_));refine nx 4 Z (bd h0 λ Rz h1 h0=>?_);refine kE 0 Rz (λ TQ=>⟨[(0,.ptr 1000000 0),(7,.p (eI NP.fat))],[(1000000,(ab.cs TQ).map .p)]⟩) ?_ ?_
 ·refine nx 2 Z (cc' h0 λ Tg h0=>?_);refine mD [(0,.ptr 1000000 0),(7,.p (eI NP.fat))] Z ⟨Z,Z,trivial⟩ Z (dR 3 Z ?_);refine dq (.p (eS Rz.fs)) [59] Z (λ _ e _ q=>ah Z (bm Z Z Z Z Z (e _ _ Z) Z (ab.g_s _) q)) Z (dR 4 Z ?_);refine dq (.p (eI Rz.fat)) [64] Z (λ _ e _ q=>ah Z (bm Z Z Z Z Z (e _ _ Z) Z (ab.g_at _) q)) Z (dq (.p (eS (sub Rz.fs NP.fat Rz.fat))) [60,61,65] Z (λ _ e _ q=>ah Z (ed (a:=Rz.fs) (l:=NP.fat) (h:=Rz.fat) Z Z Z Z Z (e _ _ Z) ra (D9 (e _ _ Z)) Tg q)) Z ?_);exact Iq
 refine lG (λ (q34:ab)=>⟨[(0,.ptr 1000000 0),(1,.p (eK .u8 Qs)),(2,.p (eK .u8 b_2)),(7,.p (eI NP.fat))],[(1000000,(ab.cs q34).map .p)]⟩) (λ m (q34:ab)=>cJ Qs b_2 m q34) Y NP h1 (gE rfl rfl) ?_;rintro m x14 h1;replace h1:cJ Qs b_2 (m+1) x14=some Rz:=h1;rw [cJ] at h1;refine nx 2 rfl (bd h1 λ S' h2 h1=>?_);refine kN S' (λ Um=>⟨[(0,.ptr 1000000 0),(1,.p (eK .u8 Qs)),(2,.p (eK .u8 b_2)),(7,.p (eI NP.fat)),(49,.p (eB Um.1))],[(1000000,(ab.cs Um.2).map .p)]⟩) ?_ ?_
 ·refine nx 1 Z (fB [49] h1 Z (λ QD h1=>?_) λ QD h1=>?_)
  ·refine nx 7 Z (mO Z (bm Z Z Z Z Z Z Z (ab.g_at _) ?_));refine oA h1 Z Z λ PH h1=>nx 2 Z (mO Z (fv Z Z Z Z Z Z Z Z (ab.b_at _) (ab.u_at _) ?_));exact nx 1 Z (eX (ab.mk S'.2.fs (S'.2.fat+1) S'.2.Mp S'.2.AI) h1 (gE Z Z))
  exact cH
 refine bd h2 λ N8 SL h2=>fB (p:=N8.1) [] h2 Z (λ Oo h2=>?_) λ Oo h2=>?_
 ·refine cc' h2 λ QL h2=>cc' h2 λ QC h2=>fD (p:=((lat jm (byt N8.2.fs N8.2.fat)).toNat:Int)=Qs) [] h2 Z (λ c20 h2=>?_) λ c20 h2=>?_
  ·refine mG Ch (mSq ⟨1,[1],(by2 (.some (dp [] 108000 108000)) .none),(λ _=>[(0,.ptr 1000000 0),(1,.p (eK .u8 Qs)),(2,.p (eK .u8 b_2)),(7,.p (eI NP.fat))]),(by2 [(1000000,(ab.cs x14).map .p)] [(1000000,(ab.cs N8.2).map .p)])⟩ Z ?_);refine dPc (.ptr 1000000 0) Z (dB (λ _=>.p (eB N8.1)) [(12,_)] Z ⟨.inr ⟨0,_,Z,Z,Z⟩,trivial⟩ Z Z Y (lt1 (λ h=>absurd h (by decide))) (λ sl NI K hK=>ah Z (aN [1000000] [] 108000 108000 (cQ x14 _ SL) Z Z Z (aQ (NI _ _ Z) bU) Z ⟨sr,trivial⟩ Z (aF Z (aG _) Z) ⟨⟨_,Z,aV _⟩,trivial⟩ Z Z Z Z Z Z Z Z Tryz.call48 Z (aF Z (aG _) Z) hK)) ?_);refine dPc (.p (eB N8.1)) Z (dPy (λ _=>.ptr 1000000 0) (Oo) Z ?_);refine dPy (λ _=>.ptr 1000000 0) (Oo) Z (dPy (λ _=>.ptr 1000000 0) (Oo) Z ?_);refine dPy (λ _=>.ptr 1000000 0) (Oo) Z (dPy (λ _=>.p (eS N8.2.fs)) (Oo) Z ?_);refine dPy (λ _=>.ptr 1000000 0) (Oo) Z (dPy (λ _=>.ptr 1000000 0) (Oo) Z ?_);refine dPy (λ _=>.ptr 1000000 1) (Oo) Z (dPy (λ _=>.p (eI N8.2.fat)) (Oo) Z ?_);refine ar (λ _=>.p (eK .u8 (byt N8.2.fs N8.2.fat))) Z Z Z (dG Z Y) (lt1 Z) (ai [(14,_),(19,_),(23,_)] ⟨.inr ⟨2,_,Z,Z,Z⟩,.inr ⟨7,_,Z,Z,Z⟩,.inr ⟨11,_,Z,Z,Z⟩,trivial⟩ (λ sl NI K hK=>fE (k8 Z Z Z Z Z (NI _ _ Z) (NI _ _ Z) QL hK) Z Z (NI _ _ Z) (Oo)) (ak Z ap)) (dPy (λ _=>.ptr 1000000 0) (Oo) Z ?_);refine dPy (λ _=>.ptr 1000000 2) (Oo) Z (ar (λ _=>.ptr 1000000 (2+(byt N8.2.fs N8.2.fat).toNat*1)) Z Z Z (dG Z Y) (lt1 Z) (ai [(14,_),(24,_),(26,_)] ⟨.inr ⟨2,_,Z,Z,Z⟩,.inr ⟨12,_,Z,Z,Z⟩,.inr ⟨14,_,Z,Z,Z⟩,trivial⟩ (λ sl NI K hK=>fE (gp Z Z Z Z Z Z (NI _ _ Z) (NI _ _ Z) QC hK) Z Z (NI _ _ Z) (Oo)) (ak Z ap)) ?_);refine ar (λ _=>.p (eK .u8 ((lat jm (byt N8.2.fs N8.2.fat)).toNat:Int))) Z Z Z (dG Z Y) (lt1 Z) (ai [(14,_),(27,_)] ⟨.inr ⟨2,_,Z,Z,Z⟩,.inr ⟨15,_,Z,Z,Z⟩,trivial⟩ (λ sl NI K hK=>fE (bm Z Z Z Z Z (NI _ _ Z) Z (ab.g_class _ QC) hK) Z Z (NI _ _ Z) (Oo)) (ak Z ap)) (dPy (λ _=>.p (eK .u8 Qs)) (Oo) Z ?_);refine dPy (λ _=>.p (eB (decide (((lat jm (byt N8.2.fs N8.2.fat)).toNat:Int)=Qs)))) (Oo) Z (dPy (λ _=>.p (eB (decide (((lat jm (byt N8.2.fs N8.2.fat)).toNat:Int)=Qs)))) (Oo) Z ?_);refine dPn (dt c20) Z (dPn (dt c20) Z ?_);refine dPn (dt c20) Z (dPn (dt c20) Z ?_);refine dPn (dt c20) Z (dPn (dt c20) Z ?_);refine dPn (dt c20) Z (dPn (dt c20) Z ?_);refine dPn (dt c20) Z (dPn (dt c20) Z ?_);refine dPn (dt c20) Z (dPn (dt c20) Z ?_);refine dPn (dt c20) Z (dPn (dt c20) Z ?_);refine dPn (dt c20) Z (dPn (dt c20) Z ?_);refine ar (λ _=>.p (eB true)) Z Z Z (dG Z Y) (lt1 Z) (ai [(14,_),(31,_),(47,_)] ⟨.inr ⟨2,_,Z,Z,Z⟩,.inr ⟨19,_,Z,Z,Z⟩,.inr ⟨35,_,Z,Z,Z⟩,trivial⟩ (λ sl NI K hK=>fE (lS Z Z Z (NI _ _ Z) (dt c20) Z hK) Z Z (NI _ _ Z) (Oo)) (ak Z ap)) (ar (λ _=>.p (eB true)) Z Z Z (dG Z Y) (lt1 Z) (ai [(14,_),(48,_)] ⟨.inr ⟨2,_,Z,Z,Z⟩,.inr ⟨36,_,Z,Z,Z⟩,trivial⟩ (λ sl NI K hK=>ah Z (lS Z Z Z (NI _ _ Z) (Oo) (NI _ _ Z) hK)) (ak Z ap)) ?_);refine cV (nx 1 Z ?_);exact pP
  refine cc' h2 λ PY h2=>cc' h2 λ Pw h2=>mG Ch (mSq ⟨1,[1],(by2 (.some (dp [] 109000 109000)) .none),(λ _=>[(0,.ptr 1000000 0),(1,.p (eK .u8 Qs)),(2,.p (eK .u8 b_2)),(7,.p (eI NP.fat))]),(by2 [(1000000,(ab.cs x14).map .p)] [(1000000,(ab.cs N8.2).map .p)])⟩ Z ?_);refine dPc (.ptr 1000000 0) Z (dB (λ _=>.p (eB N8.1)) [(12,_)] Z ⟨.inr ⟨0,_,Z,Z,Z⟩,trivial⟩ Z Z Y (lt1 (λ h=>absurd h (by decide))) (λ sl NI K hK=>ah Z (aN [1000000] [] 109000 109000 (cQ x14 _ SL) Z Z Z (aQ (NI _ _ Z) bU) Z ⟨sr,trivial⟩ Z (aF Z (aG _) Z) ⟨⟨_,Z,aV _⟩,trivial⟩ Z Z Z Z Z Z Z Z Tryz.call48 Z (aF Z (aG _) Z) hK)) ?_);refine dPc (.p (eB N8.1)) Z (dPy (λ _=>.ptr 1000000 0) (Oo) Z ?_);refine dPy (λ _=>.ptr 1000000 0) (Oo) Z (dPy (λ _=>.ptr 1000000 0) (Oo) Z ?_);refine dPy (λ _=>.ptr 1000000 0) (Oo) Z (dPy (λ _=>.p (eS N8.2.fs)) (Oo) Z ?_);refine dPy (λ _=>.ptr 1000000 0) (Oo) Z (dPy (λ _=>.ptr 1000000 0) (Oo) Z ?_);refine dPy (λ _=>.ptr 1000000 1) (Oo) Z (dPy (λ _=>.p (eI N8.2.fat)) (Oo) Z ?_);refine ar (λ _=>.p (eK .u8 (byt N8.2.fs N8.2.fat))) Z Z Z (dG Z Y) (lt1 Z) (ai [(14,_),(19,_),(23,_)] ⟨.inr ⟨2,_,Z,Z,Z⟩,.inr ⟨7,_,Z,Z,Z⟩,.inr ⟨11,_,Z,Z,Z⟩,trivial⟩ (λ sl NI K hK=>fE (k8 Z Z Z Z Z (NI _ _ Z) (NI _ _ Z) QL hK) Z Z (NI _ _ Z) (Oo)) (ak Z ap)) (dPy (λ _=>.ptr 1000000 0) (Oo) Z ?_);refine dPy (λ _=>.ptr 1000000 2) (Oo) Z (ar (λ _=>.ptr 1000000 (2+(byt N8.2.fs N8.2.fat).toNat*1)) Z Z Z (dG Z Y) (lt1 Z) (ai [(14,_),(24,_),(26,_)] ⟨.inr ⟨2,_,Z,Z,Z⟩,.inr ⟨12,_,Z,Z,Z⟩,.inr ⟨14,_,Z,Z,Z⟩,trivial⟩ (λ sl NI K hK=>fE (gp Z Z Z Z Z Z (NI _ _ Z) (NI _ _ Z) QC hK) Z Z (NI _ _ Z) (Oo)) (ak Z ap)) ?_);refine ar (λ _=>.p (eK .u8 ((lat jm (byt N8.2.fs N8.2.fat)).toNat:Int))) Z Z Z (dG Z Y) (lt1 Z) (ai [(14,_),(27,_)] ⟨.inr ⟨2,_,Z,Z,Z⟩,.inr ⟨15,_,Z,Z,Z⟩,trivial⟩ (λ sl NI K hK=>fE (bm Z Z Z Z Z (NI _ _ Z) Z (ab.g_class _ QC) hK) Z Z (NI _ _ Z) (Oo)) (ak Z ap)) (dPy (λ _=>.p (eK .u8 Qs)) (Oo) Z ?_);refine dPy (λ _=>.p (eB (decide (((lat jm (byt N8.2.fs N8.2.fat)).toNat:Int)=Qs)))) (Oo) Z (dPy (λ _=>.p (eB (decide (((lat jm (byt N8.2.fs N8.2.fat)).toNat:Int)=Qs)))) (Oo) Z ?_);refine dPy (λ _=>.ptr 1000000 0) (df c20) Z (dPy (λ _=>.ptr 1000000 0) (df c20) Z ?_);refine dPy (λ _=>.ptr 1000000 0) (df c20) Z (dPy (λ _=>.ptr 1000000 0) (df c20) Z ?_);refine dPy (λ _=>.p (eS N8.2.fs)) (df c20) Z (dPy (λ _=>.ptr 1000000 0) (df c20) Z ?_);refine dPy (λ _=>.ptr 1000000 0) (df c20) Z (dPy (λ _=>.ptr 1000000 1) (df c20) Z ?_);refine dPy (λ _=>.p (eI N8.2.fat)) (df c20) Z (ar (λ _=>.p (eK .u8 (byt N8.2.fs N8.2.fat))) Z Z Z (dG Z Y) (lt1 Z) (ai [(31,_),(36,_),(40,_)] ⟨.inr ⟨19,_,Z,Z,Z⟩,.inr ⟨24,_,Z,Z,Z⟩,.inr ⟨28,_,Z,Z,Z⟩,trivial⟩ (λ sl NI K hK=>fE (k8 Z Z Z Z Z (NI _ _ Z) (NI _ _ Z) PY hK) Z Z (NI _ _ Z) (df c20)) (ak Z ap)) ?_);refine dPy (λ _=>.ptr 1000000 0) (df c20) Z (dPy (λ _=>.ptr 1000000 2) (df c20) Z ?_);refine ar (λ _=>.ptr 1000000 (2+(byt N8.2.fs N8.2.fat).toNat*1)) Z Z Z (dG Z Y) (lt1 Z) (ai [(31,_),(41,_),(43,_)] ⟨.inr ⟨19,_,Z,Z,Z⟩,.inr ⟨29,_,Z,Z,Z⟩,.inr ⟨31,_,Z,Z,Z⟩,trivial⟩ (λ sl NI K hK=>fE (gp Z Z Z Z Z Z (NI _ _ Z) (NI _ _ Z) Pw hK) Z Z (NI _ _ Z) (df c20)) (ak Z ap)) (ar (λ _=>.p (eK .u8 ((lat jm (byt N8.2.fs N8.2.fat)).toNat:Int))) Z Z Z (dG Z Y) (lt1 Z) (ai [(31,_),(44,_)] ⟨.inr ⟨19,_,Z,Z,Z⟩,.inr ⟨32,_,Z,Z,Z⟩,trivial⟩ (λ sl NI K hK=>fE (bm Z Z Z Z Z (NI _ _ Z) Z (ab.g_class _ Pw) hK) Z Z (NI _ _ Z) (df c20)) (ak Z ap)) ?_);refine dPy (λ _=>.p (eK .u8 b_2)) (df c20) Z (dPy (λ _=>.p (eB (decide (((lat jm (byt N8.2.fs N8.2.fat)).toNat:Int)=b_2)))) (df c20) Z ?_);refine ar (λ _=>.p (eB (decide (((lat jm (byt N8.2.fs N8.2.fat)).toNat:Int)=b_2)))) Z Z Z (dG Z Y) (lt1 Z) (ai [(14,_),(31,_),(47,_)] ⟨.inr ⟨2,_,Z,Z,Z⟩,.inr ⟨19,_,Z,Z,Z⟩,.inr ⟨35,_,Z,Z,Z⟩,trivial⟩ (λ sl NI K hK=>fE (nA Z Z Z (NI _ _ Z) (df c20) (NI _ _ Z) hK) Z Z (NI _ _ Z) (Oo)) (ak Z ap)) (ar (λ _=>.p (eB (decide (((lat jm (byt N8.2.fs N8.2.fat)).toNat:Int)=b_2)))) Z Z Z (dG Z Y) (lt1 Z) (ai [(14,_),(48,_)] ⟨.inr ⟨2,_,Z,Z,Z⟩,.inr ⟨36,_,Z,Z,Z⟩,trivial⟩ (λ sl NI K hK=>ah Z (lS Z Z Z (NI _ _ Z) (Oo) (NI _ _ Z) hK)) (ak Z ap)) ?_);refine cV (nx 1 Z ?_);exact pP
 refine mG Ch (mSq ⟨1,[1],(by2 (.some (dp [] 110000 110000)) .none),(λ _=>[(0,.ptr 1000000 0),(1,.p (eK .u8 Qs)),(2,.p (eK .u8 b_2)),(7,.p (eI NP.fat))]),(by2 [(1000000,(ab.cs x14).map .p)] [(1000000,(ab.cs N8.2).map .p)])⟩ Z ?_);refine dPc (.ptr 1000000 0) Z (dB (λ _=>.p (eB N8.1)) [(12,_)] Z ⟨.inr ⟨0,_,Z,Z,Z⟩,trivial⟩ Z Z Y (lt1 (λ h=>absurd h (by decide))) (λ sl NI K hK=>ah Z (aN [1000000] [] 110000 110000 (cQ x14 _ SL) Z Z Z (aQ (NI _ _ Z) bU) Z ⟨sr,trivial⟩ Z (aF Z (aG _) Z) ⟨⟨_,Z,aV _⟩,trivial⟩ Z Z Z Z Z Z Z Z Tryz.call48 Z (aF Z (aG _) Z) hK)) ?_);refine dPc (.p (eB N8.1)) Z (dPn (Oo) Z ?_);refine dPn (Oo) Z (dPn (Oo) Z ?_);refine dPn (Oo) Z (dPn (Oo) Z ?_);refine dPn (Oo) Z (dPn (Oo) Z ?_);refine dPn (Oo) Z (dPn (Oo) Z ?_);refine dPn (Oo) Z (dPn (Oo) Z ?_);refine dPn (Oo) Z (dPn (Oo) Z ?_);refine dPn (Oo) Z (dPn (Oo) Z ?_);refine dPn (Oo) Z (dPn (Oo) Z ?_);refine dPx Z (dPx Z ?_);refine dPx Z (dPx Z ?_);refine dPx Z (dPx Z ?_);refine dPx Z (dPx Z ?_);refine dPx Z (dPx Z ?_);refine dPx Z (dPx Z ?_);refine dPx Z (dPx Z ?_);refine dPx Z (dPx Z ?_);refine dPn (Oo) Z (ar (λ _=>.p (eB false)) Z Z Z (dG Z Y) (lt1 Z) (ai [(14,_),(48,_)] ⟨.inr ⟨2,_,Z,Z,Z⟩,.inr ⟨36,_,Z,Z,Z⟩,trivial⟩ (λ sl NI K hK=>ah Z (nA Z Z Z (NI _ _ Z) (Oo) Z hK)) (ak Z ap)) ?_);refine cV (nx 1 Z ?_);exact pP
def db (NP:ab)(k_1:Int)(at_2:Int):Option (Bool×ab) :=some (false,(ab.mk NP.fs NP.fat NP.Mp (au.mk k_1 at_2 ([]:Bk))))
theorem ec (NP:ab)(k_1:Int)(at_2:Int)(r:Bool×ab)(h0:db NP k_1 at_2=some r):aS Tryz.prog 85 [.ptr 1000000 0,.p (eI k_1),.p (eI at_2)] [(1000000,(ab.cs NP).map .p)] (λ x y=>x=.p (eB r.1)/\y=[(1000000,(ab.cs r.2).map .p)]):=by
 unfold db at h0;refine bT good [] [1000000] Tryz.func85 Z Z Z Z Z λ w0 F=>mPo (λ v:Bool×ab=>.p (eB v.1)) (λ v=>[(1000000,(ab.cs v.2).map .p)]) ?_;refine nx 12 Z (mO Z (fv Z Z Z Z Z Z Z Z (ab.b_bad _) (ab.u_bad _) ?_));exact va
def eF (NP:ab):Option (Bool×ab) :=ck ((0:Int)<=NP.fat/\NP.fat<=(NP.fs.length:Int)/\(NP.fs.length:Int)<=(NP.fs.length:Int))<|(bj (sub NP.fs NP.fat (NP.fs.length:Int))).bind λ r2=>(if r2.1=65533 then if r2.2=1 then some true else if r2.1<32 then some true else some (decide (r2.1=127))else if r2.1<32 then some true else some (decide (r2.1=127)) : Option Bool).bind λ t8=>if t8=true then some (false,NP)else ck (inR (NP.fat+r2.2))<|some (true,(ab.mk NP.fs (NP.fat+r2.2) NP.Mp NP.AI))
theorem mu (NP:ab)(r:Bool×ab)(h0:eF NP=some r):aS Tryz.prog 113 [.ptr 1000000 0] [(1000000,(ab.cs NP).map .p)] (λ x y=>x=.p (eB r.1)/\y=[(1000000,(ab.cs r.2).map .p)]):=by
 unfold eF at h0;refine bT good [] [1000000] Tryz.func113 Z Z Z Z Z λ w0 F=>mPo (λ v:Bool×ab=>.p (eB v.1)) (λ v=>[(1000000,(ab.cs v.2).map .p)]) ?_;refine nx 5 Z (cc' h0 λ Ra h0=>?_);refine bd h0 λ r2 e3 h0=>mD [(0,.ptr 1000000 0)] Z ⟨Z,trivial⟩ Z (dR 3 Z ?_);refine dq (.p (eS NP.fs)) [8] Z (λ _ e _ q=>ah Z (bm Z Z Z Z Z (e _ _ Z) Z (ab.g_s _) q)) Z (dR 3 Z ?_);refine dq (.p (eI NP.fat)) [12] Z (λ _ e _ q=>ah Z (bm Z Z Z Z Z (e _ _ Z) Z (ab.g_at _) q)) Z (dq (.p (eS (sub NP.fs NP.fat (NP.fs.length:Int)))) [9,13] Z (λ _ e _ q=>ah Z (ed (a:=NP.fs) (l:=NP.fat) (h:=(NP.fs.length:Int)) Z Z Z Z Z (e _ _ Z) ra Z Ra q)) Z ?_);refine dq (.tuple [.p (eK .i32 r2.1),.p (eI r2.2)]) [14] Z (λ _ e _ q=>ah Z (cF (ey (sub NP.fs NP.fat (NP.fs.length:Int)) _ e3) Z Z Z (aQ (e _ _ Z) bU) ⟨sr,trivial⟩ Tryz.call135 Z q)) Z (dR 5 Z ?_);refine dE Z (nx 3 Z ?_);refine bd h0 λ TV h1 h0=>kN TV (λ RH=>⟨[(0,.ptr 1000000 0),(4,.p (eI r2.2)),(31,.p (eB RH))],[(1000000,(ab.cs NP).map .p)]⟩) ?_ ?_
 ·refine nx 1 Z (fB [31] h0 Z (λ c9 h0=>?_) λ c9 h0=>?_)
  ·exact va
  refine nx 7 Z (mO Z (bm Z Z Z Z Z Z Z (ab.g_at _) ?_));refine nx 1 Z (oA h0 Z Z λ Po h0=>?_);refine nx 2 Z (mO Z (fv Z Z Z Z Z Z Z Z (ab.b_at _) (ab.u_at _) ?_));exact va
 refine nx 4 Z (fD [19,20] h1 Z (λ c4 h1=>?_) λ c4 h1=>?_)
 ·refine nx 4 Z (fD [22,23,24] h1 Z (λ c5 h1=>?_) λ c5 h1=>?_)
  ·exact sS
  refine nx 4 Z (fD [26,27,28] h1 Z (λ c6 h1=>?_) λ c6 h1=>?_)
  ·exact i8
  exact i8
 refine nx 8 Z (fD [26,27,28] h1 Z (λ c7 h1=>?_) λ c7 h1=>?_)
 ·exact i8
 exact i8
def ba (Oh:ab->Int->Option (Bool×ab))(NM:Int):Nat->ab->Option (ab⊕(Bool×ab))|0,_=>none|m+1,x33=>(bX x33).bind λ Oc=>if Oc.1=true then ck ((0:Int)<=Oc.2.fat/\Oc.2.fat<=(Oc.2.fs.length:Int)/\(Oc.2.fs.length:Int)<=(Oc.2.fs.length:Int))<|jn (ck ((0:Int)<=0/\0<((sub Oc.2.fs Oc.2.fat (Oc.2.fs.length:Int)).length:Int))<|if byt (sub Oc.2.fs Oc.2.fat (Oc.2.fs.length:Int)) 0=34 then ck (inR (Oc.2.fat+1))<|some (.inr (.inr (true,(ab.mk Oc.2.fs (Oc.2.fat+1) Oc.2.Mp Oc.2.AI))))else(strings_HasPrefix (sub Oc.2.fs Oc.2.fat (Oc.2.fs.length:Int)) ([36,36,123]:Bk)).bind λ r41=>if r41=true then ck (inR (Oc.2.fat+3))<|some (.inl (ab.mk Oc.2.fs (Oc.2.fat+3) Oc.2.Mp Oc.2.AI))else(strings_HasPrefix (sub Oc.2.fs Oc.2.fat (Oc.2.fs.length:Int)) ([36,123]:Bk)).bind λ PZ=>if PZ=true then(Oh Oc.2 NM).bind λ QI=>if (!QI.1)=true then some (.inr (.inr (false,QI.2)))else some (.inl QI.2)else(ck ((0:Int)<=0/\0<((sub Oc.2.fs Oc.2.fat (Oc.2.fs.length:Int)).length:Int))<|if byt (sub Oc.2.fs Oc.2.fat (Oc.2.fs.length:Int)) 0=92 then ck (inR (Oc.2.fat+1))<|some (ab.mk Oc.2.fs (Oc.2.fat+1) Oc.2.Mp Oc.2.AI)else some Oc.2 : Option ab).bind λ x54=>(bX x54).bind λ QH=>if (!QH.1)=true then some (.inl QH.2)else(eF QH.2).bind λ P9=>if (!P9.1)=true then(db P9.2 2 P9.2.fat).bind λ Pj=>some (.inr (.inr (Pj.1,Pj.2)))else some (.inl P9.2) : Option (ab⊕(ab⊕(Bool×ab)))) λ x63=>ba Oh NM m x63 else some (.inl Oc.2)
def aZ (n:Nat)(OG:ab->Int->Option (ac×Bool×ab))(NM:Int):Nat->Int->ab->Option (ab⊕(Bool×ab))|0,_,_=>none|m+1,open35,x36=>if 0<open35 then jn ((fw n x36).bind λ Qa=>(bX Qa).bind λ O7=>if (!O7.1)=true then(db O7.2 40 O7.2.Mp).bind λ Sn=>some (.inr (.inr (Sn.1,Sn.2)))else(dF n O7.2).bind λ PZ=>if (!PZ.1)=true then(db PZ.2 2 PZ.2.fat).bind λ QI=>some (.inr (.inr (QI.1,QI.2)))else ck (inR (NM+1))<|(OG PZ.2 (NM+1)).bind λ OR=>if (!OR.2.1)=true then some (.inr (.inr (false,OR.2.2)))else((if OR.1.Ar=4 then some (decide (OR.1.BY=([123]:Bk)))else some false : Option Bool).bind λ t55=>if t55=true then ck (inR (open35+1))<|some (open35+1)else some open35 : Option Int).bind λ open58=>(if OR.1.Ar=4 then some (decide (OR.1.BY=([125]:Bk)))else some false : Option Bool).bind λ t60=>if t60=true then ck (inR (open58-1))<|some (.inl (open58-1,OR.2.2))else some (.inl (open58,OR.2.2)) : Option ((Int×ab)⊕(ab⊕(Bool×ab)))) λ TS=>aZ n OG NM m TS.1 TS.2 else some (.inl x36)
mutual
def bq:Nat->ab->Int->Option (ac×Bool×ab)|0,_,_=>none|n+1,NP,NM=>ck ((0:Int)<=NP.fat/\NP.fat<(NP.fs.length:Int))<|ck ((0:Int)<=byt NP.fs NP.fat/\byt NP.fs NP.fat<256)<|jn (if ((lat jm (byt NP.fs NP.fat)).toNat:Int)=2 then(fJ n NP 2 3).bind λ r4=>if 64<(r4.1.length:Int) then(db r4.2 7 NP.fat).bind λ r7=>some (.inr ((ac.mk 1 r4.1 NP.fat),r7.1,r7.2))else some (.inl (1,r4.1,r4.2))else if ((lat jm (byt NP.fs NP.fat)).toNat:Int)=3 then(fJ n NP 3 3).bind λ Ot=>some (.inl (2,Ot.1,Ot.2))else if ((lat jm (byt NP.fs NP.fat)).toNat:Int)=6 then ck (inR (NP.fat+1))<|some (.inl (5,([10]:Bk),(ab.mk NP.fs (NP.fat+1) NP.Mp NP.AI)))else if ((lat jm (byt NP.fs NP.fat)).toNat:Int)=5 then((cY n) NP NM).bind λ N8=>if (!N8.1)=true then some (.inr ((ac.mk 3 ([]:Bk) NP.fat),false,N8.2))else ck (inR (NP.fat+1))<|ck (inR (N8.2.fat-1))<|ck ((0:Int)<=NP.fat+1/\NP.fat+1<=N8.2.fat-1/\N8.2.fat-1<=(N8.2.fs.length:Int))<|some (.inl (3,sub N8.2.fs (NP.fat+1) (N8.2.fat-1),N8.2))else ck ((0:Int)<=NP.fat/\NP.fat<=(NP.fs.length:Int)/\(NP.fs.length:Int)<=(NP.fs.length:Int))<|(jp n (sub NP.fs NP.fat (NP.fs.length:Int))).bind λ PU=>ck (inR (NP.fat+(PU.length:Int)))<|some (.inl (4,PU,(ab.mk NP.fs (NP.fat+(PU.length:Int)) NP.Mp NP.AI))) : Option ((Int×Bk×ab)⊕(ac×Bool×ab))) λ RN=>some ((ac.mk RN.1 RN.2.1 NP.fat),true,RN.2.2)
def dV:Nat->ab->Int->Option (Bool×ab)|0,_,_=>none|n+1,NP,NM=>ck (inR (NP.fat+1))<|jn (ba (aW n) NM n (ab.mk NP.fs (NP.fat+1) NP.Mp NP.AI)) λ x65=>(db x65 40 x65.Mp).bind λ Qw=>some (Qw.1,Qw.2)
def cY:Nat->ab->Int->Option (Bool×ab)|0,_,_=>none|n+1,NP,NM=>if NP.Mp<0 then((dV n) (ab.mk NP.fs NP.fat NP.fat NP.AI) NM).bind λ r1=>some (r1.1,ab.mk r1.2.fs r1.2.fat (-1) r1.2.AI)else (dV n) NP NM
def aW:Nat->ab->Int->Option (Bool×ab)|0,_,_=>none|n+1,NP,NM=>if 32<=NM then(db NP 4 NP.fat).bind λ r2=>some (r2.1,r2.2)else ck (inR (NP.fat+2))<|jn (aZ n (bq n) NM n 1 (ab.mk NP.fs (NP.fat+2) NP.Mp NP.AI)) λ x67=>some (true,x67)
end
theorem nQ (n:Nat):(∀ (NP:ab) (NM:Int) (r:ac×Bool×ab),bq n NP NM=some r->aS Tryz.prog 50 [.ptr 1000000 0,.p (eI NM)] [(1000000,(ab.cs NP).map .p)] (λ x y=>x=.tuple [.p (.agg (ac.cs r.1)),.p (eB r.2.1)]/\y=[(1000000,(ab.cs r.2.2).map .p)]))/\(∀ (NP:ab) (NM:Int) (r:Bool×ab),dV n NP NM=some r->H4 Tryz.prog Tryz.f86 (Nr Tryz.f86.body) [(1,.p (eI NM)),(2,.ptr 1000001 0)] [(1000000,(ab.cs NP).map .p),(1000001,[.ptr 1000000 0])] (λ x y=>x.sub (.p (eB r.1))/\leO y [(1000000,(ab.cs r.2).map .p),(1000001,[.ptr 1000000 0])]))/\(∀ (NP:ab) (NM:Int) (r:Bool×ab),cY n NP NM=some r->aS Tryz.prog 86 [.ptr 1000000 0,.p (eI NM)] [(1000000,(ab.cs NP).map .p)] (λ x y=>x=.p (eB r.1)/\y=[(1000000,(ab.cs r.2).map .p)]))/\(∀ (NP:ab) (NM:Int) (r:Bool×ab),aW n NP NM=some r->aS Tryz.prog 112 [.ptr 1000000 0,.p (eI NM)] [(1000000,(ab.cs NP).map .p)] (λ x y=>x=.p (eB r.1)/\y=[(1000000,(ab.cs r.2).map .p)])):=by
 induction n with
 | zero=>exact ⟨(by intro NP NM r h0; cases h0),(by intro NP NM r h0; cases h0),(by intro NP NM r h0; cases h0),(by intro NP NM r h0; cases h0)⟩
 | succ n ih=>
 obtain ⟨OU,Ol,OS,Oy⟩:=ih;refine ⟨?_,?_,?_,?_⟩
 ·skip
  intro NP NM r h0;rw [bq] at h0;refine bT good [] [1000000] Tryz.func50 Z Z Z Z Z λ w0 F=>mPo (λ v:ac×Bool×ab=>.tuple [.p (.agg (ac.cs v.1)),.p (eB v.2.1)]) (λ v=>[(1000000,(ab.cs v.2.2).map .p)]) ?_;refine nx 2 rfl (mO rfl (fP Z Z Z Z Z ?_));refine mG (mh (show lk _ _=_ from p7)) (nx 7 rfl ?_);refine mO rfl (bm Z Z Z Z Z Z Z (ab.g_at _) ?_);refine nx 1 rfl (mO rfl (fP Z Z Z Z Z ?_));refine mG (mh (show lk _ _=_ from p7)) (nx 4 rfl ?_);refine cc' h0 λ Ra h0=>cc' h0 λ P2 h0=>mD [(0,.ptr 1000000 0),(1,.p (eI NM)),(4,.ptr 4 0),(6,.ptr 6 0)] rfl ⟨rfl,rfl,rfl,rfl,trivial⟩ rfl (dR 4 rfl ?_);refine dq (.p (eS NP.fs)) [15] rfl (λ _ e _ q=>ah rfl (bm Z Z Z Z Z (e _ _ rfl) rfl (ab.g_s _) q)) rfl (dR 3 rfl ?_);refine dq (.p (eI NP.fat)) [19] rfl (λ _ e _ q=>ah rfl (bm Z Z Z Z Z (e _ _ rfl) rfl (ab.g_at _) q)) rfl (dq (.p (eK .u8 (byt NP.fs NP.fat))) [16,20] rfl (λ _ e _ q=>ah rfl (k8 Z Z Z Z Z (e _ _ rfl) (e _ _ rfl) Ra q)) rfl ?_);refine dR 2 rfl (dq (.ptr 1000000 (2+(byt NP.fs NP.fat).toNat*1)) [21,23] rfl (λ _ e _ q=>ah rfl (gp Z Z Z Z Z Z (e _ _ rfl) (e _ _ rfl) P2 q)) rfl ?_);refine dq (.p (eK .u8 ((lat jm (byt NP.fs NP.fat)).toNat:Int))) [24] rfl (λ _ e _ q=>ah rfl (bm Z Z Z Z Z (e _ _ rfl) rfl (ab.g_class _ P2) q)) rfl (dE rfl ?_);refine nx 1 rfl ?_;obtain ⟨QB,h1,Ou,hR0⟩:=cw h0;refine kX (λ PS:Int×Bk×ab=>QB=.inl PS) (λ PS=>⟨[(4,.ptr 4 0),(6,.ptr 6 0)],[(4,jQ),(6,[.p (eI PS.1),.p (eS PS.2.1),.p (eI NP.fat)]),(1000000,(ab.cs PS.2.2).map .p)]⟩) (λ PS hv=>?_) ?_
  ·have h0:=Ou _ hv;exact nx 8 Z (mQo (oi h0) (aJ _) Z Z Z (aF Z (aG _) Z) (cb ⟨sr,sr,trivial⟩) ⟨⟨_,Z,aV _⟩,trivial⟩)
  refine nx 6 Z (fD [48,49] h1 Z (λ c3 h1=>?_) λ c3 h1=>?_)
  ·refine nx 4 Z (bd h1 λ r4 e5 h1=>?_);refine mO Z (aN [1000000] [] 101000 101000 (lh _ NP 2 3 _ e5) Z Z Z Z Z ⟨sr,sr,sr,trivial⟩ Z (aF Z (aG _) Z) ⟨⟨_,Z,aV _⟩,trivial⟩ Z Z Z Z Z Z Z Z Tryz.call84 Z (aF Z (aG _) Z) ?_);refine nx 9 Z (oLs Z ?_);refine nx 2 Z (fD [57] h1 Z (λ c6 h1=>?_) λ c6 h1=>?_)
   ·refine nx 2 Z (bd h1 λ r7 e8 h1=>?_);refine mG (gE (t:=⟨[(0,.ptr 1000000 0),(4,.ptr 4 0),(6,.ptr 6 0)],[(4,jQ),(6,[.p (eI 1),.p (eS r4.1),.p (eI NP.fat)]),(1000000,(ab.cs r4.2).map .p)]⟩) Z Z) (mSq ⟨2,[4,5],(by3 (.some (dp [] 102000 102000)) .none .none),(λ _=>[(0,.ptr 1000000 0),(4,.ptr 4 0),(6,.ptr 6 0)]),(by3 ([(4,jQ),(6,[.p (eI 1),.p (eS r4.1),.p (eI NP.fat)]),(1000000,(ab.cs r4.2).map .p)]) ([(1000000,(ab.cs r7.2).map .p),(4,jQ),(6,[.p (eI 1),.p (eS r4.1),.p (eI NP.fat)])]) ([(4,[.p (eI 1),.p (eS r4.1),.p (eI NP.fat)]),(1000000,(ab.cs r7.2).map .p),(4,jQ),(6,[.p (eI 1),.p (eS r4.1),.p (eI NP.fat)])]))⟩ Z ?_);refine dPc (.p (.agg [eI 1,eS r4.1,eI NP.fat])) Z (dPc (.ptr 1000000 0) Z ?_);refine dPc (.ptr 6 2) Z (dPc (.p (eI NP.fat)) Z ?_);refine dB (λ _=>.p (eB r7.1)) [(59,_),(61,_)] Z ⟨.inr ⟨1,_,Z,Z,Z⟩,.inr ⟨3,_,Z,Z,Z⟩,trivial⟩ Z Z (dG Z Y) (lt2 (λ h=>absurd h (by decide)) Y) (λ sl NI K hK=>ah Z (aN [1000000] [] 102000 102000 (ec r4.2 7 NP.fat _ e8) Z Z Z (aQ (NI _ _ Z) (aQ Z (aQ (NI _ _ Z) bU))) Z ⟨sr,sr,sr,trivial⟩ Z (aF Z (aG _) Z) ⟨⟨_,Z,aV _⟩,trivial⟩ Z Z Z Z Z Z Z Z Tryz.call85 Z (aF Z (aG _) Z) hK)) (dS Z ?_);refine dPc (.p (eB r7.1)) Z (cV ?_);exact nx 2 Z FZ
   exact cZ
  refine nx 6 Z (fD [63,64] h1 Z (λ c9 h1=>?_) λ c9 h1=>?_)
  ·refine nx 3 Z (bd h1 λ Ot Qe h1=>?_);refine mO Z (aN [1000000] [] 103000 103000 (lh _ NP 3 3 _ Qe) Z Z Z Z Z ⟨sr,sr,sr,trivial⟩ Z (aF Z (aG _) Z) ⟨⟨_,Z,aV _⟩,trivial⟩ Z Z Z Z Z Z Z Z Tryz.call84 Z (aF Z (aG _) Z) ?_);exact fx
  refine nx 6 Z (fD [69,70] h1 Z (λ RZ h1=>?_) λ RZ h1=>?_)
  ·refine nx 12 Z (mO Z (bm Z Z Z Z Z Z Z (ab.g_at _) ?_));refine oA h1 Z Z λ Rs h1=>nx 2 Z (mO Z (fv Z Z Z Z Z Z Z Z (ab.b_at _) (ab.u_at _) ?_));exact vI
  refine nx 6 Z (fD [80,81] h1 Z (λ Rv h1=>?_) λ Rv h1=>?_)
  ·refine nx 11 Z (bd h1 λ N8 SL h1=>?_);refine mO Z (aN [1000000] [] 104000 104000 (OS NP NM _ SL) Z Z Z Z Z ⟨sr,sr,trivial⟩ Z (aF Z (aG _) Z) ⟨⟨_,Z,aV _⟩,trivial⟩ Z Z Z Z Z Z Z Z Tryz.call86 Z (aF Z (aG _) Z) ?_);refine nx 2 Z (mG (gE (t:=⟨[(0,.ptr 1000000 0),(4,.ptr 4 0),(6,.ptr 6 0),(86,.p (eB (!N8.1)))],[(4,jQ),(6,[.p (eI 3),.p (eS ([]:Bk)),.p (eI NP.fat)]),(1000000,(ab.cs N8.2).map .p)]⟩) Z Z) ?_);refine fB [86] h1 Z (λ Oo h1=>?_) λ Oo h1=>?_
   ·exact nx 8 Z FZ
   refine nx 2 Z (cc' h1 λ QL h1=>?_);refine cc' h1 λ QC h1=>cc' h1 λ PO h1=>mG (gE (t:=⟨[(0,.ptr 1000000 0),(4,.ptr 4 0),(6,.ptr 6 0)],[(4,jQ),(6,[.p (eI 3),.p (eS ([]:Bk)),.p (eI NP.fat)]),(1000000,(ab.cs N8.2).map .p)]⟩) Z Z) (mSq ⟨1,[14],(λ _=>.none),(λ _=>[(0,.ptr 1000000 0),(4,.ptr 4 0),(6,.ptr 6 0)]),(ob2 ([(4,jQ),(6,[.p (eI 3),.p (eS ([]:Bk)),.p (eI NP.fat)]),(1000000,(ab.cs N8.2).map .p)]) (6,[.p (eI 3),.p (eS (sub N8.2.fs (NP.fat+1) (N8.2.fat-1))),.p (eI NP.fat)]))⟩ Z ?_);refine dPc (.ptr 1000000 0) Z (dPc (.ptr 1000000 0) Z ?_);refine dPc (.ptr 1000000 0) Z (dPc (.p (eS N8.2.fs)) Z ?_);refine dPc (.ptr 6 2) Z (dPc (.p (eI NP.fat)) Z ?_);refine ar (λ _=>.p (eI (NP.fat+1))) Z Z Z (dG Z Y) (lt1 Z) (ak Z (ai [(93,_)] ⟨.inr ⟨5,_,Z,Z,Z⟩,trivial⟩ (λ sl NI K hK=>ah Z (fK Z Z Z (NI _ _ Z) Z Z QL hK)) ap)) (dPc (.ptr 1000000 0) Z ?_);refine dPc (.ptr 1000000 0) Z (dPc (.ptr 1000000 1) Z ?_);refine dPc (.p (eI N8.2.fat)) Z (ar (λ _=>.p (eI (N8.2.fat-1))) Z Z Z (dG Z Y) (lt1 Z) (ak Z (ai [(98,_)] ⟨.inr ⟨10,_,Z,Z,Z⟩,trivial⟩ (λ sl NI K hK=>ah Z (fK Z Z Z (NI _ _ Z) Z Z QC hK)) ap)) ?_);refine ar (λ _=>.p (eS (sub N8.2.fs (NP.fat+1) (N8.2.fat-1)))) Z Z Z (dG Z Y) (lt1 Z) (ak Z (ai [(91,_),(94,_),(99,_)] ⟨.inr ⟨3,_,Z,Z,Z⟩,.inr ⟨6,_,Z,Z,Z⟩,.inr ⟨11,_,Z,Z,Z⟩,trivial⟩ (λ sl NI K hK=>ah Z (ed (a:=N8.2.fs) (l:=NP.fat+1) (h:=N8.2.fat-1) Z Z Z Z Z (NI _ _ Z) nF oQ PO hK)) ap)) (dPc (.ptr 6 1) Z ?_);refine dS Z (cV ?_);exact vI
  refine nx 2 Z (cc' h1 λ PY h1=>?_);refine bd h1 λ PU To h1=>mG (gE (t:=⟨[(0,.ptr 1000000 0),(4,.ptr 4 0),(6,.ptr 6 0)],[(4,jQ),(6,[.p (eI 0),.p (eS ([]:Bk)),.p (eI NP.fat)]),(1000000,(ab.cs NP).map .p)]⟩) Z Z) (mSq ⟨2,[11,13],(λ _=>.none),(λ _=>[(0,.ptr 1000000 0),(4,.ptr 4 0),(6,.ptr 6 0)]),(ob3 ([(4,jQ),(6,[.p (eI 0),.p (eS ([]:Bk)),.p (eI NP.fat)]),(1000000,(ab.cs NP).map .p)]) (6,[.p (eI 4),.p (eS ([]:Bk)),.p (eI NP.fat)]) (6,[.p (eI 4),.p (eS PU),.p (eI NP.fat)]))⟩ Z ?_);refine dPc (.ptr 1000000 0) Z (dPc (.ptr 1000000 0) Z ?_);refine dPc (.ptr 1000000 0) Z (dPc (.p (eS NP.fs)) Z ?_);refine dPc (.ptr 1000000 0) Z (dPc (.ptr 1000000 0) Z ?_);refine dPc (.ptr 1000000 1) Z (dPc (.p (eI NP.fat)) Z ?_);refine ar (λ _=>.p (eS (sub NP.fs NP.fat (NP.fs.length:Int)))) Z Z Z (cM Z Z Y) (lt2 Z Z) (ak Z (ai [(29,_),(33,_)] ⟨.inr ⟨3,_,Z,Z,Z⟩,.inr ⟨7,_,Z,Z,Z⟩,trivial⟩ (λ sl NI K hK=>ah Z (ed (a:=NP.fs) (l:=NP.fat) (h:=(NP.fs.length:Int)) Z Z Z Z Z (NI _ _ Z) nF Z PY hK)) (ai [(29,_),(33,_)] ⟨.inr ⟨3,_,Z,Z,Z⟩,.inr ⟨7,_,Z,Z,Z⟩,trivial⟩ (λ sl NI K hK=>ah Z (ed (a:=NP.fs) (l:=NP.fat) (h:=(NP.fs.length:Int)) Z Z Z Z Z (NI _ _ Z) nF Z PY hK)) ap))) (ar (λ _=>.p (eS PU)) Z Z Z (cM Z Z Y) (lt2 Z Z) (ak Z (ak Z (ai [(34,_)] ⟨.inr ⟨8,_,Z,Z,Z⟩,trivial⟩ (λ sl NI K hK=>ah Z (cF (oZ _ (sub NP.fs NP.fat (NP.fs.length:Int)) _ To) Z Z Z (aQ (NI _ _ Z) bU) ⟨sr,trivial⟩ Tryz.call83 Z hK)) ap))) ?_);refine dPc (.ptr 6 0) Z (dI [(36,_)] Z ⟨.inr ⟨10,_,Z,Z,Z⟩,trivial⟩ Z (λ sl NI K hK=>ah Z (fe Z Z Z (NI _ _ Z) Z Z Z Z (ld Z) hK)) ?_);refine dPc (.ptr 6 1) Z (dS Z ?_);refine cV (nx 1 Z ?_);refine cc' h1 λ P7 h1=>mG (gE (t:=⟨[(0,.ptr 1000000 0),(4,.ptr 4 0),(6,.ptr 6 0)],[(4,jQ),(6,[.p (eI 4),.p (eS PU),.p (eI NP.fat)]),(1000000,(ab.cs NP).map .p)]⟩) Z Z) (mSq ⟨1,[10],(λ _=>.none),(λ _=>[(0,.ptr 1000000 0),(4,.ptr 4 0),(6,.ptr 6 0)]),(ob2 ([(4,jQ),(6,[.p (eI 4),.p (eS PU),.p (eI NP.fat)]),(1000000,(ab.cs NP).map .p)]) (1000000,(ab.cs (ab.mk NP.fs (NP.fat+(PU.length:Int)) NP.Mp NP.AI)).map .p))⟩ Z ?_);refine dPc (.ptr 1000000 0) Z (dPc (.ptr 1000000 0) Z ?_);refine dPc (.ptr 1000000 1) Z (dPc (.p (eI NP.fat)) Z ?_);refine dPc (.ptr 6 1) Z (dPc (.p (eS PU)) Z ?_);refine ar (λ _=>.p (eI (PU.length:Int))) Z Z Z (dG Z Y) (lt1 Z) (ak Z (ai [(43,_)] ⟨.inr ⟨5,_,Z,Z,Z⟩,trivial⟩ (λ sl NI K hK=>ah Z (ss Z Z Z Z Z (NI _ _ Z) hK)) ap)) (ar (λ _=>.p (eI (NP.fat+(PU.length:Int)))) Z Z Z (dG Z Y) (lt1 Z) (ak Z (ai [(41,_),(44,_)] ⟨.inr ⟨3,_,Z,Z,Z⟩,.inr ⟨6,_,Z,Z,Z⟩,trivial⟩ (λ sl NI K hK=>ah Z (fK Z Z Z (NI _ _ Z) (NI _ _ Z) Z P7 hK)) ap)) ?_);refine dPc (.ptr 1000000 0) Z (dPc (.ptr 1000000 1) Z ?_);refine dI [(45,_),(47,_)] Z ⟨.inr ⟨7,_,Z,Z,Z⟩,.inr ⟨9,_,Z,Z,Z⟩,trivial⟩ Z (λ sl NI K hK=>ah Z (fv Z Z Z (NI _ _ Z) (NI _ _ Z) Z Z Z (ab.b_at _) (ab.u_at _) hK)) (cV ?_);exact vI
 ·skip
  intro NP NM r h0;rw [dV] at h0;refine GT good (t:=4) [1000000,1000001] Z Z λ w0 F=>mPo (λ v:Bool×ab=>.p (eB v.1)) (λ v=>[(1000000,(ab.cs v.2).map .p),(1000001,[.ptr 1000000 0])]) ?_;refine nx 5 rfl (mO rfl (bm Z Z Z Z Z Z Z (ab.g_at _) ?_));refine oA h0 Z Z λ Ra h0=>nx 2 rfl (mO rfl (fv Z Z Z Z Z Z Z Z (ab.b_at _) (ab.u_at _) ?_));refine nx 3 rfl ?_;obtain ⟨Sx,h1,Ou,hR0⟩:=cw h0;refine kEx 0 (λ QR:ab=>Sx=.inl QR) (λ QR=>⟨[(2,.ptr 1000001 0)],[(1000000,(ab.cs QR).map .p),(1000001,[.ptr 1000000 0])]⟩) (λ QR hv=>?_) ?_
  ·have h0:=Ou _ hv;refine nx 2 Z (bd h0 λ Qw U4 h0=>?_);refine mG (gE (t:=⟨[(2,.ptr 1000001 0)],[(1000000,(ab.cs QR).map .p),(1000001,[.ptr 1000000 0])]⟩) Z Z) (mSq ⟨1,[5],(by2 (.some (dp [] 111000 111000)) .none),(λ _=>[(2,.ptr 1000001 0)]),(by2 ([(1000000,(ab.cs QR).map .p),(1000001,[.ptr 1000000 0])]) ([(1000000,(ab.cs Qw.2).map .p),(1000001,[.ptr 1000000 0])]))⟩ Z ?_);refine dPc (.ptr 1000000 0) Z (dPc (.ptr 1000000 0) Z ?_);refine dPc (.ptr 1000000 0) Z (dPc (.ptr 1000000 258) Z ?_);refine dPc (.p (eI QR.Mp)) Z (dB (λ _=>.p (eB Qw.1)) [(87,_),(91,_)] Z ⟨.inr ⟨0,_,Z,Z,Z⟩,.inr ⟨4,_,Z,Z,Z⟩,trivial⟩ Z Z Y (lt1 (λ h=>absurd h (by decide))) (λ sl NI K hK=>ah Z (aN [1000000] [] 111000 111000 (ec QR 40 QR.Mp _ U4) Z Z Z (aQ (NI _ _ Z) (aQ Z (aQ (NI _ _ Z) bU))) Z ⟨sr,sr,sr,trivial⟩ Z (aF Z (aG _) Z) ⟨⟨_,Z,aV _⟩,trivial⟩ Z Z Z Z Z Z Z Z Tryz.call85 Z (aF Z (aG _) Z) hK)) ?_);refine dPc (.p (eB Qw.1)) Z (cV ?_);exact nx 2 Z (mQo (oi h0) (aJ _) Z Z Z (aF Z (aG _) (aF Z Z Z)) (sr) ⟨⟨_,Z,aV _⟩,⟨_,Z,⟨sr,trivial⟩⟩,trivial⟩)
  refine lG (λ (QJ:ab)=>⟨[(1,.p (eI NM)),(2,.ptr 1000001 0)],[(1000000,(ab.cs QJ).map .p),(1000001,[.ptr 1000000 0])]⟩) (λ m (QJ:ab)=>ba (aW n) NM m QJ) Y (ab.mk NP.fs (NP.fat+1) NP.Mp NP.AI) h1 (gE rfl rfl) ?_;rintro m x33 h1;replace h1:ba (aW n) NM (m+1) x33=some Sx:=h1;rw [ba] at h1;refine nx 4 rfl (bd h1 λ Oc Uf h1=>?_);refine mO rfl (aN [1000000] [] 106000 106000 (cQ x33 _ Uf) rfl rfl rfl rfl rfl ⟨sr,trivial⟩ rfl (aF rfl (aG _) rfl) ⟨⟨_,rfl,aV _⟩,trivial⟩ rfl rfl rfl rfl rfl rfl rfl rfl Tryz.call48 rfl (aF rfl (aG _) rfl) ?_);refine nx 1 rfl (fB [27] h1 rfl (λ Tq h1=>?_) λ Tq h1=>?_)
  ·refine nx 4 rfl (cc' h1 λ T3 h1=>?_);refine mD [(1,.p (eI NM)),(2,.ptr 1000001 0)] rfl ⟨rfl,rfl,trivial⟩ rfl (dR 3 rfl ?_);refine dq (.p (eS Oc.2.fs)) [30] rfl (λ _ e _ q=>ah rfl (bm Z Z Z Z Z (e _ _ rfl) rfl (ab.g_s _) q)) rfl (dR 3 rfl ?_);refine dq (.p (eI Oc.2.fat)) [34] rfl (λ _ e _ q=>ah rfl (bm Z Z Z Z Z (e _ _ rfl) rfl (ab.g_at _) q)) rfl (dq (.p (eS (sub Oc.2.fs Oc.2.fat (Oc.2.fs.length:Int)))) [31,35] rfl (λ _ e _ q=>ah rfl (ed (a:=Oc.2.fs) (l:=Oc.2.fat) (h:=(Oc.2.fs.length:Int)) Z Z Z Z Z (e _ _ rfl) ra rfl T3 q)) rfl ?_);refine dR 1 rfl (dE rfl ?_);refine nx 1 rfl ?_;obtain ⟨o74,h2,hL1,hR1⟩:=cw h1;refine kX (λ v75:ab=>o74=.inl v75) (λ v75=>⟨[(1,.p (eI NM)),(2,.ptr 1000001 0)],[(1000000,(ab.cs v75).map .p),(1000001,[.ptr 1000000 0])]⟩) (λ v75 hv=>?_) ?_
   ·have h1:=hL1 _ hv;exact nx 1 Z (eX v75 h1 (gE Z Z))
   refine nx 4 Z (oI h2 Z λ hk38 h2=>?_);refine nx 3 Z (fD [59,62] h2 Z (λ SN h2=>?_) λ SN h2=>?_)
   ·refine nx 6 Z (mO Z (bm Z Z Z Z Z Z Z (ab.g_at _) ?_));refine oA h2 Z Z λ UV h2=>nx 2 Z (mO Z (fv Z Z Z Z Z Z Z Z (ab.b_at _) (ab.u_at _) ?_));exact nx 6 Z CI
   refine nx 4 Z (bd h2 λ r41 e42 h2=>?_);refine oK (cr (sub Oc.2.fs Oc.2.fat (Oc.2.fs.length:Int)) ([36,36,123]:Bk) _ e42) Z ⟨sr,sr,trivial⟩ Tryz.call110 Z (nx 2 Z ?_);refine fB [70,72] h2 Z (λ c43 h2=>?_) λ c43 h2=>?_
   ·refine nx 5 Z (mO Z (bm Z Z Z Z Z Z Z (ab.g_at _) ?_));refine oA h2 Z Z λ UU h2=>nx 2 Z (mO Z (fv Z Z Z Z Z Z Z Z (ab.b_at _) (ab.u_at _) ?_));exact zk
   refine nx 4 Z (bd h2 λ PZ Ue h2=>?_);refine oK (cr (sub Oc.2.fs Oc.2.fat (Oc.2.fs.length:Int)) ([36,123]:Bk) _ Ue) Z ⟨sr,sr,trivial⟩ Tryz.call110 Z (nx 2 Z ?_);refine fB [80,82] h2 Z (λ Uj h2=>?_) λ Uj h2=>?_
   ·refine nx 5 Z (bd h2 λ QI Ud h2=>?_);refine mO Z (aN [1000000] [] 107000 107000 (Oy Oc.2 NM _ Ud) Z Z Z Z Z ⟨sr,sr,trivial⟩ Z (aF Z (aG _) Z) ⟨⟨_,Z,aV _⟩,trivial⟩ Z Z Z Z Z Z Z Z Tryz.call112 Z (aF Z (aG _) Z) ?_);refine nx 2 Z (fB [86] h2 Z (λ Ui h2=>?_) λ Ui h2=>?_)
    ·refine nx 5 Z (mG (gE (t:=⟨[(4,.p (eB false))],[(1000000,(ab.cs QI.2).map .p),(1000001,[.ptr 1000000 0])]⟩) Z Z) ?_);exact nx 1 Z CI
    exact fS
   refine nx 2 Z (bd h2 λ S9 h3 h2=>?_);refine kN S9 (λ Ri=>⟨[(1,.p (eI NM)),(2,.ptr 1000001 0)],[(1000000,(ab.cs Ri).map .p),(1000001,[.ptr 1000000 0])]⟩) ?_ ?_
   ·refine nx 5 Z (bd h2 λ QH U8 h2=>?_);refine mO Z (aN [1000000] [] 108000 108000 (cQ S9 _ U8) Z Z Z Z Z ⟨sr,trivial⟩ Z (aF Z (aG _) Z) ⟨⟨_,Z,aV _⟩,trivial⟩ Z Z Z Z Z Z Z Z Tryz.call48 Z (aF Z (aG _) Z) ?_);refine nx 2 Z (fB [49] h2 Z (λ Uh h2=>?_) λ Uh h2=>?_)
    ·exact fS
    refine nx 5 Z (bd h2 λ P9 U7 h2=>?_);refine mO Z (aN [1000000] [] 109000 109000 (mu QH.2 _ U7) Z Z Z Z Z ⟨sr,trivial⟩ Z (aF Z (aG _) Z) ⟨⟨_,Z,aV _⟩,trivial⟩ Z Z Z Z Z Z Z Z Tryz.call113 Z (aF Z (aG _) Z) ?_);refine nx 2 Z (fB [52] h2 Z (λ c60 h2=>?_) λ c60 h2=>?_)
    ·refine nx 2 Z (bd h2 λ Pj U6 h2=>?_);refine mG (gE (t:=⟨[(2,.ptr 1000001 0)],[(1000000,(ab.cs P9.2).map .p),(1000001,[.ptr 1000000 0])]⟩) Z Z) (mSq ⟨1,[5],(by2 (.some (dp [] 110000 110000)) .none),(λ _=>[(2,.ptr 1000001 0)]),(by2 ([(1000000,(ab.cs P9.2).map .p),(1000001,[.ptr 1000000 0])]) ([(1000000,(ab.cs Pj.2).map .p),(1000001,[.ptr 1000000 0])]))⟩ Z ?_);refine dPc (.ptr 1000000 0) Z (dPc (.ptr 1000000 0) Z ?_);refine dPc (.ptr 1000000 0) Z (dPc (.ptr 1000000 1) Z ?_);refine dPc (.p (eI P9.2.fat)) Z (dB (λ _=>.p (eB Pj.1)) [(53,_),(57,_)] Z ⟨.inr ⟨0,_,Z,Z,Z⟩,.inr ⟨4,_,Z,Z,Z⟩,trivial⟩ Z Z Y (lt1 (λ h=>absurd h (by decide))) (λ sl NI K hK=>ah Z (aN [1000000] [] 110000 110000 (ec P9.2 2 P9.2.fat _ U6) Z Z Z (aQ (NI _ _ Z) (aQ Z (aQ (NI _ _ Z) bU))) Z ⟨sr,sr,sr,trivial⟩ Z (aF Z (aG _) Z) ⟨⟨_,Z,aV _⟩,trivial⟩ Z Z Z Z Z Z Z Z Tryz.call85 Z (aF Z (aG _) Z) hK)) ?_);refine dPc (.p (eB Pj.1)) Z (cV ?_);exact nx 2 Z CI
    exact fS
   refine nx 3 Z (oI h3 Z λ T0 h3=>?_);refine nx 2 Z (fD [39] h3 Z (λ Vk h3=>?_) λ Vk h3=>?_)
   ·refine nx 5 Z (mO Z (bm Z Z Z Z Z Z Z (ab.g_at _) ?_));refine oA h3 Z Z λ SD h3=>nx 2 Z (mO Z (fv Z Z Z Z Z Z Z Z (ab.b_at _) (ab.u_at _) ?_));exact Bc
   exact mI
  exact cH
 ·skip
  intro NP NM r h0;rw [cY] at h0;refine Kn good (k:=111) (j:=2) (q:=18) (b:=decide (NP.Mp<0)) (s0:=⟨[(1,.p (eI NM)),(2,.ptr 2 0)],[(2,[.ptr 1000000 0]),(1000000,(ab.cs NP).map .p)]⟩) (s1:=⟨[(1,.p (eI NM)),(2,.ptr 2 0),(10,.p (eB (decide (NP.Mp<0))))],[(2,[.ptr 1000000 0]),(1000000,(ab.cs NP).map .p)]⟩) (s2:=⟨[(1,.p (eI NM)),(2,.ptr 2 0)],[(2,[.ptr 1000000 0]),(1000000,(ab.cs (ab.mk NP.fs NP.fat NP.fat NP.AI)).map .p)]⟩) [1000000] Tryz.func86 Z Z Z (λ w0 F=>mR ?_) (λ w0 F=>mR ?_) rfl (λ hb=>?_) (λ hb=>?_);refine nx 1 rfl (mO rfl (BA Z Z Z Z Z ?_));refine mG (mh (show lk _ _=_ from p7)) (nx 3 rfl ?_);exact mE (gE Z Z);refine nx 4 rfl (mO rfl (bm Z Z Z Z Z Z Z (ab.g_outer _) ?_));exact nx 3 rfl (mE (gE Z Z));rw [if_neg (of_decide_eq_false hb)] at h0;refine ⟨⟨[(1,.p (eI NM)),(2,.ptr 2 0),(10,.p (eB (decide (NP.Mp<0))))],[(1000000,(ab.cs r.2).map .p),(2,[.ptr 1000000 0])]⟩,_,_,rfl,(aF rfl (aG _) rfl),⟨⟨_,rfl,aV _⟩,trivial⟩,λ w0 F g a a2 w hs ht=>?_⟩;exact HS (C:=⟨Tryz.prog,tt,good,_,rfl,w0,F⟩) (sl:=[(1,.p (eI NM)),(2,.ptr 2 0),(10,.p (eB (decide (NP.Mp<0))))]) (ob:=[(2,[.ptr 1000000 0]),(1000000,(ab.cs NP).map .p)]) [1000000,2] [] 100000 100000 [1,2] rfl (Ol NP NM _ h0) Z Z Z (aF rfl (aG _) rfl) ⟨⟨_,rfl,aV _⟩,⟨_,rfl,⟨sr,trivial⟩⟩,trivial⟩ Z Z Z Z Z Z Z Z Z (aF rfl (aG _) rfl) hs ht;rw [if_pos (of_decide_eq_true hb)] at h0;refine bd h0 λ r1 e1 h0=>?_
  cases h0
  refine ⟨λ w0 F=>mR ?_,⟨Z,Z,Z,Z,Z,Z,Z,Z⟩,Tryz.call111,⟨[(18,.func (.func 111) [.ptr 2 0]),(1,.p (eI NM)),(2,.ptr 2 0)],[(1000000,(ab.cs r1.2).map .p),(2,[.ptr 1000000 0])]⟩,⟨[(18,.func (.func 111) [.ptr 2 0]),(1,.p (eI NM)),(2,.ptr 2 0)],[(2,[.ptr 1000000 0]),(1000000,(ab.cs (ab.mk r1.2.fs r1.2.fat (-1) r1.2.AI)).map .p)]⟩,_,_,.ptr 2 0,Z,Z,(aF Z (aG _) Z),⟨⟨_,Z,aV _⟩,trivial⟩,λ w0 F g a a2 w hs ht=>?_,λ w0 F g a w u hs=>?_⟩
  ·refine mG (gE (t:=⟨[(1,.p (eI NM)),(2,.ptr 2 0)],[(2,[.ptr 1000000 0]),(1000000,(ab.cs NP).map .p)]⟩) Z Z) (mSq ⟨1,[7],(λ _=>.none),(λ _=>[(1,.p (eI NM)),(2,.ptr 2 0)]),(ob2 ([(2,[.ptr 1000000 0]),(1000000,(ab.cs NP).map .p)]) (1000000,(ab.cs (ab.mk NP.fs NP.fat NP.fat NP.AI)).map .p))⟩ Z ?_);refine dPc (.ptr 1000000 0) Z (dPc (.ptr 1000000 0) Z ?_);refine dPc (.ptr 1000000 0) Z (dPc (.ptr 1000000 1) Z ?_);refine dPc (.p (eI NP.fat)) Z (dPc (.ptr 1000000 0) Z ?_);refine dPc (.ptr 1000000 258) Z (dI [(15,_),(17,_)] Z ⟨.inr ⟨4,_,Z,Z,Z⟩,.inr ⟨6,_,Z,Z,Z⟩,trivial⟩ Z (λ sl NI K hK=>ah Z (fv Z Z Z (NI _ _ Z) (NI _ _ Z) Z Z Z (ab.b_outer _) (ab.u_outer _) hK)) ?_);refine cV (nx 2 Z ?_);exact mE (gE Z Z)
  ·exact HS (C:=⟨Tryz.prog,tt,good,_,Z,w0,F⟩) (sl:=[(18,.func (.func 111) [.ptr 2 0]),(1,.p (eI NM)),(2,.ptr 2 0)]) (ob:=[(2,[.ptr 1000000 0]),(1000000,(ab.cs (ab.mk NP.fs NP.fat NP.fat NP.AI)).map .p)]) [1000000,2] [] 100000 100000 [1,2] Z (Ol (ab.mk NP.fs NP.fat NP.fat NP.AI) NM _ e1) Z Z Z (aF Z (aG _) Z) ⟨⟨_,Z,aV _⟩,⟨_,Z,⟨sr,trivial⟩⟩,trivial⟩ Z Z Z Z Z Z Z Z Z (aF Z (aG _) Z) hs ht
  exact MH (C:=⟨Tryz.prog,tt,good,_,Z,w0,F⟩) (sl:=[(18,.func (.func 111) [.ptr 2 0]),(1,.p (eI NM)),(2,.ptr 2 0)]) (ob:=[(1000000,(ab.cs r1.2).map .p),(2,[.ptr 1000000 0])]) [2,1000000] [] 100000 100000 2 (mW r1.2) Z Z Z (aF Z Z (aF Z (aG _) Z)) ⟨⟨_,Z,⟨sr,trivial⟩⟩,⟨_,Z,aV _⟩,trivial⟩ Z Z Z Z Z Z Z Z Z (aF Z Z (aF Z (aG _) Z)) hs
 ·skip
  intro NP NM r h0;rw [aW] at h0;refine bT good [] [1000000] Tryz.func112 Z Z Z Z Z λ w0 F=>mPo (λ v:Bool×ab=>.p (eB v.1)) (λ v=>[(1000000,(ab.cs v.2).map .p)]) ?_;refine nx 10 rfl (fD [9] h0 rfl (λ c1 h0=>?_) λ c1 h0=>?_)
  ·refine nx 7 Z (mO Z (bm Z Z Z Z Z Z Z (ab.g_at _) ?_));refine bd h0 λ r2 e3 h0=>mO Z (aN [1000000] [] 101000 101000 (ec NP 4 NP.fat _ e3) Z Z Z Z Z ⟨sr,sr,sr,trivial⟩ Z (aF Z (aG _) Z) ⟨⟨_,Z,aV _⟩,trivial⟩ Z Z Z Z Z Z Z Z Tryz.call85 Z (aF Z (aG _) Z) ?_);exact nx 3 Z Jp
  refine nx 7 rfl (mO rfl (bm Z Z Z Z Z Z Z (ab.g_at _) ?_));refine oA h0 Z Z λ Rq h0=>nx 2 rfl (mO rfl (fv Z Z Z Z Z Z Z Z (ab.b_at _) (ab.u_at _) ?_));refine nx 7 rfl ?_;obtain ⟨UM,h1,Ou,hR0⟩:=cw h0;refine kEx 0 (λ Se:ab=>UM=.inl Se) (λ Se=>⟨[],[(1000000,(ab.cs Se).map .p)]⟩) (λ Se hv=>?_) ?_
  ·have h0:=Ou _ hv;exact va
  refine lG (λ (R7:Int×ab)=>⟨[(0,.ptr 1000000 0),(1,.p (eI NM)),(5,.p (eI R7.1))],[(1000000,(ab.cs R7.2).map .p)]⟩) (λ m (R7:Int×ab)=>aZ n (bq n) NM m R7.1 R7.2) Y (1,(ab.mk NP.fs (NP.fat+2) NP.Mp NP.AI)) h1 (gE rfl rfl) ?_;rintro m ⟨open35,x36⟩ h1;replace h1:aZ n (bq n) NM (m+1) open35 x36=some UM:=h1;rw [aZ] at h1;refine nx 6 rfl (fD [24] h1 rfl (λ c37 h1=>?_) λ c37 h1=>?_)
  ·refine nx 2 rfl ?_;obtain ⟨S9,h2,hL1,hR1⟩:=cw h1;refine kX (λ Ri:Int×ab=>S9=.inl Ri) (λ Ri=>⟨[(0,.ptr 1000000 0),(1,.p (eI NM)),(5,.p (eI Ri.1))],[(1000000,(ab.cs Ri.2).map .p)]⟩) (λ Ri hv=>?_) ?_
   ·have h1:=hL1 _ hv;exact nx 1 Z (eX (Ri.1,Ri.2) h1 (gE Z Z))
   refine nx 4 Z (bd h2 λ Qa Vd h2=>?_);refine mO Z (aN [1000000] [] 108000 108000 (kJ _ x36 _ Vd) Z Z Z Z Z ⟨sr,trivial⟩ Z (aF Z (aG _) Z) ⟨⟨_,Z,aV _⟩,trivial⟩ Z Z Z Z Z Z Z Z Tryz.call47 Z (aF Z (aG _) Z) ?_);refine nx 5 Z (bd h2 λ O7 Vb h2=>?_);refine mO Z (aN [1000000] [] 109000 109000 (cQ Qa _ Vb) Z Z Z Z Z ⟨sr,trivial⟩ Z (aF Z (aG _) Z) ⟨⟨_,Z,aV _⟩,trivial⟩ Z Z Z Z Z Z Z Z Tryz.call48 Z (aF Z (aG _) Z) ?_);refine nx 2 Z (fB [29] h2 Z (λ Vm h2=>?_) λ Vm h2=>?_)
   ·refine nx 7 Z (mO Z (bm Z Z Z Z Z Z Z (ab.g_outer _) ?_));refine bd h2 λ Sn e44 h2=>mO Z (aN [1000000] [] 110000 110000 (ec O7.2 40 O7.2.Mp _ e44) Z Z Z Z Z ⟨sr,sr,sr,trivial⟩ Z (aF Z (aG _) Z) ⟨⟨_,Z,aV _⟩,trivial⟩ Z Z Z Z Z Z Z Z Tryz.call85 Z (aF Z (aG _) Z) ?_);exact GM
   refine nx 6 Z (bd h2 λ PZ Ue h2=>?_);refine mO Z (aN [1000000] [] 111000 111000 (il _ O7.2 _ Ue) Z Z Z Z Z ⟨sr,trivial⟩ Z (aF Z (aG _) Z) ⟨⟨_,Z,aV _⟩,trivial⟩ Z Z Z Z Z Z Z Z Tryz.call49 Z (aF Z (aG _) Z) ?_);refine nx 2 Z (fB [38] h2 Z (λ Uj h2=>?_) λ Uj h2=>?_)
   ·refine nx 7 Z (mO Z (bm Z Z Z Z Z Z Z (ab.g_at _) ?_));refine bd h2 λ QI Ud h2=>mO Z (aN [1000000] [] 112000 112000 (ec PZ.2 2 PZ.2.fat _ Ud) Z Z Z Z Z ⟨sr,sr,sr,trivial⟩ Z (aF Z (aG _) Z) ⟨⟨_,Z,aV _⟩,trivial⟩ Z Z Z Z Z Z Z Z Tryz.call85 Z (aF Z (aG _) Z) ?_);exact GM
   refine nx 6 Z (oA h2 Z Z λ T1 h2=>?_);refine bd h2 λ OR Uc h2=>mO Z (aN [1000000] [] 113000 113000 (OU PZ.2 (NM+1) _ Uc) Z Z Z Z Z ⟨sr,sr,trivial⟩ Z (aF Z (aG _) Z) ⟨⟨_,Z,aV _⟩,trivial⟩ Z Z Z Z Z Z Z Z Tryz.call50 Z (aF Z (aG _) Z) ?_);refine nx 3 Z (mO Z (fP Z Z Z Z Z ?_));refine mG (mh (show lk _ _=_ from p7)) (nx 9 Z ?_);refine fB [53] h2 Z (λ c53 h2=>?_) λ c53 h2=>?_
   ·exact nx 6 Z IR
   refine nx 3 Z (bd h2 λ TU h3 h2=>?_);refine kN TU (λ RF=>⟨[(0,.ptr 1000000 0),(1,.p (eI NM)),(5,.p (eI RF)),(6,.ptr 6 0)],[(6,(ac.cs OR.1).map .p),(1000000,(ab.cs OR.2.2).map .p)]⟩) ?_ ?_
   ·refine nx 2 Z (bd h2 λ o80 h3 h2=>?_);refine kN o80 (λ v81=>⟨[(0,.ptr 1000000 0),(1,.p (eI NM)),(5,.p (eI TU)),(71,.p (eB v81))],[(1000000,(ab.cs OR.2.2).map .p)]⟩) ?_ ?_
    ·refine nx 1 Z (fB [71] h2 Z (λ c61 h2=>?_) λ c61 h2=>?_)
     ·refine nx 3 Z (oA h2 Z Z λ hk62 h2=>?_);exact fS
     exact fS
    refine nx 5 Z (fD [66,67] h3 Z (λ c59 h3=>?_) λ c59 h3=>?_)
    ·refine nx 2 Z (oS Z Z ?_);exact mI
    exact B5
   refine nx 1 Z (bd h3 λ SZ h4 h3=>?_);refine kN SZ (λ SU=>⟨[(0,.ptr 1000000 0),(1,.p (eI NM)),(5,.p (eI open35)),(6,.ptr 6 0),(61,.p (eB SU))],[(6,(ac.cs OR.1).map .p),(1000000,(ab.cs OR.2.2).map .p)]⟩) ?_ ?_
   ·refine nx 1 Z (fB [61] h3 Z (λ Vj h3=>?_) λ Vj h3=>?_)
    ·refine nx 3 Z (oA h3 Z Z λ TX h3=>?_);exact mI
    exact mI
   refine nx 5 Z (fD [56,57] h4 Z (λ c54 h4=>?_) λ c54 h4=>?_)
   ·refine nx 2 Z (oS Z Z ?_);exact rm
   exact nx 5 Z (eX _ (oi h4).symm (gE Z Z))
  exact cH
theorem kq (n:Nat):∀ (NP:ab) (NM:Int) (r:ac×Bool×ab),bq n NP NM=some r->aS Tryz.prog 50 [.ptr 1000000 0,.p (eI NM)] [(1000000,(ab.cs NP).map .p)] (λ x y=>x=.tuple [.p (.agg (ac.cs r.1)),.p (eB r.2.1)]/\y=[(1000000,(ab.cs r.2.2).map .p)]):=(nQ n).1
def ga (n:Nat):Nat->(List ac)->ab->Option (Unit⊕((List ac)×au))|0,_,_=>none|m+1,Pv,x26=>(fw n x26).bind λ Q6=>((bX Q6).bind λ Q5=>if Q5.1=true then(dF n Q5.2).bind λ Px=>some (!Px.1,Px.2)else some (false,Q5.2) : Option (Bool×ab)).bind λ q49=>if q49.1=true then some (.inr ([],(au.mk 2 q49.2.fat ([]:Bk))))else if (Pv.length:Int)=16384 then some (.inr ([],(au.mk 14 q49.2.fat ([]:Bk))))else(bX q49.2).bind λ Qa=>if (!Qa.1)=true then ck ((Pv.length+([(ac.mk 6 ([]:Bk) Qa.2.fat)]).length)*32<=140737488355328)<|some (.inr (Pv++([(ac.mk 6 ([]:Bk) Qa.2.fat)]),(au.mk 0 0 ([]:Bk))))else(bq n Qa.2 0).bind λ Pa=>if (!Pa.2.1)=true then some (.inr ([],Pa.2.2.AI))else ck ((Pv.length+[Pa.1].length)*32<=140737488355328)<|ga n m (Pv++[Pa.1]) Pa.2.2
def kO (n:Nat)(NN:Bk):Option ((List ac)×au) :=if 65536<(NN.length:Int) then some ([],(au.mk 3 0 ([]:Bk)))else(iu NN).bind λ r2=>jn (ga n n [] r2) λ _q48=>none
theorem qL (n:Nat)(NN:Bk)(r:(List ac)×au)(h0:kO n NN=some r):aK Tryz.prog 26 [eS NN] (·=.tuple [.p (eL az r.1),.p (.agg (au.cs r.2))]):=by
 unfold kO at h0;refine bV good Tryz.func26 Z Z Z λ w0=>mP (λ v:(List ac)×au=>.tuple [.p (eL az v.1),.p (.agg (au.cs v.2))]) ?_;refine nx 9 Z (oLs Z ?_);refine nx 2 Z (fD [10] h0 Z (λ c1 h0=>?_) λ c1 h0=>?_)
 ·exact nx 8 Z (mQ (oi h0) Z (cb ⟨gm _,sr,trivial⟩))
 refine nx 5 rfl (bd h0 λ r2 e3 h0=>?_);refine mO rfl (aN [] [] 101000 101001 (lR NN _ e3) Z Z Z Z Z ⟨sr,trivial⟩ Z Z trivial Z Z Z Z Z Z Z Z Tryz.call46 rfl (aF rfl (aG _) rfl) ?_);refine nx 7 rfl ?_;obtain ⟨o50,h1,Ou,hR0⟩:=cw h0;refine kEx 0 (λ v51:Unit=>o50=.inl v51) (λ v51=>⟨[],[]⟩) (λ v51 hv=>?_) ?_
 ·exact yR
 refine lG (λ (UG:(List ac)×ab)=>⟨[(3,.ptr 3 0),(4,.ptr 101000 0),(5,.vec 62 3 0 (UG.1.map az))],[(3,oy),(101000,(ab.cs UG.2).map .p)]⟩) (λ m (UG:(List ac)×ab)=>ga n m UG.1 UG.2) Y ([],r2) h1 (cG (jv ⟨er rfl,er rfl,⟨_,rfl,AV.sub_nilvec _ _ _⟩,trivial⟩ ⟨⟨_,rfl,⟨sr,sr,sr,trivial⟩⟩,⟨_,rfl,aV _⟩,trivial⟩)) ?_;rintro m ⟨Pv,x26⟩ h1;replace h1:ga n (m+1) Pv x26=some o50:=h1;rw [ga] at h1;refine nx 4 rfl (bd h1 λ Q6 Tm h1=>?_);refine mO rfl (aN [101000] [] 107000 107000 (kJ _ x26 _ Tm) rfl rfl rfl rfl rfl ⟨sr,trivial⟩ rfl (aF rfl (aG _) rfl) ⟨⟨_,rfl,aV _⟩,trivial⟩ rfl rfl rfl rfl rfl rfl rfl rfl Tryz.call47 rfl (aF rfl (aG _) rfl) ?_);refine nx 3 rfl (bd h1 λ Rj h2 h1=>?_);refine kN Rj (λ Tz=>⟨[(3,.ptr 3 0),(4,.ptr 101000 0),(5,.vec 62 3 0 (Pv.map az)),(22,.p (eB Tz.1))],[(3,oy),(101000,(ab.cs Tz.2).map .p)]⟩) ?_ ?_
 ·refine nx 1 Z (fB [22] h1 Z (λ Tq h1=>?_) λ Tq h1=>?_)
  ·refine nx 2 Z (mG Ii ?_);refine mSq ⟨1,[6],(λ _=>.none),(λ _=>[(3,.ptr 3 0),(4,.ptr 101000 0)]),(ob2 ([(3,oy),(101000,(ab.cs Rj.2).map .p)]) (3,[.p (eI 2),.p (eI Rj.2.fat),.p (eS ([]:Bk))]))⟩ Z (dPc (.ptr 101000 0) Z ?_);refine dPc (.ptr 101000 0) Z (dPc (.ptr 101000 1) Z ?_);refine dPc (.p (eI Rj.2.fat)) Z (dPc (.p (.agg [eI 2,eI Rj.2.fat,eS ([]:Bk)])) Z ?_);exact FU
  refine nx 6 Z (oLl (f:=az) Z Z ?_);refine nx 2 Z (fD [30] h1 Z (λ c37 h1=>?_) λ c37 h1=>?_)
  ·refine nx 2 Z (mG Ii ?_);refine mSq ⟨1,[6],(λ _=>.none),(λ _=>[(3,.ptr 3 0),(4,.ptr 101000 0)]),(ob2 ([(3,oy),(101000,(ab.cs Rj.2).map .p)]) (3,[.p (eI 14),.p (eI Rj.2.fat),.p (eS ([]:Bk))]))⟩ Z (dPc (.ptr 101000 0) Z ?_);refine dPc (.ptr 101000 0) Z (dPc (.ptr 101000 1) Z ?_);refine dPc (.p (eI Rj.2.fat)) Z (dPc (.p (.agg [eI 14,eI Rj.2.fat,eS ([]:Bk)])) Z ?_);exact FU
  refine nx 6 Z (bd h1 λ Qa Vd h1=>?_);refine mO Z (aN [101000] [] 110000 110000 (cQ Rj.2 _ Vd) Z Z Z Z Z ⟨sr,trivial⟩ Z (aF Z (aG _) Z) ⟨⟨_,Z,aV _⟩,trivial⟩ Z Z Z Z Z Z Z Z Tryz.call48 Z (aF Z (aG _) Z) ?_);refine nx 2 Z (fB [38] h1 Z (λ RD h1=>?_) λ RD h1=>?_)
  ·refine nx 7 Z (mO Z (bm Z Z Z Z Z Z Z (ab.g_at _) ?_));refine nx 1 Z (mO Z (bz az [(ac.mk 6 ([]:Bk) Qa.2.fat)] Z Z Z Z Z Z Z Z Z Z Z Z Z ym ?_));refine cc' h1 λ QK h1=>mO Z (fF az Pv ([(ac.mk 6 ([]:Bk) Qa.2.fat)]) Z Z Z Z Z Z Z Z Z Z Z Z Z (λ x=>congrArg List.length (ac.F' x)) Z Z Z Z QK ?_);refine mG (Ad (show lk _ _=_ from p7)) (nx 5 Z ?_);exact mQ (hR0 _ (oi h1).symm) Z (cb ⟨AV.sub_vec _ _ _ _,sr,trivial⟩)
  refine nx 5 Z (bd h1 λ Pa Tl h1=>?_);refine mO Z (aN [101000] [] 111000 111000 (kq _ Qa.2 0 _ Tl) Z Z Z Z Z ⟨sr,sr,trivial⟩ Z (aF Z (aG _) Z) ⟨⟨_,Z,aV _⟩,trivial⟩ Z Z Z Z Z Z Z Z Tryz.call50 Z (aF Z (aG _) Z) ?_);refine nx 3 Z (mO Z (fP Z Z Z Z Z ?_));refine mG (mh (show lk _ _=_ from p7)) (nx 9 Z ?_);refine fB [54] h1 Z (λ Tp h1=>?_) λ Tp h1=>?_
  ·refine nx 2 Z (mG (gE (t:=⟨[(3,.ptr 3 0),(4,.ptr 101000 0)],[(3,oy),(101000,(ab.cs Pa.2.2).map .p)]⟩) Z Z) ?_);refine mSq ⟨1,[5],(λ _=>.none),(λ _=>[(3,.ptr 3 0),(4,.ptr 101000 0)]),(ob2 ([(3,oy),(101000,(ab.cs Pa.2.2).map .p)]) (3,((au.cs Pa.2.2.AI).map .p)))⟩ Z (dPc (.ptr 101000 0) Z ?_);refine dPc (.ptr 101000 0) Z (dPc (.ptr 101000 259) Z ?_);refine ar (λ _=>.p (.agg (au.cs Pa.2.2.AI))) Z Z Z (dG Z Y) (lt1 Z) (ak Z (ai [(57,_)] ⟨.inr ⟨2,_,Z,Z,Z⟩,trivial⟩ (λ sl NI K hK=>ah Z (Et Z Z Z Z Z (NI _ _ Z) Z (ab.l_bad _) (ab.g_bad _) hK)) ap)) (dPc (.p (.val (.slice none 0 0))) Z ?_);refine dS Z (cV ?_);exact nx 2 Z (mQ (hR0 _ (oi h1).symm) Z (cb ⟨gm _,sr,trivial⟩))
  refine nx 5 Z (mO Z (bz az [Pa.1] Z Z Z Z Z Z Z Z Z Z Z Z Z ym ?_));refine cc' h1 λ hk45 h1=>mO Z (fF az Pv [Pa.1] Z Z Z Z Z Z Z Z Z Z Z Z Z (λ x=>congrArg List.length (ac.F' x)) Z Z Z Z hk45 ?_);refine mG (Ad (show lk _ _=_ from p7)) (nx 2 Z ?_);exact eX (Pv++[Pa.1],Pa.2.2) h1 (gE Z Z)
 refine nx 2 Z (bd h2 λ Q5 Ug h2=>?_);refine mO Z (aN [101000] [] 108000 108000 (cQ Q6 _ Ug) Z Z Z Z Z ⟨sr,trivial⟩ Z (aF Z (aG _) Z) ⟨⟨_,Z,aV _⟩,trivial⟩ Z Z Z Z Z Z Z Z Tryz.call48 Z (aF Z (aG _) Z) ?_);refine nx 1 Z (fB [17,18] h2 Z (λ Ts h2=>?_) λ Ts h2=>?_)
 ·refine nx 1 Z (bd h2 λ Px SJ h2=>?_);refine mO Z (aN [101000] [] 109000 109000 (il _ Q5.2 _ SJ) Z Z Z Z Z ⟨sr,trivial⟩ Z (aF Z (aG _) Z) ⟨⟨_,Z,aV _⟩,trivial⟩ Z Z Z Z Z Z Z Z Tryz.call49 Z (aF Z (aG _) Z) ?_);exact nO
 exact pr
def lx (a_0:ac)(NU:ac):Option Bool :=if a_0.Ar=1 then(if NU.Ar=1 then some true else some (decide (NU.Ar=2)) : Option Bool).bind λ t3=>some t3 else if a_0.Ar=2 then some (decide (NU.Ar=2))else(if a_0.Ar=4 then some (!decide (NU.Ar=4))else some true : Option Bool).bind λ t6=>if t6=true then some false else(strings_HasPrefix NU.BY ([61]:Bk)).bind λ r8=>if r8=true then(if (a_0.BY.length:Int)=1 then(strings_Contains ([61,33,60,62]:Bk) a_0.BY).bind λ Ov=>some Ov else some false : Option Bool).bind λ Qv=>some Qv else(if a_0.BY=([61]:Bk) then(strings_HasPrefix NU.BY ([62]:Bk)).bind λ Pq=>some Pq else some false : Option Bool).bind λ O5=>some O5
theorem wD (a_0:ac)(NU:ac)(r:Bool)(h0:lx a_0 NU=some r):aK Tryz.prog 183 [.agg (ac.cs a_0),.agg (ac.cs NU)] (·=.p (eB r)):=by
 unfold lx at h0;refine bV good Tryz.func183 Z Z Z λ w0=>mP (λ v:Bool=>.p (eB v)) ?_;refine nx 15 Z (fD [5,8] h0 Z (λ c1 h0=>?_) λ c1 h0=>?_)
 ·refine nx 2 Z (bd h0 λ OE h1 h0=>?_);refine kN OE (λ O4=>⟨[(4,.p (eB O4))],[]⟩) ?_ ?_
  ·exact iU
  refine nx 5 Z (fD [11,12] h1 Z (λ c2 h1=>?_) λ c2 h1=>?_)
  ·exact jR
  exact jR
 refine nx 8 Z (fD [17,20] h0 Z (λ c4 h0=>?_) λ c4 h0=>?_)
 ·exact nx 9 Z (mQ (oi h0) Z (sr))
 refine nx 2 Z (bd h0 λ TN h1 h0=>?_);refine kN TN (λ Sj=>⟨[(2,.ptr 2 0),(3,.ptr 3 0),(24,.p (eB Sj))],[(2,(ac.cs a_0).map .p),(3,(ac.cs NU).map .p)]⟩) ?_ ?_
 ·refine nx 1 Z (fB [24] h0 Z (λ c7 h0=>?_) λ c7 h0=>?_)
  ·exact ez
  refine nx 5 Z (bd h0 λ r8 e9 h0=>?_);refine oK (cr NU.BY ([61]:Bk) _ e9) Z ⟨sr,sr,trivial⟩ Tryz.call110 Z (nx 2 Z ?_);refine fB [33,36] h0 Z (λ QF h0=>?_) λ QF h0=>?_
  ·refine nx 2 Z (bd h0 λ PC h1 h0=>?_);refine kN PC (λ R5=>⟨[(4,.p (eB R5))],[]⟩) ?_ ?_
   ·exact iU
   refine nx 3 Z (oLs Z ?_);refine nx 2 Z (fD [40,41] h1 Z (λ Qq h1=>?_) λ Qq h1=>?_)
   ·refine nx 2 Z (bd h1 λ Ov Q0 h1=>?_);refine oK (ic ([61,33,60,62]:Bk) a_0.BY _ Q0) Z ⟨sr,sr,trivial⟩ Tryz.call70 Z (nx 3 Z ?_);exact ip
   exact jR
  refine nx 3 Z (bd h0 λ QB h1 h0=>?_);refine kN QB (λ PS=>⟨[(4,.p (eB PS))],[]⟩) ?_ ?_
  ·exact iU
  refine nx 3 Z (oS Z Z ?_);refine nx 1 Z (fD [48,49] h1 Z (λ QQ h1=>?_) λ QQ h1=>?_)
  ·refine nx 2 Z (bd h1 λ Pq Rh h1=>?_);refine oK (cr NU.BY ([62]:Bk) _ Rh) Z ⟨sr,sr,trivial⟩ Tryz.call110 Z (nx 3 Z ?_);exact ip
  exact jR
 refine nx 5 Z (fN [27,28] h1 Z (λ c5 h1=>?_) λ c5 h1=>?_)
 ·exact jR
 exact jR
def lE (n:Nat)(NO:ac):Option Bool :=(if NO.Ar=3 then ck (([34]:Bk).length+NO.BY.length<=9223372036854775807)<|ck ((([34]:Bk)++NO.BY).length+([34]:Bk).length<=9223372036854775807)<|some ((([34]:Bk)++NO.BY)++([34]:Bk))else some NO.BY : Option Bk).bind λ s4=>(if s4=([]:Bk) then some true else if NO.Ar<1 then some true else some (decide (5<NO.Ar)) : Option Bool).bind λ t7=>if t7=true then some false else(iu s4).bind λ r9=>(dF n r9).bind λ PM=>if (!PM.1)=true then some false else(bq n PM.2 0).bind λ Oq=>(if Oq.2.1=true then(bX Oq.2.2).bind λ Om=>if (!Om.1)=true then some (decide (Oq.1.Ar=NO.Ar))else some false else some false : Option Bool).bind λ t20=>some t20
theorem uU (n:Nat)(NO:ac)(r:Bool)(h0:lE n NO=some r):aK Tryz.prog 159 [.agg (ac.cs NO)] (·=.p (eB r)):=by
 unfold lE at h0;refine bV good Tryz.func159 Z Z Z λ w0=>mP (λ v:Bool=>.p (eB v)) ?_;refine nx 12 Z (bd h0 λ o24 h1 h0=>?_);refine kN o24 (λ v25=>⟨[(1,.ptr 1 0),(3,.p (eS v25))],[(1,(ac.cs NO).map .p)]⟩) ?_ ?_
 ·refine nx 3 Z (bd h0 λ Ur h1 h0=>?_);refine kN Ur (λ Uu=>⟨[(1,.ptr 1 0),(3,.p (eS o24)),(26,.p (eB Uu))],[(1,(ac.cs NO).map .p)]⟩) ?_ ?_
  ·refine nx 1 Z (fB [26] h0 Z (λ c8 h0=>?_) λ c8 h0=>?_)
   ·exact ez
   refine nx 5 Z (bd h0 λ r9 Qp h0=>?_);refine mO Z (aN [] [] 101000 101001 (lR o24 _ Qp) Z Z Z Z Z ⟨sr,trivial⟩ Z Z trivial Z Z Z Z Z Z Z Z Tryz.call46 Z (aF Z (aG _) Z) ?_);refine nx 6 Z (bd h0 λ PM QN h0=>?_);refine mO Z (aN [101000] [] 102000 102000 (il _ r9 _ QN) Z Z Z Z Z ⟨sr,trivial⟩ Z (aF Z (aG _) Z) ⟨⟨_,Z,aV _⟩,trivial⟩ Z Z Z Z Z Z Z Z Tryz.call49 Z (aF Z (aG _) Z) ?_);refine nx 2 Z (fB [31] h0 Z (λ P8 h0=>?_) λ P8 h0=>?_)
   ·exact ez
   refine nx 5 Z (bd h0 λ Oq RX h0=>?_);refine mO Z (aN [101000] [] 103000 103000 (kq _ PM.2 0 _ RX) Z Z Z Z Z ⟨sr,sr,trivial⟩ Z (aF Z (aG _) Z) ⟨⟨_,Z,aV _⟩,trivial⟩ Z Z Z Z Z Z Z Z Tryz.call50 Z (aF Z (aG _) Z) ?_);refine nx 3 Z (mO Z (fP Z Z Z Z Z ?_));refine mG (mh (show lk _ _=_ from p7)) (nx 4 Z ?_);refine bd h0 λ Uq h1 h0=>kN Uq (λ TR=>⟨[(2,.p (eB TR))],[]⟩) ?_ ?_
   ·exact iU
   refine nx 3 Z (fB [6,36,37,38] h1 Z (λ SQ h1=>?_) λ SQ h1=>?_)
   ·refine nx 1 Z (bd h1 λ Om RV h1=>?_);refine mO Z (aN [101000] [] 104000 104000 (cQ Oq.2.2 _ RV) Z Z Z Z Z ⟨sr,trivial⟩ Z (aF Z (aG _) Z) ⟨⟨_,Z,aV _⟩,trivial⟩ Z Z Z Z Z Z Z Z Tryz.call48 Z (aF Z (aG _) Z) ?_);refine nx 3 Z (fB [41,42,43] h1 Z (λ QE h1=>?_) λ QE h1=>?_)
    ·exact sS
    exact sS
   exact nx 13 Z ja
  refine nx 2 Z (oS Z Z ?_);refine nx 1 Z (fD [16,17] h1 Z (λ c5 h1=>?_) λ c5 h1=>?_)
  ·exact rq
  refine nx 5 Z (fD [20,21,22] h1 Z (λ c6 h1=>?_) λ c6 h1=>?_)
  ·exact fx
  exact fx
 refine nx 6 Z (fD [11] h1 Z (λ c1 h1=>?_) λ c1 h1=>?_)
 ·refine nx 3 Z (oC h1 Z λ P2 h1=>?_);exact oC h1 Z λ QY h1=>nx 2 Z ja
 exact cZ
def dQ (l_0:List ac):Nat->Int->Int->Option Int|0,_,_=>none|m+1,n19,t20=>if t20<(l_0.length:Int) then(ck ((0:Int)<=t20/\t20<(l_0.length:Int))<|ck (inR (n19+(((lat l_0 t20).BY).length:Int)))<|(if (lat l_0 t20).Ar=3 then ck (inR ((n19+(((lat l_0 t20).BY).length:Int))+2))<|some ((n19+(((lat l_0 t20).BY).length:Int))+2)else some (n19+(((lat l_0 t20).BY).length:Int)) : Option Int).bind λ n26=>(if 0<t20 then ck (inR (t20-1))<|ck ((0:Int)<=t20-1/\t20-1<(l_0.length:Int))<|(lx (lat l_0 (t20-1)) (lat l_0 t20)).bind λ R6=>some R6 else some false : Option Bool).bind λ t32=>if t32=true then ck (inR (n26+1))<|some (n26+1)else some n26 : Option Int).bind λ n35=>ck (inR (t20+1))<|dQ l_0 m n35 (t20+1)else some n19
def kr (n:Nat)(l_0:List ac):Option Int :=(dQ l_0 n 0 0).bind λ n39=>some n39
theorem uB (n:Nat)(l_0:List ac)(r:Int)(h0:kr n l_0=some r):aK Tryz.prog 160 [eL az l_0] (·=.p (eI r)):=by
 unfold kr at h0;refine bV good Tryz.func160 Z Z Z λ w0=>mP (λ v:Int=>.p (eI v)) ?_;refine nx 12 Z (oLl (f:=az) Z Z ?_);refine nx 3 Z (bd h0 λ o44 h1 h0=>?_);refine kE 0 o44 (λ v45=>⟨[(3,.p (eI v45))],[]⟩) ?_ ?_
 ·exact oM
 refine lG (λ (QW:Int×Int)=>⟨[(0,.p (eL az l_0)),(3,.p (eI QW.1)),(6,.p (eL az l_0)),(7,.p (eI (l_0.length:Int))),(8,.p (eI QW.2))],[]⟩) (λ m (QW:Int×Int)=>dQ l_0 m QW.1 QW.2) Y (0,0) h1 (gE rfl rfl) ?_;rintro m ⟨n19,t20⟩ h1;replace h1:dQ l_0 (m+1) n19 t20=some o44:=h1;rw [dQ] at h1;refine nx 5 rfl (fD [9] h1 rfl (λ c21 h1=>?_) λ c21 h1=>?_)
 ·refine nx 3 Z (bd h1 λ o47 h2 h1=>?_);refine kN o47 (λ v48=>⟨[(0,.p (eL az l_0)),(3,.p (eI v48)),(6,.p (eL az l_0)),(7,.p (eI (l_0.length:Int))),(8,.p (eI t20))],[]⟩) ?_ ?_
  ·refine nx 2 Z (oA h1 Z Z λ Qm h1=>?_);exact nx 2 Z (eX (o47,t20+1) h1 (gE Z Z))
  refine nx 4 Z (oE h2 ac.F' Z Z Y λ Pw h2=>?_);refine nx 10 Z (oLs Z ?_);refine oA h2 Z Z λ Qn h2=>nx 3 Z (bd h2 λ o49 h3 h2=>?_);refine kN o49 (λ v50=>⟨[(0,.p (eL az l_0)),(3,.p (eI v50)),(4,.p (eI t20)),(5,.ptr 5 0),(6,.p (eL az l_0)),(7,.p (eI (l_0.length:Int))),(8,.p (eI t20))],[(5,(ac.cs (lat l_0 t20)).map .p)]⟩) ?_ ?_
  ·refine nx 2 Z (bd h2 λ o51 h3 h2=>?_);refine kN o51 (λ TP=>⟨[(0,.p (eL az l_0)),(3,.p (eI o49)),(6,.p (eL az l_0)),(7,.p (eI (l_0.length:Int))),(8,.p (eI t20)),(33,.p (eB TP))],[]⟩) ?_ ?_
   ·refine nx 1 Z (fB [33] h2 Z (λ Vq h2=>?_) λ Vq h2=>?_)
    ·refine nx 3 Z (oA h2 Z Z λ SH h2=>?_);exact fS
    exact fS
   refine fD (p:=0<t20) [] h3 Z (λ QP h3=>?_) λ QP h3=>?_
   ·refine cc' h3 λ SI h3=>cc' h3 λ Tg h3=>bd h3 λ R6 Ve h3=>mD [(0,.p (eL az l_0)),(3,.p (eI o49)),(4,.p (eI t20)),(5,.ptr 5 0),(6,.p (eL az l_0)),(7,.p (eI (l_0.length:Int))),(8,.p (eI t20))] Z ⟨Z,Z,Z,Z,Z,Z,Z,trivial⟩ Z (dR 1 Z ?_);refine dL (dt QP) Z (dR 3 Z ?_);refine dq (.p (eI (t20-1))) [25,27] Z (λ _ e _ q=>fE (fK Z Z Z (e _ _ Z) Z Z SI q) Z Z (e _ _ Z) (rfl)) Z (dq (.rptr (ac.cs (lat l_0 (t20-1)))) [25,26,28] Z (λ _ e _ q=>fE (nV (f:=az) (l:=l_0) ac.cs Z Z Z Z Z Z (e _ _ Z) Z (e _ _ Z) Tg ac.F' Y q) Z Z (e _ _ Z) (rfl)) Z ?_);refine dR 2 Z (dq (.p (eB R6)) [25,30,31] Z (λ _ e _ q=>fE (cF (wD (lat l_0 (t20-1)) (lat l_0 t20) _ Ve) Z Z Z (aQ (e _ _ Z) (aQ (e _ _ Z) bU)) ⟨sr,sr,trivial⟩ Tryz.call183 Z q) Z Z (e _ _ Z) (rfl)) Z ?_);refine dR 1 Z (dE Z ?_);exact Bc
   refine mD [(0,.p (eL az l_0)),(3,.p (eI o49)),(4,.p (eI t20)),(5,.ptr 5 0),(6,.p (eL az l_0)),(7,.p (eI (l_0.length:Int))),(8,.p (eI t20))] Z ⟨Z,Z,Z,Z,Z,Z,Z,trivial⟩ Z (dR 1 Z ?_);refine dL (df QP) Z (dR 9 Z ?_);exact yE
  refine nx 6 Z (fD [20] h3 Z (λ Ru h3=>?_) λ Ru h3=>?_)
  ·refine nx 3 Z (oA h3 Z Z λ Qc h3=>?_);exact mI
  exact mI
 exact cH
def ei (n:Nat)(l_0:List ac):Nat->Int->Option (Unit⊕Int)|0,_=>none|m+1,O5=>if O5<((sub l_0 0 ((l_0.length:Int)-1)).length:Int) then ck ((0:Int)<=O5/\O5<((sub l_0 0 ((l_0.length:Int)-1)).length:Int))<|if 65536<(((lat (sub l_0 0 ((l_0.length:Int)-1)) O5).BY).length:Int) then some (.inr 3)else(lE n (lat (sub l_0 0 ((l_0.length:Int)-1)) O5)).bind λ PU=>if (!PU)=true then some (.inr 1)else ck (inR (O5+1))<|ei n l_0 m (O5+1)else some (.inl ())
def ln (n:Nat)(l_0:List ac):Option Int :=if 16384<(l_0.length:Int) then some 14 else if (l_0.length:Int)=0 then some 1 else ck (inR ((l_0.length:Int)-1))<|(ck ((0:Int)<=(l_0.length:Int)-1/\(l_0.length:Int)-1<(l_0.length:Int))<|if (lat l_0 ((l_0.length:Int)-1)).Ar=6 then ck ((0:Int)<=(l_0.length:Int)-1/\(l_0.length:Int)-1<(l_0.length:Int))<|some (!decide ((lat l_0 ((l_0.length:Int)-1)).BY=([]:Bk)))else some true : Option Bool).bind λ t7=>if t7=true then some 1 else ck ((0:Int)<=0/\0<=(l_0.length:Int)-1/\(l_0.length:Int)-1<=(l_0.length:Int))<|jn (ei n l_0 n 0) λ _Qr=>(kr n l_0).bind λ Q6=>if 65536<Q6 then some 3 else some 0
theorem vE (n:Nat)(l_0:List ac)(r:Int)(h0:ln n l_0=some r):aK Tryz.prog 136 [eL az l_0] (·=.p (eI r)):=by
 unfold ln at h0;refine bV good Tryz.func136 Z Z Z λ w0=>mP (λ v:Int=>.p (eI v)) ?_;refine nx 8 Z (oLl (f:=az) Z Z ?_);refine nx 2 Z (fD [8] h0 Z (λ c1 h0=>?_) λ c1 h0=>?_)
 ·exact ez
 refine nx 6 Z (oLl (f:=az) Z Z ?_);refine nx 2 Z (fD [11] h0 Z (λ c2 h0=>?_) λ c2 h0=>?_)
 ·exact ez
 refine nx 5 Z (oLl (f:=az) Z Z ?_);refine oA h0 Z Z λ QY h0=>nx 4 Z (bd h0 λ Rz h1 h0=>?_);refine kN Rz (λ TQ=>⟨[(0,.p (eL az l_0)),(3,.p (eI ((l_0.length:Int)-1))),(28,.p (eB TQ))],[]⟩) ?_ ?_
 ·refine nx 1 Z (fB [28] h0 Z (λ c8 h0=>?_) λ c8 h0=>?_)
  ·exact ez
  refine nx 7 rfl (cc' h0 λ Rk h0=>?_);refine mO rfl (w7 (f:=az) (l:=l_0) Z Z Z Z Z Z Z Z Z Z Rk (λ x=>congrArg List.length (ac.F' x)) ?_);refine oLl (f:=az) Z Z (nx 3 rfl ?_);obtain ⟨Ta,h1,Ou,hR0⟩:=cw h0;refine kEx 0 (λ QS:Unit=>Ta=.inl QS) (λ QS=>⟨[(0,.p (eL az l_0))],[]⟩) (λ QS hv=>?_) ?_
  ·have h0:=Ou _ hv;refine nx 5 Z (bd h0 λ Q6 Tm h0=>?_);refine oK (uB _ l_0 _ Tm) Z ⟨sr,trivial⟩ Tryz.call160 Z (nx 2 Z ?_);refine fD [47] h0 Z (λ SO h0=>?_) λ SO h0=>?_
   ·exact ez
   exact oM
  refine lG (λ (SY:Int)=>⟨[(0,.p (eL az l_0)),(31,.p (eL az (sub l_0 0 ((l_0.length:Int)-1)))),(32,.p (eI ((sub l_0 0 ((l_0.length:Int)-1)).length:Int))),(33,.p (eI SY))],[]⟩) (λ m (SY:Int)=>ei n l_0 m SY) Y 0 h1 (gE rfl rfl) ?_;rintro m O5 h1;replace h1:ei n l_0 (m+1) O5=some Ta:=h1;rw [ei] at h1;refine nx 5 rfl (fD [34] h1 rfl (λ QE h1=>?_) λ QE h1=>?_)
  ·refine nx 6 Z (oE h1 ac.F' Z Z Y λ PO h1=>?_);refine nx 9 Z (oLs Z ?_);refine nx 2 Z (fD [40] h1 Z (λ c21 h1=>?_) λ c21 h1=>?_)
   ·exact kV
   refine nx 5 Z (bd h1 λ PU To h1=>?_);refine oK (uU _ (lat (sub l_0 0 ((l_0.length:Int)-1)) O5) _ To) Z ⟨sr,trivial⟩ Tryz.call159 Z (nx 2 Z ?_);refine fB [43] h1 Z (λ Ru h1=>?_) λ Ru h1=>?_
   ·exact kV
   refine nx 3 Z (oA h1 Z Z λ Qc h1=>?_);exact nx 2 Z (eX (O5+1) h1 (gE Z Z))
  exact cH
 refine nx 3 Z (oE h1 ac.F' Z Z Y λ Rq h1=>?_);refine nx 4 Z (fN [20,21] h1 Z (λ c5 h1=>?_) λ c5 h1=>?_)
 ·refine nx 2 Z (oE h1 ac.F' Z Z Y λ hk6 h1=>?_);refine nx 2 Z (oS Z Z ?_);exact cZ
 exact sS
theorem AZ (h:p:=by
  exact nx 7 Z (mQ (hR0 _ (hR1 _ (oi h2).symm).symm) Z (sr))):p:=h
theorem vO (h:p:=by
  exact nx 16 Z (eX _ (oi h1).symm (gE Z Z))):p:=h
theorem BF (h:p:=by
  exact nx 6 Z (mQo (oi h0) (aJ _) Z Z Z Z (sr) ⟨⟨_,Z,⟨sr,trivial⟩⟩,⟨_,Z,⟨sr,trivial⟩⟩,trivial⟩)):p:=h
theorem yB (h:p:=by
  exact nx 6 Z (mQ (hR0 _ (hR1 _ (oi h2).symm).symm) Z (sr))):p:=h
theorem Co (h:p:=by
  exact nx 12 Z (eX _ (oi h1).symm (gE Z Z))):p:=h
theorem wk (h:p:=by
  exact nx 4 Z (mQ (oi h0) Z (sr))):p:=h
def kw (NX:aw):Option Bool :=(if NX.Ar<0 then some true else some (decide (6<NX.Ar)) : Option Bool).bind λ t2=>if t2=true then some false else jn (if NX.Ar=1 then(if NX.It=0 then some false else some (!decide (NX.It=1)) : Option Bool).bind λ t6=>if t6=true then some (.inr false)else some (.inl ())else if NX.Ar=2 then some (.inl ())else if NX.It=0 then some (.inl ())else some (.inr false) : Option (Unit⊕Bool)) λ _q20=>(if NX.Ar=3 then if NX.Ar=4 then some false else if NX.Ar=5 then some false else some (decide (0<(NX.H'.length:Int)))else if NX.IS=([]:Bk) then if NX.Ar=4 then some false else if NX.Ar=5 then some false else some (decide (0<(NX.H'.length:Int)))else some true : Option Bool).bind λ O6=>if O6=true then some false else if NX.Ar=5 then some (decide ((NX.E'.length:Int)=(NX.H'.length:Int)))else some (decide ((NX.E'.length:Int)=0))
theorem uq (NX:aw)(r:Bool)(h0:kw NX=some r):aK Tryz.prog 212 [.agg (aw.cs NX)] (·=.p (eB r)):=by
 unfold kw at h0;refine bV good Tryz.func212 Z Z Z λ w0=>mP (λ v:Bool=>.p (eB v)) ?_;refine nx 7 Z (bd h0 λ OE h1 h0=>?_);refine kN OE (λ O4=>⟨[(1,.ptr 1 0),(10,.p (eB O4))],[(1,(aw.cs NX).map .p)]⟩) ?_ ?_
 ·refine nx 1 Z (fB [10] h0 Z (λ c3 h0=>?_) λ c3 h0=>?_)
  ·exact ez
  refine nx 8 rfl ?_;obtain ⟨TN,h1,Ou,hR0⟩:=cw h0;refine kX (λ Sj:Unit=>TN=.inl Sj) (λ Sj=>⟨[(1,.ptr 1 0)],[(1,(aw.cs NX).map .p)]⟩) (λ Sj hv=>?_) ?_
  ·have h0:=Ou _ hv;refine nx 3 Z (bd h0 λ PC h1 h0=>?_);refine kN PC (λ R5=>⟨[(1,.ptr 1 0),(51,.p (eB R5))],[(1,(aw.cs NX).map .p)]⟩) ?_ ?_
   ·refine nx 1 Z (fB [51] h0 Z (λ Oo h0=>?_) λ Oo h0=>?_)
    ·exact ez
    refine nx 9 Z (fD [54] h0 Z (λ RY h0=>?_) λ RY h0=>?_)
    ·refine nx 5 Z (oLl (f:=eS) Z Z ?_);refine nx 2 Z (oLl (f:=bw) Z Z ?_);exact wk
    refine nx 6 Z (oLl (f:=eS) Z Z ?_);exact wk
   refine nx 5 Z (fN [30,31] h1 Z (λ QF h1=>?_) λ QF h1=>?_)
   ·refine nx 9 Z (fN [39,40] h1 Z (λ Qq h1=>?_) λ Qq h1=>?_)
    ·exact Co
    refine nx 5 Z (fN [43,44,45] h1 Z (λ RZ h1=>?_) λ RZ h1=>?_)
    ·exact mq
    refine nx 2 Z (oLl (f:=bw) Z Z ?_);exact i8
   refine nx 2 Z (oS Z Z ?_);refine nx 2 Z (fN [34,35,36] h1 Z (λ P8 h1=>?_) λ P8 h1=>?_)
   ·refine nx 4 Z (fN [39,40] h1 Z (λ Rv h1=>?_) λ Rv h1=>?_)
    ·exact Co
    refine nx 5 Z (fN [43,44,45] h1 Z (λ QQ h1=>?_) λ QQ h1=>?_)
    ·exact mq
    refine nx 2 Z (oLl (f:=bw) Z Z ?_);exact i8
   exact vO
  refine nx 6 Z (fD [16,17] h1 Z (λ c4 h1=>?_) λ c4 h1=>?_)
  ·refine nx 2 Z (bd h1 λ QB h2 h1=>?_);refine kN QB (λ PS=>⟨[(1,.ptr 1 0),(25,.p (eB PS))],[(1,(aw.cs NX).map .p)]⟩) ?_ ?_
   ·refine nx 1 Z (fB [25] h1 Z (λ c7 h1=>?_) λ c7 h1=>?_)
    ·exact kV
    exact cZ
   refine nx 5 Z (fN [20,21] h2 Z (λ c5 h2=>?_) λ c5 h2=>?_)
   ·exact pr
   exact pr
  refine nx 6 Z (fD [26,27] h1 Z (λ c8 h1=>?_) λ c8 h1=>?_)
  ·exact cZ
  refine nx 7 Z (fN [15] h1 Z (λ c9 h1=>?_) λ c9 h1=>?_)
  ·exact cZ
  exact kV
 refine nx 5 Z (fD [5,6] h1 Z (λ c1 h1=>?_) λ c1 h1=>?_)
 ·exact fx
 exact fx
def kW (NN:Bk):Option Int :=if 4096<(NN.length:Int) then some 3 else(jq NN).bind λ r2=>if (!r2)=true then some 1 else some 0
theorem qU (NN:Bk)(r:Int)(h0:kW NN=some r):aK Tryz.prog 214 [eS NN] (·=.p (eI r)):=by
 unfold kW at h0;refine bV good Tryz.func214 Z Z Z λ w0=>mP (λ v:Int=>.p (eI v)) ?_;refine nx 8 Z (oLs Z ?_);refine nx 2 Z (fD [5] h0 Z (λ c1 h0=>?_) λ c1 h0=>?_)
 ·exact ez
 refine nx 6 Z (bd h0 λ r2 e3 h0=>?_);refine oK (oY NN _ e3) Z ⟨sr,trivial⟩ Tryz.call69 Z (nx 2 Z ?_);refine fB [8] h0 Z (λ c4 h0=>?_) λ c4 h0=>?_
 ·exact ez
 exact oM
def eN (NX:aw):Nat->Int->Option (Unit⊕(Unit⊕Int))|0,_=>none|m+1,Qu=>if Qu<(NX.E'.length:Int) then ck ((0:Int)<=Qu/\Qu<(NX.E'.length:Int))<|(kW (lat NX.E' Qu)).bind λ Q6=>if Q6=0 then(if 0<Qu then ck (inR (Qu-1))<|ck ((0:Int)<=Qu-1/\Qu-1<(NX.E'.length:Int))<|some (Op.bytesLess (lat NX.E' Qu) (lat NX.E' (Qu-1))||decide (lat NX.E' Qu=lat NX.E' (Qu-1)))else some false : Option Bool).bind λ t33=>if t33=true then some (.inr (.inr 1))else ck (inR (Qu+1))<|eN NX m (Qu+1)else some (.inr (.inr Q6))else some (.inl ())
def mr (n:Nat)(NX:aw):Option Int :=(kw NX).bind λ r1=>if (!r1)=true then some 1 else jn (if NX.Ar=2 then(iM NX.It).bind λ r5=>if (!r5)=true then some (.inr 5)else some (.inl ())else if NX.Ar=3 then(kW NX.IS).bind λ r9=>some (.inr r9)else if NX.Ar=5 then jn (eN NX n 0) λ _SX=>some (.inl ())else some (.inl ()) : Option (Unit⊕Int)) λ _RJ=>some 0
theorem wR (n:Nat)(NX:aw)(r:Int)(h0:mr n NX=some r):aK Tryz.prog 202 [.agg (aw.cs NX)] (·=.p (eI r)):=by
 unfold mr at h0;refine bV good Tryz.func202 Z Z Z λ w0=>mP (λ v:Int=>.p (eI v)) ?_;refine nx 9 Z (bd h0 λ r1 e2 h0=>?_);refine oK (uq NX _ e2) Z ⟨sr,trivial⟩ Tryz.call212 Z (nx 2 Z ?_);refine fB [8] h0 Z (λ c3 h0=>?_) λ c3 h0=>?_
 ·exact ez
 refine nx 8 rfl ?_;obtain ⟨o40,h1,Ou,hR0⟩:=cw h0;refine kX (λ v41:Unit=>o40=.inl v41) (λ v41=>⟨[],[]⟩) (λ v41 hv=>?_) ?_
 ·have h0:=Ou _ hv;exact ez
 refine nx 6 Z (fD [11,12] h1 Z (λ c4 h1=>?_) λ c4 h1=>?_)
 ·refine nx 5 Z (bd h1 λ r5 e6 h1=>?_);refine oK (o0 NX.It _ e6) Z ⟨sr,trivial⟩ Tryz.call213 Z (nx 2 Z ?_);refine fB [16] h1 Z (λ c7 h1=>?_) λ c7 h1=>?_
  ·exact kV
  exact cZ
 refine nx 6 Z (fD [17,18] h1 Z (λ c8 h1=>?_) λ c8 h1=>?_)
 ·refine nx 5 Z (bd h1 λ r9 Qp h1=>?_);refine oK (qU NX.IS _ Qp) Z ⟨sr,trivial⟩ Tryz.call214 Z (nx 3 Z ?_);exact mQ (hR0 _ (oi h1).symm) Z (sr)
 refine nx 6 Z (fD [22,23] h1 Z (λ Qq h1=>?_) λ Qq h1=>?_)
 ·refine nx 5 rfl (oLl (f:=eS) Z Z ?_);refine nx 3 rfl ?_;obtain ⟨Q9,h2,hL1,hR1⟩:=cw h1;refine kEx 1 (λ QG:Unit=>Q9=.inl QG) (λ QG=>⟨[],[]⟩) (λ QG hv=>?_) ?_
  ·have h1:=hL1 _ hv;exact vI
  refine lG (λ (Sr:Int)=>⟨[(1,.ptr 1 0),(25,.p (eL eS NX.E')),(26,.p (eI (NX.E'.length:Int))),(27,.p (eI Sr))],[(1,(aw.cs NX).map .p)]⟩) (λ m (Sr:Int)=>eN NX m Sr) Y 0 h2 (gE rfl rfl) ?_;rintro m Qu h2;replace h2:eN NX (m+1) Qu=some Q9:=h2;rw [eN] at h2;refine nx 5 rfl (fD [28] h2 rfl (λ QD h2=>?_) λ QD h2=>?_)
  ·refine nx 7 Z (oE h2 Y Z Z Y λ PH h2=>?_);refine nx 8 Z (bd h2 λ Q6 Tm h2=>?_);refine oK (qU (lat NX.E' Qu) _ Tm) Z ⟨sr,trivial⟩ Tryz.call214 Z (nx 7 Z ?_);refine fN [35] h2 Z (λ SO h2=>?_) λ SO h2=>?_
   ·refine nx 3 Z (bd h2 λ Sy h3 h2=>?_);refine kN Sy (λ v46=>⟨[(1,.ptr 1 0),(25,.p (eL eS NX.E')),(26,.p (eI (NX.E'.length:Int))),(27,.p (eI Qu)),(48,.p (eB v46))],[(1,(aw.cs NX).map .p)]⟩) ?_ ?_
    ·refine nx 1 Z (fB [48] h2 Z (λ Vp h2=>?_) λ Vp h2=>?_)
     ·exact yB
     refine nx 3 Z (oA h2 Z Z λ SG h2=>?_);exact nx 2 Z (eX (Qu+1) h2 (gE Z Z))
    refine nx 4 Z (fD [38,39] h3 Z (λ Tt h3=>?_) λ Tt h3=>?_)
    ·refine nx 4 Z (oA h3 Z Z λ Te h3=>?_);refine oE h3 Y Z Z Y λ hk32 h3=>nx 1 Z (oS Z Z ?_);exact mI
    exact nx 10 Z yX
   exact AZ
  exact nx 2 Z (eXi _ (oi h2).symm (gE Z Z))
 exact cZ
def de (Pg:aw->Int->Int->Option (Int×Int))(NX:aw)(NT:Int):Nat->Int->Int->Option (Int⊕(Int×Int))|0,_,_=>none|m+1,O6,Re=>if O6<(NX.H'.length:Int) then ck ((0:Int)<=O6/\O6<(NX.H'.length:Int))<|ck (inR (NT+1))<|(Pg (lat NX.H' O6) (NT+1) Re).bind λ N9=>if N9.1=0 then ck (inR (O6+1))<|de Pg NX NT m (O6+1) N9.2 else some (.inr (N9.1,N9.2))else some (.inl Re)
def ee:Nat->aw->Int->Int->Option (Int×Int)|0,_,_,_=>none|n+1,NX,NT,cap_0=>if 32<NT then some (4,cap_0)else if 4096<=cap_0 then some (14,cap_0)else ck (inR (cap_0+1))<|(mr n NX).bind λ r4=>if r4=0 then jn (de (ee n) NX NT n 0 (cap_0+1)) λ f27=>some (0,f27)else some (r4,cap_0+1)
theorem tD (n:Nat):∀ (NX:aw) (NT:Int) (cap_0:Int) (r:Int×Int),ee n NX NT cap_0=some r->aS Tryz.prog 201 [.p (.agg (aw.cs NX)),.p (eI NT),.ptr 1000000 0,.ptr 1000001 0] [(1000000,[.p (eI cap_0)]),(1000001,[.func (.func 201) [.ptr 1000000 0,.ptr 1000001 0]])] (λ x y=>x=.p (eI r.1)/\y=[(1000000,[.p (eI r.2)]),(1000001,[.func (.func 201) [.ptr 1000000 0,.ptr 1000001 0]])]):=by
 induction n with
 | zero=>intro NX NT cap_0 r h0; cases h0
 | succ n ih=>
 have PD:=ih;intro NX NT cap_0 r h0;rw [ee] at h0;refine bT good [] [1000000,1000001] Tryz.func201 Z Z Z Z Z λ w0 F=>mPo (λ v:Int×Int=>.p (eI v.1)) (λ v=>[(1000000,[.p (eI v.2)]),(1000001,[.func (.func 201) [.ptr 1000000 0,.ptr 1000001 0]])]) ?_;refine nx 11 Z (fD [12] h0 Z (λ c1 h0=>?_) λ c1 h0=>?_)
 ·exact BF
 refine nx 8 Z (fD [14] h0 Z (λ c2 h0=>?_) λ c2 h0=>?_)
 ·exact BF
 refine nx 5 Z (oA h0 Z Z λ QY h0=>?_);refine nx 6 Z (bd h0 λ r4 e5 h0=>?_);refine oK (wR _ NX _ e5) Z ⟨sr,trivial⟩ Tryz.call202 Z (nx 7 Z ?_);refine fN [20] h0 Z (λ c6 h0=>?_) λ c6 h0=>?_
 ·refine nx 7 rfl (oLl (f:=bw) Z Z ?_);refine nx 3 rfl ?_;obtain ⟨QB,h1,Ou,hR0⟩:=cw h0;refine kEx 0 (λ PS:Int=>QB=.inl PS) (λ PS=>⟨[],[(1000000,[.p (eI PS)]),(1000001,[.func (.func 201) [.ptr 1000000 0,.ptr 1000001 0]])]⟩) (λ PS hv=>?_) ?_
  ·have h0:=Ou _ hv;exact BF
  refine lG (λ (Qr:Int×Int)=>⟨[(1,.p (eI NT)),(3,.ptr 1000001 0),(23,.p (eL bw NX.H')),(24,.p (eI (NX.H'.length:Int))),(25,.p (eI Qr.1))],[(1000000,[.p (eI Qr.2)]),(1000001,[.func (.func 201) [.ptr 1000000 0,.ptr 1000001 0]])]⟩) (λ m (Qr:Int×Int)=>de (ee n) NX NT m Qr.1 Qr.2) Y (0,cap_0+1) h1 (gE rfl rfl) ?_;rintro m ⟨O6,Re⟩ h1;replace h1:de (ee n) NX NT (m+1) O6 Re=some QB:=h1;rw [de] at h1;refine nx 5 rfl (fD [26] h1 rfl (λ RY h1=>?_) λ RY h1=>?_)
  ·refine nx 6 Z (oE h1 aw.F' Z Z Y λ QC h1=>?_);refine nx 9 Z (oA h1 Z Z λ PO h1=>?_);refine bd h1 λ N9 RU h1=>mO Z (xB [1000000,1000001] [] 102000 102000 (PD (lat NX.H' O6) (NT+1) Re _ RU) Z Z Z Z Z Z ⟨sr,sr,sr,sr,trivial⟩ Z Z ⟨⟨_,Z,⟨sr,trivial⟩⟩,⟨_,Z,⟨sr,trivial⟩⟩,trivial⟩ Z Z Z Z Z Z Z Z Tryz.call201 Z Z ?_);refine nx 7 Z (fN [35] h1 Z (λ P3 h1=>?_) λ P3 h1=>?_)
   ·refine nx 3 Z (oA h1 Z Z λ P7 h1=>?_);exact nx 2 Z (eX (O6+1,N9.2) h1 (gE Z Z))
   exact nx 7 Z (mQo (hR0 _ (oi h1).symm) (aJ _) Z Z Z Z (sr) ⟨⟨_,Z,⟨sr,trivial⟩⟩,⟨_,Z,⟨sr,trivial⟩⟩,trivial⟩)
  exact cH
 exact nx 7 Z (mQo (oi h0) (aJ _) Z Z Z Z (sr) ⟨⟨_,Z,⟨sr,trivial⟩⟩,⟨_,Z,⟨sr,trivial⟩⟩,trivial⟩)
def nb (n:Nat)(NX:aw):Option Int :=(ee n NX 1 0).bind λ r1=>some r1.1
theorem vJ (n:Nat)(NX:aw)(r:Int)(h0:nb n NX=some r):aK Tryz.prog 174 [.agg (aw.cs NX)] (·=.p (eI r)):=by
 unfold nb at h0;refine bV good Tryz.func174 Z Z Z λ w0=>mP (λ v:Int=>.p (eI v)) ?_;refine nx 16 Z (mO Z (nt Z Z Z Z ?_));refine nx 6 Z (bd h0 λ r1 e2 h0=>?_);refine mO Z (xB [3,4] [] 101000 101000 (tD _ NX 1 0 _ e2) Z Z Z Z Z Z ⟨sr,sr,sr,sr,trivial⟩ Z Z ⟨⟨_,Z,⟨sr,trivial⟩⟩,⟨_,Z,⟨sr,trivial⟩⟩,trivial⟩ Z Z Z Z Z Z Z Z Tryz.call201 Z Z ?_);exact nz
theorem JJ (h:p:=by
  refine dS Z (dS Z ?_);refine cV (nx 2 Z ?_)
  exact mQ (oi h0) Z (cb ⟨dW ⟨.inl Z,.inl Z,.inl Z,.inl Z,.inl Z,.inl Z,.inl Z,.inr ⟨Z,Z⟩,.inr ⟨Z,Z⟩,.inr ⟨Z,Z⟩,.inl Z,trivial⟩,sr,trivial⟩)):p:=h
theorem Iv (h:p:=by
  refine nx 5 Z (fD [23,24,25,26] h2 Z (λ SO h2=>?_) λ SO h2=>?_)
  ·refine nx 3 Z (fD [28,29] h2 Z (λ Tt h2=>?_) λ Tt h2=>?_)
   ·exact nx 13 Z (eX _ (oi h2).symm (gE Z Z))
   refine nx 2 Z (oI h2 Z λ Te h2=>?_);refine nx 3 Z (fD [33,34,35] h2 Z (λ Vr h2=>?_) λ Vr h2=>?_)
   ·exact nx 7 Z (eX _ (oi h2).symm (gE Z Z))
   refine nx 2 Z (oI h2 Z λ hk33 h2=>?_);exact nx 4 Z (eX _ (oi h2).symm (gE Z Z))
  exact nx 16 Z (eX _ (oi h2).symm (gE Z Z))):p:=h
theorem GB (h:p:=by
  exact nx 7 Z (mQo (oi h0) (aJ _) Z Z Z Z (dW ⟨.inl Z,.inl Z,.inl Z,.inl Z,.inl Z,.inl Z,.inl Z,.inr ⟨Z,Z⟩,.inr ⟨Z,Z⟩,.inr ⟨Z,Z⟩,.inl Z,trivial⟩) ⟨⟨_,Z,⟨sr,sr,sr,sr,sr,sr,sr,trivial⟩⟩,trivial⟩)):p:=h
theorem pD (h:p:=by
  exact nx 7 Z (qD h0 Z)):p:=h
theorem yk (h:p:=by
  exact nx 7 Z (eX _ (oi h2).symm (gE Z Z))):p:=h
theorem FD (h:p:=by
  refine nx 6 Z (oA h0 Z Z λ QY h0=>?_)
  exact nx 4 Z (Jt (oi h0) (aJ _) Z Z Z Z (sr) ⟨⟨_,Z,⟨sr,sr,sr,sr,sr,sr,sr,trivial⟩⟩,trivial⟩)):p:=h
theorem oG (h:p:=by
  exact mQ (oi h0) Z (sr)):p:=h
theorem Hl (h:p:=by
  refine nx 2 Z (fB [7] h0 Z (λ c3 h0=>?_) λ c3 h0=>?_)
  ·refine nx 5 Z (bd h0 λ r4 e5 h0=>?_);refine mO Z (cVq [1000000] [] 102000 102000 (eY _ r1.2 _ e5) Tryz.call188 Z ?_);refine nx 1 Z (bd h0 λ r6 e7 h0=>?_);refine mO Z (cVq [1000000] [] 103000 103000 (cD r4.2 2 r4.1.fAt _ e7) Tryz.call190 Z ?_);exact nx 2 Z (qD h0 Z)
  refine nx 4 Z (bd h0 λ r8 e9 h0=>?_);refine mO Z (cVq [1000000] [] 104000 104000 (bf _ r1.2 _ e9) Tryz.call163 Z ?_)
  exact nx 1 Z (Jt (oi h0) (aJ _) Z Z Z Z (sr) ⟨⟨_,Z,⟨sr,sr,sr,sr,sr,sr,sr,trivial⟩⟩,trivial⟩)):p:=h
theorem H8 (h:p:=by
  refine nx 3 Z (oA h1 Z Z λ Qm h1=>?_)
  exact nx 2 Z (eX (OF+1) h1 (gE Z Z))):p:=h
theorem A4 (h:p:=by
  exact nx 21 Z (eX _ (oi h1).symm (gE Z Z))):p:=h
theorem IM (h:p:=by
  refine dS Z (cV ?_)
  exact nx 2 Z (mQ (oi h0) Z (cb ⟨dW ⟨.inl Z,.inl Z,.inl Z,.inl Z,.inl Z,.inl Z,.inl Z,.inr ⟨Z,Z⟩,.inr ⟨Z,Z⟩,.inr ⟨Z,Z⟩,.inl Z,trivial⟩,sr,trivial⟩))):p:=h
theorem HH (h:p:=by
  refine nx 7 Z (bd h0 λ r1 e2 h0=>?_);refine mO Z (cVq [1000000] [] 101000 101000 (eY _ NL _ e2) Tryz.call188 Z ?_);refine nx 4 Z (bd h0 λ o16 h1 h0=>?_);refine kN o16 (λ SV=>⟨[(4,.p (eB SV.1))],[(1000000,[.p (eL az SV.2.1),.p (eI SV.2.2.1),.p (eI SV.2.2.2.1),.p (eI SV.2.2.2.2.1),.p (eI SV.2.2.2.2.2.1),.p (eI SV.2.2.2.2.2.2.1),.p (eS SV.2.2.2.2.2.2.2)])]⟩) ?_ ?_
  ·exact nx 2 Z (qD h0 Z)
  refine nx 2 Z (bd h1 λ r3 e4 h1=>?_);refine mO Z (cVq [1000000] [] 102000 102000 (d9 r1.2 _ e4) Tryz.call189 Z ?_);refine nx 2 Z (fB [10,11] h1 Z (λ c5 h1=>?_) λ c5 h1=>?_)
  ·refine nx 5 Z (fD [14,15,16] h1 Z (λ c6 h1=>?_) λ c6 h1=>?_)
   ·refine nx 3 Z (oS Z Z ?_);exact nx 3 Z (eX _ (oi h1).symm (gE Z Z))
   exact nx 7 Z (eX _ (oi h1).symm (gE Z Z))
  exact nx 12 Z (eX _ (oi h1).symm (gE Z Z))):p:=h
theorem pu (h:p:=by exact eX _ (oi h2).symm (gE Z Z)):p:=h
theorem Ip (h:p:=by first|(simp only [List.map_append,dg,th,ag.Mr]; done)|(simp only [List.map_append,dg,th,ag.Mr]; rfl)):p:=h
theorem oD (h:p:=by rw [n6]):p:=h
theorem Ca (h:p:=by exact mQo (oi h0) (aU (bn 900000 800000 Z Z Z Z Z) (aJ _)) Z Z Z Z (sr) ⟨⟨_,Z,⟨sr,sr,sr,sr,sr,sr,sr,trivial⟩⟩,trivial⟩):p:=h
theorem CM (h:p:=by exact mQo (oi h0) (aU (bn 101000 800000 Z Z Z Z Z) (aJ _)) Z Z Z Z (sr) ⟨⟨_,Z,⟨sr,sr,sr,sr,sr,sr,sr,trivial⟩⟩,trivial⟩):p:=h
theorem JI (h:p:=by exact gE (t:=⟨[(0,.ptr 1000000 0),(2,.ptr 2 0)],[(2,gR),(1000000,[.p (eS NO.fs),.p (eI NO.fat),.p (eI NO.fi),.p (eI NO.Df),.p (eS NO.D'),.vec 900000 11 0 (NO.C'.map av),.p (eB NO.IN)])]⟩) Z Z):p:=h
abbrev mN:List AV:=[.p (eI 0),.p (eI 0),.p (eS ([]:Bk)),.p (eS ([]:Bk)),.p (eI 0),.p (eI 0),.p (eS ([]:Bk)),.p (.val (.slice none 0 0)),.p (.val (.slice none 0 0)),.p (.val (.slice none 0 0)),.p (eI 0)]
abbrev nU:List PV:=[eI 0,eI 0,eS ([]:Bk),eS ([]:Bk),eI 0,eI 0,eS ([]:Bk),.val (.slice none 0 0),.val (.slice none 0 0),.val (.slice none 0 0),eI 0]
abbrev ki:List AV:=[.p (eI 0),.p (eS ([]:Bk)),.p (eI 0)]
abbrev gR:List AV:=[.p (eI 0),.p (eI 0),.p (eS ([]:Bk))]
def kS (Og:Int):Option Bool :=(if Og=12 then some true else some (decide (Og=13)) : Option Bool).bind λ t2=>some t2
theorem ot (Og:Int)(r:Bool)(h0:kS Og=some r):aK Tryz.prog 198 [eI Og] (·=.p (eB r)):=by
 unfold kS at h0;refine bV good Tryz.func198 Z Z Z λ w0=>mP (λ v:Bool=>.p (eB v)) ?_;refine nx 5 Z (bd h0 λ o4 h1 h0=>?_);refine kN o4 (λ v5=>⟨[(2,.p (eB v5))],[]⟩) ?_ ?_
 ·exact iU
 refine nx 4 Z (fD [4,5] h1 Z (λ c1 h1=>?_) λ c1 h1=>?_)
 ·exact fx
 exact fx
def k9 (Og:Int):Option Bool :=(if Og=3 then some true else if Og=4 then some true else if Og=9 then some true else(kS Og).bind λ r4=>some r4 : Option Bool).bind λ t6=>some t6
theorem qM (Og:Int)(r:Bool)(h0:k9 Og=some r):aK Tryz.prog 175 [eI Og] (·=.p (eB r)):=by
 unfold k9 at h0;refine bV good Tryz.func175 Z Z Z λ w0=>mP (λ v:Bool=>.p (eB v)) ?_;refine nx 5 Z (bd h0 λ o8 h1 h0=>?_);refine kN o8 (λ v9=>⟨[(2,.p (eB v9))],[]⟩) ?_ ?_
 ·exact iU
 refine nx 4 Z (fD [4,5] h1 Z (λ c1 h1=>?_) λ c1 h1=>?_)
 ·exact nx 13 Z ja
 refine nx 4 Z (fD [7,8,9] h1 Z (λ c2 h1=>?_) λ c2 h1=>?_)
 ·exact nx 9 Z ja
 refine nx 4 Z (fD [11,12,13] h1 Z (λ c3 h1=>?_) λ c3 h1=>?_)
 ·exact fx
 refine nx 1 Z (bd h1 λ r4 e5 h1=>?_);refine oK (ot Og _ e5) Z ⟨sr,trivial⟩ Tryz.call198 Z (nx 3 Z ?_);exact ip
def lc (NW:ag):Option Bool :=if NW.Ar=6 then(if NW.fOp=1 then some true else some (decide (NW.fOp=2)) : Option Bool).bind λ t3=>some t3 else if NW.Ar=7 then(if 3<=NW.fOp then some (decide (NW.fOp<=15))else some false : Option Bool).bind λ t6=>some t6 else some (decide (NW.fOp=0))
theorem tj (NW:ag)(r:Bool)(h0:lc NW=some r):aK Tryz.prog 197 [.agg (ag.cs NW)] (·=.p (eB r)):=by
 unfold lc at h0;refine bV good Tryz.func197 Z Z Z λ w0=>mP (λ v:Bool=>.p (eB v)) ?_;refine nx 17 Z (fD [5,6] h0 Z (λ c1 h0=>?_) λ c1 h0=>?_)
 ·refine nx 2 Z (bd h0 λ o9 h1 h0=>?_);refine kN o9 (λ Uw=>⟨[(2,.p (eB Uw))],[]⟩) ?_ ?_
  ·exact iU
  refine nx 5 Z (fD [9,10] h1 Z (λ c2 h1=>?_) λ c2 h1=>?_)
  ·exact jR
  exact jR
 refine nx 6 Z (fD [15,16] h0 Z (λ c4 h0=>?_) λ c4 h0=>?_)
 ·refine nx 2 Z (bd h0 λ o11 h1 h0=>?_);refine kN o11 (λ v12=>⟨[(2,.p (eB v12))],[]⟩) ?_ ?_
  ·exact iU
  refine nx 5 Z (fD [19,20] h1 Z (λ c5 h1=>?_) λ c5 h1=>?_)
  ·exact jR
  exact jR
 exact nx 10 Z (mQ (oi h0) Z (sr))
def kK (NX:aw):Option Bool :=(if NX.Ar=0 then if NX.It=0 then if NX.IS=([]:Bk) then ck (inR ((NX.H'.length:Int)+(NX.E'.length:Int)))<|some (decide ((NX.H'.length:Int)+(NX.E'.length:Int)=0))else some false else some false else some false : Option Bool).bind λ t5=>some t5
theorem lZ (NX:aw)(r:Bool)(h0:kK NX=some r):aK Tryz.prog 199 [.agg (aw.cs NX)] (·=.p (eB r)):=by
 unfold kK at h0;refine bV good Tryz.func199 Z Z Z λ w0=>mP (λ v:Bool=>.p (eB v)) ?_;refine nx 6 Z (bd h0 λ o7 h1 h0=>?_);refine kN o7 (λ v8=>⟨[(2,.p (eB v8))],[]⟩) ?_ ?_
 ·exact iU
 refine nx 5 Z (fD [5,6] h1 Z (λ c1 h1=>?_) λ c1 h1=>?_)
 ·refine nx 5 Z (fD [9,10,11] h1 Z (λ c2 h1=>?_) λ c2 h1=>?_)
  ·refine nx 2 Z (oS Z Z ?_);refine nx 2 Z (fD [14,15,16] h1 Z (λ c3 h1=>?_) λ c3 h1=>?_)
   ·refine nx 2 Z (oLl (f:=bw) Z Z ?_);refine nx 2 Z (oLl (f:=eS) Z Z ?_);exact oA h1 Z Z λ Rq h1=>nx 4 Z ja
   exact ru
  exact vO
 exact A4
def qc (Og:Int):Option (Int×Int×Bool) :=(if Og=1 then some true else some (decide (Og=3)) : Option Bool).bind λ t2=>if t2=true then some (0,0,false)else(if Og=4 then some true else some (decide (Og=6)) : Option Bool).bind λ t5=>if t5=true then some (1,1,false)else(if Og=5 then some true else some (decide (Og=7)) : Option Bool).bind λ t8=>if t8=true then some (2,2,false)else if Og=8 then some (3,3,false)else if Og=2 then some (1,4096,false)else if Og=12 then some (2,3,false)else if Og=13 then some (3,4,false)else if Og=11 then some (0,4096,true)else some (0,4096,false)
theorem y4 (Og:Int)(r:Int×Int×Bool)(h0:qc Og=some r):aK Tryz.prog 200 [eI Og] (·=.tuple [.p (eI r.1),.p (eI r.2.1),.p (eB r.2.2)]):=by
 unfold qc at h0;refine bV good Tryz.func200 Z Z Z λ w0=>mP (λ v:Int×Int×Bool=>.tuple [.p (eI v.1),.p (eI v.2.1),.p (eB v.2.2)]) ?_;refine nx 13 Z (bd h0 λ o18 h1 h0=>?_);refine kN o18 (λ v19=>⟨[(5,.p (eI Og)),(6,.p (eB v19))],[]⟩) ?_ ?_
 ·refine nx 1 Z (fB [6] h0 Z (λ c3 h0=>?_) λ c3 h0=>?_)
  ·exact gJ
  refine nx 2 Z (bd h0 λ Qk h1 h0=>?_);refine kN Qk (λ v21=>⟨[(5,.p (eI Og)),(9,.p (eB v21))],[]⟩) ?_ ?_
  ·refine nx 1 Z (fB [9] h0 Z (λ c6 h0=>?_) λ c6 h0=>?_)
   ·exact gJ
   refine nx 2 Z (bd h0 λ o22 h1 h0=>?_);refine kN o22 (λ v23=>⟨[(5,.p (eI Og)),(12,.p (eB v23))],[]⟩) ?_ ?_
   ·refine nx 1 Z (fB [12] h0 Z (λ c9 h0=>?_) λ c9 h0=>?_)
    ·exact gJ
    refine nx 6 Z (fD [15,16] h0 Z (λ QF h0=>?_) λ QF h0=>?_)
    ·exact gJ
    refine nx 6 Z (fD [17,18] h0 Z (λ Qq h0=>?_) λ Qq h0=>?_)
    ·exact gJ
    refine nx 6 Z (fD [19,20] h0 Z (λ RZ h0=>?_) λ RZ h0=>?_)
    ·exact gJ
    refine nx 6 Z (fD [21,22] h0 Z (λ P8 h0=>?_) λ P8 h0=>?_)
    ·exact gJ
    refine nx 6 Z (fD [23,24] h0 Z (λ Rv h0=>?_) λ Rv h0=>?_)
    ·exact gJ
    exact nx 9 Z rn
   refine nx 5 Z (fD [12,13] h1 Z (λ c7 h1=>?_) λ c7 h1=>?_)
   ·exact cZ
   exact fx
  refine nx 5 Z (fD [9,10] h1 Z (λ c4 h1=>?_) λ c4 h1=>?_)
  ·exact cZ
  exact fx
 refine nx 5 Z (fD [6,7] h1 Z (λ c1 h1=>?_) λ c1 h1=>?_)
 ·exact cZ
 exact fx
def lC (NW:ag):Option Bool :=(if NW.Ar<1 then some true else if 13<NW.Ar then some true else(lc NW).bind λ r3=>some (!r3) : Option Bool).bind λ t5=>if t5=true then some false else((k9 NW.Ar).bind λ r7=>if (!r7)=true then if NW.AT=([]:Bk) then(kS NW.Ar).bind λ PM=>if (!PM)=true then if NW.I'=([]:Bk) then if NW.Ar=1 then some false else(kK NW.B').bind λ Pq=>some (!Pq)else some true else if NW.Ar=1 then some false else(kK NW.B').bind λ UD=>some (!UD)else some true else(kS NW.Ar).bind λ N9=>if (!N9)=true then if NW.I'=([]:Bk) then if NW.Ar=1 then some false else(kK NW.B').bind λ P5=>some (!P5)else some true else if NW.Ar=1 then some false else(kK NW.B').bind λ Q5=>some (!Q5) : Option Bool).bind λ t31=>if t31=true then some false else(qc NW.Ar).bind λ Uo=>(if (NW.If.length:Int)<Uo.1 then some true else if Uo.2.1<(NW.If.length:Int) then if Uo.2.1<4096 then some true else if Uo.2.2=true then ck ((2:Int)≠0)<|some (decide ((NW.If.length:Int).tmod 2=1))else some false else if Uo.2.2=true then ck ((2:Int)≠0)<|some (decide ((NW.If.length:Int).tmod 2=1))else some false : Option Bool).bind λ t42=>if t42=true then some false else if NW.Ar=1 then(if 0<=NW.B'.Ar then if NW.B'.Ar<=3 then if NW.B'.Ar=2 then some (decide (0<=NW.B'.It))else some true else some false else some false : Option Bool).bind λ t48=>some t48 else some true
theorem ww (NW:ag)(r:Bool)(h0:lC NW=some r):aK Tryz.prog 173 [.agg (ag.cs NW)] (·=.p (eB r)):=by
 unfold lC at h0;refine bV good Tryz.func173 Z Z Z λ w0=>mP (λ v:Bool=>.p (eB v)) ?_;refine nx 7 Z (bd h0 λ Rj h1 h0=>?_);refine kN Rj (λ Tz=>⟨[(1,.ptr 1 0),(19,.p (eB Tz))],[(1,(ag.cs NW).map .p)]⟩) ?_ ?_
 ·refine nx 1 Z (fB [19] h0 Z (λ c6 h0=>?_) λ c6 h0=>?_)
  ·exact ez
  refine nx 4 Z (bd h0 λ o55 h1 h0=>?_);refine kN o55 (λ v56=>⟨[(1,.ptr 1 0),(50,.p (eB v56))],[(1,(ag.cs NW).map .p)]⟩) ?_ ?_
  ·refine nx 1 Z (fB [50] h0 Z (λ Vr h0=>?_) λ Vr h0=>?_)
   ·exact ez
   refine nx 6 Z (bd h0 λ Uo e34 h0=>?_);refine oK (y4 NW.Ar _ e34) Z ⟨sr,trivial⟩ Tryz.call200 Z (nx 10 Z ?_);refine bd h0 λ o57 h1 h0=>kN o57 (λ v58=>⟨[(1,.ptr 1 0),(83,.p (eB v58))],[(1,(ag.cs NW).map .p)]⟩) ?_ ?_
   ·refine nx 1 Z (fB [83] h0 Z (λ c43 h0=>?_) λ c43 h0=>?_)
    ·exact ez
    refine nx 9 Z (fN [86] h0 Z (λ Tp h0=>?_) λ Tp h0=>?_)
    ·refine nx 10 Z (bd h0 λ o59 h1 h0=>?_);refine kN o59 (λ v60=>⟨[(2,.p (eB v60))],[]⟩) ?_ ?_
     ·exact iU
     refine nx 5 Z (fD [91,92] h1 Z (λ Vl h1=>?_) λ Vl h1=>?_)
     ·refine nx 5 Z (fD [95,96,97] h1 Z (λ c46 h1=>?_) λ c46 h1=>?_)
      ·refine nx 4 Z (fN [100,101] h1 Z (λ Uj h1=>?_) λ Uj h1=>?_)
       ·exact mq
       exact mq
      exact ru
     exact vO
    exact ez
   refine nx 3 Z (oLl (f:=av) Z Z ?_);refine nx 3 Z (fD [62,63] h1 Z (λ Vo h1=>?_) λ Vo h1=>?_)
   ·exact A4
   refine nx 2 Z (oLl (f:=av) Z Z ?_);refine nx 3 Z (fD [68,69] h1 Z (λ Tq h1=>?_) λ Tq h1=>?_)
   ·refine nx 5 Z (fD [71,72,73,74] h1 Z (λ c37 h1=>?_) λ c37 h1=>?_)
    ·exact rq
    refine nx 2 Z (fB [5,57,75,76] h1 Z (λ Uk h1=>?_) λ Uk h1=>?_)
    ·refine nx 2 Z (oLl (f:=av) Z Z ?_);refine cc' h1 λ UX h1=>mO Z (LG Z Z Z Z Z Z UX ?_);exact i8
    exact sS
   refine nx 7 Z (fB [5,57,75,76] h1 Z (λ RD h1=>?_) λ RD h1=>?_)
   ·refine nx 2 Z (oLl (f:=av) Z Z ?_);refine cc' h1 λ QK h1=>mO Z (LG Z Z Z Z Z Z QK ?_);exact i8
   exact sS
  refine nx 3 Z (bd h1 λ r7 e8 h1=>?_);refine oK (qM NW.Ar _ e8) Z ⟨sr,trivial⟩ Tryz.call175 Z (nx 2 Z ?_);refine fB [23,24] h1 Z (λ c9 h1=>?_) λ c9 h1=>?_
  ·refine nx 2 Z (oS Z Z ?_);refine nx 2 Z (fN [27,28,29] h1 Z (λ QF h1=>?_) λ QF h1=>?_)
   ·refine nx 2 Z (bd h1 λ PM QN h1=>?_);refine oK (ot NW.Ar _ QN) Z ⟨sr,trivial⟩ Tryz.call198 Z (nx 2 Z ?_);refine fB [33,34] h1 Z (λ P8 h1=>?_) λ P8 h1=>?_
    ·refine nx 2 Z (oS Z Z ?_);refine nx 3 Z (fN [37,38,39,40] h1 Z (λ Rv h1=>?_) λ Rv h1=>?_)
     ·refine nx 4 Z (fN [43,44] h1 Z (λ QQ h1=>?_) λ QQ h1=>?_)
      ·exact mq
      refine nx 2 Z (bd h1 λ Pq Rh h1=>?_);refine oK (lZ NW.B' _ Rh) Z ⟨sr,trivial⟩ Tryz.call199 Z (nx 4 Z ?_);exact ip
     exact ru
    refine nx 10 Z (fN [43,44] h1 Z (λ RY h1=>?_) λ RY h1=>?_)
    ·exact mq
    refine nx 2 Z (bd h1 λ UD e20 h1=>?_);refine oK (lZ NW.B' _ e20) Z ⟨sr,trivial⟩ Tryz.call199 Z (nx 4 Z ?_);exact ip
   exact nx 22 Z ja
  refine nx 7 Z (bd h1 λ N9 RU h1=>?_);refine oK (ot NW.Ar _ RU) Z ⟨sr,trivial⟩ Tryz.call198 Z (nx 2 Z ?_);refine fB [33,34] h1 Z (λ P3 h1=>?_) λ P3 h1=>?_
  ·refine nx 2 Z (oS Z Z ?_);refine nx 3 Z (fN [37,38,39,40] h1 Z (λ Ru h1=>?_) λ Ru h1=>?_)
   ·refine nx 4 Z (fN [43,44] h1 Z (λ QD h1=>?_) λ QD h1=>?_)
    ·exact mq
    refine nx 2 Z (bd h1 λ P5 Vf h1=>?_);refine oK (lZ NW.B' _ Vf) Z ⟨sr,trivial⟩ Tryz.call199 Z (nx 4 Z ?_);exact ip
   exact ru
  refine nx 10 Z (fN [43,44] h1 Z (λ Ul h1=>?_) λ Ul h1=>?_)
  ·exact mq
  refine nx 2 Z (bd h1 λ Q5 Ug h1=>?_);refine oK (lZ NW.B' _ Ug) Z ⟨sr,trivial⟩ Tryz.call199 Z (nx 4 Z ?_);exact ip
 refine nx 5 Z (fD [9,10] h1 Z (λ c1 h1=>?_) λ c1 h1=>?_)
 ·exact rq
 refine nx 5 Z (fD [13,14,15] h1 Z (λ c2 h1=>?_) λ c2 h1=>?_)
 ·exact fx
 refine nx 1 Z (bd h1 λ r3 e4 h1=>?_);refine oK (tj NW _ e4) Z ⟨sr,trivial⟩ Tryz.call197 Z (nx 3 Z ?_);exact ip
def dJ (NN:Bk):Nat->Int->Option (Unit⊕Bool)|0,_=>none|m+1,OF=>if OF<(NN.length:Int) then ck ((0:Int)<=OF/\OF<(NN.length:Int))<|(ck ((0:Int)<=OF/\OF<(NN.length:Int))<|if byt NN OF=95 then some false else if iOr .u8 (byt NN OF) 32<97 then if OF=0 then some true else ck ((0:Int)<=OF/\OF<(NN.length:Int))<|if byt NN OF<48 then some true else ck ((0:Int)<=OF/\OF<(NN.length:Int))<|some (decide (57<byt NN OF))else if 122<iOr .u8 (byt NN OF) 32 then if OF=0 then some true else ck ((0:Int)<=OF/\OF<(NN.length:Int))<|if byt NN OF<48 then some true else ck ((0:Int)<=OF/\OF<(NN.length:Int))<|some (decide (57<byt NN OF))else some false : Option Bool).bind λ t34=>if t34=true then some (.inr false)else ck (inR (OF+1))<|dJ NN m (OF+1)else some (.inl ())
def gM (n:Nat)(NN:Bk):Option Bool :=jn (dJ NN n 0) λ _UI=>(if NN=([]:Bk) then some false else some (decide ((NN.length:Int)<=64)) : Option Bool).bind λ Pi=>some Pi
theorem ml (n:Nat)(NN:Bk)(r:Bool)(h0:gM n NN=some r):aK Tryz.prog 176 [eS NN] (·=.p (eB r)):=by
 unfold gM at h0;refine bV good Tryz.func176 Z Z Z λ w0=>mP (λ v:Bool=>.p (eB v)) ?_;refine nx 8 rfl (oLs rfl ?_);refine nx 3 rfl ?_;obtain ⟨S0,h1,Ou,hR0⟩:=cw h0;refine kEx 0 (λ Si:Unit=>S0=.inl Si) (λ Si=>⟨[(0,.p (eS NN))],[]⟩) (λ Si hv=>?_) ?_
 ·have h0:=Ou _ hv;refine nx 2 Z (bd h0 λ Sy h1 h0=>?_);refine kN Sy (λ v46=>⟨[(2,.p (eB v46))],[]⟩) ?_ ?_
  ·exact iU
  refine nx 2 Z (oS Z Z ?_);refine nx 1 Z (fN [44,45] h1 Z (λ Uk h1=>?_) λ Uk h1=>?_)
  ·exact jR
  refine nx 1 Z (oLs Z ?_);exact i8
 refine lG (λ (PQ:Int)=>⟨[(0,.p (eS NN)),(6,.p (eI (NN.length:Int))),(7,.p (eI PQ))],[]⟩) (λ m (PQ:Int)=>dJ NN m PQ) Y 0 h1 (gE rfl rfl) ?_;rintro m OF h1;replace h1:dJ NN (m+1) OF=some S0:=h1;rw [dJ] at h1;refine nx 5 rfl (fD [8] h1 rfl (λ c20 h1=>?_) λ c20 h1=>?_)
 ·refine nx 13 Z (oI h1 Z λ PY h1=>?_);refine nx 4 Z (bd h1 λ TM h2 h1=>?_);refine kN TM (λ RG=>⟨[(0,.p (eS NN)),(6,.p (eI (NN.length:Int))),(7,.p (eI OF)),(41,.p (eB RG))],[]⟩) ?_ ?_
  ·refine nx 1 Z (fB [41] h1 Z (λ Vo h1=>?_) λ Vo h1=>?_)
   ·exact kV
   exact H8
  refine nx 3 Z (oI h2 Z λ Pw h2=>?_);refine nx 2 Z (fN [17,18] h2 Z (λ P3 h2=>?_) λ P3 h2=>?_)
  ·exact nx 24 Z pu
  refine nx 3 Z (fD [20,21] h2 Z (λ Ru h2=>?_) λ Ru h2=>?_)
  ·refine nx 8 Z (fD [28,29] h2 Z (λ QD h2=>?_) λ QD h2=>?_)
   ·exact nx 13 Z pu
   refine nx 2 Z (oI h2 Z λ PH h2=>?_);refine nx 3 Z (fD [33,34,35] h2 Z (λ QP h2=>?_) λ QP h2=>?_)
   ·exact yk
   refine nx 2 Z (oI h2 Z λ SI h2=>?_);exact pI
  exact Iv
 exact cH
def f0 (NN:Bk):Option Bool :=(if NN=([110,117,108,108]:Bk) then some true else if NN=([116,114,117,101]:Bk) then some true else if NN=([102,97,108,115,101]:Bk) then some true else if NN=([102,111,114]:Bk) then some true else if NN=([105,110]:Bk) then some true else some (decide (NN=([105,102]:Bk))) : Option Bool).bind λ t6=>if t6=true then some true else some false
theorem jl (NN:Bk)(r:Bool)(h0:f0 NN=some r):aK Tryz.prog 177 [eS NN] (·=.p (eB r)):=by
 unfold f0 at h0;refine bV good Tryz.func177 Z Z Z λ w0=>mP (λ v:Bool=>.p (eB v)) ?_;refine nx 11 Z (bd h0 λ o9 h1 h0=>?_);refine kN o9 (λ Uw=>⟨[(4,.p (eB Uw))],[]⟩) ?_ ?_
 ·refine nx 1 Z (fB [4] h0 Z (λ c7 h0=>?_) λ c7 h0=>?_)
  ·exact ez
  exact oM
 refine nx 2 Z (oS Z Z ?_);refine nx 2 Z (fD [4,5] h1 Z (λ c1 h1=>?_) λ c1 h1=>?_)
 ·exact cZ
 refine nx 3 Z (oS Z Z ?_);refine nx 2 Z (fD [4,6] h1 Z (λ c2 h1=>?_) λ c2 h1=>?_)
 ·exact cZ
 refine nx 3 Z (oS Z Z ?_);refine nx 2 Z (fD [4,7] h1 Z (λ c3 h1=>?_) λ c3 h1=>?_)
 ·exact cZ
 refine nx 3 Z (oS Z Z ?_);refine nx 2 Z (fD [4,8] h1 Z (λ c4 h1=>?_) λ c4 h1=>?_)
 ·exact cZ
 refine nx 3 Z (oS Z Z ?_);refine nx 2 Z (fD [4,9] h1 Z (λ c5 h1=>?_) λ c5 h1=>?_)
 ·exact cZ
 refine nx 2 Z (oS Z Z ?_);exact cZ
def nR (n:Nat)(NW:ag):Option Int :=(lC NW).bind λ r1=>if (!r1)=true then some 1 else if NW.Ar=1 then(nb n NW.B').bind λ r5=>some r5 else((k9 NW.Ar).bind λ r7=>if r7=true then(gM n NW.AT).bind λ Ot=>if (!Ot)=true then some true else if NW.Ar=4 then some false else(f0 NW.AT).bind λ Oq=>some Oq else some false : Option Bool).bind λ O6=>if O6=true then some 7 else(if NW.I'=([]:Bk) then some false else(gM n NW.I').bind λ UD=>if (!UD)=true then some true else(f0 NW.I').bind λ PU=>some PU : Option Bool).bind λ Qu=>if Qu=true then some 7 else some 0
theorem yY (n:Nat)(NW:ag)(r:Int)(h0:nR n NW=some r):aK Tryz.prog 149 [.agg (ag.cs NW)] (·=.p (eI r)):=by
 unfold nR at h0;refine bV good Tryz.func149 Z Z Z λ w0=>mP (λ v:Int=>.p (eI v)) ?_;refine nx 9 Z (bd h0 λ r1 e2 h0=>?_);refine oK (ww NW _ e2) Z ⟨sr,trivial⟩ Tryz.call173 Z (nx 2 Z ?_);refine fB [5] h0 Z (λ c3 h0=>?_) λ c3 h0=>?_
 ·exact ez
 refine nx 9 Z (fD [8] h0 Z (λ c4 h0=>?_) λ c4 h0=>?_)
 ·refine nx 5 Z (bd h0 λ r5 e6 h0=>?_);refine oK (vJ _ NW.B' _ e6) Z ⟨sr,trivial⟩ Tryz.call174 Z (nx 3 Z ?_);exact oG
 refine nx 4 Z (bd h0 λ Uq h1 h0=>?_);refine kN Uq (λ TR=>⟨[(1,.ptr 1 0),(30,.p (eB TR))],[(1,(ag.cs NW).map .p)]⟩) ?_ ?_
 ·refine nx 1 Z (fB [30] h0 Z (λ Oo h0=>?_) λ Oo h0=>?_)
  ·exact ez
  refine nx 4 Z (bd h0 λ SB h1 h0=>?_);refine kN SB (λ QT=>⟨[(44,.p (eB QT))],[]⟩) ?_ ?_
  ·refine nx 1 Z (fB [44] h0 Z (λ QD h0=>?_) λ QD h0=>?_)
   ·exact ez
   exact oM
  refine nx 3 Z (oS Z Z ?_);refine nx 1 Z (fN [33,34] h1 Z (λ RY h1=>?_) λ RY h1=>?_)
  ·exact ru
  refine nx 2 Z (bd h1 λ UD e20 h1=>?_);refine oK (ml _ NW.I' _ e20) Z ⟨sr,trivial⟩ Tryz.call176 Z (nx 2 Z ?_);refine fB [38,39] h1 Z (λ c21 h1=>?_) λ c21 h1=>?_
  ·exact jR
  refine nx 2 Z (bd h1 λ PU To h1=>?_);refine oK (jl NW.I' _ To) Z ⟨sr,trivial⟩ Tryz.call177 Z (nx 3 Z ?_);exact ip
 refine nx 3 Z (bd h1 λ r7 e8 h1=>?_);refine oK (qM NW.Ar _ e8) Z ⟨sr,trivial⟩ Tryz.call175 Z (nx 1 Z ?_);refine fB [14,15] h1 Z (λ c9 h1=>?_) λ c9 h1=>?_
 ·refine nx 2 Z (bd h1 λ Ot Qe h1=>?_);refine oK (ml _ NW.AT _ Qe) Z ⟨sr,trivial⟩ Tryz.call176 Z (nx 2 Z ?_);refine fB [19,20] h1 Z (λ RZ h1=>?_) λ RZ h1=>?_
  ·exact ru
  refine nx 4 Z (fN [23,24] h1 Z (λ P8 h1=>?_) λ P8 h1=>?_)
  ·exact mq
  refine nx 2 Z (bd h1 λ Oq RX h1=>?_);refine oK (jl NW.AT _ RX) Z ⟨sr,trivial⟩ Tryz.call177 Z (nx 4 Z ?_);exact ip
 exact vO
def cm (OM:ct->ag->Int->Option (Int×ct))(e_1:ag)(Oj:Int):Nat->Int->Int->Option (Int⊕(Int×ct))|0,_,_=>none|m+1,O6,Re=>if O6<(e_1.If.length:Int) then ck ((0:Int)<=O6/\O6<(e_1.If.length:Int))<|ck (inR (Oj+1))<|(OM (ct.mk Re) (lat e_1.If O6) (Oj+1)).bind λ N9=>if N9.1=0 then ck (inR (O6+1))<|cm OM e_1 Oj m (O6+1) N9.2.fcount else some (.inr (N9.1,N9.2))else some (.inl Re)
def cx:Nat->ct->ag->Int->Option (Int×ct)|0,_,_,_=>none|n+1,Sd,e_1,Oj=>if 32<Oj then some (4,Sd)else if 4096<=Sd.fcount then some (14,Sd)else ck (inR (Sd.fcount+1))<|(nR n e_1).bind λ r4=>if r4=0 then jn (cm (cx n) e_1 Oj n 0 (Sd.fcount+1)) λ f27=>some (0,(ct.mk f27))else some (r4,(ct.mk (Sd.fcount+1)))
theorem pg (n:Nat):∀ (Sd:ct) (e_1:ag) (Oj:Int) (r:Int×ct),cx n Sd e_1 Oj=some r->aS Tryz.prog 128 [.ptr 1000000 0,.p (.agg (ag.cs e_1)),.p (eI Oj)] [(1000000,[.p (eI Sd.fcount)])] (λ x y=>x=.p (eI r.1)/\y=[(1000000,[.p (eI r.2.fcount)])]):=by
 induction n with
 | zero=>intro Sd e_1 Oj r h0; cases h0
 | succ n ih=>
 have O3:=ih;intro Sd e_1 Oj r h0;rw [cx] at h0;refine bT good [] [1000000] Tryz.func128 Z Z Z Z Z λ w0 F=>mPo (λ v:Int×ct=>.p (eI v.1)) (λ v=>[(1000000,[.p (eI v.2.fcount)])]) ?_;refine nx 11 Z (fD [12] h0 Z (λ c1 h0=>?_) λ c1 h0=>?_)
 ·exact nx 6 Z (qD h0 Z)
 refine nx 11 Z (fD [17] h0 Z (λ c2 h0=>?_) λ c2 h0=>?_)
 ·exact nx 6 Z (qD h0 Z)
 refine nx 8 Z (oA h0 Z Z λ QY h0=>?_);refine nx 8 Z (bd h0 λ r4 e5 h0=>?_);refine oK (yY _ e_1 _ e5) Z ⟨sr,trivial⟩ Tryz.call149 Z (nx 7 Z ?_);refine fN [28] h0 Z (λ c6 h0=>?_) λ c6 h0=>?_
 ·refine nx 7 rfl (oLl (f:=av) Z Z ?_);refine nx 3 rfl ?_;obtain ⟨QB,h1,Ou,hR0⟩:=cw h0;refine kEx 0 (λ PS:Int=>QB=.inl PS) (λ PS=>⟨[],[(1000000,[.p (eI PS)])]⟩) (λ PS hv=>?_) ?_
  ·have h0:=Ou _ hv;exact nx 6 Z (qD h0 Z)
  refine lG (λ (Qr:Int×Int)=>⟨[(0,.ptr 1000000 0),(2,.p (eI Oj)),(31,.p (eL av e_1.If)),(32,.p (eI (e_1.If.length:Int))),(33,.p (eI Qr.1))],[(1000000,[.p (eI Qr.2)])]⟩) (λ m (Qr:Int×Int)=>cm (cx n) e_1 Oj m Qr.1 Qr.2) Y (0,Sd.fcount+1) h1 (gE rfl rfl) ?_;rintro m ⟨O6,Re⟩ h1;replace h1:cm (cx n) e_1 Oj (m+1) O6 Re=some QB:=h1;rw [cm] at h1;refine nx 5 rfl (fD [34] h1 rfl (λ RY h1=>?_) λ RY h1=>?_)
  ·refine nx 6 Z (oE h1 ag.F' Z Z Y λ QC h1=>?_);refine nx 9 Z (oA h1 Z Z λ PO h1=>?_);refine bd h1 λ N9 RU h1=>mO Z (cVq [1000000] [] 102000 102000 (O3 (ct.mk Re) (lat e_1.If O6) (Oj+1) _ RU) Tryz.call128 Z ?_);refine nx 7 Z (fN [43] h1 Z (λ P3 h1=>?_) λ P3 h1=>?_)
   ·refine nx 3 Z (oA h1 Z Z λ P7 h1=>?_);exact nx 2 Z (eX (O6+1,N9.2.fcount) h1 (gE Z Z))
   exact nx 7 Z (mQo (hR0 _ (oi h1).symm) (aJ _) Z Z Z Z (sr) ⟨⟨_,Z,⟨sr,trivial⟩⟩,trivial⟩)
  exact cH
 exact pD
def gX (n:Nat)(NW:ag):Option Int :=(cx n (ct.mk 0) NW 1).bind λ r1=>some r1.1
theorem qR (n:Nat)(NW:ag)(r:Int)(h0:gX n NW=some r):aK Tryz.prog 102 [.agg (ag.cs NW)] (·=.p (eI r)):=by
 unfold gX at h0;refine bV good Tryz.func102 Z Z Z λ w0=>mP (λ v:Int=>.p (eI v)) ?_;refine nx 15 Z (bd h0 λ r1 e2 h0=>?_);refine mO Z (cVq [5] [] 101000 101000 (pg _ (ct.mk 0) NW 1 _ e2) Tryz.call128 Z ?_);exact nz
def dm (NL:af):Nat->Int->Option Int|0,_=>none|m+1,f7=>(if 0<NL.G' then ck ((0:Int)<=f7/\f7<(NL.fl.length:Int))<|some (decide ((lat NL.fl f7).Ar=5))else some false : Option Bool).bind λ t10=>if t10=true then ck (inR (f7+1))<|dm NL m (f7+1)else some f7
def bR (n:Nat)(NL:af):Option (ac×af) :=(dm NL n NL.fat).bind λ RA=>ck ((0:Int)<=RA/\RA<(NL.fl.length:Int))<|ck (inR (((lat NL.fl RA).fAt)+NL.Gw))<|some ((ac.mk ((lat NL.fl RA).Ar) ((lat NL.fl RA).BY) (((lat NL.fl RA).fAt)+NL.Gw)),(af.mk NL.fl RA NL.G' NL.Gw NL.AI))
theorem eY (n:Nat)(NL:af)(r:ac×af)(h0:bR n NL=some r):aS Tryz.prog 188 [.ptr 1000000 0] [(1000000,((af.cs NL).map .p))] (λ x y=>x=.p (.agg (ac.cs r.1))/\y=[(1000000,((af.cs r.2).map .p))]):=by
 unfold bR at h0;refine bT good [] [1000000] Tryz.func188 Z Z Z Z Z λ w0 F=>mPo (λ v:ac×af=>.p (.agg (ac.cs v.1))) (λ v=>[(1000000,((af.cs v.2).map .p))]) ?_;refine nx 6 Z (bd h0 λ Ql h1 h0=>?_);refine kE 0 Ql (λ v20=>⟨[(0,.ptr 1000000 0),(2,.ptr 2 0)],[(2,ki),(1000000,[.p (eL az NL.fl),.p (eI v20),.p (eI NL.G'),.p (eI NL.Gw),.p (eI NL.AI.Ar),.p (eI NL.AI.fAt),.p (eS NL.AI.AT)])]⟩) ?_ ?_
 ·refine nx 2 Z (cc' h0 λ Qo h0=>?_);refine mG (gE (t:=⟨[(0,.ptr 1000000 0),(2,.ptr 2 0)],[(2,ki),(1000000,[.p (eL az NL.fl),.p (eI Ql),.p (eI NL.G'),.p (eI NL.Gw),.p (eI NL.AI.Ar),.p (eI NL.AI.fAt),.p (eS NL.AI.AT)])]⟩) Z Z) (mSq ⟨2,[10,11],(by3 (.some λ i=>Nat.beq i 3) .none .none),(λ _=>[(0,.ptr 1000000 0),(2,.ptr 2 0)]),(ob3 ([(2,ki),(1000000,[.p (eL az NL.fl),.p (eI Ql),.p (eI NL.G'),.p (eI NL.Gw),.p (eI NL.AI.Ar),.p (eI NL.AI.fAt),.p (eS NL.AI.AT)])]) (3,ki) (3,[.p (eI ((lat NL.fl Ql).Ar)),.p (eS ((lat NL.fl Ql).BY)),.p (eI ((lat NL.fl Ql).fAt))]))⟩ Z ?_);refine dPc (.ptr 1000000 0) Z (dPc (.ptr 1000000 0) Z ?_);refine dPc (.ptr 1000000 0) Z (dPc (.p (eL az NL.fl)) Z ?_);refine dPc (.ptr 1000000 0) Z (dPc (.ptr 1000000 0) Z ?_);refine dPc (.ptr 1000000 1) Z (dPc (.p (eI Ql)) Z ?_);refine ar (λ _=>.rptr (ac.cs (lat NL.fl Ql))) Z Z Z (cM Z Z Y) (lt2 Z Z) (ak Z (ai [(33,_),(37,_)] ⟨.inr ⟨3,_,Z,Z,Z⟩,.inr ⟨7,_,Z,Z,Z⟩,trivial⟩ (λ sl NI K hK=>ah Z (nV (f:=az) (l:=NL.fl) ac.cs Z Z Z Z Z Z (NI _ _ Z) Z (NI _ _ Z) Qo ac.F' Y hK)) (ai [(33,_),(37,_)] ⟨.inr ⟨3,_,Z,Z,Z⟩,.inr ⟨7,_,Z,Z,Z⟩,trivial⟩ (λ sl NI K hK=>ah Z (nV (f:=az) (l:=NL.fl) ac.cs Z Z Z Z Z Z (NI _ _ Z) Z (NI _ _ Z) Qo ac.F' Y hK)) ap))) (dPc (.p (.agg (ac.cs (lat NL.fl Ql)))) Z ?_);refine dB (λ _=>.ptr 3 0) [] Z trivial Z Z (dG Z Y) (lt2 (λ h=>absurd h (by decide)) Y) (λ sl NI K hK=>ah Z (fP Z Z Z Z Z hK)) (dS Z ?_);refine cV (nx 2 Z ?_);refine cc' h0 λ RR h0=>mG (gE (t:=⟨[(0,.ptr 1000000 0),(2,.ptr 2 0),(3,.ptr 3 0)],[(2,ki),(3,(ac.cs (lat NL.fl Ql)).map .p),(1000000,[.p (eL az NL.fl),.p (eI Ql),.p (eI NL.G'),.p (eI NL.Gw),.p (eI NL.AI.Ar),.p (eI NL.AI.fAt),.p (eS NL.AI.AT)])]⟩) Z Z) (mSq ⟨1,[8],(λ _=>.none),(λ _=>[(0,.ptr 1000000 0),(2,.ptr 2 0),(3,.ptr 3 0)]),(ob2 ([(2,ki),(3,[.p (eI ((lat NL.fl Ql).Ar)),.p (eS ((lat NL.fl Ql).BY)),.p (eI ((lat NL.fl Ql).fAt))]),(1000000,[.p (eL az NL.fl),.p (eI Ql),.p (eI NL.G'),.p (eI NL.Gw),.p (eI NL.AI.Ar),.p (eI NL.AI.fAt),.p (eS NL.AI.AT)])]) (3,[.p (eI ((lat NL.fl Ql).Ar)),.p (eS ((lat NL.fl Ql).BY)),.p (eI (((lat NL.fl Ql).fAt)+NL.Gw))]))⟩ Z ?_);refine dPc (.ptr 3 2) Z (dPc (.p (eI ((lat NL.fl Ql).fAt))) Z ?_);refine dPc (.ptr 1000000 0) Z (dPc (.ptr 1000000 0) Z ?_);refine dPc (.ptr 1000000 3) Z (dPc (.p (eI NL.Gw)) Z ?_);refine ar (λ _=>.p (eI (((lat NL.fl Ql).fAt)+NL.Gw))) Z Z Z (dG Z Y) (lt1 Z) (ak Z (ai [(41,_),(45,_)] ⟨.inr ⟨1,_,Z,Z,Z⟩,.inr ⟨5,_,Z,Z,Z⟩,trivial⟩ (λ sl NI K hK=>ah Z (fK Z Z Z (NI _ _ Z) (NI _ _ Z) Z RR hK)) ap)) (dPc (.ptr 3 2) Z ?_);refine dS Z (cV ?_);exact pD
 refine lG (λ (q21:Int)=>⟨[(0,.ptr 1000000 0),(2,.ptr 2 0)],[(2,ki),(1000000,[.p (eL az NL.fl),.p (eI q21),.p (eI NL.G'),.p (eI NL.Gw),.p (eI NL.AI.Ar),.p (eI NL.AI.fAt),.p (eS NL.AI.AT)])]⟩) (λ m (q21:Int)=>dm NL m q21) Y NL.fat h1 (gE rfl rfl) ?_;rintro m f7 h1;replace h1:dm NL (m+1) f7=some Ql:=h1;rw [dm] at h1;refine nx 2 rfl (bd h1 λ o22 h2 h1=>?_);refine kN o22 (λ v23=>⟨[(0,.ptr 1000000 0),(2,.ptr 2 0),(22,.p (eB v23))],[(2,ki),(1000000,[.p (eL az NL.fl),.p (eI f7),.p (eI NL.G'),.p (eI NL.Gw),.p (eI NL.AI.Ar),.p (eI NL.AI.fAt),.p (eS NL.AI.AT)])]⟩) ?_ ?_
 ·refine nx 1 Z (fB [22] h1 Z (λ Qq h1=>?_) λ Qq h1=>?_)
  ·refine nx 8 Z (oA h1 Z Z λ QM h1=>?_);exact nx 4 Z (eX (f7+1) h1 (gE Z Z))
  exact cH
 refine fD (p:=0<NL.G') [] h2 Z (λ c8 h2=>?_) λ c8 h2=>?_
 ·refine cc' h2 λ Rk h2=>mD [(0,.ptr 1000000 0),(2,.ptr 2 0)] Z ⟨Z,Z,trivial⟩ Z (dR 4 Z ?_);refine dL (dt c8) Z (dR 9 Z ?_);refine dq (.rptr (ac.cs (lat NL.fl f7))) [9,13,17] Z (λ _ e _ q=>fE (nV (f:=az) (l:=NL.fl) ac.cs Z Z Z Z Z Z (e _ _ Z) Z (e _ _ Z) Rk ac.F' Y q) Z Z (e _ _ Z) (rfl)) Z (dR 4 Z ?_);refine dE Z (nx 1 Z ?_);exact pP
 refine mD [(0,.ptr 1000000 0),(2,.ptr 2 0)] Z ⟨Z,Z,trivial⟩ Z (dR 4 Z ?_);refine dL (df c8) Z (dR 14 Z ?_);refine dE Z (nx 1 Z ?_);exact pP
def aY (n:Nat)(NL:af):Option (ac×af) :=(bR n NL).bind λ r1=>(if r1.1.Ar=6 then some r1.2.fat else ck (inR (r1.2.fat+1))<|some (r1.2.fat+1) : Option Int).bind λ f5=>some (r1.1,(af.mk r1.2.fl f5 r1.2.G' r1.2.Gw r1.2.AI))
theorem bf (n:Nat)(NL:af)(r:ac×af)(h0:aY n NL=some r):aS Tryz.prog 163 [.ptr 1000000 0] [(1000000,((af.cs NL).map .p))] (λ x y=>x=.p (.agg (ac.cs r.1))/\y=[(1000000,((af.cs r.2).map .p))]):=by
 unfold aY at h0;refine bT good [] [1000000] Tryz.func163 Z Z Z Z Z λ w0 F=>mPo (λ v:ac×af=>.p (.agg (ac.cs v.1))) (λ v=>[(1000000,((af.cs v.2).map .p))]) ?_;refine nx 7 Z (bd h0 λ r1 e2 h0=>?_);refine mO Z (cVq [1000000] [] 101000 101000 (eY _ NL _ e2) Tryz.call188 Z ?_);refine nx 4 Z (bd h0 λ o7 h1 h0=>?_);refine kN o7 (λ v8=>⟨[(2,.ptr 2 0),(3,.ptr 3 0)],[(2,ki),(3,(ac.cs r1.1).map .p),(1000000,[.p (eL az r1.2.fl),.p (eI v8),.p (eI r1.2.G'),.p (eI r1.2.Gw),.p (eI r1.2.AI.Ar),.p (eI r1.2.AI.fAt),.p (eS r1.2.AI.AT)])]⟩) ?_ ?_
 ·exact pD
 refine nx 6 Z (fN [8] h1 Z (λ c3 h1=>?_) λ c3 h1=>?_)
 ·exact cZ
 refine nx 6 Z (oA h1 Z Z λ Rq h1=>?_);exact i8
def bh (NL:af):Option (Bool×af) :=some (!decide (NL.AI.Ar=0),NL)
theorem d9 (NL:af)(r:Bool×af)(h0:bh NL=some r):aS Tryz.prog 189 [.ptr 1000000 0] [(1000000,((af.cs NL).map .p))] (λ x y=>x=.p (eB r.1)/\y=[(1000000,((af.cs r.2).map .p))]):=by
 unfold bh at h0;refine bT good [] [1000000] Tryz.func189 Z Z Z Z Z λ w0 F=>mPo (λ v:Bool×af=>.p (eB v.1)) (λ v=>[(1000000,((af.cs v.2).map .p))]) ?_;exact nx 15 Z (qD h0 Z)
def bp (n:Nat)(NL:af)(s_1:Bk):Option (Bool×af) :=(bR n NL).bind λ r1=>((bh r1.2).bind λ r3=>if (!r3.1)=true then if r1.1.Ar=4 then some (decide (r1.1.BY=s_1),r3.2.fl,r3.2.fat,r3.2.G',r3.2.Gw,r3.2.AI.Ar,r3.2.AI.fAt,r3.2.AI.AT)else some (false,r3.2.fl,r3.2.fat,r3.2.G',r3.2.Gw,r3.2.AI.Ar,r3.2.AI.fAt,r3.2.AI.AT)else some (false,r3.2.fl,r3.2.fat,r3.2.G',r3.2.Gw,r3.2.AI.Ar,r3.2.AI.fAt,r3.2.AI.AT) : Option (Bool×(List ac)×Int×Int×Int×Int×Int×Bk)).bind λ Qz=>some (Qz.1,(af.mk Qz.2.1 Qz.2.2.1 Qz.2.2.2.1 Qz.2.2.2.2.1 (au.mk Qz.2.2.2.2.2.1 Qz.2.2.2.2.2.2.1 Qz.2.2.2.2.2.2.2)))
theorem bN (n:Nat)(NL:af)(s_1:Bk)(r:Bool×af)(h0:bp n NL s_1=some r):aS Tryz.prog 162 [.ptr 1000000 0,.p (eS s_1)] [(1000000,((af.cs NL).map .p))] (λ x y=>x=.p (eB r.1)/\y=[(1000000,((af.cs r.2).map .p))]):=by
 unfold bp at h0;refine bT good [] [1000000] Tryz.func162 Z Z Z Z Z λ w0 F=>mPo (λ v:Bool×af=>.p (eB v.1)) (λ v=>[(1000000,((af.cs v.2).map .p))]) ?_;exact HH
def bQ (NL:af)(k_1:Int)(at_2:Int):Option (ag×af) :=((bh NL).bind λ r1=>if (!r1.1)=true then some (r1.2.fl,r1.2.fat,r1.2.G',r1.2.Gw,k_1,at_2,([]:Bk))else some (r1.2.fl,r1.2.fat,r1.2.G',r1.2.Gw,r1.2.AI.Ar,r1.2.AI.fAt,r1.2.AI.AT) : Option ((List ac)×Int×Int×Int×Int×Int×Bk)).bind λ TT=>some ((ag.mk 0 0 ([]:Bk) ([]:Bk) (aw.mk 0 0 ([]:Bk) [] []) [] 0),(af.mk TT.1 TT.2.1 TT.2.2.1 TT.2.2.2.1 (au.mk TT.2.2.2.2.1 TT.2.2.2.2.2.1 TT.2.2.2.2.2.2)))
theorem cD (NL:af)(k_1:Int)(at_2:Int)(r:ag×af)(h0:bQ NL k_1 at_2=some r):aS Tryz.prog 190 [.ptr 1000000 0,.p (eI k_1),.p (eI at_2)] [(1000000,((af.cs NL).map .p))] (λ x y=>x=.p (.agg (ag.cs r.1))/\y=[(1000000,((af.cs r.2).map .p))]):=by
 unfold bQ at h0;refine bT good [] [1000000] Tryz.func190 Z Z Z Z Z λ w0 F=>mPo (λ v:ag×af=>.p (.agg (ag.cs v.1))) (λ v=>[(1000000,((af.cs v.2).map .p))]) ?_;refine nx 5 Z (bd h0 λ TV h1 h0=>?_);refine kN TV (λ RH=>⟨[(6,.ptr 6 0)],[(6,mN),(1000000,[.p (eL az RH.1),.p (eI RH.2.1),.p (eI RH.2.2.1),.p (eI RH.2.2.2.1),.p (eI RH.2.2.2.2.1),.p (eI RH.2.2.2.2.2.1),.p (eS RH.2.2.2.2.2.2)])]⟩) ?_ ?_
 ·exact GB
 refine nx 3 Z (bd h1 λ r1 e2 h1=>?_);refine mO Z (cVq [1000000] [] 101000 101000 (d9 NL _ e2) Tryz.call189 Z ?_);refine nx 2 Z (fB [9] h1 Z (λ c3 h1=>?_) λ c3 h1=>?_)
 ·exact rq
 exact cZ
def gQ (NX:aw)(N3:Int):Option ag :=some (ag.mk 1 0 ([]:Bk) ([]:Bk) NX [] N3)
theorem gN (NX:aw)(N3:Int)(r:ag)(h0:gQ NX N3=some r):aK Tryz.prog 229 [.agg (aw.cs NX),eI N3] (·=.p (.agg (ag.cs r))):=by
 unfold gQ at h0;refine bV good Tryz.func229 Z Z Z λ w0=>mP (λ v:ag=>.p (.agg (ag.cs v))) ?_;exact nx 13 Z (mQ (oi h0) Z (dW ⟨.inl Z,.inl Z,.inl Z,.inl Z,.inl Z,.inl Z,.inl Z,.inl Z,.inl Z,.inr ⟨Z,Z⟩,.inl Z,trivial⟩))
def gU (n:Nat)(NW:ag)(d_1:au):Option (ag×au) :=if d_1.Ar=0 then(gX n NW).bind λ r2=>if r2=0 then some (NW,(au.mk 0 0 ([]:Bk)))else some ((ag.mk 0 0 ([]:Bk) ([]:Bk) (aw.mk 0 0 ([]:Bk) [] []) [] 0),(au.mk r2 NW.fAt ([]:Bk)))else some ((ag.mk 0 0 ([]:Bk) ([]:Bk) (aw.mk 0 0 ([]:Bk) [] []) [] 0),d_1)
theorem pQ (n:Nat)(NW:ag)(d_1:au)(r:ag×au)(h0:gU n NW d_1=some r):aK Tryz.prog 138 [.agg (ag.cs NW),.agg (au.cs d_1)] (·=.tuple [.p (.agg (ag.cs r.1)),.p (.agg (au.cs r.2))]):=by
 unfold gU at h0;refine bV good Tryz.func138 Z Z Z λ w0=>mP (λ v:ag×au=>.tuple [.p (.agg (ag.cs v.1)),.p (.agg (au.cs v.2))]) ?_;refine nx 14 Z (fN [9] h0 Z (λ c1 h0=>?_) λ c1 h0=>?_)
 ·refine nx 6 Z (bd h0 λ r2 e3 h0=>?_);refine oK (qR _ NW _ e3) Z ⟨sr,trivial⟩ Tryz.call102 Z (nx 7 Z ?_);refine fN [15] h0 Z (λ c4 h0=>?_) λ c4 h0=>?_
  ·exact nx 10 Z sJ
  refine nx 2 Z (mG (gE (t:=⟨[(2,.ptr 2 0),(4,.ptr 4 0),(5,.ptr 5 0),(6,.p (eI r2))],[(2,(ag.cs NW).map .p),(4,mN),(5,gR)]⟩) Z Z) ?_);refine mSq ⟨2,[5,6],(λ _=>.none),(λ _=>[(2,.ptr 2 0),(4,.ptr 4 0),(5,.ptr 5 0),(6,.p (eI r2))]),(ob3 ([(2,((ag.cs NW).map .p)),(4,mN),(5,gR)]) (4,mN) (5,[.p (eI r2),.p (eI NW.fAt),.p (eS ([]:Bk))]))⟩ Z (dPc (.p (.agg nU)) Z ?_);refine dPc (.p (eI r2)) Z (dPc (.ptr 2 10) Z ?_);refine dPc (.p (eI NW.fAt)) Z (dPc (.p (.agg [eI r2,eI NW.fAt,eS ([]:Bk)])) Z ?_);exact JJ
 refine nx 2 Z (mG (gE (t:=⟨[(3,.ptr 3 0),(4,.ptr 4 0),(5,.ptr 5 0)],[(3,(au.cs d_1).map .p),(4,mN),(5,gR)]⟩) Z Z) ?_);refine mSq ⟨2,[2,3],(λ _=>.none),(λ _=>[(3,.ptr 3 0),(4,.ptr 4 0),(5,.ptr 5 0)]),(ob3 ([(3,((au.cs d_1).map .p)),(4,mN),(5,gR)]) (4,mN) (5,((au.cs d_1).map .p)))⟩ Z (dPc (.p (.agg nU)) Z ?_);refine dPc (.p (.agg (au.cs d_1))) Z (dS Z ?_);exact IM
def ew (NO:aA):Option (au×aA) :=if 4096<(NO.D'.length:Int) then ck (inR (NO.fat+NO.Df))<|some ((au.mk 3 (NO.fat+NO.Df) ([]:Bk)),(aA.mk NO.fs NO.fat NO.fi NO.Df NO.D' NO.C' NO.IN))else some ((au.mk 0 0 ([]:Bk)),(aA.mk NO.fs NO.fat NO.fi NO.Df NO.D' NO.C' NO.IN))
theorem kI (NO:aA)(r:au×aA)(h0:ew NO=some r):aS Tryz.prog 258 [.ptr 1000000 0] [(1000000,[.p (eS NO.fs),.p (eI NO.fat),.p (eI NO.fi),.p (eI NO.Df),.p (eS NO.D'),.vec 900000 11 0 (NO.C'.map av),.p (eB NO.IN)])] (λ x y=>x=.p (.agg (au.cs r.1))/\y=[(1000000,[.p (eS r.2.fs),.p (eI r.2.fat),.p (eI r.2.fi),.p (eI r.2.Df),.p (eS r.2.D'),.vec 2000000 11 0 (r.2.C'.map av),.p (eB r.2.IN)])]):=by
 unfold ew at h0;refine bT good [800000] [1000000] Tryz.func258 Z Z Z Z Z λ w0 F=>mPo (λ v:au×aA=>.p (.agg (au.cs v.1))) (λ v=>[(1000000,[.p (eS v.2.fs),.p (eI v.2.fat),.p (eI v.2.fi),.p (eI v.2.Df),.p (eS v.2.D'),.vec 2000000 11 0 (v.2.C'.map av),.p (eB v.2.IN)])]) ?_;refine nx 11 Z (oLs Z ?_);refine nx 2 Z (fD [8] h0 Z (λ c1 h0=>?_) λ c1 h0=>?_)
 ·refine nx 2 Z (cc' h0 λ P2 h0=>?_);refine mG JI (mSq ⟨1,[10],(λ _=>.none),(λ _=>[(0,.ptr 1000000 0),(2,.ptr 2 0)]),(ob2 ([(2,gR),(1000000,[.p (eS NO.fs),.p (eI NO.fat),.p (eI NO.fi),.p (eI NO.Df),.p (eS NO.D'),.vec 900000 11 0 (NO.C'.map av),.p (eB NO.IN)])]) (2,[.p (eI 3),.p (eI (NO.fat+NO.Df)),.p (eS ([]:Bk))]))⟩ Z ?_);refine dPc (.ptr 1000000 0) Z (dPc (.ptr 1000000 0) Z ?_);refine dPc (.ptr 1000000 1) Z (dPc (.p (eI NO.fat)) Z ?_);refine dPc (.ptr 1000000 0) Z (dPc (.ptr 1000000 0) Z ?_);refine dPc (.ptr 1000000 3) Z (dPc (.p (eI NO.Df)) Z ?_);refine ar (λ _=>.p (eI (NO.fat+NO.Df))) Z Z Z (dG Z Y) (lt1 Z) (ak Z (ai [(12,_),(16,_)] ⟨.inr ⟨3,_,Z,Z,Z⟩,.inr ⟨7,_,Z,Z,Z⟩,trivial⟩ (λ sl NI K hK=>ah Z (fK Z Z Z (NI _ _ Z) (NI _ _ Z) Z P2 hK)) ap)) (dPc (.p (.agg [eI 3,eI (NO.fat+NO.Df),eS ([]:Bk)])) Z ?_);refine dS Z (cV ?_);exact nx 2 Z Ca
 exact nx 8 Z Ca
def fb (NO:aA):Option aA :=(if NO.Df<NO.fi then ck (inR (NO.fat+NO.Df))<|(gQ (aw.mk 3 0 NO.D' [] []) (NO.fat+NO.Df)).bind λ r3=>ck ((NO.C'.length+1)*160<=140737488355328)<|some (NO.C'++[r3])else some NO.C' : Option (List ag)).bind λ f6=>some (aA.mk NO.fs NO.fat NO.fi NO.Df ([]:Bk) f6 NO.IN)
theorem kB (NO:aA)(r:aA)(h0:fb NO=some r):aS Tryz.prog 249 [.ptr 1000000 0] [(1000000,[.p (eS NO.fs),.p (eI NO.fat),.p (eI NO.fi),.p (eI NO.Df),.p (eS NO.D'),.vec 900000 11 0 (NO.C'.map av),.p (eB NO.IN)])] (λ x y=>x=.tuple []/\y=[(1000000,[.p (eS r.fs),.p (eI r.fat),.p (eI r.fi),.p (eI r.Df),.p (eS r.D'),.vec 2000000 11 0 (r.C'.map av),.p (eB r.IN)])]):=by
 unfold fb at h0;refine bT good [800000] [1000000] Tryz.func249 Z Z Z Z Z λ w0 F=>mPo (λ v:aA=>.tuple []) (λ v=>[(1000000,[.p (eS v.fs),.p (eI v.fat),.p (eI v.fi),.p (eI v.Df),.p (eS v.D'),.vec 2000000 11 0 (v.C'.map av),.p (eB v.IN)])]) ?_;refine nx 1 Z (bd h0 λ o8 h1 h0=>?_);refine kN o8 (λ v9=>⟨[(0,.ptr 1000000 0)],[(1000000,[.p (eS NO.fs),.p (eI NO.fat),.p (eI NO.fi),.p (eI NO.Df),.p (eS NO.D'),.vec 900000 11 0 (v9.map av),.p (eB NO.IN)])]⟩) ?_ ?_
 ·exact nx 7 Z (Jt (oi h0) (aU (bn 900000 800000 Z Z Z Z Z) (aJ _)) Z Z Z Z (sr) ⟨⟨_,Z,⟨sr,sr,sr,sr,sr,sr,sr,trivial⟩⟩,trivial⟩)
 refine nx 1 Z (mD [(0,.ptr 1000000 0)] Z ⟨Z,trivial⟩ Z ?_);refine dR 9 Z (dE Z ?_);refine nx 1 Z (fD [10] h1 Z (λ c1 h1=>?_) λ c1 h1=>?_)
 ·refine nx 1 Z (cc' h1 λ P2 h1=>?_);refine bd h1 λ r3 e4 h1=>cc' h1 λ RP h1=>mG (gE (t:=⟨[(0,.ptr 1000000 0)],[(1000000,[.p (eS NO.fs),.p (eI NO.fat),.p (eI NO.fi),.p (eI NO.Df),.p (eS NO.D'),.vec 900000 11 0 (NO.C'.map av),.p (eB NO.IN)])]⟩) Z Z) (mSP ⟨3,[21,23,26],(by4 (.some λ i=>Nat.beq i 900000||Nat.beq i 32) (.fn (upP 32 11 (.agg (ag.cs r3)))) .none .none),(λ _=>[(0,.ptr 1000000 0)]),(by4 ([(1000000,[.p (eS NO.fs),.p (eI NO.fat),.p (eI NO.fi),.p (eI NO.Df),.p (eS NO.D'),.vec 900000 11 0 (NO.C'.map av),.p (eB NO.IN)])]) ([(1000000,((aA.cs NO).map .p))]) ([(1000000,((aA.cs NO).map .p))]) ([(1000000,[.p (eS NO.fs),.p (eI NO.fat),.p (eI NO.fi),.p (eI NO.Df),.p (eS NO.D'),.vec 32 11 0 (NO.C'.map av++[.agg (ag.cs r3)]),.p (eB NO.IN)]),(1000000,((aA.cs NO).map .p))]))⟩ ⟨3,[21,26,23],(by4 (.some λ i=>Nat.beq i 900000||Nat.beq i 32) .none (.fn (upP 32 11 (.agg (ag.cs r3)))) .none),(λ _=>[(0,.ptr 1000000 0)]),(by4 ([(1000000,[.p (eS NO.fs),.p (eI NO.fat),.p (eI NO.fi),.p (eI NO.Df),.p (eS NO.D'),.vec 900000 11 0 (NO.C'.map av),.p (eB NO.IN)])]) ([(1000000,((aA.cs NO).map .p))]) ([(1000000,[.p (eS NO.fs),.p (eI NO.fat),.p (eI NO.fi),.p (eI NO.Df),.p (eS NO.D'),.vecp 32 11 0 (NO.C'.map av),.p (eB NO.IN)]),(1000000,((aA.cs NO).map .p))]) ([(1000000,[.p (eS NO.fs),.p (eI NO.fat),.p (eI NO.fi),.p (eI NO.Df),.p (eS NO.D'),.vec 32 11 0 (NO.C'.map av++[.agg (ag.cs r3)]),.p (eB NO.IN)]),(1000000,((aA.cs NO).map .p))]))⟩ Z Z Z Z Z Z Z ⟨Z,trivial⟩ Z (lt3 ⟨Z,trivial⟩ ⟨Z,trivial⟩ ⟨Z,trivial⟩) (lt3 ⟨Z,trivial⟩ ⟨Z,trivial⟩ ⟨Z,trivial⟩) Z Z Z Z Z ?_);refine dPc (.ptr 1000000 0) Z (dPc (.ptr 1000000 0) Z ?_);refine dPc (.ptr 1000000 5) Z (dP (by4 (.vec 900000 11 0 (NO.C'.map av)) (.p (eL av NO.C')) (.p (eL av NO.C')) (.p (eL av NO.C'))) Z ?_);refine dPc (.ptr 1000000 0) Z (dPc (.ptr 1000000 0) Z ?_);refine dPc (.ptr 1000000 4) Z (dPc (.p (eS NO.D')) Z ?_);refine dPc (.p (.agg [eI 3,eI 0,eS NO.D',.val (.slice none 0 0),.val (.slice none 0 0)])) Z (dPc (.ptr 1000000 0) Z ?_);refine dPc (.ptr 1000000 0) Z (dPc (.ptr 1000000 1) Z ?_);refine dPc (.p (eI NO.fat)) Z (dPc (.ptr 1000000 0) Z ?_);refine dPc (.ptr 1000000 0) Z (dPc (.ptr 1000000 3) Z ?_);refine dPc (.p (eI NO.Df)) Z (ar (λ _=>.p (eI (NO.fat+NO.Df))) Z Z Z (fh Z Z Z Y) (lt3 Z Z Z) (ak Z (ak Z (ak Z (ai [(23,_),(27,_)] ⟨.inr ⟨12,_,Z,Z,Z⟩,.inr ⟨16,_,Z,Z,Z⟩,trivial⟩ (λ sl NI K hK=>ah Z (fK Z Z Z (NI _ _ Z) (NI _ _ Z) Z P2 hK)) ap)))) ?_);refine ar (λ _=>.p (.agg (ag.cs r3))) Z Z Z (fh Z Z Z Y) (lt3 Z Z Z) (ak Z (ak Z (ak Z (ai [(19,_),(28,_)] ⟨.inr ⟨8,_,Z,Z,Z⟩,.inr ⟨17,_,Z,Z,Z⟩,trivial⟩ (λ sl NI K hK=>ah Z (cF (gN (aw.mk 3 0 NO.D' [] []) (NO.fat+NO.Df) _ e4) Z Z Z (aQ (NI _ _ Z) (aQ (NI _ _ Z) bU)) ⟨dW ⟨.inl Z,.inl Z,.inl Z,.inr ⟨Z,Z⟩,.inr ⟨Z,Z⟩,trivial⟩,sr,trivial⟩ Tryz.call229 Z hK)) ap)))) (ar (λ _=>.p (eI (NO.C'.length:Int))) Z Z Z (fh Z Z Z Y) (lt3 Z Z Z) (ak Z (ak Z (ak Z (ai [(14,_)] ⟨.inr ⟨3,_,Z,Z,Z⟩,trivial⟩ (λ sl NI K hK=>ah Z (jN (f:=av) (l:=NO.C') Z Z Z Z Z (NI _ _ Z) Z hK)) ap)))) ?_);refine ar (λ _=>.p (eL (λ x:PV=>x) [.agg nU])) Z Z Z (fh Z Z Z Y) (lt3 Z Z Z) (ak Z (ak Z (ak Z (ai [] trivial (λ sl NI K hK=>ah Z (bz (λ x:PV=>x) [.agg nU] Z Z Z Z Z Z (du Z Z eA) Z Z Z Z Z Z Z hK)) ap)))) (dB (by4 (.vecp 32 11 0 (NO.C'.map av)) (.vecp 32 11 0 (NO.C'.map av)) (.vec 32 11 0 (NO.C'.map av++[.agg (ag.cs r3)])) (.vec 32 11 0 (NO.C'.map av++[.agg (ag.cs r3)]))) [(14,_),(31,_)] Z ⟨.inr ⟨3,_,Z,Z,Z⟩,.inr ⟨20,_,Z,Z,Z⟩,trivial⟩ Z Z (cM Z Z Y) (lt3 (λ h=>absurd h (by decide)) Y Y) (λ sl NI K hK=>ah Z (oc av NO.C' Z Z Z Z Z Z Z Z (NI _ _ Z) Z Z (NI _ _ Z) Z Z Z Z Z RP hK)) ?_);refine mj (by4 (.elp 32 11) (.elp 32 11) .undef .undef) Z Z Z (fh Z Z Z Y) (lt3 (nl Z) Y Y) (ak Z (ak Z (ai [(30,_),(32,_)] ⟨.inr ⟨19,_,Z,Z,Z⟩,.inr ⟨21,_,Z,Z,Z⟩,trivial⟩ (λ sl NI K hK=>ah Z (lV Z Z Z Z Z Z Z (NI _ _ Z) (NI _ _ Z) oD hK)) (ak Z ap)))) (dI [(29,_),(33,_)] Z ⟨.inr ⟨18,_,Z,Z,Z⟩,.inr ⟨22,_,Z,Z,Z⟩,trivial⟩ Z (λ sl NI K hK=>ah Z (tc (z:=.agg (ag.cs r3)) Z Z Z Z (NI _ _ Z) (NI _ _ Z) Z Z Z Z Z hK)) ?_);refine dPc (.ptr 1000000 0) Z (dPc (.ptr 1000000 5) Z ?_);refine dS Z (wl (dPc (.ptr 1000000 0) Z (dPc (.ptr 1000000 0) Z (dPc (.ptr 1000000 5) Z (dP (by4 (.vec 900000 11 0 (NO.C'.map av)) (.p (eL av NO.C')) (.p (eL av NO.C')) (.p (eL av NO.C'))) Z (dPc (.ptr 1000000 0) Z (dPc (.ptr 1000000 0) Z (dPc (.ptr 1000000 4) Z (dPc (.p (eS NO.D')) Z (dPc (.p (.agg [eI 3,eI 0,eS NO.D',.val (.slice none 0 0),.val (.slice none 0 0)])) Z (dPc (.ptr 1000000 0) Z (dPc (.ptr 1000000 0) Z (dPc (.ptr 1000000 1) Z (dPc (.p (eI NO.fat)) Z (dPc (.ptr 1000000 0) Z (dPc (.ptr 1000000 0) Z (dPc (.ptr 1000000 3) Z (dPc (.p (eI NO.Df)) Z (ar (λ _=>.p (eI (NO.fat+NO.Df))) Z Z Z (fh Z Z Z Y) (lt3 Z Z Z) (ak Z (ak Z (ak Z (ai [(23,_),(27,_)] ⟨.inr ⟨12,_,Z,Z,Z⟩,.inr ⟨16,_,Z,Z,Z⟩,trivial⟩ (λ sl NI K hK=>ah Z (fK Z Z Z (NI _ _ Z) (NI _ _ Z) Z P2 hK)) ap)))) (ar (λ _=>.p (.agg (ag.cs r3))) Z Z Z (fh Z Z Z Y) (lt3 Z Z Z) (ak Z (ak Z (ak Z (ai [(19,_),(28,_)] ⟨.inr ⟨8,_,Z,Z,Z⟩,.inr ⟨17,_,Z,Z,Z⟩,trivial⟩ (λ sl NI K hK=>ah Z (cF (gN (aw.mk 3 0 NO.D' [] []) (NO.fat+NO.Df) _ e4) Z Z Z (aQ (NI _ _ Z) (aQ (NI _ _ Z) bU)) ⟨dW ⟨.inl Z,.inl Z,.inl Z,.inr ⟨Z,Z⟩,.inr ⟨Z,Z⟩,trivial⟩,sr,trivial⟩ Tryz.call229 Z hK)) ap)))) (ar (λ _=>.p (eI (NO.C'.length:Int))) Z Z Z (fh Z Z Z Y) (lt3 Z Z Z) (ak Z (ak Z (ak Z (ai [(14,_)] ⟨.inr ⟨3,_,Z,Z,Z⟩,trivial⟩ (λ sl NI K hK=>ah Z (jN (f:=av) (l:=NO.C') Z Z Z Z Z (NI _ _ Z) Z hK)) ap)))) (ar (λ _=>.p (eL (λ x:PV=>x) [.agg nU])) Z Z Z (fh Z Z Z Y) (lt3 Z Z Z) (ak Z (ak Z (ak Z (ai [] trivial (λ sl NI K hK=>ah Z (bz (λ x:PV=>x) [.agg nU] Z Z Z Z Z Z (du Z Z eA) Z Z Z Z Z Z Z hK)) ap)))) (dB (by4 (.vecp 32 11 0 (NO.C'.map av)) (.vecp 32 11 0 (NO.C'.map av)) (.vecp 32 11 0 (NO.C'.map av)) (.vec 32 11 0 (NO.C'.map av++[.agg (ag.cs r3)]))) [(14,_),(31,_)] Z ⟨.inr ⟨3,_,Z,Z,Z⟩,.inr ⟨20,_,Z,Z,Z⟩,trivial⟩ Z Z (cM Z Z Y) (lt3 (λ h=>absurd h (by decide)) Y Y) (λ sl NI K hK=>ah Z (oc av NO.C' Z Z Z Z Z Z Z Z (NI _ _ Z) Z Z (NI _ _ Z) Z Z Z Z Z RP hK)) (mj (by4 (.elp 32 11) (.elp 32 11) (.elp 32 11) .undef) Z Z Z (fh Z Z Z Y) (lt3 (nl Z) Y Y) (ak Z (ai [(30,_),(32,_)] ⟨.inr ⟨19,_,Z,Z,Z⟩,.inr ⟨21,_,Z,Z,Z⟩,trivial⟩ (λ sl NI K hK=>ah Z (lV Z Z Z Z Z Z Z (NI _ _ Z) (NI _ _ Z) oD hK)) (ai [(30,_),(32,_)] ⟨.inr ⟨19,_,Z,Z,Z⟩,.inr ⟨21,_,Z,Z,Z⟩,trivial⟩ (λ sl NI K hK=>ah Z (lV Z Z Z Z Z Z Z (NI _ _ Z) (NI _ _ Z) oD hK)) (ak Z ap)))) (dI [(29,_),(33,_)] Z ⟨.inr ⟨18,_,Z,Z,Z⟩,.inr ⟨22,_,Z,Z,Z⟩,trivial⟩ Z (λ sl NI K hK=>ah Z (tc (z:=.agg (ag.cs r3)) Z Z Z Z (NI _ _ Z) (NI _ _ Z) Z Z Z Z Z hK)) (dPc (.ptr 1000000 0) Z (dPc (.ptr 1000000 5) Z (dS Z (y7 Z ⟨Z,Z,trivial⟩ ⟨⟨Z,Z,.inr Z⟩,⟨⟨Z,Z,.inr Z⟩,⟨⟨Z,Z,.inr Z⟩,⟨⟨Z,Z,.inr Z⟩,⟨⟨Z,Z,.inr Z⟩,⟨⟨Z,Z,.inr Z⟩,⟨⟨Z,Z,.inr Z⟩,⟨⟨Z,Z,.inr Z⟩,⟨⟨Z,Z,.inr Z⟩,⟨⟨Z,Z,.inr Z⟩,⟨⟨Z,Z,.inr Z⟩,⟨⟨Z,Z,.inr Z⟩,⟨⟨Z,Z,.inr Z⟩,⟨⟨Z,Z,.inr Z⟩,⟨⟨Z,Z,.inr Z⟩,⟨⟨Z,Z,.inr Z⟩,⟨⟨Z,Z,.inr Z⟩,⟨⟨Z,Z,.inr Z⟩,⟨⟨Z,Z,.inr Z⟩,⟨⟨Z,Z,.inr Z⟩,⟨⟨Z,Z,.inr Z⟩,⟨⟨Z,Z,.inr Z⟩,⟨⟨Z,Z,.inr Z⟩,⟨⟨Z,Z,.inr Z⟩,⟨⟨Z,Z,.inr Z⟩,trivial⟩⟩⟩⟩⟩⟩⟩⟩⟩⟩⟩⟩⟩⟩⟩⟩⟩⟩⟩⟩⟩⟩⟩⟩⟩)))))))))))))))))))))))))))) ?_);refine mG (cG (t:=⟨[(0,.ptr 1000000 0)],[(1000000,[.p (eS NO.fs),.p (eI NO.fat),.p (eI NO.fi),.p (eI NO.Df),.p (eS NO.D'),.vec 32 11 0 ((NO.C'++[r3]).map av),.p (eB NO.IN)])]⟩) (jv ⟨er Z,trivial⟩ ⟨⟨_,Z,⟨sr,sr,sr,sr,sr,AV.sub_of_eq Ip,sr,trivial⟩⟩,trivial⟩)) (nx 1 Z ?_);exact eX _ (oi h1).symm (aU (bn 32 900000 Z Z Z Z Z) (gE Z Z))
 exact cZ
def em (PL:Bk->Int->Option Int)(NN:Bk):Nat->Int->Int->Option (Unit⊕Int)|0,_,_=>none|m+1,i18,depth19=>if i18<(NN.length:Int) then ck ((0:Int)<=i18/\i18<(NN.length:Int))<|jn (if byt NN i18=123 then ck (inR (depth19+1))<|some (.inl (i18,depth19+1))else if byt NN i18=125 then ck (inR (depth19-1))<|if depth19-1=0 then some (.inr (.inr i18))else some (.inl (i18,depth19-1))else if byt NN i18=34 then ck (inR (i18+1))<|(PL NN (i18+1)).bind λ Q5=>if Q5<0 then some (.inr (.inr (-1)))else some (.inl (Q5,depth19))else some (.inl (i18,depth19)) : Option ((Int×Int)⊕(Unit⊕Int))) λ SX=>ck (inR (SX.1+1))<|em PL NN m (SX.1+1) SX.2 else some (.inl ())
def eP (Ps:Bk->Int->Option Int)(NN:Bk):Nat->Int->Option (Unit⊕Int)|0,_=>none|m+1,i23=>if i23<(NN.length:Int) then jn (ck ((0:Int)<=i23/\i23<(NN.length:Int))<|if byt NN i23=34 then some (.inr (.inr i23))else ck ((0:Int)<=i23/\i23<(NN.length:Int))<|if byt NN i23=92 then ck (inR (i23+1))<|some (.inl (i23+1))else ck ((0:Int)<=i23/\i23<=(NN.length:Int)/\(NN.length:Int)<=(NN.length:Int))<|(strings_HasPrefix (sub NN i23 (NN.length:Int)) ([36,36,123]:Bk)).bind λ UC=>if UC=true then ck (inR (i23+2))<|some (.inl (i23+2))else ck ((0:Int)<=i23/\i23<=(NN.length:Int)/\(NN.length:Int)<=(NN.length:Int))<|(strings_HasPrefix (sub NN i23 (NN.length:Int)) ([36,123]:Bk)).bind λ r36=>if r36=true then ck (inR (i23+2))<|(Ps NN (i23+2)).bind λ O7=>if O7<0 then some (.inr (.inr (-1)))else some (.inl O7)else some (.inl i23) : Option (Int⊕(Unit⊕Int))) λ i43=>ck (inR (i43+1))<|eP Ps NN m (i43+1)else some (.inl ())
mutual
def eu:Nat->Bk->Int->Option Int|0,_,_=>none|n+1,NN,QX=>jn (em (fY n) NN n QX 1) λ _RJ=>some (-1)
def fY:Nat->Bk->Int->Option Int|0,_,_=>none|n+1,NN,QX=>jn (eP (eu n) NN n QX) λ _QW=>some (-1)
end
theorem sI (n:Nat):(∀ (NN:Bk) (QX:Int) (r:Int),eu n NN QX=some r->aK Tryz.prog 266 [eS NN,eI QX] (·=.p (eI r)))/\(∀ (NN:Bk) (QX:Int) (r:Int),fY n NN QX=some r->aK Tryz.prog 270 [eS NN,eI QX] (·=.p (eI r))):=by
 induction n with
 | zero=>exact ⟨(by intro NN QX r h0; cases h0),(by intro NN QX r h0; cases h0)⟩
 | succ n ih=>
 obtain ⟨PN,PW⟩:=ih;refine ⟨?_,?_⟩
 ·skip
  intro NN QX r h0;rw [eu] at h0;refine bV good Tryz.func266 Z Z Z λ w0=>mP (λ v:Int=>.p (eI v)) ?_;refine nx 10 rfl ?_;obtain ⟨Ry,h1,Ou,hR0⟩:=cw h0;refine kEx 0 (λ S3:Unit=>Ry=.inl S3) (λ S3=>⟨[],[]⟩) (λ S3 hv=>?_) ?_
  ·have h0:=Ou _ hv;exact ez
  refine lG (λ (Qy:Int×Int)=>⟨[(0,.p (eS NN)),(1,.p (eI Qy.1)),(5,.p (eI Qy.2))],[]⟩) (λ m (Qy:Int×Int)=>em (fY n) NN m Qy.1 Qy.2) Y (QX,1) h1 (gE rfl rfl) ?_;rintro m ⟨i18,depth19⟩ h1;replace h1:em (fY n) NN (m+1) i18 depth19=some Ry:=h1;rw [em] at h1;refine nx 5 rfl (oLs rfl ?_);refine nx 2 rfl (fD [9] h1 rfl (λ c20 h1=>?_) λ c20 h1=>?_)
  ·refine nx 8 rfl (oI h1 rfl λ PY h1=>?_);refine nx 1 rfl ?_;obtain ⟨Q9,h2,hL1,hR1⟩:=cw h1;refine kX (λ QG:Int×Int=>Q9=.inl QG) (λ QG=>⟨[(0,.p (eS NN)),(1,.p (eI QG.1)),(5,.p (eI QG.2))],[]⟩) (λ QG hv=>?_) ?_
   ·have h1:=hL1 _ hv;refine nx 3 Z (oA h1 Z Z λ SH h1=>?_);exact nx 2 Z (eX (QG.1+1,QG.2) h1 (gE Z Z))
   refine nx 6 Z (fD [15,16] h2 Z (λ Tu h2=>?_) λ Tu h2=>?_)
   ·refine nx 3 Z (oA h2 Z Z λ Qn h2=>?_);exact fS
   refine nx 6 Z (fD [19,20] h2 Z (λ Ru h2=>?_) λ Ru h2=>?_)
   ·refine nx 4 Z (oA h2 Z Z λ Qc h2=>?_);refine nx 7 Z (fD [24] h2 Z (λ SP h2=>?_) λ SP h2=>?_)
    ·exact AZ
    exact fS
   refine nx 6 Z (fD [26,27] h2 Z (λ QP h2=>?_) λ QP h2=>?_)
   ·refine nx 5 Z (oA h2 Z Z λ SI h2=>?_);refine bd h2 λ Q5 Ug h2=>oK (PW NN (i18+1) _ Ug) Z ⟨sr,sr,trivial⟩ Tryz.call270 Z (nx 7 Z ?_);refine fD [33] h2 Z (λ Ts h2=>?_) λ Ts h2=>?_
    ·exact yB
    exact fS
   exact fS
  exact cH
 ·skip
  intro NN QX r h0;rw [fY] at h0;refine bV good Tryz.func270 Z Z Z λ w0=>mP (λ v:Int=>.p (eI v)) ?_;refine nx 6 rfl ?_;obtain ⟨TM,h1,Ou,hR0⟩:=cw h0;refine kEx 0 (λ RG:Unit=>TM=.inl RG) (λ RG=>⟨[],[]⟩) (λ RG hv=>?_) ?_
  ·have h0:=Ou _ hv;exact ez
  refine lG (λ (q50:Int)=>⟨[(0,.p (eS NN)),(1,.p (eI q50))],[]⟩) (λ m (q50:Int)=>eP (eu n) NN m q50) Y QX h1 (gE rfl rfl) ?_;rintro m i23 h1;replace h1:eP (eu n) NN (m+1) i23=some TM:=h1;rw [eP] at h1;refine nx 5 rfl (oLs rfl ?_);refine nx 2 rfl (fD [8] h1 rfl (λ Ru h1=>?_) λ Ru h1=>?_)
  ·refine nx 4 rfl ?_;obtain ⟨o51,h2,hL1,hR1⟩:=cw h1;refine kX (λ TP:Int=>o51=.inl TP) (λ TP=>⟨[(0,.p (eS NN)),(1,.p (eI TP))],[]⟩) (λ TP hv=>?_) ?_
   ·have h1:=hL1 _ hv;refine nx 3 Z (oA h1 Z Z λ UU h1=>?_);exact nx 2 Z (eX (TP+1) h1 (gE Z Z))
   refine nx 5 Z (oI h2 Z λ Qc h2=>?_);refine nx 3 Z (fD [11,15] h2 Z (λ SP h2=>?_) λ SP h2=>?_)
   ·exact AZ
   refine nx 5 Z (oI h2 Z λ Rr h2=>?_);refine nx 3 Z (fD [17,21] h2 Z (λ Ul h2=>?_) λ Ul h2=>?_)
   ·refine nx 3 Z (oA h2 Z Z λ Tg h2=>?_);exact fS
   refine nx 5 Z (oP h2 Z Z Z λ Tf h2=>?_);refine bd h2 λ UC e32 h2=>oK (cr (sub NN i23 (NN.length:Int)) ([36,36,123]:Bk) _ e32) Z ⟨sr,sr,trivial⟩ Tryz.call110 Z (nx 2 Z ?_);refine fB [24,28] h2 Z (λ Vq h2=>?_) λ Vq h2=>?_
   ·refine nx 3 Z (oA h2 Z Z λ SH h2=>?_);exact fS
   refine nx 5 Z (oP h2 Z Z Z λ SG h2=>?_);refine bd h2 λ r36 e37 h2=>oK (cr (sub NN i23 (NN.length:Int)) ([36,123]:Bk) _ e37) Z ⟨sr,sr,trivial⟩ Tryz.call110 Z (nx 2 Z ?_);refine fB [31,35] h2 Z (λ Uk h2=>?_) λ Uk h2=>?_
   ·refine nx 5 Z (oA h2 Z Z λ UX h2=>?_);refine bd h2 λ O7 Vb h2=>oK (PN NN (i23+2) _ Vb) Z ⟨sr,sr,trivial⟩ Tryz.call266 Z (nx 2 Z ?_);refine mG (gE (t:=⟨[(0,.p (eS NN)),(1,.p (eI O7))],[]⟩) Z Z) (nx 5 Z ?_);refine fD [41] h2 Z (λ Vm h2=>?_) λ Vm h2=>?_
    ·exact yB
    exact fS
   exact fS
  exact cH
theorem uy (n:Nat):∀ (NN:Bk) (QX:Int) (r:Int),eu n NN QX=some r->aK Tryz.prog 266 [eS NN,eI QX] (·=.p (eI r)):=(sI n).1
def cE (NN:Bk):Nat->Int->Option Int|0,_=>none|m+1,n10=>(if n10<(NN.length:Int) then if n10<6 then ck ((0:Int)<=n10/\n10<(NN.length:Int))<|(strings_IndexByte ([48,49,50,51,52,53,54,55,56,57,97,98,99,100,101,102]:Bk) (byt NN n10)).bind λ Oq=>some (decide (0<=Oq))else some false else some false : Option Bool).bind λ O6=>if O6=true then ck (inR (n10+1))<|cE NN m (n10+1)else some n10
def ir (n:Nat)(NN:Bk):Option Int :=(cE NN n 0).bind λ n20=>some n20
theorem qC (n:Nat)(NN:Bk)(r:Int)(h0:ir n NN=some r):aK Tryz.prog 271 [eS NN] (·=.p (eI r)):=by
 unfold ir at h0;refine bV good Tryz.func271 Z Z Z λ w0=>mP (λ v:Int=>.p (eI v)) ?_;refine nx 10 Z (bd h0 λ OE h1 h0=>?_);refine kE 0 OE (λ O4=>⟨[(3,.p (eI O4))],[]⟩) ?_ ?_
 ·exact oM
 refine lG (λ (TG:Int)=>⟨[(0,.p (eS NN)),(3,.p (eI TG))],[]⟩) (λ m (TG:Int)=>cE NN m TG) Y 0 h1 (gE rfl rfl) ?_;rintro m n10 h1;replace h1:cE NN (m+1) n10=some OE:=h1;rw [cE] at h1;refine nx 2 rfl (bd h1 λ Ur h2 h1=>?_);refine kN Ur (λ Uu=>⟨[(0,.p (eS NN)),(3,.p (eI n10)),(18,.p (eB Uu))],[]⟩) ?_ ?_
 ·refine nx 1 Z (fB [18] h1 Z (λ Oo h1=>?_) λ Oo h1=>?_)
  ·refine nx 5 Z (oA h1 Z Z λ QL h1=>?_);exact nx 2 Z (eX (n10+1) h1 (gE Z Z))
  exact cH
 refine nx 3 Z (oLs Z ?_);refine nx 2 Z (fD [7,8] h2 Z (λ Qq h2=>?_) λ Qq h2=>?_)
 ·refine nx 4 Z (fD [10,11,12] h2 Z (λ RZ h2=>?_) λ RZ h2=>?_)
  ·refine nx 2 Z (oI h2 Z λ Rs h2=>?_);refine bd h2 λ Oq RX h2=>oK (gP ([48,49,50,51,52,53,54,55,56,57,97,98,99,100,101,102]:Bk) (byt NN n10) _ RX) Z ⟨sr,sr,trivial⟩ Tryz.call82 Z (nx 3 Z ?_);exact pP
  exact yk
 exact nx 11 Z pu
def lm (n:Nat)(NN:Bk):Option (Bk×Int×Int) :=jn ((strings_HasPrefix NN ([92,117]:Bk)).bind λ r1=>if r1=true then(if 2<(NN.length:Int) then ck ((0:Int)<=2/\2<(NN.length:Int))<|some (!decide (byt NN 2=123))else some false : Option Bool).bind λ t6=>if t6=true then some (.inr (([]:Bk),0,2))else if 3<(NN.length:Int) then ck ((0:Int)<=3/\3<=(NN.length:Int)/\(NN.length:Int)<=(NN.length:Int))<|(ir n (sub NN 3 (NN.length:Int))).bind λ Ot=>ck (inR (4+Ot))<|some (.inl (4+Ot))else some (.inl 4)else some (.inl 2) : Option (Int⊕(Bk×Int×Int))) λ n13=>if (NN.length:Int)<n13 then some (([]:Bk),0,40)else ck ((0:Int)<=0/\0<=n13/\n13<=(NN.length:Int))<|ck (([34]:Bk).length+(sub NN 0 n13).length<=9223372036854775807)<|ck ((([34]:Bk)++(sub NN 0 n13)).length+([34]:Bk).length<=9223372036854775807)<|(gh n ((([34]:Bk)++(sub NN 0 n13))++([34]:Bk))).bind λ Py=>if Py.2.2=0 then some (Py.1,n13,0)else some (([]:Bk),0,2)
theorem uQ (n:Nat)(NN:Bk)(r:Bk×Int×Int)(h0:lm n NN=some r):aK Tryz.prog 268 [eS NN] (·=.tuple [.p (eS r.1),.p (eI r.2.1),.p (eI r.2.2)]):=by
 unfold lm at h0;refine bV good Tryz.func268 Z Z Z λ w0=>mP (λ v:Bk×Int×Int=>.tuple [.p (eS v.1),.p (eI v.2.1),.p (eI v.2.2)]) ?_;refine nx 11 rfl ?_;obtain ⟨OE,h1,Ou,hR0⟩:=cw h0;refine kX (λ O4:Int=>OE=.inl O4) (λ O4=>⟨[(0,.p (eS NN)),(5,.p (eI O4))],[]⟩) (λ O4 hv=>?_) ?_
 ·have h0:=Ou _ hv;refine nx 6 Z (oLs Z ?_);refine nx 2 Z (fD [29] h0 Z (λ Rv h0=>?_) λ Rv h0=>?_)
  ·exact gJ
  refine nx 6 Z (oP h0 Z Z Z λ Qo h0=>?_);refine oC h0 Z λ RR h0=>oC h0 Z λ UY h0=>bd h0 λ Py SK h0=>oK (np _ ((([34]:Bk)++(sub NN 0 O4))++([34]:Bk)) _ SK) Z ⟨sr,trivial⟩ Tryz.call117 Z (nx 14 Z ?_);refine fN [41] h0 Z (λ c20 h0=>?_) λ c20 h0=>?_
  ·exact nx 11 Z rn
  exact gJ
 refine nx 3 Z (bd h1 λ r1 e2 h1=>?_);refine oK (cr NN ([92,117]:Bk) _ e2) Z ⟨sr,sr,trivial⟩ Tryz.call110 Z (nx 1 Z ?_);refine fB [10] h1 Z (λ c3 h1=>?_) λ c3 h1=>?_
 ·refine nx 3 Z (bd h1 λ TN h2 h1=>?_);refine kN TN (λ Sj=>⟨[(0,.p (eS NN)),(18,.p (eB Sj))],[]⟩) ?_ ?_
  ·refine nx 1 Z (fB [18] h1 Z (λ c7 h1=>?_) λ c7 h1=>?_)
   ·exact nx 8 Z (mQ (hR0 _ (oi h1).symm) Z (cb ⟨sr,sr,sr,trivial⟩))
   refine nx 9 Z (oLs Z ?_);refine nx 2 Z (fD [21] h1 Z (λ c8 h1=>?_) λ c8 h1=>?_)
   ·refine nx 3 Z (oP h1 Z Z Z λ Rk h1=>?_);refine bd h1 λ Ot Qe h1=>oK (qC _ (sub NN 3 (NN.length:Int)) _ Qe) Z ⟨sr,trivial⟩ Tryz.call271 Z (oA h1 Z Z λ QM h1=>?_);exact cZ
   exact i8
  refine nx 2 Z (oLs Z ?_);refine nx 2 Z (fD [13,14] h2 Z (λ c4 h2=>?_) λ c4 h2=>?_)
  ·refine nx 1 Z (oI h2 Z λ RP h2=>?_);exact nO
  exact pr
 exact cZ
def gf (n:Nat)(NO:aA):Option (au×aA) :=ck ((0:Int)<=NO.fi/\NO.fi<=(NO.fs.length:Int)/\(NO.fs.length:Int)<=(NO.fs.length:Int))<|jn (ck ((0:Int)<=0/\0<((sub NO.fs NO.fi (NO.fs.length:Int)).length:Int))<|if byt (sub NO.fs NO.fi (NO.fs.length:Int)) 0=92 then(lm n (sub NO.fs NO.fi (NO.fs.length:Int))).bind λ r4=>if r4.2.2=0 then ck (NO.D'.length+r4.1.length<=9223372036854775807)<|ck (inR (NO.fi+r4.2.1))<|some (.inl (NO.fi+r4.2.1,NO.D'++r4.1))else ck (inR (NO.fat+NO.fi))<|some (.inr ((au.mk r4.2.2 (NO.fat+NO.fi) ([]:Bk)),(aA.mk NO.fs NO.fat NO.fi NO.Df NO.D' NO.C' NO.IN)))else(bj (sub NO.fs NO.fi (NO.fs.length:Int))).bind λ Ot=>(if Ot.1=65533 then if Ot.2=1 then some true else if Ot.1<32 then some true else if Ot.1=127 then some true else some (decide (Ot.1=34))else if Ot.1<32 then some true else if Ot.1=127 then some true else some (decide (Ot.1=34)) : Option Bool).bind λ O5=>if O5=true then ck (inR (NO.fat+NO.fi))<|some (.inr ((au.mk 2 (NO.fat+NO.fi) ([]:Bk)),(aA.mk NO.fs NO.fat NO.fi NO.Df NO.D' NO.C' NO.IN)))else ck ((0:Int)<=0/\0<=Ot.2/\Ot.2<=((sub NO.fs NO.fi (NO.fs.length:Int)).length:Int))<|ck (NO.D'.length+(sub (sub NO.fs NO.fi (NO.fs.length:Int)) 0 Ot.2).length<=9223372036854775807)<|ck (inR (NO.fi+Ot.2))<|some (.inl (NO.fi+Ot.2,NO.D'++(sub (sub NO.fs NO.fi (NO.fs.length:Int)) 0 Ot.2))) : Option ((Int×Bk)⊕(au×aA))) λ RN=>(ew (aA.mk NO.fs NO.fat RN.1 NO.Df RN.2 NO.C' NO.IN)).bind λ P5=>some (P5.1,(aA.mk P5.2.fs P5.2.fat P5.2.fi P5.2.Df P5.2.D' P5.2.C' P5.2.IN))
theorem pd (n:Nat)(NO:aA)(r:au×aA)(h0:gf n NO=some r):aS Tryz.prog 260 [.ptr 1000000 0] [(1000000,[.p (eS NO.fs),.p (eI NO.fat),.p (eI NO.fi),.p (eI NO.Df),.p (eS NO.D'),.vec 900000 11 0 (NO.C'.map av),.p (eB NO.IN)])] (λ x y=>x=.p (.agg (au.cs r.1))/\y=[(1000000,[.p (eS r.2.fs),.p (eI r.2.fat),.p (eI r.2.fi),.p (eI r.2.Df),.p (eS r.2.D'),.vec 2000000 11 0 (r.2.C'.map av),.p (eB r.2.IN)])]):=by
 unfold gf at h0;refine bT good [800000] [1000000] Tryz.func260 Z Z Z Z Z λ w0 F=>mPo (λ v:au×aA=>.p (.agg (au.cs v.1))) (λ v=>[(1000000,[.p (eS v.2.fs),.p (eI v.2.fat),.p (eI v.2.fi),.p (eI v.2.Df),.p (eS v.2.D'),.vec 2000000 11 0 (v.2.C'.map av),.p (eB v.2.IN)])]) ?_;refine nx 5 rfl (cc' h0 λ Ra h0=>?_);refine mD [(0,.ptr 1000000 0),(2,.ptr 2 0)] rfl ⟨rfl,rfl,trivial⟩ rfl (dR 8 rfl ?_);refine dq (.p (eS (sub NO.fs NO.fi (NO.fs.length:Int)))) [12,16] rfl (λ _ e _ q=>ah rfl (ed (a:=NO.fs) (l:=NO.fi) (h:=(NO.fs.length:Int)) Z Z Z Z Z (e _ _ rfl) ra rfl Ra q)) rfl (dR 1 rfl ?_);refine dE rfl (nx 2 rfl ?_);obtain ⟨SB,h1,Ou,hR0⟩:=cw h0;refine kX (λ QT:Int×Bk=>SB=.inl QT) (λ QT=>⟨[(0,.ptr 1000000 0),(2,.ptr 2 0)],[(2,gR),(1000000,[.p (eS NO.fs),.p (eI NO.fat),.p (eI QT.1),.p (eI NO.Df),.p (eS QT.2),.vec 900000 11 0 (NO.C'.map av),.p (eB NO.IN)])]⟩) (λ QT hv=>?_) ?_
 ·have h0:=Ou _ hv;refine nx 4 Z (bd h0 λ P5 Vf h0=>?_);refine mO Z (cVq [1000000] [900000] 101000 101001 (kI (aA.mk NO.fs NO.fat QT.1 NO.Df QT.2 NO.C' NO.IN) _ Vf) Tryz.call258 Z ?_);exact nx 3 Z CM
 refine nx 3 Z (oI h1 Z λ P2 h1=>?_);refine nx 2 Z (fD [20] h1 Z (λ c3 h1=>?_) λ c3 h1=>?_)
 ·refine nx 4 Z (bd h1 λ r4 e5 h1=>?_);refine oK (uQ _ (sub NO.fs NO.fi (NO.fs.length:Int)) _ e5) Z ⟨sr,trivial⟩ Tryz.call268 Z (nx 14 Z ?_);refine fN [28] h1 Z (λ c6 h1=>?_) λ c6 h1=>?_
  ·refine nx 9 Z (oC h1 Z λ SC h1=>?_);refine nx 4 Z (mG (gE (t:=⟨[(0,.ptr 1000000 0),(2,.ptr 2 0),(5,.p (eI r4.2.1))],[(2,gR),(1000000,[.p (eS NO.fs),.p (eI NO.fat),.p (eI NO.fi),.p (eI NO.Df),.p (eS (NO.D'++r4.1)),.vec 900000 11 0 (NO.C'.map av),.p (eB NO.IN)])]⟩) Z Z) ?_);refine nx 6 Z (oA h1 Z Z λ Rk h1=>?_);exact i8
  refine nx 2 Z (cc' h1 λ Us h1=>?_);refine mG (gE (t:=⟨[(0,.ptr 1000000 0),(2,.ptr 2 0),(6,.p (eI r4.2.2))],[(2,gR),(1000000,[.p (eS NO.fs),.p (eI NO.fat),.p (eI NO.fi),.p (eI NO.Df),.p (eS NO.D'),.vec 900000 11 0 (NO.C'.map av),.p (eB NO.IN)])]⟩) Z Z) (mSq ⟨1,[11],(λ _=>.none),(λ _=>[(0,.ptr 1000000 0),(2,.ptr 2 0),(6,.p (eI r4.2.2))]),(ob2 ([(2,gR),(1000000,[.p (eS NO.fs),.p (eI NO.fat),.p (eI NO.fi),.p (eI NO.Df),.p (eS NO.D'),.vec 900000 11 0 (NO.C'.map av),.p (eB NO.IN)])]) (2,[.p (eI r4.2.2),.p (eI (NO.fat+NO.fi)),.p (eS ([]:Bk))]))⟩ Z ?_);refine dPc (.p (eI r4.2.2)) Z (dPc (.ptr 1000000 0) Z ?_);refine dPc (.ptr 1000000 0) Z (dPc (.ptr 1000000 1) Z ?_);refine dPc (.p (eI NO.fat)) Z (dPc (.ptr 1000000 0) Z ?_);refine dPc (.ptr 1000000 0) Z (dPc (.ptr 1000000 2) Z ?_);refine dPc (.p (eI NO.fi)) Z (ar (λ _=>.p (eI (NO.fat+NO.fi))) Z Z Z (dG Z Y) (lt1 Z) (ak Z (ai [(33,_),(37,_)] ⟨.inr ⟨4,_,Z,Z,Z⟩,.inr ⟨8,_,Z,Z,Z⟩,trivial⟩ (λ sl NI K hK=>ah Z (fK Z Z Z (NI _ _ Z) (NI _ _ Z) Z Us hK)) ap)) ?_);refine dPc (.p (.agg [eI r4.2.2,eI (NO.fat+NO.fi),eS ([]:Bk)])) Z (dS Z ?_);refine cV (nx 2 Z ?_);exact mQo (hR0 _ (oi h1).symm) (aU (bn 900000 800000 Z Z Z Z Z) (aJ _)) Z Z Z Z (sr) ⟨⟨_,Z,⟨sr,sr,sr,sr,sr,sr,sr,trivial⟩⟩,trivial⟩
 refine nx 4 Z (bd h1 λ Ot Qe h1=>?_);refine oK (ey (sub NO.fs NO.fi (NO.fs.length:Int)) _ Qe) Z ⟨sr,trivial⟩ Tryz.call135 Z (nx 8 Z ?_);refine bd h1 λ Rz h2 h1=>kN Rz (λ TQ=>⟨[(0,.ptr 1000000 0),(2,.ptr 2 0),(3,.p (eS (sub NO.fs NO.fi (NO.fs.length:Int)))),(8,.p (eI Ot.2)),(78,.p (eB TQ))],[(2,gR),(1000000,[.p (eS NO.fs),.p (eI NO.fat),.p (eI NO.fi),.p (eI NO.Df),.p (eS NO.D'),.vec 900000 11 0 (NO.C'.map av),.p (eB NO.IN)])]⟩) ?_ ?_
 ·refine nx 1 Z (fB [78] h1 Z (λ QE h1=>?_) λ QE h1=>?_)
  ·refine nx 2 Z (cc' h1 λ PO h1=>?_);refine mG JI (mSq ⟨1,[10],(λ _=>.none),(λ _=>[(0,.ptr 1000000 0),(2,.ptr 2 0)]),(ob2 ([(2,gR),(1000000,[.p (eS NO.fs),.p (eI NO.fat),.p (eI NO.fi),.p (eI NO.Df),.p (eS NO.D'),.vec 900000 11 0 (NO.C'.map av),.p (eB NO.IN)])]) (2,[.p (eI 2),.p (eI (NO.fat+NO.fi)),.p (eS ([]:Bk))]))⟩ Z ?_);refine dPc (.ptr 1000000 0) Z (dPc (.ptr 1000000 0) Z ?_);refine dPc (.ptr 1000000 1) Z (dPc (.p (eI NO.fat)) Z ?_);refine dPc (.ptr 1000000 0) Z (dPc (.ptr 1000000 0) Z ?_);refine dPc (.ptr 1000000 2) Z (dPc (.p (eI NO.fi)) Z ?_);refine ar (λ _=>.p (eI (NO.fat+NO.fi))) Z Z Z (dG Z Y) (lt1 Z) (ak Z (ai [(82,_),(86,_)] ⟨.inr ⟨3,_,Z,Z,Z⟩,.inr ⟨7,_,Z,Z,Z⟩,trivial⟩ (λ sl NI K hK=>ah Z (fK Z Z Z (NI _ _ Z) (NI _ _ Z) Z PO hK)) ap)) (dPc (.p (.agg [eI 2,eI (NO.fat+NO.fi),eS ([]:Bk)])) Z ?_);refine dS Z (cV ?_);exact nx 2 Z (mQo (hR0 _ (oi h1).symm) (aU (bn 900000 800000 Z Z Z Z Z) (aJ _)) Z Z Z Z (sr) ⟨⟨_,Z,⟨sr,sr,sr,sr,sr,sr,sr,trivial⟩⟩,trivial⟩)
  refine nx 3 Z (cc' h1 λ PY h1=>?_);refine cc' h1 λ Pw h1=>mG (gE (t:=⟨[(0,.ptr 1000000 0),(2,.ptr 2 0),(3,.p (eS (sub NO.fs NO.fi (NO.fs.length:Int)))),(8,.p (eI Ot.2))],[(2,gR),(1000000,[.p (eS NO.fs),.p (eI NO.fat),.p (eI NO.fi),.p (eI NO.Df),.p (eS NO.D'),.vec 900000 11 0 (NO.C'.map av),.p (eB NO.IN)])]⟩) Z Z) (mSq ⟨1,[10],(λ _=>.none),(λ _=>[(0,.ptr 1000000 0),(2,.ptr 2 0),(3,.p (eS (sub NO.fs NO.fi (NO.fs.length:Int)))),(8,.p (eI Ot.2))]),(ob2 ([(2,gR),(1000000,[.p (eS NO.fs),.p (eI NO.fat),.p (eI NO.fi),.p (eI NO.Df),.p (eS NO.D'),.vec 900000 11 0 (NO.C'.map av),.p (eB NO.IN)])]) (1000000,[.p (eS NO.fs),.p (eI NO.fat),.p (eI NO.fi),.p (eI NO.Df),.p (eS (NO.D'++(sub (sub NO.fs NO.fi (NO.fs.length:Int)) 0 Ot.2))),.vec 900000 11 0 (NO.C'.map av),.p (eB NO.IN)]))⟩ Z ?_);refine dPc (.ptr 1000000 0) Z (dPc (.ptr 1000000 0) Z ?_);refine dPc (.ptr 1000000 4) Z (dPc (.p (eS NO.D')) Z ?_);refine dPc (.p (eS (sub NO.fs NO.fi (NO.fs.length:Int)))) Z (dPc (.p (eI Ot.2)) Z ?_);refine ar (λ _=>.p (eS (sub (sub NO.fs NO.fi (NO.fs.length:Int)) 0 Ot.2))) Z Z Z (dG Z Y) (lt1 Z) (ak Z (ai [(93,_),(94,_)] ⟨.inr ⟨4,_,Z,Z,Z⟩,.inr ⟨5,_,Z,Z,Z⟩,trivial⟩ (λ sl NI K hK=>ah Z (ed (a:=sub NO.fs NO.fi (NO.fs.length:Int)) (l:=0) (h:=Ot.2) Z Z Z Z Z (NI _ _ Z) Z oQ PY hK)) ap)) (ar (λ _=>.p (eS (NO.D'++(sub (sub NO.fs NO.fi (NO.fs.length:Int)) 0 Ot.2)))) Z Z Z (dG Z Y) (lt1 Z) (ak Z (ai [(92,_),(95,_)] ⟨.inr ⟨3,_,Z,Z,Z⟩,.inr ⟨6,_,Z,Z,Z⟩,trivial⟩ (λ sl NI K hK=>ah Z (sY Z Z Z (NI _ _ Z) (NI _ _ Z) Pw hK)) ap)) ?_);refine dPc (.ptr 1000000 0) Z (dPc (.ptr 1000000 4) Z ?_);refine dS Z (cV ?_);refine nx 7 Z (oA h1 Z Z λ Qn h1=>?_);exact i8
 refine nx 4 Z (fD [62,63] h2 Z (λ RZ h2=>?_) λ RZ h2=>?_)
 ·refine nx 4 Z (fD [65,66,67] h2 Z (λ P8 h2=>?_) λ P8 h2=>?_)
  ·exact nx 12 Z pu
  refine nx 4 Z (fD [69,70,71] h2 Z (λ Rv h2=>?_) λ Rv h2=>?_)
  ·exact nx 8 Z pu
  refine nx 4 Z (fD [73,74,75] h2 Z (λ QQ h2=>?_) λ QQ h2=>?_)
  ·exact pI
  exact pI
 refine nx 8 Z (fD [69,70,71] h2 Z (λ SQ h2=>?_) λ SQ h2=>?_)
 ·exact nx 8 Z pu
 refine nx 4 Z (fD [73,74,75] h2 Z (λ Oo h2=>?_) λ Oo h2=>?_)
 ·exact pI
 exact pI
def dh (n:Nat)(NL:af):Option af :=(aY n NL).bind λ r1=>ck (inR (r1.2.G'+1))<|some (af.mk r1.2.fl r1.2.fat (r1.2.G'+1) r1.2.Gw r1.2.AI)
theorem eZ (n:Nat)(NL:af)(r:af)(h0:dh n NL=some r):aS Tryz.prog 219 [.ptr 1000000 0] [(1000000,((af.cs NL).map .p))] (λ x y=>x=.tuple []/\y=[(1000000,((af.cs r).map .p))]):=by
 unfold dh at h0;refine bT good [] [1000000] Tryz.func219 Z Z Z Z Z λ w0 F=>mPo (λ v:af=>.tuple []) (λ v=>[(1000000,((af.cs v).map .p))]) ?_;refine nx 3 Z (bd h0 λ r1 e2 h0=>?_);refine mO Z (cVq [1000000] [] 101000 101000 (bf _ NL _ e2) Tryz.call163 Z ?_);exact FD
def cT (n:Nat)(NL:af)(s_1:Bk):Option af :=(bp n NL s_1).bind λ r1=>if (!r1.1)=true then(bR n r1.2).bind λ r4=>(bQ r4.2 2 r4.1.fAt).bind λ r6=>some r6.2 else(aY n r1.2).bind λ r8=>some r8.2
theorem fO (n:Nat)(NL:af)(s_1:Bk)(r:af)(h0:cT n NL s_1=some r):aS Tryz.prog 164 [.ptr 1000000 0,.p (eS s_1)] [(1000000,((af.cs NL).map .p))] (λ x y=>x=.tuple []/\y=[(1000000,((af.cs r).map .p))]):=by
 unfold cT at h0;refine bT good [] [1000000] Tryz.func164 Z Z Z Z Z λ w0 F=>mPo (λ v:af=>.tuple []) (λ v=>[(1000000,((af.cs v).map .p))]) ?_;refine nx 5 Z (bd h0 λ r1 e2 h0=>?_);refine mO Z (cVq [1000000] [] 101000 101000 (bN _ NL s_1 _ e2) Tryz.call162 Z ?_);exact Hl
def bW (n:Nat)(NL:af)(s_1:Bk):Option af :=(cT n NL s_1).bind λ r1=>ck (inR (r1.G'-1))<|some (af.mk r1.fl r1.fat (r1.G'-1) r1.Gw r1.AI)
theorem dM (n:Nat)(NL:af)(s_1:Bk)(r:af)(h0:bW n NL s_1=some r):aS Tryz.prog 220 [.ptr 1000000 0,.p (eS s_1)] [(1000000,((af.cs NL).map .p))] (λ x y=>x=.tuple []/\y=[(1000000,((af.cs r).map .p))]):=by
 unfold bW at h0;refine bT good [] [1000000] Tryz.func220 Z Z Z Z Z λ w0 F=>mPo (λ v:af=>.tuple []) (λ v=>[(1000000,((af.cs v).map .p))]) ?_;refine nx 4 Z (bd h0 λ r1 e2 h0=>?_);refine mO Z (cVq [1000000] [] 101000 101000 (fO _ NL s_1 _ e2) Tryz.call164 Z ?_);exact FD
def dj (n:Nat)(NL:af)(s_1:Bk):Option (Bool×af) :=(bR n NL).bind λ r1=>((bh r1.2).bind λ r3=>if (!r3.1)=true then if r1.1.Ar=1 then some (decide (r1.1.BY=s_1),r3.2.fl,r3.2.fat,r3.2.G',r3.2.Gw,r3.2.AI.Ar,r3.2.AI.fAt,r3.2.AI.AT)else some (false,r3.2.fl,r3.2.fat,r3.2.G',r3.2.Gw,r3.2.AI.Ar,r3.2.AI.fAt,r3.2.AI.AT)else some (false,r3.2.fl,r3.2.fat,r3.2.G',r3.2.Gw,r3.2.AI.Ar,r3.2.AI.fAt,r3.2.AI.AT) : Option (Bool×(List ac)×Int×Int×Int×Int×Int×Bk)).bind λ Qz=>some (Qz.1,(af.mk Qz.2.1 Qz.2.2.1 Qz.2.2.2.1 Qz.2.2.2.2.1 (au.mk Qz.2.2.2.2.2.1 Qz.2.2.2.2.2.2.1 Qz.2.2.2.2.2.2.2)))
theorem ia (n:Nat)(NL:af)(s_1:Bk)(r:Bool×af)(h0:dj n NL s_1=some r):aS Tryz.prog 242 [.ptr 1000000 0,.p (eS s_1)] [(1000000,((af.cs NL).map .p))] (λ x y=>x=.p (eB r.1)/\y=[(1000000,((af.cs r.2).map .p))]):=by
 unfold dj at h0;refine bT good [] [1000000] Tryz.func242 Z Z Z Z Z λ w0 F=>mPo (λ v:Bool×af=>.p (eB v.1)) (λ v=>[(1000000,((af.cs v.2).map .p))]) ?_;exact HH
def eJ (n:Nat)(NL:af):Option (Bk×af) :=(bR n NL).bind λ r1=>((bh r1.2).bind λ r3=>if r3.1=true then some (true,r3.2.fl,r3.2.fat,r3.2.G',r3.2.Gw,r3.2.AI.Ar,r3.2.AI.fAt,r3.2.AI.AT)else if r1.1.Ar=1 then(f0 r1.1.BY).bind λ r7=>some (r7,r3.2.fl,r3.2.fat,r3.2.G',r3.2.Gw,r3.2.AI.Ar,r3.2.AI.fAt,r3.2.AI.AT)else some (true,r3.2.fl,r3.2.fat,r3.2.G',r3.2.Gw,r3.2.AI.Ar,r3.2.AI.fAt,r3.2.AI.AT) : Option (Bool×(List ac)×Int×Int×Int×Int×Int×Bk)).bind λ O0=>if O0.1=true then(bQ (af.mk O0.2.1 O0.2.2.1 O0.2.2.2.1 O0.2.2.2.2.1 (au.mk O0.2.2.2.2.2.1 O0.2.2.2.2.2.2.1 O0.2.2.2.2.2.2.2)) 2 r1.1.fAt).bind λ Py=>some (([]:Bk),Py.2)else(aY n (af.mk O0.2.1 O0.2.2.1 O0.2.2.2.1 O0.2.2.2.2.1 (au.mk O0.2.2.2.2.2.1 O0.2.2.2.2.2.2.1 O0.2.2.2.2.2.2.2))).bind λ Pp=>some (r1.1.BY,Pp.2)
theorem kb (n:Nat)(NL:af)(r:Bk×af)(h0:eJ n NL=some r):aS Tryz.prog 250 [.ptr 1000000 0] [(1000000,((af.cs NL).map .p))] (λ x y=>x=.p (eS r.1)/\y=[(1000000,((af.cs r.2).map .p))]):=by
 unfold eJ at h0;refine bT good [] [1000000] Tryz.func250 Z Z Z Z Z λ w0 F=>mPo (λ v:Bk×af=>.p (eS v.1)) (λ v=>[(1000000,((af.cs v.2).map .p))]) ?_;refine nx 7 Z (bd h0 λ r1 e2 h0=>?_);refine mO Z (cVq [1000000] [] 101000 101000 (eY _ NL _ e2) Tryz.call188 Z ?_);refine nx 5 Z (bd h0 λ OE h1 h0=>?_);refine kN OE (λ O4=>⟨[(0,.ptr 1000000 0),(3,.ptr 3 0),(17,.p (eB O4.1))],[(3,(ac.cs r1.1).map .p),(1000000,[.p (eL az O4.2.1),.p (eI O4.2.2.1),.p (eI O4.2.2.2.1),.p (eI O4.2.2.2.2.1),.p (eI O4.2.2.2.2.2.1),.p (eI O4.2.2.2.2.2.2.1),.p (eS O4.2.2.2.2.2.2.2)])]⟩) ?_ ?_
 ·refine nx 1 Z (fB [17] h0 Z (λ Oo h0=>?_) λ Oo h0=>?_)
  ·refine nx 6 Z (bd h0 λ Py SK h0=>?_);refine mO Z (cVq [1000000] [] 103000 103000 (cD (af.mk OE.2.1 OE.2.2.1 OE.2.2.2.1 OE.2.2.2.2.1 (au.mk OE.2.2.2.2.2.1 OE.2.2.2.2.2.2.1 OE.2.2.2.2.2.2.2)) 2 r1.1.fAt _ SK) Tryz.call190 Z ?_);exact nx 6 Z (qD h0 Z)
  refine nx 5 Z (bd h0 λ Pp Rt h0=>?_);refine mO Z (cVq [1000000] [] 104000 104000 (bf _ (af.mk OE.2.1 OE.2.2.1 OE.2.2.2.1 OE.2.2.2.2.1 (au.mk OE.2.2.2.2.2.1 OE.2.2.2.2.2.2.1 OE.2.2.2.2.2.2.2)) _ Rt) Tryz.call163 Z ?_);exact nx 8 Z (qD h0 Z)
 refine nx 2 Z (bd h1 λ r3 e4 h1=>?_);refine mO Z (cVq [1000000] [] 102000 102000 (d9 r1.2 _ e4) Tryz.call189 Z ?_);refine nx 1 Z (fB [7,8] h1 Z (λ c5 h1=>?_) λ c5 h1=>?_)
 ·exact rq
 refine nx 5 Z (fN [11,12,13] h1 Z (λ c6 h1=>?_) λ c6 h1=>?_)
 ·refine nx 2 Z (bd h1 λ r7 e8 h1=>?_);refine oK (jl r1.1.BY _ e8) Z ⟨sr,trivial⟩ Tryz.call177 Z (nx 2 Z ?_);exact ip
 exact fx
def d4 (n:Nat)(NL:af)(s_1:Bk):Option af :=(dj n NL s_1).bind λ r1=>if (!r1.1)=true then(bR n r1.2).bind λ r4=>(bQ r4.2 2 r4.1.fAt).bind λ r6=>some r6.2 else(aY n r1.2).bind λ r8=>some r8.2
theorem oo (n:Nat)(NL:af)(s_1:Bk)(r:af)(h0:d4 n NL s_1=some r):aS Tryz.prog 251 [.ptr 1000000 0,.p (eS s_1)] [(1000000,((af.cs NL).map .p))] (λ x y=>x=.tuple []/\y=[(1000000,((af.cs r).map .p))]):=by
 unfold d4 at h0;refine bT good [] [1000000] Tryz.func251 Z Z Z Z Z λ w0 F=>mPo (λ v:af=>.tuple []) (λ v=>[(1000000,((af.cs v).map .p))]) ?_;refine nx 5 Z (bd h0 λ r1 e2 h0=>?_);refine mO Z (cVq [1000000] [] 101000 101000 (ia _ NL s_1 _ e2) Tryz.call242 Z ?_);exact Hl
def bS (n:Nat)(l_1:List Bk):Nat->Int->(List ac)->Int->Int->Int->Int->Int->Bk->Option (((List ac)×Int×Int×Int×Int×Int×Bk)⊕(Bk×Bool×af))|0,_,_,_,_,_,_,_,_=>none|m+1,Sl,U3,Re,U2,Ub,U1,U0,UZ=>if Sl<(l_1.length:Int) then ck ((0:Int)<=Sl/\Sl<(l_1.length:Int))<|(bp n (af.mk U3 Re U2 Ub (au.mk U1 U0 UZ)) (lat l_1 Sl)).bind λ P0=>if P0.1=true then some (.inr (lat l_1 Sl,true,P0.2))else ck (inR (Sl+1))<|bS n l_1 m (Sl+1) P0.2.fl P0.2.fat P0.2.G' P0.2.Gw P0.2.AI.Ar P0.2.AI.fAt P0.2.AI.AT else some (.inl (U3,Re,U2,Ub,U1,U0,UZ))
def eV (n:Nat)(NL:af)(l_1:List Bk):Option (Bk×Bool×af) :=jn (bS n l_1 n 0 NL.fl NL.fat NL.G' NL.Gw NL.AI.Ar NL.AI.fAt NL.AI.AT) λ Sr=>some (([]:Bk),false,(af.mk Sr.1 Sr.2.1 Sr.2.2.1 Sr.2.2.2.1 (au.mk Sr.2.2.2.2.1 Sr.2.2.2.2.2.1 Sr.2.2.2.2.2.2)))
theorem pE (n:Nat)(NL:af)(l_1:List Bk)(r:Bk×Bool×af)(h0:eV n NL l_1=some r):aS Tryz.prog 185 [.ptr 1000000 0,.p (eL eS l_1)] [(1000000,((af.cs NL).map .p))] (λ x y=>x=.tuple [.p (eS r.1),.p (eB r.2.1)]/\y=[(1000000,((af.cs r.2.2).map .p))]):=by
 unfold eV at h0;refine bT good [] [1000000] Tryz.func185 Z Z Z Z Z λ w0 F=>mPo (λ v:Bk×Bool×af=>.tuple [.p (eS v.1),.p (eB v.2.1)]) (λ v=>[(1000000,((af.cs v.2.2).map .p))]) ?_;refine nx 9 rfl (oLl (f:=eS) Z Z ?_);refine nx 3 rfl ?_;obtain ⟨Sy,h1,Ou,hR0⟩:=cw h0;refine kEx 0 (λ v46:(List ac)×Int×Int×Int×Int×Int×Bk=>Sy=.inl v46) (λ v46=>⟨[],[(1000000,[.p (eL az v46.1),.p (eI v46.2.1),.p (eI v46.2.2.1),.p (eI v46.2.2.2.1),.p (eI v46.2.2.2.2.1),.p (eI v46.2.2.2.2.2.1),.p (eS v46.2.2.2.2.2.2)])]⟩) (λ v46 hv=>?_) ?_
 ·have h0:=Ou _ hv;exact nx 7 Z (mQo (oi h0) (aJ _) Z Z Z Z (cb ⟨sr,sr,trivial⟩) ⟨⟨_,Z,⟨sr,sr,sr,sr,sr,sr,sr,trivial⟩⟩,trivial⟩)
 refine lG (λ (PQ:Int×(List ac)×Int×Int×Int×Int×Int×Bk)=>⟨[(0,.ptr 1000000 0),(8,.p (eL eS l_1)),(9,.p (eI (l_1.length:Int))),(10,.p (eI PQ.1))],[(1000000,[.p (eL az PQ.2.1),.p (eI PQ.2.2.1),.p (eI PQ.2.2.2.1),.p (eI PQ.2.2.2.2.1),.p (eI PQ.2.2.2.2.2.1),.p (eI PQ.2.2.2.2.2.2.1),.p (eS PQ.2.2.2.2.2.2.2)])]⟩) (λ m (PQ:Int×(List ac)×Int×Int×Int×Int×Int×Bk)=>bS n l_1 m PQ.1 PQ.2.1 PQ.2.2.1 PQ.2.2.2.1 PQ.2.2.2.2.1 PQ.2.2.2.2.2.1 PQ.2.2.2.2.2.2.1 PQ.2.2.2.2.2.2.2) Y (0,NL.fl,NL.fat,NL.G',NL.Gw,NL.AI.Ar,NL.AI.fAt,NL.AI.AT) h1 (gE rfl rfl) ?_;rintro m ⟨Sl,U3,Re,U2,Ub,U1,U0,UZ⟩ h1;replace h1:bS n l_1 (m+1) Sl U3 Re U2 Ub U1 U0 UZ=some Sy:=h1;rw [bS] at h1;refine nx 5 rfl (fD [11] h1 rfl (λ P3 h1=>?_) λ P3 h1=>?_)
 ·refine nx 6 Z (oE h1 Y Z Z Y λ P7 h1=>?_);refine nx 7 Z (bd h1 λ P0 Vg h1=>?_);refine mO Z (cVq [1000000] [] 102000 102000 (bN _ (af.mk U3 Re U2 Ub (au.mk U1 U0 UZ)) (lat l_1 Sl) _ Vg) Tryz.call162 Z ?_);refine nx 1 Z (fB [16] h1 Z (λ QP h1=>?_) λ QP h1=>?_)
  ·exact nx 8 Z (mQo (hR0 _ (oi h1).symm) (aJ _) Z Z Z Z (cb ⟨sr,sr,trivial⟩) ⟨⟨_,Z,⟨sr,sr,sr,sr,sr,sr,sr,trivial⟩⟩,trivial⟩)
  refine nx 3 Z (oA h1 Z Z λ SI h1=>?_);exact nx 2 Z (eX (Sl+1,P0.2.fl,P0.2.fat,P0.2.G',P0.2.Gw,P0.2.AI.Ar,P0.2.AI.fAt,P0.2.AI.AT) h1 (gE Z Z))
 exact cH
def kh (O1:Int):Option (List Bk) :=if O1=0 then some ([([124,124]:Bk)])else if O1=1 then some ([([38,38]:Bk)])else if O1=2 then some ([([61,61]:Bk),([33,61]:Bk)])else if O1=3 then some ([([60]:Bk),([60,61]:Bk),([62]:Bk),([62,61]:Bk)])else if O1=4 then some ([([43]:Bk),([45]:Bk)])else some ([([42]:Bk),([47]:Bk),([37]:Bk)])
theorem si (O1:Int)(r:(List Bk))(h0:kh O1=some r):aK Tryz.prog 186 [eI O1] (·=.p (eL eS r)):=by
 unfold kh at h0;refine bV good Tryz.func186 Z Z Z λ w0=>mP (λ v:(List Bk)=>.p (eL eS v)) ?_;refine nx 15 Z (fD [4,5] h0 Z (λ c1 h0=>?_) λ c1 h0=>?_)
 ·refine nx 3 Z (mO Z (bz eS [([124,124]:Bk)] Z Z Z Z Z Z Z Z Z Z Z Z Z Z ?_));exact nz
 refine nx 6 Z (fD [7,8] h0 Z (λ c2 h0=>?_) λ c2 h0=>?_)
 ·refine nx 3 Z (mO Z (bz eS [([38,38]:Bk)] Z Z Z Z Z Z Z Z Z Z Z Z Z Z ?_));exact nz
 refine nx 6 Z (fD [10,11] h0 Z (λ c3 h0=>?_) λ c3 h0=>?_)
 ·refine nx 3 Z (mO Z (bz eS [([61,61]:Bk),([33,61]:Bk)] Z Z Z Z Z Z Z Z Z Z Z Z Z Z ?_));exact nz
 refine nx 6 Z (fD [13,14] h0 Z (λ c4 h0=>?_) λ c4 h0=>?_)
 ·refine nx 3 Z (mO Z (bz eS [([60]:Bk),([60,61]:Bk),([62]:Bk),([62,61]:Bk)] Z Z Z Z Z Z Z Z Z Z Z Z Z Z ?_));exact nz
 refine nx 6 Z (fD [16,17] h0 Z (λ c5 h0=>?_) λ c5 h0=>?_)
 ·refine nx 3 Z (mO Z (bz eS [([43]:Bk),([45]:Bk)] Z Z Z Z Z Z Z Z Z Z Z Z Z Z ?_));exact nz
 refine nx 4 Z (mO Z (bz eS [([42]:Bk),([47]:Bk),([37]:Bk)] Z Z Z Z Z Z Z Z Z Z Z Z Z Z ?_));exact nz
def iF (NN:Bk):Nat->Int->Option (Unit⊕Int)|0,_=>none|m+1,t7=>if t7<13 then ck ((0:Int)<=t7/\t7<13)<|if lat ([([124,124]:Bk),([38,38]:Bk),([61,61]:Bk),([33,61]:Bk),([60]:Bk),([60,61]:Bk),([62]:Bk),([62,61]:Bk),([43]:Bk),([45]:Bk),([42]:Bk),([47]:Bk),([37]:Bk)]:List Bk) t7=NN then ck (inR (3+t7))<|some (.inr (3+t7))else ck (inR (t7+1))<|iF NN m (t7+1)else some (.inl ())
def rB (n:Nat)(NN:Bk):Option Int :=jn (iF NN n 0) λ _q14=>some 0
theorem Cq (n:Nat)(NN:Bk)(r:Int)(h0:rB n NN=some r):aK Tryz.prog 187 [eS NN] (·=.p (eI r)):=by
 unfold rB at h0;refine bV good Tryz.func187 Z Z Z λ w0=>mP (λ v:Int=>.p (eI v)) ?_;refine nx 11 rfl ?_;obtain ⟨o15,h1,Ou,hR0⟩:=cw h0;refine kEx 0 (λ v16:Unit=>o15=.inl v16) (λ v16=>⟨[],[]⟩) (λ v16 hv=>?_) ?_
 ·have h0:=Ou _ hv;exact ez
 refine lG (λ (q17:Int)=>⟨[(0,.p (eS NN)),(5,.p (.agg [eS ([124,124]:Bk),eS ([38,38]:Bk),eS ([61,61]:Bk),eS ([33,61]:Bk),eS ([60]:Bk),eS ([60,61]:Bk),eS ([62]:Bk),eS ([62,61]:Bk),eS ([43]:Bk),eS ([45]:Bk),eS ([42]:Bk),eS ([47]:Bk),eS ([37]:Bk)])),(6,.p (eI q17))],[]⟩) (λ m (q17:Int)=>iF NN m q17) Y 0 h1 (gE rfl rfl) ?_;rintro m t7 h1;replace h1:iF NN (m+1) t7=some o15:=h1;rw [iF] at h1;refine nx 5 rfl (fD [7] h1 rfl (λ c8 h1=>?_) λ c8 h1=>?_)
 ·refine nx 7 Z (cc' h1 λ Rk h1=>?_);refine mO Z (w6 eS ([([124,124]:Bk),([38,38]:Bk),([61,61]:Bk),([33,61]:Bk),([60]:Bk),([60,61]:Bk),([62]:Bk),([62,61]:Bk),([43]:Bk),([45]:Bk),([42]:Bk),([47]:Bk),([37]:Bk)]:List Bk) Z Z Z Z Z Z Z Z Z Z Z (by have:=Rk; simp only [cl,n7]; omega) ?_);refine nx 7 Z (oS Z Z ?_);refine nx 1 Z (fD [12] h1 Z (λ QF h1=>?_) λ QF h1=>?_)
  ·refine nx 4 Z (oA h1 Z Z λ Qd h1=>?_);exact nx 3 Z (mQ (hR0 _ (oi h1).symm) Z (sr))
  refine nx 3 Z (oA h1 Z Z λ QM h1=>?_);exact nx 2 Z (eX (t7+1) h1 (gE Z Z))
 exact cH
end Go.Ab.R06
end
