/- Texts of the proof, one behind the other. No statement is proved here. -/
import Derived.Test.YtihghalcmfpnaaaGreatDoorZ14Da
import Derived.Test.YtihghalcmfpnaaaGreatDoorZ14Db
import Derived.Test.YtihghalcmfpnaaaGreatDoorZ14Dc
import Derived.Test.YtihghalcmfpnaaaGreatDoorZ14Dd
import Derived.Test.YtihghalcmfpnaaaGreatDoorZ14De
set_option maxHeartbeats 4000000
section
namespace Go.Ab.R06
open Go.Proofs Go.Ab Go.Ab.RB
variable {p:Prop}
theorem J1 (h:p:=by
  exact nx 7 Z (mQo (hR0 _ (hR1 _ (oi h2).symm).symm) (aU _) Z Z Z Z (sr) ⟨⟨_,Z,⟨sr,sr,sr,sr,sr,sr,trivial⟩⟩,trivial⟩)):p:=h
set_option maxRecDepth 4000
attribute [local irreducible] awp hH bc bG co AV.sub M cO
instance Sp:HE Tryz.prog 36:=⟨Tryz.call36⟩
instance SB:HE Tryz.prog 42:=⟨Tryz.call42⟩
instance RV:HE Tryz.prog 67:=⟨Tryz.call67⟩
instance RU:HE Tryz.prog 81:=⟨Tryz.call81⟩
instance RY:HE Tryz.prog 109:=⟨Tryz.call109⟩
instance SG:HE Tryz.prog 143:=⟨Tryz.call143⟩
instance Re:HE Tryz.prog 144:=⟨Tryz.call144⟩
instance P7:HE Tryz.prog 167:=⟨Tryz.call167⟩
instance QU:HE Tryz.prog 187:=⟨Tryz.call187⟩
instance PM:HE Tryz.prog 200:=⟨Tryz.call200⟩
instance PF:HE Tryz.prog 20:=⟨Tryz.call20⟩
instance Pk:HE Tryz.prog 201:=⟨Tryz.call201⟩
instance Pr:HE Tryz.prog 202:=⟨Tryz.call202⟩
instance Q0:HE Tryz.prog 203:=⟨Tryz.call203⟩
instance RJ:HE Tryz.prog 215:=⟨Tryz.call215⟩
instance QZ:HE Tryz.prog 216:=⟨Tryz.call216⟩
instance PG:HE Tryz.prog 217:=⟨Tryz.call217⟩
instance RN:HE Tryz.prog 226:=⟨Tryz.call226⟩
instance Rz:HE Tryz.prog 66:=⟨Tryz.call66⟩
abbrev mZ (F:aj->Option (ac×aj))(k:Nat):Prop:=∀ (a0:aj) (r:ac×aj),HO (F a0=some r) Tryz.prog k [.ptr 1000000 0] [(1000000,((aj.cs a0).map .p))] (.p (.agg (ac.cs r.1))) ([(1000000,((aj.cs r.2).map .p))])
abbrev uH (F:aj->ab->Option (ac×aj))(k:Nat):Prop:=∀ (a0:aj) (a1:ab) (r:ac×aj),HO (F a0 a1=some r) Tryz.prog k [.ptr 1000000 0,.p (.agg (ab.cs a1))] [(1000000,((aj.cs a0).map .p))] (.p (.agg (ac.cs r.1))) ([(1000000,((aj.cs r.2).map .p))])
abbrev zz (F:Bk->Int->Option (ac×ao))(k:Nat):Prop:=∀ (a0:Bk) (a1:Int) (r:ac×ao),HP (F a0 a1=some r) Tryz.prog k [eS a0,eI a1] (.tuple [.p (.agg (ac.cs r.1)),.p (.agg (ao.cs r.2))])
abbrev KG (v:Int×Int×Bk×Bk×Int×Int×Bk×List am×List Bk×List ac×Int):List AV:=[.p (eI v.1),.p (eI v.2.1),.p (eS v.2.2.1),.p (eS v.2.2.2.1),.p (eI v.2.2.2.2.1),.p (eI v.2.2.2.2.2.1),.p (eS v.2.2.2.2.2.2.1),.p (eL db v.2.2.2.2.2.2.2.1),.p (eL eS v.2.2.2.2.2.2.2.2.1),.p (eL ak v.2.2.2.2.2.2.2.2.2.1),.p (eI v.2.2.2.2.2.2.2.2.2.2)]
abbrev bb (v:List ab×Int×Int×Int×Int×Bk):List AV:=[.p (eL aB v.1),.p (eI v.2.1),.p (eI v.2.2.1),.p (eI v.2.2.2.1),.p (eI v.2.2.2.2.1),.p (eS v.2.2.2.2.2)]
abbrev cX (a0 a1 a2 a3 a4:AV):List AV:=[a0,.p (eI 0),a1,a2,.p (eI 0),.p (eI 0),.p (eS ([]:Bk)),.p (.val (.slice none 0 0)),.p (.val (.slice none 0 0)),a3,a4]
abbrev eZ (a0 a1:AV):List AV:=[.p (eI 11),.p (eI 0),.p (eS ([]:Bk)),.p (eS ([]:Bk)),.p (eI 0),.p (eI 0),.p (eS ([]:Bk)),.p (.val (.slice none 0 0)),.p (.val (.slice none 0 0)),a0,a1]
abbrev mY (a0 a1 a2 a3:AV):List AV:=[a0,.p (eI 0),a1,a2,.p (eI 0),.p (eI 0),.p (eS ([]:Bk)),.p (.val (.slice none 0 0)),.p (.val (.slice none 0 0)),.p (.val (.slice none 0 0)),a3]
abbrev aH:List AV:=[.p (eI 0),.p (eI 0),.p (eS ([]:Bk)),.p (eS ([]:Bk)),.p (eI 0),.p (eI 0),.p (eS ([]:Bk)),.p (.val (.slice none 0 0)),.p (.val (.slice none 0 0)),.p (.val (.slice none 0 0)),.p (eI 0)]
abbrev IU:List PV:=[eI 0,eI 0,eS ([]:Bk),eS ([]:Bk),eI 0,eI 0,eS ([]:Bk),.val (.slice none 0 0),.val (.slice none 0 0),.val (.slice none 0 0),eI 0]
abbrev iM:List AV:=[.p (eI 0),.p (eI 0),.p (eS ([]:Bk))]
def eO (N':Int)(r1:(List ab)×ao):Nat->(List ab)->Int->Option (List ab)|0,_,_=>none|m+1,UL,i15=>if i15<(r1.1.length:Int) then ck ((0:Int)<=i15/\i15<(r1.1.length:Int))<|ck ((0:Int)<=i15/\i15<(r1.1.length:Int))<|ck ((0:Int)<=i15/\i15<(r1.1.length:Int))<|ck (inR (((lat r1.1 i15).fAt)+N'))<|ck ((UL.length+[(ab.mk ((lat r1.1 i15).Ar) ((lat r1.1 i15).By) (((lat r1.1 i15).fAt)+N'))].length)*32<=140737488355328)<|ck (inR (i15+1))<|eO N' r1 m (UL++[(ab.mk ((lat r1.1 i15).Ar) ((lat r1.1 i15).By) (((lat r1.1 i15).fAt)+N'))]) (i15+1)else some UL
def cG (n:Nat)(VA:Bk->Int->Option (ac×ao))(Mr:Bk)(N':Int):Nat->(List ac)->Bool->Int->Option (((List ac)×Bool)⊕((List ac)×Bool×ao))|0,_,_,_=>none|m+1,VK,open36,i37=>if i37<(Mr.length:Int) then jn ((ga Mr i37 ([36,123]:Bk)).bind λ XF=>if XF=true then ck (inR (i37+2))<|(cK n Mr (i37+2)).bind λ We=>if We<0 then ck (inR (N'+i37))<|some (.inr (.inr ([],false,(ao.mk 40 (N'+i37) ([]:Bk)))))else ck (inR (i37+2))<|ck ((0:Int)<=i37+2/\i37+2<=We/\We<=(Mr.length:Int))<|ck (inR (N'+i37))<|ck (inR ((N'+i37)+2))<|(VA (sub Mr (i37+2) We) ((N'+i37)+2)).bind λ Vb=>if Vb.2.Ar=0 then ck ((VK.length+[Vb.1].length)*160<=140737488355328)<|ck (inR (We+1))<|some (.inl (VK++[Vb.1],true,We+1))else some (.inr (.inr ([],false,Vb.2)))else(nr n Mr i37).bind λ VR=>if VR.2.2=0 then if 4096<(VR.1.length:Int) then ck (inR (N'+i37))<|some (.inr (.inr ([],false,(ao.mk 3 (N'+i37) ([]:Bk)))))else ck (inR (N'+i37))<|(gm (am.mk 3 0 VR.1 [] []) (N'+i37)).bind λ Ww=>ck ((VK.length+[Ww].length)*160<=140737488355328)<|some (.inl (VK++[Ww],open36,VR.2.1))else ck (inR (N'+VR.2.1))<|some (.inr (.inr ([],false,(ao.mk VR.2.2 (N'+VR.2.1) ([]:Bk))))) : Option (((List ac)×Bool×Int)⊕(((List ac)×Bool)⊕((List ac)×Bool×ao)))) λ XU=>cG n VA Mr N' m XU.1 XU.2.1 XU.2.2 else some (.inl (VK,open36))
def bO (n:Nat)(U7:aj->Int->Option (ac×aj))(O':Int)(r5:ac×aj):Nat->Int->Int->Bk->Bk->Int->Int->Bk->(List am)->(List Bk)->(List ac)->(List ab)->Int->Int->Int->Int->Bk->Option (Int×Int×Bk×Bk×Int×Int×Bk×(List am)×(List Bk)×(List ac)×(List ab)×Int×Int×Int×Int×Bk)|0,_,_,_,_,_,_,_,_,_,_,_,_,_,_,_,_=>none|m+1,WH,WG,Xa,W9,Zp,Zo,Yj,Yi,Yh,WW,Xj,Yg,Zn,Zm,Zl,Zk=>((au (aj.mk Xj Yg Zn (ao.mk Zm Zl Zk))).bind λ Vi=>if (!Vi.1)=true then(dH n Vi.2 O').bind λ Va=>some (!decide (Va.1=0),Va.2.fL,Va.2.fI,Va.2.fIn,Va.2.fD.Ar,Va.2.fD.fAt,Va.2.fD.AI)else some (false,Vi.2.fL,Vi.2.fI,Vi.2.fIn,Vi.2.fD.Ar,Vi.2.fD.fAt,Vi.2.fD.AI)).bind λ Wn=>if Wn.1=true then(dH n (aj.mk Wn.2.1 Wn.2.2.1 Wn.2.2.2.1 (ao.mk Wn.2.2.2.2.1 Wn.2.2.2.2.2.1 Wn.2.2.2.2.2.2)) O').bind λ Y0=>ck (inR (Y0.2.fI+1))<|ck (inR (O'+1))<|(U7 (aj.mk Y0.2.fL (Y0.2.fI+1) Y0.2.fIn Y0.2.fD) (O'+1)).bind λ Wv=>bO n U7 O' r5 m 7 Y0.1 ([]:Bk) ([]:Bk) 0 0 ([]:Bk) [] [] [(ac.mk WH WG Xa W9 (am.mk Zp Zo Yj Yi Yh) WW r5.1.fAt),Wv.1] Wv.2.fL Wv.2.fI Wv.2.fIn Wv.2.fD.Ar Wv.2.fD.fAt Wv.2.fD.AI else some (WH,WG,Xa,W9,Zp,Zo,Yj,Yi,Yh,WW,Wn.2.1,Wn.2.2.1,Wn.2.2.2.1,Wn.2.2.2.2.1,Wn.2.2.2.2.2.1,Wn.2.2.2.2.2.2)
def bf (n:Nat)(Uy:aj->Option (ac×aj))(r1:ac×aj):Nat->Int->Int->Bk->Bk->Int->Int->Bk->(List am)->(List Bk)->(List ac)->(List ab)->Int->Int->Int->Int->Bk->Option ((Int×Int×Bk×Bk×Int×Int×Bk×(List am)×(List Bk)×(List ac)×(List ab)×Int×Int×Int×Int×Bk)⊕(ac×aj))|0,_,_,_,_,_,_,_,_,_,_,_,_,_,_,_,_=>none|m+1,Xi,Yf,Ye,Yd,Yc,Yb,Ya,X9,Vg,X8,f70,f71,f72,f73,f74,f75=>(au (aj.mk f70 f71 f72 (ao.mk f73 f74 f75))).bind λ W6=>if (!W6.1)=true then jn ((aX n W6.2 ([46]:Bk)).bind λ Z8=>if Z8.1=true then ck (inR (Z8.2.fI+1))<|(bH n (aj.mk Z8.2.fL (Z8.2.fI+1) Z8.2.fIn Z8.2.fD)).bind λ W0=>if W0.1.Ar=1 then ck (inR (W0.2.fI+1))<|some (.inl (4,W0.1.By,[(ac.mk Xi Yf Ye Yd (am.mk Yc Yb Ya X9 Vg) X8 r1.1.fAt)],W0.2.fL,W0.2.fI+1,W0.2.fIn,W0.2.fD.Ar,W0.2.fD.fAt,W0.2.fD.AI))else(bW n W0.2).bind λ r86=>some (.inr (.inr ((ac.mk Xi Yf Ye Yd (am.mk Yc Yb Ya X9 Vg) X8 r1.1.fAt),r86)))else(aX n Z8.2 ([91]:Bk)).bind λ ZH=>if ZH.1=true then ck (inR (ZH.2.fI+1))<|ck (inR (ZH.2.fIn+1))<|(Uy (aj.mk ZH.2.fL (ZH.2.fI+1) (ZH.2.fIn+1) ZH.2.fD)).bind λ WM=>((au WM.2).bind λ YZ=>if (!YZ.1)=true then(bT n YZ.2 ([93]:Bk)).bind λ r99=>some (r99.fL,r99.fI,r99.fIn,r99.fD.Ar,r99.fD.fAt,r99.fD.AI)else some (YZ.2.fL,YZ.2.fI,YZ.2.fIn,YZ.2.fD.Ar,YZ.2.fD.fAt,YZ.2.fD.AI)).bind λ XY=>ck (inR (XY.2.2.1-1))<|some (.inl (5,([]:Bk),[(ac.mk Xi Yf Ye Yd (am.mk Yc Yb Ya X9 Vg) X8 r1.1.fAt),WM.1],XY.1,XY.2.1,XY.2.2.1-1,XY.2.2.2.1,XY.2.2.2.2.1,XY.2.2.2.2.2))else some (.inr (.inr ((ac.mk Xi Yf Ye Yd (am.mk Yc Yb Ya X9 Vg) X8 r1.1.fAt),ZH.2))) : Option ((Int×Bk×(List ac)×(List ab)×Int×Int×Int×Int×Bk)⊕((Int×Int×Bk×Bk×Int×Int×Bk×(List am)×(List Bk)×(List ac)×(List ab)×Int×Int×Int×Int×Bk)⊕(ac×aj)))) λ Xf=>bf n Uy r1 m Xf.1 0 Xf.2.1 ([]:Bk) 0 0 ([]:Bk) [] [] Xf.2.2.1 Xf.2.2.2.1 Xf.2.2.2.2.1 Xf.2.2.2.2.2.1 Xf.2.2.2.2.2.2.1 Xf.2.2.2.2.2.2.2.1 Xf.2.2.2.2.2.2.2.2 else some (.inl (Xi,Yf,Ye,Yd,Yc,Yb,Ya,X9,Vg,X8,W6.2.fL,W6.2.fI,W6.2.fIn,W6.2.fD.Ar,W6.2.fD.fAt,W6.2.fD.AI))
def bp (n:Nat)(Vf:aj->Option (ac×aj))(Vd:aj->Option (ac×aj)):Nat->(List ac)->(List ab)->Int->Int->Int->Int->Bk->Option ((List ac)×(List ab)×Int×Int×Int×Int×Bk)|0,_,_,_,_,_,_,_=>none|m+1,Vg,X8,f70,f71,f72,f73,f74=>((au (aj.mk X8 f70 f71 (ao.mk f72 f73 f74))).bind λ Wv=>if (!Wv.1)=true then(aX n Wv.2 ([125]:Bk)).bind λ XD=>some (!XD.1,XD.2.fL,XD.2.fI,XD.2.fIn,XD.2.fD.Ar,XD.2.fD.fAt,XD.2.fD.AI)else some (false,Wv.2.fL,Wv.2.fI,Wv.2.fIn,Wv.2.fD.Ar,Wv.2.fD.fAt,Wv.2.fD.AI)).bind λ Wj=>if Wj.1=true then((Vf (aj.mk Wj.2.1 Wj.2.2.1 Wj.2.2.2.1 (ao.mk Wj.2.2.2.2.1 Wj.2.2.2.2.2.1 Wj.2.2.2.2.2.2))).bind λ VW=>ck ((Vg.length+[VW.1].length)*160<=140737488355328)<|((au VW.2).bind λ ZG=>if (!ZG.1)=true then(bT n ZG.2 ([61]:Bk)).bind λ WM=>some (WM.fL,WM.fI,WM.fIn,WM.fD.Ar,WM.fD.fAt,WM.fD.AI)else some (ZG.2.fL,ZG.2.fI,ZG.2.fIn,ZG.2.fD.Ar,ZG.2.fD.fAt,ZG.2.fD.AI)).bind λ Yw=>(Vd (aj.mk Yw.1 Yw.2.1 Yw.2.2.1 (ao.mk Yw.2.2.2.1 Yw.2.2.2.2.1 Yw.2.2.2.2.2))).bind λ VN=>ck (((Vg++[VW.1]).length+[VN.1].length)*160<=140737488355328)<|((au VN.2).bind λ Xe=>if (!Xe.1)=true then(aX n Xe.2 ([125]:Bk)).bind λ U8=>some (!U8.1,U8.2.fL,U8.2.fI,U8.2.fIn,U8.2.fD.Ar,U8.2.fD.fAt,U8.2.fD.AI)else some (false,Xe.2.fL,Xe.2.fI,Xe.2.fIn,Xe.2.fD.Ar,Xe.2.fD.fAt,Xe.2.fD.AI)).bind λ Wi=>if Wi.1=true then(bT n (aj.mk Wi.2.1 Wi.2.2.1 Wi.2.2.2.1 (ao.mk Wi.2.2.2.2.1 Wi.2.2.2.2.2.1 Wi.2.2.2.2.2.2)) ([44]:Bk)).bind λ VM=>some ((Vg++[VW.1])++[VN.1],VM.fL,VM.fI,VM.fIn,VM.fD.Ar,VM.fD.fAt,VM.fD.AI)else some ((Vg++[VW.1])++[VN.1],Wi.2.1,Wi.2.2.1,Wi.2.2.2.1,Wi.2.2.2.2.1,Wi.2.2.2.2.2.1,Wi.2.2.2.2.2.2)).bind λ UM=>bp n Vf Vd m UM.1 UM.2.1 UM.2.2.1 UM.2.2.2.1 UM.2.2.2.2.1 UM.2.2.2.2.2.1 UM.2.2.2.2.2.2 else some (Vg,Wj.2.1,Wj.2.2.1,Wj.2.2.2.1,Wj.2.2.2.2.1,Wj.2.2.2.2.2.1,Wj.2.2.2.2.2.2)
def bw (n:Nat)(Uy:aj->Option (ac×aj))(end_1:Bk):Nat->(List ac)->(List ab)->Int->Int->Int->Int->Bk->Option ((List ac)×(List ab)×Int×Int×Int×Int×Bk)|0,_,_,_,_,_,_,_=>none|m+1,V4,Yj,Yi,Yh,WW,Xj,Yg=>((au (aj.mk Yj Yi Yh (ao.mk WW Xj Yg))).bind λ V8=>if (!V8.1)=true then(aX n V8.2 end_1).bind λ Zw=>some (!Zw.1,Zw.2.fL,Zw.2.fI,Zw.2.fIn,Zw.2.fD.Ar,Zw.2.fD.fAt,Zw.2.fD.AI)else some (false,V8.2.fL,V8.2.fI,V8.2.fIn,V8.2.fD.Ar,V8.2.fD.fAt,V8.2.fD.AI)).bind λ Wm=>if Wm.1=true then((Uy (aj.mk Wm.2.1 Wm.2.2.1 Wm.2.2.2.1 (ao.mk Wm.2.2.2.2.1 Wm.2.2.2.2.2.1 Wm.2.2.2.2.2.2))).bind λ Z9=>ck ((V4.length+[Z9.1].length)*160<=140737488355328)<|((au Z9.2).bind λ ZI=>if (!ZI.1)=true then(aX n ZI.2 end_1).bind λ VQ=>some (!VQ.1,VQ.2.fL,VQ.2.fI,VQ.2.fIn,VQ.2.fD.Ar,VQ.2.fD.fAt,VQ.2.fD.AI)else some (false,ZI.2.fL,ZI.2.fI,ZI.2.fIn,ZI.2.fD.Ar,ZI.2.fD.fAt,ZI.2.fD.AI)).bind λ Wl=>if Wl.1=true then(bT n (aj.mk Wl.2.1 Wl.2.2.1 Wl.2.2.2.1 (ao.mk Wl.2.2.2.2.1 Wl.2.2.2.2.2.1 Wl.2.2.2.2.2.2)) ([44]:Bk)).bind λ W0=>some (V4++[Z9.1],W0.fL,W0.fI,W0.fIn,W0.fD.Ar,W0.fD.fAt,W0.fD.AI)else some (V4++[Z9.1],Wl.2.1,Wl.2.2.1,Wl.2.2.2.1,Wl.2.2.2.2.1,Wl.2.2.2.2.2.1,Wl.2.2.2.2.2.2)).bind λ X2=>bw n Uy end_1 m X2.1 X2.2.1 X2.2.2.1 X2.2.2.2.1 X2.2.2.2.2.1 X2.2.2.2.2.2.1 X2.2.2.2.2.2.2 else some (V4,Wm.2.1,Wm.2.2.1,Wm.2.2.2.1,Wm.2.2.2.2.1,Wm.2.2.2.2.2.1,Wm.2.2.2.2.2.2)
mutual
def io:Nat->Bk->Int->Option (ac×ao)|0,_,_=>none|n+1,Mr,N'=>((me n) Mr N').bind λ r1=>(if (!r1.2.1)=true then(gm (am.mk 3 0 ([]:Bk) [] []) N').bind λ r4=>if (r1.1.length:Int)=1 then ck ((0:Int)<=0/\0<(r1.1.length:Int))<|some (r4.Ar,r4.fOp,r4.AI,r4.D',r4.A'.Ar,r4.A'.F',((lat r1.1 0).A').If,r4.A'.Df,r4.A'.C',r4.BY,r4.fAt)else some (r4.Ar,r4.fOp,r4.AI,r4.D',r4.A'.Ar,r4.A'.F',r4.A'.If,r4.A'.Df,r4.A'.C',r4.BY,r4.fAt)else some (2,0,([]:Bk),([]:Bk),0,0,([]:Bk),[],[],r1.1,N')).bind λ XX=>(bX n (aj.mk [] 0 0 r1.2.2) (ac.mk XX.1 XX.2.1 XX.2.2.1 XX.2.2.2.1 (am.mk XX.2.2.2.2.1 XX.2.2.2.2.2.1 XX.2.2.2.2.2.2.1 XX.2.2.2.2.2.2.2.1 XX.2.2.2.2.2.2.2.2.1) XX.2.2.2.2.2.2.2.2.2.1 XX.2.2.2.2.2.2.2.2.2.2)).bind λ Wx=>some (Wx.1,Wx.2.1)
def ee:Nat->Bk->Int->Option (ac×ao)|0,_,_=>none|n+1,Mr,N'=>(lf n Mr).bind λ r1=>if r1.2.Ar=0 then(eO N' r1 n [] 0).bind λ ZS=>((aG n) (aj.mk ZS 0 1 (ao.mk 0 0 ([]:Bk)))).bind λ Ve=>(((au Ve.2).bind λ UX=>if (!UX.1)=true then(bH n UX.2).bind λ XG=>some (!decide (XG.1.Ar=6),XG.2.fL,XG.2.fI,XG.2.fIn,XG.2.fD.Ar,XG.2.fD.fAt,XG.2.fD.AI)else some (false,UX.2.fL,UX.2.fI,UX.2.fIn,UX.2.fD.Ar,UX.2.fD.fAt,UX.2.fD.AI)).bind λ Vs=>if Vs.1=true then(bW n (aj.mk Vs.2.1 Vs.2.2.1 Vs.2.2.2.1 (ao.mk Vs.2.2.2.2.1 Vs.2.2.2.2.2.1 Vs.2.2.2.2.2.2))).bind λ ZK=>some (ZK.fL,ZK.fI,ZK.fIn,ZK.fD.Ar,ZK.fD.fAt,ZK.fD.AI)else some (Vs.2.1,Vs.2.2.1,Vs.2.2.2.1,Vs.2.2.2.2.1,Vs.2.2.2.2.2.1,Vs.2.2.2.2.2.2)).bind λ Y5=>some (Ve.1,(ao.mk Y5.2.2.2.1 Y5.2.2.2.2.1 Y5.2.2.2.2.2))else ck (inR (r1.2.fAt+N'))<|some ((ac.mk 0 0 ([]:Bk) ([]:Bk) (am.mk 0 0 ([]:Bk) [] []) [] 0),(ao.mk r1.2.Ar (r1.2.fAt+N') ([]:Bk)))
def me:Nat->Bk->Int->Option ((List ac)×Bool×ao)|0,_,_=>none|n+1,Mr,N'=>jn (cG n (ee n) Mr N' n [] false 0) λ q74=>some (q74.1,q74.2,(ao.mk 0 0 ([]:Bk)))
def aG:Nat->aj->Option (ac×aj)|0,_=>none|n+1,OF=>((bE n) OF 0).bind λ r1=>((au r1.2).bind λ r3=>if r3.1=true then some (true,r3.2.fL,r3.2.fI,r3.2.fIn,r3.2.fD.Ar,r3.2.fD.fAt,r3.2.fD.AI)else(aX n r3.2 ([63]:Bk)).bind λ r6=>some (!r6.1,r6.2.fL,r6.2.fI,r6.2.fIn,r6.2.fD.Ar,r6.2.fD.fAt,r6.2.fD.AI)).bind λ VS=>if VS.1=true then some (r1.1,(aj.mk VS.2.1 VS.2.2.1 VS.2.2.2.1 (ao.mk VS.2.2.2.2.1 VS.2.2.2.2.2.1 VS.2.2.2.2.2.2)))else ck (inR (VS.2.2.1+1))<|((aG n) (aj.mk VS.2.1 (VS.2.2.1+1) VS.2.2.2.1 (ao.mk VS.2.2.2.2.1 VS.2.2.2.2.2.1 VS.2.2.2.2.2.2))).bind λ Wg=>(au Wg.2).bind λ Wx=>if Wx.1=true then some (r1.1,Wx.2)else(bT n Wx.2 ([58]:Bk)).bind λ V9=>(au V9).bind λ WP=>if WP.1=true then some (r1.1,WP.2)else((aG n) WP.2).bind λ Vr=>some ((ac.mk 8 0 ([]:Bk) ([]:Bk) (am.mk 0 0 ([]:Bk) [] []) [r1.1,Wg.1,Vr.1] r1.1.fAt),Vr.2)
def bE:Nat->aj->Int->Option (ac×aj)|0,_,_=>none|n+1,OF,O'=>if 5<O' then((dY n) OF).bind λ r2=>some (r2.1,r2.2)else ck (inR (O'+1))<|((bE n) OF (O'+1)).bind λ r5=>(bO n (bE n) O' r5 n r5.1.Ar r5.1.fOp r5.1.AI r5.1.D' r5.1.A'.Ar r5.1.A'.F' r5.1.A'.If r5.1.A'.Df r5.1.A'.C' r5.1.BY r5.2.fL r5.2.fI r5.2.fIn r5.2.fD.Ar r5.2.fD.fAt r5.2.fD.AI).bind λ Vz=>some ((ac.mk Vz.1 Vz.2.1 Vz.2.2.1 Vz.2.2.2.1 (am.mk Vz.2.2.2.2.1 Vz.2.2.2.2.2.1 Vz.2.2.2.2.2.2.1 Vz.2.2.2.2.2.2.2.1 Vz.2.2.2.2.2.2.2.2.1) Vz.2.2.2.2.2.2.2.2.2.1 r5.1.fAt),(aj.mk Vz.2.2.2.2.2.2.2.2.2.2.1 Vz.2.2.2.2.2.2.2.2.2.2.2.1 Vz.2.2.2.2.2.2.2.2.2.2.2.2.1 (ao.mk Vz.2.2.2.2.2.2.2.2.2.2.2.2.2.1 Vz.2.2.2.2.2.2.2.2.2.2.2.2.2.2.1 Vz.2.2.2.2.2.2.2.2.2.2.2.2.2.2.2)))
def dY:Nat->aj->Option (ac×aj)|0,_=>none|n+1,OF=>(bH n OF).bind λ r1=>((aX n r1.2 ([33]:Bk)).bind λ r3=>if r3.1=true then some (1,r3.2.fL,r3.2.fI,r3.2.fIn,r3.2.fD.Ar,r3.2.fD.fAt,r3.2.fD.AI)else some (0,r3.2.fL,r3.2.fI,r3.2.fIn,r3.2.fD.Ar,r3.2.fD.fAt,r3.2.fD.AI)).bind λ VS=>((aX n (aj.mk VS.2.1 VS.2.2.1 VS.2.2.2.1 (ao.mk VS.2.2.2.2.1 VS.2.2.2.2.2.1 VS.2.2.2.2.2.2)) ([45]:Bk)).bind λ Wh=>if Wh.1=true then some (2,Wh.2.fL,Wh.2.fI,Wh.2.fIn,Wh.2.fD.Ar,Wh.2.fD.fAt,Wh.2.fD.AI)else some (VS.1,Wh.2.fL,Wh.2.fI,Wh.2.fIn,Wh.2.fD.Ar,Wh.2.fD.fAt,Wh.2.fD.AI)).bind λ XV=>if XV.1=0 then((fC n) (aj.mk XV.2.1 XV.2.2.1 XV.2.2.2.1 (ao.mk XV.2.2.2.2.1 XV.2.2.2.2.2.1 XV.2.2.2.2.2.2))).bind λ WP=>some (WP.1,WP.2)else ck (inR (XV.2.2.1+1))<|((dY n) (aj.mk XV.2.1 (XV.2.2.1+1) XV.2.2.2.1 (ao.mk XV.2.2.2.2.1 XV.2.2.2.2.2.1 XV.2.2.2.2.2.2))).bind λ Vr=>some ((ac.mk 6 XV.1 ([]:Bk) ([]:Bk) (am.mk 0 0 ([]:Bk) [] []) [Vr.1] r1.1.fAt),Vr.2)
def fC:Nat->aj->Option (ac×aj)|0,_=>none|n+1,OF=>((bF n) OF).bind λ r1=>jn (bf n (aG n) r1 n r1.1.Ar r1.1.fOp r1.1.AI r1.1.D' r1.1.A'.Ar r1.1.A'.F' r1.1.A'.If r1.1.A'.Df r1.1.A'.C' r1.1.BY r1.2.fL r1.2.fI r1.2.fIn r1.2.fD.Ar r1.2.fD.fAt r1.2.fD.AI) λ Vy=>some ((ac.mk Vy.1 Vy.2.1 Vy.2.2.1 Vy.2.2.2.1 (am.mk Vy.2.2.2.2.1 Vy.2.2.2.2.2.1 Vy.2.2.2.2.2.2.1 Vy.2.2.2.2.2.2.2.1 Vy.2.2.2.2.2.2.2.2.1) Vy.2.2.2.2.2.2.2.2.2.1 r1.1.fAt),(aj.mk Vy.2.2.2.2.2.2.2.2.2.2.1 Vy.2.2.2.2.2.2.2.2.2.2.2.1 Vy.2.2.2.2.2.2.2.2.2.2.2.2.1 (ao.mk Vy.2.2.2.2.2.2.2.2.2.2.2.2.2.1 Vy.2.2.2.2.2.2.2.2.2.2.2.2.2.2.1 Vy.2.2.2.2.2.2.2.2.2.2.2.2.2.2.2)))
def bF:Nat->aj->Option (ac×aj)|0,_=>none|n+1,OF=>(bH n OF).bind λ r1=>if r1.1.Ar=2 then(mb n r1.1.By).bind λ r4=>(if r4.2=0 then some (r1.2.fL,r1.2.fI,r1.2.fIn,r1.2.fD.Ar,r1.2.fD.fAt,r1.2.fD.AI)else(fO r1.2 r4.2 r1.1.fAt).bind λ r7=>some (r7.fL,r7.fI,r7.fIn,r7.fD.Ar,r7.fD.fAt,r7.fD.AI)).bind λ XJ=>ck (inR (XJ.2.1+1))<|(gm (am.mk 2 r4.1 ([]:Bk) [] []) r1.1.fAt).bind λ XH=>some (XH,(aj.mk XJ.1 (XJ.2.1+1) XJ.2.2.1 (ao.mk XJ.2.2.2.1 XJ.2.2.2.2.1 XJ.2.2.2.2.2)))else if r1.1.Ar=3 then ck (inR (r1.1.fAt+1))<|((io n) r1.1.By (r1.1.fAt+1)).bind λ Vp=>(if Vp.2.Ar=0 then some (r1.2.fL,r1.2.fI,r1.2.fIn,r1.2.fD.Ar,r1.2.fD.fAt,r1.2.fD.AI)else(fO r1.2 Vp.2.Ar Vp.2.fAt).bind λ UQ=>some (UQ.fL,UQ.fI,UQ.fIn,UQ.fD.Ar,UQ.fD.fAt,UQ.fD.AI)).bind λ Yu=>ck (inR (Yu.2.1+1))<|some ((ac.mk Vp.1.Ar Vp.1.fOp Vp.1.AI Vp.1.D' Vp.1.A' Vp.1.BY r1.1.fAt),(aj.mk Yu.1 (Yu.2.1+1) Yu.2.2.1 (ao.mk Yu.2.2.2.1 Yu.2.2.2.2.1 Yu.2.2.2.2.2)))else if r1.1.Ar=1 then((fP n) r1.2 r1.1).bind λ WN=>some (WN.1,WN.2)else(aX n r1.2 ([40]:Bk)).bind λ YP=>if YP.1=true then ck (inR (YP.2.fI+1))<|ck (inR (YP.2.fIn+1))<|((aG n) (aj.mk YP.2.fL (YP.2.fI+1) (YP.2.fIn+1) YP.2.fD)).bind λ Yo=>((au Yo.2).bind λ VH=>if (!VH.1)=true then(bT n VH.2 ([41]:Bk)).bind λ Xr=>some (Xr.fL,Xr.fI,Xr.fIn,Xr.fD.Ar,Xr.fD.fAt,Xr.fD.AI)else some (VH.2.fL,VH.2.fI,VH.2.fIn,VH.2.fD.Ar,VH.2.fD.fAt,VH.2.fD.AI)).bind λ q68=>ck (inR (q68.2.2.1-1))<|some (Yo.1,(aj.mk q68.1 q68.2.1 (q68.2.2.1-1) (ao.mk q68.2.2.2.1 q68.2.2.2.2.1 q68.2.2.2.2.2)))else(aX n YP.2 ([91]:Bk)).bind λ V8=>if V8.1=true then((iZ n) V8.2 r1.1).bind λ Zw=>some (Zw.1,Zw.2)else(aX n V8.2 ([123]:Bk)).bind λ Y1=>if Y1.1=true then((ia n) Y1.2 r1.1).bind λ r62=>some (r62.1,r62.2)else(bW n Y1.2).bind λ r64=>some ((ac.mk 0 0 ([]:Bk) ([]:Bk) (am.mk 0 0 ([]:Bk) [] []) [] 0),r64)
def fP:Nat->aj->ab->Option (ac×aj)|0,_,_=>none|n+1,OF,t_1=>if t_1.By=([110,117,108,108]:Bk) then ck (inR (OF.fI+1))<|(gm (am.mk 0 0 ([]:Bk) [] []) t_1.fAt).bind λ r3=>some (r3,(aj.mk OF.fL (OF.fI+1) OF.fIn OF.fD))else(if t_1.By=([116,114,117,101]:Bk) then some true else some (decide (t_1.By=([102,97,108,115,101]:Bk)))).bind λ t6=>if t6=true then ck (inR (OF.fI+1))<|(if t_1.By=([116,114,117,101]:Bk) then some 1 else some 0).bind λ f10=>(gm (am.mk 1 f10 ([]:Bk) [] []) t_1.fAt).bind λ Wy=>some (Wy,(aj.mk OF.fL (OF.fI+1) OF.fIn OF.fD))else(eN t_1.By).bind λ Wh=>if Wh=true then(bW n OF).bind λ XH=>some ((ac.mk 0 0 ([]:Bk) ([]:Bk) (am.mk 0 0 ([]:Bk) [] []) [] 0),XH)else ck (inR (OF.fI+1))<|(aX n (aj.mk OF.fL (OF.fI+1) OF.fIn OF.fD) ([40]:Bk)).bind λ Wx=>if (!Wx.1)=true then some ((ac.mk 3 0 t_1.By ([]:Bk) (am.mk 0 0 ([]:Bk) [] []) [] t_1.fAt),Wx.2)else ck (inR (Wx.2.fI+1))<|((fc n) (aj.mk Wx.2.fL (Wx.2.fI+1) Wx.2.fIn Wx.2.fD) ([41]:Bk)).bind λ UQ=>some ((ac.mk 9 0 t_1.By ([]:Bk) (am.mk 0 0 ([]:Bk) [] []) UQ.1 t_1.fAt),UQ.2)
def iZ:Nat->aj->ab->Option (ac×aj)|0,_,_=>none|n+1,OF,t_1=>ck (inR (OF.fI+1))<|ck (inR (OF.fIn+1))<|(cZ n (aj.mk OF.fL (OF.fI+1) (OF.fIn+1) OF.fD) ([102,111,114]:Bk)).bind λ r3=>ck (inR (r3.2.fIn-1))<|if r3.1=true then((eJ n) (aj.mk r3.2.fL r3.2.fI (r3.2.fIn-1) r3.2.fD) t_1 ([93]:Bk)).bind λ r7=>some (r7.1,r7.2)else((fc n) (aj.mk r3.2.fL r3.2.fI (r3.2.fIn-1) r3.2.fD) ([93]:Bk)).bind λ r9=>some ((ac.mk 10 0 ([]:Bk) ([]:Bk) (am.mk 0 0 ([]:Bk) [] []) r9.1 t_1.fAt),r9.2)
def ia:Nat->aj->ab->Option (ac×aj)|0,_,_=>none|n+1,OF,t_1=>ck (inR (OF.fI+1))<|ck (inR (OF.fIn+1))<|(cZ n (aj.mk OF.fL (OF.fI+1) (OF.fIn+1) OF.fD) ([102,111,114]:Bk)).bind λ r3=>if r3.1=true then ck (inR (r3.2.fIn-1))<|((eJ n) (aj.mk r3.2.fL r3.2.fI (r3.2.fIn-1) r3.2.fD) t_1 ([125]:Bk)).bind λ r7=>some (r7.1,r7.2)else(bp n (ce n) (bh n) n [] r3.2.fL r3.2.fI r3.2.fIn r3.2.fD.Ar r3.2.fD.fAt r3.2.fD.AI).bind λ Xv=>ck (inR (Xv.2.2.2.1-1))<|((au (aj.mk Xv.2.1 Xv.2.2.1 (Xv.2.2.2.1-1) (ao.mk Xv.2.2.2.2.1 Xv.2.2.2.2.2.1 Xv.2.2.2.2.2.2))).bind λ VY=>if (!VY.1)=true then ck (inR (VY.2.fI+1))<|some (VY.2.fL,VY.2.fI+1,VY.2.fIn,VY.2.fD.Ar,VY.2.fD.fAt,VY.2.fD.AI)else some (VY.2.fL,VY.2.fI,VY.2.fIn,VY.2.fD.Ar,VY.2.fD.fAt,VY.2.fD.AI)).bind λ Yv=>some ((ac.mk 11 0 ([]:Bk) ([]:Bk) (am.mk 0 0 ([]:Bk) [] []) Xv.1 t_1.fAt),(aj.mk Yv.1 Yv.2.1 Yv.2.2.1 (ao.mk Yv.2.2.2.1 Yv.2.2.2.2.1 Yv.2.2.2.2.2)))
def fc:Nat->aj->Bk->Option ((List ac)×aj)|0,_,_=>none|n+1,OF,end_1=>ck (inR (OF.fIn+1))<|(bw n (aG n) end_1 n [] OF.fL OF.fI (OF.fIn+1) OF.fD.Ar OF.fD.fAt OF.fD.AI).bind λ Xx=>ck (inR (Xx.2.2.2.1-1))<|((au (aj.mk Xx.2.1 Xx.2.2.1 (Xx.2.2.2.1-1) (ao.mk Xx.2.2.2.2.1 Xx.2.2.2.2.2.1 Xx.2.2.2.2.2.2))).bind λ VZ=>if (!VZ.1)=true then ck (inR (VZ.2.fI+1))<|some (VZ.2.fL,VZ.2.fI+1,VZ.2.fIn,VZ.2.fD.Ar,VZ.2.fD.fAt,VZ.2.fD.AI)else some (VZ.2.fL,VZ.2.fI,VZ.2.fIn,VZ.2.fD.Ar,VZ.2.fD.fAt,VZ.2.fD.AI)).bind λ Yz=>some (Xx.1,(aj.mk Yz.1 Yz.2.1 Yz.2.2.1 (ao.mk Yz.2.2.2.1 Yz.2.2.2.2.1 Yz.2.2.2.2.2)))
def eJ:Nat->aj->ab->Bk->Option (ac×aj)|0,_,_,_=>none|n+1,OF,t_1,end_2=>(if end_2=([125]:Bk) then some 13 else some 12).bind λ f2=>ck (inR (OF.fIn+1))<|(bH n (aj.mk OF.fL OF.fI (OF.fIn+1) OF.fD)).bind λ r4=>ck (inR (r4.2.fI+1))<|(cr n (aj.mk r4.2.fL (r4.2.fI+1) r4.2.fIn r4.2.fD)).bind λ r7=>(((au r7.2).bind λ r9=>if (!r9.1)=true then(aX n r9.2 ([44]:Bk)).bind λ US=>some (US.1,US.2.fL,US.2.fI,US.2.fIn,US.2.fD.Ar,US.2.fD.fAt,US.2.fD.AI)else some (false,r9.2.fL,r9.2.fI,r9.2.fIn,r9.2.fD.Ar,r9.2.fD.fAt,r9.2.fD.AI)).bind λ V3=>if V3.1=true then ck (inR (V3.2.2.1+1))<|(cr n (aj.mk V3.2.1 (V3.2.2.1+1) V3.2.2.2.1 (ao.mk V3.2.2.2.2.1 V3.2.2.2.2.2.1 V3.2.2.2.2.2.2))).bind λ UQ=>some (UQ.1,r7.1,UQ.2.fL,UQ.2.fI,UQ.2.fIn,UQ.2.fD.Ar,UQ.2.fD.fAt,UQ.2.fD.AI)else some (r7.1,([]:Bk),V3.2.1,V3.2.2.1,V3.2.2.2.1,V3.2.2.2.2.1,V3.2.2.2.2.2.1,V3.2.2.2.2.2.2)).bind λ Xw=>(((au (aj.mk Xw.2.2.1 Xw.2.2.2.1 Xw.2.2.2.2.1 (ao.mk Xw.2.2.2.2.2.1 Xw.2.2.2.2.2.2.1 Xw.2.2.2.2.2.2.2))).bind λ WN=>if (!WN.1)=true then(cZ n WN.2 ([105,110]:Bk)).bind λ Y2=>some (!Y2.1,Y2.2.fL,Y2.2.fI,Y2.2.fIn,Y2.2.fD.Ar,Y2.2.fD.fAt,Y2.2.fD.AI)else some (false,WN.2.fL,WN.2.fI,WN.2.fIn,WN.2.fD.Ar,WN.2.fD.fAt,WN.2.fD.AI)).bind λ Wk=>if Wk.1=true then(bW n (aj.mk Wk.2.1 Wk.2.2.1 Wk.2.2.2.1 (ao.mk Wk.2.2.2.2.1 Wk.2.2.2.2.2.1 Wk.2.2.2.2.2.2))).bind λ Xq=>some (Xq.fL,Xq.fI,Xq.fIn,Xq.fD.Ar,Xq.fD.fAt,Xq.fD.AI)else some (Wk.2.1,Wk.2.2.1,Wk.2.2.2.1,Wk.2.2.2.2.1,Wk.2.2.2.2.2.1,Wk.2.2.2.2.2.2)).bind λ X1=>ck (inR (X1.2.1+1))<|((bh n) (aj.mk X1.1 (X1.2.1+1) X1.2.2.1 (ao.mk X1.2.2.2.1 X1.2.2.2.2.1 X1.2.2.2.2.2))).bind λ U0=>ck ([U0.1].length*160<=140737488355328)<|((au U0.2).bind λ Vi=>if (!Vi.1)=true then(bT n Vi.2 ([58]:Bk)).bind λ Va=>some (Va.fL,Va.fI,Va.fIn,Va.fD.Ar,Va.fD.fAt,Va.fD.AI)else some (Vi.2.fL,Vi.2.fI,Vi.2.fIn,Vi.2.fD.Ar,Vi.2.fD.fAt,Vi.2.fD.AI)).bind λ Yy=>((bh n) (aj.mk Yy.1 Yy.2.1 Yy.2.2.1 (ao.mk Yy.2.2.2.1 Yy.2.2.2.2.1 Yy.2.2.2.2.2))).bind λ Vj=>ck (([U0.1].length+[Vj.1].length)*160<=140737488355328)<|(if end_2=([125]:Bk) then((au Vj.2).bind λ VQ=>if (!VQ.1)=true then(bT n VQ.2 ([61,62]:Bk)).bind λ W6=>some (W6.fL,W6.fI,W6.fIn,W6.fD.Ar,W6.fD.fAt,W6.fD.AI)else some (VQ.2.fL,VQ.2.fI,VQ.2.fIn,VQ.2.fD.Ar,VQ.2.fD.fAt,VQ.2.fD.AI)).bind λ Yx=>((bh n) (aj.mk Yx.1 Yx.2.1 Yx.2.2.1 (ao.mk Yx.2.2.2.1 Yx.2.2.2.2.1 Yx.2.2.2.2.2))).bind λ Xm=>ck ((([U0.1]++[Vj.1]).length+[Xm.1].length)*160<=140737488355328)<|some (([U0.1]++[Vj.1])++[Xm.1],Xm.2.fL,Xm.2.fI,Xm.2.fIn,Xm.2.fD.Ar,Xm.2.fD.fAt,Xm.2.fD.AI)else some ([U0.1]++[Vj.1],Vj.2.fL,Vj.2.fI,Vj.2.fIn,Vj.2.fD.Ar,Vj.2.fD.fAt,Vj.2.fD.AI)).bind λ Xg=>(((au (aj.mk Xg.2.1 Xg.2.2.1 Xg.2.2.2.1 (ao.mk Xg.2.2.2.2.1 Xg.2.2.2.2.2.1 Xg.2.2.2.2.2.2))).bind λ WM=>if (!WM.1)=true then(cZ n WM.2 ([105,102]:Bk)).bind λ r97=>some (r97.1,r97.2.fL,r97.2.fI,r97.2.fIn,r97.2.fD.Ar,r97.2.fD.fAt,r97.2.fD.AI)else some (false,WM.2.fL,WM.2.fI,WM.2.fIn,WM.2.fD.Ar,WM.2.fD.fAt,WM.2.fD.AI)).bind λ V2=>if V2.1=true then ck (inR (V2.2.2.1+1))<|((bh n) (aj.mk V2.2.1 (V2.2.2.1+1) V2.2.2.2.1 (ao.mk V2.2.2.2.2.1 V2.2.2.2.2.2.1 V2.2.2.2.2.2.2))).bind λ U8=>ck ((Xg.1.length+[U8.1].length)*160<=140737488355328)<|some (Xg.1++[U8.1],U8.2.fL,U8.2.fI,U8.2.fIn,U8.2.fD.Ar,U8.2.fD.fAt,U8.2.fD.AI)else some (Xg.1,V2.2.1,V2.2.2.1,V2.2.2.2.1,V2.2.2.2.2.1,V2.2.2.2.2.2.1,V2.2.2.2.2.2.2)).bind λ X0=>((au (aj.mk X0.2.1 X0.2.2.1 X0.2.2.2.1 (ao.mk X0.2.2.2.2.1 X0.2.2.2.2.2.1 X0.2.2.2.2.2.2))).bind λ VM=>if (!VM.1)=true then(bT n VM.2 end_2).bind λ Yt=>some (Yt.fL,Yt.fI,Yt.fIn,Yt.fD.Ar,Yt.fD.fAt,Yt.fD.AI)else some (VM.2.fL,VM.2.fI,VM.2.fIn,VM.2.fD.Ar,VM.2.fD.fAt,VM.2.fD.AI)).bind λ XZ=>ck (inR (XZ.2.2.1-1))<|some ((ac.mk f2 0 Xw.1 Xw.2.1 (am.mk 0 0 ([]:Bk) [] []) X0.1 t_1.fAt),(aj.mk XZ.1 XZ.2.1 (XZ.2.2.1-1) (ao.mk XZ.2.2.2.1 XZ.2.2.2.2.1 XZ.2.2.2.2.2)))
def ce:Nat->aj->Option (ac×aj)|0,_=>none|n+1,OF=>(bH n OF).bind λ r1=>if r1.1.Ar=1 then ck (inR (r1.2.fI+1))<|(gm (am.mk 3 0 r1.1.By [] []) r1.1.fAt).bind λ r5=>some (r5,(aj.mk r1.2.fL (r1.2.fI+1) r1.2.fIn r1.2.fD))else(if r1.1.Ar=3 then some (true,r1.2.fL,r1.2.fI,r1.2.fIn,r1.2.fD.Ar,r1.2.fD.fAt,r1.2.fD.AI)else(aX n r1.2 ([40]:Bk)).bind λ r8=>some (r8.1,r8.2.fL,r8.2.fI,r8.2.fIn,r8.2.fD.Ar,r8.2.fD.fAt,r8.2.fD.AI)).bind λ U2=>if U2.1=true then((bF n) (aj.mk U2.2.1 U2.2.2.1 U2.2.2.2.1 (ao.mk U2.2.2.2.2.1 U2.2.2.2.2.2.1 U2.2.2.2.2.2.2))).bind λ Vx=>some (Vx.1,Vx.2)else(bW n (aj.mk U2.2.1 U2.2.2.1 U2.2.2.2.1 (ao.mk U2.2.2.2.2.1 U2.2.2.2.2.2.1 U2.2.2.2.2.2.2))).bind λ Vp=>some ((ac.mk 0 0 ([]:Bk) ([]:Bk) (am.mk 0 0 ([]:Bk) [] []) [] 0),Vp)
def bh:Nat->aj->Option (ac×aj)|0,_=>none|n+1,OF=>(au OF).bind λ r1=>if r1.1=true then some ((ac.mk 0 0 ([]:Bk) ([]:Bk) (am.mk 0 0 ([]:Bk) [] []) [] 0),r1.2)else((aG n) r1.2).bind λ r4=>some (r4.1,r4.2)
end
theorem qY (n:Nat):zz (io n) 20/\zz (ee n) 35/\(∀ (Mr:Bk) (N':Int) (r:(List ac)×Bool×ao),HP (me n Mr N'=some r) Tryz.prog 41 [eS Mr,eI N'] (.tuple [.p (eL ak r.1),.p (eB r.2.1),.p (.agg (ao.cs r.2.2))]))/\mZ (aG n) 67/\(∀ (OF:aj) (O':Int) (r:ac×aj),HO (bE n OF O'=some r) Tryz.prog 107 [.ptr 1000000 0,.p (eI O')] [(1000000,((aj.cs OF).map .p))] (.p (.agg (ac.cs r.1))) ([(1000000,((aj.cs r.2).map .p))]))/\mZ (dY n) 143/\mZ (fC n) 167/\mZ (bF n) 187/\uH (fP n) 201/\uH (iZ n) 202/\uH (ia n) 203/\(∀ (OF:aj) (end_1:Bk) (r:(List ac)×aj),HO (fc n OF end_1=some r) Tryz.prog 215 [.ptr 1000000 0,.p (eS end_1)] [(1000000,((aj.cs OF).map .p))] (.p (eL ak r.1)) ([(1000000,((aj.cs r.2).map .p))]))/\(∀ (OF:aj) (t_1:ab) (end_2:Bk) (r:ac×aj),HO (eJ n OF t_1 end_2=some r) Tryz.prog 217 [.ptr 1000000 0,.p (.agg (ab.cs t_1)),.p (eS end_2)] [(1000000,((aj.cs OF).map .p))] (.p (.agg (ac.cs r.1))) ([(1000000,((aj.cs r.2).map .p))]))/\mZ (ce n) 218/\mZ (bh n) 219:=by
 induction n with
 | zero=>exact Zr
 | succ n ih=>
 obtain ⟨_,_,_,_,_,_,_,_,_,_,_,_,_,_,_⟩:=ih;refine ⟨?_,?_,?_,?_,?_,?_,?_,?_,?_,?_,?_,?_,?_,?_,?_⟩
 ·refine λ Mr N'=>hP good Tryz.func20 Z Z λ r h0 _ w0=>?_;rw [io] at h0;refine nx 9 Z (bd h0 λ r1 e2 h0=>?_);refine oK (HP.c e2) Z ⟨sr,sr,trivial⟩ Tryz.call41 Z (nx 25 Z ?_);refine bd h0 λ o22 h1 h0=>kN o22 (λ v23=>⟨[(4,.ptr 4 0),(5,.ptr 5 0),(9,.ptr 20 0),(10,.ptr 10 0)],[(4,aH),(5,iM),(10,(KG v23)),(20,[.p (.val (.slice none 0 0)),.p (eI 0),.p (eI 0),.p (eI r1.2.2.Ar),.p (eI r1.2.2.fAt),.p (eS r1.2.2.AI)])]⟩) ?_ ?_
  ·refine nx 5 Z (bd h0 λ Wx e20 h0=>?_);refine mO Z (aV [20] [] 101000 101000 (HO.c e20) Z Z Z Z Z ⟨sr,sr,trivial⟩ Z Z ⟨⟨_,Z,⟨jr _,sr,sr,sr,sr,sr,trivial⟩⟩,trivial⟩ Z Z Z Z Z Z Z Z Tryz.call36 Z Z ?_);exact J0
  exact az
 ·refine λ Mr N'=>hP good Tryz.func35 Z Z λ r h0 _ w0=>?_;rw [ee] at h0;refine nx 8 Z (bd h0 λ r1 e2 h0=>?_);refine oK (HP.c e2) Z ⟨sr,trivial⟩ Tryz.call27 Z (nx 14 Z ?_);refine fN [19] h0 Z (λ c3 h0=>?_) λ c3 h0=>?_
  ·refine nx 12 Z (bd h0 λ Zz h1 h0=>?_);refine kE 0 Zz (λ v53=>⟨[(4,.ptr 4 0),(5,.ptr 5 0),(8,.vec 54 3 0 (v53.map aB))],[(4,aH),(5,iM)]⟩) ?_ ?_
   ·have:=js [1101,1100];have:=jO 1101 (List ab×Int×Int×Int×Int×Bk) λ v=>[(57,(bb v))]
    have:=jB 1100 (Bool×List ab×Int×Int×Int×Int×Bk) (λ v=>[(68,.p (eB v.1))]) λ v=>[(57,(bb v.2))]
    exact J0
   refine lG (λ (WE:(List ab)×Int)=>⟨[(1,.p (eI N')),(4,.ptr 4 0),(5,.ptr 5 0),(6,.p (eL aB r1.1)),(8,.vec 54 3 0 (WE.1.map aB)),(9,.p (eI WE.2))],[(4,aH),(5,iM)]⟩) (λ m (WE:(List ab)×Int)=>eO N' r1 m WE.1 WE.2) Y ([],0) h1 (d3 (ma ⟨er rfl,er rfl,er rfl,er rfl,⟨_,rfl,AV.sub_nilvec _ _ _⟩,er rfl,trivial⟩ ⟨⟨_,rfl,⟨sr,sr,sr,sr,sr,sr,sr,sr,sr,sr,sr,trivial⟩⟩,⟨_,rfl,⟨sr,sr,sr,trivial⟩⟩,trivial⟩)) ?_;rintro m ⟨UL,i15⟩ h1;replace h1:eO N' r1 (m+1) UL i15=some Zz:=h1;rw [eO] at h1;refine nx 5 rfl (oLl (f:=aB) rfl rfl ?_);refine nx 2 rfl (fD [31] h1 rfl (λ YI h1=>?_) λ YI h1=>?_)
   ·refine nx 4 Z (cc' h1 λ XC h1=>?_);refine cc' h1 λ VP h1=>cc' h1 λ Wq h1=>cc' h1 λ WT h1=>cc' h1 λ Wp h1=>mG (gE (t:=⟨[(1,.p (eI N')),(4,.ptr 4 0),(5,.ptr 5 0),(6,.p (eL aB r1.1)),(8,.vec 54 3 0 (UL.map aB)),(9,.p (eI i15))],[(4,aH),(5,iM)]⟩) Z Z) (mSq ⟨2,[20,21],(by3 (.some λ i=>Nat.beq i 54||Nat.beq i 54) .none .none),(by3 [(1,.p (eI N')),(4,.ptr 4 0),(5,.ptr 5 0),(6,.p (eL aB r1.1)),(8,.vec 54 3 0 (UL.map aB)),(9,.p (eI i15))] [(1,.p (eI N')),(4,.ptr 4 0),(5,.ptr 5 0),(6,.p (eL aB r1.1)),(8,.p (eL aB UL)),(9,.p (eI i15))] [(1,.p (eI N')),(4,.ptr 4 0),(5,.ptr 5 0),(6,.p (eL aB r1.1)),(9,.p (eI i15))]),(λ _=>[(4,aH),(5,iM)])⟩ Z ?_);refine dP (by3 (.vec 54 3 0 (UL.map aB)) (.p (eL aB UL)) (.p (eL aB UL))) Z (dPc (.p (eL aB r1.1)) Z ?_);refine dPc (.p (eI i15)) Z (dO (.rptr (ab.cs (lat r1.1 i15))) [35,36] Z (λ _ sl Sk K hK=>ap Z (jG (f:=aB) (l:=r1.1) ab.cs Z Z Z Z Z Z (Sk _ _ Z) Z (Sk _ _ Z) XC ab.It Y hK)) ?_);refine dPc (.rptr (List.drop 0 (ab.cs (lat r1.1 i15)))) Z (dPc (.p (eI ((lat r1.1 i15).Ar))) Z ?_);refine dPc (.p (eL aB r1.1)) Z (dPc (.p (eI i15)) Z ?_);refine dO (.rptr (ab.cs (lat r1.1 i15))) [40,41] Z (λ _ sl Sk K hK=>ap Z (jG (f:=aB) (l:=r1.1) ab.cs Z Z Z Z Z Z (Sk _ _ Z) Z (Sk _ _ Z) VP ab.It Y hK)) (dPc (.rptr (List.drop 1 (ab.cs (lat r1.1 i15)))) Z ?_);refine dPc (.p (eS ((lat r1.1 i15).By))) Z (dPc (.p (eL aB r1.1)) Z ?_);refine dPc (.p (eI i15)) Z (dO (.rptr (ab.cs (lat r1.1 i15))) [45,46] Z (λ _ sl Sk K hK=>ap Z (jG (f:=aB) (l:=r1.1) ab.cs Z Z Z Z Z Z (Sk _ _ Z) Z (Sk _ _ Z) Wq ab.It Y hK)) ?_);refine dPc (.rptr (List.drop 2 (ab.cs (lat r1.1 i15)))) Z (dPc (.p (eI ((lat r1.1 i15).fAt))) Z ?_);refine dPc (.p (eI N')) Z (dO (.p (eI (((lat r1.1 i15).fAt)+N'))) [49,50] Z (λ _ sl Sk K hK=>ap Z (fM Z Z Z (Sk _ _ Z) (Sk _ _ Z) Z WT hK)) ?_);refine dPc (.p (.agg [eI ((lat r1.1 i15).Ar),eS ((lat r1.1 i15).By),eI (((lat r1.1 i15).fAt)+N')])) Z (dO (.p (eL aB [(ab.mk ((lat r1.1 i15).Ar) ((lat r1.1 i15).By) (((lat r1.1 i15).fAt)+N'))])) [52] Z (λ _ sl Sk K hK=>ap Z (aK aB [(ab.mk ((lat r1.1 i15).Ar) ((lat r1.1 i15).By) (((lat r1.1 i15).fAt)+N'))] Z Z Z Z Z Z (cU (Sk _ _ Z) Z d5) Z Z Z Z Z Z uu hK)) ?_);refine ra (λ _=>.vec 54 3 0 ((UL++[(ab.mk ((lat r1.1 i15).Ar) ((lat r1.1 i15).By) (((lat r1.1 i15).fAt)+N'))]).map aB)) [(34,_),(53,_)] Z ⟨.inr ⟨0,_,Z,Z,Z⟩,.inr ⟨19,_,Z,Z,Z⟩,trivial⟩ Z Z (Hg Z Y) (lt2 (λ h=>absurd h (by decide)) Y) (λ sl Sk K hK=>ap Z (ef aB UL [(ab.mk ((lat r1.1 i15).Ar) ((lat r1.1 i15).By) (((lat r1.1 i15).fAt)+N'))] Z Z Z Z Z Z Z Z (Sk _ _ Z) Z Z (Sk _ _ Z) Z (λ x=>congrArg List.length (ab.It x)) Z Z Z Z Wp hK)) (ra (λ _=>.vec 54 3 0 ((UL++[(ab.mk ((lat r1.1 i15).Ar) ((lat r1.1 i15).By) (((lat r1.1 i15).fAt)+N'))]).map aB)) [(54,_)] Z ⟨.inr ⟨20,_,Z,Z,Z⟩,trivial⟩ Z Z Y (lt2 (λ h=>absurd h (by decide)) (λ h=>absurd h (by decide))) (λ sl Sk K hK=>ap Z (sM Z Z Z (Sk _ _ Z) hK)) ?_);exact az
   exact az
  refine nx 2 Z (cc' h0 λ Yq h0=>?_);refine mG (gE (t:=⟨[(1,.p (eI N')),(4,.ptr 4 0),(5,.ptr 5 0),(7,.ptr 7 0)],[(4,aH),(5,iM),(7,(ao.cs r1.2).map .p)]⟩) Z Z) (mSq ⟨2,[8,9],(λ _=>.none),(λ _=>[(1,.p (eI N')),(4,.ptr 4 0),(5,.ptr 5 0),(7,.ptr 7 0)]),(ob3 ([(4,aH),(5,iM),(7,((ao.cs r1.2).map .p))]) (4,aH) (5,[.p (eI r1.2.Ar),.p (eI (r1.2.fAt+N')),.p (eS ([]:Bk))]))⟩ Z ?_);refine dPc (.p (.agg IU)) Z (dPc (.ptr 7 0) Z ?_);refine dPc (.p (eI r1.2.Ar)) Z (dPc (.ptr 7 1) Z ?_);refine dPc (.p (eI r1.2.fAt)) Z (dPc (.p (eI N')) Z ?_);refine dO (.p (eI (r1.2.fAt+N'))) [24,25] Z (λ _ sl Sk K hK=>ap Z (fM Z Z Z (Sk _ _ Z) (Sk _ _ Z) Z Yq hK)) (dPc (.p (.agg [eI r1.2.Ar,eI (r1.2.fAt+N'),eS ([]:Bk)])) Z ?_);exact J0
 ·refine λ Mr N'=>hP good Tryz.func41 Z Z λ r h0 _ w0=>?_;rw [me] at h0;refine nx 20 rfl ?_;obtain ⟨o76,h1,UV,hR0⟩:=bo h0;refine kEx 0 (λ XQ:(List ac)×Bool=>o76=.inl XQ) (λ XQ=>⟨[(6,.ptr 6 0),(7,.vec 85 11 0 (XQ.1.map ak)),(8,.p (eB XQ.2))],[(6,iM)]⟩) (λ XQ hv=>?_) ?_
  ·exact fR
  refine lG (λ (WQ:(List ac)×Bool×Int)=>⟨[(0,.p (eS Mr)),(1,.p (eI N')),(6,.ptr 6 0),(7,.vec 85 11 0 (WQ.1.map ak)),(8,.p (eB WQ.2.1)),(9,.p (eI WQ.2.2))],[(6,iM)]⟩) (λ m (WQ:(List ac)×Bool×Int)=>cG n (ee n) Mr N' m WQ.1 WQ.2.1 WQ.2.2) Y ([],false,0) h1 (d3 (ma ⟨er rfl,er rfl,er rfl,⟨_,rfl,AV.sub_nilvec _ _ _⟩,er rfl,er rfl,trivial⟩ ⟨⟨_,rfl,⟨sr,sr,sr,trivial⟩⟩,trivial⟩)) ?_;rintro m ⟨VK,open36,i37⟩ h1;replace h1:cG n (ee n) Mr N' (m+1) VK open36 i37=some o76:=h1;rw [cG] at h1;refine nx 5 rfl (oLs rfl ?_);refine nx 2 rfl (fD [19] h1 rfl (λ c38 h1=>?_) λ c38 h1=>?_)
  ·refine nx 2 rfl ?_;obtain ⟨o79,h2,hL1,hR1⟩:=bo h1;refine kX (λ v80:(List ac)×Bool×Int=>o79=.inl v80) (λ v80=>⟨[(0,.p (eS Mr)),(1,.p (eI N')),(6,.ptr 6 0),(7,.vec 85 11 0 (v80.1.map ak)),(8,.p (eB v80.2.1)),(9,.p (eI v80.2.2))],[(6,iM)]⟩) (λ v80 hv=>?_) ?_
   ·have h1:=hL1 _ hv;exact az
   refine nx 6 Z (K2 λ XF h2=>nx 1 Z ?_);refine fB [22] h2 Z (λ c41 h2=>?_) λ c41 h2=>?_
   ·refine nx 5 Z (oA h2 Z Z λ ZV h2=>?_);refine bd h2 λ We e44 h2=>oK (HP.c e44) Z ⟨sr,sr,trivial⟩ Tryz.call80 Z (nx 8 Z ?_);refine fD [28] h2 Z (λ c45 h2=>?_) λ c45 h2=>?_
    ·exact bP
    refine nx 6 Z (oA h2 Z Z λ YE h2=>?_);refine nx 1 Z (oP h2 Z Z Z λ YD h2=>?_);refine nx 2 Z (oA h2 Z Z λ Zf h2=>?_);refine oA h2 Z Z λ Ze h2=>bd h2 λ Vb e52 h2=>oK (HP.c e52) Z ⟨sr,sr,trivial⟩ Tryz.call35 Z (nx 8 Z ?_);refine mG (gE (t:=⟨[(0,.p (eS Mr)),(1,.p (eI N')),(6,.ptr 6 0),(7,.vec 85 11 0 (VK.map ak)),(10,.p (eI We)),(11,.ptr 11 0),(12,.ptr 12 0)],[(6,iM),(11,(ac.cs Vb.1).map .p),(12,(ao.cs Vb.2).map .p)]⟩) Z Z) (nx 7 Z ?_);refine fN [48] h2 Z (λ c53 h2=>?_) λ c53 h2=>?_
    ·refine nx 6 Z (mO Z (aK ak [Vb.1] Z Z Z Z Z Z Z Z Z Z Z Z Z fF ?_));refine cc' h2 λ YC h2=>mO Z (ef ak VK [Vb.1] Z Z Z Z Z Z Z Z Z Z Z Z Z (λ x=>congrArg List.length (ac.It x)) Z Z Z Z YC ?_);refine nx 9 Z (oA h2 Z Z λ ZT h2=>?_);exact nx 3 Z (eX _ (oi h2).symm (bm (cb 53 85 Z Z Z Z Z) (gE Z Z)))
    exact bP
   refine nx 6 Z (K2 λ VR h2=>nx 14 Z ?_);refine fN [64] h2 Z (λ c58 h2=>?_) λ c58 h2=>?_
   ·refine nx 6 Z (oLs Z ?_);refine nx 2 Z (fD [72] h2 Z (λ c60 h2=>?_) λ c60 h2=>?_)
    ·exact bP
    refine nx 9 Z (oA h2 Z Z λ aaN h2=>?_);refine bd h2 λ Ww e64 h2=>oK (HP.c e64) Z ⟨lh ⟨.inl Z,.inl Z,.inl Z,.inr ⟨Z,Z⟩,.inr ⟨Z,Z⟩,trivial⟩,sr,trivial⟩ Tryz.call42 Z (mO Z (aK ak [Ww] Z Z Z Z Z Z Z Z Z Z Z Z Z fF ?_));refine cc' h2 λ Zc h2=>mO Z (ef ak VK [Ww] Z Z Z Z Z Z Z Z Z Z Z Z Z (λ x=>congrArg List.length (ac.It x)) Z Z Z Z Zc ?_);exact bP
   exact bP
  exact az
 ·refine λ OF=>hO good [] [1000000] Tryz.func67 Z Z λ r h0 _ w0 F=>?_;rw [aG] at h0;refine nx 7 Z (bd h0 λ r1 e2 h0=>?_);refine mO Z (cVq [1000000] [] 101000 101000 (HO.c e2) Tryz.call107 Z ?_);refine nx 5 Z (bd h0 λ ZA h1 h0=>?_);refine kN ZA (λ Yn=>⟨[(0,.ptr 1000000 0),(2,.ptr 2 0),(3,.ptr 3 0),(14,.p (eB Yn.1))],[(2,aH),(3,(ac.cs r1.1).map .p),(1000000,(bb Yn.2))]⟩) ?_ ?_
  ·refine nx 1 Z (fB [14] h0 Z (λ YJ h0=>?_) λ YJ h0=>?_)
   ·exact J0
   refine nx 8 Z (oA h0 Z Z λ V7 h0=>?_);refine nx 7 Z (K0 λ Wg h0=>?_);refine nx 7 Z (K0 λ Wx h0=>?_);refine nx 1 Z (fB [26] h0 Z (λ c21 h0=>?_) λ c21 h0=>?_)
   ·exact J0
   refine nx 5 Z (K0 λ V9 h0=>?_);refine nx 5 Z (K0 λ WP h0=>?_);refine nx 1 Z (fB [31] h0 Z (λ Z5 h0=>?_) λ Z5 h0=>?_)
   ·exact J0
   refine nx 5 Z (bd h0 λ Vr e28 h0=>?_);refine mO Z (cVq [1000000] [] 108000 108000 (HO.c e28) Tryz.call67 Z ?_);refine nx 8 Z (mO Z (aK ak [r1.1,Wg.1,Vr.1] Z Z Z Z Z Z Z Z Z Z Z Z Z fF ?_));exact J0
  exact az
 ·refine λ OF O'=>hO good [] [1000000] Tryz.func107 Z Z λ r h0 _ w0 F=>?_;rw [bE] at h0;refine nx 10 Z (fD [9] h0 Z (λ c1 h0=>?_) λ c1 h0=>?_)
  ·exact J0
  refine nx 6 Z (oA h0 Z Z λ Yq h0=>?_);refine bd h0 λ r5 e6 h0=>mO Z (cVq [1000000] [] 102000 102000 (HO.c e6) Tryz.call107 Z ?_);refine nx 5 Z (bd h0 λ abJ h1 h0=>?_);refine kE 0 abJ (λ WL=>⟨[(4,.ptr 4 0),(5,.ptr 5 0)],[(4,aH),(5,[.p (eI WL.1),.p (eI WL.2.1),.p (eS WL.2.2.1),.p (eS WL.2.2.2.1),.p (eI WL.2.2.2.2.1),.p (eI WL.2.2.2.2.2.1),.p (eS WL.2.2.2.2.2.2.1),.p (eL db WL.2.2.2.2.2.2.2.1),.p (eL eS WL.2.2.2.2.2.2.2.2.1),.p (eL ak WL.2.2.2.2.2.2.2.2.2.1),.p (eI r5.1.fAt)]),(1000000,(bb WL.2.2.2.2.2.2.2.2.2.2))]⟩) ?_ ?_
  ·exact J0
  refine lG (λ (U4:Int×Int×Bk×Bk×Int×Int×Bk×(List am)×(List Bk)×(List ac)×(List ab)×Int×Int×Int×Int×Bk)=>⟨[(0,.ptr 1000000 0),(1,.p (eI O')),(4,.ptr 4 0),(5,.ptr 5 0)],[(4,aH),(5,[.p (eI U4.1),.p (eI U4.2.1),.p (eS U4.2.2.1),.p (eS U4.2.2.2.1),.p (eI U4.2.2.2.2.1),.p (eI U4.2.2.2.2.2.1),.p (eS U4.2.2.2.2.2.2.1),.p (eL db U4.2.2.2.2.2.2.2.1),.p (eL eS U4.2.2.2.2.2.2.2.2.1),.p (eL ak U4.2.2.2.2.2.2.2.2.2.1),.p (eI r5.1.fAt)]),(1000000,(bb U4.2.2.2.2.2.2.2.2.2.2))]⟩) (λ m (U4:Int×Int×Bk×Bk×Int×Int×Bk×(List am)×(List Bk)×(List ac)×(List ab)×Int×Int×Int×Int×Bk)=>bO n (bE n) O' r5 m U4.1 U4.2.1 U4.2.2.1 U4.2.2.2.1 U4.2.2.2.2.1 U4.2.2.2.2.2.1 U4.2.2.2.2.2.2.1 U4.2.2.2.2.2.2.2.1 U4.2.2.2.2.2.2.2.2.1 U4.2.2.2.2.2.2.2.2.2.1 U4.2.2.2.2.2.2.2.2.2.2.1 U4.2.2.2.2.2.2.2.2.2.2.2.1 U4.2.2.2.2.2.2.2.2.2.2.2.2.1 U4.2.2.2.2.2.2.2.2.2.2.2.2.2.1 U4.2.2.2.2.2.2.2.2.2.2.2.2.2.2.1 U4.2.2.2.2.2.2.2.2.2.2.2.2.2.2.2) Y (r5.1.Ar,r5.1.fOp,r5.1.AI,r5.1.D',r5.1.A'.Ar,r5.1.A'.F',r5.1.A'.If,r5.1.A'.Df,r5.1.A'.C',r5.1.BY,r5.2.fL,r5.2.fI,r5.2.fIn,r5.2.fD.Ar,r5.2.fD.fAt,r5.2.fD.AI) h1 (gE rfl rfl) ?_;rintro m ⟨WH,WG,Xa,W9,Zp,Zo,Yj,Yi,Yh,WW,Xj,Yg,Zn,Zm,Zl,Zk⟩ h1;replace h1:bO n (bE n) O' r5 (m+1) WH WG Xa W9 Zp Zo Yj Yi Yh WW Xj Yg Zn Zm Zl Zk=some abJ:=h1;rw [bO] at h1;refine nx 2 rfl (bd h1 λ o114 h2 h1=>?_);refine kN o114 (λ abv=>⟨[(0,.ptr 1000000 0),(1,.p (eI O')),(4,.ptr 4 0),(5,.ptr 5 0),(24,.p (eB abv.1))],[(4,aH),(5,[.p (eI WH),.p (eI WG),.p (eS Xa),.p (eS W9),.p (eI Zp),.p (eI Zo),.p (eS Yj),.p (eL db Yi),.p (eL eS Yh),.p (eL ak WW),.p (eI r5.1.fAt)]),(1000000,(bb abv.2))]⟩) ?_ ?_
  ·refine nx 1 Z (fB [24] h1 Z (λ c70 h1=>?_) λ c70 h1=>?_)
   ·refine nx 7 Z (K1 λ Y0 h1=>?_);refine nx 8 Z (oA h1 Z Z λ abL h1=>?_);refine nx 8 Z (oA h1 Z Z λ abK h1=>?_);refine bd h1 λ Wv e76 h1=>mO Z (cVq [1000000] [] 110000 110000 (HO.c e76) Tryz.call107 Z ?_);refine nx 7 Z (mO Z (aK ak [(ac.mk WH WG Xa W9 (am.mk Zp Zo Yj Yi Yh) WW r5.1.fAt),Wv.1] Z Z Z Z Z Z Z Z Z Z Z Z Z fF ?_));exact nx 5 Z (eX (7,Y0.1,([]:Bk),([]:Bk),0,0,([]:Bk),[],[],[(ac.mk WH WG Xa W9 (am.mk Zp Zo Yj Yi Yh) WW r5.1.fAt),Wv.1],Wv.2.fL,Wv.2.fI,Wv.2.fIn,Wv.2.fD.Ar,Wv.2.fD.fAt,Wv.2.fD.AI) h1 (d3 (ma ⟨er Z,er Z,er Z,er Z,trivial⟩ ⟨⟨_,Z,⟨sr,sr,sr,sr,sr,sr,sr,sr,sr,sr,sr,trivial⟩⟩,⟨_,Z,⟨sr,sr,sr,sr,sr,sr,sr,jr _,jr _,sr,sr,trivial⟩⟩,⟨_,Z,⟨sr,sr,sr,sr,sr,sr,trivial⟩⟩,trivial⟩)))
   exact az
  exact bP
 ·refine λ OF=>hO good [] [1000000] Tryz.func143 Z Z λ r h0 _ w0 F=>?_;rw [dY] at h0;refine nx 7 Z (bd h0 λ r1 e2 h0=>?_);refine mO Z (cVq [1000000] [] 101000 101000 (HO.c e2) Tryz.call73 Z ?_);refine nx 8 Z (bd h0 λ Za h1 h0=>?_);refine kN Za (λ YO=>⟨[(0,.ptr 1000000 0),(2,.ptr 2 0),(3,.ptr 3 0),(4,.p (eI YO.1))],[(2,aH),(3,(ab.cs r1.1).map .p),(1000000,(bb YO.2))]⟩) ?_ ?_
  ·refine nx 2 Z (bd h0 λ o33 h1 h0=>?_);refine kN o33 (λ Z6=>⟨[(0,.ptr 1000000 0),(2,.ptr 2 0),(3,.ptr 3 0),(4,.p (eI Z6.1))],[(2,aH),(3,(ab.cs r1.1).map .p),(1000000,(bb Z6.2))]⟩) ?_ ?_
   ·refine nx 7 Z (fD [13] h0 Z (λ Xp h0=>?_) λ Xp h0=>?_)
    ·exact J0
    refine nx 8 Z (oA h0 Z Z λ X6 h0=>?_);refine nx 7 Z (K0 λ Vr h0=>?_);refine nx 7 Z (mO Z (aK ak [Vr.1] Z Z Z Z Z Z Z Z Z Z Z Z Z fF ?_));exact J0
   exact az
  exact az
 ·refine λ OF=>hO good [] [1000000] Tryz.func167 Z Z λ r h0 _ w0 F=>?_;rw [fC] at h0;refine nx 7 rfl (K0 λ r1 h0=>?_);refine nx 5 rfl ?_;obtain ⟨abG,h1,UV,hR0⟩:=bo h0;refine kEx 0 (λ VT:Int×Int×Bk×Bk×Int×Int×Bk×(List am)×(List Bk)×(List ac)×(List ab)×Int×Int×Int×Int×Bk=>abG=.inl VT) (λ VT=>⟨[(2,.ptr 2 0),(3,.ptr 3 0)],[(2,aH),(3,[.p (eI VT.1),.p (eI VT.2.1),.p (eS VT.2.2.1),.p (eS VT.2.2.2.1),.p (eI VT.2.2.2.2.1),.p (eI VT.2.2.2.2.2.1),.p (eS VT.2.2.2.2.2.2.1),.p (eL db VT.2.2.2.2.2.2.2.1),.p (eL eS VT.2.2.2.2.2.2.2.2.1),.p (eL ak VT.2.2.2.2.2.2.2.2.2.1),.p (eI r1.1.fAt)]),(1000000,(bb VT.2.2.2.2.2.2.2.2.2.2))]⟩) (λ VT hv=>?_) ?_
  ·exact fR
  refine lG (λ (UM:Int×Int×Bk×Bk×Int×Int×Bk×(List am)×(List Bk)×(List ac)×(List ab)×Int×Int×Int×Int×Bk)=>⟨[(0,.ptr 1000000 0),(2,.ptr 2 0),(3,.ptr 3 0)],[(2,aH),(3,[.p (eI UM.1),.p (eI UM.2.1),.p (eS UM.2.2.1),.p (eS UM.2.2.2.1),.p (eI UM.2.2.2.2.1),.p (eI UM.2.2.2.2.2.1),.p (eS UM.2.2.2.2.2.2.1),.p (eL db UM.2.2.2.2.2.2.2.1),.p (eL eS UM.2.2.2.2.2.2.2.2.1),.p (eL ak UM.2.2.2.2.2.2.2.2.2.1),.p (eI r1.1.fAt)]),(1000000,(bb UM.2.2.2.2.2.2.2.2.2.2))]⟩) (λ m (UM:Int×Int×Bk×Bk×Int×Int×Bk×(List am)×(List Bk)×(List ac)×(List ab)×Int×Int×Int×Int×Bk)=>bf n (aG n) r1 m UM.1 UM.2.1 UM.2.2.1 UM.2.2.2.1 UM.2.2.2.2.1 UM.2.2.2.2.2.1 UM.2.2.2.2.2.2.1 UM.2.2.2.2.2.2.2.1 UM.2.2.2.2.2.2.2.2.1 UM.2.2.2.2.2.2.2.2.2.1 UM.2.2.2.2.2.2.2.2.2.2.1 UM.2.2.2.2.2.2.2.2.2.2.2.1 UM.2.2.2.2.2.2.2.2.2.2.2.2.1 UM.2.2.2.2.2.2.2.2.2.2.2.2.2.1 UM.2.2.2.2.2.2.2.2.2.2.2.2.2.2.1 UM.2.2.2.2.2.2.2.2.2.2.2.2.2.2.2) Y (r1.1.Ar,r1.1.fOp,r1.1.AI,r1.1.D',r1.1.A'.Ar,r1.1.A'.F',r1.1.A'.If,r1.1.A'.Df,r1.1.A'.C',r1.1.BY,r1.2.fL,r1.2.fI,r1.2.fIn,r1.2.fD.Ar,r1.2.fD.fAt,r1.2.fD.AI) h1 (gE rfl rfl) ?_;rintro m ⟨Xi,Yf,Ye,Yd,Yc,Yb,Ya,X9,Vg,X8,f70,f71,f72,f73,f74,f75⟩ h1;replace h1:bf n (aG n) r1 (m+1) Xi Yf Ye Yd Yc Yb Ya X9 Vg X8 f70 f71 f72 f73 f74 f75=some abG:=h1;rw [bf] at h1;refine nx 4 rfl (K1 λ W6 h1=>?_);refine nx 2 rfl (fB [10] h1 rfl (λ c78 h1=>?_) λ c78 h1=>?_)
  ·refine nx 2 rfl ?_;obtain ⟨VO,h2,hL1,hR1⟩:=bo h1;refine kX (λ Vk:Int×Bk×(List ac)×(List ab)×Int×Int×Int×Int×Bk=>VO=.inl Vk) (λ Vk=>⟨[(0,.ptr 1000000 0),(2,.ptr 2 0),(3,.ptr 3 0)],[(2,aH),(3,[.p (eI Vk.1),.p (eI 0),.p (eS Vk.2.1),.p (eS ([]:Bk)),.p (eI 0),.p (eI 0),.p (eS ([]:Bk)),.p (.val (.slice none 0 0)),.p (.val (.slice none 0 0)),.p (eL ak Vk.2.2.1),.p (eI r1.1.fAt)]),(1000000,(bb Vk.2.2.2))]⟩) (λ Vk hv=>?_) ?_
   ·have h1:=hL1 _ hv;exact nx 1 Z (eX (Vk.1,0,Vk.2.1,([]:Bk),0,0,([]:Bk),[],[],Vk.2.2.1,Vk.2.2.2.1,Vk.2.2.2.2.1,Vk.2.2.2.2.2.1,Vk.2.2.2.2.2.2.1,Vk.2.2.2.2.2.2.2.1,Vk.2.2.2.2.2.2.2.2) h1 (d3 (ma ⟨er Z,er Z,er Z,trivial⟩ ⟨⟨_,Z,⟨sr,sr,sr,sr,sr,sr,sr,sr,sr,sr,sr,trivial⟩⟩,⟨_,Z,⟨sr,sr,sr,sr,sr,sr,sr,jr _,jr _,sr,sr,trivial⟩⟩,⟨_,Z,⟨sr,sr,sr,sr,sr,sr,trivial⟩⟩,trivial⟩)))
   refine nx 4 Z (K2 λ Z8 h2=>?_);refine nx 1 Z (fB [12] h2 Z (λ c81 h2=>?_) λ c81 h2=>?_)
   ·refine nx 7 Z (oA h2 Z Z λ hk82 h2=>?_);refine nx 7 Z (K2 λ W0 h2=>?_);refine nx 10 Z (fN [24] h2 Z (λ c85 h2=>?_) λ c85 h2=>?_)
    ·refine nx 8 Z (oA h2 Z Z λ hk88 h2=>?_);refine nx 8 Z (mO Z (aK ak [(ac.mk Xi Yf Ye Yd (am.mk Yc Yb Ya X9 Vg) X8 r1.1.fAt)] Z Z Z Z Z Z Z Z Z Z Z Z Z fF ?_));exact bP
    refine nx 4 Z (K2 λ r86 h2=>?_);exact J1
   refine nx 4 Z (K2 λ ZH h2=>?_);refine nx 1 Z (fB [43] h2 Z (λ c91 h2=>?_) λ c91 h2=>?_)
   ·refine nx 7 Z (oA h2 Z Z λ hk92 h2=>?_);refine nx 10 Z (oA h2 Z Z λ hk93 h2=>?_);refine nx 7 Z (bd h2 λ WM e95 h2=>?_);refine mO Z (cVq [1000000] [] 115000 115000 (HO.c e95) Tryz.call67 Z ?_);refine nx 4 Z (bd h2 λ Zb h3 h2=>?_);refine kN Zb (λ aan=>⟨[(0,.ptr 1000000 0),(2,.ptr 2 0),(3,.ptr 3 0),(5,.ptr 5 0)],[(2,aH),(3,[.p (eI Xi),.p (eI Yf),.p (eS Ye),.p (eS Yd),.p (eI Yc),.p (eI Yb),.p (eS Ya),.p (eL db X9),.p (eL eS Vg),.p (eL ak X8),.p (eI r1.1.fAt)]),(5,(ac.cs WM.1).map .p),(1000000,(bb aan))]⟩) ?_ ?_
    ·refine nx 7 Z (oA h2 Z Z λ abX h2=>?_);refine nx 7 Z (mO Z (aK ak [(ac.mk Xi Yf Ye Yd (am.mk Yc Yb Ya X9 Vg) X8 r1.1.fAt),WM.1] Z Z Z Z Z Z Z Z Z Z Z Z Z fF ?_));exact bP
    refine nx 3 Z (bd h3 λ YZ e97 h3=>?_);refine mO Z (cVq [1000000] [] 116000 116000 (HO.c e97) Tryz.call72 Z ?_);refine nx 2 Z (mG (gE (t:=⟨[(0,.ptr 1000000 0),(2,.ptr 2 0),(3,.ptr 3 0),(5,.ptr 5 0),(62,.p (eB (!YZ.1)))],[(2,aH),(3,[.p (eI Xi),.p (eI Yf),.p (eS Ye),.p (eS Yd),.p (eI Yc),.p (eI Yb),.p (eS Ya),.p (eL db X9),.p (eL eS Vg),.p (eL ak X8),.p (eI r1.1.fAt)]),(5,(ac.cs WM.1).map .p),(1000000,(aj.cs YZ.2).map .p)]⟩) Z Z) ?_);refine fB [62] h3 Z (λ c98 h3=>?_) λ c98 h3=>?_
    ·refine nx 3 Z (bd h3 λ r99 e100 h3=>?_);refine mO Z (cVq [1000000] [] 117000 117000 (HO.c e100) Tryz.call109 Z ?_);exact nx 1 Z nw
    exact mi
   exact J1
  exact az
 ·refine λ OF=>hO good [] [1000000] Tryz.func187 Z Z λ r h0 _ w0 F=>?_;rw [bF] at h0;have:=js [501,1101,2201];have:=jO 501 (List ab×Int×Int×Int×Int×Bk) λ v=>[(1000000,(bb v))]
  have:=jO 1101 (List ab×Int×Int×Int×Int×Bk) λ v=>[(1000000,(bb v))]
  have:=jO 2201 (List ab×Int×Int×Int×Int×Bk) λ v=>[(1000000,(bb v))]
  exact J0
 ·refine λ OF t_1=>hO good [] [1000000] Tryz.func201 Z Z λ r h0 _ w0 F=>?_;rw [fP] at h0;have:=js [501,901];have:=jS 501 Bool λ v=>[(22,.p (eB v))]
  have:=jO 901 Int λ v=>[(5,[.p (eI 1),.p (eI v),.p (eS ([]:Bk)),.p (.val (.slice none 0 0)),.p (.val (.slice none 0 0))])]
  exact J0
 ·refine λ OF t_1=>hO good [] [1000000] Tryz.func202 Z Z λ r h0 _ w0 F=>?_;rw [iZ] at h0;exact J0
 ·refine λ OF t_1=>hO good [] [1000000] Tryz.func203 Z Z λ r h0 _ w0 F=>?_;rw [ia] at h0;refine nx 11 Z (oA h0 Z Z λ YG h0=>?_);refine nx 10 Z (oA h0 Z Z λ Wz h0=>?_);refine nx 7 Z (K0 λ r3 h0=>?_);refine nx 7 Z (fB [5,22,23] h0 Z (λ c5 h0=>?_) λ c5 h0=>?_)
  ·exact J0
  refine nx 12 Z (bd h0 λ abF h1 h0=>?_);refine kE 0 abF (λ abn=>⟨[(0,.ptr 1000000 0),(4,.ptr 4 0),(6,.ptr 6 0)],[(4,aH),(6,(eZ (.vec 62 11 0 (abn.1.map ak)) (.p (eI t_1.fAt)))),(1000000,(bb abn.2))]⟩) ?_ ?_
  ·have:=js [1601];have:=jO 1601 (List ab×Int×Int×Int×Int×Bk) λ v=>[(1000000,(bb v))]
   exact J0
  refine lG (λ (W1:(List ac)×(List ab)×Int×Int×Int×Int×Bk)=>⟨[(0,.ptr 1000000 0),(4,.ptr 4 0),(6,.ptr 6 0)],[(4,aH),(6,(eZ (.vec 62 11 0 (W1.1.map ak)) (.p (eI t_1.fAt)))),(1000000,(bb W1.2))]⟩) (λ m (W1:(List ac)×(List ab)×Int×Int×Int×Int×Bk)=>bp n (ce n) (bh n) m W1.1 W1.2.1 W1.2.2.1 W1.2.2.2.1 W1.2.2.2.2.1 W1.2.2.2.2.2.1 W1.2.2.2.2.2.2) Y ([],r3.2.fL,r3.2.fI,r3.2.fIn,r3.2.fD.Ar,r3.2.fD.fAt,r3.2.fD.AI) h1 (d3 (ma ⟨er rfl,er rfl,er rfl,trivial⟩ ⟨⟨_,rfl,⟨sr,sr,sr,sr,sr,sr,sr,sr,sr,sr,sr,trivial⟩⟩,⟨_,rfl,⟨sr,sr,sr,sr,sr,sr,sr,sr,sr,AV.sub_nilvec _ _ _,sr,trivial⟩⟩,⟨_,rfl,⟨sr,sr,sr,sr,sr,sr,trivial⟩⟩,trivial⟩)) ?_;rintro m ⟨Vg,X8,f70,f71,f72,f73,f74⟩ h1;replace h1:bp n (ce n) (bh n) (m+1) Vg X8 f70 f71 f72 f73 f74=some abF:=h1;rw [bp] at h1;refine nx 2 rfl (bd h1 λ aaH h2 h1=>?_);refine kN aaH (λ abm=>⟨[(0,.ptr 1000000 0),(4,.ptr 4 0),(6,.ptr 6 0),(44,.p (eB abm.1))],[(4,aH),(6,(eZ (.vec 62 11 0 (Vg.map ak)) (.p (eI t_1.fAt)))),(1000000,(bb abm.2))]⟩) ?_ ?_
  ·refine nx 1 Z (fB [44] h1 Z (λ c87 h1=>?_) λ c87 h1=>?_)
   ·refine nx 2 Z (bd h1 λ o165 h2 h1=>?_);refine kN o165 (λ abl=>⟨[(0,.ptr 1000000 0),(4,.ptr 4 0),(6,.ptr 6 0)],[(4,aH),(6,(eZ (.vec 62 11 0 (abl.1.map ak)) (.p (eI t_1.fAt)))),(1000000,(bb abl.2))]⟩) ?_ ?_
    ·exact az
    refine nx 2 Z (bd h2 λ VW e89 h2=>?_);refine cc' h2 λ hk90 h2=>mG (gE (t:=⟨[(0,.ptr 1000000 0),(4,.ptr 4 0),(6,.ptr 6 0)],[(4,aH),(6,(eZ (.vec 62 11 0 (Vg.map ak)) (.p (eI t_1.fAt)))),(1000000,(bb aaH.2))]⟩) Z Z) (mSq ⟨3,[3,5,7],(by4 (.some (cp [] 114000 114000)) (.some λ i=>Nat.beq i 62||Nat.beq i 50) .none .none),(λ _=>[(0,.ptr 1000000 0),(4,.ptr 4 0),(6,.ptr 6 0)]),(by4 ([(4,aH),(6,(eZ (.vec 62 11 0 (Vg.map ak)) (.p (eI t_1.fAt)))),(1000000,(bb aaH.2))]) ([(1000000,((aj.cs VW.2).map .p)),(4,aH),(6,(eZ (.vec 62 11 0 (Vg.map ak)) (.p (eI t_1.fAt))))]) ([(1000000,((aj.cs VW.2).map .p)),(4,aH),(6,(eZ (.p (eL ak Vg)) (.p (eI t_1.fAt))))]) ([(6,(eZ (.vec 50 11 0 ((Vg++[VW.1]).map ak)) (.p (eI t_1.fAt)))),(1000000,((aj.cs VW.2).map .p)),(4,aH),(6,(eZ (.p (eL ak Vg)) (.p (eI t_1.fAt))))]))⟩ Z ?_);refine dPc (.ptr 6 9) Z (dP (by4 (.vec 62 11 0 (Vg.map ak)) (.vec 62 11 0 (Vg.map ak)) (.p (eL ak Vg)) (.p (eL ak Vg))) Z ?_);refine dPc (.ptr 1000000 0) Z (dI (λ _=>.p (.agg (ac.cs VW.1))) [47] Z (λ sl Sk K hK=>ap Z (aV [1000000] [] 114000 114000 (HO.c e89) Z Z Z (aE (Sk _ _ Z) bz) Z ⟨sr,trivial⟩ Z Z ⟨⟨_,Z,⟨sr,sr,sr,sr,sr,sr,trivial⟩⟩,trivial⟩ Z Z Z Z Z Z Z Z Tryz.call218 Z Z hK)) ?_);refine dO (.p (eL ak [VW.1])) [48] Z (λ _ sl Sk K hK=>ap Z (aK ak [VW.1] Z Z Z Z Z Z (cU (Sk _ _ Z) Z d5) Z Z Z Z Z Z fF hK)) (dI (λ _=>.vec 50 11 0 ((Vg++[VW.1]).map ak)) [46,49] Z (λ sl Sk K hK=>ap Z (ef ak Vg [VW.1] Z Z Z Z Z Z Z Z (Sk _ _ Z) Z Z (Sk _ _ Z) Z (λ x=>congrArg List.length (ac.It x)) Z Z Z Z hk90 hK)) ?_);refine dPc (.ptr 6 9) Z (dS Z ?_);refine eT (nx 2 Z ?_);refine bd h2 λ aaG h3 h2=>kN aaG (λ v168=>⟨[(0,.ptr 1000000 0),(4,.ptr 4 0),(6,.ptr 6 0)],[(4,aH),(6,(eZ (.vec 50 11 0 ((Vg++[VW.1]).map ak)) (.p (eI t_1.fAt)))),(1000000,(bb v168))]⟩) ?_ ?_
    ·refine nx 2 Z (bd h2 λ VN e103 h2=>?_);refine cc' h2 λ abY h2=>mG (gE (t:=⟨[(0,.ptr 1000000 0),(4,.ptr 4 0),(6,.ptr 6 0)],[(4,aH),(6,(eZ (.vec 50 11 0 ((Vg++[VW.1]).map ak)) (.p (eI t_1.fAt)))),(1000000,(bb aaG))]⟩) Z Z) (mSq ⟨3,[3,5,7],(by4 (.some (cp [] 117000 117000)) (.some λ i=>Nat.beq i 50||Nat.beq i 62) .none .none),(λ _=>[(0,.ptr 1000000 0),(4,.ptr 4 0),(6,.ptr 6 0)]),(by4 ([(4,aH),(6,(eZ (.vec 50 11 0 ((Vg++[VW.1]).map ak)) (.p (eI t_1.fAt)))),(1000000,(bb aaG))]) ([(1000000,((aj.cs VN.2).map .p)),(4,aH),(6,(eZ (.vec 50 11 0 ((Vg++[VW.1]).map ak)) (.p (eI t_1.fAt))))]) ([(1000000,((aj.cs VN.2).map .p)),(4,aH),(6,(eZ (.p (eL ak (Vg++[VW.1]))) (.p (eI t_1.fAt))))]) ([(6,(eZ (.vec 62 11 0 (((Vg++[VW.1])++[VN.1]).map ak)) (.p (eI t_1.fAt)))),(1000000,((aj.cs VN.2).map .p)),(4,aH),(6,(eZ (.p (eL ak (Vg++[VW.1]))) (.p (eI t_1.fAt))))]))⟩ Z ?_);refine dPc (.ptr 6 9) Z (dP (by4 (.vec 50 11 0 ((Vg++[VW.1]).map ak)) (.vec 50 11 0 ((Vg++[VW.1]).map ak)) (.p (eL ak (Vg++[VW.1]))) (.p (eL ak (Vg++[VW.1])))) Z ?_);refine dPc (.ptr 1000000 0) Z (dI (λ _=>.p (.agg (ac.cs VN.1))) [59] Z (λ sl Sk K hK=>ap Z (aV [1000000] [] 117000 117000 (HO.c e103) Z Z Z (aE (Sk _ _ Z) bz) Z ⟨sr,trivial⟩ Z Z ⟨⟨_,Z,⟨sr,sr,sr,sr,sr,sr,trivial⟩⟩,trivial⟩ Z Z Z Z Z Z Z Z Tryz.call219 Z Z hK)) ?_);refine dO (.p (eL ak [VN.1])) [60] Z (λ _ sl Sk K hK=>ap Z (aK ak [VN.1] Z Z Z Z Z Z (cU (Sk _ _ Z) Z d5) Z Z Z Z Z Z fF hK)) (dI (λ _=>.vec 62 11 0 (((Vg++[VW.1])++[VN.1]).map ak)) [58,61] Z (λ sl Sk K hK=>ap Z (ef ak (Vg++[VW.1]) [VN.1] Z Z Z Z Z Z Z Z (Sk _ _ Z) Z Z (Sk _ _ Z) Z (λ x=>congrArg List.length (ac.It x)) Z Z Z Z abY hK)) ?_);refine dPc (.ptr 6 9) Z (dS Z ?_);refine eT (nx 2 Z ?_);refine bd h2 λ o169 h3 h2=>kN o169 (λ abk=>⟨[(0,.ptr 1000000 0),(4,.ptr 4 0),(6,.ptr 6 0),(71,.p (eB abk.1))],[(4,aH),(6,(eZ (.vec 62 11 0 (((Vg++[VW.1])++[VN.1]).map ak)) (.p (eI t_1.fAt)))),(1000000,(bb abk.2))]⟩) ?_ ?_
     ·exact bP
     refine nx 2 Z (bd h3 λ Xe e106 h3=>?_);refine mO Z (cVq [1000000] [] 118000 118000 (HO.c e106) Tryz.call72 Z ?_);refine nx 2 Z (fB [66,67] h3 Z (λ c107 h3=>?_) λ c107 h3=>?_)
     ·refine nx 1 Z (bd h3 λ U8 aa2 h3=>?_);refine mO Z (cVq [1000000] [] 119000 119000 (HO.c aa2) Tryz.call108 Z ?_);exact nx 3 Z nw
     exact Cn
    refine nx 3 Z (bd h3 λ ZG e92 h3=>?_);refine mO Z (cVq [1000000] [] 115000 115000 (HO.c e92) Tryz.call72 Z ?_);refine nx 2 Z (fB [54] h3 Z (λ c93 h3=>?_) λ c93 h3=>?_)
    ·refine nx 3 Z (bd h3 λ WM e95 h3=>?_);refine mO Z (cVq [1000000] [] 116000 116000 (HO.c e95) Tryz.call109 Z ?_);exact nx 1 Z nw
    exact mi
   exact az
  exact bP
 ·refine λ OF end_1=>hO good [] [1000000] Tryz.func215 Z Z λ r h0 _ w0 F=>?_;rw [fc] at h0;refine nx 14 Z (oA h0 Z Z λ YG h0=>?_);refine nx 6 Z (bd h0 λ abI h1 h0=>?_);refine kE 0 abI (λ abu=>⟨[(0,.ptr 1000000 0),(5,.vec 26 11 0 (abu.1.map ak))],[(1000000,(bb abu.2))]⟩) ?_ ?_
  ·have:=js [801];have:=jO 801 (List ab×Int×Int×Int×Int×Bk) λ v=>[(1000000,(bb v))]
   exact J0
  refine lG (λ (W2:(List ac)×(List ab)×Int×Int×Int×Int×Bk)=>⟨[(0,.ptr 1000000 0),(1,.p (eS end_1)),(5,.vec 26 11 0 (W2.1.map ak))],[(1000000,(bb W2.2))]⟩) (λ m (W2:(List ac)×(List ab)×Int×Int×Int×Int×Bk)=>bw n (aG n) end_1 m W2.1 W2.2.1 W2.2.2.1 W2.2.2.2.1 W2.2.2.2.2.1 W2.2.2.2.2.2.1 W2.2.2.2.2.2.2) Y ([],OF.fL,OF.fI,OF.fIn+1,OF.fD.Ar,OF.fD.fAt,OF.fD.AI) h1 (d3 (ma ⟨er rfl,er rfl,⟨_,rfl,AV.sub_nilvec _ _ _⟩,trivial⟩ ⟨⟨_,rfl,⟨sr,sr,sr,sr,sr,sr,trivial⟩⟩,trivial⟩)) ?_;rintro m ⟨V4,Yj,Yi,Yh,WW,Xj,Yg⟩ h1;replace h1:bw n (aG n) end_1 (m+1) V4 Yj Yi Yh WW Xj Yg=some abI:=h1;rw [bw] at h1;refine nx 2 rfl (bd h1 λ o127 h2 h1=>?_);refine kN o127 (λ abt=>⟨[(0,.ptr 1000000 0),(1,.p (eS end_1)),(5,.vec 26 11 0 (V4.map ak)),(21,.p (eB abt.1))],[(1000000,(bb abt.2))]⟩) ?_ ?_
  ·refine nx 1 Z (fB [21] h1 Z (λ c66 h1=>?_) λ c66 h1=>?_)
   ·refine nx 2 Z (bd h1 λ o129 h2 h1=>?_);refine kN o129 (λ abr=>⟨[(0,.ptr 1000000 0),(1,.p (eS end_1)),(5,.vec 26 11 0 (abr.1.map ak))],[(1000000,(bb abr.2))]⟩) ?_ ?_
    ·exact az
    refine nx 5 Z (K2 λ Z9 h2=>?_);refine mO Z (aK ak [Z9.1] Z Z Z Z Z Z Z Z Z Z Z Z Z fF ?_);refine cc' h2 λ aaM h2=>mO Z (ef ak V4 [Z9.1] Z Z Z Z Z Z Z Z Z Z Z Z Z (λ x=>congrArg List.length (ac.It x)) Z Z Z Z aaM ?_);refine nx 3 Z (bd h2 λ o131 h3 h2=>?_);refine kN o131 (λ abq=>⟨[(0,.ptr 1000000 0),(1,.p (eS end_1)),(5,.vec 26 11 0 ((V4++[Z9.1]).map ak)),(35,.p (eB abq.1))],[(1000000,(bb abq.2))]⟩) ?_ ?_
    ·exact bP
    refine nx 2 Z (bd h3 λ ZI e71 h3=>?_);refine mO Z (cVq [1000000] [] 110000 110000 (HO.c e71) Tryz.call72 Z ?_);refine nx 2 Z (fB [29,30] h3 Z (λ c72 h3=>?_) λ c72 h3=>?_)
    ·refine nx 2 Z (bd h3 λ VQ e74 h3=>?_);refine mO Z (cVq [1000000] [] 111000 111000 (HO.c e74) Tryz.call108 Z ?_);exact nx 3 Z nw
    exact Be
   exact az
  exact bP
 ·refine λ OF t_1 end_2=>hO good [] [1000000] Tryz.func217 Z Z λ r h0 _ w0 F=>?_;rw [eJ] at h0;refine nx 14 Z (bd h0 λ UU h1 h0=>?_);refine kN UU (λ v142=>⟨[(0,.ptr 1000000 0),(2,.p (eS end_2)),(6,.ptr 6 0),(7,.ptr 7 0)],[(6,aH),(7,[.p (eI v142),.p (eI 0),.p (eS ([]:Bk)),.p (eS ([]:Bk)),.p (eI 0),.p (eI 0),.p (eS ([]:Bk)),.p (.val (.slice none 0 0)),.p (.val (.slice none 0 0)),.p (.val (.slice none 0 0)),.p (eI t_1.fAt)]),(1000000,((aj.cs OF).map .p))]⟩) ?_ ?_
  ·refine nx 7 Z (oA h0 Z Z λ YF h0=>?_);refine nx 7 Z (K0 λ r4 h0=>?_);refine nx 7 Z (oA h0 Z Z λ hk6 h0=>?_);refine nx 7 Z (K0 λ r7 h0=>?_);refine nx 4 Z (bd h0 λ Ur h1 h0=>?_);refine kN Ur (λ aao=>⟨[(0,.ptr 1000000 0),(2,.p (eS end_2)),(6,.ptr 6 0),(7,.ptr 7 0)],[(6,aH),(7,(mY (.p (eI UU)) (.p (eS aao.1)) (.p (eS aao.2.1)) (.p (eI t_1.fAt)))),(1000000,(bb aao.2.2))]⟩) ?_ ?_
   ·refine nx 2 Z (bd h0 λ Wo h1 h0=>?_);refine kN Wo (λ v146=>⟨[(0,.ptr 1000000 0),(2,.p (eS end_2)),(6,.ptr 6 0),(7,.ptr 7 0)],[(6,aH),(7,(mY (.p (eI UU)) (.p (eS Ur.1)) (.p (eS Ur.2.1)) (.p (eI t_1.fAt)))),(1000000,(bb v146))]⟩) ?_ ?_
    ·refine nx 7 Z (oA h0 Z Z λ YC h0=>?_);refine nx 5 Z (bd h0 λ U0 e56 h0=>?_);refine cc' h0 λ YB h0=>mG (gE (t:=⟨[(0,.ptr 1000000 0),(2,.p (eS end_2)),(6,.ptr 6 0),(7,.ptr 7 0)],[(6,aH),(7,(mY (.p (eI UU)) (.p (eS Ur.1)) (.p (eS Ur.2.1)) (.p (eI t_1.fAt)))),(1000000,[.p (eL aB Wo.1),.p (eI (Wo.2.1+1)),.p (eI Wo.2.2.1),.p (eI Wo.2.2.2.1),.p (eI Wo.2.2.2.2.1),.p (eS Wo.2.2.2.2.2)])]⟩) Z Z) (mSq ⟨3,[3,5,7],(by4 (.some (cp [] 109000 109000)) (.some λ i=>Nat.beq i 75) .none .none),(λ _=>[(0,.ptr 1000000 0),(2,.p (eS end_2)),(6,.ptr 6 0),(7,.ptr 7 0)]),(by4 ([(6,aH),(7,(mY (.p (eI UU)) (.p (eS Ur.1)) (.p (eS Ur.2.1)) (.p (eI t_1.fAt)))),(1000000,[.p (eL aB Wo.1),.p (eI (Wo.2.1+1)),.p (eI Wo.2.2.1),.p (eI Wo.2.2.2.1),.p (eI Wo.2.2.2.2.1),.p (eS Wo.2.2.2.2.2)])]) ([(1000000,((aj.cs U0.2).map .p)),(6,aH),(7,(mY (.p (eI UU)) (.p (eS Ur.1)) (.p (eS Ur.2.1)) (.p (eI t_1.fAt))))]) ([(1000000,((aj.cs U0.2).map .p)),(6,aH),(7,(mY (.p (eI UU)) (.p (eS Ur.1)) (.p (eS Ur.2.1)) (.p (eI t_1.fAt))))]) ([(7,(cX (.p (eI UU)) (.p (eS Ur.1)) (.p (eS Ur.2.1)) (.vec 75 11 0 ([U0.1].map ak)) (.p (eI t_1.fAt)))),(1000000,((aj.cs U0.2).map .p)),(6,aH),(7,(mY (.p (eI UU)) (.p (eS Ur.1)) (.p (eS Ur.2.1)) (.p (eI t_1.fAt))))]))⟩ Z ?_);refine dPc (.ptr 7 9) Z (dPc (.p (.val (.slice none 0 0))) Z ?_);refine dPc (.ptr 1000000 0) Z (dI (λ _=>.p (.agg (ac.cs U0.1))) [72] Z (λ sl Sk K hK=>ap Z (aV [1000000] [] 109000 109000 (HO.c e56) Z Z Z (aE (Sk _ _ Z) bz) Z ⟨sr,trivial⟩ Z Z ⟨⟨_,Z,⟨sr,sr,sr,sr,sr,sr,trivial⟩⟩,trivial⟩ Z Z Z Z Z Z Z Z Tryz.call219 Z Z hK)) ?_);refine dO (.p (eL ak [U0.1])) [73] Z (λ _ sl Sk K hK=>ap Z (aK ak [U0.1] Z Z Z Z Z Z (cU (Sk _ _ Z) Z d5) Z Z Z Z Z Z fF hK)) (dI (λ _=>.vec 75 11 0 ([U0.1].map ak)) [71,74] Z (λ sl Sk K hK=>ap Z (Ek ak [U0.1] 0 Z Z Z Z Z Z Z Z (Sk _ _ Z) (Sk _ _ Z) Z (λ x=>congrArg List.length (ac.It x)) Z Z Z Z YB hK)) ?_);refine dPc (.ptr 7 9) Z (dS Z ?_);refine eT (nx 2 Z ?_);refine bd h0 λ aaI h1 h0=>kN aaI (λ v148=>⟨[(0,.ptr 1000000 0),(2,.p (eS end_2)),(6,.ptr 6 0),(7,.ptr 7 0)],[(6,aH),(7,(cX (.p (eI UU)) (.p (eS Ur.1)) (.p (eS Ur.2.1)) (.vec 75 11 0 ([U0.1].map ak)) (.p (eI t_1.fAt)))),(1000000,(bb v148))]⟩) ?_ ?_
     ·refine nx 2 Z (bd h0 λ Vj e70 h0=>?_);refine cc' h0 λ aaL h0=>mG (gE (t:=⟨[(0,.ptr 1000000 0),(2,.p (eS end_2)),(6,.ptr 6 0),(7,.ptr 7 0)],[(6,aH),(7,(cX (.p (eI UU)) (.p (eS Ur.1)) (.p (eS Ur.2.1)) (.vec 75 11 0 ([U0.1].map ak)) (.p (eI t_1.fAt)))),(1000000,(bb aaI))]⟩) Z Z) (mSq ⟨3,[3,5,7],(by4 (.some (cp [] 112000 112000)) (.some λ i=>Nat.beq i 75||Nat.beq i 87) .none .none),(λ _=>[(0,.ptr 1000000 0),(2,.p (eS end_2)),(6,.ptr 6 0),(7,.ptr 7 0)]),(by4 ([(6,aH),(7,(cX (.p (eI UU)) (.p (eS Ur.1)) (.p (eS Ur.2.1)) (.vec 75 11 0 ([U0.1].map ak)) (.p (eI t_1.fAt)))),(1000000,(bb aaI))]) ([(1000000,((aj.cs Vj.2).map .p)),(6,aH),(7,(cX (.p (eI UU)) (.p (eS Ur.1)) (.p (eS Ur.2.1)) (.vec 75 11 0 ([U0.1].map ak)) (.p (eI t_1.fAt))))]) ([(1000000,((aj.cs Vj.2).map .p)),(6,aH),(7,(cX (.p (eI UU)) (.p (eS Ur.1)) (.p (eS Ur.2.1)) (.p (eL ak [U0.1])) (.p (eI t_1.fAt))))]) ([(7,(cX (.p (eI UU)) (.p (eS Ur.1)) (.p (eS Ur.2.1)) (.vec 87 11 0 (([U0.1]++[Vj.1]).map ak)) (.p (eI t_1.fAt)))),(1000000,((aj.cs Vj.2).map .p)),(6,aH),(7,(cX (.p (eI UU)) (.p (eS Ur.1)) (.p (eS Ur.2.1)) (.p (eL ak [U0.1])) (.p (eI t_1.fAt))))]))⟩ Z ?_);refine dPc (.ptr 7 9) Z (dP (by4 (.vec 75 11 0 ([U0.1].map ak)) (.vec 75 11 0 ([U0.1].map ak)) (.p (eL ak [U0.1])) (.p (eL ak [U0.1]))) Z ?_);refine dPc (.ptr 1000000 0) Z (dI (λ _=>.p (.agg (ac.cs Vj.1))) [84] Z (λ sl Sk K hK=>ap Z (aV [1000000] [] 112000 112000 (HO.c e70) Z Z Z (aE (Sk _ _ Z) bz) Z ⟨sr,trivial⟩ Z Z ⟨⟨_,Z,⟨sr,sr,sr,sr,sr,sr,trivial⟩⟩,trivial⟩ Z Z Z Z Z Z Z Z Tryz.call219 Z Z hK)) ?_);refine dO (.p (eL ak [Vj.1])) [85] Z (λ _ sl Sk K hK=>ap Z (aK ak [Vj.1] Z Z Z Z Z Z (cU (Sk _ _ Z) Z d5) Z Z Z Z Z Z fF hK)) (dI (λ _=>.vec 87 11 0 (([U0.1]++[Vj.1]).map ak)) [83,86] Z (λ sl Sk K hK=>ap Z (ef ak [U0.1] [Vj.1] Z Z Z Z Z Z Z Z (Sk _ _ Z) Z Z (Sk _ _ Z) Z (λ x=>congrArg List.length (ac.It x)) Z Z Z Z aaL hK)) ?_);refine dPc (.ptr 7 9) Z (dS Z ?_);refine eT (nx 2 Z ?_);refine bd h0 λ V6 h1 h0=>kN V6 (λ abp=>⟨[(0,.ptr 1000000 0),(2,.p (eS end_2)),(6,.ptr 6 0),(7,.ptr 7 0)],[(6,aH),(7,(cX (.p (eI UU)) (.p (eS Ur.1)) (.p (eS Ur.2.1)) (.vec 101 11 0 (abp.1.map ak)) (.p (eI t_1.fAt)))),(1000000,(bb abp.2))]⟩) ?_ ?_
      ·refine nx 2 Z (bd h0 λ o151 h1 h0=>?_);refine kN o151 (λ abo=>⟨[(0,.ptr 1000000 0),(2,.p (eS end_2)),(6,.ptr 6 0),(7,.ptr 7 0)],[(6,aH),(7,(cX (.p (eI UU)) (.p (eS Ur.1)) (.p (eS Ur.2.1)) (.vec 122 11 0 (abo.1.map ak)) (.p (eI t_1.fAt)))),(1000000,(bb abo.2))]⟩) ?_ ?_
       ·have:=js [2601];have:=jO 2601 (List ab×Int×Int×Int×Int×Bk) λ v=>[(1000000,(bb v))]
        exact J0
       refine nx 1 Z (bd h1 λ VO h2 h1=>?_);refine kN VO (λ Vk=>⟨[(0,.ptr 1000000 0),(2,.p (eS end_2)),(6,.ptr 6 0),(7,.ptr 7 0),(109,.p (eB Vk.1))],[(6,aH),(7,(cX (.p (eI UU)) (.p (eS Ur.1)) (.p (eS Ur.2.1)) (.vec 101 11 0 (V6.1.map ak)) (.p (eI t_1.fAt)))),(1000000,(bb Vk.2))]⟩) ?_ ?_
       ·refine nx 1 Z (fB [109] h1 Z (λ c106 h1=>?_) λ c106 h1=>?_)
        ·refine nx 7 Z (oA h1 Z Z λ abX h1=>?_);refine nx 4 Z (bd h1 λ U8 aa2 h1=>?_);refine cc' h1 λ abW h1=>mG (gE (t:=⟨[(0,.ptr 1000000 0),(2,.p (eS end_2)),(6,.ptr 6 0),(7,.ptr 7 0)],[(6,aH),(7,(cX (.p (eI UU)) (.p (eS Ur.1)) (.p (eS Ur.2.1)) (.vec 101 11 0 (V6.1.map ak)) (.p (eI t_1.fAt)))),(1000000,[.p (eL aB VO.2.1),.p (eI (VO.2.2.1+1)),.p (eI VO.2.2.2.1),.p (eI VO.2.2.2.2.1),.p (eI VO.2.2.2.2.2.1),.p (eS VO.2.2.2.2.2.2)])]⟩) Z Z) (mSq ⟨3,[3,5,7],(by4 (.some (cp [] 118000 118000)) (.some λ i=>Nat.beq i 101||Nat.beq i 122) .none .none),(λ _=>[(0,.ptr 1000000 0),(2,.p (eS end_2)),(6,.ptr 6 0),(7,.ptr 7 0)]),(by4 ([(6,aH),(7,(cX (.p (eI UU)) (.p (eS Ur.1)) (.p (eS Ur.2.1)) (.vec 101 11 0 (V6.1.map ak)) (.p (eI t_1.fAt)))),(1000000,[.p (eL aB VO.2.1),.p (eI (VO.2.2.1+1)),.p (eI VO.2.2.2.1),.p (eI VO.2.2.2.2.1),.p (eI VO.2.2.2.2.2.1),.p (eS VO.2.2.2.2.2.2)])]) ([(1000000,((aj.cs U8.2).map .p)),(6,aH),(7,(cX (.p (eI UU)) (.p (eS Ur.1)) (.p (eS Ur.2.1)) (.vec 101 11 0 (V6.1.map ak)) (.p (eI t_1.fAt))))]) ([(1000000,((aj.cs U8.2).map .p)),(6,aH),(7,(cX (.p (eI UU)) (.p (eS Ur.1)) (.p (eS Ur.2.1)) (.p (eL ak V6.1)) (.p (eI t_1.fAt))))]) ([(7,(cX (.p (eI UU)) (.p (eS Ur.1)) (.p (eS Ur.2.1)) (.vec 122 11 0 ((V6.1++[U8.1]).map ak)) (.p (eI t_1.fAt)))),(1000000,((aj.cs U8.2).map .p)),(6,aH),(7,(cX (.p (eI UU)) (.p (eS Ur.1)) (.p (eS Ur.2.1)) (.p (eL ak V6.1)) (.p (eI t_1.fAt))))]))⟩ Z ?_);refine dPc (.ptr 7 9) Z (dP (by4 (.vec 101 11 0 (V6.1.map ak)) (.vec 101 11 0 (V6.1.map ak)) (.p (eL ak V6.1)) (.p (eL ak V6.1))) Z ?_);refine dPc (.ptr 1000000 0) Z (dI (λ _=>.p (.agg (ac.cs U8.1))) [119] Z (λ sl Sk K hK=>ap Z (aV [1000000] [] 118000 118000 (HO.c aa2) Z Z Z (aE (Sk _ _ Z) bz) Z ⟨sr,trivial⟩ Z Z ⟨⟨_,Z,⟨sr,sr,sr,sr,sr,sr,trivial⟩⟩,trivial⟩ Z Z Z Z Z Z Z Z Tryz.call219 Z Z hK)) ?_);refine dO (.p (eL ak [U8.1])) [120] Z (λ _ sl Sk K hK=>ap Z (aK ak [U8.1] Z Z Z Z Z Z (cU (Sk _ _ Z) Z d5) Z Z Z Z Z Z fF hK)) (dI (λ _=>.vec 122 11 0 ((V6.1++[U8.1]).map ak)) [118,121] Z (λ sl Sk K hK=>ap Z (ef ak V6.1 [U8.1] Z Z Z Z Z Z Z Z (Sk _ _ Z) Z Z (Sk _ _ Z) Z (λ x=>congrArg List.length (ac.It x)) Z Z Z Z abW hK)) ?_);refine dPc (.ptr 7 9) Z (dS Z ?_);exact az
        exact nx 2 Z (eX _ (oi h1).symm (bm (cb 101 122 Z Z Z Z Z) (gE Z Z)))
       exact bP
      refine nx 3 Z (oS Z Z ?_);refine nx 1 Z (fD [90] h1 Z (λ c72 h1=>?_) λ c72 h1=>?_)
      ·refine nx 2 Z (bd h1 λ Zb h2 h1=>?_);refine kN Zb (λ aan=>⟨[(0,.ptr 1000000 0),(2,.p (eS end_2)),(6,.ptr 6 0),(7,.ptr 7 0)],[(6,aH),(7,(cX (.p (eI UU)) (.p (eS Ur.1)) (.p (eS Ur.2.1)) (.vec 87 11 0 (([U0.1]++[Vj.1]).map ak)) (.p (eI t_1.fAt)))),(1000000,(bb aan))]⟩) ?_ ?_
       ·refine nx 1 Z (bd h1 λ Xm e85 h1=>?_);refine cc' h1 λ hk86 h1=>mG (gE (t:=⟨[(0,.ptr 1000000 0),(2,.p (eS end_2)),(6,.ptr 6 0),(7,.ptr 7 0)],[(6,aH),(7,(cX (.p (eI UU)) (.p (eS Ur.1)) (.p (eS Ur.2.1)) (.vec 87 11 0 (([U0.1]++[Vj.1]).map ak)) (.p (eI t_1.fAt)))),(1000000,(bb Zb))]⟩) Z Z) (mSq ⟨3,[3,5,7],(by4 (.some (cp [] 115000 115000)) (.some λ i=>Nat.beq i 87||Nat.beq i 101) .none .none),(λ _=>[(0,.ptr 1000000 0),(2,.p (eS end_2)),(6,.ptr 6 0),(7,.ptr 7 0)]),(by4 ([(6,aH),(7,(cX (.p (eI UU)) (.p (eS Ur.1)) (.p (eS Ur.2.1)) (.vec 87 11 0 (([U0.1]++[Vj.1]).map ak)) (.p (eI t_1.fAt)))),(1000000,(bb Zb))]) ([(1000000,((aj.cs Xm.2).map .p)),(6,aH),(7,(cX (.p (eI UU)) (.p (eS Ur.1)) (.p (eS Ur.2.1)) (.vec 87 11 0 (([U0.1]++[Vj.1]).map ak)) (.p (eI t_1.fAt))))]) ([(1000000,((aj.cs Xm.2).map .p)),(6,aH),(7,(cX (.p (eI UU)) (.p (eS Ur.1)) (.p (eS Ur.2.1)) (.p (eL ak ([U0.1]++[Vj.1]))) (.p (eI t_1.fAt))))]) ([(7,(cX (.p (eI UU)) (.p (eS Ur.1)) (.p (eS Ur.2.1)) (.vec 101 11 0 ((([U0.1]++[Vj.1])++[Xm.1]).map ak)) (.p (eI t_1.fAt)))),(1000000,((aj.cs Xm.2).map .p)),(6,aH),(7,(cX (.p (eI UU)) (.p (eS Ur.1)) (.p (eS Ur.2.1)) (.p (eL ak ([U0.1]++[Vj.1]))) (.p (eI t_1.fAt))))]))⟩ Z ?_);refine dPc (.ptr 7 9) Z (dP (by4 (.vec 87 11 0 (([U0.1]++[Vj.1]).map ak)) (.vec 87 11 0 (([U0.1]++[Vj.1]).map ak)) (.p (eL ak ([U0.1]++[Vj.1]))) (.p (eL ak ([U0.1]++[Vj.1])))) Z ?_);refine dPc (.ptr 1000000 0) Z (dI (λ _=>.p (.agg (ac.cs Xm.1))) [98] Z (λ sl Sk K hK=>ap Z (aV [1000000] [] 115000 115000 (HO.c e85) Z Z Z (aE (Sk _ _ Z) bz) Z ⟨sr,trivial⟩ Z Z ⟨⟨_,Z,⟨sr,sr,sr,sr,sr,sr,trivial⟩⟩,trivial⟩ Z Z Z Z Z Z Z Z Tryz.call219 Z Z hK)) ?_);refine dO (.p (eL ak [Xm.1])) [99] Z (λ _ sl Sk K hK=>ap Z (aK ak [Xm.1] Z Z Z Z Z Z (cU (Sk _ _ Z) Z d5) Z Z Z Z Z Z fF hK)) (dI (λ _=>.vec 101 11 0 ((([U0.1]++[Vj.1])++[Xm.1]).map ak)) [97,100] Z (λ sl Sk K hK=>ap Z (ef ak ([U0.1]++[Vj.1]) [Xm.1] Z Z Z Z Z Z Z Z (Sk _ _ Z) Z Z (Sk _ _ Z) Z (λ x=>congrArg List.length (ac.It x)) Z Z Z Z hk86 hK)) ?_);refine dPc (.ptr 7 9) Z (dS Z ?_);exact az
       exact bP
      exact nx 2 Z (eX _ (oi h1).symm (bm (cb 87 101 Z Z Z Z Z) (gE Z Z)))
     exact az
    have:=js [1200];have:=jB 1200 (Bool×List ab×Int×Int×Int×Int×Bk) (λ v=>[(60,.p (eB v.1))]) λ v=>[(1000000,(bb v.2))]
    exact az
   have:=js [800];have:=jB 800 (Bool×List ab×Int×Int×Int×Int×Bk) (λ v=>[(39,.p (eB v.1))]) λ v=>[(1000000,(bb v.2))]
   exact az
  exact az
 ·refine λ OF=>hO good [] [1000000] Tryz.func218 Z Z λ r h0 _ w0 F=>?_;rw [ce] at h0;have:=js [500];have:=jB 500 (Bool×List ab×Int×Int×Int×Int×Bk) (λ v=>[(28,.p (eB v.1))]) λ v=>[(1000000,(bb v.2))]
  exact J0
 ·refine λ OF=>hO good [] [1000000] Tryz.func219 Z Z λ r h0 _ w0 F=>?_;rw [bh] at h0;exact J0
instance zg (n:Nat):mZ (aG n) 67:=(qY n).2.2.2.1
def lb (n:Nat)(l_0:List ab)(N':Int):Option (ac×Int×ao) :=((jj n l_0).bind λ r1=>if r1=0 then if N'<0 then some true else some (decide ((l_0.length:Int)<=N'))else some true).bind λ t5=>if t5=true then some ((ac.mk 0 0 ([]:Bk) ([]:Bk) (am.mk 0 0 ([]:Bk) [] []) [] 0),0,(ao.mk 1 0 ([]:Bk)))else(aG n (aj.mk l_0 N' 0 (ao.mk 0 0 ([]:Bk)))).bind λ r7=>(bX n r7.2 r7.1).bind λ r9=>if r9.2.1.Ar=0 then some (r9.1,r9.2.2.fI,(ao.mk 0 0 ([]:Bk)))else some ((ac.mk 0 0 ([]:Bk) ([]:Bk) (am.mk 0 0 ([]:Bk) [] []) [] 0),0,r9.2.1)
instance Mo (n:Nat) (l_0:List ab) (N':Int):∀ (r:ac×Int×ao),HP (lb n l_0 N'=some r) Tryz.prog 29 [eL aB l_0,eI N'] (.tuple [.p (.agg (ac.cs r.1)),.p (eI r.2.1),.p (.agg (ao.cs r.2.2))]):=by
 refine hP good Tryz.func29 Z Z λ r h0 _ w0=>?_;unfold lb at h0;refine nx 8 Z (bd h0 λ o13 h1 h0=>?_);refine kN o13 (λ v14=>⟨[(0,.p (eL aB l_0)),(1,.p (eI N')),(4,.ptr 4 0),(6,.ptr 6 0),(23,.p (eB v14))],[(4,aH),(6,iM)]⟩) ?_ ?_
 ·exact J0
 exact az
end Go.Ab.R06
end
section
namespace Go.Ab.R06
open Go.Ab Go.Ab.RB Go.Lib
theorem ckT {α:Type}(x:Option α):ck True x=x:=cn trivial
theorem Ni (v:am)(h:v.Df.length+v.C'.length<=1000000000000000):j9 v=j6 v:=by
 unfold j9 j6;by_cases h1:v.Ar=0
 ·by_cases h2:v.F'=0
  ·by_cases h3:v.If=[]
   ·simp only [if_pos h1,if_pos h2,if_pos h3];rw [cn aC];by_cases h4:(v.Df.length:Int)=0
    ·rw [if_pos h4];simp only [cl,bt,decide_eq_decide]; omega
    ·rw [if_neg h4];simp only [cl,bt,decide_eq_false_iff_not]; omega
   ·simp only [if_pos h1,if_pos h2,if_neg h3]
  ·simp only [if_pos h1,if_neg h2]
 ·simp only [if_neg h1]
theorem O1 (v:am):∃ b,j6 v=some b:=by
 unfold j6
 repeat' split
 all_goals exact ⟨_,Z⟩
theorem wT (e:ac)(h:e.A'.Df.length+e.A'.C'.length<=1000000000000000):iz e=fZ e:=by
 obtain ⟨z,hz⟩:=O1 e.A';have hz':=(Ni e.A' h).trans hz;unfold iz fZ jK;rw [hz,hz']
 clear hz hz' h
 have hk0:0<=(e.BY.length:Int):=by omega
 have hp:(e.BY.length:Int).tmod 2=0\/(e.BY.length:Int).tmod 2=1:=by
  have:=Int.emod_two_eq (e.BY.length:Int)
  rwa [Int.tmod_eq_emod_of_nonneg hk0]
 generalize (e.BY.length:Int)=m at hk0 hp ⊢;generalize e.Ar=k;generalize e.fOp=op;generalize e.A'.Ar=vk;generalize e.A'.F'=vn;generalize e.AI=name;generalize e.D'=key;by_cases hr:k<1\/13<k
 ·have e2:iJ k m=some false:=by
   unfold iJ;simp only [show ¬ k=1 by omega,show ¬ k=2 by omega,show ¬ k=3 by omega,show ¬ k=4 by omega,show ¬ k=5 by omega,show ¬ k=6 by omega,show ¬ k=7 by omega,show ¬ k=8 by omega,show ¬ k=9 by omega,show ¬ k=10 by omega,show ¬ k=11 by omega,show ¬ k=12 by omega,show ¬ k=13 by omega,if_false,decide_false,cl,Bool.false_eq_true]
  rw [e2];by_cases q:k<1
  ·rw [if_pos q]; rfl
  ·rw [if_neg q,if_pos O]; rfl
 ·have hk:k=1\/k=2\/k=3\/k=4\/k=5\/k=6\/k=7\/k=8\/k=9\/k=10\/k=11\/k=12\/k=13:=by omega
  unfold jV ly qn iJ iI iD;unfold iI;by_cases hn:name=[] <;> by_cases hke:key=[] <;> cases z <;> rcases hp with hp|hp
  all_goals (rcases hk with rfl|rfl|rfl|rfl|rfl|rfl|rfl|rfl|rfl|rfl|rfl|rfl|rfl)
  all_goals (simp [hn,hke,hp,ckT]; try done)
  all_goals (repeat' split)
  all_goals (try (simp_all; done))
  all_goals (try omega)
  all_goals (try simp_all)
  all_goals (repeat' split)
  all_goals (try (simp_all; done))
  all_goals (try omega)
end Go.Ab.R06
end
section
namespace Go.Ab.R06
open Go.Ab Go.Ab.RB
variable {p:Prop}
theorem KC (h:p:=by
 refine av (λ h3=>aa (mk _ ?_)) (λ h3=>ag O (av (λ h4=>aa (mk _ ?_)) (λ h4=>ag O (aa (mk _ ?_)))))
 ·simp; omega
 ·simp; omega
 ·rw [decide_eq_true_eq]; omega):p:=h
theorem Li (s:Bk)(hs:s.length<=1000000000000000):∀ (k i:Nat),i+k=s.length->Ev2 (λ _ m=>dm s m (i:Int)) (·=if ki (zu s) i k then .inl () else .inr false):=by
 intro k
 induction k with
 | zero=>
  intro i hi;refine aw ?_;simp only [dm];refine af O (aa rfl)
 | succ k ih=>
  intro i hi;refine aw ?_;simp only [dm];refine ae O (ag O ?_);have hb:byt s i=((s.getD i 0).toNat:Int):=cH s i;rw [hb];have hor:=QV (s.getD i 0);have hok:=p7 s i;rw [lJ,iO] at hok;refine ai (!zu s i) ?_ ?_
  ·generalize s.getD i 0=b at hor hok ⊢;generalize zu s i=o at hok ⊢;generalize iOr .u8 ((b.toNat:Nat):Int) 32=v at hor ⊢;have hT:(gR b=true)->o=true:=λ h=>hok.2 (.inl ((lJ b).1 h));have mk:∀ x:Bool,(x=true↔¬ (((97<=b.toNat/\b.toNat<=122)\/(65<=b.toNat/\b.toNat<=90)\/b.toNat=95)\/(i≠0/\48<=b.toNat/\b.toNat<=57)))->x=!o:=λ x hx=>eqB (by rw [hx,<- hok]; simp);refine ag O (av (λ h=>aa (mk _ ?_)) (λ h=>av (λ h1=>?_) (λ h1=>av (λ h2=>?_) (λ h2=>aa (mk _ ?_)))))
   ·simp; omega
   ·exact KC
   ·exact KC
   ·simp; omega
  ·cases hk:zu s i with
   | false=>exact ae G (aa (by simp [ki,hk]))
   | true=>
    refine af G (ag aC ?_);have:=ih (i+1) O;rw [Int.natCast_add,Int.natCast_one] at this;simpa [ki,hk] using this
theorem zE (s:Bk)(hs:s.length<=1000000000000000):Ev2 (λ n _=>gQ n s) (·=fg s):=by
 simp only [gQ];have h:=Li s hs s.length 0 O;have hi:=vJ s
 cases ha:ki (zu s) 0 s.length with
 | false=>
  rw [ha] at h hi;refine iV false (aN h) (eqB ?_);rw [hi]; simp
 | true=>
  rw [ha] at h hi;refine ek () (aN h) ?_;refine ah (·=fg s) (av (λ h=>aa (eqB ?_)) (λ h=>aa (eqB ?_))) (λ t ht=>aa ht)
  ·rw [hi]; simp [h]
  ·rw [hi,decide_eq_true_eq]; simp [h]; omega
theorem Eb (b:UInt8):jA (b.toNat:Int)=some (gR b):=by
 simp only [jA];have h:=lJ b;generalize gR b=o at h ⊢;have mk:∀ x:Bool,(x=true↔(97<=b.toNat/\b.toNat<=122)\/(65<=b.toNat/\b.toNat<=90)\/b.toNat=95)->some x=some o:=λ x hx=>congrArg some (eqB (by rw [hx,h]))
 repeat' split
 all_goals (simp only [cl]; apply mk; first|(rw [decide_eq_true_eq]; omega)|(simp; omega))
theorem E4 (s:Bk)(hs:s.length<=1000000000000000):∀ (k i:Nat),i+k=s.length->Ev2 (λ _ m=>cQ s m (i:Int)) (·=if ki (λ j=>idB (s.getD j 0)) i k then .inl () else .inr false):=by
 intro k
 induction k with
 | zero=>
  intro i hi;refine aw ?_;simp only [cQ];refine af O (aa rfl)
 | succ k ih=>
  intro i hi;refine aw ?_;simp only [cQ];refine ae O ?_;have hb:byt s i=((s.getD i 0).toNat:Int):=cH s i;rw [hb];refine ai (!idB (s.getD i 0)) ?_ ?_
  ·refine ag O (ai _ (ax (Eb _) Z) ?_);have h:=iO (s.getD i 0);simp only [idB];generalize s.getD i 0=b at h ⊢
   cases hl:gR b with
   | true=>exact af G (aa G)
   | false=>
    refine ae G (ag O (av (λ h1=>aa ?_) (λ h1=>ag O (aa ?_))))
    ·have:cz b=false:=by rw [<- Bool.not_eq_true,h]; omega
     simp [this]
    ·refine eqB ?_;rw [decide_eq_true_eq,Bool.false_or,Bool.not_eq_true',<- Bool.not_eq_true,h];omega
  ·cases hk:idB (s.getD i 0) with
   | false=>exact ae Z (aa (by simp only [ki,hk,Bool.false_and]; rfl))
   | true=>
    exact Hu
theorem sY (s:Bk)(hs:s.length<=1000000000000000):Ev2 (λ n _=>fj n s) (·=fg s):=by
 simp only [fj];have hi:=tN s;refine ai (decide (s=[])||decide (64<(s.length:Int))||!gR (s.getD 0 0)) ?_ ?_
 ·refine av (λ h=>aa (by simp [h])) (λ h=>av (λ h1=>aa (by simp [h1])) (λ h1=>ag ?_ ?_))
  ·have:=List.length_pos_iff.2 h; omega
  ·refine ai (gR (s.getD 0 0)) (ax (Eb _) Z) (aa ?_);have:decide (64<(s.length:Int))=false:=decide_eq_false h1;simp [h,this]
 ·refine av (λ h=>aa (eqB ?_)) (λ h=>?_)
  ·rw [hi]; simp at h ⊢; intro q1 q2 q3;rcases h with (h|h)|h
   ·exact absurd h q1
   ·omega
   ·rw [h] at q3; cases q3
  ·have l:=E4 s hs s.length 0 O;simp only [Bool.or_eq_true,decide_eq_true_eq,not_or] at h;obtain ⟨⟨h1,h2⟩,h3⟩:=h;have h3:gR (s.getD 0 0)=true:=by simpa using h3
   cases ha:ki (λ j=>idB (s.getD j 0)) 0 s.length with
   | false=>
    rw [ha] at l hi;refine iV false (aN l) (eqB ?_);rw [hi]; simp
   | true=>
    rw [ha] at l hi;refine ek () (aN l) (aa (eqB ?_));rw [hi]; simp only [true_iff];exact ⟨h1,by omega,h3,trivial⟩
end Go.Ab.R06
end
section
namespace Go.Ab.R06
open Go.Ab Go.Ab.RB Go.Lib
variable {p:Prop}
theorem rW (h:p:=by
 exact af he (aa Z)):p:=h
theorem Kg (h:p:=by
 rw [if_neg O]
 symm; rw [bt,decide_eq_false_iff_not]
 intro q; exact q2 q.2.1):p:=h
theorem KU (h:p:=by
 rw [List.getD_eq_getElem?_getD,List.getElem?_drop,List.getD_eq_getElem?_getD]):p:=h
theorem xh (h:p:=by
 rw [if_neg O,if_neg q]):p:=h
theorem HR (h:p:=by
 rw [if_neg O]
 symm; rw [bt,decide_eq_false_iff_not]
 intro q; exact q1 q.1):p:=h
theorem Ce (h:p:=by
 rw [hP,if_pos O,vC,two]; rfl):p:=h
theorem HH (h:p:=by
 refine aO tail λ r hr=>?_
 rw [hr]; simp only [q1,q0,q2,false_or]):p:=h
theorem yT (h:p:=by
 rw [if_pos O,if_pos q]):p:=h
theorem Iv (h:p:=by
 rw [if_neg (by simp only [decide_eq_true_eq]; exact q3)]
 symm; rw [bt,decide_eq_false_iff_not]
 intro q; exact q3 q.2.2.1):p:=h
theorem t31:(List.range 256).all (λ n=>bK .u8 (n:Int) 31==((n%32:Nat):Int))=true:=by kernel_rfl
theorem t15:(List.range 256).all (λ n=>bK .u8 (n:Int) 15==((n%16:Nat):Int))=true:=by kernel_rfl
theorem t7:(List.range 256).all (λ n=>bK .u8 (n:Int) 7==((n%8:Nat):Int))=true:=by kernel_rfl
theorem or64 (a b:Nat)(ha:a<4611686018427387904)(hb:b<4611686018427387904):iOr .i64 (a:Int) (b:Int)=((a ||| b:Nat):Int):=by
 have hlt:a ||| b<4611686018427387904:=Nat.or_lt_two_pow (n:=62) ha hb
 have e1:(BitVec.ofInt 64 (a:Int)).toNat=a:=by
  grind
 have e2:(BitVec.ofInt 64 (b:Int)).toNat=b:=by
  grind
 show IntKind.wrap .i64 (((BitVec.ofInt 64 (a:Int)) ||| (BitVec.ofInt 64 (b:Int))).toNat:Nat)=_
 grind [IntKind.wrap,IntKind.bits]
theorem wY (a b k:Nat)(ha:a*2^k<4611686018427387904)(hb:b<2^k)(hk:k<=20):iOr .i64 ((a*2^k:Nat):Int) (b:Int)=((a*2^k+b:Nat):Int):=by
 have hp:2^k<=2^20:=Nat.pow_le_pow_right (by decide) hk;have h20:(2:Nat)^20=1048576:=rfl;rw [or64 _ _ ha O];have:=Nat.shiftLeft_add_eq_or_of_lt hb a
 grind [Nat.shiftLeft_eq]
theorem xb (a k:Nat)(hk:k<=20)(ha:a*2^k<4611686018427387904):lc .i64 (a:Int) (k:Int)=((a*2^k:Nat):Int):=by
 grind [lc,IntKind.wrap,IntKind.bits]
def On (l:Bk):Int×Int:=if (decodeL l).1=65533/\(decodeL l).2=1 then (0,0) else (((decodeL l).1:Int),((decodeL l).2:Int))
theorem OE (s:Bk)(j:Nat)(lo hi:Int):em s (j:Int) lo hi=some (decide (j<s.length/\lo<=((s.getD j 0).toNat:Int)/\((s.getD j 0).toNat:Int)<=hi)):=by
 grind [em,cH,cn]
set_option maxHeartbeats 8000000 in
theorem u7 (s:Bk)(i:Nat)(hi:i<s.length)(hs:s.length<=1000000000):jv s (i:Int)=some (On (s.drop i)):=by
 have hg:∀ k,(s.drop i).getD k 0=s.getD (i+k) 0:=λ k=>by
  exact KU
 unfold jv On;rw [decodeL_N,hg,hg,hg,hg,Nat.add_zero,n6]
 have b:∀ k:Nat,byt s ((i:Int)+k)=((s.getD (i+k) 0).toNat:Int):=λ k=>by
  rw [show (i:Int)+(k:Int)=((i+k:Nat):Int) by omega]; exact cH s (i+k)
 have c:∀ (k:Nat) lo hi,em s ((i:Int)+k) lo hi=some (decide (k<s.length-i/\lo<=((s.getD (i+k) 0).toNat:Int)/\((s.getD (i+k) 0).toNat:Int)<=hi)):=λ k lo hi=>by
  rw [show (i:Int)+(k:Int)=((i+k:Nat):Int) by omega,OE];refine congrArg some (eqB ?_);rw [decide_eq_true_eq,decide_eq_true_eq];constructor
  ·rintro ⟨h1,h2⟩; exact ⟨by omega,h2⟩
  ·rintro ⟨h1,h2⟩; exact ⟨by omega,h2⟩
 have b0:byt s (i:Int)=((s.getD i 0).toNat:Int):=cH s i;have b1:byt s ((i:Int)+1)=((s.getD (i+1) 0).toNat:Int):=b 1;have b2:byt s ((i:Int)+2)=((s.getD (i+2) 0).toNat:Int):=b 2;have b3:byt s ((i:Int)+3)=((s.getD (i+3) 0).toNat:Int):=b 3;have c1:∀ lo hi,em s ((i:Int)+1) lo hi=_:=c 1;have c2:∀ lo hi,em s ((i:Int)+2) lo hi=_:=c 2;have c3:∀ lo hi,em s ((i:Int)+3) lo hi=_:=c 3;simp only [b0,b1,b2,b3,c1,c2,c3];obtain ⟨n,hn⟩:∃ n,s.length=i+n:=⟨s.length-i,by omega⟩
 have hn1:s.length-i=n:=by omega
 have M':(s.length:Int)=(i:Int)+n:=by omega
 rw [hn1,M'];have l0:=(s.getD i 0).toNat_lt;have l1:=(s.getD (i+1) 0).toNat_lt;have l2:=(s.getD (i+2) 0).toNat_lt;have l3:=(s.getD (i+3) 0).toNat_lt;generalize (s.getD i 0).toNat=B0 at l0 ⊢;generalize (s.getD (i+1) 0).toNat=B1 at l1 ⊢;generalize (s.getD (i+2) 0).toNat=B2 at l2 ⊢;generalize (s.getD (i+3) 0).toNat=B3 at l3 ⊢;have hnp:0<n:=by omega
 have XO:n<=1000000000:=by omega
 have hib:i<=1000000000:=by omega
 clear hg b c b0 b1 b2 b3 c1 c2 c3 hn1 M' hn hi hs
 have a31:bK .u8 (B0:Int) 31=((B0%32:Nat):Int):=tab t31 B0 O;have a15:bK .u8 (B0:Int) 15=((B0%16:Nat):Int):=tab t15 B0 O;have a7:bK .u8 (B0:Int) 7=((B0%8:Nat):Int):=tab t7 B0 O;have a1:bK .u8 (B1:Int) 63=((B1%64:Nat):Int):=tab t63 B1 O;have a2:bK .u8 (B2:Int) 63=((B2%64:Nat):Int):=tab t63 B2 O;have a3:bK .u8 (B3:Int) 63=((B3%64:Nat):Int):=tab t63 B3 O
 have two:iOr .i64 (lc .i64 ((B0%32:Nat):Int) 6) ((B1%64:Nat):Int)=((B0%32*64+B1%64:Nat):Int):=by
  have h1:lc .i64 ((B0%32:Nat):Int) 6=((B0%32*2^6:Nat):Int):=xb _ 6 (by decide) O;rw [h1];exact wY _ _ 6 O O  (by decide)
 have three:iOr .i64 (iOr .i64 (lc .i64 ((B0%16:Nat):Int) 12) (lc .i64 ((B1%64:Nat):Int) 6)) ((B2%64:Nat):Int)=((B0%16*4096+B1%64*64+B2%64:Nat):Int):=by
  have h1:lc .i64 ((B0%16:Nat):Int) 12=((B0%16*2^12:Nat):Int):=xb _ 12 (by decide) O;have h2:lc .i64 ((B1%64:Nat):Int) 6=((B1%64*2^6:Nat):Int):=xb _ 6 (by decide) O;have h3:=wY (B0%16) (B1%64*2^6) 12 O O  (by decide);have h4:=wY (B0%16*64+B1%64) (B2%64) 6 O O  (by decide);rw [h1,h2,h3,show B0%16*2^12+B1%64*2^6=(B0%16*64+B1%64)*2^6 by omega,h4]
 have four:iOr .i64 (iOr .i64 (iOr .i64 (lc .i64 ((B0%8:Nat):Int) 18) (lc .i64 ((B1%64:Nat):Int) 12)) (lc .i64 ((B2%64:Nat):Int) 6)) ((B3%64:Nat):Int)=((B0%8*262144+B1%64*4096+B2%64*64+B3%64:Nat):Int):=by
  have h1:lc .i64 ((B0%8:Nat):Int) 18=((B0%8*2^18:Nat):Int):=xb _ 18 (by decide) O;have h2:lc .i64 ((B1%64:Nat):Int) 12=((B1%64*2^12:Nat):Int):=xb _ 12 (by decide) O;have h2':lc .i64 ((B2%64:Nat):Int) 6=((B2%64*2^6:Nat):Int):=xb _ 6 (by decide) O;have h3:=wY (B0%8) (B1%64*2^12) 18 O O  (by decide);have h4:=wY (B0%8*64+B1%64) (B2%64*2^6) 12 O O  (by decide);have h5:=wY (B0%8*4096+B1%64*64+B2%64) (B3%64) 6 O O  (by decide);rw [h1,h2,h2',h3,show B0%8*2^18+B1%64*2^12=(B0%8*64+B1%64)*2^12 by omega,h4,show (B0%8*64+B1%64)*2^12+B2%64*2^6=(B0%8*4096+B1%64*64+B2%64)*2^6 by omega,h5]
 rw [a31,a15,a7,a1,a2,a3,two,three,four];have i1:inR ((i:Int)+1):=bv O O;have i2:inR ((i:Int)+2):=bv O O;have i3:inR ((i:Int)+3):=bv O O
 have e0:((if (i:Int)<0 then some true else some (decide ((i:Int)+n<=i))):Option Bool)=some false:=by
  rw [if_neg O]; simp; omega
 rw [e0,cl,if_neg G,cn O];unfold decodeN;by_cases h0:B0<128
 ·rw [if_pos (show (B0:Int)<128 by omega),cn aC,if_pos h0];simp only;rw [if_neg O]; rfl
 rw [if_neg (show ¬ (B0:Int)<128 by omega),if_neg h0]
 have Z3:((if 194<=(B0:Int) then if (B0:Int)<=223 then ck (inR ((i:Int)+1))<|(some (decide (1<n/\(128:Int)<=(B1:Int)/\(B1:Int)<=191))).bind λ UN=>some UN else some false else some false):Option Bool)=some (decide (194<=B0/\B0<=223/\1<n/\128<=B1/\B1<=191)):=by
  by_cases q1:194<=B0
  ·rw [if_pos O];by_cases q2:B0<=223
   ·rw [if_pos O,cn i1,cl];refine congrArg some (eqB ?_);rw [decide_eq_true_eq,decide_eq_true_eq]; omega
   ·rw [if_neg O]; simp; omega
  ·rw [if_neg O]; simp; omega
 rw [Z3,cl];by_cases h12:194<=B0/\B0<=223/\1<n/\128<=B1/\B1<=191
 ·rw [if_pos (by simp only [decide_eq_true_eq]; exact h12),cn aC,cn O,cn i1,cn O,cn aC];rw [if_pos (show B0 / 32=6/\1<n/\B1 / 64=2 by omega),if_pos (show B0%32*64+B1%64 >= 128 by omega)];show some _=some (if B0%32*64+B1%64=65533/\_ then _ else _);rw [if_neg O]; rfl
 rw [if_neg (by simp only [decide_eq_true_eq]; exact h12)]
 have hlo:((if (B0:Int)=224 then some 160 else some 128):Option Int)=some (if B0=224 then 160 else 128):=by
  by_cases q:B0=224
  ·exact yT
  ·exact xh
 have hhi:((if (B0:Int)=237 then some 159 else some 191):Option Int)=some (if B0=237 then 159 else 191):=by
  by_cases q:B0=237
  ·exact yT
  ·exact xh
 have hlo4:((if (B0:Int)=240 then some 144 else some 128):Option Int)=some (if B0=240 then 144 else 128):=by
  by_cases q:B0=240
  ·exact yT
  ·exact xh
 have hhi4:((if (B0:Int)=244 then some 143 else some 191):Option Int)=some (if B0=244 then 143 else 191):=by
  by_cases q:B0=244
  ·exact yT
  ·exact xh
 rw [hlo,cl,hhi,cl]
 have e32:∀ lo hi:Int,((if 224<=(B0:Int) then if (B0:Int)<=239 then ck (inR ((i:Int)+1))<|(some (decide (1<n/\lo<=(B1:Int)/\(B1:Int)<=hi))).bind λ Ve=>if Ve=true then ck (inR ((i:Int)+2))<|(some (decide (2<n/\(128:Int)<=(B2:Int)/\(B2:Int)<=191))).bind λ Xd=>some Xd else some false else some false else some false):Option Bool)
   = some (decide (224<=B0/\B0<=239/\(1<n/\lo<=(B1:Int)/\(B1:Int)<=hi)/\2<n/\128<=B2/\B2<=191)):=by
  intro lo hi;by_cases q1:224<=B0
  ·rw [if_pos O];by_cases q2:B0<=239
   ·rw [if_pos O,cn i1,cl];by_cases q3:1<n/\lo<=(B1:Int)/\(B1:Int)<=hi
    ·rw [if_pos (by simp only [decide_eq_true_eq]; exact q3),cn i2,cl];refine congrArg some (eqB ?_);rw [decide_eq_true_eq,decide_eq_true_eq];constructor
     ·intro q; exact ⟨q1,q2,q3,by omega⟩
     ·intro q; have:=q.2.2.2; omega
    ·exact Iv
   ·exact Kg
  ·exact HR
 rw [e32,cl];by_cases h32:224<=B0/\B0<=239/\(1<n/\(if B0=224 then 160 else 128)<=(B1:Int)/\(B1:Int)<=(if B0=237 then 159 else 191))/\2<n/\128<=B2/\B2<=191
 ·rw [if_pos (by simp only [decide_eq_true_eq]; exact h32)];obtain ⟨k1,k2,⟨k3,k4,k5⟩,k6,k7,k8⟩:=h32;have k4':128<=B1/\(B0=224->160<=B1):=by split at k4 <;> omega
  have k5':B1<=191/\(B0=237->B1<=159):=by split at k5 <;> omega
  clear k4 k5
  repeat rw [cn (by first|exact i1|exact i2|omega|exact bv O O)]
  rw [if_neg (show ¬ (B0 / 32=6/\1<n/\B1 / 64=2) by omega),if_pos (show B0 / 16=14/\(1<n/\B1 / 64=2)/\2<n/\B2 / 64=2 by omega),if_pos (show B0%16*4096+B1%64*64+B2%64 >= 2048/\(B0%16*4096+B1%64*64+B2%64<55296\/57344<=B0%16*4096+B1%64*64+B2%64/\B0%16*4096+B1%64*64+B2%64<=1114111) by omega)];show some _=some (if B0%16*4096+B1%64*64+B2%64=65533/\(3:Nat)=1 then _ else _);rw [if_neg O]; rfl
 rw [if_neg (by simp only [decide_eq_true_eq]; exact h32)];rw [hlo4,cl,hhi4,cl]
 have h32':¬ (224<=B0/\B0<=239/\1<n/\(B0=224->160<=B1)/\128<=B1/\B1<=191/\(B0=237->B1<=159)/\2<n/\128<=B2/\B2<=191):=by
  rintro ⟨k1,k2,k3,k4,k5,k6,k7,k8⟩;exact h32 ⟨k1,k2,⟨k3,by split <;> omega,by split <;> omega⟩,k8⟩
 clear h32 e32
 have e60:∀ lo hi:Int,((if 240<=(B0:Int) then if (B0:Int)<=244 then ck (inR ((i:Int)+1))<|(some (decide (1<n/\lo<=(B1:Int)/\(B1:Int)<=hi))).bind λ r50=>if r50=true then ck (inR ((i:Int)+2))<|(some (decide (2<n/\(128:Int)<=(B2:Int)/\(B2:Int)<=191))).bind λ V8=>if V8=true then ck (inR ((i:Int)+3))<|(some (decide (3<n/\(128:Int)<=(B3:Int)/\(B3:Int)<=191))).bind λ Vi=>some Vi else some false else some false else some false else some false):Option Bool)
   = some (decide (240<=B0/\B0<=244/\(1<n/\lo<=(B1:Int)/\(B1:Int)<=hi)/\(2<n/\128<=B2/\B2<=191)/\3<n/\128<=B3/\B3<=191)):=by
  intro lo hi;by_cases q1:240<=B0
  ·rw [if_pos O];by_cases q2:B0<=244
   ·rw [if_pos O,cn i1,cl];by_cases q3:1<n/\lo<=(B1:Int)/\(B1:Int)<=hi
    ·rw [if_pos (by simp only [decide_eq_true_eq]; exact q3),cn i2,cl];by_cases q4:2<n/\128<=B2/\B2<=191
     ·rw [if_pos (by simp only [decide_eq_true_eq]; omega),cn i3,cl];refine congrArg some (eqB ?_);rw [decide_eq_true_eq,decide_eq_true_eq];constructor
      ·intro q; exact ⟨q1,q2,q3,q4,by omega⟩
      ·intro q; have:=q.2.2.2.2; omega
     ·rw [if_neg (by simp only [decide_eq_true_eq]; omega)]
      symm; rw [bt,decide_eq_false_iff_not]
      intro q; exact q4 q.2.2.2.1
    ·exact Iv
   ·exact Kg
  ·exact HR
 rw [e60,cl];by_cases h60:240<=B0/\B0<=244/\(1<n/\(if B0=240 then 144 else 128)<=(B1:Int)/\(B1:Int)<=(if B0=244 then 143 else 191))/\(2<n/\128<=B2/\B2<=191)/\3<n/\128<=B3/\B3<=191
 ·rw [if_pos (by simp only [decide_eq_true_eq]; exact h60)];obtain ⟨k1,k2,⟨k3,k4,k5⟩,⟨k6,k7,k8⟩,k9,k10,k11⟩:=h60;have k4':128<=B1/\(B0=240->144<=B1):=by split at k4 <;> omega
  have k5':B1<=191/\(B0=244->B1<=143):=by split at k5 <;> omega
  clear k4 k5
  repeat rw [cn (by first|exact i1|exact i2|exact i3|omega|exact bv O O)]
  rw [if_neg (show ¬ (B0 / 32=6/\1<n/\B1 / 64=2) by omega),if_neg (show ¬ (B0 / 16=14/\(1<n/\B1 / 64=2)/\2<n/\B2 / 64=2) by omega),if_pos (show B0 / 8=30/\(1<n/\B1 / 64=2)/\(2<n/\B2 / 64=2)/\3<n/\B3 / 64=2 by omega)];generalize hv:B0%8*262144+B1%64*4096+B2%64*64+B3%64=v;rw [if_pos (show v >= 65536/\(v<55296\/57344<=v/\v<=1114111) by omega)];show some _=some (if v=65533/\(4:Nat)=1 then _ else _);rw [if_neg O]; rfl
 rw [if_neg (by simp only [decide_eq_true_eq]; exact h60)]
 have h60':¬ (240<=B0/\B0<=244/\1<n/\(B0=240->144<=B1)/\128<=B1/\B1<=191/\(B0=244->B1<=143)/\2<n/\128<=B2/\B2<=191/\3<n/\128<=B3/\B3<=191):=by
  rintro ⟨k1,k2,k3,k4,k5,k6,k7,k8,k9,k10,k11⟩;exact h60 ⟨k1,k2,⟨k3,by split <;> omega,by split <;> omega⟩,⟨k8,k9,k10⟩,k11⟩
 clear h60 e60
 symm
 refine congrArg some (if_pos ?_)
 repeat' split
 all_goals first|exact ⟨Z,Z⟩|(exfalso; omega)
theorem Ft (s:Bk)(hs:s.length<=1000000000):∀ (k i:Nat),s.length-i<k->i<=s.length->Ev2 (λ _ m=>gH s m (i:Int)) (·=if validD (s.drop i)=true then .inl () else .inr false):=by
 intro k
 induction k with
 | zero=>intro i h; omega
 | succ k ih=>
  intro i hk hi;refine aw ?_;simp only [gH];by_cases h:i<s.length
  ·have UK:s.drop i≠[]:=by intro q; have:=congrArg List.length q; rw [n6] at this; simp at this; omega
   refine ae O (ai _ (ax (u7 s i h hs) Z) ?_);have hv:=Bj _ UK;have hdf:=gO _ UK;rw [n6] at hdf;unfold On;by_cases q:(decodeL (s.drop i)).1=65533/\(decodeL (s.drop i)).2=1
   ·rw [if_pos q];refine ae rfl (aa ?_);rw [if_neg (λ z=>((hv.1 z).1 q))]
   ·rw [if_neg q];refine af su (ag (bv su su) ?_);have:=ih (i+(decodeL (s.drop i)).2) O O;rw [Int.natCast_add] at this;refine aO this λ r hr=>?_;rw [hr,<- List.drop_drop];by_cases z:validD ((s.drop i).drop (decodeL (s.drop i)).2)=true
    ·rw [if_pos z,if_pos (hv.2 ⟨q,z⟩)]
    ·rw [if_neg z,if_neg (λ y=>z (hv.1 y).2)]
  ·refine af O (aa ?_);rw [List.drop_of_length_le O,if_pos validD_nil]
theorem Fh (s:Bk)(hs:s.length<=1000000000):Ev2 (λ n _=>lS n s) (·=(decide (s.length<=4096)&&validD s)):=by
 simp only [lS];refine av (λ h=>aa ?_) (λ h=>?_)
 ·have:¬ s.length<=4096:=by omega
  simp [this]
 ·have h':s.length<=4096:=by omega
  have l:=Ft s hs (s.length+1) 0 O O;rw [List.drop_zero] at l
  cases hv:validD s with
  | true=>rw [hv] at l; exact ek () (aN l) (aa (by simp [h']))
  | false=>rw [hv] at l; exact iV false (aN l) G
theorem CL:∀ (k u:Nat),u<10^(k+1)->u<=9007199254740992->Ev2 (λ n _=>ge n (u:Int)) (·=decDigits u):=by
 intro k
 induction k with
 | zero=>
  intro u h _;have h:u<10:=by simpa using h
  refine aS ?_;simp only [ge];have hw:IntKind.wrap .u8 (48+(u:Int))=((48+u:Nat):Int):=by rw [rM]; omega
  rw [hw];refine ai true vX (ae rfl (ag aC (ag O (aa ?_))));rw [decDigits,dif_pos h]
  rfl
 | succ k ih=>
  intro u h hm;refine aS ?_;simp only [ge];have hw:u<10->IntKind.wrap .u8 (48+(u:Int))=((48+u:Nat):Int):=λ _=>by rw [rM]; omega
  by_cases h10:u<10
  ·rw [hw h10];refine ai true vX (ae rfl (ag aC (ag O (aa ?_))));rw [decDigits,dif_pos h10]
   rfl
  ·have hd:IntKind.wrap .i64 ((u:Int).tdiv 10)=((u / 10:Nat):Int):=by
    have:(u:Int).tdiv 10=((u / 10:Nat):Int):=by
     rw [Int.tdiv_eq_ediv_of_nonneg O]; omega
    rw [this];exact x5
   have hmod:(u:Int).tmod 10=((u%10:Nat):Int):=by
    rw [Int.tmod_eq_emod_of_nonneg O]; omega
   refine ai false vX (af G ?_);refine ai false pf (af G (af O (ag (by decide) ?_)));rw [hd,hmod];have i1:=ih (u / 10) (by rw [Nat.pow_succ] at h; omega) O;have i2:=ih (u%10) (by have:10^1<=10^(k+1):=Nat.pow_le_pow_right (by decide) O; omega) O;have e2:decDigits (u%10)=[UInt8.ofNat (48+u%10)]:=by rw [decDigits,dif_pos O]
   have hl:(decDigits (u / 10)).length<=u / 10+1:=by
    have:∀ n v:Nat,v<n->(decDigits v).length<=v+1:=by
     intro n
     induction n with
     | zero=>intro v h; omega
     | succ n ihn=>
      intro v hv;rw [decDigits];split
      ·simp
      ·have:=ihn (v / 10) O;rw [n7]; simp; omega
    exact this (u / 10+1) _ O
   refine ai _ i1 (ag (by decide) (ai _ i2 (ag ?_ (aa ?_))))
   ·rw [e2]; simp only [aq,mv]; omega
   ·conv=>rhs; rw [decDigits,dif_neg h10]
    rw [e2]
theorem TJ {v:Int}(h0:0<=v)(h1:v<=i6):Ev2 (λ n _=>ge n v) (·=itoa v):=by
 obtain ⟨u,rfl⟩:∃ u:Nat,v=u:=⟨v.toNat,by omega⟩
 have e:itoa (u:Int)=decDigits u:=by unfold itoa; rw [if_neg O]; simp
 rw [e];have:u<=9007199254740992:=by unfold i6 at h1; omega
 exact CL 15 u O this
theorem DV:∀ n:Fin 16,sub F9 ((n.1:Nat):Int) (((n.1:Nat):Int)+1)=[hexDigit n.1]:=by decide
theorem B7 (u:Nat)(h:u<256):Ev2 (λ n _=>ju n (u:Int)) (·=nX u):=by
 have one:∀ v:Nat,v<16->Ev2 (λ n _=>ju n (v:Int)) (·=[hexDigit v]):=by
  intro v hv;refine aS ?_;simp only [ju];have hm:(v:Int).tmod 16=(v:Int):=by rw [Int.tmod_eq_emod_of_nonneg O]; omega
  rw [hm];refine ag (by decide) (ag (by decide) (ag aC (ag gK (ae O (aa ?_)))));exact DV ⟨v,hv⟩
 by_cases h1:u<16
 ·have e:nX u=[hexDigit u]:=if_pos h1;rw [e]; exact one u h1
 ·have e:nX u=[hexDigit (u / 16),hexDigit (u%16)]:=if_neg h1;rw [e];refine aS ?_;simp only [ju];have hm:(u:Int).tmod 16=((u%16:Nat):Int):=by rw [Int.tmod_eq_emod_of_nonneg O]; omega
  have hd:IntKind.wrap .i64 ((u:Int).tdiv 16)=((u / 16:Nat):Int):=by
   have:(u:Int).tdiv 16=((u / 16:Nat):Int):=by rw [Int.tdiv_eq_ediv_of_nonneg O]; omega
   rw [this];exact x5
  rw [hm,hd];have es:sub ([48,49,50,51,52,53,54,55,56,57,97,98,99,100,101,102]:Bk) ((u%16:Nat):Int) (((u%16:Nat):Int)+1)=[hexDigit (u%16)]:=DV ⟨u%16,by omega⟩;rw [es];refine ag (by decide) (ag (by decide) (ag aC (ag gK (af O (ag (by decide) (ai _ (one _ O) (ag G (aa rfl))))))))
theorem NO (b:UInt8):Ev2 (λ n _=>oe n (b.toNat:Int)) (·=pu b):=by
 have hb:=b.toNat_lt;simp only [oe];refine av (λ h=>aa (T7 O).symm) (λ h1=>av (λ h=>aa (TZ O).symm) (λ h2=>av (λ h=>aa (TV O).symm) (λ h3=>av (λ h=>aa ?_) (λ h4=>av (λ h=>aa ?_) (λ h5=>?_)))))
 ·have e:b=34:=(pP (n:=34) (by decide)).1 O;rw [e]; rfl
 ·have e:b=92:=(pP (n:=92) (by decide)).1 O;rw [e]; rfl
 ·refine ai (decide (b.toNat<32\/b.toNat=127)) ?_ ?_
  ·by_cases h:b.toNat<32
   ·exact Da
   ·exact Dm
  ·by_cases h6:b.toNat<32\/b.toNat=127
   ·rw [Tf O O O h6];have hl:=tv b.toNat;exact ae (by simp [h6]) (ag aC (ai _ (B7 b.toNat O) (ag nH (ag mf (aa rfl)))))
   ·rw [S5 O O  h6];refine af (by simp only [decide_eq_true_eq]; exact h6) (ag O (aa ?_));rw [PH]
theorem EW (s:Bk)(hs:s.length<=1000000000):∀ (k i:Nat) (f:Bk),i+k=s.length->f.length<=6*i+1->Ev2 (λ n m=>jm n s m f (i:Int)) (·=f++(s.drop i).flatMap pu):=by
 intro k
 induction k with
 | zero=>
  intro i f hi hf;refine aw ?_;simp only [jm];refine af O (aa ?_);rw [List.drop_of_length_le O]; simp
 | succ k ih=>
  intro i f hi hf;refine aw ?_;simp only [jm];refine ae O (ag O ?_);have hb:byt s i=((s.getD i 0).toNat:Int):=cH s i;rw [hb]
  have hd:s.drop i=s.getD i 0::s.drop (i+1):=by
   rw [List.getD_eq_getElem?_getD,List.getElem?_eq_getElem O,ur];exact List.drop_eq_getElem_cons O
  rw [hd,List.flatMap_cons];have he:=zJ (s.getD i 0);generalize s.getD i 0=b at he ⊢;refine ai _ (NO b) (ag O (ag aC ?_));have:=ih (i+1) (f++pu b) O u5;rw [Int.natCast_add,Int.natCast_one] at this;simpa using this
theorem Sr (s:Bk)(hs:s.length<=1000000000):Ev2 (λ n _=>tr n s) (·=IM s):=by
 simp only [tr];have hf:=Hj s;have l:=EW s hs s.length 0 [34] O G;rw [List.drop_zero] at l;refine ai _ (aN l) (ag mf (aa ?_));simp [IM]
theorem Tn:(List.range 256).all (λ n=>mU (n:Int)==some (match pN (UInt8.ofNat n) with|some d=>(d:Int)|none=>-1))=true:=by kernel_rfl
theorem Qs (b:UInt8):mU (b.toNat:Int)=some (match pN b with|some d=>(d:Int)|none=>-1):=by
 have:=eq_of_beq (ph.1 Tn b.toNat (List.mem_range.2 b.toNat_lt));simpa using this
theorem getD_drop (s:Bk)(j i:Nat):(s.drop j).getD i 0=s.getD (j+i) 0:=by
 exact KU
theorem yR (s:Bk)(j i:Nat):byt s ((j:Int)+(i:Int))=((s.getD (j+i) 0).toNat:Int):=by
 rw [show (j:Int)+(i:Int)=((j+i:Nat):Int) by omega]; exact cH s (j+i)
theorem drop_at (s:Bk){i:Nat}(h:i<s.length):s.drop i=s.getD i 0::s.drop (i+1):=by
 exact Iu
theorem Fq (s:Bk)(hs:s.length<=1000000000)(j:Nat)(hj:j<=s.length):∀ (k i a:Nat),i+k=6->j+i<=s.length->a<16^i->Ev2 (λ _ m=>fG s (j:Int) m (a:Int) (i:Int))
  (·=(((bS k (s.drop (j+i)) a).1:Int),((i+(bS k (s.drop (j+i)) a).2:Nat):Int))):=by
 intro k
 induction k with
 | zero=>
  intro i a hi hl ha;refine aw ?_;simp only [fG];refine ai false ?_ (af G (aa (by simp [bS])));exact ag aC (av (λ h=>af O (aa rfl)) (λ h=>aa rfl))
 | succ k ih=>
  intro i a hi hl ha;refine aw ?_;simp only [fG];rw [yR];have hin:inR ((j:Int)+(i:Int)):=bv O O;by_cases h:j+i<s.length
  ·rw [drop_at s h];generalize s.getD (j+i) 0=b;unfold bS
   cases hh:pN b with
   | none=>
    refine ai false (ag hin (ae O (ae O (ag hin (ag O (ai _ (ax (Qs b) Z) (aa ?_))))))) (af G vW);rw [hh]; rfl
   | some d=>
    have hlt:=Dt hh;have hp:16^i<=16^5:=Nat.pow_le_pow_right (by decide) O;have hp5:(16:Nat)^5=1048576:=rfl;refine ai true (ag hin (ae O (ae O (ag hin (ag O (ai _ (ax (Qs b) Z) (aa ?_))))))) ?_
    ·rw [hh]; simp
    refine ae Z (ag aC (ag hin (ag O (ai _ (ax (Qs b) Z) ?_))));rw [hh];simp only;refine ag aC (ag aC ?_);have:=ih (i+1) (16*a+d) O O  (by rw [Nat.pow_succ]; omega);rw [show (((i+1:Nat)):Int)=(i:Int)+1 by omega,show ((16*a+d:Nat):Int)=16*(a:Int)+(d:Int) by omega,<- Nat.add_assoc] at this;exact Lf
  ·refine ai false (ag hin pf) (af G (aa ?_));rw [List.drop_of_length_le O];simp [bS]
def shP (j:Int)(p:Int×Int×Int):Int×Int×Int:=if p.2.2=0 then (p.1,j+p.2.1,0) else (0,0,p.2.2)
theorem EO (s:Bk)(hs:s.length<=1000000000)(j:Nat)(hj:j<=s.length):Ev2 (λ n _=>lP n s (j:Int)) (·=shP (j:Int) (fT (s.drop j))):=by
 simp only [lP];have l:=Fq s hs j hj 6 0 0 rfl O (by decide);rw [Nat.add_zero,Nat.zero_add] at l;have hle:=oz 6 (s.drop j) 0;refine ai _ (aN l) ?_;obtain ⟨v,c,hh⟩:∃ v c,bS 6 (s.drop j) 0=(v,c):=⟨_,_,rfl⟩
 have hP:=Dx hh;rw [hh] at hle ⊢;rw [n6] at hle hP;simp only at hle ⊢;have hin:inR ((j:Int)+(c:Int)):=bv O O;refine ag hin ?_;refine av (λ h=>aa ?_) (λ h=>?_)
 ·rw [hP,if_pos O]; rfl
 rw [if_neg (show ¬ c=s.length-j by omega),getD_drop,getD_drop,Nat.add_zero] at hP;have hb0:byt s (j:Int)=((s.getD j 0).toNat:Int):=cH s j;have h125:(s.getD (j+c) 0).toNat=125↔s.getD (j+c) 0=125:=pP (by decide);have h48:(s.getD j 0).toNat=48↔s.getD j 0=48:=pP (by decide);rw [yR,hb0]
 have hvr:validRune (v:Int)=false↔1114111<(v:Int)\/(55296<=(v:Int)/\(v:Int)<=57343):=by
  simp only [validRune,decide_eq_false_iff_not]; omega
 have tail:Ev2 (λ _ _=>(if 1114111<(v:Int) then some true else if 55296<=(v:Int) then some (decide ((v:Int)<=57343)) else some false:Option Bool)) (·=decide (validRune (v:Int)=false)):=by
  refine av (λ h1=>aa ?_) (λ h1=>av (λ h2=>aa (eqB ?_)) (λ h2=>aa ?_))
  ·symm; rw [decide_eq_true_eq,hvr]; exact .inl h1
  ·rw [decide_eq_true_eq,decide_eq_true_eq,hvr]; omega
  ·symm; rw [decide_eq_false_iff_not,hvr]; omega
 refine ai (decide (s.getD (j+c) 0≠125\/c=0\/(1<c/\s.getD j 0=48)\/validRune (v:Int)=false)) ?_ ?_
 ·refine av (λ h1=>aa ?_) (λ h1=>ag hin (ag O ?_))
  ·symm; rw [decide_eq_true_eq]; right; left; omega
  refine av (λ h2=>?_) (λ h2=>aa ?_)
  ·have q1:¬ s.getD (j+c) 0≠125:=λ q=>q (h125.1 O);have q0:¬ c=0:=by omega
   refine av (λ h3=>ag O (av (λ h4=>aa ?_) (λ h4=>?_))) (λ h3=>?_)
   ·symm; rw [decide_eq_true_eq]; right; right; left; exact ⟨by omega,h48.1 O⟩
   ·have q2:¬ (1<c/\s.getD j 0=48):=λ q=>h4 (by have:=h48.2 q.2; omega);exact HH
   ·have q2:¬ (1<c/\s.getD j 0=48):=λ q=>h3 O;exact HH
  ·symm; rw [decide_eq_true_eq]; left; intro q; exact h2 (by have:=h125.2 q; omega)
 ·refine av (λ h1=>aa ?_) (λ h1=>ag hin (ag aC (aa ?_)))
  ·rw [hP,if_pos (of_decide_eq_true h1)]; rfl
  ·rw [hP,if_neg (λ q=>h1 (decide_eq_true q))];unfold shP;rw [if_pos rfl];refine Prod.ext rfl (Prod.ext ?_ rfl);show (j:Int)+(c:Int)+1=(j:Int)+((c+1:Nat):Int);omega
theorem u192:(List.range 32).all (λ n=>iOr .i64 192 (n:Int)==((192+n:Nat):Int))=true:=by kernel_rfl
theorem QC:(List.range 64).all (λ n=>iOr .i64 128 (n:Int)==((128+n:Nat):Int))=true:=by kernel_rfl
theorem u224:(List.range 16).all (λ n=>iOr .i64 224 (n:Int)==((224+n:Nat):Int))=true:=by kernel_rfl
theorem u240:(List.range 8).all (λ n=>iOr .i64 240 (n:Int)==((240+n:Nat):Int))=true:=by kernel_rfl
theorem CX (u:Nat)(h:u<4611686018427387904):bK .i64 (u:Int) 63=((u%64:Nat):Int):=by
 have e1:(BitVec.ofInt 64 (u:Int)).toNat=u:=by rw [BitVec.toNat_ofInt]; omega
 have e2:(BitVec.ofInt 64 (63:Int)).toNat=63:=by rw [BitVec.toNat_ofInt]; omega
 show IntKind.wrap .i64 (((BitVec.ofInt 64 (u:Int)) &&& (BitVec.ofInt 64 (63:Int))).toNat:Nat)=_;rw [BitVec.toNat_and,e1,e2];have:=Nat.and_two_pow_sub_one_eq_mod u 6;rw [show (2:Nat)^6-1=63 from rfl,show (2:Nat)^6=64 from rfl] at this;rw [this];exact x5
theorem shw (u k:Nat)(hk:k<64):cV .i64 (u:Int) (k:Int)=((u / 2^k:Nat):Int):=by
 show (u:Int).fdiv (2^(min (k:Int).toNat IntKind.i64.bits))=_
 have:min (k:Int).toNat IntKind.i64.bits=k:=by
  have:IntKind.i64.bits=64:=rfl;rw [this]; omega
 rw [this,Int.fdiv_eq_ediv_of_nonneg _ (by exact Int.le_of_lt (Int.pow_pos (by decide)))]
 push_cast; rfl
theorem Nw (u:Nat)(h:gz (u:Int)):kU (u:Int)=some (encodeRune (u:Int)):=by
 have h0:(u:Int)<=1114111:=by unfold gz at h; omega
 unfold kU;have s6:cV .i64 (u:Int) 6=((u / 64:Nat):Int):=shw u 6 (by decide);have s12:cV .i64 (u:Int) 12=((u / 4096:Nat):Int):=shw u 12 (by decide);have s18:cV .i64 (u:Int) 18=((u / 262144:Nat):Int):=shw u 18 (by decide);rw [s6,s12,s18,CX u O,CX (u / 64) O,CX (u / 4096) O];have o1:iOr .i64 128 ((u%64:Nat):Int)=((128+u%64:Nat):Int):=tab QC _ O;have o2:iOr .i64 128 ((u / 64%64:Nat):Int)=((128+u / 64%64:Nat):Int):=tab QC _ O;have o3:iOr .i64 128 ((u / 4096%64:Nat):Int)=((128+u / 4096%64:Nat):Int):=tab QC _ O;rw [o1,o2,o3];have w8:∀ v:Nat,v<256->IntKind.wrap .u8 (v:Int)=(v:Int):=λ v hv=>by rw [rM]; omega
 have eu:∀ (v:Nat) (w:Int),(v:Int)=w->u8 (v:Int)=w.toNat.toUInt8:=λ v w q=>by rw [<- q]; rfl
 by_cases h1:u<128
 ·rw [if_pos O,w8 u O,cn O];simp only [encodeRune,encodeRuneZ,if_pos (show 0<=(u:Int)/\(u:Int)<=127 by omega),dg,List.map_nil,u8]
 rw [if_neg O];have n1:¬ (0<=(u:Int)/\(u:Int)<=127):=by omega
 by_cases h2:u<2048
 ·have p1:iOr .i64 192 ((u / 64:Nat):Int)=((192+u / 64:Nat):Int):=tab u192 _ O;rw [if_pos O,p1,w8 _ O,w8 _ O,cn O,cn O,cn O];simp only [encodeRune,encodeRuneZ,if_neg n1,if_pos (show 128<=(u:Int)/\(u:Int)<=2047 by omega),dg,List.map_nil];rw [eu _ (192+(u:Int) / 64) O,eu _ (128+(u:Int)%64) O]
 rw [if_neg O];have n2:¬ (128<=(u:Int)/\(u:Int)<=2047):=by omega
 by_cases h3:u<65536
 ·have p1:iOr .i64 224 ((u / 4096:Nat):Int)=((224+u / 4096:Nat):Int):=tab u224 _ O;rw [if_pos O,p1,w8 _ O,w8 _ O,w8 _ O]
  repeat rw [cn O]
  simp only [encodeRune,encodeRuneZ,if_neg n1,if_neg n2,if_pos (show (2048<=(u:Int)/\(u:Int)<55296)\/(57343<(u:Int)/\(u:Int)<=65535) by unfold gz at h; omega),dg,List.map_nil];rw [eu _ (224+(u:Int) / 4096) O,eu _ (128+(u:Int) / 64%64) O,eu _ (128+(u:Int)%64) O]
 ·have p1:iOr .i64 240 ((u / 262144:Nat):Int)=((240+u / 262144:Nat):Int):=tab u240 _ O;rw [if_neg O,p1,w8 _ O,w8 _ O,w8 _ O,w8 _ O]
  repeat rw [cn O]
  simp only [encodeRune,encodeRuneZ,if_neg n1,if_neg n2,if_neg (show ¬ ((2048<=(u:Int)/\(u:Int)<55296)\/(57343<(u:Int)/\(u:Int)<=65535)) by omega),if_pos (show 65536<=(u:Int)/\(u:Int)<=1114111 by omega),dg,List.map_nil];rw [eu _ (240+(u:Int) / 262144) O,eu _ (128+(u:Int) / 4096%64) O,eu _ (128+(u:Int) / 64%64) O,eu _ (128+(u:Int)%64) O]
theorem wZ (s:Bk)(a w:Nat):sub s (a:Int) ((a:Int)+(w:Int))=(s.drop a).take w:=by
 show (s.take ((a:Int)+(w:Int)).toNat).drop (a:Int).toNat=_;rw [show ((a:Int)+(w:Int)).toNat=a+w by omega,Int.toNat_natCast,List.drop_take,Nat.add_sub_cancel_left]
def shE (j:Int)(p:Int×Int×Int):Bk×Int×Int:=if p.2.2=0 then (encodeRune p.1,j+p.2.1,0) else ([],0,p.2.2)
theorem vC (j v c:Int):shE j (v,c,0)=(encodeRune v,j+c,0):=if_pos Z
theorem Oj (j v c e:Int)(h:e≠0):shE j (v,c,e)=([],0,e):=if_neg h
theorem zp (s:Bk)(hs:s.length<=1000000000)(i:Nat)(hi:i<s.length):Ev2 (λ n _=>jN n s (i:Int)) (·=shE ((i:Int)+1) (da (s.drop (i+1)))):=by
 simp only [jN];have i1:inR ((i:Int)+1):=bv O O;have i2:inR ((i:Int)+2):=bv O O;have i3:inR ((i:Int)+3):=bv O O;refine ag i1 ?_;by_cases h1:i+1<s.length
 ·have hb:byt s ((i:Int)+1)=((s.getD (i+1) 0).toNat:Int):=yR s i 1;have hb2:byt s ((i:Int)+2)=((s.getD (i+2) 0).toNat:Int):=yR s i 2
  have hsub:sub s ((i:Int)+1) ((i:Int)+2)=[s.getD (i+1) 0]:=by
   have:=wZ s (i+1) 1;rw [show ((i+1:Nat):Int)=(i:Int)+1 by omega,show (i:Int)+1+((1:Nat):Int)=(i:Int)+2 by omega] at this;rw [this,drop_at s h1]; rfl
  have hd2:s.drop (i+1+1)=s.drop (i+2):=rfl;rw [hb,hb2,hsub,drop_at s h1,hd2];generalize s.getD (i+1) 0=b;have hbl:=b.toNat_lt;have hP:=qg b (s.drop (i+2));refine af O (ag i1 (ag O ?_));have two:(i:Int)+2=(i:Int)+1+1:=by omega
  refine av (λ h=>ag i2 (aa ?_)) (λ h1=>?_)
  ·exact Ce
  rw [if_neg (show ¬ b.toNat=110 by omega)] at hP;refine av (λ h=>ag i2 (aa ?_)) (λ h2=>?_)
  ·exact Ce
  rw [if_neg (show ¬ b.toNat=114 by omega)] at hP;refine av (λ h=>ag i2 (aa ?_)) (λ h3=>?_)
  ·exact Ce
  rw [if_neg (show ¬ b.toNat=116 by omega)] at hP;refine ai (decide (b.toNat=34\/b.toNat=92)) ?_ ?_
  ·by_cases h:b.toNat=34
   ·exact Da
   ·exact Dm
  by_cases h4:b.toNat=34\/b.toNat=92
  ·rw [if_pos h4] at hP;rw [hP,vC,wH b O];exact ae (by simp [h4]) (ag i1 (ag i2 (ag O (ag i2 (aa (by rw [two]))))))
  rw [if_neg h4] at hP;refine af (by simp only [decide_eq_true_eq]; exact h4) ?_;refine av (λ h5=>?_) (λ h5=>aa (by rw [hP,if_neg O]; rfl));rw [if_pos (show b.toNat=117 by omega)] at hP;rw [hP];refine ag i2 ?_;by_cases h6:i+2<s.length
  ·rw [drop_at s h6];have hd3:s.drop (i+2+1)=s.drop (i+3):=rfl;rw [hd3];refine af O (ag i2 (ag O ?_));generalize s.getD (i+2) 0=c;show Ev2 _ (·=shE ((i:Int)+1) (if c.toNat=123 then ((fT (s.drop (i+3))).1,(fT (s.drop (i+3))).2.1+2,(fT (s.drop (i+3))).2.2) else ((0,0,2):Int×Int×Int)));refine av (λ h7=>ag i3 ?_) (λ h7=>aa (by rw [if_neg O]; rfl));rw [if_pos (show c.toNat=123 by omega)];have hpt:=EO s hs (i+3) O;rw [show ((i+3:Nat):Int)=(i:Int)+3 by omega] at hpt;have hle:=x8 (s.drop (i+3));generalize fT (s.drop (i+3))=p at hpt hle ⊢;obtain ⟨v,w,e⟩:=p;simp only at hle ⊢;refine ai _ hpt ?_;by_cases he:e=0
   ·subst he;have hr:=hle.2.2.1 rfl;obtain ⟨u,rfl⟩:∃ u:Nat,v=u:=⟨v.toNat,by unfold gz at hr; omega⟩
    rw [show shP ((i:Int)+3) ((u:Int),w,0)=((u:Int),(i:Int)+3+w,0) from if_pos rfl,vC];refine ae rfl (ai _ (ax (Nw u hr) rfl) (aa ?_));refine Prod.ext rfl (Prod.ext ?_ rfl);show (i:Int)+3+w=(i:Int)+1+(w+2);omega
   ·rw [show shP ((i:Int)+3) (v,w,e)=(0,0,e) from if_neg he,Oj _ _ _ _ he];exact rW
  ·rw [List.drop_of_length_le (show s.length<=i+2 by omega)];exact sA
 ·rw [List.drop_of_length_le O];exact sA
theorem BJ (b:UInt8)(r:Bk)(h:128<=b.toNat):128<=(decodeL (b::r)).1:=by
 have hN:=decN (b::r).length ((b::r).getD 0 0).toNat ((b::r).getD 1 0).toNat ((b::r).getD 2 0).toNat ((b::r).getD 3 0).toNat G (UInt8.toNat_lt _);rw [<- decodeL_N] at hN;rcases Nat.lt_or_ge (decodeL (b::r)).1 128 with q|q
 ·have:=(hN.2.2.2.1 q).2;have hb0:((b::r).getD 0 0).toNat=b.toNat:=rfl;omega
 ·exact q
def N9 (i:Int)(b:UInt8)(r:Bk):Bk×Int×Int :=if (decodeL (b::r)).1=92 then shE (i+1) (da r)else if jD (decodeL (b::r)) then ([],0,2)else (encodeRune ((decodeL (b::r)).1:Int),i+((decodeL (b::r)).2:Int),0)
theorem Nz (s:Bk)(hs:s.length<=1000000000)(i:Nat)(b:UInt8)(r:Bk)(hl:s.drop i=b::r)(hi:i+r.length+1=s.length):Ev2 (λ n _=>mI n s (i:Int)) (·=N9 (i:Int) b r):=by
 simp only [mI];have hil:i<s.length:=by omega
 have hd:=drop_at s hil;rw [hl] at hd;have hb:byt s i=(b.toNat:Int):=by rw [cH,<- (qr hd).1]
 have hr:s.drop (i+1)=r:=(qr hd).2.symm;rw [hb];have hbl:=b.toNat_lt;unfold N9;refine ag O ?_;by_cases h92:b.toNat=92
 ·have e:decodeL (b::r)=(b.toNat,1):=decodeL_ascii b r O;rw [e,if_pos h92];have:=zp s hs i hil;rw [hr] at this;exact ae O (ai _ this (aa Z))
 ·have hdec:=u7 s i hil hs;rw [hl] at hdec;have hdf:=gO (b::r) G
  have hc:((decodeL (b::r)).1=b.toNat/\(decodeL (b::r)).2=1/\b.toNat<128)\/(128<=(decodeL (b::r)).1/\128<=b.toNat):=by
   rcases Nat.lt_or_ge b.toNat 128 with q|q
   ·left; rw [decodeL_ascii b r q]; exact ⟨Z,Z,q⟩
   ·right; exact ⟨BJ b r q,q⟩
  refine af O (ai _ (ax hdec rfl) ?_);unfold On;generalize hD:decodeL (b::r)=D at hdf hc ⊢;obtain ⟨c,w⟩:=D;simp only at hdf hc ⊢;rw [if_neg (show ¬ c=92 by omega)];simp only [aq] at hdf;by_cases hbad:c=65533/\w=1
  ·rw [if_pos hbad,if_pos (show jD (c,w) from .inl hbad)];exact ai true od od
  ·rw [if_neg hbad];have hgood:=hdf.2.2 hbad;refine ai (decide (jD (c,w))) ?_ ?_
   ·refine af su (ag O (av (λ h=>aa ?_) (λ h=>ag O (aa (eqB ?_)))))
    ·symm; rw [decide_eq_true_eq]; unfold jD; simp only; omega
    ·rw [decide_eq_true_eq,decide_eq_true_eq]; unfold jD; simp only; omega
   ·refine av (λ h=>aa (by rw [if_pos (of_decide_eq_true h)])) (λ h=>?_);rw [if_neg (λ q=>h (decide_eq_true q))];have hin:inR ((i:Int)+(w:Int)):=bv O O;refine ag hin (ag su (ag hin (aa ?_)));simp only;rw [wZ,hl,hgood.2]
theorem MK (s:Bk)(hs:s.length<=1000000000):∀ (k i:Nat),i+k=s.length->Ev2 (λ _ m=>eQ s m (i:Int)) (·=if ki (λ j=>cz (s.getD j 0)) i k then .inl () else .inr false):=by
 intro k
 induction k with
 | zero=>
  intro i hi;refine aw ?_;simp only [eQ];exact rc
 | succ k ih=>
  intro i hi;refine aw ?_;simp only [eQ];have hb:byt s i=((s.getD i 0).toNat:Int):=cH s i;rw [hb];refine ae O (ai (!cz (s.getD i 0)) ?_ ?_)
  ·have h:=iO (s.getD i 0);generalize s.getD i 0=b at h ⊢;refine ag O (av (λ h1=>aa ?_) (λ h1=>ag O (aa ?_)))
   ·have:cz b=false:=by rw [<- Bool.not_eq_true,h]; omega
    simp [this]
   ·refine eqB ?_;rw [decide_eq_true_eq,Bool.not_eq_true',<- Bool.not_eq_true,h];omega
  ·cases hk:cz (s.getD i 0) with
   | false=>exact ae Z (aa (by simp only [ki,hk,Bool.false_and]; rfl))
   | true=>
    exact Hu
theorem Nj (s:Bk)(hs:s.length<=1000000000):Ev2 (λ n _=>ku n s) (·=qA s):=by
 simp only [ku];have l:=MK s hs s.length 0 O;rw [za] at l;have hc:=kH s;have hb:byt s 0=((s.getD 0 0).toNat:Int):=cH s 0;have h48:(s.getD 0 0).toNat=48↔s.getD 0 0=48:=pP (by decide)
 cases ha:s.all cz with
 | false=>
  rw [ha] at l hc;refine iV false (aN l) (eqB ?_);rw [hc]; simp
 | true=>
  rw [ha] at l hc;refine ek () (aN l) (ah (·=qA s) ?_ (λ x hx=>aa hx));refine av (λ h=>aa (eqB ?_)) (λ h0=>av (λ h=>aa (eqB ?_)) (λ h=>ag ?_ (aa (eqB ?_))))
  ·rw [hc,h]; simp
  ·rw [hc]; simp [h]
  ·have:=List.length_pos_iff.2 h; omega
  ·rw [hb,hc,Bool.not_eq_true',decide_eq_false_iff_not];constructor
   ·intro q; exact ⟨h,rfl,.inl λ z=>q (by have:=h48.2 z; omega)⟩
   ·rintro ⟨_,_,q|q⟩
    ·intro z; exact q (h48.1 O)
    ·intro z;obtain ⟨b,hb1⟩:=List.length_eq_one_iff.1 q;have h3:=h48.1 O;rw [hb1] at h3;exact h0 (by rw [hb1]; exact congrArg (λ x=>[x]) h3)
def C9 (l:Bk):Int×Int:=if qA l=true then (if l.length<=16/\jl 0 l<=9007199254740992 then ((jl 0 l:Int),0) else (0,5)) else (0,2)
theorem xN:∀ (l:Bk) (a:Nat),l.all cz=true->jl a l<(a+1)*10^l.length
 | [],a,_=>by simp [oY]
 | b::r,a,h=>by
  have hb:=nS h (b:=b) List.mem_cons_self
  have hr:r.all cz=true:=by
   rw [ph] at h ⊢;exact λ x hx=>h x (List.mem_cons_of_mem _ hx)
  have:=xN r (a*10+(b.toNat-48)) hr;rw [qf,aq,Nat.pow_succ];have h2:a*10+(b.toNat-48)+1<=(a+1)*10:=by omega
  have h3:=Nat.mul_le_mul_right (10^r.length) h2;have h4:(a+1)*10*10^r.length=(a+1)*(10^r.length*10):=by rw [Nat.mul_assoc,Nat.mul_comm 10]
  omega
theorem Oa (s:Bk)(hs:s.length<=16)(hd:s.all cz=true):∀ (k i:Nat),i+k=s.length->Ev2 (λ _ m=>fE s m (jl 0 (s.take i):Int) (i:Int)) (·=(jl 0 s:Int)):=by
 intro k
 induction k with
 | zero=>
  intro i hi;refine aw ?_;simp only [fE];refine af O (aa ?_);rw [List.take_of_length_le O]
 | succ k ih=>
  intro i hi;refine aw ?_;simp only [fE];have hil:i<s.length:=by omega
  have hb:byt s i=((s.getD i 0).toNat:Int):=cH s i
  have hm:s.getD i 0∈s:=by
   rw [List.getD_eq_getElem?_getD,List.getElem?_eq_getElem hil,ur]; exact List.getElem_mem hil
  have hdig:=nS hd hm
  have ht:s.take (i+1)=s.take i++[s.getD i 0]:=by
   rw [List.take_add_one,List.getElem?_eq_getElem hil,List.getD_eq_getElem?_getD,List.getElem?_eq_getElem hil]; rfl
  have hall:(s.take i).all cz=true:=by
   rw [ph] at hd ⊢;exact λ x hx=>hd x (List.mem_of_mem_take hx)
  have hlt:=xN (s.take i) 0 hall;rw [List.length_take] at hlt;have hp:10^min i s.length<=10^15:=Nat.pow_le_pow_right (by decide) O;have hp15:(10:Nat)^15=1000000000000000:=rfl;have:=ih (i+1) O;rw [ht,td] at this;rw [hb];generalize s.getD i 0=b at hdig this;generalize jl 0 (s.take i)=v at hlt this;have hw:IntKind.wrap .u8 ((b.toNat:Int)-48)=((b.toNat-48:Nat):Int):=by rw [rM]; omega
  rw [hw];refine ae O (ag aC (ag O (ag aC (ag aC (ag aC ?_)))));rw [show ((v*10+(b.toNat-48):Nat):Int)=10*(v:Int)+((b.toNat-48:Nat):Int) by omega,show ((i+1:Nat):Int)=(i:Int)+1 by omega] at this;exact this
theorem M9 (s:Bk)(hs:s.length<=1000000000)(hd:s.all cz=true):Ev2 (λ n _=>mb n s) (·=C9 s):=by
 simp only [mb]
 have hneg:¬ (0<s.length/\byt s 0=45):=by
  rintro ⟨h1,h2⟩;have hb:byt s 0=((s.getD 0 0).toNat:Int):=cH s 0
  have hm:s.getD 0 0∈s:=by
   rw [List.getD_eq_getElem?_getD,List.getElem?_eq_getElem h1,ur]; exact List.getElem_mem h1
  have:=nS hd hm;omega
 refine ai false ?_ ?_
 ·refine av (λ h=>ag O (aa ?_)) (λ h=>aa Z);rw [decide_eq_false_iff_not]; intro q; exact hneg ⟨by omega,q⟩
 refine ai s pk ?_;unfold C9;refine ai (!qA s) ?_ ?_
 ·refine ai _ (Nj s hs) ?_
  cases qA s with
  | false=>exact ae Z (aa Z)
  | true=>exact af G (af G (aa Z))
 cases hc:qA s with
 | false=>exact ae Z (aa G)
 | true=>
  refine af G ?_;rw [if_pos Z];refine av (λ h=>aa (by rw [if_neg O])) (λ h=>?_);have l:=Oa s O hd s.length 0 O;rw [List.take_zero,oY] at l;have hlt:=xN s 0 hd;have hp:10^s.length<=10^16:=Nat.pow_le_pow_right (by decide) O;have hp16:(10:Nat)^16=10000000000000000:=rfl;refine ai _ (aN l) (ai _ pk (ai (decide (jl 0 s<=9007199254740992)) ?_ ?_))
  ·simp only [ka];refine ah (·=decide (jl 0 s<=9007199254740992)) (ae O (aa (eqB ?_))) (λ t ht=>aa ht);rw [decide_eq_true_eq,decide_eq_true_eq]; omega
  ·by_cases hv:jl 0 s<=9007199254740992
   ·exact af (by simp [hv]) (aa (by rw [if_pos ⟨by omega,hv⟩]))
   ·exact ae (by simp [hv]) (aa (by rw [if_neg (λ q=>hv q.2)]))
theorem E9 {v:Int}(h0:0<=v)(h1:v<=i6):C9 (itoa v)=(v,0):=by
 have hl:=JE h0 h1;obtain ⟨u,rfl⟩:∃ u:Nat,v=u:=⟨v.toNat,by omega⟩
 have e:itoa (u:Int)=decDigits u:=by unfold itoa; rw [if_neg O]; simp
 rw [e] at hl ⊢;have hd:=D4 (u+1) u O;unfold C9;rw [if_pos ((kH _).2 ⟨hd.2.2.1,hd.2.1,hd.2.2.2.1⟩),hd.1,if_pos ⟨hl,by unfold i6 at h1; omega⟩]
end Go.Ab.R06
end
section
namespace Go.Ab
set_option autoImplicit false
inductive am.Bd:am->Prop where
 | mk {x:am} (bKind:inR x.Ar) (bNum:inR x.F') (bStr:x.If.length<=jg) (bItems:x.Df.length*80<=jg) (eItems:∀ y∈x.Df,am.Bd y) (bKeys:x.C'.length*16<=jg) (eKeys:∀ y∈x.C',y.length<=jg):am.Bd x
theorem am.Bd.bKind {x:am}(h:am.Bd x):inR x.Ar:=by cases h; assumption
theorem am.Bd.bNum {x:am}(h:am.Bd x):inR x.F':=by cases h; assumption
theorem am.Bd.bStr {x:am}(h:am.Bd x):x.If.length<=jg:=by cases h; assumption
theorem am.Bd.bItems {x:am}(h:am.Bd x):x.Df.length*80<=jg:=by cases h; assumption
theorem am.Bd.eItems {x:am}(h:am.Bd x):∀ y∈x.Df,am.Bd y:=by cases h; assumption
theorem am.Bd.bKeys {x:am}(h:am.Bd x):x.C'.length*16<=jg:=by cases h; assumption
theorem am.Bd.eKeys {x:am}(h:am.Bd x):∀ y∈x.C',y.length<=jg:=by cases h; assumption
inductive ac.Bd:ac->Prop where
 | mk {x:ac} (bKind:inR x.Ar) (bOp:inR x.fOp) (bName:x.AI.length<=jg) (bKey:x.D'.length<=jg) (bValue:am.Bd x.A') (bKids:x.BY.length*160<=jg) (eKids:∀ y∈x.BY,ac.Bd y) (bAt:inR x.fAt):ac.Bd x
theorem ac.Bd.bKind {x:ac}(h:ac.Bd x):inR x.Ar:=by cases h; assumption
theorem ac.Bd.bOp {x:ac}(h:ac.Bd x):inR x.fOp:=by cases h; assumption
theorem ac.Bd.bName {x:ac}(h:ac.Bd x):x.AI.length<=jg:=by cases h; assumption
theorem ac.Bd.bKey {x:ac}(h:ac.Bd x):x.D'.length<=jg:=by cases h; assumption
theorem ac.Bd.bValue {x:ac}(h:ac.Bd x):am.Bd x.A':=by cases h; assumption
theorem ac.Bd.bKids {x:ac}(h:ac.Bd x):x.BY.length*160<=jg:=by cases h; assumption
theorem ac.Bd.eKids {x:ac}(h:ac.Bd x):∀ y∈x.BY,ac.Bd y:=by cases h; assumption
theorem ac.Bd.bAt {x:ac}(h:ac.Bd x):inR x.fAt:=by cases h; assumption
inductive ao.Bd:ao->Prop where
 | mk {x:ao} (bKind:inR x.Ar) (bAt:inR x.fAt) (bName:x.AI.length<=jg):ao.Bd x
theorem ao.Bd.bKind {x:ao}(h:ao.Bd x):inR x.Ar:=by cases h; assumption
theorem ao.Bd.bAt {x:ao}(h:ao.Bd x):inR x.fAt:=by cases h; assumption
theorem ao.Bd.bName {x:ao}(h:ao.Bd x):x.AI.length<=jg:=by cases h; assumption
inductive bZ.Bd:bZ->Prop where
 | mk {x:bZ} (bcount:inR x.fcount):bZ.Bd x
theorem bZ.Bd.bcount {x:bZ}(h:bZ.Bd x):inR x.fcount:=by cases h; assumption
inductive ab.Bd:ab->Prop where
 | mk {x:ab} (bKind:inR x.Ar) (bText:x.By.length<=jg) (bAt:inR x.fAt):ab.Bd x
theorem ab.Bd.bKind {x:ab}(h:ab.Bd x):inR x.Ar:=by cases h; assumption
theorem ab.Bd.bText {x:ab}(h:ab.Bd x):x.By.length<=jg:=by cases h; assumption
theorem ab.Bd.bAt {x:ab}(h:ab.Bd x):inR x.fAt:=by cases h; assumption
inductive aj.Bd:aj->Prop where
 | mk {x:aj} (bL:x.fL.length*32<=jg) (eL:∀ y∈x.fL,ab.Bd y) (bI:inR x.fI) (bIn:inR x.fIn) (bD:ao.Bd x.fD):aj.Bd x
theorem aj.Bd.bL {x:aj}(h:aj.Bd x):x.fL.length*32<=jg:=by cases h; assumption
theorem aj.Bd.eL {x:aj}(h:aj.Bd x):∀ y∈x.fL,ab.Bd y:=by cases h; assumption
theorem aj.Bd.bI {x:aj}(h:aj.Bd x):inR x.fI:=by cases h; assumption
theorem aj.Bd.bIn {x:aj}(h:aj.Bd x):inR x.fIn:=by cases h; assumption
theorem aj.Bd.bD {x:aj}(h:aj.Bd x):ao.Bd x.fD:=by cases h; assumption
inductive ar.Bd:ar->Prop where
 | mk {x:ar} (bs:x.fs.length<=jg) (bat:inR x.fat) (bi:inR x.fi) (bfrom:inR x.E') (btext:x.Gw.length<=jg) (bparts:x.B'.length*160<=jg) (eparts:∀ y∈x.B',ac.Bd y):ar.Bd x
theorem ar.Bd.bs {x:ar}(h:ar.Bd x):x.fs.length<=jg:=by cases h; assumption
theorem ar.Bd.bat {x:ar}(h:ar.Bd x):inR x.fat:=by cases h; assumption
theorem ar.Bd.bi {x:ar}(h:ar.Bd x):inR x.fi:=by cases h; assumption
theorem ar.Bd.bfrom {x:ar}(h:ar.Bd x):inR x.E':=by cases h; assumption
theorem ar.Bd.btext {x:ar}(h:ar.Bd x):x.Gw.length<=jg:=by cases h; assumption
theorem ar.Bd.bparts {x:ar}(h:ar.Bd x):x.B'.length*160<=jg:=by cases h; assumption
theorem ar.Bd.eparts {x:ar}(h:ar.Bd x):∀ y∈x.B',ac.Bd y:=by cases h; assumption
inductive al.Bd:al->Prop where
 | mk {x:al} (bl:x.fl.length*32<=jg) (el:∀ y∈x.fl,ab.Bd y) (bat:inR x.fat) (bnest:inR x.H') (bbase:inR x.G') (bbad:ao.Bd x.AT):al.Bd x
theorem al.Bd.bl {x:al}(h:al.Bd x):x.fl.length*32<=jg:=by cases h; assumption
theorem al.Bd.el {x:al}(h:al.Bd x):∀ y∈x.fl,ab.Bd y:=by cases h; assumption
theorem al.Bd.bat {x:al}(h:al.Bd x):inR x.fat:=by cases h; assumption
theorem al.Bd.bnest {x:al}(h:al.Bd x):inR x.H':=by cases h; assumption
theorem al.Bd.bbase {x:al}(h:al.Bd x):inR x.G':=by cases h; assumption
theorem al.Bd.bbad {x:al}(h:al.Bd x):ao.Bd x.AT:=by cases h; assumption
end Go.Ab
end
section
namespace Go.Ab.R06
open Go.Ab Go.Ab.RB Go.Lib
variable {p:Prop}
theorem Ks (h:p:=by
 by_cases a:k=3
 ·simp [a]
 by_cases b:k=4
 ·simp [b]
 by_cases c:k=9
 ·simp [c]
 by_cases d:k=12
 ·simp [d]
 simp [a,b,c,d]):p:=h
theorem JP (h:p:=by
 have hn:¬ (e.Ar=3\/e.Ar=4\/e.Ar=9\/e.Ar=12\/e.Ar=13):=λ k=>hn (decide_eq_true k)
 simp only [hn,false_and,decide_false]):p:=h
theorem x4 (h:p:=by
 have hi:fg e.AI=true:=by simpa using hi
 simp [hi,h4]):p:=h
theorem Hr (h:p:=by
 refine av (λ hq=>aa (by rw [if_pos (of_decide_eq_true hq)])) (λ hq=>aa ?_)
 rw [if_neg (λ k=>hq (decide_eq_true k))]):p:=h
theorem HV (h:p:=by
 have:tf v:=Classical.byContradiction λ k=>by rw [hi.2 k] at h; simp at h
 rw [Ac this]):p:=h
theorem Kq (h:p:=by
 have hk:v.Ar=0\/v.Ar=1\/v.Ar=2\/v.Ar=3:=by omega
 clear h0 h3
 rcases hk with h|h|h|h <;> by_cases a:v.F'=0 <;> by_cases b:v.F'=1 <;> by_cases c:v.If=[] <;> by_cases d:v.Df=[] <;> by_cases e:v.C'=[] <;> simp [h,a,b,c,d,e,NN,Lr,Qq,Rr]):p:=h
theorem vF (h:p:=by exact af (by decide) (aa Z)):p:=h
theorem vP (h:p:=by exact xc O):p:=h
theorem nF {P:Int->Prop}{i:Nat}(h:P ((i+1:Nat):Int)):P ((i:Int)+1):=by rwa [Int.natCast_add,Int.natCast_one] at h
theorem qb {α:Type} [Inhabited α] (l:List α){i:Nat}(h:i<l.length):l.drop i=lat l (i:Int)::l.drop (i+1):=by
 rw [nW l i h]; exact List.drop_eq_getElem_cons h
theorem yO (s:Bk):eN s=some (lU s):=by
 unfold eN lU PY;exact G3
def tf (v:am):Prop:=v.Ar=1/\v.F'≠0/\v.F'≠1\/v.Ar≠1/\v.Ar≠2/\v.F'≠0\/v.Ar≠3/\v.If≠[]\/v.Df≠[]\/v.C'≠[]
theorem NN {α:Type}(l:List α):(0<(l.length:Int))↔l≠[]:=by rw [<- List.length_pos_iff]; omega
theorem Lr {α:Type}(l:List α):((l.length:Int)=0)↔l=[]:=by rw [<- List.length_eq_zero_iff]; omega
theorem FO (v:am)(h0:0<=v.Ar)(h3:v.Ar<=3):∃ b,kx v=some b/\(b=true↔¬ tf v):=by
 unfold kx tf;exact Kq
theorem FA (v:am)(h0:0<=v.Ar)(h3:v.Ar<=3):∃ b,ko v=some b/\(b=true↔¬ tf v):=by
 unfold ko tf;exact Kq
theorem Ac {v:am}(h:tf v):wk v=1:=if_pos h
theorem wE {v:am}(h:¬ tf v):wk v=if v.Ar=2/\¬ (-i6<=v.F'/\v.F'<=i6) then 5 else if v.Ar=3/\4096<v.If.length then 3 else if v.Ar=3/\validD v.If=false then 1 else 0:=if_neg h
def xk (s:Bk):Int:=if 4096<s.length then 3 else if validD s=false then 1 else 0
theorem Rt (s:Bk):lk s=some (xk s):=by
 unfold lk xk;by_cases h:4096<s.length
 ·rw [if_pos O,if_pos h]
 ·rw [if_neg O,if_neg h,QY,cl];have:decide (s.length<=4096)=true:=by rw [decide_eq_true_eq]; omega
  rw [this,Bool.true_and]
  cases validD s <;> rfl
theorem Q3 (s:Bk):Ev2 (λ n _=>jZ n s) (·=xk s):=by
 simp only [jZ];unfold xk;refine av (λ h=>aa (by rw [if_pos O])) (λ h=>?_);rw [if_neg (show ¬ 4096<s.length by omega)];refine ai _ (Fh s O) ?_;have:decide (s.length<=4096)=true:=by rw [decide_eq_true_eq]; omega
 rw [this,Bool.true_and]
 cases validD s with
 | true=>exact af (by decide) (aa Z)
 | false=>exact ae (by decide) (aa Z)
theorem Dy:xk []=0:=by unfold xk; rw [if_neg (by decide)]; rfl
theorem N5 (v:am)(h0:0<=v.Ar)(h3:v.Ar<=3):Ev2 (λ n _=>nz n v) (·=wk v):=by
 obtain ⟨b,hb,hi⟩:=FO v h0 h3;simp only [nz];refine ai _ (ax hb rfl) (av (λ h=>aa ?_) (λ h=>?_))
 ·exact HV
 ·have hg:¬ tf v:=hi.1 pd;rw [wE hg];by_cases h2:v.Ar=2
  ·simp only [h2,if_true,true_and];by_cases hv:-i6<=v.F'/\v.F'<=i6
   ·refine ek () (ai _ (ax (xi _) Z) (af (by simp [hv]) (aa Z))) (aa ?_);rw [if_neg (by simpa using hv),if_neg O,if_neg O]
   ·refine iV 5 (ai _ (ax (xi _) Z) (ae (by simp [hv]) (aa Z))) ?_;rw [if_pos hv]
  ·by_cases h5:v.Ar=3
   ·refine iV (xk v.If) (af h2 (ae h5 (ai _ (ax (Rt _) Z) (aa Z)))) ?_;rw [if_neg O]; unfold xk; simp only [h5,true_and]
   ·refine ek () (af h2 (af h5 pf)) (aa ?_);rw [if_neg O,if_neg O,if_neg O]
theorem Oy (v:am)(h0:0<=v.Ar)(h3:v.Ar<=3):Ev2 (λ n _=>nc n v) (·=wk v):=by
 obtain ⟨b,hb,hi⟩:=FA v h0 h3;simp only [nc];refine ai _ (ax hb rfl) (av (λ h=>aa ?_) (λ h=>?_))
 ·exact HV
 ·have hg:¬ tf v:=hi.1 pd;rw [wE hg];have nv:ka v.F'=some (decide (-i6<=v.F'/\v.F'<=i6)):=xi v.F';have tail:v.C'=[]:=by unfold tf at hg; simp only [not_or] at hg; exact Classical.not_not.1 hg.2.2.2.2
  have str:v.Ar≠3->v.If=[]:=λ k=>by unfold tf at hg; simp only [not_or] at hg; exact Classical.byContradiction λ q=>hg.2.2.1 ⟨k,q⟩
  have last:Ev2 (λ n _=>(jZ n v.If).bind λ r9=>if r9=0 then jn (gh n v n 0) λ _=>some 0 else some r9) (·=xk v.If):=by
   refine ai _ (Q3 _) (av (λ h=>?_) (λ h=>aa Z));refine ek () (aN (f:=λ n m=>gh n v m 0) (aw ?_)) (aa h.symm);simp only [gh];exact af (by rw [tail]; decide) (aa Z)
  by_cases h2:v.Ar=2
  ·simp only [h2,if_true,true_and];refine ai (!decide (-i6<=v.F'/\v.F'<=i6)) (ai _ (ax nv rfl) (aa rfl)) (av (λ h=>aa ?_) (λ h=>?_))
   ·rw [if_pos (λ k=>by rw [decide_eq_true k] at h; exact absurd h (by decide))]
   ·rw [if_neg (show ¬ ¬ (-i6<=v.F'/\v.F'<=i6) from λ k=>h (by rw [decide_eq_false k]; rfl)),if_neg O,if_neg O];rw [str O,Dy] at last;rw [str O];exact last
  ·refine ai false (af h2 (aa Z)) (af (by decide) ?_);rw [if_neg O];by_cases h5:v.Ar=3
   ·simp only [h5,true_and]; exact last
   ·rw [if_neg O,if_neg O];rw [str h5,Dy] at last;rw [str h5];exact last
theorem uL {v:am}(h:wk v=0):v.Df=[]:=by
 have hg:¬ tf v:=λ k=>by rw [Ac k] at h; cases h
 unfold tf at hg; simp only [not_or] at hg; exact Classical.not_not.1 hg.2.2.2.1
theorem Ho (v:am)(h0:0<=v.Ar)(h3:v.Ar<=3):Ev2 (λ n _=>lI n v) (·=wk v):=by
 simp only [lI];refine ah (λ r=>r.1=wk v) (aS ?_) (λ r hr=>aa hr);simp only [gg];refine af (by decide) (af (by decide) (ag (by decide) (ai _ (N5 v h0 h3) (av (λ h=>?_) (λ h=>aa rfl)))));refine ek 1 (aN (f:=λ n m=>fh (gg n) v 1 m 0 (0+1)) (aw ?_)) (aa h.symm);simp only [fh];exact af (by rw [uL h]; decide) (aa rfl)
theorem LR (v:am)(h0:0<=v.Ar)(h3:v.Ar<=3):Ev2 (λ n _=>lH n v) (·=wk v):=by
 simp only [lH];refine ah (λ r=>r.1=wk v) (aS ?_) (λ r hr=>aa hr);simp only [iy];refine af (by decide) (af (by decide) (ai _ (Oy v h0 h3) (av (λ h=>ag (by decide) ?_) (λ h=>aa rfl))));refine ek 1 (aN (f:=λ n m=>gB (iy n) v 1 m (0+1) 0) (aw ?_)) (aa h.symm);simp only [gB];exact af (by rw [uL h]; decide) (aa rfl)
theorem Oe (k:Int):jV k=some (decide (k=3\/k=4\/k=9\/k=12\/k=13)):=by
 unfold jV ly;exact Ks
theorem xP (k:Int):iD k=some (decide (k=3\/k=4\/k=9\/k=12\/k=13)):=by
 unfold iD iI;exact Ks
section
variable {α β:Type}
theorem yU {p:Prop} [Decidable p] {a b:Option α}(h1:p->∃ r,a=some r)(h2:¬p->∃ r,b=some r):∃ r,(if p then a else b)=some r:=by
 exact GP
theorem ub {g:Option β}{k:β->Option α}(h:∃ r,g=some r)(hk:∀ x,∃ r,k x=some r):∃ r,g.bind k=some r:=by
 obtain ⟨x,rfl⟩:=h;exact hk x
theorem Ep {p:Prop} [Decidable p] {a:Option α}(hp:p)(h:∃ r,a=some r):∃ r,ck p a=some r:=by rw [cn hp]; exact h
end
theorem Hk (k:Int):∃ r,iI k=some r:=by unfold iI; repeat' (first|exact ⟨_,rfl⟩|refine ub ?_ (λ _=>?_)|refine yU (λ _=>?_) (λ _=>?_)|refine Ep (by decide) ?_)
theorem QR (k n:Int):∃ r,iJ k n=some r:=by unfold iJ; repeat' (first|exact ⟨_,rfl⟩|exact Hk _|exact ⟨_,xP _⟩|refine ub ?_ (λ _=>?_)|refine yU (λ _=>?_) (λ _=>?_)|refine Ep (by decide) ?_)
theorem Bh (e:ac):∃ r,fZ e=some r:=by unfold fZ; repeat' (first|exact ⟨_,rfl⟩|exact Hk _|exact ⟨_,xP _⟩|exact QR _ _|exact O1 _|refine ub ?_ (λ _=>?_)|refine yU (λ _=>?_) (λ _=>?_)|refine Ep (by decide) ?_)
inductive VSz:am->Prop where
 | mk {x:am} (v:x.Df.length+x.C'.length<=1000000000000000) (sub:∀ y∈x.Df,VSz y):VSz x
theorem VSz.v {x:am}(h:VSz x):x.Df.length+x.C'.length<=1000000000000000:=by cases h; assumption
theorem Dl {k n:Int}{s:Bk}:VSz (.mk k n s [] []):=.mk (rg _) (λ _ h=>by cases h)
inductive Sz:ac->Prop where
 | mk {x:ac} (n:x.AI.length<=1000000000000000) (k:x.D'.length<=1000000000000000) (w:VSz x.A') (c:x.BY.length<=1000000000000000) (kids:∀ y∈x.BY,Sz y):Sz x
theorem Sz.n {x:ac}(h:Sz x):x.AI.length<=1000000000000000:=by cases h; assumption
theorem Sz.k {x:ac}(h:Sz x):x.D'.length<=1000000000000000:=by cases h; assumption
theorem Sz.w {x:ac}(h:Sz x):VSz x.A':=by cases h; assumption
theorem Sz.v {x:ac}(h:Sz x):x.A'.Df.length+x.A'.C'.length<=1000000000000000:=h.w.v
theorem Sz.kids {x:ac}(h:Sz x):∀ y∈x.BY,Sz y:=by cases h; assumption
theorem vo {e:ac}(hb:Sz e):fZ e=some (tV e):=by
 have h:=wT e hb.v;obtain ⟨r,hr⟩:=Bh e;unfold tV;rw [h,hr]; rfl
theorem KL {e:ac}(hb:Sz e):iz e=some (tV e):=by
 rw [wT e hb.v,vo hb]
theorem rl {e:ac}(hb:Sz e)(h:tV e=true)(hk:e.Ar=1):0<=e.A'.Ar/\e.A'.Ar<=3:=by
 have h1:=vo hb;rw [h] at h1;unfold fZ at h1;generalize (Option.bind (iJ e.Ar (e.BY.length:Int)) _:Option Bool)=o at h1
 cases o with
 | none=>cases h1
 | some t=>
  cases t with
  | true=>cases h1
  | false=>
   simp only [cl,Bool.false_eq_true,if_false,hk,if_true] at h1;by_cases a:e.fOp=0
   ·by_cases b:e.A'.Ar=0
    ·omega
    ·by_cases c:e.A'.Ar=1
     ·omega
     ·by_cases d:e.A'.Ar=3
      ·omega
      ·by_cases f:e.A'.Ar=2
       ·omega
       ·simp [a,b,c,d,f] at h1
   ·simp [a] at h1
theorem P5 {e:ac}(hb:Sz e):Ev2 (λ n _=>oZ n e) (·=oM e):=by
 have b1:=hb.n;have b2:=hb.k;simp only [oZ];unfold oM;refine ai _ (ax (KL hb) Z) (av (λ h=>aa (by rw [if_pos pd])) (λ h=>?_));have h:tV e=true:=by simpa using h
 rw [if_neg (show ¬ tV e=false by rw [h]; decide)];refine av (λ hk=>?_) (λ hk=>?_)
 ·rw [if_pos hk];exact ai _ (Ho _ (rl hb h hk).1 (rl hb h hk).2) (aa rfl)
 rw [if_neg hk];refine ai (decide ((e.Ar=3\/e.Ar=4\/e.Ar=9\/e.Ar=12\/e.Ar=13)/\(fg e.AI=false\/e.Ar≠4/\lU e.AI=true))) ?_ ?_
 ·refine ai _ (ax (Oe _) Z) (av (λ hn=>?_) (λ hn=>aa ?_))
  ·have hn:=of_decide_eq_true hn;rw [show decide ((e.Ar=3\/e.Ar=4\/e.Ar=9\/e.Ar=12\/e.Ar=13)/\(fg e.AI=false\/e.Ar≠4/\lU e.AI=true))=decide (fg e.AI=false\/e.Ar≠4/\lU e.AI=true) by simp only [hn,true_and]];refine ai _ (zE _ O) (av (λ hi=>aa ?_) (λ hi=>av (λ h4=>aa ?_) (λ h4=>ai _ ve (aa ?_))))
   ·have hi:fg e.AI=false:=by simpa using hi
    simp [hi]
   ·exact x4
   ·exact x4
  ·exact JP
 ·refine av (λ hq=>aa (by rw [if_pos (of_decide_eq_true hq)])) (λ hq=>?_);rw [if_neg (λ k=>hq (decide_eq_true k))];refine ai (decide (e.D'≠[]/\(fg e.D'=false\/lU e.D'=true))) ?_ ?_
  ·refine av (λ hk=>aa (by simp [hk])) (λ hk=>?_);refine ai _ (zE _ O) (av (λ hi=>aa ?_) (λ hi=>ai _ ve (aa ?_)))
   ·have hi:fg e.D'=false:=by simpa using hi
    simp [hi,hk]
   ·have hi:fg e.D'=true:=by simpa using hi
    simp [hi,hk]
  ·exact Hr
theorem Pm {e:ac}(hb:Sz e):Ev2 (λ n _=>nE n e) (·=oM e):=by
 have b1:=hb.n;have b2:=hb.k;simp only [nE];unfold oM;refine ai _ (ax (vo hb) Z) (av (λ h=>aa (by rw [if_pos pd])) (λ h=>?_));have h:tV e=true:=by simpa using h
 rw [if_neg (show ¬ tV e=false by rw [h]; decide)];refine av (λ hk=>?_) (λ hk=>?_)
 ·rw [if_pos hk];exact ai _ (LR _ (rl hb h hk).1 (rl hb h hk).2) (aa rfl)
 rw [if_neg hk];refine ai (decide ((e.Ar=3\/e.Ar=4\/e.Ar=9\/e.Ar=12\/e.Ar=13)/\(fg e.AI=false\/e.Ar≠4/\lU e.AI=true))) ?_ ?_
 ·refine ai _ (ax (xP _) Z) (av (λ hn=>?_) (λ hn=>aa ?_))
  ·have hn:=of_decide_eq_true hn;rw [show decide ((e.Ar=3\/e.Ar=4\/e.Ar=9\/e.Ar=12\/e.Ar=13)/\(fg e.AI=false\/e.Ar≠4/\lU e.AI=true))=decide (fg e.AI=false\/e.Ar≠4/\lU e.AI=true) by simp only [hn,true_and]];refine ai _ (sY _ O) (av (λ hi=>aa ?_) (λ hi=>av (λ h4=>aa ?_) (λ h4=>ai _ (ax (yO _) Z) (aa ?_))))
   ·have hi:fg e.AI=false:=by simpa using hi
    simp [hi]
   ·exact x4
   ·exact x4
  ·exact JP
 ·refine av (λ hq=>aa (by rw [if_pos (of_decide_eq_true hq)])) (λ hq=>?_);rw [if_neg (λ k=>hq (decide_eq_true k))];refine ai (decide (e.D'≠[]/\(fg e.D'=false\/lU e.D'=true))) ?_ ?_
  ·refine av (λ hk=>aa (by simp [hk])) (λ hk=>?_);simp only [pq];refine ai (fg e.D'&&!lU e.D') ?_ (aa ?_)
   ·refine ai (fg e.D'&&!lU e.D') (ai _ (sY _ O) (av (λ hi=>ai _ (ax (yO _) Z) (aa ?_)) (λ hi=>aa ?_))) (aa Z)
    ·rw [hi]; rfl
    ·have hi:fg e.D'=false:=by simpa using hi
     rw [hi]; rfl
   ·cases fg e.D' <;> cases lU e.D' <;> simp [hk]
  ·exact Hr
theorem TH {e:ac}(hb:Sz e):∀ (c lv:Nat) (ci li:Int),ci=c->li=lv->c<=4096->lv<=33 ->
  Ev2 (λ n _=>b7 n (bZ.mk ci) e li) (λ r=>r.1=(oL c lv e).1/\r.2=bZ.mk (((oL c lv e).2:Nat):Int)/\(oL c lv e).2<=4096):=by
 induction hb with
 | @mk x sn sk sv hs skids ih=>
  intro c lv ci li hc hl h1 h2;have hb:Sz x:=.mk sn sk sv hs skids;refine aS ?_;simp only [b7];rw [uj];refine av (λ h=>?_) (λ h=>?_)
  ·rw [if_pos O]; exact aa ⟨rfl,by rw [hc],h1⟩
  rw [if_neg (show ¬ 32<lv by omega)];refine av (λ h5=>?_) (λ h5=>?_)
  ·rw [if_pos O]; exact aa ⟨rfl,by rw [hc],h1⟩
  rw [if_neg (show ¬ 4096<=c by omega)];refine ag aC ?_;refine ai _ (P5 hb) ?_;refine av (λ h0=>?_) (λ h0=>?_)
  ·rw [if_pos h0]
   have loop:∀ (k i c:Nat) (ci:Int),i+k=x.BY.length->ci=c->c<=4096->Ev2 (λ n m=>bU (b7 n) x li m (i:Int) ci) (λ s=>(nM c (lv+1) (x.BY.drop i)).2<=4096/\s=if (nM c (lv+1) (x.BY.drop i)).1=0 then .inl (((nM c (lv+1) (x.BY.drop i)).2:Nat):Int) else .inr ((nM c (lv+1) (x.BY.drop i)).1,bZ.mk (((nM c (lv+1) (x.BY.drop i)).2:Nat):Int))):=by
    intro k
    induction k with
    | zero=>
     intro i c ci hi hc h6;refine aw ?_;simp only [bU];rw [List.drop_eq_nil_of_le O];exact af O (aa ⟨by rw [nM]; exact h6,by rw [nM,hc]; rfl⟩)
    | succ k ihk=>
     intro i c ci hi hc h6;refine aw ?_;simp only [bU];rw [qb _ (show i<x.BY.length by omega),qp];refine ae O (ag O (ag aC ?_));refine ah _ (ih _ vP c (lv+1) ci (li+1) hc O h6 O) ?_;rintro ⟨r1,r2⟩ ⟨q1,q2,q3⟩;simp only at q1 q2;subst q1 q2;refine av (λ h8=>?_) (λ h8=>?_)
     ·simp only [if_pos h8];refine ag aC ?_;exact nF (P:=λ j=>Ev2 (λ n m=>bU (b7 n) x li m j _) _) (ihk (i+1) _ _ O rfl q3)
     ·simp only [if_neg h8]; exact aa ⟨q3,rfl⟩
   refine cj (aO (aN (f:=λ n m=>bU (b7 n) x li m 0 (ci+1)) (loop x.BY.length 0 (c+1) (ci+1) O O O)) ?_);rintro s ⟨s1,s2⟩;simp only [List.drop_zero] at s1 s2;subst s2;by_cases h9:(nM (c+1) (lv+1) x.BY).1=0
   ·simp only [if_pos h9]; exact aa ⟨h9.symm,rfl,s1⟩
   ·rw [if_neg h9]; exact ⟨rfl,rfl,s1⟩
  ·rw [if_neg h0]; exact aa ⟨rfl,by rw [hc,Int.natCast_add,Int.natCast_one],by omega⟩
theorem xl {e:ac}(hb:Sz e):Ev2 (λ n _=>nu n e) (·=chk e):=by
 simp only [nu];exact ah _ (TH hb 0 1 0 1 Z Z (by decide) (by decide)) (λ r hr=>aa hr.1)
theorem Ta {e:ac}(hb:Sz e):∀ (c lv:Nat) (ci li:Int),ci=c->li=lv->c<=4096->lv<=33 ->
  Ev2 (λ n _=>d4 n e li ci) (λ r=>r.1=(oL c lv e).1/\(r.1=0->r.2=(((oL c lv e).2:Nat):Int))/\(oL c lv e).2<=4096):=by
 induction hb with
 | @mk x sn sk sv hs skids ih=>
  intro c lv ci li hc hl h1 h2;have hb:Sz x:=.mk sn sk sv hs skids;refine aS ?_;simp only [d4];rw [uj];refine av (λ h=>?_) (λ h=>?_)
  ·rw [if_pos O]; exact aa ⟨rfl,by simp,h1⟩
  rw [if_neg (show ¬ 32<lv by omega)];refine av (λ h5=>?_) (λ h5=>?_)
  ·rw [if_pos O]; exact aa ⟨rfl,by simp,h1⟩
  rw [if_neg (show ¬ 4096<=c by omega)];refine ai _ (Pm hb) ?_;refine ag aC ?_
  have stop:∀ (i ci kk:Int),kk≠0->Ev2 (λ n m=>cv (d4 n) x li m kk ci i) (·=(kk,ci)):=by
   intro i ci kk hk;refine aw ?_;simp only [cv];refine ai false (av (λ _=>aa (by simpa using hk)) (λ _=>aa rfl)) vF
  by_cases h0:oM x=0
  ·rw [if_pos h0,h0]
   have loop:∀ (k i c:Nat) (ci:Int),i+k=x.BY.length->ci=c->c<=4096->Ev2 (λ n m=>cv (d4 n) x li m 0 ci (i:Int)) (λ s=>(nM c (lv+1) (x.BY.drop i)).2<=4096/\s.1=(nM c (lv+1) (x.BY.drop i)).1/\(s.1=0->s.2=(((nM c (lv+1) (x.BY.drop i)).2:Nat):Int))):=by
    intro k
    induction k with
    | zero=>
     intro i c ci hi hc h6;refine aw ?_;simp only [cv];rw [List.drop_eq_nil_of_le O];refine ai false pf (af (by decide) (aa ⟨by rw [nM]; exact h6,by rw [nM],λ _=>by rw [nM]; exact hc⟩))
    | succ k ihk=>
     intro i c ci hi hc h6;refine aw ?_;simp only [cv];rw [qb _ (show i<x.BY.length by omega),qp];refine ai true vq (ae rfl (ag O (ag aC ?_)));refine ah _ (ih _ vP c (lv+1) ci (li+1) hc O h6 O) ?_;rintro ⟨r1,r2⟩ ⟨q1,q2,q3⟩;simp only at q1 q2;refine ag aC ?_;by_cases h8:r1=0
     ·subst h8;have q2:=q2 rfl;simp only [if_pos q1.symm];subst q2;exact nF (P:=λ j=>Ev2 (λ n m=>cv (d4 n) x li m 0 _ j) _) (ihk (i+1) _ _ O rfl q3)
     ·simp only [if_neg (show ¬ (oL c (lv+1) (lat x.BY (i:Int))).1=0 by rw [<- q1]; exact h8)];exact aO (stop _ _ _ h8) (λ s hs=>by subst hs; exact ⟨q3,q1,λ k=>absurd k h8⟩)
   refine ah _ (aN (f:=λ n m=>cv (d4 n) x li m 0 (ci+1) 0) (loop x.BY.length 0 (c+1) (ci+1) O O O)) ?_;rintro s ⟨s1,s2,s3⟩;simp only [List.drop_zero] at s1 s2 s3;exact aa ⟨s2,s3,s1⟩
  ·rw [if_neg h0];exact ah _ (aN (f:=λ n m=>cv (d4 n) x li m (oM x) (ci+1) 0) (stop _ _ _ h0)) (λ s hs=>by subst hs; exact aa ⟨rfl,λ k=>absurd k h0,by omega⟩)
theorem xr {e:ac}(hb:Sz e):Ev2 (λ n _=>lK n e) (·=chk e):=by
 simp only [lK];exact ah _ (Ta hb 0 1 0 1 Z Z (by decide) (by decide)) (λ r hr=>aa hr.1)
mutual
def rZ:ac->Nat|.mk _ _ _ _ _ kids _=>1+pL kids
def pL:List ac->Nat|[]=>0|x::r=>rZ x+pL r
end
theorem wM (e:ac):rZ e=1+pL e.BY:=by cases e; simp only [rZ,ac.BY]
theorem B8 (h:p:=by
 exact up (i1 _ _ _ h) (List.suffix_refl _)):p:=h
theorem Ri (h:p:=by (try simp only []); omega):p:=h
theorem B9 (h:p:=by exact bv (by (try simp only []); omega) (by (try simp only []); omega)):p:=h
theorem vZ (h:p:=by exact ws (b:=b) g.1):p:=h
theorem I5 (h:p:=by exact rR (by decide) (by decide) (by have:=z1.2; have:=(glt g hs).2; omega) z1.1):p:=h
theorem sF (h:p:=by exact af ld (aa Z)):p:=h
theorem yW (h:p:=by rw [n7,List.length_singleton]; omega):p:=h
theorem tlS (b:Bool)(l:List ab):tl b l <:+ l:=by
 unfold tl nf
 cases b
 ·exact List.tail_suffix _
 ·exact (List.tail_suffix _).trans (List.dropWhile_suffix _)
theorem t1 {b:Bool}{l m:List ab}(h:l <:+ m):tl b l <:+ m:=(tlS b l).trans h
def Gl (l:List ab):Prop:=Gd l/\l.length<=1000000000
def iq {α:Type}(P:α->Prop)(l0:List ab)(x:PR α):Prop:=∀ q,x=some q->match q with
 | .inl e=>e.1≠0
 | .inr (a,l')=>P a/\l' <:+ l0/\Gl l'
theorem jT {α:Type}{P:α->Prop}{l0:List ab}:iq P l0 none:=by intro q h; cases h
theorem ez {α:Type}{P:α->Prop}{l0 l':List ab}{a:α}(p:P a)(h:l' <:+ l0)(g:Gl l'):iq P l0 (pok a l'):=by intro q h'; cases h'; exact ⟨p,h,g⟩
theorem tI {α:Type}{P:α->Prop}{l0:List ab}{k a:Int}(h:k≠0):iq P l0 (per k a):=by intro q h'; cases h'; exact h
theorem cT {α:Type}{P:α->Prop}{p:Prop} [Decidable p] {l0:List ab}{x y:PR α}(h1:p->iq P l0 x)(h2:¬p->iq P l0 y):iq P l0 (if p then x else y):=by
 by_cases h:p
 ·rw [if_pos h]; exact h1 h
 ·rw [if_neg h]; exact h2 h
theorem bg {α β:Type}{x:PR α}{k:α->List ab->PR β}{q:PE⊕(β×List ab)}(h:pb x k=some q):(∃ e,x=some (.inl e)/\q=.inl e)\/(∃ a l,x=some (.inr (a,l))/\k a l=some q):=by
 cases x with
 | none=>cases h
 | some y=>
  rcases y with e|⟨a,l⟩
  ·cases h; exact .inl ⟨e,rfl,rfl⟩
  ·exact .inr ⟨a,l,Z,h⟩
theorem dK {α β:Type}{P:α->Prop}{P':β->Prop}{l0 l1:List ab}{x:PR α}{k:α->List ab->PR β}(h:iq P l1 x)(hs:l1 <:+ l0)(hk:∀ a l',P a->l' <:+ l0->Gl l'->iq P' l0 (k a l')):iq P' l0 (pb x k):=by
 intro q hq;rcases bg hq with ⟨e,hx,rfl⟩|⟨a,l,hx,hq⟩
 ·exact h _ hx
 ·exact hk a l (h _ hx).1 ((h _ hx).2.1.trans hs) (h _ hx).2.2 q hq
theorem u4 {α:Type}{P:α->Prop}{l0 l1:List ab}{x:PR α}(h:iq P l1 x)(hs:l1 <:+ l0):iq P l0 x:=by
 intro q hq;have:=h q hq;rcases q with e|⟨a,l'⟩
 ·exact this
 ·exact ⟨this.1,this.2.1.trans hs,this.2.2⟩
theorem glk {b:Bool}{l:List ab}{k:Int}(g:Gl l)(h:(hd b l).Ar=k)(hk:k≠6):Gl (tl b l):=⟨DX (ws g.1) O,Nat.le_trans (tlS b l).length_le g.2⟩
theorem glt {b:Bool}{l:List ab}{s:Bk}(g:Gl l)(h:sgB b l s=true):Gl (tl b l):=glk g (mF.1 h).1 (by decide)
theorem glw {b:Bool}{l:List ab}{s:Bk}(g:Gl l)(h:wdB b l s=true):Gl (tl b l):=glk g (xY.1 h).1 (by decide)
theorem gln {b:Bool}{l:List ab}(g:Gl l):(hd b l).By.length<=1000000000:=by
 have:=tw vZ;have h1:=this.1;have h2:=this.2.1;omega
theorem gll {b:Bool}{l:List ab}(g:Gl l):(tl b l).length<l.length:=PQ (ws g.1)
abbrev Tr {α:Type}:α->Prop:=λ _=>True
abbrev Nm:Bk->Prop:=λ s=>s.length<=1000000000
theorem dc {b:Bool}{s:Bk}{l:List ab}(g:Gl l):iq Tr (tl b l) (eF b s l):=cT (λ h=>ez trivial (List.suffix_refl _) (glt g h)) (λ _=>tI (by decide))
theorem Cq {b:Bool}{s:Bk}{l:List ab}(g:Gl l):iq Tr (tl b l) (zK b s l):=cT (λ h=>ez trivial (List.suffix_refl _) (glw g h)) (λ _=>tI (by decide))
theorem pK {b:Bool}{l:List ab}(g:Gl l):iq Nm (tl b l) (yQ b l):=cT (λ h=>ez (gln g) (List.suffix_refl _) (glk g h.1 (by decide))) (λ _=>tI (by decide))
theorem ye:∀ (f c:Nat) (l:Bk) (e:SE),i7 f c l=.inl e->e.1≠0
 | 0,c,l,e,h=>by rw [i7] at h; cases h; decide
 | f+1,c,l,e,h=>by
  rw [lx] at h
  cases hsk:fb true l with
  | nil=>
   rw [hsk,mJ] at h;split at h
   ·cases h; decide
   ·cases h
  | cons b r=>
   rw [hsk,ll] at h;split at h
   ·cases h; exact (show (2:Int)≠0 by decide)
   split at h
   ·cases h; exact (show (14:Int)≠0 by decide)
   cases ht:ix (dz f 0) (b::r) with
   | inl e'=>
    rw [ht] at h; cases h;show e'.1≠0;exact D7 (λ x y hxy=>(yd f 0).1 x y hxy) ht
   | inr z=>
    obtain ⟨k,t,l'⟩:=z;rw [ht,mK] at h
    cases hs:i7 f (c+1) l' with
    | inl e'=>rw [hs] at h; cases h; exact ye f (c+1) l' _ hs
    | inr ts'=>rw [hs] at h; cases h
theorem MB {src:Bk->SE⊕Bk}{l:Bk}(hsrc:∀ r r',src r=.inr r'->r'.length<r.length){c:Int}{t l':Bk}(h:ix src l=.inr (c,t,l')):c≠6/\t.length<=l.length/\(c=3->t.length+2<=l.length)/\(c=2->t.all cz=true):=by
 cases l with
 | nil=>cases h
 | cons b r=>
  rw [ed] at h;split at h
  ·split at h
   ·cases h
   ·cases h
    exact ⟨by decide,(List.takeWhile_prefix _).length_le,(λ h=>absurd h (by decide)),(λ h=>absurd h (by decide))⟩
  split at h
  ·cases h
   exact ⟨by decide,(List.takeWhile_prefix _).length_le,(λ h=>absurd h (by decide)),λ _=>List.all_takeWhile⟩
  split at h
  ·cases h; exact ⟨by decide,by simp,(λ h=>absurd h (by decide)),(λ h=>absurd h (by decide))⟩
  split at h
  ·split at h
   ·cases h
   ·rename_i r' hr
    cases h
    have:=hsrc r _ hr;simp only [List.length_take,aq];exact ⟨by decide,by omega,λ _=>by omega,(λ h=>absurd h (by decide))⟩
  split at h
  ·cases h
  ·rename_i hs
   cases h
   exact ⟨by decide,(ry hs).2,(λ h=>absurd h (by decide)),(λ h=>absurd h (by decide))⟩
theorem rz (c:Bool)(l:Bk):(fb c l).length<=l.length:=by
 have h1:=(List.dropWhile_suffix (p:=dj) (l:=l)).length_le;unfold fb;split
 ·rename_i b r hb;rw [hb] at h1;split
  ·exact Nat.le_trans (List.dropWhile_suffix _).length_le h1
  ·exact h1
 ·exact rg _
theorem Av (s:Bk)(a:Int)(h0:0<=a)(h1:a+(s.length:Int)<=1000000000):∀ (f c:Nat) (l:Bk) (ts:List Tk),l.length<=s.length->i7 f c l=.inr ts->Gd ((ts.map (tkS s)).map (mvT a))/\(∀ t∈ts.map (tkS s),t.Ar=3->t.By.length+2<=l.length)/\ts.length<=l.length+1
 | 0,c,l,ts,_,h=>by rw [i7] at h; cases h
 | f+1,c,l,ts,hl,h=>by
  rw [lx] at h;have hk:=rz true l
  cases hsk:fb true l with
  | nil=>
   rw [hsk,mJ] at h;split at h
   ·cases h
   ·cases h
    refine ⟨⟨⟨?_,?_,λ h=>absurd (show (6:Int)=3 from h) (by decide),λ h=>absurd (show (6:Int)=2 from h) (by decide)⟩,.inl ⟨Z,Z⟩⟩,?_,by simp⟩
    ·show 0<=(s.length:Int)-((0:Nat):Int)+a; omega
    ·show (s.length:Int)-((0:Nat):Int)+a+((0:Nat):Int)<=_; omega
    ·intro t ht hk; simp only [dg,List.map_nil,List.mem_singleton] at ht; subst ht; cases hk
  | cons b r=>
   rw [hsk] at hk;rw [hsk,ll] at h;split at h
   ·cases h
   split at h
   ·cases h
   cases ht:ix (dz f 0) (b::r) with
   | inl e=>rw [ht] at h; cases h
   | inr z=>
    obtain ⟨k,t,l'⟩:=z;rw [ht,mK] at h;obtain ⟨b1,b2,b3,b4⟩:=MB (λ x y hxy=>((hZ f 0).1 x y hxy).2) ht;have b5:=(lX (λ x y _ hxy=>(hZ f 0).1 x y hxy) ht).2
    cases hs:i7 f (c+1) l' with
    | inl e=>rw [hs] at h; cases h
    | inr ts'=>
     rw [hs] at h; cases h;obtain ⟨i1,i2,i3⟩:=Av s a h0 h1 f (c+1) l' ts' O hs;have hn:(b::r).length<=s.length:=by omega
     refine ⟨⟨⟨?_,?_,?_,b4⟩,.inr ⟨b1,i1⟩⟩,?_,by simp only [aq] at i3 b5 hk ⊢; omega⟩
     ·show 0<=(s.length:Int)-((b::r).length:Int)+a; omega
     ·show (s.length:Int)-((b::r).length:Int)+a+(t.length:Int)<=_; omega
     ·intro YF;have:=b3 YF;show (s.length:Int)-((b::r).length:Int)+a+1+(t.length:Int)<=_; omega
     ·intro y hy hy3;rw [dg] at hy;rcases ro.1 hy with rfl|hy
      ·have:=b3 hy3;show t.length+2<=_; omega
      ·have:=i2 y hy hy3;omega
theorem rA {s:Bk}{a:Int}(h0:0<=a)(h1:a+(s.length:Int)<=1000000000)(h:(dv s).2.Ar=0):Gd ((dv s).1.map (mvT a))/\(∀ t∈(dv s).1,t.Ar=3->t.By.length+2<=s.length)/\(dv s).1.length<=65537:=by
 unfold dv at h ⊢;split
 ·rename_i hl; rw [if_pos hl] at h; cases h
 ·rename_i hl;rw [if_neg hl] at h
  cases hs:i7 (s.length+1) 0 s with
  | inl e=>
   rw [hs] at h;exact absurd h (ye _ _ _ e hs)
  | inr ts=>
   obtain ⟨i1,i2,i3⟩:=Av s a h0 h1 _ _ s ts (bx _) hs;refine ⟨i1,i2,?_⟩;show ([]++ts.map (tkS s)).length<=_;rw [List.nil_append,th]; omega
theorem rV {s:Bk}{a:Int}(h0:0<=a)(h1:a+(s.length:Int)<=1000000000)(h:(dv s).2.Ar=0):Gl ((dv s).1.map (mvT a)) :=
 ⟨(rA h0 h1 h).1,by have:=(rA h0 h1 h).2.2; rw [th]; omega⟩
theorem jf:∀ (f:Nat),(∀ d l r,gu f d l=some (some r)->r <:+ l/\r.length<l.length)/\(∀ l r,iN f l=some (some r)->r <:+ l/\r.length<l.length)
 | 0=>⟨λ d l r h=>(by rw [gu] at h; cases h),λ l r h=>(by rw [iN] at h; cases h)⟩
 | f+1=>by
  obtain ⟨i1,i2⟩:=jf f;constructor
  ·intro d l r h
   cases l with
   | nil=>rw [gu] at h; cases h
   | cons b l=>
    have up:∀ {x:Bk},r <:+ x/\r.length<x.length->x <:+ l->r <:+ (b::l)/\r.length<(b::l).length:=λ hx hy=>⟨(hx.1.trans hy).trans (List.suffix_cons _ _),by have:=hy.length_le; rw [aq]; omega⟩
    rw [gu] at h;split at h
    ·exact B8
    split at h
    ·split at h
     ·cases h; exact ⟨List.suffix_cons _ _,Nat.lt_succ_self _⟩
     ·exact B8
    split at h
    ·cases hq:iN f l with
     | none=>rw [hq] at h; cases h
     | some y=>
      rw [hq] at h
      cases y with
      | none=>cases h
      | some r'=>exact up (i1 _ _ _ h) (i2 _ _ hq).1
    ·exact B8
  ·intro l r h
   cases l with
   | nil=>rw [iN] at h; cases h
   | cons b l=>
    have up:∀ {x:Bk},r <:+ x/\r.length<x.length->x <:+ l->r <:+ (b::l)/\r.length<(b::l).length:=λ hx hy=>⟨(hx.1.trans hy).trans (List.suffix_cons _ _),by have:=hy.length_le; rw [aq]; omega⟩
    rw [iN] at h;split at h
    ·cases h; exact ⟨List.suffix_cons _ _,Nat.lt_succ_self _⟩
    split at h
    ·exact up (i2 _ _ h) (List.drop_suffix _ _)
    split at h
    ·exact up (i2 _ _ h) (List.drop_suffix 2 l)
    split at h
    ·cases hq:gu f 1 ((b::l).drop 2) with
     | none=>rw [hq] at h; cases h
     | some y=>
      rw [hq] at h
      cases y with
      | none=>cases h
      | some r'=>exact up (i2 _ _ h) ((i1 _ _ _ hq).1.trans (List.drop_suffix 1 l))
    ·exact up (i2 _ _ h) (List.suffix_refl _)
theorem rp {l t:Bk}{n:Nat}(h:iY l=.inr (t,n)):1<=n/\n<=l.length:=by
 cases l with
 | nil=>cases h
 | cons b r=>
  rw [iY] at h;split at h
  ·split at h
   ·rename_i hz
    cases h
    have:=(o4 r).2.2.1 hz;rw [aq]; omega
   ·cases h
  ·split at h
   ·cases h
   ·cases h
    have:=gO (b::r) G;exact ⟨this.1,this.2.1⟩
def rS {α:Type}(P:α->Prop)(x:Option (PE⊕α)):Prop:=∀ q,x=some q->match q with
 | .inl e=>e.1≠0
 | .inr a=>P a
theorem rC {α:Type}{P:α->Prop}:rS P none:=by intro e h; cases h
theorem TT {α:Type}{P:α->Prop}{a:α}(h:P a):rS P (some (.inr a)):=by intro e h'; cases h'; exact h
theorem AP {α:Type}{P:α->Prop}{k a:Int}(h:k≠0):rS P (some (.inl (k,a))):=by intro e h'; cases h'; exact h
theorem vV {α:Type}{P:α->Prop}{p:Prop} [Decidable p] {x y:Option (PE⊕α)}(h1:p->rS P x)(h2:¬p->rS P y):rS P (if p then x else y):=by
 by_cases h:p
 ·rw [if_pos h]; exact h1 h
 ·rw [if_neg h]; exact h2 h
theorem rR {k op:Int}{nm key:Bk}{kids:List ac}{at':Int}(n:nm.length<=1000000000)(m:key.length<=1000000000)(c:kids.length<=4000000000)(h:∀ y∈kids,Sz y):Sz (ac.mk k op nm key v0 kids at') :=
 .mk (Nat.le_trans n (by decide)) (Nat.le_trans m (by decide)) Dl (Nat.le_trans c (by decide)) h
theorem KA (v:am)(at':Int)(h:VSz v):Sz (FF v at'):=.mk (rg _) (rg _) h (rg _) (λ y hy=>by cases hy)
theorem QW (s:Bk)(at':Int):Sz (xq s at'):=KA _ _ Dl
theorem m1 {a:ac}(h:Sz a):∀ y∈[a],Sz y:=λ y hy=>by rw [List.mem_singleton.1 hy]; exact h
theorem m2 {a b:ac}(h:Sz a)(g:Sz b):∀ y∈[a,b],Sz y:=λ y hy=>by
 rcases ro.1 hy with rfl|hy
 ·exact h
 ·exact m1 g y hy
theorem m3 {a b c:ac}(h:Sz a)(g:Sz b)(k:Sz c):∀ y∈[a,b,c],Sz y:=λ y hy=>by
 rcases ro.1 hy with rfl|hy
 ·exact h
 ·exact m2 g k y hy
def Kd (N:Nat)(ks:List ac):Prop:=(∀ y∈ks,Sz y)/\ks.length<=N
def Rd (n:Nat)(z:Int×Int×Bk×List ac×Bool):Prop:=z.2.2.1.length<=4096/\(∀ y∈z.2.2.2.1,Sz y)/\z.2.2.2.1.length<=n
structure Fct (f:Nat):Prop where
 e:∀ b l,Gl l->iq Sz (tl b l) (gj f b l)
 b:∀ Uk b l,Gl l->iq Sz (tl b l) (oO f Uk b l)
 bl:∀ Uk b x l,Sz x->Gl l->iq Sz l (pB f Uk b x l)
 u:∀ b l,Gl l->iq Sz (tl b l) (unS f b l)
 pl:∀ b x l,Sz x->Gl l->iq Sz l (kF f b x l)
 p:∀ b l,Gl l->iq Sz (tl b l) (mr f b l)
 s:∀ b l,Gl l->(hd b l).Ar=3->iq Sz (tl b l) (qO f b l)
 n:∀ b l,Gl l->(hd b l).Ar=1->iq Sz (tl b l) (nY f b l)
 i:∀ e l,Gl l->iq (Kd l.length) (tl true l) (iF f e l)
 t:∀ l,Gl l->iq (Kd (2*l.length)) (tl true l) (pX f l)
 k:∀ l,Gl l->iq Sz (tl true l) (nV f l)
 lo:∀ a k l,Gl l->iq Sz l (mq f a k l)
 tm:∀ (s:Bk) (a:Int),0<=a->a+(s.length:Int)<=1000000000->rS Sz (kj f s a)
 r:∀ (frm pos:Int) (text:Bk) (parts:List ac) (UC:Bool) (s:Bk) (n:Nat),0<=pos->pos+(s.length:Int)<=1000000000->text.length<=4096->(∀ y∈parts,Sz y)->parts.length+2*s.length<=n->rS (Rd n) (eW f frm pos text parts UC s)
 w:∀ (s:Bk) (a:Int),0<=a->a+(s.length:Int)<=1000000000->rS Sz (gI f s a)
theorem my {l p:Bk}(h:hasPrefix l p=true):p.length<=l.length:=by
 unfold hasPrefix at h;exact (List.isPrefixOf_iff_prefix.1 h).length_le
theorem Dv {s:Bk}{k:Int}(h:iY s=.inl k):k≠0:=by
 cases s with
 | nil=>cases h; decide
 | cons b r=>
  rw [iY] at h;split at h
  ·split at h
   ·cases h
   ·cases h; assumption
  ·split at h
   ·cases h; decide
   ·cases h
theorem Jw {frm pos:Int}{text:Bk}{parts:List ac}(h:∀ y∈parts,Sz y):(∀ y∈flS frm pos text parts,Sz y)/\(flS frm pos text parts).length<=parts.length+1:=by
 unfold flS;split
 ·refine ⟨λ y hy=>?_,by simp⟩;rcases List.mem_append.1 hy with hy|hy
  ·exact h y hy
  ·rw [List.mem_singleton.1 hy]; exact QW _ _
 ·exact ⟨h,by omega⟩
theorem vr {at':Int}{n:Nat}{z:Int×Int×Bk×List ac×Bool}(hn:n<=3000000000)(h:Rd n z):Sz (rQ at' z):=by
 obtain ⟨frm,pos,text,parts,UC⟩:=z;obtain ⟨h1,h2,h3⟩:=h;simp only at h1 h2 h3;unfold rQ;have:=Jw (frm:=frm) (pos:=pos) (text:=text) h2
 cases UC with
 | true=>exact rR (by decide) (by decide) O this.1
 | false=>exact QW _ _
theorem Tz {e:ac}(h:Sz e)(at':Int):Sz (ac.mk e.Ar e.fOp e.AI e.D' e.A' e.BY at'):=by
 cases h with
 | mk n k v c kids=>exact .mk n k v c kids
abbrev sfx (l:List ab):l <:+ l:=List.suffix_refl l
theorem fct:∀ f,Fct f:=by
 intro f
 induction f with
 | zero=>
  constructor
  ·intro b l _; rw [gj]; exact jT
  ·intro v b l _; rw [oO]; exact jT
  ·intro v b x l _ _; rw [pB]; exact jT
  ·intro b l _; rw [unS]; exact jT
  ·intro b x l _ _; rw [kF]; exact jT
  ·intro b l _; rw [mr]; exact jT
  ·intro b l _ _; rw [qO]; exact jT
  ·intro b l _ _; rw [nY]; exact jT
  ·intro b l _; rw [iF]; exact jT
  ·intro l _; rw [pX]; exact jT
  ·intro l _; rw [nV]; exact jT
  ·intro a k l _; rw [mq]; exact jT
  ·intro s a _ _; rw [kj]; exact rC
  ·intro a b c d e g n _ _ _ _ _; rw [eW]; exact rC
  ·intro s a _ _; rw [gI]; exact rC
 | succ f ih=>
  constructor
  ·intro b l g;rw [gj];refine dK (ih.b 0 b l g) (sfx _) λ c l1 z1 s1 g1=>cT (λ hs=>?_) (λ _=>ez z1 s1 g1);exact dK (ih.e b _ (glt g1 hs)) (t1 (t1 s1)) λ a l2 z2 s2 g2=>dK (dc g2) (t1 s2) λ _ l3 _ s3 g3=>dK (ih.e b _ g3) (t1 s3) λ d l4 z4 s4 g4=>ez (rR (by decide) (by decide) G (m3 z1 z2 z4)) s4 g4
  ·intro v b l g;rw [oO];exact cT (λ _=>ih.u b l g) (λ _=>dK (ih.b _ b l g) (sfx _) λ e l1 z1 s1 g1=>u4 (ih.bl v b e l1 z1 g1) s1)
  ·intro v b x l zx g;rw [pB]
   cases ha:wc b l v with
   | none=>exact ez zx (sfx _) g
   | some p=>
    have hs:sgB b l p.1=true:=List.find?_some (p:=λ p:Bk×Int=>sgB b l p.1) ha;exact dK (ih.b _ b _ (glt g hs)) (t1 (tlS b l)) λ y l1 z1 s1 g1=>u4 (ih.bl v b _ l1 (rR (by decide) (by decide) G (m2 zx z1)) g1) s1
  ·intro b l g;rw [unS];refine cT (λ hs=>dK (ih.u b _ (glt g hs)) (t1 (sfx _)) λ e l1 z1 s1 g1=>ez (rR (by decide) (by decide) G (m1 z1)) s1 g1) (λ _=>cT (λ hs=>dK (ih.u b _ (glt g hs)) (t1 (sfx _)) λ e l1 z1 s1 g1=>ez (rR (by decide) (by decide) G (m1 z1)) s1 g1) (λ _=>?_));exact dK (ih.p b l g) (sfx _) λ e l1 z1 s1 g1=>u4 (ih.pl b e l1 z1 g1) s1
  ·intro b x l zx g;rw [kF];refine cT (λ hs=>cT (λ hk=>?_) (λ _=>tI (by decide))) (λ _=>cT (λ hs=>?_) (λ _=>ez zx (sfx _) g))
   ·exact u4 (ih.pl b _ _ (rR (gln (glt g hs)) (by decide) G (m1 zx)) (glk (glt g hs) hk (by decide))) (t1 (tlS b l))
   ·exact dK (ih.e true _ (glt g hs)) (t1 (tlS b l)) λ y l1 z1 s1 g1=>dK (dc g1) (t1 s1) λ _ l2 _ s2 g2=>u4 (ih.pl b _ _ (rR (by decide) (by decide) G (m2 zx z1)) g2) s2
  ·intro b l g;rw [mr];refine cT (λ hk=>cT (λ _=>ez (KA _ _ Dl) (sfx _) (glk g hk (by decide))) (λ h=>tI h)) (λ _=>cT (λ hk=>ih.s b l g hk) (λ _=>cT (λ hk=>ih.n b l g hk) (λ _=>?_)));refine cT (λ hs=>dK (ih.e true _ (glt g hs)) (tlS true _) λ e l1 z1 s1 g1=>dK (dc g1) (t1 s1) λ _ l2 _ s2 g2=>ez z1 s2 g2) (λ _=>?_);refine cT (λ hs=>cT (λ hw=>u4 (ih.lo _ _ _ (glw (glt g hs) hw)) (tlS true _)) (λ _=>dK (ih.i _ _ (glt g hs)) (tlS true _) λ ks l1 z1 s1 g1=>ez I5 s1 g1)) (λ _=>?_);exact cT (λ hs=>cT (λ hw=>u4 (ih.lo _ _ _ (glw (glt g hs) hw)) (tlS true _)) (λ _=>dK (ih.t _ (glt g hs)) (tlS true _) λ ks l1 z1 s1 g1=>ez I5 s1 g1)) (λ _=>tI (by decide))
  ·intro b l g hk;rw [qO];intro q hq;have hb:=tw vZ;have ht':=ih.tm (hd b l).By ((hd b l).fAt+1) (by have:=hb.1; omega) (by have:=hb.2.2.1 hk; omega)
   cases ht:kj f (hd b l).By ((hd b l).fAt+1) with
   | none=>rw [ht] at hq; cases hq
   | some y=>
    rw [ht] at hq;have ht':=ht' y ht;rcases y with e|e
    ·cases hq; exact ht'
    ·cases hq; exact ⟨Tz ht' _,sfx _,glk g hk (by decide)⟩
  ·intro b l g hk;have g1:=glk g hk (by decide);have gn:=gln (b:=b) g;rw [nY];refine cT (λ _=>ez (KA _ _ Dl) (sfx _) g1) (λ _=>cT (λ _=>ez (KA _ _ Dl) (sfx _) g1) (λ _=>cT (λ _=>ez (KA _ _ Dl) (sfx _) g1) (λ _=>cT (λ _=>tI (by decide)) (λ _=>?_))));exact cT (λ hs=>dK (ih.i _ _ (glt g1 hs)) (t1 (tlS b _)) λ ks l1 z1 s1 g2=>ez (rR gn (by decide) (by have:=z1.2; have:=(glt g1 hs).2; omega) z1.1) s1 g2) (λ _=>ez (rR gn (by decide) (by decide) (λ y hy=>by cases hy)) (sfx _) g1)
  ·intro e l g;have gt:=gll (b:=true) g;rw [iF];refine cT (λ hs=>ez ⟨(λ y hy=>by cases hy),rg _⟩ (sfx _) (glt g hs)) (λ _=>dK (ih.e true l g) (sfx _) λ x l1 zx s1 g1=>cT (λ hs=>?_) (λ _=>dK (dc g1) (t1 s1) λ _ l2 _ s2 g2=>ez ⟨m1 zx,by simp only [List.length_singleton]; omega⟩ s2 g2));have h1:=s1.length_le;have h2:=gll (b:=true) g1
   exact dK (ih.i e _ (glt g1 hs)) (t1 (t1 s1)) λ r l2 z2 s2 g2=>ez ⟨λ y hy=>by
    rcases ro.1 hy with rfl|hy
    ·exact zx
    ·exact z2.1 y hy,by have:=z2.2; simp only [aq]; omega⟩ s2 g2
  ·intro l g;have gt:=gll (b:=true) g;rw [pX];refine cT (λ hs=>ez ⟨(λ y hy=>by cases hy),rg _⟩ (sfx _) (glt g hs)) (λ _=>dK (ih.k l g) (sfx _) λ k l1 z1 s1 g1=>dK (dc g1) (t1 s1) λ _ l2 _ s2 g2=>dK (ih.e true l2 g2) (t1 s2) λ x l3 z3 s3 g3=>cT (λ hs=>?_) (λ _=>dK (dc g3) (t1 s3) λ _ l4 _ s4 g4=>ez ⟨m2 z1 z3,by simp only [aq,mv]; omega⟩ s4 g4));have h1:=s3.length_le;have h2:=gll (b:=true) g3
   exact dK (ih.t _ (glt g3 hs)) (t1 (t1 s3)) λ r l4 z4 s4 g4=>ez ⟨λ y hy=>by
    rcases ro.1 hy with rfl|hy
    ·exact z1
    rcases ro.1 hy with rfl|hy
    ·exact z3
    ·exact z4.1 y hy,by have:=z4.2; simp only [aq]; omega⟩ s4 g4
  ·intro l g;rw [nV];refine cT (λ hk=>ez (QW _ _) (sfx _) (glk g hk (by decide))) (λ _=>cT (λ hk=>ih.s true l g hk) (λ _=>cT (λ hs=>?_) (λ _=>tI (by decide))));exact dK (ih.e true _ (glt g hs)) (tlS true _) λ e l1 z1 s1 g1=>dK (dc g1) (t1 s1) λ _ l2 _ s2 g2=>ez z1 s2 g2
  ·intro a k l g;rw [mq];refine dK (pK g) (tlS true l) λ v l1 z1 s1 g1=>dK (P:=λ p:Bk×Bk=>p.1.length<=1000000000/\p.2.length<=1000000000) (l1:=l1) (cT (λ hs=>dK (pK (glt g1 hs)) (t1 (tlS true l1)) λ w l2 z2 s2 g2=>ez ⟨z2,z1⟩ s2 g2) (λ _=>ez ⟨z1,rg _⟩ (sfx _) g1)) s1 λ nk l2 zn s2 g2=>?_;refine dK (Cq g2) (t1 s2) λ _ l3 _ s3 g3=>dK (ih.e true l3 g3) (t1 s3) λ x l4 z4 s4 g4=>dK (dc g4) (t1 s4) λ _ l5 _ s5 g5=>dK (ih.e true l5 g5) (t1 s5) λ c l6 z6 s6 g6=>?_;refine dK (P:=Kd 3) (l1:=l6) (cT (λ _=>dK (dc g6) (tlS true l6) λ _ l7 _ s7 g7=>dK (ih.e true l7 g7) (t1 s7) λ d l8 z8 s8 g8=>ez ⟨m3 z4 z6 z8,by simp⟩ s8 g8) (λ _=>ez ⟨m2 z4 z6,by simp⟩ (sfx _) g6)) s6 λ ks l7 z7 s7 g7=>?_
   refine dK (P:=Kd 4) (l1:=l7) (cT (λ hw=>dK (ih.e true _ (glw g7 hw)) (t1 (tlS true l7)) λ e l8 z8 s8 g8=>ez ⟨λ y hy=>by
    rcases List.mem_append.1 hy with hy|hy
    ·exact z7.1 y hy
    ·exact m1 z8 y hy,by have:=z7.2; rw [n7,List.length_singleton]; omega⟩ s8 g8) (λ _=>ez ⟨z7.1,by have:=z7.2; omega⟩ (sfx _) g7)) s7 λ ks l8 z8 s8 g8=>?_
   exact dK (dc g8) (t1 s8) λ _ l9 _ s9 g9=>ez (rR zn.1 zn.2 (by have:=z8.2; omega) z8.1) s9 g9
  ·intro s a h0 h1;rw [kj];have hr':=ih.r a a [] [] false s (2*s.length) h0 h1 (by decide) (λ y hy=>by cases hy) G;intro q hq
   cases hr:eW f a a [] [] false s with
   | none=>rw [hr] at hq; cases hq
   | some y=>
    rw [hr] at hq;have hr':=hr' y hr;rcases y with e'|z
    ·cases hq; exact hr'
    ·have hz:Sz (rQ a z):=vr O hr';simp only [pA,bt] at hq;split at hq
     ·cases hq; exact hz
     ·cases hq; assumption
  ·intro frm pos text parts UC s n h0 h1 ht hp hn
   cases s with
   | nil=>rw [eW]; exact TT ⟨ht,hp,by simp only [mv] at hn; omega⟩
   | cons c r=>
    have hcl:(c::r).length=r.length+1:=rfl;rw [eW];refine vV (λ hx=>vV (λ _=>AP (by decide)) (λ hl=>ih.r _ _ _ _ _ _ n O ?_ ?_ hp ?_)) (λ _=>vV (λ hx=>?_) (λ _=>?_))
    ·have:=my hx;rw [n6]; simp only [aq,mv] at this h1 ⊢; omega
    ·rw [n7]; simp only [aq,mv]; omega
    ·rw [n6]; omega
    ·cases hc:gu f 1 ((c::r).drop 2) with
     | none=>exact rC
     | some y=>
      cases y with
      | none=>exact AP (by decide)
      | some r'=>
       simp only [];have hr:=(jf f).1 _ _ _ hc;have hr2:=hr.2;have hr1:=hr.1.length_le;have hx:=my hx;have hfl:=Jw (frm:=frm) (pos:=pos) (text:=text) hp;rw [n6] at hr1 hr2;simp only [aq,mv] at hr1 hr2 h1 hx hn;have hw':=ih.w (((c::r).drop 2).take (((c::r).drop 2).length-r'.length-1)) (pos+2) O (by simp only [List.length_take,n6,aq]; omega)
       cases hw:gI f (((c::r).drop 2).take (((c::r).drop 2).length-r'.length-1)) (pos+2) with
       | none=>exact rC
       | some z=>
        have hw':=hw' z hw;rcases z with e|e
        ·intro e' h; cases h; exact hw'
        ·refine ih.r _ _ _ _ _ _ n O vN (by decide) (λ y hy=>?_) yW;rcases List.mem_append.1 hy with hy|hy
         ·exact hfl.1 y hy
         ·rw [List.mem_singleton.1 hy]; exact hw'
    ·cases hi:iY (c::r) with
     | inl k=>exact AP (Dv hi)
     | inr tn=>
      have:=rp hi;exact vV (λ _=>AP (by decide)) (λ hl=>ih.r _ _ _ _ _ _ n O ja u5 hp ja)
  ·intro s a h0 h1;rw [gI];refine vV (λ h=>AP h) (λ hk=>?_);have hk:(dv s).2.Ar=0:=Classical.not_not.1 hk;have hx':=ih.e true _ (rV h0 h1 hk);intro q hq
   cases hx:gj f true ((dv s).1.map (mvT a)) with
   | none=>rw [hx] at hq; cases hq
   | some y=>
    rw [hx] at hq;have hx':=hx' y hx;rcases y with e'|⟨x,l⟩
    ·cases hq; exact hx'
    ·simp only [] at hq;split at hq
     ·cases hq; exact hx'.1
     ·cases hq; exact (show (2:Int)≠0 by decide)
theorem K9 (h:p:=by
 refine aa (aO (ut hL M' he h3 r1 _ _ _ _ _ _ _ _ _ _) ?_);rintro _ ⟨z,rfl,j,l',hz1,hz2⟩
 exact ⟨z,Z,he,j,l',hz1,hz2⟩):p:=h
theorem xZ (h:p:=by
 refine ag (by simp only [aq,mv,n7]; omega) ?_;refine ah _ (sJ hL M' _ he h3) ?_;rintro _ ⟨j,rfl,h3⟩
 exact ae Z (aa ⟨he,j,l',.inl ⟨Z,h3⟩⟩)):p:=h
theorem sZ (h:p:=by
 refine av (λ hk=>?_) (λ hk=>aa ⟨_,_,j,l',rfl,by simp,h3⟩);refine ah _ (Cb hL M' _ he h3) ?_;rintro _ ⟨j,l',rfl,h3⟩;refine ah _ (LE hL M' he h3) ?_;rintro ⟨z1,z2⟩ ⟨j,l',h2,h3⟩
 cases h2
 refine ag (by simp only [aq,mv,n7]; omega) ?_
 exact aa ⟨_,_,j,l',Z,by simp,h3⟩):p:=h
theorem lm (h:p:=by
 exact aa ⟨j,Z,h3⟩):p:=h
theorem Jq (h:p:=by
 cases h2
 refine ag (by simp only [aq,mv,n7]; omega) ?_
 exact aa ⟨he,_,_,j,l',Z,by simp,h3⟩):p:=h
theorem Bf (h:p:=by
 refine bJ (eV hL M' h3 O) λ j ⟨h3,h4,h5⟩=>?_
 exact ai _ (ax Z Z) (aa ⟨Z,j,Z,h3⟩)):p:=h
theorem qN (h:p:=by
 refine ah (λ t=>∃ (ks:List ac) (j:Nat) (l':List ab),t=(ks,L,(j:Int),Mp+1,base,e.1,e.2,[])/\Pos L base j (Mp+1) true l') ?_ ?_
 ·refine ah _ (xD hL M' _ he h3) ?_;rintro _ ⟨j,rfl,h3⟩;exact af ld (aa ⟨_,j,_,rfl,h3⟩)
 rintro _ ⟨ks,j,l',rfl,h3⟩;refine ah _ (u0 hL M' _ he hn hb h3) ?_;rintro _ ⟨j,l',rfl,h3⟩
 exact aa ⟨he,j,l',Z,h3⟩):p:=h
theorem BX (h:p:=by
 cases hz
 refine ah _ (mN hL M' _ hn hb h3 hxx) ?_;rintro _ ⟨he,j,l',rfl,h3⟩
 exact aa ⟨he,j,l',Z,h3⟩):p:=h
theorem kS (h:p:=by
 cases hq
 exact aa ⟨Z,j,Z,h3⟩):p:=h
theorem H5 (h:p:=by
 rw [if_pos hs] at hq; cases hq;refine af (by simp [hs]) (aa ⟨j,l,by rw [List.append_nil],h3,?_⟩)
 unfold eF; rw [if_pos hs]; rfl):p:=h
theorem xz (h:p:=by
 refine ah _ (u0 hL M' _ he hn hb h3) ?_;rintro _ ⟨j,l',rfl,h3⟩
 exact aa ⟨he,j,l',Z,h3⟩):p:=h
theorem KV (h:p:=by
 refine ah _ (hc _ hx) ?_;rintro ⟨z1,z2⟩ ⟨h,j,h3,h4⟩;replace h:z1=_:=h; subst h; cases h3
 exact h2 _ l j hx h4 hq):p:=h
theorem JH (h:p:=by
 rintro ⟨ks,z⟩ hz;rcases q with e|⟨ks',l'⟩
 ·obtain ⟨he,j,l',⟨hz,h3⟩|⟨hz,h3,h4⟩⟩:=hz
  ·cases hz; exact aa ⟨he,j,l',.inl ⟨rfl,h3⟩⟩
  ·cases hz; exact aa ⟨he,j,l',.inr ⟨rfl,h3,h4⟩⟩
 ·obtain ⟨j,l'',hz,h3,h4⟩:=hz
  cases hz; exact aa ⟨j,l'',rfl,rfl,h3,h4⟩):p:=h
theorem ln (h:p:=by exact LE hL M' he h3):p:=h
theorem BD (h:p:=by exact u0 hL M' _ he hn hb h3):p:=h
theorem Jb (h:p:=by exact bv (by show _<=(hd b l).fAt+1; omega) (by show (hd b l).fAt+1<=_; omega)):p:=h
theorem cy (h:p:=by simp only [aq,mv,n7]; omega):p:=h
theorem oa (h:p:=by exact yI hL M' _ h3):p:=h
theorem qT (h:p:=by exact Cb hL M' _ he h3):p:=h
theorem xt (h:p:=by exact F8 hL M' _ he h3):p:=h
theorem xe (h:p:=by exact ae s2 (aa Z)):p:=h
theorem BI (h:p:=by exact mN hL M' _ hn hb h3 hxx):p:=h
theorem Bl (h:p:=by have:=gl.2; simp only [mv]; omega):p:=h
theorem xm (h:p:=by exact Ky ih _ _ gl L base hL M' j (Mp+1) _ h3 hx):p:=h
theorem sb (h:p:=by simpa using hs):p:=h
theorem mN {L:List ab}{base:Int}(hL:Gd (L.map (mvT base)))(M':L.length<=1000000000){i:Nat}{Mp:Int}{b:Bool}{l:List ab}(s:Bk){q:PE⊕(Unit×List ab)}(h0:0<=Mp)(hb:b=decide (0<Mp))(h:Pos L base i (Mp+1) true l)(hq:eF true s l=some q) :
  Ev2 (λ n _=>bC n (.mk L (i:Int) (Mp+1) base dOk) s) (GG L base Mp b q):=by subst hb; exact KJ hL M' s h0 h hq
theorem u0 {L:List ab}{base:Int}(hL:Gd (L.map (mvT base)))(M':L.length<=1000000000){i:Nat}{Mp:Int}{b:Bool}{l:List ab}{e:PE}(s:Bk)(he:e.1≠0)(h0:0<=Mp)(hb:b=decide (0<Mp))(h:Pos L base i (Mp+1) true l) :
  Ev2 (λ n _=>bC n (.mk L (i:Int) (Mp+1) base (eD e)) s) (λ z=>∃ (j:Nat) (l':List ab),z=.mk L (j:Int) Mp base (eD e)/\Pos L base j Mp b l'):=by subst hb; exact Nu hL M' s he h0 h
theorem sg6 {b:Bool}{l:List ab}{s:Bk}(h:sgB b l s=true):(hd b l).Ar≠6:=by have:=(mF.1 h).1; omega
theorem wd6 {b:Bool}{l:List ab}{s:Bk}(h:wdB b l s=true):(hd b l).Ar≠6:=by have:=(xY.1 h).1; omega
theorem Aj (e:ac):ac.mk e.Ar e.fOp e.AI e.D' (am.mk e.A'.Ar e.A'.F' e.A'.If e.A'.Df e.A'.C') e.BY e.fAt=e:=by
 obtain ⟨k,op,nm,key,⟨vk,vn,vs,vi,vks⟩,kids,at'⟩:=e; rfl
def Fl {α:Type}(F:Nat->al->Option (α×al))(b:Bool)(l:List ab)(x:PR α):Prop :=∀ (L:List ab) (base:Int),Gd (L.map (mvT base))->L.length<=1000000000->∀ (i:Nat) (Mp:Int) (q:PE⊕(α×List ab)),Pos L base i Mp b l->x=some q->Ev2 (λ n _=>F n (.mk L (i:Int) Mp base dOk)) (Out L base Mp b q)
def FlC {α:Type}(F:Nat->al->Option (α×al))(l:List ab)(x:PR α):Prop :=∀ (L:List ab) (base:Int),Gd (L.map (mvT base))->L.length<=1000000000->∀ (i:Nat) (Mp:Int) (b:Bool) (q:PE⊕(α×List ab)),0<=Mp->b=decide (0<Mp)->Pos L base i (Mp+1) true l->x=some q->Ev2 (λ n _=>F n (.mk L (i:Int) (Mp+1) base dOk)) (Out L base Mp b q)
def N0 (L:List ab)(base Mp:Int)(en:Bk)(out:List ac)(q:PE⊕(List ac×List ab))(r:List ac×List ab×Int×Int×Int×Int×Int×Bk):Prop:=match q with
 | .inl e=>e.1≠0/\∃ (j:Nat) (l':List ab),((r.2=(L,(j:Int),Mp,base,e.1,e.2,[])/\Pos L base j Mp true l')\/(r.2=(L,(j:Int),Mp,base,0,0,[])/\Pos L base j Mp true l'/\eF true en l'=some (.inl e)))
 | .inr (ks,l')=>∃ (j:Nat) (l'':List ab),r=(out++ks,L,(j:Int),Mp,base,0,0,[])/\Pos L base j Mp true l''/\eF true en l''=some (.inr ((),l'))
def RdO (s:Bk)(a:Int)(q:PE⊕(Int×Int×Bk×List ac×Bool))(r:(Bk×Int×Int×Int×Bk×(List ac)×Bool)⊕(ao×ar)):Prop:=match q with
 | .inl e=>e.1≠0/\∃ t,r=.inr (eD e,t)
 | .inr (frm,pos,text,parts,UC)=>∃ (i fr:Nat),frm=a+(fr:Int)/\pos=a+(i:Int)/\fr<=i/\i<=s.length/\parts.length<=2*i/\r=.inl (s,a,(i:Int),(fr:Int),text,parts,UC)
def QS (q:PE⊕ac)(r:ac×ao):Prop:=match q with
 | .inl e=>e.1≠0/\r.2=eD e
 | .inr x=>r=(x,dOk)
structure Fol (f:Nat):Prop where
 e:∀ b l,Fl aD b l (gj f b l)
 b:∀ (Uk:Nat) (li:Int) b l,li=Uk->Uk<=6->Fl (λ n p=>ba n p li) b l (oO f Uk b l)
 bl:∀ (Uk:Nat) (li:Int) b l (x:ac) (r5:ac×al),li=Uk->Uk<=5->x.fAt=r5.1.fAt->∀ (L:List ab) (base:Int),Gd (L.map (mvT base))->L.length<=1000000000->∀ (i:Nat) (Mp:Int) (q:PE⊕(ac×List ab)),Pos L base i Mp b l->pB f Uk b x l=some q ->
  Ev2 (λ n m=>bV n (ba n) li r5 m x.Ar x.fOp x.AI x.D' x.A'.Ar x.A'.F' x.A'.If x.A'.Df x.A'.C' x.BY L (i:Int) Mp base 0 0 []) (λ s=>∃ z,s=.inr z/\Out L base Mp b q z)
 u:∀ b l,Fl cY b l (unS f b l)
 pl:∀ b l (x:ac) (r1:ac×al),x.fAt=r1.1.fAt->∀ (L:List ab) (base:Int),Gd (L.map (mvT base))->L.length<=1000000000->∀ (i:Nat) (Mp:Int) (q:PE⊕(ac×List ab)),Pos L base i Mp b l->kF f b x l=some q ->
  Ev2 (λ n m=>bM n (aD n) r1 m x.Ar x.fOp x.AI x.D' x.A'.Ar x.A'.F' x.A'.If x.A'.Df x.A'.C' x.BY L (i:Int) Mp base 0 0 []) (λ s=>∃ z,s=.inr z/\Out L base Mp b q z)
 p:∀ b l,Fl cM b l (mr f b l)
 s:∀ b l,(hd b l).Ar=3->Fl fk b l (qO f b l)
 n:∀ b l,(hd b l).Ar=1->Fl gx b l (nY f b l)
 i:∀ (en:Bk) (l:List ab) (out:List ac),Gd l->out.length+l.length<=1000000000->∀ (L:List ab) (base:Int),Gd (L.map (mvT base))->L.length<=1000000000->∀ (i:Nat) (Mp:Int) (q:PE⊕(List ac×List ab)),Pos L base i Mp true l->iF f en l=some q ->
  Ev2 (λ n m=>cR n (aD n) en m out L (i:Int) Mp base 0 0 []) (N0 L base Mp en out q)
 t:∀ (l:List ab) (out:List ac),Gl l->out.length+2*l.length<=3000000000->∀ (L:List ab) (base:Int),Gd (L.map (mvT base))->L.length<=1000000000->∀ (i:Nat) (Mp:Int) (q:PE⊕(List ac×List ab)),Pos L base i Mp true l->pX f l=some q ->
  Ev2 (λ n m=>cg n (aD n) (dp n) m out L (i:Int) Mp base 0 0 []) (N0 L base Mp [125] out q)
 k:∀ l,Fl dp true l (nV f l)
 lo:∀ (a k:Int) l,wdB true l [102,111,114]=true->k=12\/k=13->FlC (λ n p=>ff n p a k) l (mq f a k (tl true l))
 tm:∀ (s:Bk) (a:Int) q,0<=a->a+(s.length:Int)<=1000000000->kj f s a=some q->Ev2 (λ n _=>iT n s a) (·=tU q)
 r:∀ (s:Bk) (a:Int) (i fr:Nat) (text:Bk) (parts:List ac) (UC:Bool) q,0<=a->a+(s.length:Int)<=1000000000->i<=s.length->fr<=i->text.length<=4096->parts.length<=2*i->eW f (a+(fr:Int)) (a+(i:Int)) text parts UC (s.drop i)=some q ->
  Ev2 (λ n m=>b9 n (aP n) m s a (i:Int) (fr:Int) text parts UC) (RdO s a q)
 w:∀ (s:Bk) (a:Int) q,0<=a->a+(s.length:Int)<=1000000000->gI f s a=some q->Ev2 (λ n _=>iK n s a) (QS q)
theorem p9 {α β γ:Type}{L:List ab}{base Mp:Int}{b:Bool}{x:PR α}{k:α->List ab->PR β}{q:PE⊕(β×List ab)}{f:Nat->Nat->Option (α×al)}{g:Nat->Nat->α×al->Option γ}{P:γ->Prop}(hq:pb x k=some q)
  (hc:∀ q',x=some q'->Ev2 f (Out L base Mp b q')) (h1:∀ e z (j:Nat) l',e.1≠0->Pos L base j Mp b l'->.inl e=q->Ev2 (λ n m=>g n m (z,.mk L (j:Int) Mp base (eD e))) P)
  (h2:∀ a l (j:Nat),x=some (.inr (a,l))->Pos L base j Mp b l->k a l=some q->Ev2 (λ n m=>g n m (a,.mk L (j:Int) Mp base dOk)) P):Ev2 (λ n m=>(f n m).bind (g n m)) P:=by
 rcases bg hq with ⟨e,hx,rfl⟩|⟨a,l,hx,hq⟩
 ·refine ah _ (hc _ hx) ?_;rintro ⟨z1,z2⟩ ⟨he,j,l',h3,h4⟩
  cases h3
  exact h1 e z1 j l' he h4 Z
 ·exact KV
theorem tM {β γ:Type}{L:List ab}{base Mp:Int}{b:Bool}{x:PR Unit}{k:Unit->List ab->PR β}{q:PE⊕(β×List ab)}{f:Nat->Nat->Option al}{g:Nat->Nat->al->Option γ}{P:γ->Prop}(hq:pb x k=some q)
  (hc:∀ q',x=some q'->Ev2 f (GG L base Mp b q')) (h1:∀ e (j:Nat) l',e.1≠0->Pos L base j Mp b l'->.inl e=q->Ev2 (λ n m=>g n m (.mk L (j:Int) Mp base (eD e))) P)
  (h2:∀ l (j:Nat),x=some (.inr ((),l))->Pos L base j Mp b l->(L.drop j).map (mvT base)=l->k () l=some q->Ev2 (λ n m=>g n m (.mk L (j:Int) Mp base dOk)) P):Ev2 (λ n m=>(f n m).bind (g n m)) P:=by
 rcases bg hq with ⟨e,hx,rfl⟩|⟨a,l,hx,hq⟩
 ·refine ah _ (hc _ hx) ?_;rintro _ ⟨he,j,l',rfl,h4⟩;exact h1 e j l' he h4 rfl
 ·refine ah _ (hc _ hx) ?_;rintro _ ⟨j,rfl,h3,h4⟩;exact h2 l j hx h3 h4 hq
theorem EE {p:Prop}(h:p:=by
 rintro e z1 j l' he h3 rfl
 repeat' first
  | exact aa ⟨he,j,l',Z,h3⟩
  | exact ae Z (aa ⟨he,j,l',Z,h3⟩)
  | (refine ah _ qT ?_; rintro _ ⟨j,l',rfl,h3⟩)
  | (refine ah _ xt ?_; rintro _ ⟨j,l',rfl,h3⟩)
  | (refine ah _ BD ?_; rintro _ ⟨j,l',rfl,h3⟩)
  | (refine ah _ ln ?_; rintro ⟨z1,z2⟩ ⟨j,l',h2,h3⟩; cases h2)
  | (refine ah _ (uI hL M' he h3) ?_; rintro ⟨z1,z2⟩ ⟨j,l',h2,h3⟩; cases h2)
  | (refine ah _ ta ?_; rintro _ ⟨j,rfl,h3⟩)
  | (refine ah _ (xD hL M' _ he h3) ?_; rintro _ ⟨j,rfl,h3⟩)):p:=h
theorem EX {p:Prop}(h:p:=by
 rintro e j l' he h3 rfl
 repeat' first
  | exact aa ⟨he,j,l',Z,h3⟩
  | exact ae Z (aa ⟨he,j,l',Z,h3⟩)
  | (refine ah _ qT ?_; rintro _ ⟨j,l',rfl,h3⟩)
  | (refine ah _ xt ?_; rintro _ ⟨j,l',rfl,h3⟩)
  | (refine ah _ BD ?_; rintro _ ⟨j,l',rfl,h3⟩)
  | (refine ah _ ln ?_; rintro ⟨z1,z2⟩ ⟨j,l',h2,h3⟩; cases h2)
  | (refine ah _ (uI hL M' he h3) ?_; rintro ⟨z1,z2⟩ ⟨j,l',h2,h3⟩; cases h2)
  | (refine ah _ ta ?_; rintro _ ⟨j,rfl,h3⟩)
  | (refine ah _ (xD hL M' _ he h3) ?_; rintro _ ⟨j,rfl,h3⟩)):p:=h
theorem T9 {f:Nat}(ih:Fol f):∀ b l,Fl aD b l (gj (f+1) b l):=by
 intro b l L base hL M' i Mp q h hq;rw [gj] at hq;refine aS ?_;simp only [aD];refine p9 hq (λ _ hx=>ih.b 0 0 b l rfl (by decide) L base hL M' i Mp _ h hx) ?_ ?_
 ·exact EE
 intro c l1 j hx h3 hq;refine bJ oa λ j h3=>?_;by_cases hs:sgB b l1 [63]=true
 ·rw [if_pos hs] at hq;refine af (by simp [hs]) ?_;refine bJ (eV hL M' h3 (sg6 hs)) λ j ⟨h3,h4,h5⟩=>?_;refine p9 hq (λ _ hx=>ih.e b _ L base hL M' j Mp _ h3 hx) ?_ ?_
  ·exact EE
  intro a l2 j hx h3 hq;refine tM hq (λ _ hx=>pr hL M' _ h3 hx) ?_ ?_
  ·exact EX
  intro l3 j hx h3 h4 hq;refine p9 hq (λ _ hx=>ih.e b _ L base hL M' j Mp _ h3 hx) ?_ ?_
  ·exact EE
  intro d l4 j hx h3 hq;exact kS
 ·rw [if_neg hs] at hq; cases hq;exact ae sb po
theorem TF {f:Nat}(ih:Fol f):∀ (Uk:Nat) (li:Int) b l,li=Uk->Uk<=6->Fl (λ n p=>ba n p li) b l (oO (f+1) Uk b l):=by
 intro Uk li b l ZB h6 L base hL M' i Mp q h hq;rw [oO] at hq;refine aS ?_;simp only [ba];by_cases hv:5<Uk
 ·rw [if_pos hv] at hq;refine ae O ?_;refine ah _ (ih.u b l L base hL M' i Mp _ h hq) ?_;exact jX
 ·rw [if_neg hv] at hq;refine af O (ag aC ?_);refine p9 hq (λ _ hx=>ih.b (Uk+1) (li+1) b l O O  L base hL M' i Mp _ h hx) ?_ ?_
  ·rintro e z1 j l' he h3 rfl;subst ZB;refine cj (aO GJ ?_);rintro _ ⟨z,rfl,j,l',hz1,hz2⟩;exact ⟨he,j,l',hz1,hz2⟩
  intro c l1 j hx h3 hq;refine cj (aO (aN (ih.bl Uk li b _ _ (_,.mk L (j:Int) Mp base dOk) ZB O rfl L base hL M' j Mp q h3 hq)) ?_);exact xI
theorem Qt {f:Nat}(ih:Fol f):∀ (Uk:Nat) (li:Int) b l (x:ac) (r5:ac×al),li=Uk->Uk<=5->x.fAt=r5.1.fAt->∀ (L:List ab) (base:Int),Gd (L.map (mvT base))->L.length<=1000000000->∀ (i:Nat) (Mp:Int) (q:PE⊕(ac×List ab)),Pos L base i Mp b l->pB (f+1) Uk b x l=some q ->
  Ev2 (λ n m=>bV n (ba n) li r5 m x.Ar x.fOp x.AI x.D' x.A'.Ar x.A'.F' x.A'.If x.A'.Df x.A'.C' x.BY L (i:Int) Mp base 0 0 []) (λ s=>∃ z,s=.inr z/\Out L base Mp b q z):=by
 intro Uk li b l x r5 ZB hl5 Ux L base hL M' i Mp q h hq;rw [pB] at hq;refine aw ?_;simp only [bV];subst ZB;refine ai _ (ax (zX hl5) rfl) ?_;have ha:=JR hL M' ((iQ Uk).map (·.1)) D9 h;rw [JI] at ha;have eta:ac.mk x.Ar x.fOp x.AI x.D' (am.mk x.A'.Ar x.A'.F' x.A'.If x.A'.Df x.A'.C') x.BY r5.1.fAt=x:=by rw [<- Ux]; exact Aj x
 rw [eta]
 cases hp:wc b l Uk with
 | none=>
  rw [hp] at ha hq
  cases hq
  refine ah _ ha ?_;rintro _ ⟨j,rfl,h3⟩;exact ae rfl (aa ⟨_,rfl,rfl,j,rfl,h3⟩)
 | some p=>
  rw [hp] at ha hq;obtain ⟨hm,hs⟩:=Ea hp;refine ah _ ha ?_;rintro _ ⟨j,rfl,h3⟩;refine af ld ?_;refine bJ (eV hL M' h3 (sg6 hs)) λ j ⟨h3,h4,h5⟩=>?_;refine ag aC ?_;have hq:pb (oO f (Uk+1) b (tl b l)) (λ y l=>pB f Uk b (ac.mk 7 p.2 [] [] v0 [x,y] x.fAt) l)=some q:=hq;refine p9 hq (λ _ hx=>ih.b (Uk+1) ((Uk:Int)+1) b _ O O  L base hL M' j Mp _ h3 hx) ?_ ?_
  ·rintro e z1 j l' he h3 rfl;refine ai _ (O4 hl5 hm) ?_;refine aO (wL hL M' he h3 hl5 r5 _ _ _ _ _ _ _ _ _ _) ?_;rintro _ ⟨z,rfl,j,l',hz1,hz2⟩;exact ⟨z,rfl,he,j,l',hz1,hz2⟩
  intro y l1 j hx h3 hq;refine ai _ (O4 hl5 hm) ?_;exact ih.bl Uk Uk b _ (ac.mk 7 p.2 [] [] v0 [x,_] x.fAt) r5 rfl hl5 Ux L base hL M' j Mp q h3 hq
theorem KX {f:Nat}(ih:Fol f):∀ b l,Fl dF b l (pb (mr f b l) λ e l=>kF f b e l):=by
 intro b l L base hL M' i Mp q h hq;refine aS ?_;simp only [dF];refine p9 hq (λ _ hx=>ih.p b l L base hL M' i Mp _ h hx) ?_ ?_
 ·rintro e z1 j l' he h3 rfl;refine cj (aO Hd ?_);rintro _ ⟨z,rfl,j,l',hz1,hz2⟩;exact ⟨he,j,l',hz1,hz2⟩
 intro c l1 j hx h3 hq;refine cj (aO (aN (ih.pl b _ _ (_,.mk L (j:Int) Mp base dOk) rfl L base hL M' j Mp q h3 hq)) ?_);exact xI
theorem TQ {f:Nat}(ih:Fol f):∀ b l,Fl cY b l (unS (f+1) b l):=by
 intro b l L base hL M' i Mp q h hq;rw [unS] at hq;refine aS ?_;simp only [cY];by_cases hs:sgB b l [33]=true
 ·rw [if_pos hs] at hq;refine ah (λ t=>∃ j:Nat,t=(1,L,(j:Int),Mp,base,0,0,[])/\Pos L base j Mp b l) ?_ ?_
  ·refine bJ qU λ j h3=>?_;exact ae hs qR
  ·rintro _ ⟨j,rfl,h3⟩;refine af (show ¬ (1:Int)=0 by decide) ?_;refine bJ (eV hL M' h3 (sg6 hs)) λ j ⟨h3,h4,h5⟩=>?_;refine p9 hq (λ _ hx=>ih.u b _ L base hL M' j Mp _ h3 hx) ?_ ?_
   ·exact EE
   intro c l1 j hx h3 hq;exact kS
 rw [if_neg hs] at hq;by_cases hs2:sgB b l [45]=true
 ·rw [if_pos hs2] at hq;refine ah (λ t=>∃ j:Nat,t=(2,L,(j:Int),Mp,base,0,0,[])/\Pos L base j Mp b l) ?_ ?_
  ·refine bJ qU λ j h3=>?_;refine af hs ?_;refine bJ oa λ j h3=>?_;exact ae hs2 qR
  ·rintro _ ⟨j,rfl,h3⟩;refine af (show ¬ (2:Int)=0 by decide) ?_;refine bJ (eV hL M' h3 (sg6 hs2)) λ j ⟨h3,h4,h5⟩=>?_;refine p9 hq (λ _ hx=>ih.u b _ L base hL M' j Mp _ h3 hx) ?_ ?_
   ·exact EE
   intro c l1 j hx h3 hq;exact kS
 rw [if_neg hs2] at hq;refine ah (λ t=>∃ j:Nat,t=(0,L,(j:Int),Mp,base,0,0,[])/\Pos L base j Mp b l) ?_ ?_
 ·refine bJ qU λ j h3=>?_;refine af hs ?_;refine bJ oa λ j h3=>?_;exact af hs2 qR
 ·rintro _ ⟨j,rfl,h3⟩;refine ae rfl ?_;refine ah _ (KX ih b l L base hL M' j Mp _ h3 hq) ?_;exact jX
theorem P3 {f:Nat}(ih:Fol f):∀ b l (x:ac) (r1:ac×al),x.fAt=r1.1.fAt->∀ (L:List ab) (base:Int),Gd (L.map (mvT base))->L.length<=1000000000->∀ (i:Nat) (Mp:Int) (q:PE⊕(ac×List ab)),Pos L base i Mp b l->kF (f+1) b x l=some q ->
  Ev2 (λ n m=>bM n (aD n) r1 m x.Ar x.fOp x.AI x.D' x.A'.Ar x.A'.F' x.A'.If x.A'.Df x.A'.C' x.BY L (i:Int) Mp base 0 0 []) (λ s=>∃ z,s=.inr z/\Out L base Mp b q z):=by
 intro b l x r1 Ux L base hL M' i Mp q h hq;have hn:=h.2.1;have hb:=h.2.2.2.1;rw [kF] at hq;refine aw ?_;simp only [bM];have eta:ac.mk x.Ar x.fOp x.AI x.D' (am.mk x.A'.Ar x.A'.F' x.A'.If x.A'.Df x.A'.C') x.BY r1.1.fAt=x:=by rw [<- Ux]; exact Aj x
 rw [eta];refine cj ?_;refine bJ qU λ j h3=>?_;by_cases hs:sgB b l [46]=true
 ·rw [if_pos hs] at hq;refine ae hs ?_;refine bJ (eV hL M' h3 (sg6 hs)) λ j ⟨h3,h4,h5⟩=>?_;refine bJ (gT hL M' h3) λ j ⟨h3,h4,h5⟩=>?_;by_cases hk:(hd b (tl b l)).Ar=1
  ·rw [if_pos hk] at hq;refine ae hk ?_;refine bJ (eV hL M' h3 O) λ j ⟨h3,h4,h5⟩=>?_;exact aa (ih.pl b _ (ac.mk 4 0 (hd b (tl b l)).By [] v0 [x] x.fAt) r1 Ux L base hL M' j Mp q h3 hq)
  ·rw [if_neg hk] at hq; cases hq;refine af hk (ai _ xE (aa ⟨_,rfl,(by decide:(2:Int)≠0),j,_,rfl,h3⟩))
 rw [if_neg hs] at hq;refine af hs ?_;refine bJ oa λ j h3=>?_;by_cases hs2:sgB b l [91]=true
 ·rw [if_pos hs2] at hq;refine ae hs2 ?_;refine ah _ (qw hL M' h3 (sg6 hs2)) ?_;rintro _ ⟨j,rfl,h3⟩;refine p9 hq (λ _ hx=>ih.e true _ L base hL M' j (Mp+1) _ h3 hx) ?_ ?_
  ·rintro e z1 j l' he h3 rfl;refine ah _ BD ?_;rintro _ ⟨j,l',rfl,h3⟩;exact K9
  intro y l1 j hx h3 hq;refine tM hq (λ _ hx=>mN hL M' _ hn hb h3 hx) ?_ ?_
  ·rintro e j l' he h3 rfl;exact K9
  intro l2 j hx h3 h4 hq;exact aa (ih.pl b _ (ac.mk 5 0 [] [] v0 [x,_] x.fAt) r1 Ux L base hL M' j Mp q h3 hq)
 ·rw [if_neg hs2] at hq; cases hq;exact af hs2 (aa ⟨_,rfl,rfl,j,rfl,h3⟩)
theorem Pos.gl {L:List ab}{base:Int}(hL:Gd (L.map (mvT base)))(M':L.length<=1000000000){i:Nat}{Mp:Int}{b:Bool}{l:List ab}(h:Pos L base i Mp b l)(hk:(hd b l).Ar≠6):Gl (tl b l):=by
 refine ⟨DX (h.gd hL) hk,?_⟩;have h1:=congrArg List.length (qJ (h.gd hL));have h2:=congrArg List.length h.2.2.2.2;have h3:=BO b ((L.drop i).map (mvT base));rw [th,n6] at h3;rw [aq] at h1;omega
theorem D3 {b:Bool}{s:Bk}{l:List ab}{e:PE}(h:eF b s l=some (.inl e)):e.1≠0:=by
 unfold eF at h;split at h
 ·cases h
 ·cases h; exact (show (2:Int)≠0 by decide)
def LP (L:List ab)(base Mp:Int)(en:Bk)(q:PE⊕(List ac×List ab))(r:List ac×al):Prop:=match q with
 | .inl e=>e.1≠0/\∃ (j:Nat) (l':List ab),(r.2=.mk L (j:Int) Mp base (eD e)/\Pos L base j Mp true l')\/(r.2=.mk L (j:Int) Mp base dOk/\Pos L base j Mp true l'/\eF true en l'=some (.inl e))
 | .inr (ks,l')=>∃ (j:Nat) (l'':List ab),r.1=ks/\r.2=.mk L (j:Int) Mp base dOk/\Pos L base j Mp true l''/\eF true en l''=some (.inr ((),l'))
theorem Ky {f:Nat}(ih:Fol f):∀ (en:Bk) (l:List ab),Gl l->∀ (L:List ab) (base:Int),Gd (L.map (mvT base))->L.length<=1000000000->∀ (i:Nat) (Mp:Int) (q:PE⊕(List ac×List ab)),Pos L base i Mp true l->iF f en l=some q ->
  Ev2 (λ n _=>gw n (.mk L (i:Int) Mp base dOk) en) (LP L base Mp en q):=by
 intro en l gl L base hL M' i Mp q h hq;refine aS ?_;simp only [gw];refine ah _ (aN (ih.i en l [] gl.1 Bl L base hL M' i Mp q h hq)) ?_;exact JH
theorem Ei {f:Nat}(ih:Fol f):∀ (l:List ab),Gl l->∀ (L:List ab) (base:Int),Gd (L.map (mvT base))->L.length<=1000000000->∀ (i:Nat) (Mp:Int) (q:PE⊕(List ac×List ab)),Pos L base i Mp true l->pX f l=some q ->
  Ev2 (λ n _=>fW n (.mk L (i:Int) Mp base dOk)) (LP L base Mp [125] q):=by
 intro l gl L base hL M' i Mp q h hq;refine aS ?_;simp only [fW];refine ah _ (aN (ih.t l [] gl Bl L base hL M' i Mp q h hq)) ?_;exact JH
theorem T8 {f:Nat}(ih:Fol f):∀ b l,Fl cM b l (mr (f+1) b l):=by
 intro b l L base hL M' i Mp q h hq;have hn:=h.2.1;have hb:=h.2.2.2.1;rw [mr] at hq;refine aS ?_;simp only [cM,aT,cl];refine af ld ?_;refine bJ (gT hL M' h) λ j ⟨h3,h4,h5⟩=>?_;have tk:=tw (h3.gd hL);have t1':=tk.1;have t2':=tk.2.1;by_cases k2:(hd b l).Ar=2
 ·rw [if_pos k2] at hq;refine ae k2 (ai _ (Ay _ (show (hd b l).By.length<=1000000000 by omega)) ?_);by_cases hz:(o9 (hd b l).By).2=0
  ·rw [if_pos hz] at hq; cases hq;refine ae hz ?_;exact Bf
  ·rw [if_neg hz] at hq; cases hq;exact af hz (ai _ xE (aa ⟨hz,j,l,rfl,h3⟩))
 rw [if_neg k2] at hq;refine af k2 ?_;by_cases k3:(hd b l).Ar=3
 ·rw [if_pos k3] at hq;refine ae k3 (ah _ (ih.s b l k3 L base hL M' j Mp q h3 hq) ?_);exact jX
 rw [if_neg k3] at hq;refine af k3 ?_;by_cases k1:(hd b l).Ar=1
 ·rw [if_pos k1] at hq;refine ae k1 (ah _ (ih.n b l k1 L base hL M' j Mp q h3 hq) ?_);exact jX
 rw [if_neg k1] at hq;refine af k1 ?_;by_cases k4:(hd b l).Ar=4
 ·have sg:∀ s,sgB b l s=true↔(hd b l).By=s:=λ s=>by rw [mF]; exact ⟨λ h=>h.2,λ h=>⟨k4,h⟩⟩
  refine ae k4 (ah (Out L base Mp b q) (aS ?_) (λ z hz=>aa hz));simp only [gS];refine bJ (gT hL M' h3) λ j ⟨h3,h4,h5⟩=>?_;by_cases s1:(hd b l).By=[40]
  ·rw [if_pos ((sg _).2 s1)] at hq;refine ae s1 ?_;refine ah _ (qw hL M' h3 O) ?_;rintro _ ⟨j,rfl,h3⟩;refine p9 hq (λ _ hx=>ih.e true _ L base hL M' j (Mp+1) _ h3 hx) ?_ ?_
   ·exact EE
   intro c l1 j hx h3 hq;refine tM hq (λ _ hx=>mN hL M' _ hn hb h3 hx) ?_ ?_
   ·exact EX
   intro l2 j hx h3 h4 hq;exact kS
  rw [if_neg (λ h=>s1 ((sg _).1 h))] at hq;refine af s1 ?_;by_cases s2:(hd b l).By=[91]
  ·rw [if_pos ((sg _).2 s2)] at hq;refine ae s2 ?_;have gl:=h3.gl hL M' (by omega:(hd b l).Ar≠6);refine ah _ (qw hL M' h3 O) ?_;rintro _ ⟨j,rfl,h3⟩;refine bJ (rn hL M' _ h3) λ j h3=>?_;by_cases hw:wdB true (tl b l) [102,111,114]=true
   ·rw [if_pos hw] at hq;refine ae hw (ah _ (ih.lo (hd b l).fAt 12 (tl b l) hw (by decide) L base hL M' j Mp b q hn hb h3 hq) ?_);exact jX
   ·rw [if_neg hw] at hq;refine af hw ?_;rcases bg hq with ⟨e,hx,rfl⟩|⟨ks,l1,hx,hq⟩
    ·refine ah _ xm ?_;rintro ⟨ys,z⟩ ⟨he,j,l',⟨hz,h3⟩|⟨hz,h3,hxx⟩⟩
     ·cases hz
      exact xz
     ·exact BX
    ·refine ah _ xm ?_;rintro ⟨ys,z⟩ ⟨j,l'',hy,hz,h3,hxx⟩
     cases hy; cases hz
     refine ah _ BI ?_;rintro _ ⟨j,rfl,h3,h4⟩;exact kS
  rw [if_neg (λ h=>s2 ((sg _).1 h))] at hq;refine af s2 ?_;by_cases s3:(hd b l).By=[123]
  ·rw [if_pos ((sg _).2 s3)] at hq;refine ae s3 ?_;have gl:=h3.gl hL M' (by omega:(hd b l).Ar≠6);refine ah _ (qw hL M' h3 O) ?_;rintro _ ⟨j,rfl,h3⟩;refine bJ (rn hL M' _ h3) λ j h3=>?_;by_cases hw:wdB true (tl b l) [102,111,114]=true
   ·rw [if_pos hw] at hq;refine ae hw (ah _ (ih.lo (hd b l).fAt 13 (tl b l) hw (by decide) L base hL M' j Mp b q hn hb h3 hq) ?_);exact jX
   ·rw [if_neg hw] at hq;refine af hw ?_;rcases bg hq with ⟨e,hx,rfl⟩|⟨ks,l1,hx,hq⟩
    ·refine ah _ (Ei ih _ gl L base hL M' j (Mp+1) _ h3 hx) ?_;rintro ⟨ys,z⟩ ⟨he,j,l',⟨hz,h3⟩|⟨hz,h3,hxx⟩⟩
     ·cases hz
      exact xz
     ·exact BX
    ·refine ah _ (Ei ih _ gl L base hL M' j (Mp+1) _ h3 hx) ?_;rintro ⟨ys,z⟩ ⟨j,l'',hy,hz,h3,hxx⟩
     cases hy; cases hz
     refine ah _ BI ?_;rintro _ ⟨j,rfl,h3,h4⟩;exact kS
  rw [if_neg (λ h=>s3 ((sg _).1 h))] at hq; cases hq;exact af s3 uM
 ·have sn:∀ s,¬ sgB b l s=true:=λ s h=>k4 (mF.1 h).1;rw [if_neg (sn _),if_neg (sn _),if_neg (sn _)] at hq; cases hq;exact af k4 uM
theorem Ti {f:Nat}(ih:Fol f):∀ b l,(hd b l).Ar=1->Fl gx b l (nY (f+1) b l):=by
 intro b l k1 L base hL M' i Mp q h hq;have hn:=h.2.1;have hb:=h.2.2.2.1;rw [nY] at hq;refine aS ?_;simp only [gx];refine bJ (gT hL M' h) λ j ⟨h3,h4,h5⟩=>?_;by_cases s1:(hd b l).By=[110,117,108,108]
 ·rw [if_pos s1] at hq; cases hq;refine ae s1 ?_;exact Bf
 rw [if_neg s1] at hq;refine af s1 ?_;by_cases s2:(hd b l).By=[116,114,117,101]
 ·rw [if_pos s2] at hq; cases hq;refine ai true xe (ae rfl ?_);refine bJ (eV hL M' h3 O) λ j ⟨h3,h4,h5⟩=>?_;exact ai 1 xe (ai _ pt po)
 rw [if_neg s2] at hq;by_cases s3:(hd b l).By=[102,97,108,115,101]
 ·rw [if_pos s3] at hq; cases hq;refine ai true (af s2 (aa (decide_eq_true s3))) (ae rfl ?_);refine bJ (eV hL M' h3 O) λ j ⟨h3,h4,h5⟩=>?_;exact ai 0 (af s2 (aa rfl)) (ai _ pt po)
 rw [if_neg s3] at hq;refine ai false (af s2 (aa (decide_eq_false s3))) (af ld (ai _ ve ?_));by_cases s4:lU (hd b l).By=true
 ·rw [if_pos s4] at hq; cases hq;exact ae s4 uM
 rw [if_neg s4] at hq;refine af s4 ?_;refine bJ (eV hL M' h3 O) λ j ⟨h3,h4,h5⟩=>?_;refine bJ oa λ j h3=>?_;by_cases s5:sgB b (tl b l) [40]=true
 ·rw [if_pos s5] at hq;refine af (by simp [s5]) ?_;have gl:=h3.gl hL M' (sg6 s5);refine ah _ (qw hL M' h3 (sg6 s5)) ?_;rintro _ ⟨j,rfl,h3⟩;rcases bg hq with ⟨e,hx,rfl⟩|⟨ks,l1,hx,hq⟩
  ·refine ah _ xm ?_;rintro ⟨ys,z⟩ ⟨he,j,l',⟨hz,h3⟩|⟨hz,h3,hxx⟩⟩
   ·cases hz
    exact xz
   ·exact BX
  ·refine ah _ xm ?_;rintro ⟨ys,z⟩ ⟨j,l'',hy,hz,h3,hxx⟩
   cases hy; cases hz
   refine ah _ BI ?_;rintro _ ⟨j,rfl,h3,h4⟩;exact kS
 ·rw [if_neg s5] at hq; cases hq;exact ae (by simpa using s5) po
theorem TL {f:Nat}(ih:Fol f):∀ (en:Bk) (l:List ab) (out:List ac),Gd l->out.length+l.length<=1000000000->∀ (L:List ab) (base:Int),Gd (L.map (mvT base))->L.length<=1000000000->∀ (i:Nat) (Mp:Int) (q:PE⊕(List ac×List ab)),Pos L base i Mp true l->iF (f+1) en l=some q ->
  Ev2 (λ n m=>cR n (aD n) en m out L (i:Int) Mp base 0 0 []) (N0 L base Mp en out q):=by
 intro en l out hg Ul L base hL M' i Mp q h hq;have gl:Gl l:=⟨hg,by omega⟩
 have gt:=gll (b:=true) gl;rw [iF] at hq;refine aw ?_;simp only [cR,aT,cl];refine ah (λ t=>∃ j:Nat,t=(!sgB true l en,L,(j:Int),Mp,base,0,0,[])/\Pos L base j Mp true l) ?_ ?_
 ·refine ae Z ?_;refine bJ qU λ j h3=>?_;exact lm
 rintro _ ⟨j,rfl,h3⟩;by_cases hs:sgB true l en=true
 ·exact H5
 rw [if_neg hs] at hq;refine ae sb ?_;refine p9 hq (λ _ hx=>ih.e true l L base hL M' j Mp _ h3 hx) ?_ ?_
 ·rintro e z1 j l' he h3 rfl;exact xZ
 intro x l1 j hx h3 hq;have f1:=(fct f).e true l gl _ hx;refine ag cy ?_;refine bJ oa λ j h3=>?_;by_cases hc:sgB true l1 [44]=true
 ·rw [if_pos hc] at hq;refine af (by simp [hc]) ?_;have b1:=f1.2.1.length_le;have b2:=gll (b:=true) f1.2.2;have g2:=glt f1.2.2 hc;refine bJ (eV hL M' h3 (sg6 hc)) λ j ⟨h3,h4,h5⟩=>?_;rcases bg hq with ⟨e,hy,rfl⟩|⟨ks,l2,hy,hq⟩
  ·exact aO (ih.i en _ (out++[_]) g2.1 mf L base hL M' j Mp _ h3 hy) (λ r hr=>hr)
  ·cases hq
   refine aO (ih.i en _ (out++[_]) g2.1 mf L base hL M' j Mp _ h3 hy) ?_;rintro r ⟨j,l'',rfl,h3,hn⟩;exact ⟨j,l'',by rw [List.append_assoc]; rfl,h3,hn⟩
 ·rw [if_neg hc] at hq;refine ae (by simpa using hc) ?_;rcases bg hq with ⟨e,hy,rfl⟩|⟨u,l2,hy,hq⟩
  ·exact aa ⟨D3 hy,j,l1,.inr ⟨Z,h3,hy⟩⟩
  ·cases hq
   exact aa ⟨j,l1,Z,h3,hy⟩
theorem Tp {f:Nat}(ih:Fol f):∀ (l:List ab) (out:List ac),Gl l->out.length+2*l.length<=3000000000->∀ (L:List ab) (base:Int),Gd (L.map (mvT base))->L.length<=1000000000->∀ (i:Nat) (Mp:Int) (q:PE⊕(List ac×List ab)),Pos L base i Mp true l->pX (f+1) l=some q ->
  Ev2 (λ n m=>cg n (aD n) (dp n) m out L (i:Int) Mp base 0 0 []) (N0 L base Mp [125] out q):=by
 intro l out gl Ul L base hL M' i Mp q h hq;have hgn:=qJ (h.gd hL);rw [pX] at hq;refine aw ?_;simp only [cg,aT,cl];refine ah (λ t=>∃ j:Nat,t=(!sgB true l [125],L,(j:Int),Mp,base,0,0,[])/\Pos L base j Mp true l) ?_ ?_
 ·refine ae Z ?_;refine bJ qU λ j h3=>?_;exact lm
 rintro _ ⟨j,rfl,h3⟩;by_cases hs:sgB true l [125]=true
 ·exact H5
 rw [if_neg hs] at hq;refine ae sb ?_;refine p9 hq (λ _ hx=>ih.k l L base hL M' j Mp _ h3 hx) ?_ ?_
 ·rintro e z1 j l' he h3 rfl;refine ag cy ?_;refine ah _ qT ?_;rintro _ ⟨j,l',rfl,h3⟩;refine ah _ ln ?_;rintro ⟨z1,z2⟩ ⟨j,l',h2,h3⟩
  cases h2
  exact xZ
 intro x l1 j hx h3 hq;refine ag cy ?_;refine tM hq (λ _ hy=>pr hL M' _ h3 hy) ?_ ?_
 ·rintro e j l' he h3 rfl;refine ah _ ln ?_;rintro ⟨z1,z2⟩ ⟨j,l',h2,h3⟩
  cases h2
  exact xZ
 intro l2 j hy h3 h4 hq;refine p9 hq (λ _ hv=>ih.e true l2 L base hL M' j Mp _ h3 hv) ?_ ?_
 ·rintro e z1 j l' he h3 rfl;exact xZ
 intro y l3 j hv h3 hq;refine ag cy ?_;refine bJ oa λ j h3=>?_;by_cases hc:sgB true l3 [44]=true
 ·rw [if_pos hc] at hq;refine af (by simp [hc]) ?_;have gt:=gll (b:=true) gl;have f1:=(fct f).k l gl _ hx;have f2:=dc (b:=true) (s:=[61]) f1.2.2 _ hy;have f3:=(fct f).e true l2 f2.2.2 _ hv;have b1:=f1.2.1.length_le;have b2:=(f2.2.1.trans (tlS true l1)).length_le;have b3:=(f3.2.1.trans (tlS true l2)).length_le;have b4:=gll (b:=true) f3.2.2;have g2:=glt f3.2.2 hc;refine bJ (eV hL M' h3 (sg6 hc)) λ j ⟨h3,h4,h5⟩=>?_;rcases bg hq with ⟨e,hr,rfl⟩|⟨ks,l4,hr,hq⟩
  ·exact aO (ih.t _ ((out++[_])++[_]) g2 mf L base hL M' j Mp _ h3 hr) (λ r hr=>hr)
  ·cases hq
   refine aO (ih.t _ ((out++[_])++[_]) g2 mf L base hL M' j Mp _ h3 hr) ?_;rintro r ⟨j,l'',rfl,h3,hn⟩;exact ⟨j,l'',by rw [List.append_assoc,List.append_assoc]; rfl,h3,hn⟩
 ·rw [if_neg hc] at hq;refine ae (by simpa using hc) ?_;rcases bg hq with ⟨e,hr,rfl⟩|⟨u,l4,hr,hq⟩
  ·exact aa ⟨D3 hr,j,l3,.inr ⟨Z,h3,hr⟩⟩
  ·cases hq
   exact aa ⟨j,l3,by rw [List.append_assoc]; rfl,h3,hr⟩
theorem Ub {f:Nat}(ih:Fol f):∀ l,Fl dp true l (nV (f+1) l):=by
 intro l L base hL M' i Mp q h hq;have hn:=h.2.1;have hb:=h.2.2.2.1;rw [nV] at hq;refine aS ?_;simp only [dp];refine bJ (gT hL M' h) λ j ⟨h3,h4,h5⟩=>?_;by_cases k1:(hd true l).Ar=1
 ·rw [if_pos k1] at hq; cases hq;refine ae k1 ?_;exact Bf
 rw [if_neg k1] at hq;refine af k1 ?_;by_cases k3:(hd true l).Ar=3
 ·rw [if_pos k3] at hq;refine ae k3 (ah _ (ih.s true l k3 L base hL M' j Mp q h3 hq) ?_);exact jX
 rw [if_neg k3] at hq;refine af k3 ?_;refine bJ oa λ j h3=>?_;by_cases s1:sgB true l [40]=true
 ·rw [if_pos s1] at hq;refine ae s1 ?_;refine ah _ (qw hL M' h3 (sg6 s1)) ?_;rintro _ ⟨j,rfl,h3⟩;refine p9 hq (λ _ hx=>ih.e true _ L base hL M' j (Mp+1) _ h3 hx) ?_ ?_
  ·exact EE
  intro c l1 j hx h3 hq;refine tM hq (λ _ hx=>mN hL M' _ hn hb h3 hx) ?_ ?_
  ·exact EX
  intro l2 j hx h3 h4 hq;exact kS
 ·rw [if_neg s1] at hq; cases hq;exact af s1 uM
theorem P0 {f:Nat}(ih:Fol f):∀ (a k:Int) l,wdB true l [102,111,114]=true->k=12\/k=13->FlC (λ n p=>ff n p a k) l (mq (f+1) a k (tl true l)):=by
 intro a k l hw hk L base hL M' i Mp b q hn hb h hq;rw [mq] at hq;refine aS ?_;simp only [ff];refine bJ (eV hL M' h (wd6 hw)) λ j ⟨h3,h4,h5⟩=>?_;refine p9 hq (λ _ hx=>pM hL M' h3 hx) ?_ ?_
 ·rintro e z1 j l' he h3 rfl;refine ah (λ t=>∃ (w1 w2:Bk) (j:Nat) (l':List ab),t=(w1,w2,L,(j:Int),Mp+1,base,e.1,e.2,[])/\Pos L base j (Mp+1) true l') ?_ ?_
  ·refine ah _ ta ?_;rintro _ ⟨j,rfl,h3⟩;exact af ld (aa ⟨_,_,j,_,rfl,h3⟩)
  rintro _ ⟨w1,w2,j,l',rfl,h3⟩;refine ah _ xt ?_;rintro _ ⟨j,l',rfl,h3⟩;refine ah _ ln ?_;rintro ⟨z1,z2⟩ ⟨j,l',h2,h3⟩
  cases h2
  refine ag cy ?_;refine ah _ qT ?_;rintro _ ⟨j,l',rfl,h3⟩;refine ah _ ln ?_;rintro ⟨z1,z2⟩ ⟨j,l',h2,h3⟩
  cases h2
  refine ag cy ?_;refine ah (λ t=>∃ (en:Bk) (ks:List ac) (j:Nat) (l':List ab),t=(en,ks,L,(j:Int),Mp+1,base,e.1,e.2,[])/\ks.length<=3/\Pos L base j (Mp+1) true l') ?_ ?_
  ·exact sZ
  rintro _ ⟨en,ks,j,l',rfl,hks,h3⟩;exact qN
 intro v l1 j hx h3 hq;rcases bg hq with ⟨e,hy,rfl⟩|⟨nk,l2,hy,hq⟩
 ·refine ah (λ t=>e.1≠0/\∃ (w1 w2:Bk) (j:Nat) (l':List ab),t=(w1,w2,L,(j:Int),Mp+1,base,e.1,e.2,[])/\Pos L base j (Mp+1) true l') ?_ ?_
  ·refine bJ oa λ j h3=>?_;by_cases hc:sgB true l1 [44]=true
   ·rw [if_pos hc] at hy;refine ae hc ?_;refine bJ (eV hL M' h3 (sg6 hc)) λ j ⟨h3,h4,h5⟩=>?_;rcases bg hy with ⟨e,hz,hee⟩|⟨v2,l3,hz,hee⟩
    ·cases hee
     refine ah _ (pM hL M' h3 hz) ?_;rintro ⟨z1,z2⟩ ⟨he,j,l',h2,h3⟩
     cases h2
     exact aa ⟨he,_,_,j,l',Z,h3⟩
    ·cases hee
   ·rw [if_neg hc] at hy; cases hy
  rintro _ ⟨he,w1,w2,j,l',rfl,h3⟩;refine ah _ xt ?_;rintro _ ⟨j,l',rfl,h3⟩;refine ah _ ln ?_;rintro ⟨z1,z2⟩ ⟨j,l',h2,h3⟩
  cases h2
  refine ag cy ?_;refine ah _ qT ?_;rintro _ ⟨j,l',rfl,h3⟩;refine ah _ ln ?_;rintro ⟨z1,z2⟩ ⟨j,l',h2,h3⟩
  cases h2
  refine ag cy ?_;refine ah (λ t=>∃ (en:Bk) (ks:List ac) (j:Nat) (l':List ab),t=(en,ks,L,(j:Int),Mp+1,base,e.1,e.2,[])/\ks.length<=3/\Pos L base j (Mp+1) true l') ?_ ?_
  ·exact sZ
  rintro _ ⟨en,ks,j,l',rfl,hks,h3⟩;exact qN
 ·refine ah (λ t=>∃ (j:Nat),t=(nk.1,nk.2,L,(j:Int),Mp+1,base,0,0,[])/\Pos L base j (Mp+1) true l2) ?_ ?_
  ·refine bJ oa λ j h3=>?_;by_cases hc:sgB true l1 [44]=true
   ·rw [if_pos hc] at hy;refine ae hc ?_;refine bJ (eV hL M' h3 (sg6 hc)) λ j ⟨h3,h4,h5⟩=>?_;rcases bg hy with ⟨e,hz,hee⟩|⟨v2,l3,hz,hee⟩
    ·cases hee
    ·refine bJ (pM hL M' h3 hz) λ j h3=>?_
     cases hee
     exact lm
   ·rw [if_neg hc] at hy; cases hy;exact af hc qR
  rintro _ ⟨j,rfl,h3⟩;refine tM hq (λ _ hx=>BR hL M' _ h3 hx) ?_ ?_
  ·rintro e j l' he h3 rfl;refine ah _ ln ?_;rintro ⟨z1,z2⟩ ⟨j,l',h2,h3⟩
   cases h2
   refine ag cy ?_;refine ah _ qT ?_;rintro _ ⟨j,l',rfl,h3⟩;refine ah _ ln ?_;rintro ⟨z1,z2⟩ ⟨j,l',h2,h3⟩
   cases h2
   refine ag cy ?_;refine ah (λ t=>∃ (en:Bk) (ks:List ac) (j:Nat) (l':List ab),t=(en,ks,L,(j:Int),Mp+1,base,e.1,e.2,[])/\ks.length<=3/\Pos L base j (Mp+1) true l') ?_ ?_
   ·exact sZ
   rintro _ ⟨en,ks,j,l',rfl,hks,h3⟩;exact qN
  intro l3 j hx h3 h4 hq;refine p9 hq (λ _ hx=>ih.e true l3 L base hL M' j (Mp+1) _ h3 hx) ?_ ?_
  ·rintro e z1 j l' he h3 rfl;refine ag cy ?_;refine ah _ qT ?_;rintro _ ⟨j,l',rfl,h3⟩;refine ah _ ln ?_;rintro ⟨z1,z2⟩ ⟨j,l',h2,h3⟩
   cases h2
   refine ag cy ?_;refine ah (λ t=>∃ (en:Bk) (ks:List ac) (j:Nat) (l':List ab),t=(en,ks,L,(j:Int),Mp+1,base,e.1,e.2,[])/\ks.length<=3/\Pos L base j (Mp+1) true l') ?_ ?_
   ·exact sZ
   rintro _ ⟨en,ks,j,l',rfl,hks,h3⟩;exact qN
  intro x l4 j hx h3 hq;refine ag cy ?_;refine tM hq (λ _ hx=>pr hL M' _ h3 hx) ?_ ?_
  ·rintro e j l' he h3 rfl;refine ah _ ln ?_;rintro ⟨z1,z2⟩ ⟨j,l',h2,h3⟩
   cases h2
   refine ag cy ?_;refine ah (λ t=>∃ (en:Bk) (ks:List ac) (j:Nat) (l':List ab),t=(en,ks,L,(j:Int),Mp+1,base,e.1,e.2,[])/\ks.length<=3/\Pos L base j (Mp+1) true l') ?_ ?_
   ·exact sZ
   rintro _ ⟨en,ks,j,l',rfl,hks,h3⟩;exact qN
  intro l5 j hx h3 h4 hq;refine p9 hq (λ _ hx=>ih.e true l5 L base hL M' j (Mp+1) _ h3 hx) ?_ ?_
  ·rintro e z1 j l' he h3 rfl;refine ag cy ?_;refine ah (λ t=>∃ (en:Bk) (ks:List ac) (j:Nat) (l':List ab),t=(en,ks,L,(j:Int),Mp+1,base,e.1,e.2,[])/\ks.length<=3/\Pos L base j (Mp+1) true l') ?_ ?_
   ·exact sZ
   rintro _ ⟨en,ks,j,l',rfl,hks,h3⟩;exact qN
  intro c l6 j hx h3 hq;refine ag cy ?_;rcases bg hq with ⟨e,hy,rfl⟩|⟨ks,l7,hy,hq⟩
  ·refine ah (λ t=>e.1≠0/\∃ (en:Bk) (ks:List ac) (j:Nat) (l':List ab),t=(en,ks,L,(j:Int),Mp+1,base,e.1,e.2,[])/\ks.length<=3/\Pos L base j (Mp+1) true l') ?_ ?_
   ·refine av (λ hk=>?_) (λ hk=>?_)
    ·rw [if_pos hk] at hy;rcases bg hy with ⟨e,hz,hee⟩|⟨u,l8,hz,hy⟩
     ·cases hee
      refine ah _ (pr hL M' _ h3 hz) ?_;rintro _ ⟨he,j,l',rfl,h3⟩;refine ah _ ln ?_;rintro ⟨z1,z2⟩ ⟨j,l',h2,h3⟩;exact Jq
     ·refine ah _ (pr hL M' _ h3 hz) ?_;rintro _ ⟨j,rfl,h3,h4⟩;rcases bg hy with ⟨e,hz,hee⟩|⟨d,l9,hz,hee⟩
      ·cases hee
       refine ah _ (ih.e true l8 L base hL M' j (Mp+1) _ h3 hz) ?_;rintro ⟨z1,z2⟩ ⟨he,j,l',h2,h3⟩;exact Jq
      ·cases hee
    ·rw [if_neg hk] at hy; cases hy
   rintro _ ⟨he,en,ks,j,l',rfl,hks,h3⟩;exact qN
  ·refine ah (λ t=>∃ (j:Nat),t=((if k=13 then [125] else [93]:Bk),ks,L,(j:Int),Mp+1,base,0,0,[])/\ks.length<=3/\Pos L base j (Mp+1) true l7) ?_ ?_
   ·refine av (λ hk=>?_) (λ hk=>?_)
    ·rw [if_pos hk] at hy;rcases bg hy with ⟨e,hz,hee⟩|⟨u,l8,hz,hy⟩
     ·cases hee
     ·refine ah _ (pr hL M' _ h3 hz) ?_;rintro _ ⟨j,rfl,h3,h4⟩;rcases bg hy with ⟨e,hz,hee⟩|⟨d,l9,hz,hee⟩
      ·cases hee
      ·refine bJ (ih.e true l8 L base hL M' j (Mp+1) _ h3 hz) λ j h3=>?_;refine ag cy ?_
       cases hee
       exact aa ⟨j,by rw [if_pos hk]; rfl,by simp,h3⟩
    ·rw [if_neg hk] at hy; cases hy;exact aa ⟨j,by rw [if_neg hk]; rfl,by simp,h3⟩
   rintro _ ⟨j,rfl,hks,h3⟩;rcases bg hq with ⟨e,hy,rfl⟩|⟨ks2,l8,hy,hq⟩
   ·refine ah (λ t=>e.1≠0/\∃ (ks:List ac) (j:Nat) (l':List ab),t=(ks,L,(j:Int),Mp+1,base,e.1,e.2,[])/\Pos L base j (Mp+1) true l') ?_ ?_
    ·refine bJ (rn hL M' _ h3) λ j h3=>?_;by_cases hc:wdB true l7 [105,102]=true
     ·rw [if_pos hc] at hy;refine ae hc ?_;refine bJ (eV hL M' h3 (wd6 hc)) λ j ⟨h3,h4,h5⟩=>?_;rcases bg hy with ⟨e,hz,hee⟩|⟨d,l9,hz,hee⟩
      ·cases hee
       refine ah _ (ih.e true _ L base hL M' j (Mp+1) _ h3 hz) ?_;rintro ⟨z1,z2⟩ ⟨he,j,l',h2,h3⟩
       cases h2
       refine ag cy ?_;exact aa ⟨he,_,j,l',Z,h3⟩
      ·cases hee
     ·rw [if_neg hc] at hy; cases hy
    rintro _ ⟨he,ks,j,l',rfl,h3⟩;exact xz
   ·refine ah (λ t=>∃ (j:Nat),t=(ks2,L,(j:Int),Mp+1,base,0,0,[])/\Pos L base j (Mp+1) true l8) ?_ ?_
    ·refine bJ (rn hL M' _ h3) λ j h3=>?_;by_cases hc:wdB true l7 [105,102]=true
     ·rw [if_pos hc] at hy;refine ae hc ?_;refine bJ (eV hL M' h3 (wd6 hc)) λ j ⟨h3,h4,h5⟩=>?_;rcases bg hy with ⟨e,hz,hee⟩|⟨d,l9,hz,hee⟩
      ·cases hee
      ·refine bJ (ih.e true _ L base hL M' j (Mp+1) _ h3 hz) λ j h3=>?_;refine ag cy ?_
       cases hee
       exact lm
     ·rw [if_neg hc] at hy; cases hy;exact af hc qR
    rintro _ ⟨j,rfl,h3⟩;refine tM hq (λ _ hx=>mN hL M' _ hn hb h3 hx) ?_ ?_
    ·exact EX
    intro l9 j hx h3 h4 hq;exact kS
theorem Tb {f:Nat}(ih:Fol f):∀ b l,(hd b l).Ar=3->Fl fk b l (qO (f+1) b l):=by
 intro b l k3 L base hL M' i Mp q h hq;rw [qO] at hq;refine aS ?_;simp only [fk];refine bJ (gT hL M' h) λ j ⟨h3,h4,h5⟩=>?_;have tk:=tw (h3.gd hL);have t1':=tk.1;have t2':=tk.2.2.1 k3;refine ag Jb ?_
 cases ht:kj f (hd b l).By ((hd b l).fAt+1) with
 | none=>rw [ht] at hq; cases hq
 | some y=>
  rw [ht] at hq;have hf:=(fct f).tm _ _ O O  y ht;refine ai _ (ih.tm (hd b l).By ((hd b l).fAt+1) y O O  ht) ?_;rcases y with e|e
  ·cases hq
   exact af hf (ai _ xE (aa ⟨hf,j,l,Z,h3⟩))
  ·cases hq
   refine ae Z ?_;refine bJ (eV hL M' h3 O) λ j ⟨h3,h4,h5⟩=>?_;exact aa ⟨Z,j,Z,h3⟩
theorem J5 (h:p:=by
 exact i2 (s.length-r'.length) _ y (by show (s.length:Int)-(r'.length:Int)-1+1=_; omega) O (by rw [hsd]; exact h)):p:=h
theorem xQ (h:p:=by
 have:=Fz hl
 exact af O (aa (.inl Z))):p:=h
theorem Jk (h:p:=by
 exact ae (by decide) (aa (by unfold vB; rw [if_neg (by decide)]; rfl))):p:=h
theorem yq (h:p:=by
 cases y with
 | none=>
  rintro r (rfl|rfl)
  ·exact aa Z
  ·rfl
 | some r'=>rintro r rfl; rfl):p:=h
theorem LQ (h:p:=by
 exact i1 d (i+1) (ci+1) di y O O O (by rw [g3]; omega) O (by rw [g3]; exact h)):p:=h
theorem L6 (h:p:=by
 have hlr:r.length=s.length-(i+1):=by rw [<- g3,n6]
 refine ae O (aa ?_);show Sum.inr ci=Sum.inr _
 congr 1; omega):p:=h
theorem Hv (h:p:=by
 exact i1 (d+1) (i+1) (ci+1) (di+1) y O O O (by rw [g3]; omega) O (by rw [g3]; exact h)):p:=h
theorem K3 (h:p:=by
 exact i1 (d-1) (i+1) (ci+1) (di-1) y O O O (by rw [g3]; omega) O (by rw [g3]; exact h)):p:=h
theorem CC (h:p:=by exact bv (by show _<=(s.length:Int)-(r'.length:Int)-1+1; omega) (by show (s.length:Int)-(r'.length:Int)-1+1<=_; omega)):p:=h
theorem Ke (h:p:=by exact ag (bv (by (try simp only []); omega) (by (try simp only []); omega)) (aa Z)):p:=h
theorem Bc (h:p:=by exact bv (by show _<=ci+1; omega) (by show ci+1<=_; omega)):p:=h
theorem CR (h:p:=by rw [List.length_take]; omega):p:=h
theorem vz (h:p:=by exact ax (ol _ _) hp):p:=h
theorem rL {s:Bk}{i:Nat}{b:UInt8}{r:Bk}(h:s.drop i=b::r):s.getD i 0=b/\i<s.length/\s.drop (i+1)=r:=by
 grind [List.drop_eq_nil_of_le,List.drop_eq_getElem_cons]
theorem Fz {s:Bk}{i:Nat}(h:s.drop i=[]):s.length<=i:=List.drop_eq_nil_iff.1 h
theorem px (s:Bk)(i k:Nat):s.drop (i+k)=(s.drop i).drop k:=by simp_all
theorem FH {s r:Bk}(h:r <:+ s):s.drop (s.length-r.length)=r:=(List.suffix_iff_eq_drop.1 h).symm
theorem ol (l p:Bk):strings_HasPrefix l p=some (hasPrefix l p):=rfl
def CO (s:Bk)(y:Option Bk)(r:Unit⊕Int):Prop:=match y with
 | none=>r=.inl ()\/r=.inr (-1)
 | some r'=>r=.inr ((s.length:Int)-(r'.length:Int)-1)
def LG (s:Bk):Option Bk->Int|none=>-1|some r'=>(s.length:Int)-(r'.length:Int)-1
theorem DG {s:Bk}{i:Int}{y:Option Bk}(h:Ev2 (λ n m=>dW (gk n) s m i 1) (CO s y)):Ev2 (λ n _=>dU n s i) (·=LG s y):=by
 refine aS ?_;simp only [dU];refine cj (aO (aN (f:=λ n m=>dW (gk n) s m i 1) h) ?_);exact yq
theorem Nl {s:Bk}{i:Int}{y:Option Bk}(h:Ev2 (λ n m=>eC (dU n) s m i) (CO s y)):Ev2 (λ n _=>gk n s i) (·=LG s y):=by
 refine aS ?_;simp only [gk];refine cj (aO (aN (f:=λ n m=>eC (dU n) s m i) h) ?_);exact yq
theorem IX {s:Bk}(hs:s.length<=1000000000):∀ (f:Nat),
  (∀ (d i:Nat) (ci di:Int) (y:Option Bk),ci=i->di=d->1<=d->d+(s.drop i).length<=2000000000->i<=1000000010->gu f d (s.drop i)=some y->Ev2 (λ n m=>dW (gk n) s m ci di) (CO s y)) /\
  (∀ (i:Nat) (ci:Int) (y:Option Bk),ci=i->i<=1000000010->iN f (s.drop i)=some y->Ev2 (λ n m=>eC (dU n) s m ci) (CO s y))
 | 0=>⟨λ d i ci di y _ _ _ _ _ h=>(by rw [gu] at h; cases h),λ i ci y _ _ h=>(by rw [iN] at h; cases h)⟩
 | f+1=>by
  obtain ⟨i1,i2⟩:=IX hs f;constructor
  ·intro d i ci di y hci hdi h1 hd hi h;refine aw ?_;simp only [dW]
   cases hl:s.drop i with
   | nil=>
    rw [hl,gu] at h; cases h;exact xQ
   | cons b r=>
    obtain ⟨g1,g2,g3⟩:=rL hl;have hb:byt s ci=(b.toNat:Int):=by rw [hci,cH,g1]
    rw [hl,gu] at h;rw [hl,aq] at hd;refine ae O (ag O ?_);rw [hb];refine cj ?_;by_cases h123:b.toNat=123
    ·rw [if_pos h123] at h;refine ae O (ag aC (aa (ag Bc ?_)));exact Hv
    rw [if_neg h123] at h;refine af O ?_;by_cases h125:b.toNat=125
    ·rw [if_pos h125] at h;refine ae O (ag aC ?_);by_cases hd1:d=1
     ·rw [if_pos hd1] at h; cases h;exact L6
     ·rw [if_neg hd1] at h;refine af O (aa (ag Bc ?_));exact K3
    rw [if_neg h125] at h;refine af O ?_;by_cases h34:b.toNat=34
    ·rw [if_pos h34] at h;refine ae O (ag aC ?_)
     cases hq:iN f r with
     | none=>rw [hq] at h; cases h
     | some z=>
      rw [hq] at h;refine ai _ (Nl (i2 (i+1) (ci+1) z O O  (by rw [g3]; exact hq))) ?_
      cases z with
      | none=>cases h; exact ae (show (-1:Int)<0 by decide) (aa (.inr rfl))
      | some r'=>
       have hsf:=(jf f).2 _ _ hq;have Sk:=hsf.1.length_le;have hrl:r.length=s.length-(i+1):=by rw [<- g3,n6]
       have hrs:r' <:+ s:=by rw [<- g3] at hsf; exact hsf.1.trans (List.drop_suffix _ _)
       have hsd:=FH hrs;refine af (by show ¬ (s.length:Int)-(r'.length:Int)-1<0; omega) (aa (ag CC ?_));exact i1 d (s.length-r'.length) _ di y (by show (s.length:Int)-(r'.length:Int)-1+1=_; omega) hdi h1 (by rw [hsd]; omega) O (by rw [hsd]; exact h)
    ·rw [if_neg h34] at h;refine af O (aa (ag Bc ?_));exact LQ
  ·intro i ci y hci hi h;refine aw ?_;simp only [eC]
   cases hl:s.drop i with
   | nil=>
    rw [hl,iN] at h; cases h;exact xQ
   | cons b r=>
    obtain ⟨g1,g2,g3⟩:=rL hl;have hb:byt s ci=(b.toNat:Int):=by rw [hci,cH,g1]
    have hsub:sub s ci (s.length:Int)=b::r:=by rw [km,hci,Int.toNat_natCast,hl]
    rw [hl,iN] at h;refine ae O ?_;rw [hb,hsub];refine cj (ag O ?_);by_cases h34:b.toNat=34
    ·rw [if_pos h34] at h; cases h;exact L6
    rw [if_neg h34] at h;refine af O (ag O ?_);by_cases h92:b.toNat=92
    ·rw [if_pos h92] at h;refine ae O (ag aC (aa (ag aC ?_)));exact i2 (i+1+1) (ci+1+1) y O O  (by rw [px s (i+1) 1,g3]; exact h)
    rw [if_neg h92] at h;refine af O (ag O (ai _ (ax (ol _ _) rfl) ?_));by_cases hp3:hasPrefix (b::r) [36,36,123]=true
    ·rw [if_pos hp3] at h;refine ae hp3 (ag aC (aa (ag aC ?_)));exact i2 (i+3) (ci+2+1) y O O  (by rw [px s i 3,hl]; exact h)
    rw [if_neg hp3] at h;refine af hp3 (ag O (ai _ (ax (ol _ _) rfl) ?_));by_cases hp2:hasPrefix (b::r) [36,123]=true
    ·rw [if_pos hp2] at h;refine ae hp2 (ag aC ?_)
     cases hq:gu f 1 ((b::r).drop 2) with
     | none=>rw [hq] at h; cases h
     | some z=>
      rw [hq] at h;have e2:s.drop (i+2)=(b::r).drop 2:=by rw [px s i 2,hl]
      refine ai _ (DG (i1 1 (i+2) (ci+2) 1 z O rfl (by decide) ja O (by rw [e2]; exact hq))) ?_
      cases z with
      | none=>cases h; exact ae (show (-1:Int)<0 by decide) (aa (.inr rfl))
      | some r'=>
       have hsf:=(jf f).1 _ _ _ hq;have Sk:=hsf.1.length_le;have hrl:((b::r).drop 2).length=s.length-(i+2):=by rw [<- e2,n6]
       have hrs:r' <:+ s:=by rw [<- e2] at hsf; exact hsf.1.trans (List.drop_suffix _ _)
       have hsd:=FH hrs;refine af (by show ¬ (s.length:Int)-(r'.length:Int)-1<0; omega) (aa (ag CC ?_));exact J5
    ·rw [if_neg hp2] at h;refine af hp2 (aa (ag aC ?_));exact i2 (i+1) (ci+1) y O O  (by rw [g3]; exact h)
theorem tz:∀ (k:Nat) (l:Bk) (a:Nat) (x:Bk),(bS k l a).2<l.length->bS k (l.take ((bS k l a).2+1)++x) a=bS k l a
 | 0,l,a,x,_=>by rw [bS,bS]
 | k+1,[],a,x,h=>by simp at h
 | k+1,b::r,a,x,h=>by
  have e:bS (k+1) (b::r) a=match pN b with
   | some d=>((bS k r (16*a+d)).1,(bS k r (16*a+d)).2+1)
   | none=>(a,0):=by rw [bS]; cases pN b <;> rfl
  cases hd:pN b with
  | none=>
   rw [hd] at e;rw [e];show bS (k+1) (b::x) a=_;rw [bS,hd]
  | some d=>
   rw [hd] at e;simp only at e;rw [e] at h ⊢;have ih:=tz k r (16*a+d) x (by simp only [aq] at h; omega);show bS (k+1) (b::(r.take ((bS k r (16*a+d)).2+1)++x)) a=_;rw [bS,hd];simp only [ih]
theorem DT (b:UInt8):strings_IndexByte ([48,49,50,51,52,53,54,55,56,57,97,98,99,100,101,102]:Bk) (b.toNat:Int)=some (indexByte F9 b)/\decide (0<=indexByte F9 b)=(pN b).isSome:=by
 constructor
 ·exact Lo
 ·rw [wv]
  cases pN b with
  | none=>rfl
  | some d=>simp
theorem Nc (s:Bk)(_hs:s.length<=1000000000):∀ (k i a:Nat),i+k=6->i<=s.length->Ev2 (λ _ m=>ca s m (i:Int)) (·=((i+(bS k (s.drop i) a).2:Nat):Int)):=by
 intro k
 induction k with
 | zero=>
  intro i a hi hl;refine aw ?_;simp only [ca];refine ai false (av (λ _=>af O (aa rfl)) (λ _=>aa rfl)) (af ld (aa ?_));rw [bS]; rfl
 | succ k ih=>
  intro i a hi hl;refine aw ?_;simp only [ca]
  cases hd:s.drop i with
  | nil=>
   have:=Fz hd;refine ai false pf (af ld (aa ?_));rw [bS]; rfl
  | cons b r=>
   obtain ⟨g1,g2,g3⟩:=rL hd;have hb:byt s (i:Int)=(b.toNat:Int):=by rw [cH,g1]
   refine ai (pN b).isSome ?_ ?_
   ·refine ae O (ae O (ag O ?_));rw [hb];exact ai _ (ax (DT b).1 Z) (aa (DT b).2)
   ·rw [bS]
    cases hx:pN b with
    | none=>exact af ld (aa Z)
    | some d=>
     refine ae rfl (ag aC ?_);have:=nF (P:=λ j=>Ev2 (λ _ m=>ca s m j) _) (ih (i+1) (16*a+d) O O);refine aO this ?_;rintro _ rfl;rw [g3]; congr 1; simp only []; omega
theorem Nr (s:Bk)(hs:s.length<=1000000000):Ev2 (λ n _=>ir n s) (·=((bS 6 s 0).2:Int)):=by
 simp only [ir];refine ai _ (aN (f:=λ _ m=>ca s m 0) (Nc s hs 6 0 0 rfl (rg _))) (aa ?_);rw [List.drop_zero,Nat.zero_add]
theorem C8 (b:UInt8)(r:Bk)(h:b.toNat<128):decodeL (b::r)=(b.toNat,1):=by
 have e:=wH b h;have h2:=xX (b.toNat:Int) (by unfold gz; omega) r;rw [e] at h2;simpa using h2
theorem Pd (r:Bk):(decodeL (92::r)).1=92:=by
 have:=C8 (92:UInt8) r (by decide);rw [this]; rfl
theorem ML (x:Bk):((da (x++[34])).2.2=0->(da (x++[34])).2.1=(x.length:Int)->(JY (34::92::(x++[34]))).1=encodeRune (da (x++[34])).1/\(JY (34::92::(x++[34]))).2.2=0)/\((da (x++[34])).2.2≠0->(JY (34::92::(x++[34]))).2.2≠0):=by
 have h34:(34:UInt8).toNat=34:=rfl;rw [wD,if_pos h34,qh,if_neg (show ¬ (92:UInt8).toNat=34 by decide),if_pos (Pd _)];constructor
 ·intro h0 h1;rw [if_pos h0,h1,Int.toNat_natCast,List.drop_left];have hn:(92::(x++[34])).length=(x.length+1)+1:=by simp
  rw [hn,qh,if_pos h34];have hr:=(o4 (x++[34])).2.2.1 h0;have hle:=mw _ hr.1;simp only [List.nil_append];rw [if_neg O,if_neg O];exact ⟨rfl,rfl⟩
 ·intro h0;rw [if_neg h0];exact h0
theorem M6 {c:UInt8}(h:c.toNat≠117)(t t':Bk):da (c::t)=da (c::t')/\((da (c::t)).2.2=0->(da (c::t)).2.1=1)/\((da (c::t)).2.2≠0->(da (c::t)).2.2=2):=by
 have e:∀ t:Bk,da (c::t)=if c.toNat=110 then (10,1,0) else if c.toNat=114 then (13,1,0) else if c.toNat=116 then (9,1,0) else if c.toNat=34\/c.toNat=92 then ((c.toNat:Int),1,0) else (0,0,2):=λ t=>by
  rw [qg];simp only [if_neg h]
 rw [e t,e t'];refine ⟨rfl,?_⟩;by_cases h1:c.toNat=110
 ·rw [if_pos h1]; simp
 rw [if_neg h1];by_cases h2:c.toNat=114
 ·rw [if_pos h2]; simp
 rw [if_neg h2];by_cases h3:c.toNat=116
 ·rw [if_pos h3]; simp
 rw [if_neg h3];by_cases h4:c.toNat=34\/c.toNat=92
 ·rw [if_pos h4]; simp
 rw [if_neg h4]; simp
theorem Dw (d:UInt8)(u:Bk):da (117::d::u)=if d.toNat=123 then ((fT u).1,(fT u).2.1+2,(fT u).2.2) else (0,0,2):=by
 rw [qg]; rfl
theorem E8 (u:Bk)(h:(bS 6 u 0).2<u.length):fT (u.take ((bS 6 u 0).2+1)++[34])=fT u/\((fT u).2.2=0->(fT u).2.1=(((bS 6 u 0).2+1:Nat):Int))/\((fT u).2.2≠0->(fT u).2.2=2):=by
 have e:=tz 6 u 0 [34] h;unfold fT;rw [e];generalize bS 6 u 0=H at h ⊢;obtain ⟨v,c⟩:=H;simp only at h ⊢
 have l1:¬ c=(u.take (c+1)++[34]).length:=by
  rw [n7,List.length_take,List.length_singleton]; omega
 have g1:∀ k,k<=c->(u.take (c+1)++[34]).getD k 0=u.getD k 0:=by
  intro k hk;rw [List.getD_eq_getElem?_getD,List.getD_eq_getElem?_getD,List.getElem?_append_left CR,List.getElem?_take_of_lt O]
 rw [if_neg l1,if_neg (show ¬ c=u.length by omega),g1 c (bx _),g1 0 (rg _)];refine ⟨rfl,?_⟩;split
 ·simp
 ·simp
def vB (r:Bk):Bk×Int×Int:=if (da r).2.2=0 then (encodeRune (da r).1,(da r).2.1+1,0) else ([],0,(da r).2.2)
theorem DD {s x:Bk}{k:Int}(_hs:s.length<=1000000000)(hxs:x.length<=100)(hk:k=((x.length+1:Nat):Int))(hx:s.take (x.length+1)=92::x){q:Bk×Int×Int}(h0:(da (x++[34])).2.2=0->(da (x++[34])).2.1=(x.length:Int)/\q=(encodeRune (da (x++[34])).1,k,0))(h1:(da (x++[34])).2.2≠0->q=([],0,2)) :
  Ev2 (λ n _=>if (s.length:Int)<k then some (([]:Bk),(0:Int),(40:Int)) else
   ck ((0:Int)<=0/\0<=k/\k<=(s.length:Int)) <|
   ck (([34]:Bk).length+(sub s 0 k).length<=9223372036854775807) <|
   ck ((([34]:Bk)++(sub s 0 k)).length+([34]:Bk).length<=9223372036854775807) <|
   (ii n ((([34]:Bk)++(sub s 0 k))++([34]:Bk))).bind λ Vx=>
   if Vx.2.2=0 then some (Vx.1,k,0) else some (([]:Bk),0,2)) (·=q):=by
 have hl:(92::x).length=x.length+1:=rfl
 have hxl:x.length+1<=s.length:=by
  have:=congrArg List.length hx;rw [List.length_take,hl] at this; omega
 have hsub:sub s 0 k=92::x:=by
  subst hk;show (s.take _).drop 0=_;rw [List.drop_zero,Int.toNat_natCast,hx]
 rw [hsub];refine af O (ag O (ag nH (ag mf ?_)));have Ul:((([34]:Bk)++(92::x))++([34]:Bk)).length<=1000000000:=by simp only [n7,aq,mv]; omega
 refine ai _ (PS _ Ul) ?_;have e:(([34]:Bk)++(92::x))++([34]:Bk)=34::92::(x++[34]):=rfl;rw [e];obtain ⟨u1,u2⟩:=ML x;by_cases hz:(da (x++[34])).2.2=0
 ·obtain ⟨z1,z2⟩:=h0 hz;obtain ⟨w1,w2⟩:=u1 hz z1;exact ae w2 (aa (by rw [w1,z2]))
 ·exact af (u2 hz) (aa (h1 hz).symm)
theorem OQ {r:Bk}(hs:(92::r:Bk).length<=1000000000):Ev2 (λ n _=>lE n (92::r)) (·=vB r):=by
 simp only [lE];have hl0:(92::r:Bk).length=r.length+1:=rfl
 cases r with
 | nil=>
  refine ek 2 (ai false (ax (ol _ _) (by decide)) sF) ?_;exact Jk
 | cons c t=>
  by_cases hc:c.toNat=117
  ·have hc':c=117:=(pP (by decide)).1 hc;subst hc';have hp:hasPrefix (92::117::t) [92,117]=true:=by simp [hasPrefix]
   cases t with
   | nil=>
    refine ek 4 (ai true vz (ae Z (ai false vF (af ld vF)))) ?_;exact Jk
   | cons d u=>
    have hl:(92::117::d::u:Bk).length=u.length+3:=rfl;have hb:byt (92::117::d::u) 2=(d.toNat:Int):=rfl;have e:=Dw d u;by_cases hd:d.toNat=123
    ·rw [if_pos hd] at e;have hd':d=123:=(pP (by decide)).1 hd
     have h6:Ev2 (λ _ _=>(if (2:Int)<((92::117::d::u:Bk).length:Int) then ck ((0:Int)<=2/\(2:Int)<((92::117::d::u:Bk).length:Int))<|some (!decide (byt (92::117::d::u) 2=123)) else some false:Option Bool)) (·=false):=by
      refine ae O (ag O (aa ?_));rw [hb,hd]; rfl
     cases u with
     | nil=>
      refine ek 4 (ai true vz (ae Z (ai false h6 (af ld pk)))) ?_;refine ae G (aa ?_);have hx:(fT []).2.2=40:=by decide
      unfold vB;rw [e];show _=if (fT []).2.2=0 then _ else ([],0,(fT []).2.2);rw [hx]; rfl
     | cons v w=>
      have hlv:(v::w).length=w.length+1:=rfl;have hsub:sub (92::117::d::v::w) 3 ((92::117::d::v::w:Bk).length:Int)=v::w:=by rw [km]; rfl
      have hrun:=oz 6 (v::w) 0;refine ek (4+((bS 6 (v::w) 0).2:Int)) (ai true vz (ae Z (ai false h6 (af ld (ae O (ag O ?_)))))) ?_
      ·rw [hsub];exact ai _ (Nr _ O) qV
      by_cases hc:(bS 6 (v::w) 0).2=(v::w).length
      ·refine ae O (aa ?_);have hx:(fT (v::w)).2.2=40:=by unfold fT; simp only [hc,if_true]
       unfold vB;rw [e];show _=if (fT (v::w)).2.2=0 then _ else ([],0,(fT (v::w)).2.2);rw [hx]; rfl
      ·obtain ⟨x1,x2,x3⟩:=E8 (v::w) O;have hlt:((v::w).take ((bS 6 (v::w) 0).2+1)).length=(bS 6 (v::w) 0).2+1:=by rw [List.length_take]; omega
       have ex:da ((117::d::(v::w).take ((bS 6 (v::w) 0).2+1))++[34])=da (117::d::v::w):=by
        show da (117::d::((v::w).take ((bS 6 (v::w) 0).2+1)++[34]))=_;rw [Dw,if_pos hd,x1,e]
       refine DD (x:=117::d::(v::w).take ((bS 6 (v::w) 0).2+1)) hs (by simp only [aq,hlt]; omega) (by simp only [aq,hlt]; omega) ?_ ?_ ?_
       ·simp only [aq,hlt]; rfl
       ·rw [ex];intro hz;have hz':(fT (v::w)).2.2=0:=by rw [e] at hz; exact hz
        refine ⟨?_,?_⟩
        ·rw [e]; show (fT (v::w)).2.1+2=_; rw [x2 hz']; simp only [aq,hlt]; omega
        ·unfold vB; rw [if_pos hz];refine Prod.ext Z (Prod.ext ?_ Z);rw [e]; show (fT (v::w)).2.1+2+1=4+((bS 6 (v::w) 0).2:Int); rw [x2 hz']; omega
       ·rw [ex];intro hz;have hz':(fT (v::w)).2.2≠0:=by rw [e] at hz; exact hz
        unfold vB; rw [if_neg hz];rw [e]; show ([],0,(fT (v::w)).2.2)=_; rw [x3 hz']
    ·rw [if_neg hd] at e;refine iV ([],0,2) (ai true vz (ae rfl (ai true (ae O (ag O (aa ?_))) od))) ?_
     ·rw [hb]; simp; omega
     ·unfold vB; rw [e]; rfl
  ·have hp:hasPrefix (92::c::t) [92,117]=false:=by
    have:¬ c=117:=λ h=>hc (by rw [h]; rfl);unfold hasPrefix;simp only [List.isPrefixOf,beq_self_eq_true,Bool.true_and];rw [beq_eq_false_iff_ne.2 (λ h=>this h.symm)]; rfl
   obtain ⟨o1,o2,o3⟩:=M6 hc t [34];refine ek 2 (ai false vz sF) ?_;refine DD (x:=[c]) hs G rfl rfl ?_ ?_
   ·intro hz;have hz:(da (c::[34])).2.2=0:=hz;rw [<- o1] at hz;refine ⟨?_,?_⟩
    ·show (da (c::[34])).2.1=_; rw [<- o1,o2 hz]; rfl
    ·unfold vB; rw [if_pos hz,o2 hz];show _=(encodeRune (da (c::[34])).1,_,_);rw [<- o1]; rfl
   ·intro hz;have hz:(da (c::[34])).2.2≠0:=hz;rw [<- o1] at hz;unfold vB; rw [if_neg hz,o3 hz]
theorem KY (s:Bk)(a i fr:Int)(text:Bk)(parts:List ac)(UC:Bool)(h:inR (a+fr)):dZ (.mk s a i fr text parts UC)=some (if 4096<text.length then ao.mk 3 (a+fr) [] else dOk,.mk s a i fr text parts UC):=by
 unfold dZ;by_cases hl:4096<text.length
 ·rw [if_pos (by show (4096:Int)<(text.length:Int); omega),if_pos hl];exact cn h
 ·rw [if_neg (by show ¬ (4096:Int)<(text.length:Int); omega),if_neg hl]; rfl
def ItO (s:Bk)(a i fr:Int)(text:Bk)(parts:List ac)(UC:Bool)(q:Int⊕(Bk×Nat))(r:ao×ar):Prop:=match q with
 | .inl k=>r.1=ao.mk k (a+i) []
 | .inr (t,n)=>if 4096<text.length+t.length then r.1=ao.mk 3 (a+fr) [] else r=(dOk,.mk s a (i+n) fr (text++t) parts UC)
theorem Qa {s:Bk}(hs:s.length<=1000000000){a fr:Int}{i:Nat}(ha:0<=a)(ha2:a<=1000000000)(hf:0<=fr)(hf2:fr<=1000000000)(text:Bk)(ht:text.length<=4096)(parts:List ac)(UC:Bool){b:UInt8}{r:Bk}(hl:s.drop i=b::r) :
  Ev2 (λ n _=>gC n (.mk s a (i:Int) fr text parts UC)) (ItO s a i fr text parts UC (iY (b::r))):=by
 obtain ⟨g1,g2,g3⟩:=rL hl;have hsub:sub s (i:Int) (s.length:Int)=b::r:=by rw [km,Int.toNat_natCast,hl]
 have M':(b::r).length=s.length-i:=by rw [<- hl,n6]
 have hb0:byt (b::r) 0=(b.toNat:Int):=rfl;have hlc:(b::r).length=r.length+1:=rfl
 have fin:∀ (t:Bk) (n:Nat),iY (b::r)=.inr (t,n)->n<=1000000000->t.length<=1000000000->Ev2 (λ _ _=>(dZ (ar.mk s a ((i:Int)+(n:Int)) fr (text++t) parts UC)).bind λ Ve=>some (Ve.1,(ar.mk Ve.2.fs Ve.2.fat Ve.2.fi Ve.2.E' Ve.2.Gw Ve.2.B' Ve.2.IN))) (ItO s a i fr text parts UC (iY (b::r))):=by
  intro t n hi _ _;refine ai _ (ax (KY s a _ fr _ parts UC aC) rfl) (aa ?_);rw [hi];unfold ItO;simp only [n7];by_cases hl:4096<text.length+t.length
  ·rw [if_pos hl,if_pos hl]
  ·rw [if_neg hl,if_neg hl]
 simp only [gC];rw [hsub];refine ag O ?_;by_cases h92:b.toNat=92
 ·have hb':b=92:=(pP (by decide)).1 h92;have hle:=o4 r;have hi:iY (b::r)=if (da r).2.2=0 then .inr (encodeRune (da r).1,(da r).2.1.toNat+1) else .inl (da r).2.2:=by rw [iY,if_pos h92]
  subst hb';by_cases hz:(da r).2.2=0
  ·rw [if_pos hz] at hi;obtain ⟨e1,e2⟩:=hle.2.2.1 hz;have hel:=mw _ e1;refine ek ((i:Int)+(((da r).2.1.toNat+1:Nat):Int),text++encodeRune (da r).1) (ag O (ae (by rw [hb0]; rfl) (ai _ (OQ O) ?_))) (fin _ _ hi O O);unfold vB; rw [if_pos hz];refine ae rfl (ag Ri (ag B9 (aa ?_)));simp only [];congr 2; omega
  ·rw [if_neg hz] at hi;refine iV (ao.mk (da r).2.2 (a+(i:Int)) [],ar.mk s a (i:Int) fr text parts UC) (ag O (ae (by rw [hb0]; rfl) (ai _ (OQ O) ?_))) ?_
   ·unfold vB; rw [if_neg hz];exact af hz Ke
   ·rw [hi]; rfl
 ·have hd:bn (b::r)=some (((decodeL (b::r)).1:Int),((decodeL (b::r)).2:Int)):=by
   exact BU
  have hdf:=gO (b::r) G
  have hq:(decodeL (b::r)).1=34↔b.toNat=34:=by
   by_cases h128:b.toNat<128
   ·rw [C8 b r h128]
   ·have:=BJ b r O; omega
  have hi:iY (b::r)=if jD (decodeL (b::r))\/b.toNat=34 then .inl 2 else .inr ((b::r).take (decodeL (b::r)).2,(decodeL (b::r)).2):=by rw [iY,if_neg h92]
  have hsb:∀ w:Nat,sub (b::r) 0 (w:Int)=(b::r).take w:=λ w=>by show ((b::r).take _).drop 0=_; rw [List.drop_zero,Int.toNat_natCast]
  generalize decodeL (b::r)=D at hd hdf hq hi;obtain ⟨c,w⟩:=D;simp only at hd hdf hq
  have hbad:Ev2 (λ _ _=>(if (c:Int)=65533 then if (w:Int)=1 then some true else if (c:Int)<32 then some true else if (c:Int)=127 then some true else some (decide ((c:Int)=34)) else if (c:Int)<32 then some true else if (c:Int)=127 then some true else some (decide ((c:Int)=34)):Option Bool)) (·=decide (jD (c,w)\/b.toNat=34)):=by
   have mk:∀ x:Bool,(x=true↔(((c=65533/\w=1)\/c<32\/c=127)\/c=34))->x=decide (jD (c,w)\/b.toNat=34):=by
    intro x hx;refine eqB ?_;rw [hx,decide_eq_true_eq,<- hq]
    rfl
   refine av (λ h1=>av (λ h2=>aa (mk _ ?_)) (λ h2=>av (λ h3=>aa (mk _ ?_)) (λ h3=>av (λ h4=>aa (mk _ ?_)) (λ h4=>aa (mk _ ?_))))) (λ h1=>av (λ h3=>aa (mk _ ?_)) (λ h3=>av (λ h4=>aa (mk _ ?_)) (λ h4=>aa (mk _ ?_))))
   all_goals (try rw [decide_eq_true_eq])
   all_goals (try simp only [true_iff])
   all_goals omega
  by_cases hx:jD (c,w)\/b.toNat=34
  ·rw [if_pos hx] at hi;refine iV (ao.mk 2 (a+(i:Int)) [],ar.mk s a (i:Int) fr text parts UC) (ag O (af (by rw [hb0]; omega) (ai _ (ax hd rfl) (ai _ hbad (ae (decide_eq_true hx) Ke))))) ?_;rw [hi]; rfl
  ·rw [if_neg hx] at hi;have hw2:=hdf.2.1;refine ek ((i:Int)+(w:Int),text++(b::r).take w) (ag O (af (by rw [hb0]; omega) (ai _ (ax hd rfl) (ai _ hbad (af (by simpa using hx) ?_))))) (fin _ _ hi O CR);simp only [hsb];exact ag O (ag CR qV)
end Go.Ab.R06
end
