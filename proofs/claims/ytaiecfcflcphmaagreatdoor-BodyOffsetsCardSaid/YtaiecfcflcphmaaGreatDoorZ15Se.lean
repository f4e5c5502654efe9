/- Texts of the proof, one behind the other. No statement is proved here. -/
import Derived.Lib.IndexLaws
import Derived.Lib.Bytes2
import Derived.Test.YtaiecfcflcphmaaGreatDoorZ15Sa
import Derived.Test.YtaiecfcflcphmaaGreatDoorZ15Sb
import Derived.Test.YtaiecfcflcphmaaGreatDoorZ15Sc
import Derived.Test.YtaiecfcflcphmaaGreatDoorZ15Sd
set_option maxHeartbeats 4000000
section
namespace Go.Ab.R06
open Go.Proofs Go.Ab Go.Ab.RB
variable {p:Prop}
theorem kY (h:p:=by
  exact nx 3 Z (qD h0 Z)):p:=h
theorem y3 (h:p:=by
  exact nx 3 Z (eX _ (oi h1).symm (gE Z Z))):p:=h
theorem JP (h:p:=by exact mQo (hR0 _ (hR1 _ (oi h2).symm).symm) (aJ _) Z Z Z Z (sr) ⟨⟨_,Z,⟨sr,sr,sr,sr,sr,sr,sr,trivial⟩⟩,trivial⟩):p:=h
theorem x6 (h:p:=by exact mQo (oi h0) (aJ _) Z Z Z Z (dW ⟨.inl Z,.inl Z,.inl Z,.inl Z,.inl Z,.inl Z,.inl Z,.inr ⟨Z,Z⟩,.inr ⟨Z,Z⟩,.inl Z,.inl Z,trivial⟩) ⟨⟨_,Z,⟨sr,sr,sr,sr,sr,sr,sr,trivial⟩⟩,trivial⟩):p:=h
theorem lJ (h:p:=by first|rfl|(simp only [dg,th,ag.Mr]; done)|(simp only [dg,th,ag.Mr]; rfl)):p:=h
attribute [local irreducible] awp fV aX aK aS AV.sub M cv
abbrev bu:List AV:=[.p (eI 0),.p (eI 0),.p (eS ([]:Bk)),.p (eS ([]:Bk)),.p (eI 0),.p (eI 0),.p (eS ([]:Bk)),.p (.val (.slice none 0 0)),.p (.val (.slice none 0 0)),.p (.val (.slice none 0 0)),.p (eI 0)]
abbrev nW:List PV:=[eI 0,eI 0,eS ([]:Bk),eS ([]:Bk),eI 0,eI 0,eS ([]:Bk),.val (.slice none 0 0),.val (.slice none 0 0),.val (.slice none 0 0),eI 0]
abbrev cy:List AV:=[.p (eI 0),.p (eI 0),.p (eS ([]:Bk))]
def cA (n:Nat)(Oi:aA->Option (au×aA)):Nat->Bk->Int->Int->Int->Bk->(List ag)->Bool->Option ((Bk×Int×Int×Int×Bk×(List ag)×Bool)⊕(au×aA))|0,_,_,_,_,_,_,_=>none|m+1,OY,O',OO,Pb,Pz,PK,PI=>if OO<(OY.length:Int) then ck ((0:Int)<=OO/\OO<=(OY.length:Int)/\(OY.length:Int)<=(OY.length:Int))<|((strings_HasPrefix (sub OY OO (OY.length:Int)) ([36,36,123]:Bk)).bind λ Rw=>if Rw=true then ck (Pz.length+([36,123]:Bk).length<=9223372036854775807)<|ck (inR (OO+3))<|(ew (aA.mk OY O' (OO+3) Pb (Pz++([36,123]:Bk)) PK PI)).bind λ PP=>some (PP.1.Ar,PP.1.fAt,PP.1.AT,PP.2.fs,PP.2.fat,PP.2.fi,PP.2.Df,PP.2.D',PP.2.C',PP.2.IN)else(strings_HasPrefix (sub OY OO (OY.length:Int)) ([36,123]:Bk)).bind λ OR=>if OR=true then(Oi (aA.mk OY O' OO Pb Pz PK PI)).bind λ Q4=>some (Q4.1.Ar,Q4.1.fAt,Q4.1.AT,Q4.2.fs,Q4.2.fat,Q4.2.fi,Q4.2.Df,Q4.2.D',Q4.2.C',Q4.2.IN)else(gf n (aA.mk OY O' OO Pb Pz PK PI)).bind λ Qg=>some (Qg.1.Ar,Qg.1.fAt,Qg.1.AT,Qg.2.fs,Qg.2.fat,Qg.2.fi,Qg.2.Df,Qg.2.D',Qg.2.C',Qg.2.IN) : Option (Int×Int×Bk×Bk×Int×Int×Int×Bk×(List ag)×Bool)).bind λ QV=>if QV.1=0 then cA n Oi m QV.2.2.2.1 QV.2.2.2.2.1 QV.2.2.2.2.2.1 QV.2.2.2.2.2.2.1 QV.2.2.2.2.2.2.2.1 QV.2.2.2.2.2.2.2.2.1 QV.2.2.2.2.2.2.2.2.2 else some (.inr ((au.mk QV.1 QV.2.1 QV.2.2.1),(aA.mk QV.2.2.2.1 QV.2.2.2.2.1 QV.2.2.2.2.2.1 QV.2.2.2.2.2.2.1 QV.2.2.2.2.2.2.2.1 QV.2.2.2.2.2.2.2.2.1 QV.2.2.2.2.2.2.2.2.2)))else some (.inl (OY,O',OO,Pb,Pz,PK,PI))
def cn (n:Nat)(OL:af->Int->Option (ag×af))(NT:Int)(r5:ag×af):Nat->Int->Int->Bk->Bk->Int->Int->Bk->(List aw)->(List Bk)->(List ag)->(List ac)->Int->Int->Int->Int->Int->Bk->Option (((List ac)×Int×Int×Int×Int×Int×Bk)⊕(ag×af))|0,_,_,_,_,_,_,_,_,_,_,_,_,_,_,_,_,_=>none|m+1,O',OO,Pb,Pz,PK,PI,Rc,Rb,Sb,Sa,f46,f47,f48,f49,f50,R9,R8=>(kh NT).bind λ Qh=>(eV n (af.mk f46 f47 f48 f49 (au.mk f50 R9 R8)) Qh).bind λ QH=>if (!QH.2.1)=true then some (.inr ((ag.mk O' OO Pb Pz (aw.mk PK PI Rc Rb Sb) Sa r5.1.fAt),QH.2.2))else(aY n QH.2.2).bind λ P9=>ck (inR (NT+1))<|(OL P9.2 (NT+1)).bind λ Pj=>(rB n QH.1).bind λ Qx=>cn n OL NT r5 m 7 Qx ([]:Bk) ([]:Bk) 0 0 ([]:Bk) [] [] [(ag.mk O' OO Pb Pz (aw.mk PK PI Rc Rb Sb) Sa r5.1.fAt),Pj.1] Pj.2.fl Pj.2.fat Pj.2.G' Pj.2.Gw Pj.2.AI.Ar Pj.2.AI.fAt Pj.2.AI.AT
def cg (n:Nat)(N5:af->Option (ag×af))(r1:ag×af):Nat->Int->Int->Bk->Bk->Int->Int->Bk->(List aw)->(List Bk)->(List ag)->(List ac)->Int->Int->Int->Int->Int->Bk->Option (((List ac)×Int×Int×Int×Int×Int×Bk)⊕(ag×af))|0,_,_,_,_,_,_,_,_,_,_,_,_,_,_,_,_,_=>none|m+1,R9,R8,Ua,T',T9,T8,T7,T6,T5,T4,f61,f62,f63,f64,f65,f66,f67=>jn ((bp n (af.mk f61 f62 f63 f64 (au.mk f65 f66 f67)) ([46]:Bk)).bind λ Un=>if Un.1=true then(aY n Un.2).bind λ r71=>(bR n r71.2).bind λ S4=>if S4.1.Ar=1 then(aY n S4.2).bind λ TC=>some (.inl (4,S4.1.BY,[(ag.mk R9 R8 Ua T' (aw.mk T9 T8 T7 T6 T5) T4 r1.1.fAt)],TC.2.fl,TC.2.fat,TC.2.G',TC.2.Gw,TC.2.AI.Ar,TC.2.AI.fAt,TC.2.AI.AT))else(bQ S4.2 2 S4.1.fAt).bind λ r76=>some (.inr (.inr (r76.1,r76.2)))else(bp n Un.2 ([91]:Bk)).bind λ Uy=>if Uy.1=true then(dh n Uy.2).bind λ r83=>(N5 r83).bind λ Ux=>(bW n Ux.2 ([93]:Bk)).bind λ TB=>some (.inl (5,([]:Bk),[(ag.mk R9 R8 Ua T' (aw.mk T9 T8 T7 T6 T5) T4 r1.1.fAt),Ux.1],TB.fl,TB.fat,TB.G',TB.Gw,TB.AI.Ar,TB.AI.fAt,TB.AI.AT))else some (.inr (.inr ((ag.mk R9 R8 Ua T' (aw.mk T9 T8 T7 T6 T5) T4 r1.1.fAt),Uy.2))) : Option ((Int×Bk×(List ag)×(List ac)×Int×Int×Int×Int×Int×Bk)⊕(((List ac)×Int×Int×Int×Int×Int×Bk)⊕(ag×af)))) λ QA=>cg n N5 r1 m QA.1 0 QA.2.1 ([]:Bk) 0 0 ([]:Bk) [] [] QA.2.2.1 QA.2.2.2.1 QA.2.2.2.2.1 QA.2.2.2.2.2.1 QA.2.2.2.2.2.2.1 QA.2.2.2.2.2.2.2.1 QA.2.2.2.2.2.2.2.2.1 QA.2.2.2.2.2.2.2.2.2
def dl (n:Nat)(N5:af->Option (ag×af))(end_1:Bk):Nat->(List ag)->(List ac)->Int->Int->Int->Int->Int->Bk->Option ((List ag)×(List ac)×Int×Int×Int×Int×Int×Bk)|0,_,_,_,_,_,_,_,_=>none|m+1,OH,QZ,Tj,Ti,OY,O',OO,Pb=>((bh (af.mk QZ Tj Ti OY (au.mk O' OO Pb))).bind λ So=>if (!So.1)=true then(bp n So.2 end_1).bind λ Pa=>some (!Pa.1,Pa.2.fl,Pa.2.fat,Pa.2.G',Pa.2.Gw,Pa.2.AI.Ar,Pa.2.AI.fAt,Pa.2.AI.AT)else some (false,So.2.fl,So.2.fat,So.2.G',So.2.Gw,So.2.AI.Ar,So.2.AI.fAt,So.2.AI.AT) : Option (Bool×(List ac)×Int×Int×Int×Int×Int×Bk)).bind λ Qi=>if Qi.1=true then(N5 (af.mk Qi.2.1 Qi.2.2.1 Qi.2.2.2.1 Qi.2.2.2.2.1 (au.mk Qi.2.2.2.2.2.1 Qi.2.2.2.2.2.2.1 Qi.2.2.2.2.2.2.2))).bind λ Qh=>ck ((OH.length+[Qh.1].length)*160<=140737488355328)<|(bp n Qh.2 ([44]:Bk)).bind λ Qg=>if (!Qg.1)=true then some (OH++[Qh.1],Qg.2.fl,Qg.2.fat,Qg.2.G',Qg.2.Gw,Qg.2.AI.Ar,Qg.2.AI.fAt,Qg.2.AI.AT)else(aY n Qg.2).bind λ QU=>dl n N5 end_1 m (OH++[Qh.1]) QU.2.fl QU.2.fat QU.2.G' QU.2.Gw QU.2.AI.Ar QU.2.AI.fAt QU.2.AI.AT else some (OH,Qi.2.1,Qi.2.2.1,Qi.2.2.2.1,Qi.2.2.2.2.1,Qi.2.2.2.2.2.1,Qi.2.2.2.2.2.2.1,Qi.2.2.2.2.2.2.2)
def cK (n:Nat)(N5:af->Option (ag×af))(OZ:af->Option (ag×af)):Nat->(List ag)->(List ac)->Int->Int->Int->Int->Int->Bk->Option ((List ag)×(List ac)×Int×Int×Int×Int×Int×Bk)|0,_,_,_,_,_,_,_,_=>none|m+1,Pu,OO,Pb,Pz,PK,PI,Rc,Rb=>((bh (af.mk OO Pb Pz PK (au.mk PI Rc Rb))).bind λ Rw=>if (!Rw.1)=true then(bp n Rw.2 ([125]:Bk)).bind λ S5=>some (!S5.1,S5.2.fl,S5.2.fat,S5.2.G',S5.2.Gw,S5.2.AI.Ar,S5.2.AI.fAt,S5.2.AI.AT)else some (false,Rw.2.fl,Rw.2.fat,Rw.2.G',Rw.2.Gw,Rw.2.AI.Ar,Rw.2.AI.fAt,Rw.2.AI.AT) : Option (Bool×(List ac)×Int×Int×Int×Int×Int×Bk)).bind λ Rm=>if Rm.1=true then(OZ (af.mk Rm.2.1 Rm.2.2.1 Rm.2.2.2.1 Rm.2.2.2.2.1 (au.mk Rm.2.2.2.2.2.1 Rm.2.2.2.2.2.2.1 Rm.2.2.2.2.2.2.2))).bind λ P9=>ck ((Pu.length+[P9.1].length)*160<=140737488355328)<|(cT n P9.2 ([61]:Bk)).bind λ Pj=>(N5 Pj).bind λ Qx=>ck (((Pu++[P9.1]).length+[Qx.1].length)*160<=140737488355328)<|(bp n Qx.2 ([44]:Bk)).bind λ Qw=>if (!Qw.1)=true then some ((Pu++[P9.1])++[Qx.1],Qw.2.fl,Qw.2.fat,Qw.2.G',Qw.2.Gw,Qw.2.AI.Ar,Qw.2.AI.fAt,Qw.2.AI.AT)else(aY n Qw.2).bind λ Rl=>cK n N5 OZ m ((Pu++[P9.1])++[Qx.1]) Rl.2.fl Rl.2.fat Rl.2.G' Rl.2.Gw Rl.2.AI.Ar Rl.2.AI.fAt Rl.2.AI.AT else some (Pu,Rm.2.1,Rm.2.2.1,Rm.2.2.2.1,Rm.2.2.2.2.1,Rm.2.2.2.2.2.1,Rm.2.2.2.2.2.2.1,Rm.2.2.2.2.2.2.2)
mutual
def iT:Nat->Bk->Int->Option (ag×au)|0,_,_=>none|n+1,NN,N3=>((gB n) (aA.mk NN N3 0 0 ([]:Bk) [] false)).bind λ r1=>if r1.1.Ar=0 then(gQ (aw.mk 3 0 r1.2.D' [] []) N3).bind λ r4=>(if r1.2.IN=true then(fb (aA.mk r1.2.fs r1.2.fat r1.2.fi r1.2.Df r1.2.D' r1.2.C' r1.2.IN)).bind λ r7=>some (2,0,([]:Bk),([]:Bk),0,0,([]:Bk),[],[],r7.C',N3)else some (r4.Ar,r4.fOp,r4.AT,r4.I',r4.B'.Ar,r4.B'.It,r4.B'.IS,r4.B'.H',r4.B'.E',r4.If,r4.fAt) : Option (Int×Int×Bk×Bk×Int×Int×Bk×(List aw)×(List Bk)×(List ag)×Int)).bind λ O0=>(gU n (ag.mk O0.1 O0.2.1 O0.2.2.1 O0.2.2.2.1 (aw.mk O0.2.2.2.2.1 O0.2.2.2.2.2.1 O0.2.2.2.2.2.2.1 O0.2.2.2.2.2.2.2.1 O0.2.2.2.2.2.2.2.2.1) O0.2.2.2.2.2.2.2.2.2.1 O0.2.2.2.2.2.2.2.2.2.2) r1.1).bind λ Pp=>some (Pp.1,Pp.2)else some ((ag.mk 0 0 ([]:Bk) ([]:Bk) (aw.mk 0 0 ([]:Bk) [] []) [] 0),r1.1)
def jS:Nat->Bk->Int->Option (ag×au)|0,_,_=>none|n+1,NN,base_1=>(kO n NN).bind λ r1=>if r1.2.Ar=0 then((aO n) (af.mk r1.1 0 1 base_1 (au.mk 0 0 ([]:Bk)))).bind λ r5=>((bR n r5.2).bind λ r7=>if r7.1.Ar=6 then some (r7.2.fl,r7.2.fat,r7.2.G',r7.2.Gw,r7.2.AI.Ar,r7.2.AI.fAt,r7.2.AI.AT)else(bQ r7.2 2 r7.1.fAt).bind λ Ot=>some (Ot.2.fl,Ot.2.fat,Ot.2.G',Ot.2.Gw,Ot.2.AI.Ar,Ot.2.AI.fAt,Ot.2.AI.AT) : Option ((List ac)×Int×Int×Int×Int×Int×Bk)).bind λ Ro=>some (r5.1,(au.mk Ro.2.2.2.2.1 Ro.2.2.2.2.2.1 Ro.2.2.2.2.2.2))else ck (inR (base_1+r1.2.fAt))<|some ((ag.mk 0 0 ([]:Bk) ([]:Bk) (aw.mk 0 0 ([]:Bk) [] []) [] 0),(au.mk r1.2.Ar (base_1+r1.2.fAt) ([]:Bk)))
def gB:Nat->aA->Option (au×aA)|0,_=>none|n+1,NO=>jn (cA n (a8 n) n NO.fs NO.fat NO.fi NO.Df NO.D' NO.C' NO.IN) λ Sp=>some ((au.mk 0 0 ([]:Bk)),(aA.mk Sp.1 Sp.2.1 Sp.2.2.1 Sp.2.2.2.1 Sp.2.2.2.2.1 Sp.2.2.2.2.2.1 Sp.2.2.2.2.2.2))
def aO:Nat->af->Option (ag×af)|0,_=>none|n+1,NL=>((br n) NL 0).bind λ r1=>(bp n r1.2 ([63]:Bk)).bind λ r3=>if (!r3.1)=true then some (r1.1,r3.2)else(aY n r3.2).bind λ r6=>((aO n) r6.2).bind λ r8=>(cT n r8.2 ([58]:Bk)).bind λ Ot=>((aO n) Ot).bind λ Ov=>some ((ag.mk 8 0 ([]:Bk) ([]:Bk) (aw.mk 0 0 ([]:Bk) [] []) [r1.1,r8.1,Ov.1] r1.1.fAt),Ov.2)
def a8:Nat->aA->Option (au×aA)|0,_=>none|n+1,NO=>(fb (aA.mk NO.fs NO.fat NO.fi NO.Df NO.D' NO.C' NO.IN)).bind λ r1=>ck (inR (r1.fi+2))<|(eu n r1.fs (r1.fi+2)).bind λ r4=>if r4<0 then ck (inR (r1.fat+r1.fi))<|some ((au.mk 40 (r1.fat+r1.fi) ([]:Bk)),(aA.mk r1.fs r1.fat r1.fi r1.Df r1.D' r1.C' true))else ck (inR (r1.fi+2))<|ck ((0:Int)<=r1.fi+2/\r1.fi+2<=r4/\r4<=(r1.fs.length:Int))<|ck (inR (r1.fat+r1.fi))<|ck (inR ((r1.fat+r1.fi)+2))<|((jS n) (sub r1.fs (r1.fi+2) r4) ((r1.fat+r1.fi)+2)).bind λ Ov=>if Ov.2.Ar=0 then ck ((r1.C'.length+1)*160<=140737488355328)<|ck (inR (r4+1))<|some ((au.mk 0 0 ([]:Bk)),(aA.mk r1.fs r1.fat (r4+1) (r4+1) r1.D' (r1.C'++[Ov.1]) true))else some (Ov.2,(aA.mk r1.fs r1.fat r1.fi r1.Df r1.D' r1.C' true))
def br:Nat->af->Int->Option (ag×af)|0,_,_=>none|n+1,NL,NT=>if 5<NT then((dz n) NL).bind λ r2=>some (r2.1,r2.2)else ck (inR (NT+1))<|((br n) NL (NT+1)).bind λ r5=>jn (cn n (br n) NT r5 n r5.1.Ar r5.1.fOp r5.1.AT r5.1.I' r5.1.B'.Ar r5.1.B'.It r5.1.B'.IS r5.1.B'.H' r5.1.B'.E' r5.1.If r5.2.fl r5.2.fat r5.2.G' r5.2.Gw r5.2.AI.Ar r5.2.AI.fAt r5.2.AI.AT) λ _q89=>none
def dz:Nat->af->Option (ag×af)|0,_=>none|n+1,NL=>((bp n NL ([33]:Bk)).bind λ r1=>if r1.1=true then some (1,r1.2.fl,r1.2.fat,r1.2.G',r1.2.Gw,r1.2.AI.Ar,r1.2.AI.fAt,r1.2.AI.AT)else(bp n r1.2 ([45]:Bk)).bind λ r4=>if r4.1=true then some (2,r4.2.fl,r4.2.fat,r4.2.G',r4.2.Gw,r4.2.AI.Ar,r4.2.AI.fAt,r4.2.AI.AT)else some (0,r4.2.fl,r4.2.fat,r4.2.G',r4.2.Gw,r4.2.AI.Ar,r4.2.AI.fAt,r4.2.AI.AT) : Option (Int×(List ac)×Int×Int×Int×Int×Int×Bk)).bind λ O0=>if O0.1=0 then((d6 n) (af.mk O0.2.1 O0.2.2.1 O0.2.2.2.1 O0.2.2.2.2.1 (au.mk O0.2.2.2.2.2.1 O0.2.2.2.2.2.2.1 O0.2.2.2.2.2.2.2))).bind λ Pq=>some (Pq.1,Pq.2)else(aY n (af.mk O0.2.1 O0.2.2.1 O0.2.2.2.1 O0.2.2.2.2.1 (au.mk O0.2.2.2.2.2.1 O0.2.2.2.2.2.2.1 O0.2.2.2.2.2.2.2))).bind λ Py=>((dz n) Py.2).bind λ Pp=>some ((ag.mk 6 O0.1 ([]:Bk) ([]:Bk) (aw.mk 0 0 ([]:Bk) [] []) [Pp.1] Py.1.fAt),Pp.2)
def d6:Nat->af->Option (ag×af)|0,_=>none|n+1,NL=>((dr n) NL).bind λ r1=>jn (cg n (aO n) r1 n r1.1.Ar r1.1.fOp r1.1.AT r1.1.I' r1.1.B'.Ar r1.1.B'.It r1.1.B'.IS r1.1.B'.H' r1.1.B'.E' r1.1.If r1.2.fl r1.2.fat r1.2.G' r1.2.Gw r1.2.AI.Ar r1.2.AI.fAt r1.2.AI.AT) λ _q123=>none
def dr:Nat->af->Option (ag×af)|0,_=>none|n+1,NL=>(bh NL).bind λ r1=>if r1.1=true then some ((ag.mk 0 0 ([]:Bk) ([]:Bk) (aw.mk 0 0 ([]:Bk) [] []) [] 0),r1.2)else(bR n r1.2).bind λ r4=>if r4.1.Ar=2 then(ko n r4.1.BY).bind λ r7=>if r7.2=0 then(aY n r4.2).bind λ Ov=>(gQ (aw.mk 2 r7.1 ([]:Bk) [] []) r4.1.fAt).bind λ Oq=>some (Oq,Ov.2)else(bQ r4.2 r7.2 r4.1.fAt).bind λ Ot=>some (Ot.1,Ot.2)else if r4.1.Ar=3 then((fj n) r4.2).bind λ Om=>some (Om.1,Om.2)else if r4.1.Ar=1 then((ge n) r4.2).bind λ Pp=>some (Pp.1,Pp.2)else if r4.1.Ar=4 then((gS n) r4.2).bind λ OJ=>some (OJ.1,OJ.2)else(bQ r4.2 2 r4.1.fAt).bind λ P0=>some (P0.1,P0.2)
def fj:Nat->af->Option (ag×af)|0,_=>none|n+1,NL=>(bR n NL).bind λ r1=>ck (inR (r1.1.fAt+1))<|((iT n) r1.1.BY (r1.1.fAt+1)).bind λ r4=>if r4.2.Ar=0 then(aY n r1.2).bind λ r9=>some ((ag.mk r4.1.Ar r4.1.fOp r4.1.AT r4.1.I' r4.1.B' r4.1.If r1.1.fAt),r9.2)else(bQ r1.2 r4.2.Ar r4.2.fAt).bind λ r7=>some (r7.1,r7.2)
def ge:Nat->af->Option (ag×af)|0,_=>none|n+1,NL=>(bR n NL).bind λ r1=>if r1.1.BY=([110,117,108,108]:Bk) then(aY n r1.2).bind λ r4=>(gQ (aw.mk 0 0 ([]:Bk) [] []) r1.1.fAt).bind λ r6=>some (r6,r4.2)else(if r1.1.BY=([116,114,117,101]:Bk) then some true else some (decide (r1.1.BY=([102,97,108,115,101]:Bk))) : Option Bool).bind λ t9=>if t9=true then(aY n r1.2).bind λ PM=>(if r1.1.BY=([116,114,117,101]:Bk) then some 1 else some 0 : Option Int).bind λ RA=>(gQ (aw.mk 1 RA ([]:Bk) [] []) r1.1.fAt).bind λ N8=>some (N8,PM.2)else(f0 r1.1.BY).bind λ Om=>if Om=true then(bQ r1.2 2 r1.1.fAt).bind λ Pp=>some (Pp.1,Pp.2)else(aY n r1.2).bind λ PU=>(bp n PU.2 ([40]:Bk)).bind λ TD=>if (!TD.1)=true then some ((ag.mk 3 0 r1.1.BY ([]:Bk) (aw.mk 0 0 ([]:Bk) [] []) [] r1.1.fAt),TD.2)else(dh n TD.2).bind λ Q6=>((gb n) Q6 ([41]:Bk)).bind λ Q5=>(bW n Q5.2 ([41]:Bk)).bind λ UC=>some ((ag.mk 9 0 r1.1.BY ([]:Bk) (aw.mk 0 0 ([]:Bk) [] []) Q5.1 r1.1.fAt),UC)
def gS:Nat->af->Option (ag×af)|0,_=>none|n+1,NL=>(bR n NL).bind λ r1=>if r1.1.BY=([40]:Bk) then(dh n r1.2).bind λ r4=>((aO n) r4).bind λ r6=>(bW n r6.2 ([41]:Bk)).bind λ r8=>some (r6.1,r8)else if r1.1.BY=([91]:Bk) then(dh n r1.2).bind λ PM=>(dj n PM ([102,111,114]:Bk)).bind λ P1=>if P1.1=true then((fp n) P1.2 r1.1.fAt 12).bind λ Pq=>some (Pq.1,Pq.2)else((gb n) P1.2 ([93]:Bk)).bind λ Py=>(bW n Py.2 ([93]:Bk)).bind λ Pp=>some ((ag.mk 10 0 ([]:Bk) ([]:Bk) (aw.mk 0 0 ([]:Bk) [] []) Py.1 r1.1.fAt),Pp)else if r1.1.BY=([123]:Bk) then(dh n r1.2).bind λ OJ=>(dj n OJ ([102,111,114]:Bk)).bind λ P0=>if P0.1=true then((fp n) P0.2 r1.1.fAt 13).bind λ Pd=>some (Pd.1,Pd.2)else((fQ n) P0.2).bind λ R6=>(bW n R6.2 ([125]:Bk)).bind λ Px=>some ((ag.mk 11 0 ([]:Bk) ([]:Bk) (aw.mk 0 0 ([]:Bk) [] []) R6.1 r1.1.fAt),Px)else(bQ r1.2 2 r1.1.fAt).bind λ Oc=>some (Oc.1,Oc.2)
def gb:Nat->af->Bk->Option ((List ag)×af)|0,_,_=>none|n+1,NL,end_1=>(dl n (aO n) end_1 n [] NL.fl NL.fat NL.G' NL.Gw NL.AI.Ar NL.AI.fAt NL.AI.AT).bind λ TE=>some (TE.1,(af.mk TE.2.1 TE.2.2.1 TE.2.2.2.1 TE.2.2.2.2.1 (au.mk TE.2.2.2.2.2.1 TE.2.2.2.2.2.2.1 TE.2.2.2.2.2.2.2)))
def fp:Nat->af->Int->Int->Option (ag×af)|0,_,_,_=>none|n+1,NL,N3,k_2=>(aY n NL).bind λ r1=>(eJ n r1.2).bind λ r3=>((bp n r3.2 ([44]:Bk)).bind λ r5=>if r5.1=true then(aY n r5.2).bind λ r8=>(eJ n r8.2).bind λ Ot=>some (Ot.1,r3.1,Ot.2.fl,Ot.2.fat,Ot.2.G',Ot.2.Gw,Ot.2.AI.Ar,Ot.2.AI.fAt,Ot.2.AI.AT)else some (r3.1,([]:Bk),r5.2.fl,r5.2.fat,r5.2.G',r5.2.Gw,r5.2.AI.Ar,r5.2.AI.fAt,r5.2.AI.AT) : Option (Bk×Bk×(List ac)×Int×Int×Int×Int×Int×Bk)).bind λ S8=>(d4 n (af.mk S8.2.2.1 S8.2.2.2.1 S8.2.2.2.2.1 S8.2.2.2.2.2.1 (au.mk S8.2.2.2.2.2.2.1 S8.2.2.2.2.2.2.2.1 S8.2.2.2.2.2.2.2.2)) ([105,110]:Bk)).bind λ N9=>((aO n) N9).bind λ OJ=>ck ([OJ.1].length*160<=140737488355328)<|(cT n OJ.2 ([58]:Bk)).bind λ P5=>((aO n) P5).bind λ Pd=>ck (([OJ.1].length+[Pd.1].length)*160<=140737488355328)<|(if k_2=13 then(cT n Pd.2 ([61,62]:Bk)).bind λ Px=>((aO n) Px).bind λ Oc=>ck ((([OJ.1]++[Pd.1]).length+[Oc.1].length)*160<=140737488355328)<|some (([125]:Bk),([OJ.1]++[Pd.1])++[Oc.1],Oc.2.fl,Oc.2.fat,Oc.2.G',Oc.2.Gw,Oc.2.AI.Ar,Oc.2.AI.fAt,Oc.2.AI.AT)else some (([93]:Bk),[OJ.1]++[Pd.1],Pd.2.fl,Pd.2.fat,Pd.2.G',Pd.2.Gw,Pd.2.AI.Ar,Pd.2.AI.fAt,Pd.2.AI.AT) : Option (Bk×(List ag)×(List ac)×Int×Int×Int×Int×Int×Bk)).bind λ Sq=>((dj n (af.mk Sq.2.2.1 Sq.2.2.2.1 Sq.2.2.2.2.1 Sq.2.2.2.2.2.1 (au.mk Sq.2.2.2.2.2.2.1 Sq.2.2.2.2.2.2.2.1 Sq.2.2.2.2.2.2.2.2)) ([105,102]:Bk)).bind λ Sm=>if Sm.1=true then(aY n Sm.2).bind λ PP=>((aO n) PP.2).bind λ OR=>ck ((Sq.2.1.length+[OR.1].length)*160<=140737488355328)<|some (Sq.2.1++[OR.1],OR.2.fl,OR.2.fat,OR.2.G',OR.2.Gw,OR.2.AI.Ar,OR.2.AI.fAt,OR.2.AI.AT)else some (Sq.2.1,Sm.2.fl,Sm.2.fat,Sm.2.G',Sm.2.Gw,Sm.2.AI.Ar,Sm.2.AI.fAt,Sm.2.AI.AT) : Option ((List ag)×(List ac)×Int×Int×Int×Int×Int×Bk)).bind λ TF=>(bW n (af.mk TF.2.1 TF.2.2.1 TF.2.2.2.1 TF.2.2.2.2.1 (au.mk TF.2.2.2.2.2.1 TF.2.2.2.2.2.2.1 TF.2.2.2.2.2.2.2)) Sq.1).bind λ Uz=>some ((ag.mk k_2 0 S8.1 S8.2.1 (aw.mk 0 0 ([]:Bk) [] []) TF.1 N3),Uz)
def fQ:Nat->af->Option ((List ag)×af)|0,_=>none|n+1,NL=>(cK n (aO n) (dN n) n [] NL.fl NL.fat NL.G' NL.Gw NL.AI.Ar NL.AI.fAt NL.AI.AT).bind λ Qf=>some (Qf.1,(af.mk Qf.2.1 Qf.2.2.1 Qf.2.2.2.1 Qf.2.2.2.2.1 (au.mk Qf.2.2.2.2.2.1 Qf.2.2.2.2.2.2.1 Qf.2.2.2.2.2.2.2)))
def dN:Nat->af->Option (ag×af)|0,_=>none|n+1,NL=>(bR n NL).bind λ r1=>if r1.1.Ar=1 then(aY n r1.2).bind λ r4=>(gQ (aw.mk 3 0 r1.1.BY [] []) r1.1.fAt).bind λ r6=>some (r6,r4.2)else if r1.1.Ar=3 then((fj n) r1.2).bind λ r9=>some (r9.1,r9.2)else(bp n r1.2 ([40]:Bk)).bind λ PM=>if PM.1=true then(dh n PM.2).bind λ Oq=>((aO n) Oq).bind λ Pq=>(bW n Pq.2 ([41]:Bk)).bind λ Py=>some (Pq.1,Py)else(bQ PM.2 2 r1.1.fAt).bind λ Pp=>some (Pp.1,Pp.2)
end
theorem su (n:Nat):(∀ (NN:Bk) (N3:Int) (r:ag×au),iT n NN N3=some r->aK Tryz.prog 240 [eS NN,eI N3] (·=.tuple [.p (.agg (ag.cs r.1)),.p (.agg (au.cs r.2))]))/\(∀ (NN:Bk) (base_1:Int) (r:ag×au),jS n NN base_1=some r->aK Tryz.prog 267 [eS NN,eI base_1] (·=.tuple [.p (.agg (ag.cs r.1)),.p (.agg (au.cs r.2))]))/\(∀ (NO:aA) (r:au×aA),gB n NO=some r->aS Tryz.prog 248 [.ptr 1000000 0] [(1000000,[.p (eS NO.fs),.p (eI NO.fat),.p (eI NO.fi),.p (eI NO.Df),.p (eS NO.D'),.vec 900000 11 0 (NO.C'.map av),.p (eB NO.IN)])] (λ x y=>x=.p (.agg (au.cs r.1))/\y=[(1000000,[.p (eS r.2.fs),.p (eI r.2.fat),.p (eI r.2.fi),.p (eI r.2.Df),.p (eS r.2.D'),.vec 2000000 11 0 (r.2.C'.map av),.p (eB r.2.IN)])]))/\(∀ (NL:af) (r:ag×af),aO n NL=some r->aS Tryz.prog 137 [.ptr 1000000 0] [(1000000,((af.cs NL).map .p))] (λ x y=>x=.p (.agg (ag.cs r.1))/\y=[(1000000,((af.cs r.2).map .p))]))/\(∀ (NO:aA) (r:au×aA),a8 n NO=some r->aS Tryz.prog 259 [.ptr 1000000 0] [(1000000,[.p (eS NO.fs),.p (eI NO.fat),.p (eI NO.fi),.p (eI NO.Df),.p (eS NO.D'),.vec 900000 11 0 (NO.C'.map av),.p (eB NO.IN)])] (λ x y=>x=.p (.agg (au.cs r.1))/\y=[(1000000,[.p (eS r.2.fs),.p (eI r.2.fat),.p (eI r.2.fi),.p (eI r.2.Df),.p (eS r.2.D'),.vec 2000000 11 0 (r.2.C'.map av),.p (eB r.2.IN)])]))/\(∀ (NL:af) (NT:Int) (r:ag×af),br n NL NT=some r->aS Tryz.prog 161 [.ptr 1000000 0,.p (eI NT)] [(1000000,((af.cs NL).map .p))] (λ x y=>x=.p (.agg (ag.cs r.1))/\y=[(1000000,((af.cs r.2).map .p))]))/\(∀ (NL:af) (r:ag×af),dz n NL=some r->aS Tryz.prog 184 [.ptr 1000000 0] [(1000000,((af.cs NL).map .p))] (λ x y=>x=.p (.agg (ag.cs r.1))/\y=[(1000000,((af.cs r.2).map .p))]))/\(∀ (NL:af) (r:ag×af),d6 n NL=some r->aS Tryz.prog 204 [.ptr 1000000 0] [(1000000,((af.cs NL).map .p))] (λ x y=>x=.p (.agg (ag.cs r.1))/\y=[(1000000,((af.cs r.2).map .p))]))/\(∀ (NL:af) (r:ag×af),dr n NL=some r->aS Tryz.prog 218 [.ptr 1000000 0] [(1000000,((af.cs NL).map .p))] (λ x y=>x=.p (.agg (ag.cs r.1))/\y=[(1000000,((af.cs r.2).map .p))]))/\(∀ (NL:af) (r:ag×af),fj n NL=some r->aS Tryz.prog 230 [.ptr 1000000 0] [(1000000,((af.cs NL).map .p))] (λ x y=>x=.p (.agg (ag.cs r.1))/\y=[(1000000,((af.cs r.2).map .p))]))/\(∀ (NL:af) (r:ag×af),ge n NL=some r->aS Tryz.prog 231 [.ptr 1000000 0] [(1000000,((af.cs NL).map .p))] (λ x y=>x=.p (.agg (ag.cs r.1))/\y=[(1000000,((af.cs r.2).map .p))]))/\(∀ (NL:af) (r:ag×af),gS n NL=some r->aS Tryz.prog 232 [.ptr 1000000 0] [(1000000,((af.cs NL).map .p))] (λ x y=>x=.p (.agg (ag.cs r.1))/\y=[(1000000,((af.cs r.2).map .p))]))/\(∀ (NL:af) (end_1:Bk) (r:(List ag)×af),gb n NL end_1=some r->aS Tryz.prog 241 [.ptr 1000000 0,.p (eS end_1)] [(1000000,((af.cs NL).map .p))] (λ x y=>x=.p (eL av r.1)/\y=[(1000000,((af.cs r.2).map .p))]))/\(∀ (NL:af) (N3:Int) (k_2:Int) (r:ag×af),fp n NL N3 k_2=some r->aS Tryz.prog 243 [.ptr 1000000 0,.p (eI N3),.p (eI k_2)] [(1000000,((af.cs NL).map .p))] (λ x y=>x=.p (.agg (ag.cs r.1))/\y=[(1000000,((af.cs r.2).map .p))]))/\(∀ (NL:af) (r:(List ag)×af),fQ n NL=some r->aS Tryz.prog 244 [.ptr 1000000 0] [(1000000,((af.cs NL).map .p))] (λ x y=>x=.p (eL av r.1)/\y=[(1000000,((af.cs r.2).map .p))]))/\(∀ (NL:af) (r:ag×af),dN n NL=some r->aS Tryz.prog 252 [.ptr 1000000 0] [(1000000,((af.cs NL).map .p))] (λ x y=>x=.p (.agg (ag.cs r.1))/\y=[(1000000,((af.cs r.2).map .p))])):=by
 induction n with
 | zero=>exact ⟨(by intro NN N3 r h0; cases h0),(by intro NN base_1 r h0; cases h0),(by intro NO r h0; cases h0),(by intro NL r h0; cases h0),(by intro NO r h0; cases h0),(by intro NL NT r h0; cases h0),(by intro NL r h0; cases h0),(by intro NL r h0; cases h0),(by intro NL r h0; cases h0),(by intro NL r h0; cases h0),(by intro NL r h0; cases h0),(by intro NL r h0; cases h0),(by intro NL end_1 r h0; cases h0),(by intro NL N3 k_2 r h0; cases h0),(by intro NL r h0; cases h0),(by intro NL r h0; cases h0)⟩
 | succ n ih=>
 obtain ⟨PG,N',O2,NQ,Oz,Od,Ox,OW,OV,OB,Pe,OT,OD,OC,OX,Pl⟩:=ih;refine ⟨?_,?_,?_,?_,?_,?_,?_,?_,?_,?_,?_,?_,?_,?_,?_,?_⟩
 ·skip
  intro NN N3 r h0;rw [iT] at h0;refine bV good Tryz.func240 Z Z Z λ w0=>mP (λ v:ag×au=>.tuple [.p (.agg (ag.cs v.1)),.p (.agg (au.cs v.2))]) ?_;refine nx 16 rfl (bd h0 λ r1 e2 h0=>?_);refine mO rfl (aN [12] [890000] 101000 101001 (O2 (aA.mk NN N3 0 0 ([]:Bk) [] false) _ e2) Z Z Z Z Z ⟨sr,trivial⟩ Z Z ⟨⟨_,rfl,⟨sr,sr,sr,sr,sr,AV.sub_nilvec _ _ _,sr,trivial⟩⟩,trivial⟩ Z Z Z Z Z Z Z Z Tryz.call248 Z Z ?_);refine nx 10 rfl (fN [17] h0 rfl (λ c3 h0=>?_) λ c3 h0=>?_)
  ·refine nx 10 Z (bd h0 λ r4 e5 h0=>?_);refine oK (gN (aw.mk 3 0 r1.2.D' [] []) N3 _ e5) Z ⟨dW ⟨.inl Z,.inl Z,.inl Z,.inr ⟨Z,Z⟩,.inr ⟨Z,Z⟩,trivial⟩,sr,trivial⟩ Tryz.call229 Z (nx 4 Z ?_);refine bd h0 λ OE h1 h0=>kN OE (λ O4=>⟨[(4,.ptr 4 0),(5,.ptr 5 0),(7,.ptr 7 0),(8,.ptr 8 0)],[(4,bu),(5,cy),(7,(au.cs r1.1).map .p),(8,[.p (eI O4.1),.p (eI O4.2.1),.p (eS O4.2.2.1),.p (eS O4.2.2.2.1),.p (eI O4.2.2.2.2.1),.p (eI O4.2.2.2.2.2.1),.p (eS O4.2.2.2.2.2.2.1),.p (eL bw O4.2.2.2.2.2.2.2.1),.p (eL eS O4.2.2.2.2.2.2.2.2.1),.p (eL av O4.2.2.2.2.2.2.2.2.2.1),.p (eI O4.2.2.2.2.2.2.2.2.2.2)])]⟩) ?_ ?_
   ·refine nx 5 Z (bd h0 λ Pp Rt h0=>?_);refine oK (pQ _ (ag.mk OE.1 OE.2.1 OE.2.2.1 OE.2.2.2.1 (aw.mk OE.2.2.2.2.1 OE.2.2.2.2.2.1 OE.2.2.2.2.2.2.1 OE.2.2.2.2.2.2.2.1 OE.2.2.2.2.2.2.2.2.1) OE.2.2.2.2.2.2.2.2.2.1 OE.2.2.2.2.2.2.2.2.2.2) r1.1 _ Rt) Z ⟨sr,sr,trivial⟩ Tryz.call138 Z (nx 6 Z ?_);exact mQ (oi h0) Z (cb ⟨sr,sr,trivial⟩)
   refine nx 7 Z (fB [30] h1 Z (λ c6 h1=>?_) λ c6 h1=>?_)
   ·refine nx 4 Z (bd h1 λ r7 e8 h1=>?_);refine mO Z (cVq [12] [101000] 102000 102001 (kB (aA.mk r1.2.fs r1.2.fat r1.2.fi r1.2.Df r1.2.D' r1.2.C' r1.2.IN) _ e8) Tryz.call249 Z ?_);exact nx 10 Z (eX _ (oi h1).symm (cG (jv ⟨er Z,er Z,er Z,er Z,trivial⟩ ⟨⟨_,Z,⟨sr,sr,sr,sr,sr,sr,sr,sr,sr,sr,sr,trivial⟩⟩,⟨_,Z,⟨sr,sr,sr,trivial⟩⟩,⟨_,Z,⟨sr,sr,sr,trivial⟩⟩,⟨_,Z,⟨sr,sr,sr,sr,sr,sr,sr,gm _,gm _,AV.sub_vec _ _ _ _,sr,trivial⟩⟩,trivial⟩)))
   exact cZ
  refine nx 2 Z (mG (gE (t:=⟨[(4,.ptr 4 0),(5,.ptr 5 0),(7,.ptr 7 0)],[(4,bu),(5,cy),(7,(au.cs r1.1).map .p)]⟩) Z Z) ?_);refine mSq ⟨2,[2,3],(λ _=>.none),(λ _=>[(4,.ptr 4 0),(5,.ptr 5 0),(7,.ptr 7 0)]),(ob3 ([(4,bu),(5,cy),(7,((au.cs r1.1).map .p))]) (4,bu) (5,((au.cs r1.1).map .p)))⟩ Z (dPc (.p (.agg nW)) Z ?_);refine dPc (.p (.agg (au.cs r1.1))) Z (dS Z ?_);exact IM
 ·skip
  intro NN base_1 r h0;rw [jS] at h0;refine bV good Tryz.func267 Z Z Z λ w0=>mP (λ v:ag×au=>.tuple [.p (.agg (ag.cs v.1)),.p (.agg (au.cs v.2))]) ?_;refine nx 8 rfl (bd h0 λ r1 e2 h0=>?_);refine oK (qL _ NN _ e2) rfl ⟨sr,trivial⟩ Tryz.call26 rfl (nx 14 rfl ?_);refine fN [18] h0 rfl (λ c3 h0=>?_) λ c3 h0=>?_
  ·refine nx 13 Z (bd h0 λ r5 e6 h0=>?_);refine mO Z (cVq [30] [] 101000 101000 (NQ (af.mk r1.1 0 1 base_1 (au.mk 0 0 ([]:Bk))) _ e6) Tryz.call137 Z ?_);refine nx 4 Z (bd h0 λ Qk h1 h0=>?_);refine kN Qk (λ v21=>⟨[(4,.ptr 4 0),(5,.ptr 5 0),(8,.ptr 30 0),(9,.ptr 9 0)],[(4,bu),(5,cy),(9,(ag.cs r5.1).map .p),(30,[.p (eL az v21.1),.p (eI v21.2.1),.p (eI v21.2.2.1),.p (eI v21.2.2.2.1),.p (eI v21.2.2.2.2.1),.p (eI v21.2.2.2.2.2.1),.p (eS v21.2.2.2.2.2.2)])]⟩) ?_ ?_
   ·refine nx 2 Z (mG (gE (t:=⟨[(4,.ptr 4 0),(5,.ptr 5 0),(8,.ptr 30 0),(9,.ptr 9 0)],[(4,bu),(5,cy),(9,(ag.cs r5.1).map .p),(30,[.p (eL az Qk.1),.p (eI Qk.2.1),.p (eI Qk.2.2.1),.p (eI Qk.2.2.2.1),.p (eI Qk.2.2.2.2.1),.p (eI Qk.2.2.2.2.2.1),.p (eS Qk.2.2.2.2.2.2)])]⟩) Z Z) ?_);refine mSq ⟨2,[5,6],(λ _=>.none),(λ _=>[(4,.ptr 4 0),(5,.ptr 5 0),(8,.ptr 30 0),(9,.ptr 9 0)]),(ob3 ([(4,bu),(5,cy),(9,((ag.cs r5.1).map .p)),(30,[.p (eL az Qk.1),.p (eI Qk.2.1),.p (eI Qk.2.2.1),.p (eI Qk.2.2.2.1),.p (eI Qk.2.2.2.2.1),.p (eI Qk.2.2.2.2.2.1),.p (eS Qk.2.2.2.2.2.2)])]) (4,((ag.cs r5.1).map .p)) (5,[.p (eI Qk.2.2.2.2.1),.p (eI Qk.2.2.2.2.2.1),.p (eS Qk.2.2.2.2.2.2)]))⟩ Z (dPc (.p (.agg (ag.cs r5.1))) Z ?_);refine dPc (.ptr 30 0) Z (dPc (.ptr 30 0) Z ?_);refine dPc (.ptr 30 4) Z (dPc (.p (.agg [eI Qk.2.2.2.2.1,eI Qk.2.2.2.2.2.1,eS Qk.2.2.2.2.2.2])) Z ?_);refine dS Z (dS Z ?_);refine cV (nx 2 Z ?_);exact mQ (oi h0) Z (cb ⟨sr,sr,trivial⟩)
   refine nx 3 Z (bd h1 λ r7 e8 h1=>?_);refine mO Z (cVq [30] [] 102000 102000 (eY _ r5.2 _ e8) Tryz.call188 Z ?_);refine nx 9 Z (fN [37] h1 Z (λ c9 h1=>?_) λ c9 h1=>?_)
   ·exact cZ
   refine nx 5 Z (bd h1 λ Ot Qe h1=>?_);refine mO Z (cVq [30] [] 103000 103000 (cD r7.2 2 r7.1.fAt _ Qe) Tryz.call190 Z ?_);exact vI
  refine nx 2 Z (cc' h0 λ Rq h0=>?_);refine mG (gE (t:=⟨[(1,.p (eI base_1)),(4,.ptr 4 0),(5,.ptr 5 0),(7,.ptr 7 0)],[(4,bu),(5,cy),(7,(au.cs r1.2).map .p)]⟩) Z Z) (mSq ⟨2,[8,9],(λ _=>.none),(λ _=>[(1,.p (eI base_1)),(4,.ptr 4 0),(5,.ptr 5 0),(7,.ptr 7 0)]),(ob3 ([(4,bu),(5,cy),(7,((au.cs r1.2).map .p))]) (4,bu) (5,[.p (eI r1.2.Ar),.p (eI (base_1+r1.2.fAt)),.p (eS ([]:Bk))]))⟩ Z ?_);refine dPc (.p (.agg nW)) Z (dPc (.ptr 7 0) Z ?_);refine dPc (.p (eI r1.2.Ar)) Z (dPc (.p (eI base_1)) Z ?_);refine dPc (.ptr 7 1) Z (dPc (.p (eI r1.2.fAt)) Z ?_);refine ar (λ _=>.p (eI (base_1+r1.2.fAt))) Z Z Z (cM Z Z Y) (lt2 Z Z) (ak Z (ai [(22,_),(24,_)] ⟨.inr ⟨3,_,Z,Z,Z⟩,.inr ⟨5,_,Z,Z,Z⟩,trivial⟩ (λ sl NI K hK=>ah Z (fK Z Z Z (NI _ _ Z) (NI _ _ Z) Z Rq hK)) (ai [(22,_),(24,_)] ⟨.inr ⟨3,_,Z,Z,Z⟩,.inr ⟨5,_,Z,Z,Z⟩,trivial⟩ (λ sl NI K hK=>ah Z (fK Z Z Z (NI _ _ Z) (NI _ _ Z) Z Rq hK)) ap))) (dPc (.p (.agg [eI r1.2.Ar,eI (base_1+r1.2.fAt),eS ([]:Bk)])) Z ?_);exact JJ
 ·skip
  intro NO r h0;rw [gB] at h0;refine bT good [800000] [1000000] Tryz.func248 Z Z Z Z Z λ w0 F=>mPo (λ v:au×aA=>.p (.agg (au.cs v.1))) (λ v=>[(1000000,[.p (eS v.2.fs),.p (eI v.2.fat),.p (eI v.2.fi),.p (eI v.2.Df),.p (eS v.2.D'),.vec 2000000 11 0 (v.2.C'.map av),.p (eB v.2.IN)])]) ?_;refine nx 6 rfl ?_;obtain ⟨o85,h1,Ou,hR0⟩:=cw h0;refine kEx 0 (λ R3:Bk×Int×Int×Int×Bk×(List ag)×Bool=>o85=.inl R3) (λ R3=>⟨[(2,.ptr 2 0)],[(2,cy),(1000000,[.p (eS R3.1),.p (eI R3.2.1),.p (eI R3.2.2.1),.p (eI R3.2.2.2.1),.p (eS R3.2.2.2.2.1),.vec 900000 11 0 (R3.2.2.2.2.2.1.map av),.p (eB R3.2.2.2.2.2.2)])]⟩) (λ R3 hv=>?_) ?_
  ·have h0:=Ou _ hv;exact nx 7 Z Ca
  refine lG (λ (Qf:Bk×Int×Int×Int×Bk×(List ag)×Bool)=>⟨[(0,.ptr 1000000 0),(2,.ptr 2 0)],[(2,cy),(1000000,[.p (eS Qf.1),.p (eI Qf.2.1),.p (eI Qf.2.2.1),.p (eI Qf.2.2.2.1),.p (eS Qf.2.2.2.2.1),.vec 900000 11 0 (Qf.2.2.2.2.2.1.map av),.p (eB Qf.2.2.2.2.2.2)])]⟩) (λ m (Qf:Bk×Int×Int×Int×Bk×(List ag)×Bool)=>cA n (a8 n) m Qf.1 Qf.2.1 Qf.2.2.1 Qf.2.2.2.1 Qf.2.2.2.2.1 Qf.2.2.2.2.2.1 Qf.2.2.2.2.2.2) Y (NO.fs,NO.fat,NO.fi,NO.Df,NO.D',NO.C',NO.IN) h1 (gE rfl rfl) ?_;rintro m ⟨OY,O',OO,Pb,Pz,PK,PI⟩ h1;replace h1:cA n (a8 n) (m+1) OY O' OO Pb Pz PK PI=some o85:=h1;rw [cA] at h1;refine nx 2 rfl (mD [(0,.ptr 1000000 0),(2,.ptr 2 0)] rfl ⟨rfl,rfl,trivial⟩ rfl ?_);refine dR 8 rfl (dq (.p (eI (OY.length:Int))) [12] rfl (λ _ e _ q=>ah rfl (ss rfl rfl rfl rfl rfl (e _ _ rfl) q)) rfl ?_);refine dR 1 rfl (dE rfl ?_);refine nx 1 rfl (fD [14] h1 rfl (λ Vm h1=>?_) λ Vm h1=>?_)
  ·refine nx 9 Z (cc' h1 λ T2 h1=>?_);refine mD [(0,.ptr 1000000 0),(2,.ptr 2 0),(3,.ptr 3 0)] Z ⟨Z,Z,Z,trivial⟩ Z (dR 8 Z ?_);refine dq (.p (eS (sub OY OO (OY.length:Int)))) [18,22] Z (λ _ e _ q=>ah Z (ed (a:=OY) (l:=OO) (h:=(OY.length:Int)) Z Z Z Z Z (e _ _ Z) ra Z T2 q)) Z (dR 1 Z ?_);refine dE Z (nx 1 Z ?_);refine bd h1 λ TJ h2 h1=>kN TJ (λ SS=>⟨[(0,.ptr 1000000 0),(2,.ptr 2 0),(3,.ptr 3 0)],[(2,cy),(3,[.p (eI SS.1),.p (eI SS.2.1),.p (eS SS.2.2.1)]),(1000000,[.p (eS SS.2.2.2.1),.p (eI SS.2.2.2.2.1),.p (eI SS.2.2.2.2.2.1),.p (eI SS.2.2.2.2.2.2.1),.p (eS SS.2.2.2.2.2.2.2.1),.vec 106000 11 0 (SS.2.2.2.2.2.2.2.2.1.map av),.p (eB SS.2.2.2.2.2.2.2.2.2)])]⟩) ?_ ?_
   ·refine nx 7 Z (fN [52] h1 Z (λ Vi h1=>?_) λ Vi h1=>?_)
    ·exact nx 2 Z (eX (TJ.2.2.2.1,TJ.2.2.2.2.1,TJ.2.2.2.2.2.1,TJ.2.2.2.2.2.2.1,TJ.2.2.2.2.2.2.2.1,TJ.2.2.2.2.2.2.2.2.1,TJ.2.2.2.2.2.2.2.2.2) h1 (aU (bn 106000 900000 Z Z Z Z Z) (gE Z Z)))
    exact nx 7 Z (mQo (hR0 _ (oi h1).symm) (aU (bn 106000 800000 Z Z Z Z Z) (aJ _)) Z Z Z Z (sr) ⟨⟨_,Z,⟨sr,sr,sr,sr,sr,sr,sr,trivial⟩⟩,trivial⟩)
   refine nx 4 Z (bd h2 λ Rw e45 h2=>?_);refine oK (cr (sub OY OO (OY.length:Int)) ([36,36,123]:Bk) _ e45) Z ⟨sr,sr,trivial⟩ Tryz.call110 Z (nx 2 Z ?_);refine fB [26,28] h2 Z (λ c46 h2=>?_) λ c46 h2=>?_
   ·refine nx 7 Z (oC h2 Z λ RQ h2=>?_);refine nx 10 Z (oA h2 Z Z λ Tc h2=>?_);refine nx 4 Z (mG (gE (t:=⟨[(0,.ptr 1000000 0),(2,.ptr 2 0),(3,.ptr 3 0)],[(2,cy),(3,cy),(1000000,[.p (eS OY),.p (eI O'),.p (eI (OO+3)),.p (eI Pb),.p (eS (Pz++([36,123]:Bk))),.vec 900000 11 0 (PK.map av),.p (eB PI)])]⟩) Z Z) ?_);refine nx 2 Z (bd h2 λ PP Va h2=>?_);refine mO Z (cVq [1000000] [900000] 104000 104001 (kI (aA.mk OY O' (OO+3) Pb (Pz++([36,123]:Bk)) PK PI) _ Va) Tryz.call258 Z ?_);exact nx 2 Z (eX _ (oi h2).symm (aU (bn 104000 106000 Z Z Z Z Z) (gE Z Z)))
   refine nx 4 Z (bd h2 λ OR Uc h2=>?_);refine oK (cr (sub OY OO (OY.length:Int)) ([36,123]:Bk) _ Uc) Z ⟨sr,sr,trivial⟩ Tryz.call110 Z (nx 2 Z ?_);refine fB [45,47] h2 Z (λ c53 h2=>?_) λ c53 h2=>?_
   ·refine nx 3 Z (bd h2 λ Q4 U9 h2=>?_);refine mO Z (cVq [1000000] [900000] 105000 105001 (Oz (aA.mk OY O' OO Pb Pz PK PI) _ U9) Tryz.call259 Z ?_);exact nx 2 Z (eX _ (oi h2).symm (aU (bn 105000 106000 Z Z Z Z Z) (gE Z Z)))
   refine nx 3 Z (bd h2 λ Qg e57 h2=>?_);refine mO Z (cVq [1000000] [900000] 106000 106001 (pd _ (aA.mk OY O' OO Pb Pz PK PI) _ e57) Tryz.call260 Z ?_);exact fS
  exact cH
 ·skip
  intro NL r h0;rw [aO] at h0;refine bT good [] [1000000] Tryz.func137 Z Z Z Z Z λ w0 F=>mPo (λ v:ag×af=>.p (.agg (ag.cs v.1))) (λ v=>[(1000000,((af.cs v.2).map .p))]) ?_;refine nx 7 rfl (bd h0 λ r1 e2 h0=>?_);refine mO rfl (cVq [1000000] [] 101000 101000 (Od NL 0 _ e2) Tryz.call161 rfl ?_);refine nx 7 rfl (bd h0 λ r3 e4 h0=>?_);refine mO rfl (cVq [1000000] [] 102000 102000 (bN _ r1.2 ([63]:Bk) _ e4) Tryz.call162 rfl ?_);refine nx 2 rfl (fB [10] h0 rfl (λ c5 h0=>?_) λ c5 h0=>?_)
  ·exact pD
  refine nx 5 Z (bd h0 λ r6 e7 h0=>?_);refine mO Z (cVq [1000000] [] 103000 103000 (bf _ r3.2 _ e7) Tryz.call163 Z ?_);refine nx 4 Z (bd h0 λ r8 e9 h0=>?_);refine mO Z (cVq [1000000] [] 104000 104000 (NQ r6.2 _ e9) Tryz.call137 Z ?_);refine nx 6 Z (bd h0 λ Ot Qe h0=>?_);refine mO Z (cVq [1000000] [] 105000 105000 (fO _ r8.2 ([58]:Bk) _ Qe) Tryz.call164 Z ?_);refine nx 4 Z (bd h0 λ Ov Q0 h0=>?_);refine mO Z (cVq [1000000] [] 106000 106000 (NQ Ot _ Q0) Tryz.call137 Z ?_);refine nx 8 Z (mO Z (bz av [r1.1,r8.1,Ov.1] Z Z Z Z Z Z Z Z Z Z Z Z Z lJ ?_));exact nx 6 Z x6
 ·skip
  intro NO r h0;rw [a8] at h0;refine bT good [800000] [1000000] Tryz.func259 Z Z Z Z Z λ w0 F=>mPo (λ v:au×aA=>.p (.agg (au.cs v.1))) (λ v=>[(1000000,[.p (eS v.2.fs),.p (eI v.2.fat),.p (eI v.2.fi),.p (eI v.2.Df),.p (eS v.2.D'),.vec 2000000 11 0 (v.2.C'.map av),.p (eB v.2.IN)])]) ?_;refine nx 7 rfl (bd h0 λ r1 e2 h0=>?_);refine mO rfl (cVq [1000000] [900000] 101000 101001 (kB (aA.mk NO.fs NO.fat NO.fi NO.Df NO.D' NO.C' NO.IN) _ e2) Tryz.call249 rfl ?_);refine nx 9 rfl (cc' h0 λ QY h0=>?_);refine bd h0 λ r4 e5 h0=>mD [(0,.ptr 1000000 0),(2,.ptr 2 0)] rfl ⟨rfl,rfl,trivial⟩ rfl (dR 8 rfl ?_);refine dq (.p (eI (r1.fi+2))) [18] rfl (λ _ e _ q=>ah rfl (fK Z Z Z (e _ _ rfl) Z Z QY q)) rfl (dq (.p (eI r4)) [14,19] rfl (λ _ e _ q=>ah rfl (cF (uy _ r1.fs (r1.fi+2) _ e5) Z Z Z (aQ (e _ _ rfl) (aQ (e _ _ rfl) bU)) ⟨sr,sr,trivial⟩ Tryz.call266 rfl q)) rfl ?_);refine dR 1 rfl (dE rfl ?_);refine nx 7 rfl (fD [22] h0 rfl (λ c6 h0=>?_) λ c6 h0=>?_)
  ·refine nx 2 Z (cc' h0 λ Us h0=>?_);refine mG (gE (t:=⟨[(0,.ptr 1000000 0),(2,.ptr 2 0)],[(2,cy),(1000000,[.p (eS r1.fs),.p (eI r1.fat),.p (eI r1.fi),.p (eI r1.Df),.p (eS r1.D'),.vec 101000 11 0 (r1.C'.map av),.p (eB true)])]⟩) Z Z) (mSq ⟨1,[10],(λ _=>.none),(λ _=>[(0,.ptr 1000000 0),(2,.ptr 2 0)]),(ob2 ([(2,cy),(1000000,[.p (eS r1.fs),.p (eI r1.fat),.p (eI r1.fi),.p (eI r1.Df),.p (eS r1.D'),.vec 101000 11 0 (r1.C'.map av),.p (eB true)])]) (2,[.p (eI 40),.p (eI (r1.fat+r1.fi)),.p (eS ([]:Bk))]))⟩ Z ?_);refine dPc (.ptr 1000000 0) Z (dPc (.ptr 1000000 0) Z ?_);refine dPc (.ptr 1000000 1) Z (dPc (.p (eI r1.fat)) Z ?_);refine dPc (.ptr 1000000 0) Z (dPc (.ptr 1000000 0) Z ?_);refine dPc (.ptr 1000000 2) Z (dPc (.p (eI r1.fi)) Z ?_);refine ar (λ _=>.p (eI (r1.fat+r1.fi))) Z Z Z (dG Z Y) (lt1 Z) (ak Z (ai [(26,_),(30,_)] ⟨.inr ⟨3,_,Z,Z,Z⟩,.inr ⟨7,_,Z,Z,Z⟩,trivial⟩ (λ sl NI K hK=>ah Z (fK Z Z Z (NI _ _ Z) (NI _ _ Z) Z Us hK)) ap)) (dPc (.p (.agg [eI 40,eI (r1.fat+r1.fi),eS ([]:Bk)])) Z ?_);refine dS Z (cV ?_);exact nx 2 Z CM
  refine nx 3 Z (cc' h0 λ SC h0=>?_);refine cc' h0 λ Rk h0=>cc' h0 λ Po h0=>cc' h0 λ Qd h0=>bd h0 λ Ov Q0 h0=>mG (gE (t:=⟨[(0,.ptr 1000000 0),(2,.ptr 2 0),(3,.p (eI r4))],[(2,cy),(1000000,[.p (eS r1.fs),.p (eI r1.fat),.p (eI r1.fi),.p (eI r1.Df),.p (eS r1.D'),.vec 101000 11 0 (r1.C'.map av),.p (eB true)])]⟩) Z Z) (mSS ⟨4,[25,26,27,28],(by5 (.some λ i=>Nat.beq i 4) (.some λ i=>Nat.beq i 5) .none .none .none),(λ _=>[(0,.ptr 1000000 0),(2,.ptr 2 0),(3,.p (eI r4))]),(ob5 ([(2,cy),(1000000,[.p (eS r1.fs),.p (eI r1.fat),.p (eI r1.fi),.p (eI r1.Df),.p (eS r1.D'),.vec 101000 11 0 (r1.C'.map av),.p (eB true)])]) (4,bu) (5,cy) (4,((ag.cs Ov.1).map .p)) (5,((au.cs Ov.2).map .p)))⟩ ⟨4,[26,25,27,28],(by5 (.some λ i=>Nat.beq i 5) (.some λ i=>Nat.beq i 4) .none .none .none),(λ _=>[(0,.ptr 1000000 0),(2,.ptr 2 0),(3,.p (eI r4))]),(ob5 ([(2,cy),(1000000,[.p (eS r1.fs),.p (eI r1.fat),.p (eI r1.fi),.p (eI r1.Df),.p (eS r1.D'),.vec 101000 11 0 (r1.C'.map av),.p (eB true)])]) (5,cy) (4,bu) (4,((ag.cs Ov.1).map .p)) (5,((au.cs Ov.2).map .p)))⟩ Z Z Z Z Z Z Z ⟨Z,Z,Z,trivial⟩ Z (lt4 ⟨Z,Z,Z,trivial⟩ ⟨Z,Z,Z,trivial⟩ ⟨Z,Z,Z,trivial⟩ ⟨Z,Z,Z,trivial⟩) (lt4 ⟨Z,Z,Z,trivial⟩ ⟨Z,Z,Z,trivial⟩ ⟨Z,Z,Z,trivial⟩ ⟨Z,Z,Z,trivial⟩) Z Z Z Z Z ?_);refine dPc (.ptr 1000000 0) Z (dPc (.ptr 1000000 0) Z ?_);refine dPc (.ptr 1000000 0) Z (dPc (.p (eS r1.fs)) Z ?_);refine dPc (.ptr 1000000 0) Z (dPc (.ptr 1000000 0) Z ?_);refine dPc (.ptr 1000000 2) Z (dPc (.p (eI r1.fi)) Z ?_);refine ar (λ _=>.p (eI (r1.fi+2))) Z Z Z (uu Z Z Z Z Y) (lt4 Z Z Z Z) (ak Z (ak Z (ai [(41,_)] ⟨.inr ⟨7,_,Z,Z,Z⟩,trivial⟩ (λ sl NI K hK=>ah Z (fK Z Z Z (NI _ _ Z) Z Z SC hK)) (ai [(41,_)] ⟨.inr ⟨7,_,Z,Z,Z⟩,trivial⟩ (λ sl NI K hK=>ah Z (fK Z Z Z (NI _ _ Z) Z Z SC hK)) (ai [(41,_)] ⟨.inr ⟨7,_,Z,Z,Z⟩,trivial⟩ (λ sl NI K hK=>ah Z (fK Z Z Z (NI _ _ Z) Z Z SC hK)) ap))))) (dPc (.p (eI r4)) Z ?_);refine ar (λ _=>.p (eS (sub r1.fs (r1.fi+2) r4))) Z Z Z (uu Z Z Z Z Y) (lt4 Z Z Z Z) (ak Z (ak Z (ai [(37,_),(42,_),(43,_)] ⟨.inr ⟨3,_,Z,Z,Z⟩,.inr ⟨8,_,Z,Z,Z⟩,.inr ⟨9,_,Z,Z,Z⟩,trivial⟩ (λ sl NI K hK=>ah Z (ed (a:=r1.fs) (l:=r1.fi+2) (h:=r4) Z Z Z Z Z (NI _ _ Z) nF oQ Rk hK)) (ai [(37,_),(42,_),(43,_)] ⟨.inr ⟨3,_,Z,Z,Z⟩,.inr ⟨8,_,Z,Z,Z⟩,.inr ⟨9,_,Z,Z,Z⟩,trivial⟩ (λ sl NI K hK=>ah Z (ed (a:=r1.fs) (l:=r1.fi+2) (h:=r4) Z Z Z Z Z (NI _ _ Z) nF oQ Rk hK)) (ai [(37,_),(42,_),(43,_)] ⟨.inr ⟨3,_,Z,Z,Z⟩,.inr ⟨8,_,Z,Z,Z⟩,.inr ⟨9,_,Z,Z,Z⟩,trivial⟩ (λ sl NI K hK=>ah Z (ed (a:=r1.fs) (l:=r1.fi+2) (h:=r4) Z Z Z Z Z (NI _ _ Z) nF oQ Rk hK)) ap))))) (dPc (.ptr 1000000 0) Z ?_);refine dPc (.ptr 1000000 0) Z (dPc (.ptr 1000000 1) Z ?_);refine dPc (.p (eI r1.fat)) Z (dPc (.ptr 1000000 0) Z ?_);refine dPc (.ptr 1000000 0) Z (dPc (.ptr 1000000 2) Z ?_);refine dPc (.p (eI r1.fi)) Z (ar (λ _=>.p (eI (r1.fat+r1.fi))) Z Z Z (uu Z Z Z Z Y) (lt4 Z Z Z Z) (ak Z (ak Z (ai [(48,_),(52,_)] ⟨.inr ⟨14,_,Z,Z,Z⟩,.inr ⟨18,_,Z,Z,Z⟩,trivial⟩ (λ sl NI K hK=>ah Z (fK Z Z Z (NI _ _ Z) (NI _ _ Z) Z Po hK)) (ai [(48,_),(52,_)] ⟨.inr ⟨14,_,Z,Z,Z⟩,.inr ⟨18,_,Z,Z,Z⟩,trivial⟩ (λ sl NI K hK=>ah Z (fK Z Z Z (NI _ _ Z) (NI _ _ Z) Z Po hK)) (ai [(48,_),(52,_)] ⟨.inr ⟨14,_,Z,Z,Z⟩,.inr ⟨18,_,Z,Z,Z⟩,trivial⟩ (λ sl NI K hK=>ah Z (fK Z Z Z (NI _ _ Z) (NI _ _ Z) Z Po hK)) ap))))) ?_);refine ar (λ _=>.p (eI ((r1.fat+r1.fi)+2))) Z Z Z (uu Z Z Z Z Y) (lt4 Z Z Z Z) (ak Z (ak Z (ai [(53,_)] ⟨.inr ⟨19,_,Z,Z,Z⟩,trivial⟩ (λ sl NI K hK=>ah Z (fK Z Z Z (NI _ _ Z) Z Z Qd hK)) (ai [(53,_)] ⟨.inr ⟨19,_,Z,Z,Z⟩,trivial⟩ (λ sl NI K hK=>ah Z (fK Z Z Z (NI _ _ Z) Z Z Qd hK)) (ai [(53,_)] ⟨.inr ⟨19,_,Z,Z,Z⟩,trivial⟩ (λ sl NI K hK=>ah Z (fK Z Z Z (NI _ _ Z) Z Z Qd hK)) ap))))) (ar (λ _=>.tuple [.p (.agg (ag.cs Ov.1)),.p (.agg (au.cs Ov.2))]) Z Z Z (uu Z Z Z Z Y) (lt4 Z Z Z Z) (ak Z (ak Z (ai [(44,_),(54,_)] ⟨.inr ⟨10,_,Z,Z,Z⟩,.inr ⟨20,_,Z,Z,Z⟩,trivial⟩ (λ sl NI K hK=>ah Z (cF (N' (sub r1.fs (r1.fi+2) r4) ((r1.fat+r1.fi)+2) _ Q0) Z Z Z (aQ (NI _ _ Z) (aQ (NI _ _ Z) bU)) ⟨sr,sr,trivial⟩ Tryz.call267 Z hK)) (ai [(44,_),(54,_)] ⟨.inr ⟨10,_,Z,Z,Z⟩,.inr ⟨20,_,Z,Z,Z⟩,trivial⟩ (λ sl NI K hK=>ah Z (cF (N' (sub r1.fs (r1.fi+2) r4) ((r1.fat+r1.fi)+2) _ Q0) Z Z Z (aQ (NI _ _ Z) (aQ (NI _ _ Z) bU)) ⟨sr,sr,trivial⟩ Tryz.call267 Z hK)) (ai [(44,_),(54,_)] ⟨.inr ⟨10,_,Z,Z,Z⟩,.inr ⟨20,_,Z,Z,Z⟩,trivial⟩ (λ sl NI K hK=>ah Z (cF (N' (sub r1.fs (r1.fi+2) r4) ((r1.fat+r1.fi)+2) _ Q0) Z Z Z (aQ (NI _ _ Z) (aQ (NI _ _ Z) bU)) ⟨sr,sr,trivial⟩ Tryz.call267 Z hK)) ap))))) ?_);refine dPc (.tuple [.p (.agg (ag.cs Ov.1)),.p (.agg (au.cs Ov.2))]) Z (dPc (.p (.agg (ag.cs Ov.1))) Z ?_);refine dPc (.p (.agg (au.cs Ov.2))) Z (dB (λ _=>.ptr 4 0) [] Z trivial Z Z (fh Z Z Z Y) (lt4 (λ h=>absurd h (by decide)) Y Y Y) (λ sl NI K hK=>ah Z (fP Z Z Z Z Z hK)) ?_);refine dB (λ _=>.ptr 5 0) [] Z trivial Z Z (cM Z Z Y) (lt4 (λ h=>absurd h (by decide)) (λ h=>absurd h (by decide)) Y Y) (λ sl NI K hK=>ah Z (fP Z Z Z Z Z hK)) (dS Z ?_);refine dS Z (wl (dPc (.ptr 1000000 0) Z (dPc (.ptr 1000000 0) Z (dPc (.ptr 1000000 0) Z (dPc (.p (eS r1.fs)) Z (dPc (.ptr 1000000 0) Z (dPc (.ptr 1000000 0) Z (dPc (.ptr 1000000 2) Z (dPc (.p (eI r1.fi)) Z (ar (λ _=>.p (eI (r1.fi+2))) Z Z Z (uu Z Z Z Z Y) (lt4 Z Z Z Z) (ak Z (ak Z (ai [(41,_)] ⟨.inr ⟨7,_,Z,Z,Z⟩,trivial⟩ (λ sl NI K hK=>ah Z (fK Z Z Z (NI _ _ Z) Z Z SC hK)) (ai [(41,_)] ⟨.inr ⟨7,_,Z,Z,Z⟩,trivial⟩ (λ sl NI K hK=>ah Z (fK Z Z Z (NI _ _ Z) Z Z SC hK)) (ai [(41,_)] ⟨.inr ⟨7,_,Z,Z,Z⟩,trivial⟩ (λ sl NI K hK=>ah Z (fK Z Z Z (NI _ _ Z) Z Z SC hK)) ap))))) (dPc (.p (eI r4)) Z (ar (λ _=>.p (eS (sub r1.fs (r1.fi+2) r4))) Z Z Z (uu Z Z Z Z Y) (lt4 Z Z Z Z) (ak Z (ak Z (ai [(37,_),(42,_),(43,_)] ⟨.inr ⟨3,_,Z,Z,Z⟩,.inr ⟨8,_,Z,Z,Z⟩,.inr ⟨9,_,Z,Z,Z⟩,trivial⟩ (λ sl NI K hK=>ah Z (ed (a:=r1.fs) (l:=r1.fi+2) (h:=r4) Z Z Z Z Z (NI _ _ Z) nF oQ Rk hK)) (ai [(37,_),(42,_),(43,_)] ⟨.inr ⟨3,_,Z,Z,Z⟩,.inr ⟨8,_,Z,Z,Z⟩,.inr ⟨9,_,Z,Z,Z⟩,trivial⟩ (λ sl NI K hK=>ah Z (ed (a:=r1.fs) (l:=r1.fi+2) (h:=r4) Z Z Z Z Z (NI _ _ Z) nF oQ Rk hK)) (ai [(37,_),(42,_),(43,_)] ⟨.inr ⟨3,_,Z,Z,Z⟩,.inr ⟨8,_,Z,Z,Z⟩,.inr ⟨9,_,Z,Z,Z⟩,trivial⟩ (λ sl NI K hK=>ah Z (ed (a:=r1.fs) (l:=r1.fi+2) (h:=r4) Z Z Z Z Z (NI _ _ Z) nF oQ Rk hK)) ap))))) (dPc (.ptr 1000000 0) Z (dPc (.ptr 1000000 0) Z (dPc (.ptr 1000000 1) Z (dPc (.p (eI r1.fat)) Z (dPc (.ptr 1000000 0) Z (dPc (.ptr 1000000 0) Z (dPc (.ptr 1000000 2) Z (dPc (.p (eI r1.fi)) Z (ar (λ _=>.p (eI (r1.fat+r1.fi))) Z Z Z (uu Z Z Z Z Y) (lt4 Z Z Z Z) (ak Z (ak Z (ai [(48,_),(52,_)] ⟨.inr ⟨14,_,Z,Z,Z⟩,.inr ⟨18,_,Z,Z,Z⟩,trivial⟩ (λ sl NI K hK=>ah Z (fK Z Z Z (NI _ _ Z) (NI _ _ Z) Z Po hK)) (ai [(48,_),(52,_)] ⟨.inr ⟨14,_,Z,Z,Z⟩,.inr ⟨18,_,Z,Z,Z⟩,trivial⟩ (λ sl NI K hK=>ah Z (fK Z Z Z (NI _ _ Z) (NI _ _ Z) Z Po hK)) (ai [(48,_),(52,_)] ⟨.inr ⟨14,_,Z,Z,Z⟩,.inr ⟨18,_,Z,Z,Z⟩,trivial⟩ (λ sl NI K hK=>ah Z (fK Z Z Z (NI _ _ Z) (NI _ _ Z) Z Po hK)) ap))))) (ar (λ _=>.p (eI ((r1.fat+r1.fi)+2))) Z Z Z (uu Z Z Z Z Y) (lt4 Z Z Z Z) (ak Z (ak Z (ai [(53,_)] ⟨.inr ⟨19,_,Z,Z,Z⟩,trivial⟩ (λ sl NI K hK=>ah Z (fK Z Z Z (NI _ _ Z) Z Z Qd hK)) (ai [(53,_)] ⟨.inr ⟨19,_,Z,Z,Z⟩,trivial⟩ (λ sl NI K hK=>ah Z (fK Z Z Z (NI _ _ Z) Z Z Qd hK)) (ai [(53,_)] ⟨.inr ⟨19,_,Z,Z,Z⟩,trivial⟩ (λ sl NI K hK=>ah Z (fK Z Z Z (NI _ _ Z) Z Z Qd hK)) ap))))) (ar (λ _=>.tuple [.p (.agg (ag.cs Ov.1)),.p (.agg (au.cs Ov.2))]) Z Z Z (uu Z Z Z Z Y) (lt4 Z Z Z Z) (ak Z (ak Z (ai [(44,_),(54,_)] ⟨.inr ⟨10,_,Z,Z,Z⟩,.inr ⟨20,_,Z,Z,Z⟩,trivial⟩ (λ sl NI K hK=>ah Z (cF (N' (sub r1.fs (r1.fi+2) r4) ((r1.fat+r1.fi)+2) _ Q0) Z Z Z (aQ (NI _ _ Z) (aQ (NI _ _ Z) bU)) ⟨sr,sr,trivial⟩ Tryz.call267 Z hK)) (ai [(44,_),(54,_)] ⟨.inr ⟨10,_,Z,Z,Z⟩,.inr ⟨20,_,Z,Z,Z⟩,trivial⟩ (λ sl NI K hK=>ah Z (cF (N' (sub r1.fs (r1.fi+2) r4) ((r1.fat+r1.fi)+2) _ Q0) Z Z Z (aQ (NI _ _ Z) (aQ (NI _ _ Z) bU)) ⟨sr,sr,trivial⟩ Tryz.call267 Z hK)) (ai [(44,_),(54,_)] ⟨.inr ⟨10,_,Z,Z,Z⟩,.inr ⟨20,_,Z,Z,Z⟩,trivial⟩ (λ sl NI K hK=>ah Z (cF (N' (sub r1.fs (r1.fi+2) r4) ((r1.fat+r1.fi)+2) _ Q0) Z Z Z (aQ (NI _ _ Z) (aQ (NI _ _ Z) bU)) ⟨sr,sr,trivial⟩ Tryz.call267 Z hK)) ap))))) (dPc (.tuple [.p (.agg (ag.cs Ov.1)),.p (.agg (au.cs Ov.2))]) Z (dPc (.p (.agg (ag.cs Ov.1))) Z (dPc (.p (.agg (au.cs Ov.2))) Z (dB (λ _=>.ptr 4 0) [] Z trivial Z Z (cM Z Z Y) (lt4 (λ h=>absurd h (by decide)) (λ h=>absurd h (by decide)) Y Y) (λ sl NI K hK=>ah Z (fP Z Z Z Z Z hK)) (dB (λ _=>.ptr 5 0) [] Z trivial Z Z (fh Z Z Z Y) (lt4 (λ h=>absurd h (by decide)) Y Y Y) (λ sl NI K hK=>ah Z (fP Z Z Z Z Z hK)) (dS Z (dS Z (IA Z ⟨Z,Z,Z,Z,Z,Z,trivial⟩ ⟨⟨Z,Z,.inl Z⟩,⟨⟨Z,Z,.inl Z⟩,⟨⟨Z,Z,.inr Z⟩,⟨⟨Z,Z,.inr Z⟩,⟨⟨Z,Z,.inr Z⟩,⟨⟨Z,Z,.inr Z⟩,⟨⟨Z,Z,.inr Z⟩,⟨⟨Z,Z,.inr Z⟩,⟨⟨Z,Z,.inr Z⟩,⟨⟨Z,Z,.inr Z⟩,⟨⟨Z,Z,.inr Z⟩,⟨⟨Z,Z,.inr Z⟩,⟨⟨Z,Z,.inr Z⟩,⟨⟨Z,Z,.inr Z⟩,⟨⟨Z,Z,.inr Z⟩,⟨⟨Z,Z,.inr Z⟩,⟨⟨Z,Z,.inr Z⟩,⟨⟨Z,Z,.inr Z⟩,⟨⟨Z,Z,.inr Z⟩,⟨⟨Z,Z,.inr Z⟩,⟨⟨Z,Z,.inr Z⟩,⟨⟨Z,Z,.inr Z⟩,⟨⟨Z,Z,.inr Z⟩,⟨⟨Z,Z,.inr Z⟩,⟨⟨Z,Z,.inr Z⟩,⟨⟨Z,Z,.inr Z⟩,⟨⟨Z,Z,.inr Z⟩,trivial⟩⟩⟩⟩⟩⟩⟩⟩⟩⟩⟩⟩⟩⟩⟩⟩⟩⟩⟩⟩⟩⟩⟩⟩⟩⟩⟩)))))))))))))))))))))))))))))) ?_);refine nx 1 Z (mG (gE (t:=⟨[(0,.ptr 1000000 0),(2,.ptr 2 0),(3,.p (eI r4)),(4,.ptr 4 0),(5,.ptr 5 0)],[(2,cy),(4,(ag.cs Ov.1).map .p),(5,(au.cs Ov.2).map .p),(1000000,[.p (eS r1.fs),.p (eI r1.fat),.p (eI r1.fi),.p (eI r1.Df),.p (eS r1.D'),.vec 101000 11 0 (r1.C'.map av),.p (eB true)])]⟩) Z Z) ?_);refine nx 7 Z (fN [60] h0 Z (λ Rv h0=>?_) λ Rv h0=>?_)
  ·refine nx 3 Z (cc' h0 λ Qo h0=>?_);refine mG (gE (t:=⟨[(0,.ptr 1000000 0),(2,.ptr 2 0),(3,.p (eI r4)),(4,.ptr 4 0)],[(2,cy),(4,(ag.cs Ov.1).map .p),(1000000,[.p (eS r1.fs),.p (eI r1.fat),.p (eI r1.fi),.p (eI r1.Df),.p (eS r1.D'),.vec 101000 11 0 (r1.C'.map av),.p (eB true)])]⟩) Z Z) (mSP ⟨3,[7,9,12],(by4 (.some λ i=>Nat.beq i 101000||Nat.beq i 69) (.fn (upP 69 11 (.agg (ag.cs Ov.1)))) .none .none),(λ _=>[(0,.ptr 1000000 0),(2,.ptr 2 0),(3,.p (eI r4)),(4,.ptr 4 0)]),(by4 ([(2,cy),(4,((ag.cs Ov.1).map .p)),(1000000,[.p (eS r1.fs),.p (eI r1.fat),.p (eI r1.fi),.p (eI r1.Df),.p (eS r1.D'),.vec 101000 11 0 (r1.C'.map av),.p (eB true)])]) ([(2,cy),(4,((ag.cs Ov.1).map .p)),(1000000,[.p (eS r1.fs),.p (eI r1.fat),.p (eI r1.fi),.p (eI r1.Df),.p (eS r1.D'),.p (eL av r1.C'),.p (eB true)])]) ([(2,cy),(4,((ag.cs Ov.1).map .p)),(1000000,[.p (eS r1.fs),.p (eI r1.fat),.p (eI r1.fi),.p (eI r1.Df),.p (eS r1.D'),.p (eL av r1.C'),.p (eB true)])]) ([(1000000,[.p (eS r1.fs),.p (eI r1.fat),.p (eI r1.fi),.p (eI r1.Df),.p (eS r1.D'),.vec 69 11 0 (r1.C'.map av++[.agg (ag.cs Ov.1)]),.p (eB true)]),(2,cy),(4,((ag.cs Ov.1).map .p)),(1000000,[.p (eS r1.fs),.p (eI r1.fat),.p (eI r1.fi),.p (eI r1.Df),.p (eS r1.D'),.p (eL av r1.C'),.p (eB true)])]))⟩ ⟨3,[7,12,9],(by4 (.some λ i=>Nat.beq i 101000||Nat.beq i 69) .none (.fn (upP 69 11 (.agg (ag.cs Ov.1)))) .none),(λ _=>[(0,.ptr 1000000 0),(2,.ptr 2 0),(3,.p (eI r4)),(4,.ptr 4 0)]),(by4 ([(2,cy),(4,((ag.cs Ov.1).map .p)),(1000000,[.p (eS r1.fs),.p (eI r1.fat),.p (eI r1.fi),.p (eI r1.Df),.p (eS r1.D'),.vec 101000 11 0 (r1.C'.map av),.p (eB true)])]) ([(2,cy),(4,((ag.cs Ov.1).map .p)),(1000000,[.p (eS r1.fs),.p (eI r1.fat),.p (eI r1.fi),.p (eI r1.Df),.p (eS r1.D'),.p (eL av r1.C'),.p (eB true)])]) ([(1000000,[.p (eS r1.fs),.p (eI r1.fat),.p (eI r1.fi),.p (eI r1.Df),.p (eS r1.D'),.vecp 69 11 0 (r1.C'.map av),.p (eB true)]),(2,cy),(4,((ag.cs Ov.1).map .p)),(1000000,[.p (eS r1.fs),.p (eI r1.fat),.p (eI r1.fi),.p (eI r1.Df),.p (eS r1.D'),.p (eL av r1.C'),.p (eB true)])]) ([(1000000,[.p (eS r1.fs),.p (eI r1.fat),.p (eI r1.fi),.p (eI r1.Df),.p (eS r1.D'),.vec 69 11 0 (r1.C'.map av++[.agg (ag.cs Ov.1)]),.p (eB true)]),(2,cy),(4,((ag.cs Ov.1).map .p)),(1000000,[.p (eS r1.fs),.p (eI r1.fat),.p (eI r1.fi),.p (eI r1.Df),.p (eS r1.D'),.p (eL av r1.C'),.p (eB true)])]))⟩ Z Z Z Z Z Z Z ⟨Z,Z,Z,Z,trivial⟩ Z (lt3 ⟨Z,Z,Z,Z,trivial⟩ ⟨Z,Z,Z,Z,trivial⟩ ⟨Z,Z,Z,Z,trivial⟩) (lt3 ⟨Z,Z,Z,Z,trivial⟩ ⟨Z,Z,Z,Z,trivial⟩ ⟨Z,Z,Z,Z,trivial⟩) Z Z Z Z Z ?_);refine dPc (.ptr 1000000 0) Z (dPc (.ptr 1000000 0) Z ?_);refine dPc (.ptr 1000000 5) Z (dP (by4 (.vec 101000 11 0 (r1.C'.map av)) (.p (eL av r1.C')) (.p (eL av r1.C')) (.p (eL av r1.C'))) Z ?_);refine dPc (.p (.agg (ag.cs Ov.1))) Z (ar (λ _=>.p (eI (r1.C'.length:Int))) Z Z Z (fh Z Z Z Y) (lt3 Z Z Z) (ak Z (ak Z (ak Z (ai [(65,_)] ⟨.inr ⟨3,_,Z,Z,Z⟩,trivial⟩ (λ sl NI K hK=>ah Z (jN (f:=av) (l:=r1.C') Z Z Z Z Z (NI _ _ Z) Z hK)) ap)))) ?_);refine ar (λ _=>.p (eL (λ x:PV=>x) [.agg nW])) Z Z Z (fh Z Z Z Y) (lt3 Z Z Z) (ak Z (ak Z (ak Z (ai [] trivial (λ sl NI K hK=>ah Z (bz (λ x:PV=>x) [.agg nW] Z Z Z Z Z Z (du Z Z eA) Z Z Z Z Z Z Z hK)) ap)))) (dB (by4 (.vecp 69 11 0 (r1.C'.map av)) (.vecp 69 11 0 (r1.C'.map av)) (.vec 69 11 0 (r1.C'.map av++[.agg (ag.cs Ov.1)])) (.vec 69 11 0 (r1.C'.map av++[.agg (ag.cs Ov.1)]))) [(65,_),(68,_)] Z ⟨.inr ⟨3,_,Z,Z,Z⟩,.inr ⟨6,_,Z,Z,Z⟩,trivial⟩ Z Z (cM Z Z Y) (lt3 (λ h=>absurd h (by decide)) Y Y) (λ sl NI K hK=>ah Z (oc av r1.C' Z Z Z Z Z Z Z Z (NI _ _ Z) Z Z (NI _ _ Z) Z Z Z Z Z Qo hK)) ?_);refine mj (by4 (.elp 69 11) (.elp 69 11) .undef .undef) Z Z Z (fh Z Z Z Y) (lt3 (nl Z) Y Y) (ak Z (ak Z (ai [(67,_),(69,_)] ⟨.inr ⟨5,_,Z,Z,Z⟩,.inr ⟨7,_,Z,Z,Z⟩,trivial⟩ (λ sl NI K hK=>ah Z (lV Z Z Z Z Z Z Z (NI _ _ Z) (NI _ _ Z) oD hK)) (ak Z ap)))) (dI [(66,_),(70,_)] Z ⟨.inr ⟨4,_,Z,Z,Z⟩,.inr ⟨8,_,Z,Z,Z⟩,trivial⟩ Z (λ sl NI K hK=>ah Z (tc (z:=.agg (ag.cs Ov.1)) Z Z Z Z (NI _ _ Z) (NI _ _ Z) Z Z Z Z Z hK)) ?_);refine dPc (.ptr 1000000 0) Z (dPc (.ptr 1000000 5) Z ?_);refine dS Z (wl (dPc (.ptr 1000000 0) Z (dPc (.ptr 1000000 0) Z (dPc (.ptr 1000000 5) Z (dP (by4 (.vec 101000 11 0 (r1.C'.map av)) (.p (eL av r1.C')) (.p (eL av r1.C')) (.p (eL av r1.C'))) Z (dPc (.p (.agg (ag.cs Ov.1))) Z (ar (λ _=>.p (eI (r1.C'.length:Int))) Z Z Z (fh Z Z Z Y) (lt3 Z Z Z) (ak Z (ak Z (ak Z (ai [(65,_)] ⟨.inr ⟨3,_,Z,Z,Z⟩,trivial⟩ (λ sl NI K hK=>ah Z (jN (f:=av) (l:=r1.C') Z Z Z Z Z (NI _ _ Z) Z hK)) ap)))) (ar (λ _=>.p (eL (λ x:PV=>x) [.agg nW])) Z Z Z (fh Z Z Z Y) (lt3 Z Z Z) (ak Z (ak Z (ak Z (ai [] trivial (λ sl NI K hK=>ah Z (bz (λ x:PV=>x) [.agg nW] Z Z Z Z Z Z (du Z Z eA) Z Z Z Z Z Z Z hK)) ap)))) (dB (by4 (.vecp 69 11 0 (r1.C'.map av)) (.vecp 69 11 0 (r1.C'.map av)) (.vecp 69 11 0 (r1.C'.map av)) (.vec 69 11 0 (r1.C'.map av++[.agg (ag.cs Ov.1)]))) [(65,_),(68,_)] Z ⟨.inr ⟨3,_,Z,Z,Z⟩,.inr ⟨6,_,Z,Z,Z⟩,trivial⟩ Z Z (cM Z Z Y) (lt3 (λ h=>absurd h (by decide)) Y Y) (λ sl NI K hK=>ah Z (oc av r1.C' Z Z Z Z Z Z Z Z (NI _ _ Z) Z Z (NI _ _ Z) Z Z Z Z Z Qo hK)) (mj (by4 (.elp 69 11) (.elp 69 11) (.elp 69 11) .undef) Z Z Z (fh Z Z Z Y) (lt3 (nl Z) Y Y) (ak Z (ai [(67,_),(69,_)] ⟨.inr ⟨5,_,Z,Z,Z⟩,.inr ⟨7,_,Z,Z,Z⟩,trivial⟩ (λ sl NI K hK=>ah Z (lV Z Z Z Z Z Z Z (NI _ _ Z) (NI _ _ Z) oD hK)) (ai [(67,_),(69,_)] ⟨.inr ⟨5,_,Z,Z,Z⟩,.inr ⟨7,_,Z,Z,Z⟩,trivial⟩ (λ sl NI K hK=>ah Z (lV Z Z Z Z Z Z Z (NI _ _ Z) (NI _ _ Z) oD hK)) (ak Z ap)))) (dI [(66,_),(70,_)] Z ⟨.inr ⟨4,_,Z,Z,Z⟩,.inr ⟨8,_,Z,Z,Z⟩,trivial⟩ Z (λ sl NI K hK=>ah Z (tc (z:=.agg (ag.cs Ov.1)) Z Z Z Z (NI _ _ Z) (NI _ _ Z) Z Z Z Z Z hK)) (dPc (.ptr 1000000 0) Z (dPc (.ptr 1000000 5) Z (dS Z (y7 Z ⟨Z,Z,Z,Z,trivial⟩ ⟨⟨Z,Z,.inr Z⟩,⟨⟨Z,Z,.inr Z⟩,⟨⟨Z,Z,.inr Z⟩,⟨⟨Z,Z,.inr Z⟩,⟨⟨Z,Z,.inr Z⟩,⟨⟨Z,Z,.inr Z⟩,⟨⟨Z,Z,.inr Z⟩,⟨⟨Z,Z,.inr Z⟩,⟨⟨Z,Z,.inr Z⟩,⟨⟨Z,Z,.inr Z⟩,⟨⟨Z,Z,.inr Z⟩,trivial⟩⟩⟩⟩⟩⟩⟩⟩⟩⟩⟩)))))))))))))) ?_);refine mG (cG (t:=⟨[(0,.ptr 1000000 0),(2,.ptr 2 0),(3,.p (eI r4))],[(2,cy),(1000000,[.p (eS r1.fs),.p (eI r1.fat),.p (eI r1.fi),.p (eI r1.Df),.p (eS r1.D'),.vec 69 11 0 ((r1.C'++[Ov.1]).map av),.p (eB true)])]⟩) (jv ⟨er Z,er Z,er Z,trivial⟩ ⟨⟨_,Z,⟨sr,sr,sr,trivial⟩⟩,⟨_,Z,⟨sr,sr,sr,sr,sr,AV.sub_of_eq Ip,sr,trivial⟩⟩,trivial⟩)) (nx 5 Z ?_);exact oA h0 Z Z λ RR h0=>nx 21 Z (mQo (oi h0) (aU (bn 69 800000 Z Z Z Z Z) (aJ _)) Z Z Z Z (sr) ⟨⟨_,Z,⟨sr,sr,sr,sr,sr,sr,sr,trivial⟩⟩,trivial⟩)
  exact nx 7 Z CM
 ·skip
  intro NL NT r h0;rw [br] at h0;refine bT good [] [1000000] Tryz.func161 Z Z Z Z Z λ w0 F=>mPo (λ v:ag×af=>.p (.agg (ag.cs v.1))) (λ v=>[(1000000,((af.cs v.2).map .p))]) ?_;refine nx 10 rfl (fD [10] h0 rfl (λ c1 h0=>?_) λ c1 h0=>?_)
  ·refine nx 4 Z (bd h0 λ r2 e3 h0=>?_);refine mO Z (cVq [1000000] [] 101000 101000 (Ox NL _ e3) Tryz.call184 Z ?_);exact kY
  refine nx 6 rfl (oA h0 Z Z λ Rq h0=>?_);refine bd h0 λ r5 e6 h0=>mO rfl (cVq [1000000] [] 102000 102000 (Od NL (NT+1) _ e6) Tryz.call161 rfl ?_);refine nx 4 rfl ?_;obtain ⟨o90,h1,Ou,hR0⟩:=cw h0;refine kEx 0 (λ SR:(List ac)×Int×Int×Int×Int×Int×Bk=>o90=.inl SR) (λ SR=>⟨[],[(1000000,[.p (eL az SR.1),.p (eI SR.2.1),.p (eI SR.2.2.1),.p (eI SR.2.2.2.1),.p (eI SR.2.2.2.2.1),.p (eI SR.2.2.2.2.2.1),.p (eS SR.2.2.2.2.2.2)])]⟩) (λ SR hv=>?_) ?_
  ·exact yR
  refine lG (λ (Pt:Int×Int×Bk×Bk×Int×Int×Bk×(List aw)×(List Bk)×(List ag)×(List ac)×Int×Int×Int×Int×Int×Bk)=>⟨[(0,.ptr 1000000 0),(1,.p (eI NT)),(4,.ptr 4 0),(5,.ptr 5 0)],[(4,bu),(5,[.p (eI Pt.1),.p (eI Pt.2.1),.p (eS Pt.2.2.1),.p (eS Pt.2.2.2.1),.p (eI Pt.2.2.2.2.1),.p (eI Pt.2.2.2.2.2.1),.p (eS Pt.2.2.2.2.2.2.1),.p (eL bw Pt.2.2.2.2.2.2.2.1),.p (eL eS Pt.2.2.2.2.2.2.2.2.1),.p (eL av Pt.2.2.2.2.2.2.2.2.2.1),.p (eI r5.1.fAt)]),(1000000,[.p (eL az Pt.2.2.2.2.2.2.2.2.2.2.1),.p (eI Pt.2.2.2.2.2.2.2.2.2.2.2.1),.p (eI Pt.2.2.2.2.2.2.2.2.2.2.2.2.1),.p (eI Pt.2.2.2.2.2.2.2.2.2.2.2.2.2.1),.p (eI Pt.2.2.2.2.2.2.2.2.2.2.2.2.2.2.1),.p (eI Pt.2.2.2.2.2.2.2.2.2.2.2.2.2.2.2.1),.p (eS Pt.2.2.2.2.2.2.2.2.2.2.2.2.2.2.2.2)])]⟩) (λ m (Pt:Int×Int×Bk×Bk×Int×Int×Bk×(List aw)×(List Bk)×(List ag)×(List ac)×Int×Int×Int×Int×Int×Bk)=>cn n (br n) NT r5 m Pt.1 Pt.2.1 Pt.2.2.1 Pt.2.2.2.1 Pt.2.2.2.2.1 Pt.2.2.2.2.2.1 Pt.2.2.2.2.2.2.1 Pt.2.2.2.2.2.2.2.1 Pt.2.2.2.2.2.2.2.2.1 Pt.2.2.2.2.2.2.2.2.2.1 Pt.2.2.2.2.2.2.2.2.2.2.1 Pt.2.2.2.2.2.2.2.2.2.2.2.1 Pt.2.2.2.2.2.2.2.2.2.2.2.2.1 Pt.2.2.2.2.2.2.2.2.2.2.2.2.2.1 Pt.2.2.2.2.2.2.2.2.2.2.2.2.2.2.1 Pt.2.2.2.2.2.2.2.2.2.2.2.2.2.2.2.1 Pt.2.2.2.2.2.2.2.2.2.2.2.2.2.2.2.2) Y (r5.1.Ar,r5.1.fOp,r5.1.AT,r5.1.I',r5.1.B'.Ar,r5.1.B'.It,r5.1.B'.IS,r5.1.B'.H',r5.1.B'.E',r5.1.If,r5.2.fl,r5.2.fat,r5.2.G',r5.2.Gw,r5.2.AI.Ar,r5.2.AI.fAt,r5.2.AI.AT) h1 (gE rfl rfl) ?_;rintro m ⟨O',OO,Pb,Pz,PK,PI,Rc,Rb,Sb,Sa,f46,f47,f48,f49,f50,R9,R8⟩ h1;replace h1:cn n (br n) NT r5 (m+1) O' OO Pb Pz PK PI Rc Rb Sb Sa f46 f47 f48 f49 f50 R9 R8=some o90:=h1;rw [cn] at h1;refine nx 5 rfl (bd h1 λ Qh U' h1=>?_);refine oK (si NT _ U') rfl ⟨sr,trivial⟩ Tryz.call186 rfl (bd h1 λ QH U8 h1=>?_);refine mO rfl (cVq [1000000] [] 106000 106000 (pE _ (af.mk f46 f47 f48 f49 (au.mk f50 R9 R8)) Qh _ U8) Tryz.call185 rfl ?_);refine nx 12 rfl (fB [25] h1 rfl (λ Uh h1=>?_) λ Uh h1=>?_)
  ·exact nx 7 Z (mQo (hR0 _ (oi h1).symm) (aJ _) Z Z Z Z (sr) ⟨⟨_,Z,⟨sr,sr,sr,sr,sr,sr,sr,trivial⟩⟩,trivial⟩)
  refine nx 5 Z (bd h1 λ P9 U7 h1=>?_);refine mO Z (cVq [1000000] [] 107000 107000 (bf _ QH.2.2 _ U7) Tryz.call163 Z ?_);refine nx 5 Z (oA h1 Z Z λ RO h1=>?_);refine bd h1 λ Pj U6 h1=>mO Z (cVq [1000000] [] 108000 108000 (Od P9.2 (NT+1) _ U6) Tryz.call161 Z ?_);refine nx 3 Z (bd h1 λ Qx U5 h1=>?_);refine mG (gE (t:=⟨[(0,.ptr 1000000 0),(1,.p (eI NT)),(4,.ptr 4 0),(5,.ptr 5 0),(6,.p (eS QH.1)),(8,.ptr 8 0)],[(4,bu),(5,[.p (eI O'),.p (eI OO),.p (eS Pb),.p (eS Pz),.p (eI PK),.p (eI PI),.p (eS Rc),.p (eL bw Rb),.p (eL eS Sb),.p (eL av Sa),.p (eI r5.1.fAt)]),(8,(ag.cs Pj.1).map .p),(1000000,(af.cs Pj.2).map .p)]⟩) Z Z) (mSq ⟨1,[8],(λ _=>.none),(λ _=>[(0,.ptr 1000000 0),(1,.p (eI NT)),(4,.ptr 4 0),(5,.ptr 5 0),(6,.p (eS QH.1)),(8,.ptr 8 0)]),(ob2 ([(4,bu),(5,[.p (eI O'),.p (eI OO),.p (eS Pb),.p (eS Pz),.p (eI PK),.p (eI PI),.p (eS Rc),.p (eL bw Rb),.p (eL eS Sb),.p (eL av Sa),.p (eI r5.1.fAt)]),(8,((ag.cs Pj.1).map .p)),(1000000,((af.cs Pj.2).map .p))]) (5,[.p (eI 7),.p (eI Qx),.p (eS ([]:Bk)),.p (eS ([]:Bk)),.p (eI 0),.p (eI 0),.p (eS ([]:Bk)),.p (.val (.slice none 0 0)),.p (.val (.slice none 0 0)),.p (eL av [(ag.mk O' OO Pb Pz (aw.mk PK PI Rc Rb Sb) Sa r5.1.fAt),Pj.1]),.p (eI r5.1.fAt)]))⟩ Z ?_);refine dPc (.p (eS QH.1)) Z (ar (λ _=>.p (eI Qx)) Z Z Z (dG Z Y) (lt1 Z) (ak Z (ai [(33,_)] ⟨.inr ⟨0,_,Z,Z,Z⟩,trivial⟩ (λ sl NI K hK=>ah Z (cF (Cq _ QH.1 _ U5) Z Z Z (aQ (NI _ _ Z) bU) ⟨sr,trivial⟩ Tryz.call187 Z hK)) ap)) ?_);refine dPc (.p (.agg [eI O',eI OO,eS Pb,eS Pz,eI PK,eI PI,eS Rc,eL bw Rb,eL eS Sb,eL av Sa,eI r5.1.fAt])) Z (dPc (.p (.agg (ag.cs Pj.1))) Z ?_);refine ar (λ _=>.p (eL av [(ag.mk O' OO Pb Pz (aw.mk PK PI Rc Rb Sb) Sa r5.1.fAt),Pj.1])) Z Z Z (dG Z Y) (lt1 Z) (ak Z (ai [(35,_),(36,_)] ⟨.inr ⟨2,_,Z,Z,Z⟩,.inr ⟨3,_,Z,Z,Z⟩,trivial⟩ (λ sl NI K hK=>ah Z (bz av [(ag.mk O' OO Pb Pz (aw.mk PK PI Rc Rb Sb) Sa r5.1.fAt),Pj.1] Z Z Z Z Z Z (du (NI _ _ Z) Z (du (NI _ _ Z) Z eA)) Z Z Z Z Z Z lJ hK)) ap)) (dPc (.ptr 5 10) Z ?_);refine dPc (.p (eI r5.1.fAt)) Z (dPc (.p (.agg [eI 7,eI Qx,eS ([]:Bk),eS ([]:Bk),eI 0,eI 0,eS ([]:Bk),.val (.slice none 0 0),.val (.slice none 0 0),eL av [(ag.mk O' OO Pb Pz (aw.mk PK PI Rc Rb Sb) Sa r5.1.fAt),Pj.1],eI r5.1.fAt])) Z ?_);refine dS Z (cV ?_);exact nx 1 Z (eX (7,Qx,([]:Bk),([]:Bk),0,0,([]:Bk),[],[],[(ag.mk O' OO Pb Pz (aw.mk PK PI Rc Rb Sb) Sa r5.1.fAt),Pj.1],Pj.2.fl,Pj.2.fat,Pj.2.G',Pj.2.Gw,Pj.2.AI.Ar,Pj.2.AI.fAt,Pj.2.AI.AT) h1 (cG (jv ⟨er Z,er Z,er Z,er Z,trivial⟩ ⟨⟨_,Z,⟨sr,sr,sr,sr,sr,sr,sr,sr,sr,sr,sr,trivial⟩⟩,⟨_,Z,⟨sr,sr,sr,sr,sr,sr,sr,gm _,gm _,sr,sr,trivial⟩⟩,⟨_,Z,⟨sr,sr,sr,sr,sr,sr,sr,trivial⟩⟩,trivial⟩)))
 ·skip
  intro NL r h0;rw [dz] at h0;refine bT good [] [1000000] Tryz.func184 Z Z Z Z Z λ w0 F=>mPo (λ v:ag×af=>.p (.agg (ag.cs v.1))) (λ v=>[(1000000,((af.cs v.2).map .p))]) ?_;refine nx 9 rfl (bd h0 λ OE h1 h0=>?_);refine kN OE (λ O4=>⟨[(0,.ptr 1000000 0),(2,.ptr 2 0),(3,.p (eI O4.1))],[(2,bu),(1000000,[.p (eL az O4.2.1),.p (eI O4.2.2.1),.p (eI O4.2.2.2.1),.p (eI O4.2.2.2.2.1),.p (eI O4.2.2.2.2.2.1),.p (eI O4.2.2.2.2.2.2.1),.p (eS O4.2.2.2.2.2.2.2)])]⟩) ?_ ?_
  ·refine nx 7 Z (fD [10] h0 Z (λ QQ h0=>?_) λ QQ h0=>?_)
   ·refine nx 4 Z (bd h0 λ Pq Rh h0=>?_);refine mO Z (cVq [1000000] [] 103000 103000 (OW (af.mk OE.2.1 OE.2.2.1 OE.2.2.2.1 OE.2.2.2.2.1 (au.mk OE.2.2.2.2.2.1 OE.2.2.2.2.2.2.1 OE.2.2.2.2.2.2.2)) _ Rh) Tryz.call204 Z ?_);exact kY
   refine nx 5 Z (bd h0 λ Py SK h0=>?_);refine mO Z (cVq [1000000] [] 104000 104000 (bf _ (af.mk OE.2.1 OE.2.2.1 OE.2.2.2.1 OE.2.2.2.2.1 (au.mk OE.2.2.2.2.2.1 OE.2.2.2.2.2.2.1 OE.2.2.2.2.2.2.2)) _ SK) Tryz.call163 Z ?_);refine nx 4 Z (bd h0 λ Pp Rt h0=>?_);refine mG (gE (t:=⟨[(0,.ptr 1000000 0),(2,.ptr 2 0),(3,.p (eI OE.1)),(4,.ptr 4 0)],[(2,bu),(4,(ac.cs Py.1).map .p),(1000000,(af.cs Py.2).map .p)]⟩) Z Z) (mSq ⟨2,[2,7],(by3 (.some (dp [] 105000 105000)) .none .none),(λ _=>[(0,.ptr 1000000 0),(2,.ptr 2 0),(3,.p (eI OE.1)),(4,.ptr 4 0)]),(by3 ([(2,bu),(4,((ac.cs Py.1).map .p)),(1000000,((af.cs Py.2).map .p))]) ([(1000000,((af.cs Pp.2).map .p)),(2,bu),(4,((ac.cs Py.1).map .p))]) ([(2,[.p (eI 6),.p (eI OE.1),.p (eS ([]:Bk)),.p (eS ([]:Bk)),.p (eI 0),.p (eI 0),.p (eS ([]:Bk)),.p (.val (.slice none 0 0)),.p (.val (.slice none 0 0)),.p (eL av [Pp.1]),.p (eI Py.1.fAt)]),(1000000,((af.cs Pp.2).map .p)),(2,bu),(4,((ac.cs Py.1).map .p))]))⟩ Z ?_);refine dPc (.p (eI OE.1)) Z (dPc (.ptr 1000000 0) Z ?_);refine dB (λ _=>.p (.agg (ag.cs Pp.1))) [(16,_)] Z ⟨.inr ⟨1,_,Z,Z,Z⟩,trivial⟩ Z Z (dG Z Y) (lt2 (λ h=>absurd h (by decide)) Y) (λ sl NI K hK=>ah Z (aN [1000000] [] 105000 105000 (Ox Py.2 _ Rt) Z Z Z (aQ (NI _ _ Z) bU) Z ⟨sr,trivial⟩ Z Z ⟨⟨_,Z,⟨sr,sr,sr,sr,sr,sr,sr,trivial⟩⟩,trivial⟩ Z Z Z Z Z Z Z Z Tryz.call184 Z Z hK)) (ar (λ _=>.p (eL av [Pp.1])) Z Z Z (cM Z Z Y) (lt2 Z Z) (ak Z (ai [(17,_)] ⟨.inr ⟨2,_,Z,Z,Z⟩,trivial⟩ (λ sl NI K hK=>ah Z (bz av [Pp.1] Z Z Z Z Z Z (du (NI _ _ Z) Z eA) Z Z Z Z Z Z lJ hK)) (ak Z ap))) ?_);refine dPc (.ptr 4 2) Z (dPc (.p (eI Py.1.fAt)) Z ?_);refine dPc (.p (.agg [eI 6,eI OE.1,eS ([]:Bk),eS ([]:Bk),eI 0,eI 0,eS ([]:Bk),.val (.slice none 0 0),.val (.slice none 0 0),eL av [Pp.1],eI Py.1.fAt])) Z (dS Z ?_);refine cV (nx 2 Z ?_);exact mQo (oi h0) (aJ _) Z Z Z Z (dW ⟨.inl Z,.inl Z,.inl Z,.inl Z,.inl Z,.inl Z,.inl Z,.inr ⟨Z,Z⟩,.inr ⟨Z,Z⟩,.inl Z,.inl Z,trivial⟩) ⟨⟨_,Z,⟨sr,sr,sr,sr,sr,sr,sr,trivial⟩⟩,trivial⟩
  refine nx 3 Z (bd h1 λ r1 e2 h1=>?_);refine mO Z (cVq [1000000] [] 101000 101000 (bN _ NL ([33]:Bk) _ e2) Tryz.call162 Z ?_);refine nx 1 Z (fB [6] h1 Z (λ c3 h1=>?_) λ c3 h1=>?_)
  ·exact i8
  refine nx 4 Z (bd h1 λ r4 e5 h1=>?_);refine mO Z (cVq [1000000] [] 102000 102000 (bN _ r1.2 ([45]:Bk) _ e5) Tryz.call162 Z ?_);refine nx 1 Z (fB [8] h1 Z (λ c6 h1=>?_) λ c6 h1=>?_)
  ·exact i8
  exact cZ
 ·skip
  intro NL r h0;rw [d6] at h0;refine bT good [] [1000000] Tryz.func204 Z Z Z Z Z λ w0 F=>mPo (λ v:ag×af=>.p (.agg (ag.cs v.1))) (λ v=>[(1000000,((af.cs v.2).map .p))]) ?_;refine nx 7 rfl (bd h0 λ r1 e2 h0=>?_);refine mO rfl (cVq [1000000] [] 101000 101000 (OV NL _ e2) Tryz.call218 rfl ?_);refine nx 4 rfl ?_;obtain ⟨UN,h1,Ou,hR0⟩:=cw h0;refine kEx 0 (λ Qt:(List ac)×Int×Int×Int×Int×Int×Bk=>UN=.inl Qt) (λ Qt=>⟨[],[(1000000,[.p (eL az Qt.1),.p (eI Qt.2.1),.p (eI Qt.2.2.1),.p (eI Qt.2.2.2.1),.p (eI Qt.2.2.2.2.1),.p (eI Qt.2.2.2.2.2.1),.p (eS Qt.2.2.2.2.2.2)])]⟩) (λ Qt hv=>?_) ?_
  ·exact yR
  refine lG (λ (Or:Int×Int×Bk×Bk×Int×Int×Bk×(List aw)×(List Bk)×(List ag)×(List ac)×Int×Int×Int×Int×Int×Bk)=>⟨[(0,.ptr 1000000 0),(2,.ptr 2 0),(3,.ptr 3 0)],[(2,bu),(3,[.p (eI Or.1),.p (eI Or.2.1),.p (eS Or.2.2.1),.p (eS Or.2.2.2.1),.p (eI Or.2.2.2.2.1),.p (eI Or.2.2.2.2.2.1),.p (eS Or.2.2.2.2.2.2.1),.p (eL bw Or.2.2.2.2.2.2.2.1),.p (eL eS Or.2.2.2.2.2.2.2.2.1),.p (eL av Or.2.2.2.2.2.2.2.2.2.1),.p (eI r1.1.fAt)]),(1000000,[.p (eL az Or.2.2.2.2.2.2.2.2.2.2.1),.p (eI Or.2.2.2.2.2.2.2.2.2.2.2.1),.p (eI Or.2.2.2.2.2.2.2.2.2.2.2.2.1),.p (eI Or.2.2.2.2.2.2.2.2.2.2.2.2.2.1),.p (eI Or.2.2.2.2.2.2.2.2.2.2.2.2.2.2.1),.p (eI Or.2.2.2.2.2.2.2.2.2.2.2.2.2.2.2.1),.p (eS Or.2.2.2.2.2.2.2.2.2.2.2.2.2.2.2.2)])]⟩) (λ m (Or:Int×Int×Bk×Bk×Int×Int×Bk×(List aw)×(List Bk)×(List ag)×(List ac)×Int×Int×Int×Int×Int×Bk)=>cg n (aO n) r1 m Or.1 Or.2.1 Or.2.2.1 Or.2.2.2.1 Or.2.2.2.2.1 Or.2.2.2.2.2.1 Or.2.2.2.2.2.2.1 Or.2.2.2.2.2.2.2.1 Or.2.2.2.2.2.2.2.2.1 Or.2.2.2.2.2.2.2.2.2.1 Or.2.2.2.2.2.2.2.2.2.2.1 Or.2.2.2.2.2.2.2.2.2.2.2.1 Or.2.2.2.2.2.2.2.2.2.2.2.2.1 Or.2.2.2.2.2.2.2.2.2.2.2.2.2.1 Or.2.2.2.2.2.2.2.2.2.2.2.2.2.2.1 Or.2.2.2.2.2.2.2.2.2.2.2.2.2.2.2.1 Or.2.2.2.2.2.2.2.2.2.2.2.2.2.2.2.2) Y (r1.1.Ar,r1.1.fOp,r1.1.AT,r1.1.I',r1.1.B'.Ar,r1.1.B'.It,r1.1.B'.IS,r1.1.B'.H',r1.1.B'.E',r1.1.If,r1.2.fl,r1.2.fat,r1.2.G',r1.2.Gw,r1.2.AI.Ar,r1.2.AI.fAt,r1.2.AI.AT) h1 (gE rfl rfl) ?_;rintro m ⟨R9,R8,Ua,T',T9,T8,T7,T6,T5,T4,f61,f62,f63,f64,f65,f66,f67⟩ h1;replace h1:cg n (aO n) r1 (m+1) R9 R8 Ua T' T9 T8 T7 T6 T5 T4 f61 f62 f63 f64 f65 f66 f67=some UN:=h1;rw [cg] at h1;refine nx 1 rfl ?_;obtain ⟨o128,h2,hL1,hR1⟩:=cw h1;refine kX (λ OP:Int×Bk×(List ag)×(List ac)×Int×Int×Int×Int×Int×Bk=>o128=.inl OP) (λ OP=>⟨[(0,.ptr 1000000 0),(2,.ptr 2 0),(3,.ptr 3 0)],[(2,bu),(3,[.p (eI OP.1),.p (eI 0),.p (eS OP.2.1),.p (eS ([]:Bk)),.p (eI 0),.p (eI 0),.p (eS ([]:Bk)),.p (.val (.slice none 0 0)),.p (.val (.slice none 0 0)),.p (eL av OP.2.2.1),.p (eI r1.1.fAt)]),(1000000,[.p (eL az OP.2.2.2.1),.p (eI OP.2.2.2.2.1),.p (eI OP.2.2.2.2.2.1),.p (eI OP.2.2.2.2.2.2.1),.p (eI OP.2.2.2.2.2.2.2.1),.p (eI OP.2.2.2.2.2.2.2.2.1),.p (eS OP.2.2.2.2.2.2.2.2.2)])]⟩) (λ OP hv=>?_) ?_
  ·have h1:=hL1 _ hv;exact nx 1 Z (eX (OP.1,0,OP.2.1,([]:Bk),0,0,([]:Bk),[],[],OP.2.2.1,OP.2.2.2.1,OP.2.2.2.2.1,OP.2.2.2.2.2.1,OP.2.2.2.2.2.2.1,OP.2.2.2.2.2.2.2.1,OP.2.2.2.2.2.2.2.2.1,OP.2.2.2.2.2.2.2.2.2) h1 (cG (jv ⟨er Z,er Z,er Z,trivial⟩ ⟨⟨_,Z,⟨sr,sr,sr,sr,sr,sr,sr,sr,sr,sr,sr,trivial⟩⟩,⟨_,Z,⟨sr,sr,sr,sr,sr,sr,sr,gm _,gm _,sr,sr,trivial⟩⟩,⟨_,Z,⟨sr,sr,sr,sr,sr,sr,sr,trivial⟩⟩,trivial⟩)))
  refine nx 4 Z (bd h2 λ Un e69 h2=>?_);refine mO Z (cVq [1000000] [] 111000 111000 (bN _ (af.mk f61 f62 f63 f64 (au.mk f65 f66 f67)) ([46]:Bk) _ e69) Tryz.call162 Z ?_);refine nx 2 Z (fB [9,11] h2 Z (λ c70 h2=>?_) λ c70 h2=>?_)
  ·refine nx 4 Z (bd h2 λ r71 e72 h2=>?_);refine mO Z (cVq [1000000] [] 112000 112000 (bf _ Un.2 _ e72) Tryz.call163 Z ?_);refine nx 4 Z (bd h2 λ S4 e74 h2=>?_);refine mO Z (cVq [1000000] [] 113000 113000 (eY _ r71.2 _ e74) Tryz.call188 Z ?_);refine nx 10 Z (fN [18] h2 Z (λ c75 h2=>?_) λ c75 h2=>?_)
   ·refine nx 5 Z (bd h2 λ TC e79 h2=>?_);refine mO Z (cVq [1000000] [] 115000 115000 (bf _ S4.2 _ e79) Tryz.call163 Z ?_);refine nx 5 Z (mO Z (bz av [(ag.mk R9 R8 Ua T' (aw.mk T9 T8 T7 T6 T5) T4 r1.1.fAt)] Z Z Z Z Z Z Z Z Z Z Z Z Z lJ ?_));exact pr
   refine nx 6 Z (bd h2 λ r76 e77 h2=>?_);refine mO Z (cVq [1000000] [] 114000 114000 (cD S4.2 2 S4.1.fAt _ e77) Tryz.call190 Z ?_);exact nx 3 Z JP
  refine nx 4 Z (bd h2 λ Uy e81 h2=>?_);refine mO Z (cVq [1000000] [] 116000 116000 (bN _ Un.2 ([91]:Bk) _ e81) Tryz.call162 Z ?_);refine nx 2 Z (fB [32,34] h2 Z (λ c82 h2=>?_) λ c82 h2=>?_)
  ·refine nx 4 Z (bd h2 λ r83 e84 h2=>?_);refine mO Z (cVq [1000000] [] 117000 117000 (eZ _ Uy.2 _ e84) Tryz.call219 Z ?_);refine nx 4 Z (bd h2 λ Ux e86 h2=>?_);refine mO Z (cVq [1000000] [] 118000 118000 (NQ r83 _ e86) Tryz.call137 Z ?_);refine nx 6 Z (bd h2 λ TB e88 h2=>?_);refine mO Z (cVq [1000000] [] 119000 119000 (dM _ Ux.2 ([93]:Bk) _ e88) Tryz.call220 Z ?_);refine nx 4 Z (mO Z (bz av [(ag.mk R9 R8 Ua T' (aw.mk T9 T8 T7 T6 T5) T4 r1.1.fAt),Ux.1] Z Z Z Z Z Z Z Z Z Z Z Z Z lJ ?_));exact pr
  exact nx 7 Z JP
 ·skip
  intro NL r h0;rw [dr] at h0;refine bT good [] [1000000] Tryz.func218 Z Z Z Z Z λ w0 F=>mPo (λ v:ag×af=>.p (.agg (ag.cs v.1))) (λ v=>[(1000000,((af.cs v.2).map .p))]) ?_;refine nx 8 rfl (bd h0 λ r1 e2 h0=>?_);refine mO rfl (cVq [1000000] [] 101000 101000 (d9 NL _ e2) Tryz.call189 rfl ?_);refine nx 1 rfl (fB [7] h0 rfl (λ c3 h0=>?_) λ c3 h0=>?_)
  ·exact GB
  refine nx 5 Z (bd h0 λ r4 e5 h0=>?_);refine mO Z (cVq [1000000] [] 102000 102000 (eY _ r1.2 _ e5) Tryz.call188 Z ?_);refine nx 14 Z (fD [17,18] h0 Z (λ c6 h0=>?_) λ c6 h0=>?_)
  ·refine nx 5 Z (bd h0 λ r7 e8 h0=>?_);refine oK (uz _ r4.1.BY _ e8) Z ⟨sr,trivial⟩ Tryz.call228 Z (nx 12 Z ?_);refine fN [26] h0 Z (λ c9 h0=>?_) λ c9 h0=>?_
   ·refine nx 5 Z (bd h0 λ Ov Q0 h0=>?_);refine mO Z (cVq [1000000] [] 104000 104000 (bf _ r4.2 _ Q0) Tryz.call163 Z ?_);refine nx 7 Z (bd h0 λ Oq RX h0=>?_);refine oK (gN (aw.mk 2 r7.1 ([]:Bk) [] []) r4.1.fAt _ RX) Z ⟨dW ⟨.inl Z,.inl Z,.inl Z,.inr ⟨Z,Z⟩,.inr ⟨Z,Z⟩,trivial⟩,sr,trivial⟩ Tryz.call229 Z (nx 2 Z ?_);refine mG (gE (t:=⟨[(2,.ptr 2 0)],[(2,(ag.cs Oq).map .p),(1000000,(af.cs Ov.2).map .p)]⟩) Z Z) (nx 1 Z ?_);exact qD h0 Z
   refine nx 7 Z (bd h0 λ Ot Qe h0=>?_);refine mO Z (cVq [1000000] [] 103000 103000 (cD r4.2 r7.2 r4.1.fAt _ Qe) Tryz.call190 Z ?_);refine nx 2 Z (mG (gE (t:=⟨[(2,.ptr 2 0)],[(2,(ag.cs Ot.1).map .p),(1000000,(af.cs Ot.2).map .p)]⟩) Z Z) ?_);exact nx 1 Z (qD h0 Z)
  refine nx 6 Z (fD [39,40] h0 Z (λ SQ h0=>?_) λ SQ h0=>?_)
  ·refine nx 4 Z (bd h0 λ Om RV h0=>?_);refine mO Z (cVq [1000000] [] 105000 105000 (OB r4.2 _ RV) Tryz.call230 Z ?_);exact kY
  refine nx 6 Z (fD [43,44] h0 Z (λ QE h0=>?_) λ QE h0=>?_)
  ·refine nx 4 Z (bd h0 λ Pp Rt h0=>?_);refine mO Z (cVq [1000000] [] 106000 106000 (Pe r4.2 _ Rt) Tryz.call231 Z ?_);exact kY
  refine nx 6 Z (fD [47,48] h0 Z (λ Tu h0=>?_) λ Tu h0=>?_)
  ·refine nx 4 Z (bd h0 λ OJ Tn h0=>?_);refine mO Z (cVq [1000000] [] 107000 107000 (OT r4.2 _ Tn) Tryz.call232 Z ?_);exact kY
  refine nx 6 Z (bd h0 λ P0 Vg h0=>?_);refine mO Z (cVq [1000000] [] 108000 108000 (cD r4.2 2 r4.1.fAt _ Vg) Tryz.call190 Z ?_);exact kY
 ·skip
  intro NL r h0;rw [fj] at h0;refine bT good [] [1000000] Tryz.func230 Z Z Z Z Z λ w0 F=>mPo (λ v:ag×af=>.p (.agg (ag.cs v.1))) (λ v=>[(1000000,((af.cs v.2).map .p))]) ?_;refine nx 7 rfl (bd h0 λ r1 e2 h0=>?_);refine mO rfl (cVq [1000000] [] 101000 101000 (eY _ NL _ e2) Tryz.call188 rfl ?_);refine nx 9 rfl (oA h0 Z Z λ QY h0=>?_);refine bd h0 λ r4 e5 h0=>oK (PG r1.1.BY (r1.1.fAt+1) _ e5) rfl ⟨sr,sr,trivial⟩ Tryz.call240 rfl (nx 15 rfl ?_);refine fN [19] h0 rfl (λ c6 h0=>?_) λ c6 h0=>?_
  ·refine nx 5 Z (bd h0 λ r9 Qp h0=>?_);refine mO Z (cVq [1000000] [] 103000 103000 (bf _ r1.2 _ Qp) Tryz.call163 Z ?_);exact nx 14 Z (qD h0 Z)
  refine nx 8 Z (bd h0 λ r7 e8 h0=>?_);refine mO Z (cVq [1000000] [] 102000 102000 (cD r1.2 r4.2.Ar r4.2.fAt _ e8) Tryz.call190 Z ?_);exact kY
 ·skip
  intro NL r h0;rw [ge] at h0;refine bT good [] [1000000] Tryz.func231 Z Z Z Z Z λ w0 F=>mPo (λ v:ag×af=>.p (.agg (ag.cs v.1))) (λ v=>[(1000000,((af.cs v.2).map .p))]) ?_;refine nx 7 rfl (bd h0 λ r1 e2 h0=>?_);refine mO rfl (cVq [1000000] [] 101000 101000 (eY _ NL _ e2) Tryz.call188 rfl ?_);refine nx 12 rfl (oS Z Z ?_);refine nx 2 rfl (fD [10,11] h0 rfl (λ c3 h0=>?_) λ c3 h0=>?_)
  ·refine nx 4 Z (bd h0 λ r4 e5 h0=>?_);refine mO Z (cVq [1000000] [] 102000 102000 (bf _ r1.2 _ e5) Tryz.call163 Z ?_);refine nx 6 Z (bd h0 λ r6 e7 h0=>?_);refine oK (gN (aw.mk 0 0 ([]:Bk) [] []) r1.1.fAt _ e7) Z ⟨dW ⟨.inl Z,.inl Z,.inl Z,.inr ⟨Z,Z⟩,.inr ⟨Z,Z⟩,trivial⟩,sr,trivial⟩ Tryz.call229 Z (nx 3 Z ?_);exact qD h0 Z
  refine nx 2 Z (bd h0 λ S' h1 h0=>?_);refine kN S' (λ Um=>⟨[(0,.ptr 1000000 0),(2,.ptr 2 0),(3,.ptr 3 0),(18,.p (eB Um))],[(2,bu),(3,(ac.cs r1.1).map .p),(1000000,(af.cs r1.2).map .p)]⟩) ?_ ?_
  ·refine nx 1 Z (fB [18] h0 Z (λ QF h0=>?_) λ QF h0=>?_)
   ·refine nx 4 Z (bd h0 λ PM QN h0=>?_);refine mO Z (cVq [1000000] [] 103000 103000 (bf _ r1.2 _ QN) Tryz.call163 Z ?_);refine nx 8 Z (bd h0 λ o37 h1 h0=>?_);refine kN o37 (λ v38=>⟨[(2,.ptr 2 0),(3,.ptr 3 0),(4,.ptr 4 0)],[(2,bu),(3,(ac.cs r1.1).map .p),(4,[.p (eI 1),.p (eI v38),.p (eS ([]:Bk)),.p (.val (.slice none 0 0)),.p (.val (.slice none 0 0))]),(1000000,(af.cs PM.2).map .p)]⟩) ?_ ?_
    ·refine nx 6 Z (bd h0 λ N8 SL h0=>?_);refine oK (gN (aw.mk 1 o37 ([]:Bk) [] []) r1.1.fAt _ SL) Z ⟨dW ⟨.inl Z,.inl Z,.inl Z,.inr ⟨Z,Z⟩,.inr ⟨Z,Z⟩,trivial⟩,sr,trivial⟩ Tryz.call229 Z (nx 3 Z ?_);exact qD h0 Z
    refine nx 4 Z (oS Z Z ?_);refine nx 1 Z (fD [26] h1 Z (λ P8 h1=>?_) λ P8 h1=>?_)
    ·exact fx
    exact cZ
   refine nx 7 Z (bd h0 λ Om RV h0=>?_);refine oK (jl r1.1.BY _ RV) Z ⟨sr,trivial⟩ Tryz.call177 Z (nx 1 Z ?_);refine fB [34] h0 Z (λ QE h0=>?_) λ QE h0=>?_
   ·refine nx 6 Z (bd h0 λ Pp Rt h0=>?_);refine mO Z (cVq [1000000] [] 104000 104000 (cD r1.2 2 r1.1.fAt _ Rt) Tryz.call190 Z ?_);exact kY
   refine nx 5 Z (bd h0 λ PU To h0=>?_);refine mO Z (cVq [1000000] [] 105000 105000 (bf _ r1.2 _ To) Tryz.call163 Z ?_);refine nx 5 Z (bd h0 λ TD e25 h0=>?_);refine mO Z (cVq [1000000] [] 106000 106000 (bN _ PU.2 ([40]:Bk) _ e25) Tryz.call162 Z ?_);refine nx 2 Z (fB [43] h0 Z (λ SP h0=>?_) λ SP h0=>?_)
   ·exact nx 11 Z (mQo (oi h0) (aJ _) Z Z Z Z (dW ⟨.inl Z,.inl Z,.inl Z,.inl Z,.inl Z,.inl Z,.inl Z,.inr ⟨Z,Z⟩,.inr ⟨Z,Z⟩,.inr ⟨Z,Z⟩,.inl Z,trivial⟩) ⟨⟨_,Z,⟨sr,sr,sr,sr,sr,sr,sr,trivial⟩⟩,trivial⟩)
   refine nx 5 Z (bd h0 λ Q6 Tm h0=>?_);refine mO Z (cVq [1000000] [] 107000 107000 (eZ _ TD.2 _ Tm) Tryz.call219 Z ?_);refine nx 4 Z (bd h0 λ Q5 Ug h0=>?_);refine mO Z (cVq [1000000] [] 108000 108000 (OD Q6 ([41]:Bk) _ Ug) Tryz.call241 Z ?_);refine nx 5 Z (bd h0 λ UC e32 h0=>?_);refine mO Z (cVq [1000000] [] 109000 109000 (dM _ Q5.2 ([41]:Bk) _ e32) Tryz.call220 Z ?_);exact nx 12 Z x6
  refine nx 2 Z (oS Z Z ?_);refine nx 2 Z (fD [18,19] h1 Z (λ c8 h1=>?_) λ c8 h1=>?_)
  ·exact cZ
  refine nx 2 Z (oS Z Z ?_);exact cZ
 ·skip
  intro NL r h0;rw [gS] at h0;refine bT good [] [1000000] Tryz.func232 Z Z Z Z Z λ w0 F=>mPo (λ v:ag×af=>.p (.agg (ag.cs v.1))) (λ v=>[(1000000,((af.cs v.2).map .p))]) ?_;refine nx 7 rfl (bd h0 λ r1 e2 h0=>?_);refine mO rfl (cVq [1000000] [] 101000 101000 (eY _ NL _ e2) Tryz.call188 rfl ?_);refine nx 12 rfl (oS Z Z ?_);refine nx 2 rfl (fD [11,12] h0 rfl (λ c3 h0=>?_) λ c3 h0=>?_)
  ·refine nx 4 Z (bd h0 λ r4 e5 h0=>?_);refine mO Z (cVq [1000000] [] 102000 102000 (eZ _ r1.2 _ e5) Tryz.call219 Z ?_);refine nx 4 Z (bd h0 λ r6 e7 h0=>?_);refine mO Z (cVq [1000000] [] 103000 103000 (NQ r4 _ e7) Tryz.call137 Z ?_);refine nx 6 Z (bd h0 λ r8 e9 h0=>?_);refine mO Z (cVq [1000000] [] 104000 104000 (dM _ r6.2 ([41]:Bk) _ e9) Tryz.call220 Z ?_);exact pD
  refine nx 3 Z (oS Z Z ?_);refine nx 2 Z (fD [20,21] h0 Z (λ QF h0=>?_) λ QF h0=>?_)
  ·refine nx 4 Z (bd h0 λ PM QN h0=>?_);refine mO Z (cVq [1000000] [] 105000 105000 (eZ _ r1.2 _ QN) Tryz.call219 Z ?_);refine nx 5 Z (bd h0 λ P1 Vh h0=>?_);refine mO Z (cVq [1000000] [] 106000 106000 (ia _ PM ([102,111,114]:Bk) _ Vh) Tryz.call242 Z ?_);refine nx 1 Z (fB [25] h0 Z (λ QQ h0=>?_) λ QQ h0=>?_)
   ·refine nx 6 Z (bd h0 λ Pq Rh h0=>?_);refine mO Z (cVq [1000000] [] 107000 107000 (OC P1.2 r1.1.fAt 12 _ Rh) Tryz.call243 Z ?_);exact kY
   refine nx 5 Z (bd h0 λ Py SK h0=>?_);refine mO Z (cVq [1000000] [] 108000 108000 (OD P1.2 ([93]:Bk) _ SK) Tryz.call241 Z ?_);refine nx 5 Z (bd h0 λ Pp Rt h0=>?_);refine mO Z (cVq [1000000] [] 109000 109000 (dM _ Py.2 ([93]:Bk) _ Rt) Tryz.call220 Z ?_);exact nx 10 Z x6
  refine nx 3 Z (oS Z Z ?_);refine nx 2 Z (fD [38,39] h0 Z (λ Tu h0=>?_) λ Tu h0=>?_)
  ·refine nx 4 Z (bd h0 λ OJ Tn h0=>?_);refine mO Z (cVq [1000000] [] 110000 110000 (eZ _ r1.2 _ Tn) Tryz.call219 Z ?_);refine nx 5 Z (bd h0 λ P0 Vg h0=>?_);refine mO Z (cVq [1000000] [] 111000 111000 (ia _ OJ ([102,111,114]:Bk) _ Vg) Tryz.call242 Z ?_);refine nx 1 Z (fB [43] h0 Z (λ QP h0=>?_) λ QP h0=>?_)
   ·refine nx 6 Z (bd h0 λ Pd e29 h0=>?_);refine mO Z (cVq [1000000] [] 112000 112000 (OC P0.2 r1.1.fAt 13 _ e29) Tryz.call243 Z ?_);exact kY
   refine nx 5 Z (bd h0 λ R6 Ve h0=>?_);refine mO Z (cVq [1000000] [] 113000 113000 (OX P0.2 _ Ve) Tryz.call244 Z ?_);refine nx 5 Z (bd h0 λ Px SJ h0=>?_);refine mO Z (cVq [1000000] [] 114000 114000 (dM _ R6.2 ([125]:Bk) _ SJ) Tryz.call220 Z ?_);refine nx 9 Z (mG (gE (t:=⟨[(2,.ptr 2 0)],[(2,[.p (eI 11),.p (eI 0),.p (eS ([]:Bk)),.p (eS ([]:Bk)),.p (eI 0),.p (eI 0),.p (eS ([]:Bk)),.p (.val (.slice none 0 0)),.p (.val (.slice none 0 0)),.p (eL av R6.1),.p (eI r1.1.fAt)]),(1000000,(af.cs Px).map .p)]⟩) Z Z) ?_);exact nx 1 Z x6
  refine nx 7 Z (bd h0 λ Oc Uf h0=>?_);refine mO Z (cVq [1000000] [] 115000 115000 (cD r1.2 2 r1.1.fAt _ Uf) Tryz.call190 Z ?_);exact kY
 ·skip
  intro NL end_1 r h0;rw [gb] at h0;refine bT good [] [1000000] Tryz.func241 Z Z Z Z Z λ w0 F=>mPo (λ v:(List ag)×af=>.p (eL av v.1)) (λ v=>[(1000000,((af.cs v.2).map .p))]) ?_;refine nx 10 rfl (bd h0 λ o79 h1 h0=>?_);refine kE 0 o79 (λ v80=>⟨[(5,.vec 19 11 0 (v80.1.map av))],[(1000000,[.p (eL az v80.2.1),.p (eI v80.2.2.1),.p (eI v80.2.2.2.1),.p (eI v80.2.2.2.2.1),.p (eI v80.2.2.2.2.2.1),.p (eI v80.2.2.2.2.2.2.1),.p (eS v80.2.2.2.2.2.2.2)])]⟩) ?_ ?_
  ·exact pD
  refine lG (λ (Qb:(List ag)×(List ac)×Int×Int×Int×Int×Int×Bk)=>⟨[(0,.ptr 1000000 0),(1,.p (eS end_1)),(5,.vec 19 11 0 (Qb.1.map av))],[(1000000,[.p (eL az Qb.2.1),.p (eI Qb.2.2.1),.p (eI Qb.2.2.2.1),.p (eI Qb.2.2.2.2.1),.p (eI Qb.2.2.2.2.2.1),.p (eI Qb.2.2.2.2.2.2.1),.p (eS Qb.2.2.2.2.2.2.2)])]⟩) (λ m (Qb:(List ag)×(List ac)×Int×Int×Int×Int×Int×Bk)=>dl n (aO n) end_1 m Qb.1 Qb.2.1 Qb.2.2.1 Qb.2.2.2.1 Qb.2.2.2.2.1 Qb.2.2.2.2.2.1 Qb.2.2.2.2.2.2.1 Qb.2.2.2.2.2.2.2) Y ([],NL.fl,NL.fat,NL.G',NL.Gw,NL.AI.Ar,NL.AI.fAt,NL.AI.AT) h1 (cG (jv ⟨er rfl,er rfl,⟨_,rfl,AV.sub_nilvec _ _ _⟩,trivial⟩ ⟨⟨_,rfl,⟨sr,sr,sr,sr,sr,sr,sr,trivial⟩⟩,trivial⟩)) ?_;rintro m ⟨OH,QZ,Tj,Ti,OY,O',OO,Pb⟩ h1;replace h1:dl n (aO n) end_1 (m+1) OH QZ Tj Ti OY O' OO Pb=some o79:=h1;rw [dl] at h1;refine nx 2 rfl (bd h1 λ SZ h2 h1=>?_);refine kN SZ (λ SU=>⟨[(0,.ptr 1000000 0),(1,.p (eS end_1)),(5,.vec 19 11 0 (OH.map av)),(14,.p (eB SU.1))],[(1000000,[.p (eL az SU.2.1),.p (eI SU.2.2.1),.p (eI SU.2.2.2.1),.p (eI SU.2.2.2.2.1),.p (eI SU.2.2.2.2.2.1),.p (eI SU.2.2.2.2.2.2.1),.p (eS SU.2.2.2.2.2.2.2)])]⟩) ?_ ?_
  ·refine nx 1 Z (fB [14] h1 Z (λ Vk h1=>?_) λ Vk h1=>?_)
   ·refine nx 7 Z (bd h1 λ Qh U' h1=>?_);refine mO Z (cVq [1000000] [] 108000 108000 (NQ (af.mk SZ.2.1 SZ.2.2.1 SZ.2.2.2.1 SZ.2.2.2.2.1 (au.mk SZ.2.2.2.2.2.1 SZ.2.2.2.2.2.2.1 SZ.2.2.2.2.2.2.2)) _ U') Tryz.call137 Z ?_);refine mO Z (bz av [Qh.1] Z Z Z Z Z Z Z Z Z Z Z Z Z lJ ?_);refine cc' h1 λ TY h1=>mO Z (fF av OH [Qh.1] Z Z Z Z Z Z Z Z Z Z Z Z Z (λ x=>congrArg List.length (ag.F' x)) Z Z Z Z TY ?_);refine nx 6 Z (bd h1 λ Qg e57 h1=>?_);refine mO Z (cVq [1000000] [] 109000 109000 (bN _ Qh.2 ([44]:Bk) _ e57) Tryz.call162 Z ?_);refine nx 2 Z (fB [22] h1 Z (λ c58 h1=>?_) λ c58 h1=>?_)
    ·exact cH
    refine nx 4 Z (bd h1 λ QU e60 h1=>?_);refine mO Z (cVq [1000000] [] 110000 110000 (bf _ Qg.2 _ e60) Tryz.call163 Z ?_);exact nx 1 Z (eX (OH++[Qh.1],QU.2.fl,QU.2.fat,QU.2.G',QU.2.Gw,QU.2.AI.Ar,QU.2.AI.fAt,QU.2.AI.AT) h1 (gE Z Z))
   exact cH
  refine nx 2 Z (bd h2 λ So e40 h2=>?_);refine mO Z (cVq [1000000] [] 106000 106000 (d9 (af.mk QZ Tj Ti OY (au.mk O' OO Pb)) _ e40) Tryz.call189 Z ?_);refine nx 2 Z (fB [8,9] h2 Z (λ Vn h2=>?_) λ Vn h2=>?_)
  ·refine nx 2 Z (bd h2 λ Pa Tl h2=>?_);refine mO Z (cVq [1000000] [] 107000 107000 (bN _ So.2 end_1 _ Tl) Tryz.call162 Z ?_);exact nO
  exact Bo
 ·skip
  intro NL N3 k_2 r h0;rw [fp] at h0;refine bT good [] [1000000] Tryz.func243 Z Z Z Z Z λ w0 F=>mPo (λ v:ag×af=>.p (.agg (ag.cs v.1))) (λ v=>[(1000000,((af.cs v.2).map .p))]) ?_;refine nx 7 rfl (bd h0 λ r1 e2 h0=>?_);refine mO rfl (cVq [1000000] [] 101000 101000 (bf _ NL _ e2) Tryz.call163 rfl ?_);refine nx 6 rfl (bd h0 λ r3 e4 h0=>?_);refine mO rfl (cVq [1000000] [] 102000 102000 (kb _ r1.2 _ e4) Tryz.call250 rfl ?_);refine nx 5 rfl (bd h0 λ Ow h1 h0=>?_);refine kN Ow (λ Sg=>⟨[(0,.ptr 1000000 0),(2,.p (eI k_2)),(6,.ptr 6 0),(7,.ptr 7 0)],[(6,bu),(7,[.p (eI k_2),.p (eI 0),.p (eS Sg.1),.p (eS Sg.2.1),.p (eI 0),.p (eI 0),.p (eS ([]:Bk)),.p (.val (.slice none 0 0)),.p (.val (.slice none 0 0)),.p (.val (.slice none 0 0)),.p (eI N3)]),(1000000,[.p (eL az Sg.2.2.1),.p (eI Sg.2.2.2.1),.p (eI Sg.2.2.2.2.1),.p (eI Sg.2.2.2.2.2.1),.p (eI Sg.2.2.2.2.2.2.1),.p (eI Sg.2.2.2.2.2.2.2.1),.p (eS Sg.2.2.2.2.2.2.2.2)])]⟩) ?_ ?_
  ·refine nx 4 Z (bd h0 λ N9 RU h0=>?_);refine mO Z (cVq [1000000] [] 106000 106000 (oo _ (af.mk Ow.2.2.1 Ow.2.2.2.1 Ow.2.2.2.2.1 Ow.2.2.2.2.2.1 (au.mk Ow.2.2.2.2.2.2.1 Ow.2.2.2.2.2.2.2.1 Ow.2.2.2.2.2.2.2.2)) ([105,110]:Bk) _ RU) Tryz.call251 Z ?_);refine nx 2 Z (bd h0 λ OJ Tn h0=>?_);refine cc' h0 λ Qc h0=>mG (gE (t:=⟨[(0,.ptr 1000000 0),(2,.p (eI k_2)),(6,.ptr 6 0),(7,.ptr 7 0)],[(6,bu),(7,[.p (eI k_2),.p (eI 0),.p (eS Ow.1),.p (eS Ow.2.1),.p (eI 0),.p (eI 0),.p (eS ([]:Bk)),.p (.val (.slice none 0 0)),.p (.val (.slice none 0 0)),.p (.val (.slice none 0 0)),.p (eI N3)]),(1000000,(af.cs N9).map .p)]⟩) Z Z) (mSq ⟨3,[3,5,7],(by4 (.some (dp [] 107000 107000)) (.some λ i=>Nat.beq i 33) .none .none),(λ _=>[(0,.ptr 1000000 0),(2,.p (eI k_2)),(6,.ptr 6 0),(7,.ptr 7 0)]),(by4 ([(6,bu),(7,[.p (eI k_2),.p (eI 0),.p (eS Ow.1),.p (eS Ow.2.1),.p (eI 0),.p (eI 0),.p (eS ([]:Bk)),.p (.val (.slice none 0 0)),.p (.val (.slice none 0 0)),.p (.val (.slice none 0 0)),.p (eI N3)]),(1000000,((af.cs N9).map .p))]) ([(1000000,((af.cs OJ.2).map .p)),(6,bu),(7,[.p (eI k_2),.p (eI 0),.p (eS Ow.1),.p (eS Ow.2.1),.p (eI 0),.p (eI 0),.p (eS ([]:Bk)),.p (.val (.slice none 0 0)),.p (.val (.slice none 0 0)),.p (.val (.slice none 0 0)),.p (eI N3)])]) ([(1000000,((af.cs OJ.2).map .p)),(6,bu),(7,[.p (eI k_2),.p (eI 0),.p (eS Ow.1),.p (eS Ow.2.1),.p (eI 0),.p (eI 0),.p (eS ([]:Bk)),.p (.val (.slice none 0 0)),.p (.val (.slice none 0 0)),.p (.val (.slice none 0 0)),.p (eI N3)])]) ([(7,[.p (eI k_2),.p (eI 0),.p (eS Ow.1),.p (eS Ow.2.1),.p (eI 0),.p (eI 0),.p (eS ([]:Bk)),.p (.val (.slice none 0 0)),.p (.val (.slice none 0 0)),.vec 33 11 0 ([OJ.1].map av),.p (eI N3)]),(1000000,((af.cs OJ.2).map .p)),(6,bu),(7,[.p (eI k_2),.p (eI 0),.p (eS Ow.1),.p (eS Ow.2.1),.p (eI 0),.p (eI 0),.p (eS ([]:Bk)),.p (.val (.slice none 0 0)),.p (.val (.slice none 0 0)),.p (.val (.slice none 0 0)),.p (eI N3)])]))⟩ Z ?_);refine dPc (.ptr 7 9) Z (dPc (.p (.val (.slice none 0 0))) Z ?_);refine dPc (.ptr 1000000 0) Z (dB (λ _=>.p (.agg (ag.cs OJ.1))) [(30,_)] Z ⟨.inr ⟨2,_,Z,Z,Z⟩,trivial⟩ Z Z (cM Z Z Y) (lt3 (λ h=>absurd h (by decide)) Y Y) (λ sl NI K hK=>ah Z (aN [1000000] [] 107000 107000 (NQ N9 _ Tn) Z Z Z (aQ (NI _ _ Z) bU) Z ⟨sr,trivial⟩ Z Z ⟨⟨_,Z,⟨sr,sr,sr,sr,sr,sr,sr,trivial⟩⟩,trivial⟩ Z Z Z Z Z Z Z Z Tryz.call137 Z Z hK)) ?_);refine ar (λ _=>.p (eL av [OJ.1])) Z Z Z (fh Z Z Z Y) (lt3 Z Z Z) (ak Z (ak Z (ai [(31,_)] ⟨.inr ⟨3,_,Z,Z,Z⟩,trivial⟩ (λ sl NI K hK=>ah Z (bz av [OJ.1] Z Z Z Z Z Z (du (NI _ _ Z) Z eA) Z Z Z Z Z Z lJ hK)) (ak Z ap)))) (dB (λ _=>.vec 33 11 0 ([OJ.1].map av)) [(29,_),(32,_)] Z ⟨.inr ⟨1,_,Z,Z,Z⟩,.inr ⟨4,_,Z,Z,Z⟩,trivial⟩ Z Z (dG Z Y) (lt3 (λ h=>absurd h (by decide)) (λ h=>absurd h (by decide)) Y) (λ sl NI K hK=>ah Z (Ld av [OJ.1] 0 Z Z Z Z Z Z Z Z (NI _ _ Z) (NI _ _ Z) Z (λ x=>congrArg List.length (ag.F' x)) Z Z Z Z Qc hK)) ?_);refine dPc (.ptr 7 9) Z (dS Z ?_);refine cV (nx 4 Z ?_);refine bd h0 λ P5 Vf h0=>mO Z (cVq [1000000] [] 108000 108000 (fO _ OJ.2 ([58]:Bk) _ Vf) Tryz.call164 Z ?_);refine nx 2 Z (bd h0 λ Pd e29 h0=>?_);refine cc' h0 λ Tf h0=>mG (gE (t:=⟨[(0,.ptr 1000000 0),(2,.p (eI k_2)),(6,.ptr 6 0),(7,.ptr 7 0)],[(6,bu),(7,[.p (eI k_2),.p (eI 0),.p (eS Ow.1),.p (eS Ow.2.1),.p (eI 0),.p (eI 0),.p (eS ([]:Bk)),.p (.val (.slice none 0 0)),.p (.val (.slice none 0 0)),.vec 33 11 0 ([OJ.1].map av),.p (eI N3)]),(1000000,(af.cs P5).map .p)]⟩) Z Z) (mSq ⟨3,[3,5,7],(by4 (.some (dp [] 109000 109000)) (.some λ i=>Nat.beq i 33||Nat.beq i 42) .none .none),(λ _=>[(0,.ptr 1000000 0),(2,.p (eI k_2)),(6,.ptr 6 0),(7,.ptr 7 0)]),(by4 ([(6,bu),(7,[.p (eI k_2),.p (eI 0),.p (eS Ow.1),.p (eS Ow.2.1),.p (eI 0),.p (eI 0),.p (eS ([]:Bk)),.p (.val (.slice none 0 0)),.p (.val (.slice none 0 0)),.vec 33 11 0 ([OJ.1].map av),.p (eI N3)]),(1000000,((af.cs P5).map .p))]) ([(1000000,((af.cs Pd.2).map .p)),(6,bu),(7,[.p (eI k_2),.p (eI 0),.p (eS Ow.1),.p (eS Ow.2.1),.p (eI 0),.p (eI 0),.p (eS ([]:Bk)),.p (.val (.slice none 0 0)),.p (.val (.slice none 0 0)),.vec 33 11 0 ([OJ.1].map av),.p (eI N3)])]) ([(1000000,((af.cs Pd.2).map .p)),(6,bu),(7,[.p (eI k_2),.p (eI 0),.p (eS Ow.1),.p (eS Ow.2.1),.p (eI 0),.p (eI 0),.p (eS ([]:Bk)),.p (.val (.slice none 0 0)),.p (.val (.slice none 0 0)),.p (eL av [OJ.1]),.p (eI N3)])]) ([(7,[.p (eI k_2),.p (eI 0),.p (eS Ow.1),.p (eS Ow.2.1),.p (eI 0),.p (eI 0),.p (eS ([]:Bk)),.p (.val (.slice none 0 0)),.p (.val (.slice none 0 0)),.vec 42 11 0 (([OJ.1]++[Pd.1]).map av),.p (eI N3)]),(1000000,((af.cs Pd.2).map .p)),(6,bu),(7,[.p (eI k_2),.p (eI 0),.p (eS Ow.1),.p (eS Ow.2.1),.p (eI 0),.p (eI 0),.p (eS ([]:Bk)),.p (.val (.slice none 0 0)),.p (.val (.slice none 0 0)),.p (eL av [OJ.1]),.p (eI N3)])]))⟩ Z ?_);refine dPc (.ptr 7 9) Z (dP (by4 (.vec 33 11 0 ([OJ.1].map av)) (.vec 33 11 0 ([OJ.1].map av)) (.p (eL av [OJ.1])) (.p (eL av [OJ.1]))) Z ?_);refine dPc (.ptr 1000000 0) Z (dB (λ _=>.p (.agg (ag.cs Pd.1))) [(39,_)] Z ⟨.inr ⟨2,_,Z,Z,Z⟩,trivial⟩ Z Z (cM Z Z Y) (lt3 (λ h=>absurd h (by decide)) Y Y) (λ sl NI K hK=>ah Z (aN [1000000] [] 109000 109000 (NQ P5 _ e29) Z Z Z (aQ (NI _ _ Z) bU) Z ⟨sr,trivial⟩ Z Z ⟨⟨_,Z,⟨sr,sr,sr,sr,sr,sr,sr,trivial⟩⟩,trivial⟩ Z Z Z Z Z Z Z Z Tryz.call137 Z Z hK)) ?_);refine ar (λ _=>.p (eL av [Pd.1])) Z Z Z (fh Z Z Z Y) (lt3 Z Z Z) (ak Z (ak Z (ai [(40,_)] ⟨.inr ⟨3,_,Z,Z,Z⟩,trivial⟩ (λ sl NI K hK=>ah Z (bz av [Pd.1] Z Z Z Z Z Z (du (NI _ _ Z) Z eA) Z Z Z Z Z Z lJ hK)) (ak Z ap)))) (dB (λ _=>.vec 42 11 0 (([OJ.1]++[Pd.1]).map av)) [(38,_),(41,_)] Z ⟨.inr ⟨1,_,Z,Z,Z⟩,.inr ⟨4,_,Z,Z,Z⟩,trivial⟩ Z Z (dG Z Y) (lt3 (λ h=>absurd h (by decide)) (λ h=>absurd h (by decide)) Y) (λ sl NI K hK=>ah Z (fF av [OJ.1] [Pd.1] Z Z Z Z Z Z Z Z (NI _ _ Z) Z Z (NI _ _ Z) Z (λ x=>congrArg List.length (ag.F' x)) Z Z Z Z Tf hK)) ?_);refine dPc (.ptr 7 9) Z (dS Z ?_);refine cV (nx 6 Z ?_);refine bd h0 λ Pk h1 h0=>kN Pk (λ Sf=>⟨[(0,.ptr 1000000 0),(6,.ptr 6 0),(7,.ptr 7 0),(8,.p (eS Sf.1))],[(6,bu),(7,[.p (eI k_2),.p (eI 0),.p (eS Ow.1),.p (eS Ow.2.1),.p (eI 0),.p (eI 0),.p (eS ([]:Bk)),.p (.val (.slice none 0 0)),.p (.val (.slice none 0 0)),.vec 53 11 0 (Sf.2.1.map av),.p (eI N3)]),(1000000,[.p (eL az Sf.2.2.1),.p (eI Sf.2.2.2.1),.p (eI Sf.2.2.2.2.1),.p (eI Sf.2.2.2.2.2.1),.p (eI Sf.2.2.2.2.2.2.1),.p (eI Sf.2.2.2.2.2.2.2.1),.p (eS Sf.2.2.2.2.2.2.2.2)])]⟩) ?_ ?_
   ·refine nx 2 Z (bd h0 λ Sx h1 h0=>?_);refine kN Sx (λ QR=>⟨[(0,.ptr 1000000 0),(6,.ptr 6 0),(7,.ptr 7 0),(8,.p (eS Pk.1))],[(6,bu),(7,[.p (eI k_2),.p (eI 0),.p (eS Ow.1),.p (eS Ow.2.1),.p (eI 0),.p (eI 0),.p (eS ([]:Bk)),.p (.val (.slice none 0 0)),.p (.val (.slice none 0 0)),.vec 64 11 0 (QR.1.map av),.p (eI N3)]),(1000000,[.p (eL az QR.2.1),.p (eI QR.2.2.1),.p (eI QR.2.2.2.1),.p (eI QR.2.2.2.2.1),.p (eI QR.2.2.2.2.2.1),.p (eI QR.2.2.2.2.2.2.1),.p (eS QR.2.2.2.2.2.2.2)])]⟩) ?_ ?_
    ·refine nx 5 Z (bd h0 λ Uz e63 h0=>?_);refine mO Z (cVq [1000000] [] 115000 115000 (dM _ (af.mk Sx.2.1 Sx.2.2.1 Sx.2.2.2.1 Sx.2.2.2.2.1 (au.mk Sx.2.2.2.2.2.1 Sx.2.2.2.2.2.2.1 Sx.2.2.2.2.2.2.2)) Pk.1 _ e63) Tryz.call220 Z ?_);exact nx 7 Z (mQo (oi h0) (aJ _) Z Z Z Z (rD ⟨sr,sr,sr,sr,sr,sr,sr,gm _,gm _,sr,sr,trivial⟩) ⟨⟨_,Z,⟨sr,sr,sr,sr,sr,sr,sr,trivial⟩⟩,trivial⟩)
    refine nx 3 Z (bd h1 λ Sm e47 h1=>?_);refine mO Z (cVq [1000000] [] 112000 112000 (ia _ (af.mk Pk.2.2.1 Pk.2.2.2.1 Pk.2.2.2.2.1 Pk.2.2.2.2.2.1 (au.mk Pk.2.2.2.2.2.2.1 Pk.2.2.2.2.2.2.2.1 Pk.2.2.2.2.2.2.2.2)) ([105,102]:Bk) _ e47) Tryz.call242 Z ?_);refine nx 1 Z (fB [56] h1 Z (λ c48 h1=>?_) λ c48 h1=>?_)
    ·refine nx 4 Z (bd h1 λ PP Va h1=>?_);refine mO Z (cVq [1000000] [] 113000 113000 (bf _ Sm.2 _ Va) Tryz.call163 Z ?_);refine nx 1 Z (bd h1 λ OR Uc h1=>?_);refine cc' h1 λ SD h1=>mG (gE (t:=⟨[(0,.ptr 1000000 0),(6,.ptr 6 0),(7,.ptr 7 0),(8,.p (eS Pk.1))],[(6,bu),(7,[.p (eI k_2),.p (eI 0),.p (eS Ow.1),.p (eS Ow.2.1),.p (eI 0),.p (eI 0),.p (eS ([]:Bk)),.p (.val (.slice none 0 0)),.p (.val (.slice none 0 0)),.vec 53 11 0 (Pk.2.1.map av),.p (eI N3)]),(1000000,(af.cs PP.2).map .p)]⟩) Z Z) (mSq ⟨3,[3,5,7],(by4 (.some (dp [] 114000 114000)) (.some λ i=>Nat.beq i 53||Nat.beq i 64) .none .none),(λ _=>[(0,.ptr 1000000 0),(6,.ptr 6 0),(7,.ptr 7 0),(8,.p (eS Pk.1))]),(by4 ([(6,bu),(7,[.p (eI k_2),.p (eI 0),.p (eS Ow.1),.p (eS Ow.2.1),.p (eI 0),.p (eI 0),.p (eS ([]:Bk)),.p (.val (.slice none 0 0)),.p (.val (.slice none 0 0)),.vec 53 11 0 (Pk.2.1.map av),.p (eI N3)]),(1000000,((af.cs PP.2).map .p))]) ([(1000000,((af.cs OR.2).map .p)),(6,bu),(7,[.p (eI k_2),.p (eI 0),.p (eS Ow.1),.p (eS Ow.2.1),.p (eI 0),.p (eI 0),.p (eS ([]:Bk)),.p (.val (.slice none 0 0)),.p (.val (.slice none 0 0)),.vec 53 11 0 (Pk.2.1.map av),.p (eI N3)])]) ([(1000000,((af.cs OR.2).map .p)),(6,bu),(7,[.p (eI k_2),.p (eI 0),.p (eS Ow.1),.p (eS Ow.2.1),.p (eI 0),.p (eI 0),.p (eS ([]:Bk)),.p (.val (.slice none 0 0)),.p (.val (.slice none 0 0)),.p (eL av Pk.2.1),.p (eI N3)])]) ([(7,[.p (eI k_2),.p (eI 0),.p (eS Ow.1),.p (eS Ow.2.1),.p (eI 0),.p (eI 0),.p (eS ([]:Bk)),.p (.val (.slice none 0 0)),.p (.val (.slice none 0 0)),.vec 64 11 0 ((Pk.2.1++[OR.1]).map av),.p (eI N3)]),(1000000,((af.cs OR.2).map .p)),(6,bu),(7,[.p (eI k_2),.p (eI 0),.p (eS Ow.1),.p (eS Ow.2.1),.p (eI 0),.p (eI 0),.p (eS ([]:Bk)),.p (.val (.slice none 0 0)),.p (.val (.slice none 0 0)),.p (eL av Pk.2.1),.p (eI N3)])]))⟩ Z ?_);refine dPc (.ptr 7 9) Z (dP (by4 (.vec 53 11 0 (Pk.2.1.map av)) (.vec 53 11 0 (Pk.2.1.map av)) (.p (eL av Pk.2.1)) (.p (eL av Pk.2.1))) Z ?_);refine dPc (.ptr 1000000 0) Z (dB (λ _=>.p (.agg (ag.cs OR.1))) [(61,_)] Z ⟨.inr ⟨2,_,Z,Z,Z⟩,trivial⟩ Z Z (cM Z Z Y) (lt3 (λ h=>absurd h (by decide)) Y Y) (λ sl NI K hK=>ah Z (aN [1000000] [] 114000 114000 (NQ PP.2 _ Uc) Z Z Z (aQ (NI _ _ Z) bU) Z ⟨sr,trivial⟩ Z Z ⟨⟨_,Z,⟨sr,sr,sr,sr,sr,sr,sr,trivial⟩⟩,trivial⟩ Z Z Z Z Z Z Z Z Tryz.call137 Z Z hK)) ?_);refine ar (λ _=>.p (eL av [OR.1])) Z Z Z (fh Z Z Z Y) (lt3 Z Z Z) (ak Z (ak Z (ai [(62,_)] ⟨.inr ⟨3,_,Z,Z,Z⟩,trivial⟩ (λ sl NI K hK=>ah Z (bz av [OR.1] Z Z Z Z Z Z (du (NI _ _ Z) Z eA) Z Z Z Z Z Z lJ hK)) (ak Z ap)))) (dB (λ _=>.vec 64 11 0 ((Pk.2.1++[OR.1]).map av)) [(60,_),(63,_)] Z ⟨.inr ⟨1,_,Z,Z,Z⟩,.inr ⟨4,_,Z,Z,Z⟩,trivial⟩ Z Z (dG Z Y) (lt3 (λ h=>absurd h (by decide)) (λ h=>absurd h (by decide)) Y) (λ sl NI K hK=>ah Z (fF av Pk.2.1 [OR.1] Z Z Z Z Z Z Z Z (NI _ _ Z) Z Z (NI _ _ Z) Z (λ x=>congrArg List.length (ag.F' x)) Z Z Z Z SD hK)) ?_);refine dPc (.ptr 7 9) Z (dS Z ?_);refine cV (nx 1 Z ?_);exact ip
    exact nx 2 Z (eX _ (oi h1).symm (aU (bn 53 64 Z Z Z Z Z) (gE Z Z)))
   refine nx 5 Z (fD [45] h1 Z (λ Ts h1=>?_) λ Ts h1=>?_)
   ·refine nx 4 Z (bd h1 λ Px SJ h1=>?_);refine mO Z (cVq [1000000] [] 110000 110000 (fO _ Pd.2 ([61,62]:Bk) _ SJ) Tryz.call164 Z ?_);refine nx 2 Z (bd h1 λ Oc Uf h1=>?_);refine cc' h1 λ Qm h1=>mG (gE (t:=⟨[(0,.ptr 1000000 0),(6,.ptr 6 0),(7,.ptr 7 0)],[(6,bu),(7,[.p (eI k_2),.p (eI 0),.p (eS Ow.1),.p (eS Ow.2.1),.p (eI 0),.p (eI 0),.p (eS ([]:Bk)),.p (.val (.slice none 0 0)),.p (.val (.slice none 0 0)),.vec 42 11 0 (([OJ.1]++[Pd.1]).map av),.p (eI N3)]),(1000000,(af.cs Px).map .p)]⟩) Z Z) (mSq ⟨3,[3,5,7],(by4 (.some (dp [] 111000 111000)) (.some λ i=>Nat.beq i 42||Nat.beq i 53) .none .none),(λ _=>[(0,.ptr 1000000 0),(6,.ptr 6 0),(7,.ptr 7 0)]),(by4 ([(6,bu),(7,[.p (eI k_2),.p (eI 0),.p (eS Ow.1),.p (eS Ow.2.1),.p (eI 0),.p (eI 0),.p (eS ([]:Bk)),.p (.val (.slice none 0 0)),.p (.val (.slice none 0 0)),.vec 42 11 0 (([OJ.1]++[Pd.1]).map av),.p (eI N3)]),(1000000,((af.cs Px).map .p))]) ([(1000000,((af.cs Oc.2).map .p)),(6,bu),(7,[.p (eI k_2),.p (eI 0),.p (eS Ow.1),.p (eS Ow.2.1),.p (eI 0),.p (eI 0),.p (eS ([]:Bk)),.p (.val (.slice none 0 0)),.p (.val (.slice none 0 0)),.vec 42 11 0 (([OJ.1]++[Pd.1]).map av),.p (eI N3)])]) ([(1000000,((af.cs Oc.2).map .p)),(6,bu),(7,[.p (eI k_2),.p (eI 0),.p (eS Ow.1),.p (eS Ow.2.1),.p (eI 0),.p (eI 0),.p (eS ([]:Bk)),.p (.val (.slice none 0 0)),.p (.val (.slice none 0 0)),.p (eL av ([OJ.1]++[Pd.1])),.p (eI N3)])]) ([(7,[.p (eI k_2),.p (eI 0),.p (eS Ow.1),.p (eS Ow.2.1),.p (eI 0),.p (eI 0),.p (eS ([]:Bk)),.p (.val (.slice none 0 0)),.p (.val (.slice none 0 0)),.vec 53 11 0 ((([OJ.1]++[Pd.1])++[Oc.1]).map av),.p (eI N3)]),(1000000,((af.cs Oc.2).map .p)),(6,bu),(7,[.p (eI k_2),.p (eI 0),.p (eS Ow.1),.p (eS Ow.2.1),.p (eI 0),.p (eI 0),.p (eS ([]:Bk)),.p (.val (.slice none 0 0)),.p (.val (.slice none 0 0)),.p (eL av ([OJ.1]++[Pd.1])),.p (eI N3)])]))⟩ Z ?_);refine dPc (.ptr 7 9) Z (dP (by4 (.vec 42 11 0 (([OJ.1]++[Pd.1]).map av)) (.vec 42 11 0 (([OJ.1]++[Pd.1]).map av)) (.p (eL av ([OJ.1]++[Pd.1]))) (.p (eL av ([OJ.1]++[Pd.1])))) Z ?_);refine dPc (.ptr 1000000 0) Z (dB (λ _=>.p (.agg (ag.cs Oc.1))) [(50,_)] Z ⟨.inr ⟨2,_,Z,Z,Z⟩,trivial⟩ Z Z (cM Z Z Y) (lt3 (λ h=>absurd h (by decide)) Y Y) (λ sl NI K hK=>ah Z (aN [1000000] [] 111000 111000 (NQ Px _ Uf) Z Z Z (aQ (NI _ _ Z) bU) Z ⟨sr,trivial⟩ Z Z ⟨⟨_,Z,⟨sr,sr,sr,sr,sr,sr,sr,trivial⟩⟩,trivial⟩ Z Z Z Z Z Z Z Z Tryz.call137 Z Z hK)) ?_);refine ar (λ _=>.p (eL av [Oc.1])) Z Z Z (fh Z Z Z Y) (lt3 Z Z Z) (ak Z (ak Z (ai [(51,_)] ⟨.inr ⟨3,_,Z,Z,Z⟩,trivial⟩ (λ sl NI K hK=>ah Z (bz av [Oc.1] Z Z Z Z Z Z (du (NI _ _ Z) Z eA) Z Z Z Z Z Z lJ hK)) (ak Z ap)))) (dB (λ _=>.vec 53 11 0 ((([OJ.1]++[Pd.1])++[Oc.1]).map av)) [(49,_),(52,_)] Z ⟨.inr ⟨1,_,Z,Z,Z⟩,.inr ⟨4,_,Z,Z,Z⟩,trivial⟩ Z Z (dG Z Y) (lt3 (λ h=>absurd h (by decide)) (λ h=>absurd h (by decide)) Y) (λ sl NI K hK=>ah Z (fF av ([OJ.1]++[Pd.1]) [Oc.1] Z Z Z Z Z Z Z Z (NI _ _ Z) Z Z (NI _ _ Z) Z (λ x=>congrArg List.length (ag.F' x)) Z Z Z Z Qm hK)) ?_);refine dPc (.ptr 7 9) Z (dS Z ?_);refine cV (nx 4 Z ?_);exact ip
   exact nx 2 Z (eX _ (oi h1).symm (aU (bn 42 53 Z Z Z Z Z) (gE Z Z)))
  refine nx 3 Z (bd h1 λ r5 e6 h1=>?_);refine mO Z (cVq [1000000] [] 103000 103000 (bN _ r3.2 ([44]:Bk) _ e6) Tryz.call162 Z ?_);refine nx 1 Z (fB [17] h1 Z (λ c7 h1=>?_) λ c7 h1=>?_)
  ·refine nx 4 Z (bd h1 λ r8 e9 h1=>?_);refine mO Z (cVq [1000000] [] 104000 104000 (bf _ r5.2 _ e9) Tryz.call163 Z ?_);refine nx 10 Z (bd h1 λ Ot Qe h1=>?_);refine mO Z (cVq [1000000] [] 105000 105000 (kb _ r8.2 _ Qe) Tryz.call250 Z ?_);exact y3
  exact cZ
 ·skip
  intro NL r h0;rw [fQ] at h0;refine bT good [] [1000000] Tryz.func244 Z Z Z Z Z λ w0 F=>mPo (λ v:(List ag)×af=>.p (eL av v.1)) (λ v=>[(1000000,((af.cs v.2).map .p))]) ?_;refine nx 10 rfl (bd h0 λ o89 h1 h0=>?_);refine kE 0 o89 (λ Tw=>⟨[(3,.vec 23 11 0 (Tw.1.map av))],[(1000000,[.p (eL az Tw.2.1),.p (eI Tw.2.2.1),.p (eI Tw.2.2.2.1),.p (eI Tw.2.2.2.2.1),.p (eI Tw.2.2.2.2.2.1),.p (eI Tw.2.2.2.2.2.2.1),.p (eS Tw.2.2.2.2.2.2.2)])]⟩) ?_ ?_
  ·exact pD
  refine lG (λ (Q7:(List ag)×(List ac)×Int×Int×Int×Int×Int×Bk)=>⟨[(0,.ptr 1000000 0),(3,.vec 23 11 0 (Q7.1.map av))],[(1000000,[.p (eL az Q7.2.1),.p (eI Q7.2.2.1),.p (eI Q7.2.2.2.1),.p (eI Q7.2.2.2.2.1),.p (eI Q7.2.2.2.2.2.1),.p (eI Q7.2.2.2.2.2.2.1),.p (eS Q7.2.2.2.2.2.2.2)])]⟩) (λ m (Q7:(List ag)×(List ac)×Int×Int×Int×Int×Int×Bk)=>cK n (aO n) (dN n) m Q7.1 Q7.2.1 Q7.2.2.1 Q7.2.2.2.1 Q7.2.2.2.2.1 Q7.2.2.2.2.2.1 Q7.2.2.2.2.2.2.1 Q7.2.2.2.2.2.2.2) Y ([],NL.fl,NL.fat,NL.G',NL.Gw,NL.AI.Ar,NL.AI.fAt,NL.AI.AT) h1 (cG (jv ⟨er rfl,⟨_,rfl,AV.sub_nilvec _ _ _⟩,trivial⟩ ⟨⟨_,rfl,⟨sr,sr,sr,sr,sr,sr,sr,trivial⟩⟩,trivial⟩)) ?_;rintro m ⟨Pu,OO,Pb,Pz,PK,PI,Rc,Rb⟩ h1;replace h1:cK n (aO n) (dN n) (m+1) Pu OO Pb Pz PK PI Rc Rb=some o89:=h1;rw [cK] at h1;refine nx 2 rfl (bd h1 λ TH h2 h1=>?_);refine kN TH (λ Tv=>⟨[(0,.ptr 1000000 0),(3,.vec 23 11 0 (Pu.map av)),(11,.p (eB Tv.1))],[(1000000,[.p (eL az Tv.2.1),.p (eI Tv.2.2.1),.p (eI Tv.2.2.2.1),.p (eI Tv.2.2.2.2.1),.p (eI Tv.2.2.2.2.2.1),.p (eI Tv.2.2.2.2.2.2.1),.p (eS Tv.2.2.2.2.2.2.2)])]⟩) ?_ ?_
  ·refine nx 1 Z (fB [11] h1 Z (λ Uh h1=>?_) λ Uh h1=>?_)
   ·refine nx 7 Z (bd h1 λ P9 U7 h1=>?_);refine mO Z (cVq [1000000] [] 110000 110000 (Pl (af.mk TH.2.1 TH.2.2.1 TH.2.2.2.1 TH.2.2.2.2.1 (au.mk TH.2.2.2.2.2.1 TH.2.2.2.2.2.2.1 TH.2.2.2.2.2.2.2)) _ U7) Tryz.call252 Z ?_);refine mO Z (bz av [P9.1] Z Z Z Z Z Z Z Z Z Z Z Z Z lJ ?_);refine cc' h1 λ RO h1=>mO Z (fF av Pu [P9.1] Z Z Z Z Z Z Z Z Z Z Z Z Z (λ x=>congrArg List.length (ag.F' x)) Z Z Z Z RO ?_);refine nx 5 Z (bd h1 λ Pj U6 h1=>?_);refine mO Z (cVq [1000000] [] 111000 111000 (fO _ P9.2 ([61]:Bk) _ U6) Tryz.call164 Z ?_);refine nx 5 Z (bd h1 λ Qx U5 h1=>?_);refine mO Z (cVq [1000000] [] 112000 112000 (NQ Pj _ U5) Tryz.call137 Z ?_);refine mO Z (bz av [Qx.1] Z Z Z Z Z Z Z Z Z Z Z Z Z lJ ?_);refine cc' h1 λ hk65 h1=>mO Z (fF av (Pu++[P9.1]) [Qx.1] Z Z Z Z Z Z Z Z Z Z Z Z Z (λ x=>congrArg List.length (ag.F' x)) Z Z Z Z hk65 ?_);refine nx 6 Z (bd h1 λ Qw U4 h1=>?_);refine mO Z (cVq [1000000] [] 113000 113000 (bN _ Qx.2 ([44]:Bk) _ U4) Tryz.call162 Z ?_);refine nx 2 Z (fB [26] h1 Z (λ Vi h1=>?_) λ Vi h1=>?_)
    ·exact cH
    refine nx 4 Z (bd h1 λ Rl e70 h1=>?_);refine mO Z (cVq [1000000] [] 114000 114000 (bf _ Qw.2 _ e70) Tryz.call163 Z ?_);exact nx 1 Z (eX ((Pu++[P9.1])++[Qx.1],Rl.2.fl,Rl.2.fat,Rl.2.G',Rl.2.Gw,Rl.2.AI.Ar,Rl.2.AI.fAt,Rl.2.AI.AT) h1 (gE Z Z))
   exact cH
  refine nx 2 Z (bd h2 λ Rw e45 h2=>?_);refine mO Z (cVq [1000000] [] 108000 108000 (d9 (af.mk OO Pb Pz PK (au.mk PI Rc Rb)) _ e45) Tryz.call189 Z ?_);refine nx 2 Z (fB [6,7] h2 Z (λ c46 h2=>?_) λ c46 h2=>?_)
  ·refine nx 1 Z (bd h2 λ S5 e48 h2=>?_);refine mO Z (cVq [1000000] [] 109000 109000 (bN _ Rw.2 ([125]:Bk) _ e48) Tryz.call162 Z ?_);exact nO
  exact pr
 ·skip
  intro NL r h0;rw [dN] at h0;refine bT good [] [1000000] Tryz.func252 Z Z Z Z Z λ w0 F=>mPo (λ v:ag×af=>.p (.agg (ag.cs v.1))) (λ v=>[(1000000,((af.cs v.2).map .p))]) ?_;refine nx 7 rfl (bd h0 λ r1 e2 h0=>?_);refine mO rfl (cVq [1000000] [] 101000 101000 (eY _ NL _ e2) Tryz.call188 rfl ?_);refine nx 12 rfl (fD [7,10] h0 rfl (λ c3 h0=>?_) λ c3 h0=>?_)
  ·refine nx 4 Z (bd h0 λ r4 e5 h0=>?_);refine mO Z (cVq [1000000] [] 102000 102000 (bf _ r1.2 _ e5) Tryz.call163 Z ?_);refine nx 8 Z (bd h0 λ r6 e7 h0=>?_);refine oK (gN (aw.mk 3 0 r1.1.BY [] []) r1.1.fAt _ e7) Z ⟨dW ⟨.inl Z,.inl Z,.inl Z,.inr ⟨Z,Z⟩,.inr ⟨Z,Z⟩,trivial⟩,sr,trivial⟩ Tryz.call229 Z (nx 3 Z ?_);exact qD h0 Z
  refine nx 8 Z (fD [19,22] h0 Z (λ c8 h0=>?_) λ c8 h0=>?_)
  ·refine nx 4 Z (bd h0 λ r9 Qp h0=>?_);refine mO Z (cVq [1000000] [] 103000 103000 (OB r1.2 _ Qp) Tryz.call230 Z ?_);exact kY
  refine nx 4 Z (bd h0 λ PM QN h0=>?_);refine mO Z (cVq [1000000] [] 104000 104000 (bN _ r1.2 ([40]:Bk) _ QN) Tryz.call162 Z ?_);refine nx 2 Z (fB [25,27] h0 Z (λ P8 h0=>?_) λ P8 h0=>?_)
  ·refine nx 4 Z (bd h0 λ Oq RX h0=>?_);refine mO Z (cVq [1000000] [] 105000 105000 (eZ _ PM.2 _ RX) Tryz.call219 Z ?_);refine nx 4 Z (bd h0 λ Pq Rh h0=>?_);refine mO Z (cVq [1000000] [] 106000 106000 (NQ Oq _ Rh) Tryz.call137 Z ?_);refine nx 6 Z (bd h0 λ Py SK h0=>?_);refine mO Z (cVq [1000000] [] 107000 107000 (dM _ Pq.2 ([41]:Bk) _ SK) Tryz.call220 Z ?_);exact pD
  refine nx 7 Z (bd h0 λ Pp Rt h0=>?_);refine mO Z (cVq [1000000] [] 108000 108000 (cD PM.2 2 r1.1.fAt _ Rt) Tryz.call190 Z ?_);exact kY
theorem qF (n:Nat):∀ (NL:af) (r:ag×af),aO n NL=some r->aS Tryz.prog 137 [.ptr 1000000 0] [(1000000,((af.cs NL).map .p))] (λ x y=>x=.p (.agg (ag.cs r.1))/\y=[(1000000,((af.cs r.2).map .p))]):=(su n).2.2.2.1
abbrev kp:List AV:=[.p (eI 0),.p (eI 0),.p (eS ([]:Bk)),.p (eS ([]:Bk)),.p (eI 0),.p (eI 0),.p (eS ([]:Bk)),.p (.val (.slice none 0 0)),.p (.val (.slice none 0 0)),.p (.val (.slice none 0 0)),.p (eI 0)]
abbrev ku:List AV:=[.p (eI 0),.p (eI 0),.p (eS ([]:Bk))]
def kU (n:Nat)(l_0:List ac)(N3:Int):Option (ag×Int×au) :=((ln n l_0).bind λ r1=>if r1=0 then if N3<0 then some true else some (decide ((l_0.length:Int)<=N3))else some true : Option Bool).bind λ t5=>if t5=true then some ((ag.mk 0 0 ([]:Bk) ([]:Bk) (aw.mk 0 0 ([]:Bk) [] []) [] 0),0,(au.mk 1 0 ([]:Bk)))else(aO n (af.mk l_0 N3 0 0 (au.mk 0 0 ([]:Bk)))).bind λ r7=>(gU n r7.1 r7.2.AI).bind λ r9=>if r9.2.Ar=0 then some (r9.1,r7.2.fat,(au.mk 0 0 ([]:Bk)))else some ((ag.mk 0 0 ([]:Bk) ([]:Bk) (aw.mk 0 0 ([]:Bk) [] []) [] 0),0,r9.2)
theorem yJ (n:Nat)(l_0:List ac)(N3:Int)(r:ag×Int×au)(h0:kU n l_0 N3=some r):aK Tryz.prog 116 [eL az l_0,eI N3] (·=.tuple [.p (.agg (ag.cs r.1)),.p (eI r.2.1),.p (.agg (au.cs r.2.2))]):=by
 unfold kU at h0;refine bV good Tryz.func116 Z Z Z λ w0=>mP (λ v:ag×Int×au=>.tuple [.p (.agg (ag.cs v.1)),.p (eI v.2.1),.p (.agg (au.cs v.2.2))]) ?_;refine nx 8 Z (bd h0 λ o13 h1 h0=>?_);refine kN o13 (λ Uv=>⟨[(0,.p (eL az l_0)),(1,.p (eI N3)),(4,.ptr 4 0),(6,.ptr 6 0),(23,.p (eB Uv))],[(4,kp),(6,ku)]⟩) ?_ ?_
 ·refine nx 1 Z (fB [23] h0 Z (λ c6 h0=>?_) λ c6 h0=>?_)
  ·exact nx 10 Z (mQ (oi h0) Z (cb ⟨dW ⟨.inl Z,.inl Z,.inl Z,.inl Z,.inl Z,.inl Z,.inl Z,.inr ⟨Z,Z⟩,.inr ⟨Z,Z⟩,.inr ⟨Z,Z⟩,.inl Z,trivial⟩,sr,sr,trivial⟩))
  refine nx 13 Z (bd h0 λ r7 e8 h0=>?_);refine mO Z (cVq [29] [] 101000 101000 (qF _ (af.mk l_0 N3 0 0 (au.mk 0 0 ([]:Bk))) _ e8) Tryz.call137 Z ?_);refine nx 4 Z (bd h0 λ r9 Qp h0=>?_);refine mG (gE (t:=⟨[(4,.ptr 4 0),(6,.ptr 6 0),(7,.ptr 29 0),(8,.ptr 8 0)],[(4,kp),(6,ku),(8,(ag.cs r7.1).map .p),(29,(af.cs r7.2).map .p)]⟩) Z Z) (mSS ⟨4,[9,10,11,12],(by5 (.some λ i=>Nat.beq i 9) (.some λ i=>Nat.beq i 10) .none .none .none),(λ _=>[(4,.ptr 4 0),(6,.ptr 6 0),(7,.ptr 29 0),(8,.ptr 8 0)]),(ob5 ([(4,kp),(6,ku),(8,((ag.cs r7.1).map .p)),(29,((af.cs r7.2).map .p))]) (9,kp) (10,ku) (9,((ag.cs r9.1).map .p)) (10,((au.cs r9.2).map .p)))⟩ ⟨4,[10,9,11,12],(by5 (.some λ i=>Nat.beq i 10) (.some λ i=>Nat.beq i 9) .none .none .none),(λ _=>[(4,.ptr 4 0),(6,.ptr 6 0),(7,.ptr 29 0),(8,.ptr 8 0)]),(ob5 ([(4,kp),(6,ku),(8,((ag.cs r7.1).map .p)),(29,((af.cs r7.2).map .p))]) (10,ku) (9,kp) (9,((ag.cs r9.1).map .p)) (10,((au.cs r9.2).map .p)))⟩ Z Z Z Z Z Z Z ⟨Z,Z,Z,Z,trivial⟩ Z (lt4 ⟨Z,Z,Z,Z,trivial⟩ ⟨Z,Z,Z,Z,trivial⟩ ⟨Z,Z,Z,Z,trivial⟩ ⟨Z,Z,Z,Z,trivial⟩) (lt4 ⟨Z,Z,Z,Z,trivial⟩ ⟨Z,Z,Z,Z,trivial⟩ ⟨Z,Z,Z,Z,trivial⟩ ⟨Z,Z,Z,Z,trivial⟩) Z Z Z Z Z ?_);refine dPc (.p (.agg (ag.cs r7.1))) Z (dPc (.ptr 29 0) Z ?_);refine dPc (.ptr 29 0) Z (dPc (.ptr 29 4) Z ?_);refine dPc (.p (.agg (au.cs r7.2.AI))) Z (ar (λ _=>.tuple [.p (.agg (ag.cs r9.1)),.p (.agg (au.cs r9.2))]) Z Z Z (uu Z Z Z Z Y) (lt4 Z Z Z Z) (ak Z (ak Z (ai [(33,_),(37,_)] ⟨.inr ⟨0,_,Z,Z,Z⟩,.inr ⟨4,_,Z,Z,Z⟩,trivial⟩ (λ sl NI K hK=>ah Z (cF (pQ _ r7.1 r7.2.AI _ Qp) Z Z Z (aQ (NI _ _ Z) (aQ (NI _ _ Z) bU)) ⟨sr,sr,trivial⟩ Tryz.call138 Z hK)) (ai [(33,_),(37,_)] ⟨.inr ⟨0,_,Z,Z,Z⟩,.inr ⟨4,_,Z,Z,Z⟩,trivial⟩ (λ sl NI K hK=>ah Z (cF (pQ _ r7.1 r7.2.AI _ Qp) Z Z Z (aQ (NI _ _ Z) (aQ (NI _ _ Z) bU)) ⟨sr,sr,trivial⟩ Tryz.call138 Z hK)) (ai [(33,_),(37,_)] ⟨.inr ⟨0,_,Z,Z,Z⟩,.inr ⟨4,_,Z,Z,Z⟩,trivial⟩ (λ sl NI K hK=>ah Z (cF (pQ _ r7.1 r7.2.AI _ Qp) Z Z Z (aQ (NI _ _ Z) (aQ (NI _ _ Z) bU)) ⟨sr,sr,trivial⟩ Tryz.call138 Z hK)) ap))))) ?_);refine dPc (.tuple [.p (.agg (ag.cs r9.1)),.p (.agg (au.cs r9.2))]) Z (dPc (.p (.agg (ag.cs r9.1))) Z ?_);refine dPc (.p (.agg (au.cs r9.2))) Z (dB (λ _=>.ptr 9 0) [] Z trivial Z Z (fh Z Z Z Y) (lt4 (λ h=>absurd h (by decide)) Y Y Y) (λ sl NI K hK=>ah Z (fP Z Z Z Z Z hK)) ?_);refine dB (λ _=>.ptr 10 0) [] Z trivial Z Z (cM Z Z Y) (lt4 (λ h=>absurd h (by decide)) (λ h=>absurd h (by decide)) Y Y) (λ sl NI K hK=>ah Z (fP Z Z Z Z Z hK)) (dS Z ?_);refine dS Z (wl (dPc (.p (.agg (ag.cs r7.1))) Z (dPc (.ptr 29 0) Z (dPc (.ptr 29 0) Z (dPc (.ptr 29 4) Z (dPc (.p (.agg (au.cs r7.2.AI))) Z (ar (λ _=>.tuple [.p (.agg (ag.cs r9.1)),.p (.agg (au.cs r9.2))]) Z Z Z (uu Z Z Z Z Y) (lt4 Z Z Z Z) (ak Z (ak Z (ai [(33,_),(37,_)] ⟨.inr ⟨0,_,Z,Z,Z⟩,.inr ⟨4,_,Z,Z,Z⟩,trivial⟩ (λ sl NI K hK=>ah Z (cF (pQ _ r7.1 r7.2.AI _ Qp) Z Z Z (aQ (NI _ _ Z) (aQ (NI _ _ Z) bU)) ⟨sr,sr,trivial⟩ Tryz.call138 Z hK)) (ai [(33,_),(37,_)] ⟨.inr ⟨0,_,Z,Z,Z⟩,.inr ⟨4,_,Z,Z,Z⟩,trivial⟩ (λ sl NI K hK=>ah Z (cF (pQ _ r7.1 r7.2.AI _ Qp) Z Z Z (aQ (NI _ _ Z) (aQ (NI _ _ Z) bU)) ⟨sr,sr,trivial⟩ Tryz.call138 Z hK)) (ai [(33,_),(37,_)] ⟨.inr ⟨0,_,Z,Z,Z⟩,.inr ⟨4,_,Z,Z,Z⟩,trivial⟩ (λ sl NI K hK=>ah Z (cF (pQ _ r7.1 r7.2.AI _ Qp) Z Z Z (aQ (NI _ _ Z) (aQ (NI _ _ Z) bU)) ⟨sr,sr,trivial⟩ Tryz.call138 Z hK)) ap))))) (dPc (.tuple [.p (.agg (ag.cs r9.1)),.p (.agg (au.cs r9.2))]) Z (dPc (.p (.agg (ag.cs r9.1))) Z (dPc (.p (.agg (au.cs r9.2))) Z (dB (λ _=>.ptr 9 0) [] Z trivial Z Z (cM Z Z Y) (lt4 (λ h=>absurd h (by decide)) (λ h=>absurd h (by decide)) Y Y) (λ sl NI K hK=>ah Z (fP Z Z Z Z Z hK)) (dB (λ _=>.ptr 10 0) [] Z trivial Z Z (fh Z Z Z Y) (lt4 (λ h=>absurd h (by decide)) Y Y Y) (λ sl NI K hK=>ah Z (fP Z Z Z Z Z hK)) (dS Z (dS Z (IA Z ⟨Z,Z,Z,Z,Z,Z,Z,Z,trivial⟩ ⟨⟨Z,Z,.inl Z⟩,⟨⟨Z,Z,.inl Z⟩,⟨⟨Z,Z,.inr Z⟩,⟨⟨Z,Z,.inr Z⟩,⟨⟨Z,Z,.inr Z⟩,⟨⟨Z,Z,.inr Z⟩,⟨⟨Z,Z,.inr Z⟩,⟨⟨Z,Z,.inr Z⟩,⟨⟨Z,Z,.inr Z⟩,⟨⟨Z,Z,.inr Z⟩,⟨⟨Z,Z,.inr Z⟩,trivial⟩⟩⟩⟩⟩⟩⟩⟩⟩⟩⟩)))))))))))))) ?_);refine nx 8 Z (fN [43] h0 Z (λ Qq h0=>?_) λ Qq h0=>?_)
  ·refine nx 3 Z (mG (gE (t:=⟨[(4,.ptr 4 0),(6,.ptr 6 0),(7,.ptr 29 0),(9,.ptr 9 0)],[(4,kp),(6,ku),(9,(ag.cs r9.1).map .p),(29,(af.cs r7.2).map .p)]⟩) Z Z) ?_);refine mSq ⟨2,[6,8],(λ _=>.none),(λ _=>[(4,.ptr 4 0),(6,.ptr 6 0),(7,.ptr 29 0),(9,.ptr 9 0)]),(ob3 ([(4,kp),(6,ku),(9,((ag.cs r9.1).map .p)),(29,((af.cs r7.2).map .p))]) (4,((ag.cs r9.1).map .p)) (6,ku))⟩ Z (dPc (.p (.agg (ag.cs r9.1))) Z ?_);refine dPc (.ptr 29 0) Z (dPc (.ptr 29 0) Z ?_);refine dPc (.ptr 29 1) Z (dPc (.p (eI r7.2.fat)) Z ?_);refine dPc (.p (.agg [eI 0,eI 0,eS ([]:Bk)])) Z (dS Z ?_);refine dPc (.p (eI r7.2.fat)) Z (dS Z ?_);refine cV (nx 2 Z ?_);exact mQ (oi h0) Z (cb ⟨sr,sr,sr,trivial⟩)
  refine nx 2 Z (mG (gE (t:=⟨[(4,.ptr 4 0),(6,.ptr 6 0),(10,.ptr 10 0)],[(4,kp),(6,ku),(10,(au.cs r9.2).map .p)]⟩) Z Z) ?_);refine mSq ⟨2,[2,4],(λ _=>.none),(λ _=>[(4,.ptr 4 0),(6,.ptr 6 0),(10,.ptr 10 0)]),(ob3 ([(4,kp),(6,ku),(10,((au.cs r9.2).map .p))]) (4,kp) (6,((au.cs r9.2).map .p)))⟩ Z (dPc (.p (.agg [eI 0,eI 0,eS ([]:Bk),eS ([]:Bk),eI 0,eI 0,eS ([]:Bk),.val (.slice none 0 0),.val (.slice none 0 0),.val (.slice none 0 0),eI 0])) Z ?_);refine dPc (.p (.agg (au.cs r9.2))) Z (dS Z ?_);refine dPc (.p (eI 0)) Z (dS Z ?_);refine cV (nx 2 Z ?_);exact mQ (oi h0) Z (cb ⟨dW ⟨.inl Z,.inl Z,.inl Z,.inl Z,.inl Z,.inl Z,.inl Z,.inr ⟨Z,Z⟩,.inr ⟨Z,Z⟩,.inr ⟨Z,Z⟩,.inl Z,trivial⟩,sr,sr,trivial⟩)
 refine nx 2 Z (bd h1 λ r1 e2 h1=>?_);refine oK (vE _ l_0 _ e2) Z ⟨sr,trivial⟩ Tryz.call136 Z (nx 2 Z ?_);refine fN [13,14] h1 Z (λ c3 h1=>?_) λ c3 h1=>?_
 ·refine nx 4 Z (fD [16,17,18] h1 Z (λ c4 h1=>?_) λ c4 h1=>?_)
  ·exact jR
  refine nx 2 Z (oLl (f:=az) Z Z ?_);exact y3
 exact rq
end Go.Ab.R06
end
section
namespace Go.Ab.R06
open Go.Ab Go.Ab.RB Go.Lib
variable {p:Prop}
theorem tR (h:p:=by simpa using h):p:=h
theorem rb (h:p:=by exact ax G (ae Z)):p:=h
theorem yf (h:p:=by exact aT (rT s (b::r) o d) Z):p:=h
def pz (s l:Bk):Int:=(s.length:Int)-(l.length:Int)
theorem yc {s l:Bk}(h:l <:+ s):pz s l=((s.length-l.length:Nat):Int):=by
 have:=h.length_le;unfold pz; omega
theorem wq {s l:Bk}(h:l <:+ s):s.drop (s.length-l.length)=l:=by
 obtain ⟨t,rfl⟩:=h;simp
theorem kc {s r:Bk}{b:UInt8}(h:(b::r) <:+ s):r <:+ s:=(List.suffix_cons b r).trans h
theorem Du {s l:Bk}(k:Nat)(h:l <:+ s):l.drop k <:+ s:=(List.drop_suffix k l).trans h
theorem qn {s r:Bk}{b:UInt8}:pz s r=pz s (b::r)+1:=by
 unfold pz; simp only [cl]; omega
theorem uM {s l:Bk}{k:Nat}(hk:k<=l.length):pz s (l.drop k)=pz s l+(k:Int):=by
 unfold pz; rw [ro]; omega
theorem DL {s l:Bk}(h:l <:+ s):0<=pz s l:=by have:=h.length_le; unfold pz; omega
theorem Do {s l:Bk}:pz s l<=s.length:=by unfold pz; omega
theorem Di {s r:Bk}{b:UInt8}:pz s (b::r)<s.length:=by unfold pz; simp only [cl]; omega
theorem De (s:Bk):pz s s=0:=by unfold pz; omega
theorem oz {s r:Bk}{b:UInt8}(h:(b::r) <:+ s):byt s (pz s (b::r))=(b.toNat:Int):=by
 rw [yc h,jO];have h1:=wq h;have h2:s.length-(b::r).length<s.length:=by have:=h.length_le; simp only [cl] at this ⊢; omega
 rw [List.drop_eq_getElem_cons h2] at h1;rw [List.getD_eq_getElem?_getD,List.getElem?_eq_getElem h2];exact congrArg _ (congrArg _ (ur h1).1)
theorem sk {s l:Bk}(h:l <:+ s):sub s (pz s l) (s.length:Int)=l:=by
 rw [kG,yc h,Int.toNat_natCast,wq h]
theorem DW {s l l':Bk}(h:l <:+ s)(h':l' <:+ l):sub s (pz s l) (pz s l')=l.take (l.length-l'.length):=by
 have h1:=h.length_le;have h2:=h'.length_le;rw [yc h,yc (h'.trans h),sf,List.drop_take,wq h];congr 1; omega
def pp (b:UInt8):Bool:=decide (b.toNat=32)||decide (b.toNat=9)||decide (b.toNat=13)
def lr (b:UInt8):Nat:=if qB b then 2 else if jC b then 3 else if b.toNat=34 then 5 else if b.toNat=10 then 6 else if b.toNat=35 then 7 else if pp b then 1 else if (lat jm (b.toNat:Int)).toNat=4 then 4 else 0
theorem Nq:(List.range 256).all (λ n=>(lat jm ((UInt8.ofNat n).toNat:Int)).toNat==lr (UInt8.ofNat n))=true:=by decide +kernel
theorem tM (b:UInt8):(lat jm (b.toNat:Int)).toNat=lr b:=by
 have:=rd.1 Nq b.toNat (List.mem_range.2 (UInt8.toNat_lt b));rw [UInt8.ofNat_toNat] at this;exact eq_of_beq this
theorem sF {s r:Bk}{b:UInt8}(h:(b::r) <:+ s):(0:Int)<=byt s (pz s (b::r))/\byt s (pz s (b::r))<256:=by
 rw [oz h];have:=UInt8.toNat_lt b;omega
theorem pR {s r:Bk}{b:UInt8}(h:(b::r) <:+ s):(0:Int)<=pz s (b::r)/\pz s (b::r)<(s.length:Int):=⟨DL h,Di⟩
theorem j5 (b:UInt8):(lr b=1↔pp b=true)/\(lr b=2↔qB b=true)/\(lr b=3↔jC b=true)/\(lr b=5↔b.toNat=34)/\(lr b=6↔b.toNat=10)/\(lr b=7↔b.toNat=35):=by
 have h1:=vw b;have h2:=rU b;have h3:pp b=true↔b.toNat=32\/b.toNat=9\/b.toNat=13:=by simp [pp,or_assoc]
 unfold lr
 repeat' split
 all_goals (refine ⟨?_,?_,?_,?_,?_,?_⟩ <;> simp_all <;> omega)
def scx (s l:Bk)(o:Int)(d:au):ab:=.mk s (pz s l) o d
theorem rT (s l:Bk)(o:Int)(d:au):bX (scx s l o d)=some (!l.isEmpty,scx s l o d):=by
 unfold bX scx;simp only [aq,Prod.mk.injEq,and_true]
 cases l with
 | nil=>simp [pz]
 | cons b r=>simp only [List.isEmpty_cons,Bool.not_false,decide_eq_true_eq]; exact Di
def hQ (c:Bool)(l:Bk):Bk :=
 match l.dropWhile pp with
 | b::r=>if c&&decide (b.toNat=35) then (b::r).dropWhile (λ x=>!decide (x=10)) else b::r
 | []=>[]
theorem sK {p:UInt8->Bool}(l:Bk):l.dropWhile p <:+ l:=List.dropWhile_suffix p
theorem qi (c:Bool)(l:Bk):hQ c l <:+ l:=by
 unfold hQ;have h:=sK (p:=pp) l;split
 ·rename_i b r hb;rw [hb] at h;split
  ·exact (sK _).trans h
  ·exact h
 ·exact List.nil_suffix
theorem AP:∀ (l:Bk),(indexByte l 10<0->l.dropWhile (λ x=>!decide (x=10))=[])/\(0<=indexByte l 10->l.dropWhile (λ x=>!decide (x=10))=l.drop (indexByte l 10).toNat/\(indexByte l 10).toNat<l.length)
 | []=>by simp [indexByte]
 | b::r=>by
  have ih:=AP r;have hge:=indexByte_ge r 10;unfold indexByte;by_cases h:b=10
  ·subst h; simp
  ·rw [if_neg tR];simp only [List.dropWhile_cons,h,decide_false,Bool.not_false,if_true];by_cases hn:indexByte r 10<0
   ·rw [if_pos (by rw [beq_iff_eq]; omega)];exact ⟨λ _=>ih.1 hn,λ h=>by omega⟩
   ·rw [if_neg (by rw [beq_iff_eq]; omega)];have:=ih.2 O;refine ⟨λ h=>by omega,λ _=>⟨?_,?_⟩⟩
    ·rw [this.1,show (indexByte r 10+1).toNat=(indexByte r 10).toNat+1 by omega,List.drop_succ_cons]
    ·simp only [cl]; omega
theorem Na (l:Bk):strings_IndexByte l 10=some (indexByte l 10):=rfl
theorem wY {s r:Bk}{b:UInt8}{o:Int}{d:au}(h:(b::r) <:+ s)(h1:lr b≠1)(h7:¬ (lr b=7/\o<0)):Ev2 (λ _ m=>bG m (scx s (b::r) o d)) (·=.inr (scx s (b::r) o d)):=by
 refine bc ?_;simp only [bG];refine aC _ yf (ay G ?_);simp only [scx];refine aE (pR h) (aE (sF h) ?_);simp only [oz h,tM];refine kF _ (ax O ?_) rfl;by_cases h7':lr b=7
 ·exact aC false (ay O (ae (decide_eq_false O))) rb
 ·exact aC false yv rb
theorem zV {s:Bk}{o:Int}{d:au}:Ev2 (λ _ m=>bG m (scx s [] o d)) (·=.inl (scx s [] o d)):=by
 refine bc ?_;simp only [bG];exact aC _ (aT (rT s [] o d) Z) rb
def skR (c:Bool)(l:Bk)(x:ab):ab⊕ab:=if (hQ c l).isEmpty then .inl x else .inr x
theorem Ep (s:Bk)(hs:s.length<=1000000000)(o:Int)(d:au):∀ (l:Bk),l <:+ s->Ev2 (λ _ m=>bG m (scx s l o d)) (·=skR (decide (o<0)) l (scx s (hQ (decide (o<0)) l) o d))
 | [],_=>zV
 | b::r,h=>by
  by_cases h1:lr b=1
  ·have hb:=(j5 b).1.1 h1
   have e:hQ (decide (o<0)) (b::r)=hQ (decide (o<0)) r:=by
    unfold hQ; rw [List.dropWhile_cons_of_pos hb]
   unfold skR;rw [e];have ih:=Ep s hs o d r (kc h);unfold skR at ih;refine bc ?_;simp only [bG];refine aC _ yf (ay G ?_);simp only [scx];have:=pR h;refine aE (pR h) (aE (sF h) ?_);simp only [oz h,tM];refine ik (scx s r o d) (ay O (aE bO (ae ?_))) ih;rw [scx,show pz s r=pz s (b::r)+1 from qn]
  ·have hb:¬ pp b=true:=λ q=>h1 ((j5 b).1.2 q);have e0:(b::r).dropWhile pp=b::r:=List.dropWhile_cons_of_neg hb;by_cases h7:lr b=7/\o<0
   ·have h35:=(j5 b).2.2.2.2.2.1 h7.1
    have e:hQ (decide (o<0)) (b::r)=(b::r).dropWhile (λ x=>!decide (x=10)):=by
     unfold hQ; rw [e0]; simp [h7.2,h35]
    have hsf:(b::r).dropWhile (λ x=>!decide (x=10)) <:+ s:=(sK _).trans h;have hi:=AP (b::r);have OA:=pR h;have hge:=indexByte_ge (b::r) 10;unfold skR;rw [e];refine bc ?_;simp only [bG];refine aC _ yf (ay G ?_);simp only [scx];refine aE (pR h) (aE (sF h) ?_);simp only [oz h,tM];refine ik (scx s ((b::r).dropWhile (λ x=>!decide (x=10))) o d) (ax O (aC true (ay O (ae (decide_eq_true h7.2))) (ay Z (aE O ?_)))) ?_
    ·rw [sk h];refine aC _ (aT (Na _) rfl) ?_;by_cases hn:indexByte (b::r) 10<0
     ·rw [hi.1 hn];refine aC ((s.length:Int)-pz s (b::r)) (ay hn pU) (aE bO (ae ?_));rw [scx]; congr 2; unfold pz; simp only [n7,cl]; omega
     ·have hh:=hi.2 O;rw [hh.1];refine aC (indexByte (b::r) 10) (ax hn (ae Z)) (aE (eM (by have:=Do (s:=s) (l:=b::r); omega) (by unfold pz at OA ⊢; omega)) (ae ?_));rw [scx,uM O]; congr 2; omega
    ·generalize hq:(b::r).dropWhile (λ x=>!decide (x=10))=q at hsf
     cases q with
     | nil=>exact zV
     | cons c t=>
      have hc:c=10:=by
       have:=List.head?_dropWhile_not (λ x:UInt8=>!decide (x=10)) (b::r);rw [hq] at this;simpa using this
      subst hc;exact wY hsf (by decide) (λ q=>absurd q.1 (by decide))
   ·have e:hQ (decide (o<0)) (b::r)=b::r:=by
     unfold hQ; rw [e0]
     have:(decide (o<0)&&decide (b.toNat=35))=false:=by
      rw [Bool.and_eq_false_iff,decide_eq_false_iff_not,decide_eq_false_iff_not];by_cases q:o<0
      ·exact .inr λ w=>h7 ⟨(j5 b).2.2.2.2.2.2 w,q⟩
      ·exact .inl q
     simp only [this]
     rfl
    unfold skR;rw [e];exact wY h h1 h7
theorem D6 (s l:Bk)(hs:s.length<=1000000000)(h:l <:+ s)(o:Int)(d:au):Ev2 (λ n _=>fw n (scx s l o d)) (·=scx s (hQ (decide (o<0)) l) o d):=by
 simp only [fw];refine dH (bZ (cp (f:=λ _ m=>bG m (scx s l o d)) (Ep s hs o d l h)) λ r hr=>?_);subst hr;unfold skR;split
 ·rename_i hx;split at hx
  ·cases hx; exact ae rfl
  ·cases hx
 ·rename_i hx;split at hx
  ·cases hx
  ·cases hx; rfl
def za:List Bk:=[[61,62],[61,61],[33,61],[60,61],[62,61],[38,38],[124,124]]
def Ay:Bk:=[123,125,91,93,40,41,44,61,60,62,43,45,42,47,37,33,63,58,46]
def Mb:Bk->Bk|[]=>[]|b::_=>if indexByte Ay b<0 then [] else [b]
theorem xf (b:UInt8)(r:Bk):Mb (b::r)=if indexByte Ay b<0 then [] else [b]:=rfl
def jZ (l:Bk):Bk:=match za.find? (λ t=>hasPrefix l t) with
 | some t=>t
 | none=>Mb l
theorem HZ (l:Bk):∀ (j k:Nat),k+j=7->Ev2 (λ _ m=>ep l m (k:Int)) (·=match (za.drop k).find? (λ t=>hasPrefix l t) with|some t=>.inr t|none=>.inl ())
 | 0,k,hk=>by
  have:k=7:=by omega
  subst this;refine bc ?_;simp only [ep];exact ax O (ae rfl)
 | j+1,k,hk=>by
  have Us:k<za.length:=by show k<7; omega
  refine bc ?_;simp only [ep];refine ay O (aE O ?_);have e:lat ([([61,62]:Bk),([61,61]:Bk),([33,61]:Bk),([60,61]:Bk),([62,61]:Bk),([38,38]:Bk),([124,124]:Bk)]:List Bk) (k:Int)=za[k]:=qq za k Us;rw [e,List.drop_eq_getElem_cons Us,List.find?_cons];refine aC (hasPrefix l za[k]) nN ?_
  cases hp:hasPrefix l za[k]
  ·refine ax G (aE bO ?_);exact HZ l j (k+1) O
  ·exact ay Z (ae Z)
theorem xm (l:Bk)(hl:l.length<=1000000000):Ev2 (λ n _=>jp n l) (·=jZ l):=by
 simp only [jp];refine dH (bZ (cp (f:=λ _ m=>ep l m 0) (HZ l 7 0 rfl)) λ r hr=>?_);subst hr;unfold jZ;rw [List.drop_zero]
 cases za.find? (λ t=>hasPrefix l t) with
 | some t=>rfl
 | none=>
  cases l with
  | nil=>exact aC true (ay Z (ae Z)) (ay Z (ae Z))
  | cons b r=>
   have hb:byt (b::r) 0=(b.toNat:Int):=rfl;refine aC (decide (indexByte Ay b<0)) (ax G (aE (by simp only [cl]; omega) ?_)) ?_
   ·rw [hb];refine aC (indexByte Ay b) (aT ?_ rfl) (ae rfl);unfold strings_IndexByte;rw [Int.toNat_natCast];congr 2;exact UInt8.ofNat_toNat
   ·simp only [xf];by_cases h:indexByte Ay b<0
    ·rw [if_pos h];exact ay tR (ae rfl)
    ·rw [if_neg h];exact ax tR (aE (by simp only [cl]; omega) (ae rfl))
theorem wu {l:Bk}(hs:jZ l≠[]):1<=(jZ l).length/\(jZ l).length<=l.length:=by
 have h0:1<=(jZ l).length:=by cases h:jZ l with|nil=>exact absurd h hs|cons _ _=>simp
 refine ⟨h0,?_⟩;unfold jZ
 cases h:za.find? (λ t=>hasPrefix l t) with
 | some t=>exact hasPrefix_le (List.find?_some h)
 | none=>
  cases l with
  | nil=>exact bt _
  | cons b r=>
   show (Mb (b::r)).length<=_;rw [xf];split <;> simp
def kx:Bk->Bool|[]=>false|b::r=>qB b||jC b||decide (b.toNat=34)||decide (b.toNat=10)||!(jZ (b::r)).isEmpty
theorem lX (b:UInt8)(r:Bk):kx (b::r)=(qB b||jC b||decide (b.toNat=34)||decide (b.toNat=10)||!(jZ (b::r)).isEmpty):=rfl
theorem tp (s:Bk)(hs:s.length<=1000000000){b:UInt8}{r:Bk}(h:(b::r) <:+ s)(o:Int)(d:au):Ev2 (λ n _=>dF n (scx s (b::r) o d)) (·=(kx (b::r),scx s (b::r) o d)):=by
 obtain ⟨f1,f2,f3,f4,f5,f6⟩:=j5 b;have OA:=pR h;simp only [dF,scx];refine aE OA (aE (sF h) ?_);simp only [oz h,tM];refine aC (qB b||jC b||decide (b.toNat=34)||decide (b.toNat=10)) (aR (λ q=>ae ?_) (λ q2=>aR (λ q=>ae ?_) (λ q3=>aR (λ q=>ae ?_) (λ q5=>ae ?_)))) ?_
 ·rw [f2.1 O]; rfl
 ·rw [f3.1 O]; simp
 ·rw [decide_eq_true (f4.1 O)]; simp
 ·have e2:qB b=false:=by rw [Bool.eq_false_iff]; exact λ w=>q2 (by rw [f2.2 w]; rfl)
  have e3:jC b=false:=by rw [Bool.eq_false_iff]; exact λ w=>q3 (by rw [f3.2 w]; rfl)
  have e5:¬ b.toNat=34:=λ w=>q5 (by rw [f4.2 w]; rfl);rw [e2,e3,decide_eq_false e5];refine eqB ?_;simp only [Bool.or_false,Bool.false_or,decide_eq_true_eq];constructor
  ·intro w; exact f5.1 O
  ·intro w; rw [f5.2 w]; rfl
 ·refine aR (λ q=>ae ?_) (λ q=>aE ⟨OA.1,by omega,by omega⟩ ?_)
  ·rw [lX,q]; rfl
  ·rw [sk h];refine aC _ (xm (b::r) (by have:=h.length_le; omega)) (ae ?_);rw [Bool.not_eq_true] at q;rw [lX,q,Bool.false_or];congr 1
   cases jZ (b::r) <;> simp
theorem HY (s:Bk)(hs:s.length<=1000000000)(o:Int)(d:au)(p:UInt8->Bool)(x y:Nat)(hp:∀ c,p c=true↔lr c=x\/lr c=y):∀ (l:Bk),l <:+ s->Ev2 (λ _ m=>cJ (x:Int) (y:Int) m (scx s l o d)) (·=scx s (l.dropWhile p) o d)
 | [],_=>by
  refine bc ?_;simp only [cJ];refine aC (false,scx s [] o d) (aC _ (aT (rT s [] o d) Z) rb) rb
 | b::r,h=>by
  have OA:=pR h;refine bc ?_;simp only [cJ];refine aC (p b,scx s (b::r) o d) (aC _ yf (ay G ?_)) ?_
  ·simp only [scx];refine aE OA (aE (sF h) ?_);simp only [oz h,tM];refine aR (λ q=>ae ?_) (λ q=>aE OA (aE ?_ (ae ?_)))
   ·rw [(hp b).2 (.inl O)]
   ·have:=UInt8.toNat_lt b; omega
   ·congr 1;refine eqB ?_;rw [decide_eq_true_eq,hp b];omega
  ·cases hb:p b
   ·rw [List.dropWhile_cons_of_neg (by simp [hb])];exact ax G (ae rfl)
   ·rw [List.dropWhile_cons_of_pos hb];refine ay rfl ?_;simp only [scx];refine aE bO ?_;rw [<- show pz s r=pz s (b::r)+1 from qn];exact HY s hs o d p x y hp r (kc h)
theorem Ki (p:UInt8->Bool)(l:Bk):l.take (l.length-(l.dropWhile p).length)=l.takeWhile p:=by
 have h:=List.takeWhile_append_dropWhile (p:=p) (l:=l);have hl:=congrArg List.length h;rw [la] at hl
 conv=>lhs; rw [<- h]
 rw [List.take_append_of_le_length (by rw [h]; omega),List.take_of_length_le (by rw [h]; omega)]
theorem Cw (s l:Bk)(hs:s.length<=1000000000)(h:l <:+ s)(o:Int)(d:au)(p:UInt8->Bool)(x y:Nat)(hp:∀ c,p c=true↔lr c=x\/lr c=y):Ev2 (λ n _=>fJ n (scx s l o d) (x:Int) (y:Int)) (·=(l.takeWhile p,scx s (l.dropWhile p) o d)):=by
 simp only [fJ];refine aC _ (cp (f:=λ _ m=>cJ (x:Int) (y:Int) m (scx s l o d)) (HY s hs o d p x y hp l h)) ?_;simp only [scx];have h1:=DL h;have h2:pz s l<=pz s (l.dropWhile p):=by have:=(sK (p:=p) l).length_le; unfold pz; omega
 refine aE ⟨h1,h2,Do⟩ (ae ?_);rw [DW h (sK l),Ki]
theorem I3 (c:UInt8):idB c=true↔lr c=2\/lr c=3:=by
 obtain ⟨f1,f2,f3,f4,f5,f6⟩:=j5 c;rw [f2,f3]; simp [idB]
theorem KI (c:UInt8):jC c=true↔lr c=3\/lr c=3:=by
 obtain ⟨f1,f2,f3,f4,f5,f6⟩:=j5 c;rw [f3]; simp
theorem y8 (s l:Bk)(o:Int)(d:au)(k a:Int):db (scx s l o d) k a=some (false,scx s l o (au.mk k a [])):=rfl
theorem Kl (s:Bk)(hs:s.length<=1000000000){b:UInt8}{r:Bk}(h:(b::r) <:+ s)(o:Int)(d:au):Ev2 (λ _ _=>eF (scx s (b::r) o d)) (·=if pi (decodeL (b::r)) then (false,scx s (b::r) o d) else (true,scx s ((b::r).drop (decodeL (b::r)).2) o d)):=by
 have OA:=pR h;simp only [eF,scx];refine aE ⟨OA.1,by omega,by omega⟩ ?_;rw [sk h]
 have hd:bj (b::r)=some (((decodeL (b::r)).1:Int),((decodeL (b::r)).2:Int)):=by
  unfold bj;rw [rQ _ G]
 refine aC _ (aT hd rfl) ?_;have hdf:=me (b::r) G;have NK:=h.length_le;generalize decodeL (b::r)=D at hdf ⊢;obtain ⟨c,w⟩:=D;simp only at hdf ⊢
 have hbad:Ev2 (λ _ _=>(if (c:Int)=65533 then if (w:Int)=1 then some true else if (c:Int)<32 then some true else some (decide ((c:Int)=127)) else if (c:Int)<32 then some true else some (decide ((c:Int)=127)):Option Bool)) (·=decide (pi (c,w))):=by
  exact J0
 refine aC _ hbad ?_;by_cases hb:pi (c,w)
 ·rw [if_pos hb];exact ay (by simpa using hb) (ae rfl)
 ·rw [if_neg hb];refine ax (by simpa using hb) (aE (eM O (by have:=Do (s:=s) (l:=b::r); omega)) (ae ?_));rw [uM hdf.2.1]
theorem C2 (h:p:=by
 exact ay (by rw [hx.1]; rfl) (ae ⟨Z,hx.2⟩)):p:=h
theorem Ci (h:p:=by exact eM (by show _<=pz s (b::r)+1; omega) (by show pz s (b::r)+1<=_; omega)):p:=h
theorem xV (h:p:=by exact ae ⟨Z,Z⟩):p:=h
theorem Gz (h:p:=by exact aC _ (aT (y8 _ _ _ _ _ _) Z) (ae ⟨Z,Z⟩)):p:=h
theorem ve (h:p:=by exact eM (by grind) (by grind)):p:=h
theorem MK (h:p:=by show pz s (b::r)+1<=_; omega):p:=h
theorem C5 (h:p:=by exact aT (y8 _ _ _ _ _ _) Z):p:=h
abbrev SE:=Int×Option Nat
def ll (src:Bk->SE⊕Bk):Bk->SE⊕(Int×Bk×Bk)
 | []=>.inl (2,some 0)
 | b::r=>if qB b=true then (if 64<((b::r).takeWhile idB).length then .inl (7,some (b::r).length) else .inr (1,(b::r).takeWhile idB,(b::r).dropWhile idB))
  else if jC b=true then .inr (2,(b::r).takeWhile jC,(b::r).dropWhile jC)
  else if b.toNat=10 then .inr (5,[10],r)
  else if b.toNat=34 then (match src r with|.inl e=>.inl e|.inr r'=>.inr (3,r.take (r.length-r'.length-1),r'))
  else if jZ (b::r)=[] then .inl (2,some (b::r).length) else .inr (4,jZ (b::r),(b::r).drop (jZ (b::r)).length)
mutual
def hZ:Nat->Nat->Bk->SE⊕Bk
 | 0,_,_=>.inl (40,none)
 | _+1,_,[]=>.inl (40,none)
 | f+1,k,b::r=>if b.toNat=34 then .inr r
  else if hasPrefix (b::r) [36,36,123]=true then hZ f k ((b::r).drop 3)
  else if hasPrefix (b::r) [36,123]=true then (if 32<=k then .inl (4,some (b::r).length) else match lY f (k+1) 1 ((b::r).drop 2) with|.inl e=>.inl e|.inr l=>hZ f k l)
  else match (if b.toNat=92 then r else b::r) with
   | []=>.inl (40,none)
   | c::t=>if pi (decodeL (c::t)) then .inl (2,some (c::t).length) else hZ f k ((c::t).drop (decodeL (c::t)).2)
def lY:Nat->Nat->Nat->Bk->SE⊕Bk
 | 0,_,_,_=>.inl (40,none)
 | f+1,k,n,l=>match hQ false l with
  | []=>.inl (40,none)
  | b::r=>match ll (hZ f k) (b::r) with
   | .inl e=>.inl e
   | .inr (c,t,l')=>if c=4/\t=[125] then (if n=1 then .inr l' else lY f k (n-1) l') else if c=4/\t=[123] then lY f k (n+1) l' else lY f k n l'
end
theorem kP (src:Bk->SE⊕Bk)(b:UInt8)(r:Bk):ll src (b::r)=if qB b=true then (if 64<((b::r).takeWhile idB).length then .inl (7,some (b::r).length) else .inr (1,(b::r).takeWhile idB,(b::r).dropWhile idB))
  else if jC b=true then .inr (2,(b::r).takeWhile jC,(b::r).dropWhile jC)
  else if b.toNat=10 then .inr (5,[10],r)
  else if b.toNat=34 then (match src r with|.inl e=>.inl e|.inr r'=>.inr (3,r.take (r.length-r'.length-1),r'))
  else if jZ (b::r)=[] then .inl (2,some (b::r).length) else .inr (4,jZ (b::r),(b::r).drop (jZ (b::r)).length):=rfl
theorem qp (f k:Nat)(b:UInt8)(r:Bk):hZ (f+1) k (b::r)=if b.toNat=34 then .inr r
  else if hasPrefix (b::r) [36,36,123]=true then hZ f k ((b::r).drop 3)
  else if hasPrefix (b::r) [36,123]=true then (if 32<=k then .inl (4,some (b::r).length) else match lY f (k+1) 1 ((b::r).drop 2) with|.inl e=>.inl e|.inr l=>hZ f k l)
  else match (if b.toNat=92 then r else b::r) with
   | []=>.inl (40,none)
   | c::t=>if pi (decodeL (c::t)) then .inl (2,some (c::t).length) else hZ f k ((c::t).drop (decodeL (c::t)).2):=by rw [hZ]; rfl
def H6 (q:Nat->Bk->SE⊕Bk)(n:Nat):SE⊕(Int×Bk×Bk)->SE⊕Bk|.inl e=>.inl e|.inr (c,t,l')=>if c=4/\t=[125] then (if n=1 then .inr l' else q (n-1) l') else if c=4/\t=[123] then q (n+1) l' else q n l'
def LV (q:Nat->Bk->SE⊕Bk)(src:Bk->SE⊕Bk)(n:Nat):Bk->SE⊕Bk|[]=>.inl (40,none)|b::r=>H6 q n (ll src (b::r))
theorem Jo (q:Nat->Bk->SE⊕Bk)(src:Bk->SE⊕Bk)(n:Nat):LV q src n []=.inl (40,none):=rfl
theorem qx (q:Nat->Bk->SE⊕Bk)(src:Bk->SE⊕Bk)(n:Nat)(b:UInt8)(r:Bk):LV q src n (b::r)=H6 q n (ll src (b::r)):=rfl
theorem vW (q:Nat->Bk->SE⊕Bk)(n:Nat)(e:SE):H6 q n (.inl e)=.inl e:=rfl
theorem rz (q:Nat->Bk->SE⊕Bk)(n:Nat)(c:Int)(t l':Bk):H6 q n (.inr (c,t,l'))=if c=4/\t=[125] then (if n=1 then .inr l' else q (n-1) l') else if c=4/\t=[123] then q (n+1) l' else q n l':=rfl
theorem qw (f k n:Nat)(l:Bk):lY (f+1) k n l=LV (lY f k) (hZ f k) n (hQ false l):=by
 rw [lY]
 cases hQ false l with
 | nil=>rfl
 | cons b r=>
  show (match ll (hZ f k) (b::r) with
   | .inl e=>.inl e
   | .inr (c,t,l')=>if c=4/\t=[125] then (if n=1 then .inr l' else lY f k (n-1) l') else if c=4/\t=[123] then lY f k (n+1) l' else lY f k n l')=H6 (lY f k) n (ll (hZ f k) (b::r))
  cases ll (hZ f k) (b::r) with
  | inl e=>rfl
  | inr z=>rfl
theorem mU {src:Bk->SE⊕Bk}{l:Bk}(hsrc:∀ r r',r.length<l.length->src r=.inr r'->r' <:+ r/\r'.length<r.length){c:Int}{t l':Bk}(h:ll src l=.inr (c,t,l')):l' <:+ l/\l'.length<l.length:=by
 cases l with
 | nil=>cases h
 | cons b r=>
  grind [kP,sK,List.dropWhile_cons_of_pos,idB,Nat.lt_succ_of_lt,wu,List.drop_suffix]
theorem jr:∀ (f k:Nat),(∀ l l',hZ f k l=.inr l'->l' <:+ l/\l'.length<l.length)/\(∀ n l l',lY f k n l=.inr l'->l' <:+ l/\l'.length<l.length)
 | 0,k=>⟨λ l l' h=>(by grind [hZ]),λ n l l' h=>(by grind [lY])⟩
 | f+1,k=>by
  have ih:=jr f;constructor
  ·intro l l' h
   cases l with
   | nil=>grind [hZ]
   | cons b r=>
    grind [qp,List.drop_suffix]
  ·intro n l l' h;rw [qw] at h;have hs:=qi false l;generalize hbr:hQ false l=l0 at h hs
   cases l0 with
   | nil=>cases h
   | cons b r=>
    rw [qx] at h
    cases hl1:ll (hZ f k) (b::r) with
    | inl e=>rw [hl1] at h; cases h
    | inr z=>
     obtain ⟨c,t,l1⟩:=z;rw [hl1,rz] at h;obtain ⟨h1,h2⟩:=mU (λ r r' _ hr=>(ih k).1 _ _ hr) hl1
     grind
def yi (s:Bk)(o:Int)(e:SE):au:=au.mk e.1 (match e.2 with|some n=>(s.length:Int)-(n:Int)|none=>o) []
def E7 (s:Bk)(o o':Int)(d:au)(q:SE⊕Bk)(r:Bool×ab):Prop:=match q with
 | .inl e=>r.1=false/\r.2.AI=yi s o e
 | .inr l=>r=(true,scx s l o' d)
def ME (s l:Bk)(o o':Int)(d:au)(q:SE⊕(Int×Bk×Bk))(r:ac×Bool×ab):Prop:=match q with
 | .inl e=>r.2.1=false/\r.2.2.AI=yi s o e
 | .inr (c,t,l')=>r=(ac.mk c t (pz s l),true,scx s l' o' d)
theorem I9 {s:Bk}(hs:s.length<=1000000000){o o':Int}{d:au}{k:Nat}{src:Bk->SE⊕Bk}{b:UInt8}{r:Bk}(h:(b::r) <:+ s)(hsuf:∀ l',src r=.inr l'->l' <:+ r/\l'.length<r.length)(ho:¬ b.toNat=34->o'=(scx s (b::r) o d).Mp)
  {oE:Int} (hsrc:b.toNat=34->Ev2 (λ n _=>cY n (scx s (b::r) o d) (k:Int)) (E7 s oE o' d (src r))) (hb:kx (b::r)=true) :
  Ev2 (λ n _=>bq n (scx s (b::r) o d) (k:Int)) (ME s (b::r) oE o' d (ll src (b::r))):=by
 obtain ⟨f1,f2,f3,f4,f5,f6⟩:=j5 b;have OA:=pR h;have hle:=h.length_le;refine cz ?_;simp only [bq];rw [kP];have hat':(0:Int)<=(scx s (b::r) o d).fat/\(scx s (b::r) o d).fat<((scx s (b::r) o d).fs.length:Int):=OA;refine aE hat' (aE (sF h) ?_);simp only [show byt (scx s (b::r) o d).fs (scx s (b::r) o d).fat=(b.toNat:Int) from oz h,tM];by_cases h2:qB b=true
 ·have hn34:¬ b.toNat=34:=λ q=>by grind
  rw [if_pos h2];have hc:=f2.2 h2;by_cases hl:64<((b::r).takeWhile idB).length
  ·rw [if_pos hl];refine dH (ay O (aC _ (Cw s (b::r) hs h o d idB 2 3 I3) (ay (by grind) (aC _ C5 (ae ?_)))));exact ⟨rfl,rfl⟩
  ·rw [if_neg hl];refine dH (ay O (aC _ (Cw s (b::r) hs h o d idB 2 3 I3) (ax (by grind) (ae (ae ?_)))));rw [ho hn34]; rfl
 rw [if_neg h2];have c2:¬ ((lr b:Nat):Int)=2:=λ q=>h2 (f2.1 O);by_cases h3:jC b=true
 ·have hn34:¬ b.toNat=34:=λ q=>by grind
  rw [if_pos h3];have hc:=f3.2 h3;refine dH (ax c2 (ay O (aC _ (Cw s (b::r) hs h o d jC 3 3 KI) (ae (ae ?_)))));rw [ho hn34]; rfl
 rw [if_neg h3];have c3:¬ ((lr b:Nat):Int)=3:=λ q=>h3 (f3.1 O);by_cases h10:b.toNat=10
 ·rw [if_pos h10];have hc:=f5.2 h10;refine dH (ax c2 (ax c3 (ay O (aE (eM (by grind) MK) (ae (ae ?_))))));rw [ho O];show (ac.mk 5 [10] (pz s (b::r)),true,ab.mk s (pz s (b::r)+1) o d)=_;rw [<- show pz s r=pz s (b::r)+1 from qn]; rfl
 rw [if_neg h10];have c6:¬ ((lr b:Nat):Int)=6:=λ q=>h10 (f5.1 O);by_cases h34:b.toNat=34
 ·rw [if_pos h34];have hc:=f4.2 h34;refine dH (ax c2 (ax c3 (ax c6 (ay O (am _ (hsrc h34) λ x hx=>?_)))))
  cases hq:src r with
  | inl e=>
   rw [hq] at hx;exact C2
  | inr l'=>
   rw [hq] at hx;obtain ⟨g1,g2⟩:=hsuf l' hq;have hx:x=(true,scx s l' o' d):=hx;subst hx;have e1:(scx s (b::r) o d).fat+1=pz s r:=(qn (b:=b)).symm;have hl':l' <:+ s:=g1.trans (kc h);have e2:(scx s l' o' d).fat-1=(s.length:Int)-((l'.length+1:Nat):Int):=by show pz s l'-1=_; grind [pz]
   have hrl:=(kc h).length_le;have hd:r.drop (r.length-(l'.length+1)) <:+ r:=List.drop_suffix _ _;have hdl:(r.drop (r.length-(l'.length+1))).length=l'.length+1:=by grind
   have e3:(scx s l' o' d).fat-1=pz s (r.drop (r.length-(l'.length+1))):=by grind [pz]
   refine ax G (aE (eM (by grind) (by grind [pz])) (aE ve (aE ?_ (ae (ae ?_)))))
   ·rw [e1,e3];refine ⟨DL (kc h),?_,Do⟩
    grind [pz]
   ·show _=_
    grind [scx,DW,kc]
 rw [if_neg h34];have c5:¬ ((lr b:Nat):Int)=5:=λ q=>h34 (f4.1 O)
 have hsn:jZ (b::r)≠[]:=by
  grind [lX]
 rw [if_neg hsn];have NI:=wu hsn;refine dH (ax c2 (ax c3 (ax c6 (ax c5 (aE ⟨OA.1,by grind,by grind⟩ ?_)))));rw [show sub (scx s (b::r) o d).fs (scx s (b::r) o d).fat ((scx s (b::r) o d).fs.length:Int)=b::r from sk h];refine aC _ (xm (b::r) O) (aE (eM (by grind) (by show pz s (b::r)+_<=_; omega)) (ae (ae ?_)));rw [ho h34];show (ac.mk 4 (jZ (b::r)) (pz s (b::r)),true,ab.mk s (pz s (b::r)+((jZ (b::r)).length:Int)) o d)=_;rw [<- uM NI.2]; rfl
def C6 (s:Bk)(o:Int)(d:au)(q:SE⊕Bk)(r:ab⊕(Bool×ab)):Prop:=match r with
 | .inl x=>x=scx s [] o d/\q=.inl (40,none)
 | .inr y=>E7 s o o d q y
def KM (s:Bk)(o:Int)(d:au)(q:SE⊕Bk)(r:ab⊕(Bool×ab)):Prop:=match r with
 | .inl x=>∃ l,q=.inr l/\x=scx s l o d
 | .inr y=>∃ e,q=.inl e/\y.1=false/\y.2.AI=yi s o e
theorem Ga {src:Bk->SE⊕Bk}{b:UInt8}{r:Bk}(h:kx (b::r)=false):ll src (b::r)=.inl (2,some (b::r).length):=by
 grind [lX,kP]
theorem tZ {s:Bk}(hs:s.length<=1000000000){o:Int}{d:au}{k:Nat}{b:UInt8}{r:Bk}(h:(b::r) <:+ s){q:SE⊕Bk}(hl:Ev2 (λ n m=>ba (aW n) (k:Int) m (scx s r o d)) (C6 s o d q)) :
  Ev2 (λ n _=>dV n (scx s (b::r) o d) (k:Int)) (E7 s o o d q):=by
 have OA:=pR h;have hle:=h.length_le;refine cz ?_;simp only [dV];refine aE Ci ?_
 have e:ab.mk (scx s (b::r) o d).fs ((scx s (b::r) o d).fat+1) (scx s (b::r) o d).Mp (scx s (b::r) o d).AI=scx s r o d:=by
  show ab.mk s (pz s (b::r)+1) o d=_;rw [<- show pz s r=pz s (b::r)+1 from qn]; rfl
 rw [e];refine dH (bZ (cp (f:=λ n m=>ba (aW n) (k:Int) m (scx s r o d)) hl) λ x hx=>?_)
 cases x with
 | inl x=>
  obtain ⟨rfl,rfl⟩:=hx;exact aC _ C5 xV
 | inr y=>exact hx
theorem EU {s:Bk}(hs:s.length<=1000000000){o:Int}(ho:0<=o){d:au}{k:Nat}{b:UInt8}{r:Bk}(h:(b::r) <:+ s){q:SE⊕Bk}(hl:Ev2 (λ n m=>ba (aW n) (k:Int) m (scx s r o d)) (C6 s o d q)) :
  Ev2 (λ n _=>cY n (scx s (b::r) o d) (k:Int)) (E7 s o o d q):=by
 refine cz ?_;simp only [cY];exact ax (by show ¬ o<0; omega) (tZ hs h hl)
theorem Bu {s:Bk}(hs:s.length<=1000000000){d:au}{k:Nat}{b:UInt8}{r:Bk}(h:(b::r) <:+ s){q:SE⊕Bk}(hl:Ev2 (λ n m=>ba (aW n) (k:Int) m (scx s r (pz s (b::r)) d)) (C6 s (pz s (b::r)) d q)) :
  Ev2 (λ n _=>cY n (scx s (b::r) (-1) d) (k:Int)) (E7 s (pz s (b::r)) (-1) d q):=by
 refine cz ?_;simp only [cY];refine ay (by show (-1:Int)<0; omega) (am _ (tZ hs h hl) λ x hx=>ae ?_)
 cases q with
 | inl e=>exact hx
 | inr l=>
  have hx:x=(true,scx s l (pz s (b::r)) d):=hx;subst hx; rfl
theorem wc (s:Bk)(b:UInt8)(r:Bk)(o:Int)(d:au):bX (scx s (b::r) o d)=some (true,scx s (b::r) o d):=rT _ _ _ _
theorem vb (s:Bk)(o:Int)(d:au):bX (scx s [] o d)=some (false,scx s [] o d):=rT _ _ _ _
theorem FJ (l p:Bk):strings_HasPrefix l p=some (hasPrefix l p):=rfl
theorem Dp {s l:Bk}{o:Int}{d:au}{k:Nat}(hk:k<=l.length):ab.mk s (pz s l+(k:Int)) o d=scx s (l.drop k) o d:=by rw [scx,uM hk]
theorem zq {s r:Bk}{b:UInt8}{o:Int}{d:au}:ab.mk s (pz s (b::r)+1) o d=scx s r o d:=by grind [scx,qn]
theorem G2 {s:Bk}(hs:s.length<=1000000000){o:Int}{d:au}{f k:Nat}
  (ih1:∀ l,l <:+ s->l.length<f->Ev2 (λ n m=>ba (aW n) (k:Int) m (scx s l o d)) (C6 s o d (hZ f k l)))
  (ih2:∀ l,l <:+ s->l.length<f->k<32->Ev2 (λ nn m=>aZ nn (bq nn) (k:Int) m 1 (scx s l o d)) (KM s o d (lY f (k+1) 1 l))) :
  ∀ l,l <:+ s->l.length<f+1->Ev2 (λ n m=>ba (aW n) (k:Int) m (scx s l o d)) (C6 s o d (hZ (f+1) k l)):=by
 intro l h hf;refine bc ?_;simp only [ba]
 cases l with
 | nil=>
  refine aC _ (aT (vb s o d) Z) (ax G (ae ⟨Z,?_⟩));rw [hZ]
 | cons b r=>
  have OA:=pR h;have hle:=h.length_le;have hfr:r.length<f:=by grind
  refine aC _ (aT (wc s b r o d) Z) (ay Z (aE ⟨OA.1,by show pz s (b::r)<=(s.length:Int); omega,by grind⟩ ?_));rw [qp];simp only [show sub (scx s (b::r) o d).fs (scx s (b::r) o d).fat ((scx s (b::r) o d).fs.length:Int)=b::r from sk h,show byt (b::r) 0=(b.toNat:Int) from rfl];refine dH (aE (by grind) ?_);by_cases h34:b.toNat=34
  ·rw [if_pos h34];refine ay O (aE Ci (ae ?_));show (true,ab.mk s (pz s (b::r)+1) o d)=_;rw [zq]
  rw [if_neg h34];refine ax O (aC _ (aT (FJ _ _) rfl) ?_);by_cases h3:hasPrefix (b::r) [36,36,123]=true
  ·rw [if_pos h3];have hp:=hasPrefix_le h3;simp only [cl,n7] at hp;refine ay h3 (aE (eM (by show _<=pz s (b::r)+3; omega) (by show pz s (b::r)+3<=_; omega)) (ae ?_));have:=ih1 ((b::r).drop 3) (Du 3 h) (by grind);rw [<- Dp (k:=3) (by grind)] at this;exact this
  rw [if_neg h3];refine ax h3 (aC _ (aT (FJ _ _) rfl) ?_);by_cases h2:hasPrefix (b::r) [36,123]=true
  ·rw [if_pos h2];have hp:=hasPrefix_le h2;simp only [cl,n7] at hp;refine ay h2 (am (E7 s o o d (if 32<=k then .inl (4,some (b::r).length) else lY f (k+1) 1 ((b::r).drop 2))) ?_ λ x hx=>?_)
   ·refine cz ?_;simp only [aW];by_cases hk:32<=k
    ·rw [if_pos hk];exact ay O Gz
    ·rw [if_neg hk];refine ax O (aE (eM (by show _<=pz s (b::r)+2; omega) (by show pz s (b::r)+2<=_; omega)) ?_);have:=ih2 ((b::r).drop 2) (Du 2 h) (by grind) O;rw [<- Dp (k:=2) (by grind)] at this;refine dH (bZ (cp (f:=λ nn m=>aZ nn (bq nn) (k:Int) m 1 (ab.mk s (pz s (b::r)+2) o d)) this) λ y hy=>?_)
     cases y with
     | inl y=>
      obtain ⟨l',e1,rfl⟩:=hy;rw [e1];exact ae rfl
     | inr y=>
      obtain ⟨e,e1,e2,e3⟩:=hy;rw [e1];exact ⟨e2,e3⟩
   ·by_cases hk:32<=k
    ·rw [if_pos hk] at hx ⊢;exact C2
    ·rw [if_neg hk] at hx ⊢
     cases hq:lY f (k+1) 1 ((b::r).drop 2) with
     | inl e=>
      rw [hq] at hx;exact C2
     | inr l'=>
      rw [hq] at hx;have hx:x=(true,scx s l' o d):=hx;subst hx;obtain ⟨g1,g2⟩:=(jr f (k+1)).2 _ _ _ hq;refine ax G (ae (ih1 l' (g1.trans (Du 2 h)) ?_))
      grind
  rw [if_neg h2];refine ax h2 (aC (scx s (if b.toNat=92 then r else b::r) o d) (aE (by grind) ?_) ?_)
  ·by_cases h92:b.toNat=92
   ·rw [if_pos h92];refine ay O (aE Ci (ae ?_));show ab.mk s (pz s (b::r)+1) o d=_;rw [zq]
   ·rw [if_neg h92];exact ax O (ae rfl)
  ·have hsf:(if b.toNat=92 then r else b::r) <:+ s:=by grind [kc]
   have hln:(if b.toNat=92 then r else b::r).length<=r.length+1:=by grind
   generalize (if b.toNat=92 then r else b::r)=l1 at hsf hln ⊢
   cases l1 with
   | nil=>
    refine aC _ (aT (vb s o d) rfl) (ay rfl (ae ?_));have:=ih1 [] List.nil_suffix (by grind);obtain ⟨f,rfl⟩:∃ g,f=g+1:=⟨f-1,by omega⟩
    grind [hZ]
   | cons c t=>
    refine aC _ (aT (wc s c t o d) Z) (ax G (aC _ (Kl s hs hsf o d) ?_));have hdf:=me (c::t) G;by_cases hb:pi (decodeL (c::t))
    ·simp only [if_pos hb];exact ay rfl Gz
    ·simp only [if_neg hb];refine ax G (ae (ih1 _ (Du _ hsf) ?_))
     grind
theorem F6 {s:Bk}(hs:s.length<=1000000000){o:Int}(ho:0<=o){d:au}{f k:Nat}(hk:k<32)
  (ih1:∀ l,l <:+ s->l.length<f->Ev2 (λ n m=>ba (aW n) ((k+1:Nat):Int) m (scx s l o d)) (C6 s o d (hZ f (k+1) l)))
  (ih2:∀ l n,1<=n->n+l.length<=s.length+1->l <:+ s->l.length<f->Ev2 (λ nn m=>aZ nn (bq nn) (k:Int) m (n:Int) (scx s l o d)) (KM s o d (lY f (k+1) n l))) :
  ∀ l n,1<=n->n+l.length<=s.length+1->l <:+ s->l.length<f+1->Ev2 (λ nn m=>aZ nn (bq nn) (k:Int) m (n:Int) (scx s l o d)) (KM s o d (lY (f+1) (k+1) n l)):=by
 intro l n hn hnl h hf;refine bc ?_;simp only [aZ];rw [qw];have hsk:=qi false l;have hd:decide (o<0)=false:=decide_eq_false O;have hskip:=D6 s l hs h o d;rw [hd] at hskip;refine ay O (dH (aC _ hskip ?_));have NI:=hsk.length_le;have hss:=hsk.trans h;generalize hQ false l=l1 at hsk NI hss ⊢
 cases l1 with
 | nil=>exact aC _ (aT (vb s o d) Z) (ay Z (aC _ (aT (y8 _ _ _ _ _ _) Z) (ae ⟨_,Z,Z,Z⟩)))
 | cons b r=>
  refine aC _ (aT (wc s b r o d) Z) (ax G (aC _ (tp s hs hss o d) ?_));rw [qx]
  cases hb:kx (b::r)
  ·rw [Ga hb,vW];exact ay rfl (aC _ C5 (ae ⟨_,rfl,rfl,rfl⟩))
  ·have hbl:=hss.length_le;simp only [cl] at NI hbl;have htok:=I9 (k:=k+1) (src:=hZ f (k+1)) (o':=o) (oE:=o) hs hss (λ l' hl'=>(jr f (k+1)).1 _ _ hl') Y (λ _=>EU hs ho hss (ih1 r (kc hss) O)) hb (d:=d);refine ax G (aE bO (am (ME s (b::r) o o d (ll (hZ f (k+1)) (b::r))) htok λ x hx=>?_))
   cases hq:ll (hZ f (k+1)) (b::r) with
   | inl e=>
    rw [hq] at hx;rw [vW];exact ay (by rw [hx.1]; rfl) (ae ⟨e,rfl,rfl,hx.2⟩)
   | inr z=>
    obtain ⟨c,t,l'⟩:=z;rw [hq] at hx;have hx:x=(ac.mk c t (pz s (b::r)),true,scx s l' o d):=hx;subst hx;obtain ⟨g1,g2⟩:=mU (λ r r' _ hr=>(jr f (k+1)).1 _ _ hr) hq;simp only [cl] at g2;have hl's:=g1.trans hss;rw [rz];refine ax G (aC (if c=4/\t=[123] then (n:Int)+1 else (n:Int)) (aC (decide (c=4/\t=[123])) (aR (λ q=>ae ?_) (λ q=>ae ?_)) (aR (λ q=>aE bO (ae ?_)) (λ q=>ae ?_))) (aC (decide (c=4/\t=[125])) (aR (λ q=>ae ?_) (λ q=>ae ?_)) ?_))
    ·grind
    ·grind
    ·grind
    ·grind
    ·grind
    ·grind
    by_cases h125:c=4/\t=[125]
    ·have hn123:¬ (c=4/\t=[123]):=λ w=>by grind
     rw [if_neg hn123];simp only [if_pos h125];refine ay (by grind) (aE bO (ae ?_));by_cases h1:n=1
     ·subst h1;rw [if_pos rfl];refine bc ?_;simp only [aZ];exact ax O (ae ⟨l',rfl,rfl⟩)
     grind
    ·simp only [if_neg h125];refine ax (by grind) (ae ?_)
     grind
theorem Dg {s:Bk}(hs:s.length<=1000000000){o:Int}(ho:0<=o){d:au}:∀ (f:Nat),
  (∀ (k:Nat) l,l <:+ s->l.length<f->Ev2 (λ n m=>ba (aW n) (k:Int) m (scx s l o d)) (C6 s o d (hZ f k l))) /\
  (∀ (k:Nat) l n,k<32->1<=n->n+l.length<=s.length+1->l <:+ s->l.length<f->Ev2 (λ nn m=>aZ nn (bq nn) (k:Int) m (n:Int) (scx s l o d)) (KM s o d (lY f (k+1) n l)))
 | 0=>(by grind)
 | f+1=>by
  obtain ⟨i1,i2⟩:=Dg hs ho (d:=d) f
  grind [G2,F6]
theorem D2 {s:Bk}(hs:s.length<=1000000000){d:au}{f:Nat}{b:UInt8}{r:Bk}(h:(b::r) <:+ s)(hf:r.length<f)(hb:kx (b::r)=true) :
  Ev2 (λ n _=>bq n (scx s (b::r) (-1) d) 0) (ME s (b::r) (pz s (b::r)) (-1) d (ll (hZ f 0) (b::r))) :=
 I9 (k:=0) hs h (λ _l' hl'=>(jr f 0).1 _ _ hl') Y (λ _=>Bu hs h ((Dg hs (DL h) f).1 0 r (kc h) hf)) hb
def J9 (n:Nat)(e:SE):SE:=(e.1,some (e.2.getD n))
abbrev Tk:=Int×Bk×Nat
def Hr (q:Bk->SE⊕List Tk)(n:Nat):SE⊕(Int×Bk×Bk)->SE⊕List Tk
 | .inl e=>.inl (J9 n e)
 | .inr (k,t,l')=>(match q l' with
  | .inl e=>.inl e
  | .inr ts=>.inr ((k,t,n)::ts))
def DD (q:Bk->SE⊕List Tk)(src:Bk->SE⊕Bk)(c:Nat):Bk->SE⊕List Tk|[]=>if c=16384 then .inl (14,some 0) else .inr [(6,[],0)]|b::r=>if kx (b::r)=false then .inl (2,some (b::r).length) else if c=16384 then .inl (14,some (b::r).length)else Hr q (b::r).length (ll src (b::r))
def jw:Nat->Nat->Bk->SE⊕List Tk|0,_,_=>.inl (40,none)|f+1,c,l=>DD (jw f (c+1)) (hZ f 0) c (hQ true l)
theorem mJ (f c:Nat)(l:Bk):jw (f+1) c l=DD (jw f (c+1)) (hZ f 0) c (hQ true l):=rfl
theorem nT (q:Bk->SE⊕List Tk)(src:Bk->SE⊕Bk)(c:Nat):DD q src c []=if c=16384 then .inl (14,some 0) else .inr [(6,[],0)]:=rfl
theorem mF (q:Bk->SE⊕List Tk)(src:Bk->SE⊕Bk)(c:Nat)(b:UInt8)(r:Bk):DD q src c (b::r)=if kx (b::r)=false then .inl (2,some (b::r).length) else if c=16384 then .inl (14,some (b::r).length)
   else Hr q (b::r).length (ll src (b::r)):=rfl
theorem n0 (q:Bk->SE⊕List Tk)(n:Nat)(k:Int)(t l':Bk):Hr q n (.inr (k,t,l'))=match q l' with
  | .inl e=>.inl e
  | .inr ts=>.inr ((k,t,n)::ts):=rfl
def tkS (s:Bk)(z:Tk):ac:=ac.mk z.1 z.2.1 ((s.length:Int)-(z.2.2:Int))
def Fz (s:Bk)(out:List ac)(q:SE⊕List Tk):List ac×au:=match q with
 | .inl e=>([],yi s 0 e)
 | .inr ts=>(out++ts.map (tkS s),au.mk 0 0 [])
theorem HX (s l:Bk)(o:Int)(e:SE):yi s (pz s l) e=yi s o (J9 l.length e):=by
 obtain ⟨k,n⟩:=e
 cases n <;> rfl
theorem DF {s:Bk}(hs:s.length<=1000000000){d:au}:∀ (f:Nat) (l:Bk) (out:List ac),out.length<=16384->l <:+ s->l.length<f->Ev2 (λ n m=>ga n m out (scx s l (-1) d)) (·=.inr (Fz s out (jw f out.length l)))
 | 0,l,out,_,_,h=>absurd h (Nat.not_lt_zero _)
 | f+1,l,out,hout,h,hf=>by
  refine bc ?_;simp only [ga];rw [mJ];have hsk:=qi true l;have hskip:=D6 s l hs h (-1) d;rw [show decide ((-1:Int)<0)=true from rfl] at hskip;refine aC _ hskip ?_;have NI:=hsk.length_le;have hss:=hsk.trans h;generalize hQ true l=l1 at hsk NI hss ⊢
  cases l1 with
  | nil=>
   refine aC (false,scx s [] (-1) d) (aC _ (aT (vb s (-1) d) Z) rb) (ax G ?_);rw [nT];by_cases hc:out.length=16384
   ·rw [if_pos hc];refine ay O (ae ?_)
    rfl
   ·rw [if_neg hc];refine ax O (aC _ (aT (vb s (-1) d) rfl) (ay rfl (aE (by grind) (ae ?_))))
    rfl
  | cons b r=>
   refine aC (!kx (b::r),scx s (b::r) (-1) d) (aC _ (aT (wc s b r (-1) d) Z) (ay Z (aC _ (tp s hs hss (-1) d) (ae Z)))) ?_;rw [mF]
   cases hb:kx (b::r)
   ·exact ay Z (ae Z)
   ·refine ax G ?_;rw [if_neg G];by_cases hc:out.length=16384
    ·rw [if_pos hc];exact ay O (ae rfl)
    ·rw [if_neg hc];simp only [cl] at NI;refine ax O (aC _ (aT (wc s b r (-1) d) rfl) (ax G (am _ (D2 hs hss (f:=f) O hb) λ x hx=>?_)))
     cases hq:ll (hZ f 0) (b::r) with
     | inl e=>
      rw [hq] at hx;refine ay (by rw [hx.1]; rfl) (ae ?_);rw [hx.2,HX s (b::r) 0]
      rfl
     | inr z=>
      obtain ⟨c,t,l'⟩:=z;rw [hq] at hx;have hx:x=(ac.mk c t (pz s (b::r)),true,scx s l' (-1) d):=hx;subst hx;obtain ⟨g1,g2⟩:=mU (λ r r' _ hr=>(jr f 0).1 _ _ hr) hq;simp only [cl] at g2;have ih:=DF hs (d:=d) f l' (out++[ac.mk c t (pz s (b::r))]) (by grind) (g1.trans hss) O;simp only [la,cl,n7,sm] at ih;rw [n0];refine ax G (aE (by grind) (Nz ih ?_));congr 1
      cases jw f (out.length+1) l' with
      | inl e=>rfl
      | inr ts=>
       show (_,_)=(_,_);rw [List.append_assoc]; rfl
def fg (s:Bk):List ac×au:=if 65536<s.length then ([],au.mk 3 0 []) else Fz s [] (jw (s.length+1) 0 s)
theorem DU (s:Bk):Ev2 (λ n _=>kO n s) (·=fg s):=by
 simp only [kO];unfold fg;by_cases h:65536<s.length
 ·rw [if_pos h];exact ay O (ae rfl)
 ·rw [if_neg h];refine ax O (aC (scx s s (-1) (au.mk 0 0 [])) (aT ?_ rfl) ?_)
  ·rw [scx,De]; rfl
  ·have:=DF (s:=s) O (d:=au.mk 0 0 []) (s.length+1) s [] G List.suffix_rfl (Nat.lt_succ_self _);exact kF _ (cp (f:=λ n m=>ga n m [] (scx s s (-1) (au.mk 0 0 []))) this) Z
theorem wE (h:p:=by exact aT (Mz _) Z):p:=h
def v0:aw:=aw.mk 0 0 [] [] []
def e0:ag:=ag.mk 0 0 [] [] v0 [] 0
def E4 (v:aw)(at':Int):ag:=ag.mk 1 0 [] [] v [] at'
def Gx (s:Bk)(at':Int):ag:=E4 (aw.mk 3 0 s [] []) at'
def resL:List Bk:=[[110,117,108,108],[116,114,117,101],[102,97,108,115,101],[102,111,114],[105,110],[105,102]]
def zW (s:Bk):Bool:=resL.any (λ t=>decide (s=t))
theorem Mz (s:Bk):f0 s=some (zW s):=by
 unfold f0 zW resL;simp only [List.any_cons,List.any_nil,Bool.or_false];by_cases h1:s=[110,117,108,108]
 ·simp [h1]
 by_cases h2:s=[116,114,117,101]
 ·simp [h2]
 by_cases h3:s=[102,97,108,115,101]
 ·simp [h3]
 by_cases h4:s=[102,111,114]
 ·simp [h4]
 by_cases h5:s=[105,110]
 ·simp [h5]
 by_cases h6:s=[105,102]
 ·simp [h6]
 simp [h1,h2,h3,h4,h5,h6]
open Classical in
noncomputable def chk (e:ag):Int:=if h:∃ r,Ev2 (λ n _=>gX n e) (·=r) then h.choose else 0
theorem MW {e:ag}(h:Ev2 (λ n _=>gX n e) (λ _=>True)):Ev2 (λ n _=>gX n e) (·=chk e):=by
 obtain ⟨r,_,hr⟩:=JB h;have hx:∃ r,Ev2 (λ n _=>gX n e) (·=r):=⟨r,hr⟩
 unfold chk;rw [dif_pos hx];exact hx.choose_spec
def nlT (t:ac):Bool:=decide (t.Ar=5)
def nf (b:Bool)(l:List ac):List ac:=if b then l.dropWhile nlT else l
def hd (b:Bool)(l:List ac):ac:=(nf b l).headD (ac.mk 6 [] 0)
def tl (b:Bool)(l:List ac):List ac:=(nf b l).tail
def sgB (b:Bool)(l:List ac)(s:Bk):Bool:=decide ((hd b l).Ar=4)&&decide ((hd b l).BY=s)
def wdB (b:Bool)(l:List ac)(s:Bk):Bool:=decide ((hd b l).Ar=1)&&decide ((hd b l).BY=s)
abbrev PE:=Int×Int
abbrev PR (α:Type):=Option (PE⊕(α×List ac))
def pb {α β:Type}(x:PR α)(k:α->List ac->PR β):PR β:=match x with
 | none=>none
 | some (.inl e)=>some (.inl e)
 | some (.inr (a,l))=>k a l
def pok {α:Type}(a:α)(l:List ac):PR α:=some (.inr (a,l))
def per {α:Type}(k a:Int):PR α:=some (.inl (k,a))
def iY (b:Bool)(s:Bk)(l:List ac):PR Unit:=if sgB b l s then pok () (tl b l) else per 2 (hd b l).fAt
def E0 (b:Bool)(s:Bk)(l:List ac):PR Unit:=if wdB b l s then pok () (tl b l) else per 2 (hd b l).fAt
def Bt (b:Bool)(l:List ac):PR Bk:=if (hd b l).Ar=1/\zW (hd b l).BY=false then pok (hd b l).BY (tl b l) else per 2 (hd b l).fAt
def wW:Nat->List (Bk×Int)|0=>[([124,124],3)]|1=>[([38,38],4)]|2=>[([61,61],5),([33,61],6)]|3=>[([60],7),([60,61],8),([62],9),([62,61],10)]|4=>[([43],11),([45],12)]|_=>[([42],13),([47],14),([37],15)]
def CE (b:Bool)(l:List ac)(Oa:Nat):Option (Bk×Int):=(wW Oa).find? (λ p=>sgB b l p.1)
def mvT (base:Int)(t:ac):ac:=ac.mk t.Ar t.BY (t.fAt+base)
mutual
def iP:Nat->Nat->Bk->Option (Option Bk)
 | 0,_,_=>none
 | _+1,_,[]=>some none
 | f+1,d,b::r=>if b.toNat=123 then iP f (d+1) r
  else if b.toNat=125 then (if d=1 then some (some r) else iP f (d-1) r)
  else if b.toNat=34 then (match km f r with|none=>none|some none=>some none|some (some r')=>iP f d r')
  else iP f d r
def km:Nat->Bk->Option (Option Bk)
 | 0,_=>none
 | _+1,[]=>some none
 | f+1,b::r=>if b.toNat=34 then some (some r)
  else if b.toNat=92 then km f (r.drop 1)
  else if hasPrefix (b::r) [36,36,123]=true then km f ((b::r).drop 3)
  else if hasPrefix (b::r) [36,123]=true then (match iP f 1 ((b::r).drop 2) with|none=>none|some none=>some none|some (some r')=>km f r')
  else km f r
end
def mT:Bk->Int⊕(Bk×Nat)|[]=>.inl 40|b::r=>if b.toNat=92 then (if (fc r).2.2=0 then .inr (encodeRune (fc r).1,(fc r).2.1.toNat+1) else .inl (fc r).2.2)else if pi (decodeL (b::r))\/b.toNat=34 then .inl 2 else .inr ((b::r).take (decodeL (b::r)).2,(decodeL (b::r)).2)
def flS (frm pos:Int)(text:Bk)(parts:List ag):List ag:=if frm<pos then parts++[Gx text frm] else parts
noncomputable def BE:PE⊕ag->PE⊕ag|.inl e=>.inl e|.inr e=>if chk e=0 then .inr e else .inl (chk e,e.fAt)
def Mq:PE⊕ag->ag×au|.inl e=>(e0,au.mk e.1 e.2 [])|.inr e=>(e,au.mk 0 0 [])
def uY (at':Int):Int×Int×Bk×List ag×Bool->ag|(frm,pos,text,parts,OI)=>if OI then ag.mk 2 0 [] [] v0 (flS frm pos text parts) at' else Gx text at'
mutual
noncomputable def iO:Nat->Bool->List ac->PR ag|0,_,_=>none|f+1,b,l=>pb (rj f 0 b l) λ c l=>if sgB b l [63] then pb (iO f b (tl b l)) λ a l=>pb (iY b [58] l) λ _ l=>pb (iO f b l) λ d l=>pok (ag.mk 8 0 [] [] v0 [c,a,d] c.fAt) l else pok c l
noncomputable def rj:Nat->Nat->Bool->List ac->PR ag|0,_,_,_=>none|f+1,Oa,b,l=>if 5<Oa then unS f b l else pb (rj f (Oa+1) b l) λ e l=>tJ f Oa b e l
noncomputable def tJ:Nat->Nat->Bool->ag->List ac->PR ag
 | 0,_,_,_,_=>none
 | f+1,Oa,b,e,l=>match CE b l Oa with
  | none=>pok e l
  | some p=>pb (rj f (Oa+1) b (tl b l)) λ x l=>tJ f Oa b (ag.mk 7 p.2 [] [] v0 [e,x] e.fAt) l
noncomputable def unS:Nat->Bool->List ac->PR ag|0,_,_=>none|f+1,b,l=>if sgB b l [33] then pb (unS f b (tl b l)) λ e l'=>pok (ag.mk 6 1 [] [] v0 [e] (hd b l).fAt) l' else if sgB b l [45] then pb (unS f b (tl b l)) λ e l'=>pok (ag.mk 6 2 [] [] v0 [e] (hd b l).fAt) l' else pb (p6 f b l) λ e l=>nu f b e l
noncomputable def nu:Nat->Bool->ag->List ac->PR ag|0,_,_,_=>none|f+1,b,e,l=>if sgB b l [46] then (if (hd b (tl b l)).Ar=1 then nu f b (ag.mk 4 0 (hd b (tl b l)).BY [] v0 [e] e.fAt) (tl b (tl b l)) else per 2 (hd b (tl b l)).fAt)else if sgB b l [91] then pb (iO f true (tl b l)) λ x l=>pb (iY true [93] l) λ _ l=>nu f b (ag.mk 5 0 [] [] v0 [e,x] e.fAt) l else pok e l
noncomputable def p6:Nat->Bool->List ac->PR ag|0,_,_=>none|f+1,b,l=>if (hd b l).Ar=2 then (if (AQ (hd b l).BY).2=0 then pok (E4 (aw.mk 2 (AQ (hd b l).BY).1 [] [] []) (hd b l).fAt) (tl b l) else per (AQ (hd b l).BY).2 (hd b l).fAt)else if (hd b l).Ar=3 then vB f b l else if (hd b l).Ar=1 then qQ f b l else if sgB b l [40] then pb (iO f true (tl b l)) λ e l=>pb (iY true [41] l) λ _ l=>pok e l else if sgB b l [91] then (if wdB true (tl b l) [102,111,114] then oX f (hd b l).fAt 12 (tl true (tl b l)) else pb (kl f [93] (tl b l)) λ ks l'=>pok (ag.mk 10 0 [] [] v0 ks (hd b l).fAt) l')else if sgB b l [123] then (if wdB true (tl b l) [102,111,114] then oX f (hd b l).fAt 13 (tl true (tl b l)) else pb (tS f (tl b l)) λ ks l'=>pok (ag.mk 11 0 [] [] v0 ks (hd b l).fAt) l')else per 2 (hd b l).fAt
noncomputable def vB:Nat->Bool->List ac->PR ag
 | 0,_,_=>none
 | f+1,b,l=>match nr f (hd b l).BY ((hd b l).fAt+1) with
  | none=>none
  | some (.inl e)=>some (.inl e)
  | some (.inr e)=>pok (ag.mk e.Ar e.fOp e.AT e.I' e.B' e.If (hd b l).fAt) (tl b l)
noncomputable def qQ:Nat->Bool->List ac->PR ag|0,_,_=>none|f+1,b,l=>if (hd b l).BY=[110,117,108,108] then pok (E4 v0 (hd b l).fAt) (tl b l)else if (hd b l).BY=[116,114,117,101] then pok (E4 (aw.mk 1 1 [] [] []) (hd b l).fAt) (tl b l)else if (hd b l).BY=[102,97,108,115,101] then pok (E4 (aw.mk 1 0 [] [] []) (hd b l).fAt) (tl b l)else if zW (hd b l).BY=true then per 2 (hd b l).fAt else if sgB b (tl b l) [40] then pb (kl f [41] (tl b (tl b l))) λ ks l'=>pok (ag.mk 9 0 (hd b l).BY [] v0 ks (hd b l).fAt) l' else pok (ag.mk 3 0 (hd b l).BY [] v0 [] (hd b l).fAt) (tl b l)
noncomputable def kl:Nat->Bk->List ac->PR (List ag)|0,_,_=>none|f+1,e,l=>if sgB true l e then pok [] (tl true l)else pb (iO f true l) λ x l=>if sgB true l [44] then pb (kl f e (tl true l)) λ r l=>pok (x::r) l else pb (iY true e l) λ _ l=>pok [x] l
noncomputable def tS:Nat->List ac->PR (List ag)|0,_=>none|f+1,l=>if sgB true l [125] then pok [] (tl true l)else pb (qJ f l) λ k l=>pb (iY true [61] l) λ _ l=>pb (iO f true l) λ x l=>if sgB true l [44] then pb (tS f (tl true l)) λ r l=>pok (k::x::r) l else pb (iY true [125] l) λ _ l=>pok [k,x] l
noncomputable def qJ:Nat->List ac->PR ag|0,_=>none|f+1,l=>if (hd true l).Ar=1 then pok (Gx (hd true l).BY (hd true l).fAt) (tl true l)else if (hd true l).Ar=3 then vB f true l else if sgB true l [40] then pb (iO f true (tl true l)) λ e l=>pb (iY true [41] l) λ _ l=>pok e l else per 2 (hd true l).fAt
noncomputable def oX:Nat->Int->Int->List ac->PR ag|0,_,_,_=>none|f+1,at',k,l=>pb (Bt true l) λ v l=>pb (if sgB true l [44] then pb (Bt true (tl true l)) λ w l=>pok (w,v) l else pok (v,[]) l) λ nk l=>pb (E0 true [105,110] l) λ _ l=>pb (iO f true l) λ a l=>pb (iY true [58] l) λ _ l=>pb (iO f true l) λ c l=>pb (if k=13 then pb (iY true [61,62] l) λ _ l=>pb (iO f true l) λ d l=>pok [a,c,d] l else pok [a,c] l) λ ks l=>pb (if wdB true l [105,102] then pb (iO f true (tl true l)) λ e l=>pok (ks++[e]) l else pok ks l) λ ks l=>pb (iY true (if k=13 then [125] else [93]) l) λ _ l=>pok (ag.mk k 0 nk.1 nk.2 v0 ks at') l
noncomputable def nr:Nat->Bk->Int->Option (PE⊕ag)
 | 0,_,_=>none
 | f+1,s,at'=>match j9 f at' at' [] [] false s with
  | none=>none
  | some (.inl e)=>some (.inl e)
  | some (.inr z)=>some (BE (.inr (uY at' z)))
noncomputable def j9:Nat->Int->Int->Bk->List ag->Bool->Bk->Option (PE⊕(Int×Int×Bk×List ag×Bool))
 | 0,_,_,_,_,_,_=>none
 | f+1,frm,pos,text,parts,OI,l=>match l with
  | []=>some (.inr (frm,pos,text,parts,OI))
  | c::r=>if hasPrefix (c::r) [36,36,123]=true then (if 4096<text.length+2 then some (.inl (3,frm)) else j9 f frm (pos+3) (text++[36,123]) parts OI ((c::r).drop 3))
   else if hasPrefix (c::r) [36,123]=true then (match iP f 1 ((c::r).drop 2) with
    | none=>none
    | some none=>some (.inl (40,pos))
    | some (some r')=>match kM f (((c::r).drop 2).take (((c::r).drop 2).length-r'.length-1)) (pos+2) with
     | none=>none
     | some (.inl e)=>some (.inl e)
     | some (.inr e)=>j9 f (pos+((c::r).length-r'.length:Nat)) (pos+((c::r).length-r'.length:Nat)) [] (flS frm pos text parts++[e]) true r')
   else match mT (c::r) with
    | .inl k=>some (.inl (k,pos))
    | .inr (t,n)=>if 4096<text.length+t.length then some (.inl (3,frm)) else j9 f frm (pos+(n:Int)) (text++t) parts OI ((c::r).drop n)
noncomputable def kM:Nat->Bk->Int->Option (PE⊕ag)
 | 0,_,_=>none
 | f+1,s,base=>if (fg s).2.Ar≠0 then some (.inl ((fg s).2.Ar,base+(fg s).2.fAt))
  else match iO f true ((fg s).1.map (mvT base)) with
   | none=>none
   | some (.inl e)=>some (.inl e)
   | some (.inr (e,l))=>if (hd true l).Ar=6 then some (.inr e) else some (.inl (2,(hd true l).fAt))
end
theorem Ja (h:p:=by
 refine am _ (lW hL NK h) ?_;rintro ⟨z1,z2⟩ ⟨h1,j,h2,h3,h4,h5⟩;replace h1:z1=_:=h1; subst h1; cases h2;refine aC (false,L,(j:Int),NJ,base,e.1,e.2,[]) ?_ (ae ⟨j,rfl,h3⟩);have:(!(!decide ((eD e).Ar=0)))=false:=by show (!(!decide (e.1=0)))=false; simp [he]
 exact ax (by show ¬ (!(!decide ((eD e).Ar=0)))=true; simp [this]) (ae Z)):p:=h
theorem GE (h:p:=by
 show af.mk L j (NJ+1-1) base (eD e)=_
 rw [Int.add_sub_cancel]):p:=h
theorem Ha (h:p:=by
 rintro ⟨y1,y2⟩ ⟨g1,k,g2,g3,g4,g5⟩
 cases g2
 exact ae ⟨k,Z,g3,g4⟩):p:=h
theorem Hi (h:p:=by
 rintro _ ⟨j,rfl,h3⟩;refine ay rfl (am _ (lW hL NK h3) ?_);rintro ⟨y1,y2⟩ ⟨g1,k,g2,g3,g4,g5⟩;replace g1:y1=_:=g1; subst g1; cases g2
 exact aC _ (aT (Dz he _ _ _ _) Z) (ae ⟨k,l,Z,g3⟩)):p:=h
theorem IX (h:p:=by
 rw [if_neg hs] at hq; cases hq;refine ay (by simpa using hs) (am _ (lW hL NK h3) ?_);rintro ⟨y1,y2⟩ ⟨g1,k,g2,g3,g4,g5⟩;replace g1:y1=_:=g1; subst g1; cases g2
 refine aC _ (aT (vY _ _ _ _) Z) (ae ⟨(by decide:(2:Int)≠0),k,l,Z,g3⟩)):p:=h
theorem vZ (h:p:=by exact aC _ (aT (vY _ _ _ _) Z) (ae ⟨(by decide:(2:Int)≠0),j,l,Z,h3⟩)):p:=h
theorem xS (h:p:=by exact aT (vY _ _ _ _) Z):p:=h
theorem qa (h:p:=by exact lW hL NK h):p:=h
theorem CQ (h:p:=by exact eM (by show _<=NJ+1-1; omega) (by show NJ+1-1<=_; omega)):p:=h
theorem tB (h:p:=by exact ky hL NK h3 O):p:=h
theorem tI (h:p:=by exact ae ⟨Z,j,Z,h3⟩):p:=h
theorem vD {P:Int->Prop}{i:Nat}(h:P ((i+1:Nat):Int)):P ((i:Int)+1):=by rwa [Int.natCast_add,Int.natCast_one] at h
def TkB (t:ac):Prop:=0<=t.fAt/\t.fAt+(t.BY.length:Int)<=1000000000/\(t.Ar=3->t.fAt+1+(t.BY.length:Int)<=1000000000)/\(t.Ar=2->t.BY.all jC=true)
def Gd:List ac->Prop|[]=>False|t::r=>TkB t/\((t.Ar=6/\r=[])\/(t.Ar≠6/\Gd r))
theorem Kb {t:ac}:nlT t=true↔t.Ar=5:=by simp [nlT]
theorem x7 (b:Bool):nf b []=[]:=by cases b <;> rfl
theorem kg (b:Bool)(t:ac)(r:List ac):nf b (t::r)=if b=true/\t.Ar=5 then nf b r else t::r:=by
 cases b with
 | false=>simp [nf]
 | true=>simp only [nf,if_true,true_and]; rw [List.dropWhile_cons]; simp only [Kb]
theorem Lz (b:Bool):∀ (l:List ac),nf b (nf b l)=nf b l
 | []=>by rw [x7,x7]
 | t::r=>by
  rw [kg];split
  ·exact Lz b r
  ·rename_i h; rw [kg,if_neg h]
theorem pt {b:Bool}:∀ {l:List ac},Gd l->Gd (nf b l)
 | [],h=>h.elim
 | t::r,h=>by
  rw [kg];split
  ·rename_i h1;rcases h.2 with h2|h2
   ·omega
   ·exact pt h2.2
  ·exact h
theorem BG (b:Bool):∀ (l:List ac),(nf b l).length<=l.length
 | []=>by rw [x7]; exact bt _
 | t::r=>by
  rw [kg];split
  ·exact Nat.le_succ_of_le (BG b r)
  ·exact bt _
theorem yQ (b:Bool)(base:Int):∀ (l:List ac),nf b (l.map (mvT base))=(nf b l).map (mvT base)
 | []=>by rw [th,x7,th]
 | t::r=>by
  rw [dg,kg,kg,yQ b base r];show (if b=true/\t.Ar=5 then _ else _)=_;split <;> rfl
theorem Ei {l:List ac}(h:Gd l):l≠[]:=by intro e; subst e; exact h
theorem ub {b:Bool}{l:List ac}(h:Gd (nf b l)):nf b l=hd b l::tl b l:=by
 unfold hd tl
 cases hn:nf b l with
 | nil=>rw [hn] at h; exact h.elim
 | cons t r=>rfl
theorem xc {b:Bool}{l:List ac}(h:Gd (nf b l)):TkB (hd b l):=by
 have:=h; rw [ub h] at this; exact this.1
theorem Gj {b:Bool}{l:List ac}(h:Gd (nf b l))(h6:(hd b l).Ar≠6):Gd (tl b l):=by
 have:=h; rw [ub h] at this;rcases this.2 with h2|h2
 ·exact absurd h2.1 h6
 ·exact h2.2
theorem Mh {b:Bool}{l:List ac}(h:Gd (nf b l)):(tl b l).length<l.length:=by
 have h1:=congrArg List.length (ub h);have:=BG b l;rw [cl] at h1; omega
theorem qj {b:Bool}{l:List ac}{s:Bk}:sgB b l s=true↔(hd b l).Ar=4/\(hd b l).BY=s:=by simp [sgB]
theorem yh {b:Bool}{l:List ac}{s:Bk}:wdB b l s=true↔(hd b l).Ar=1/\(hd b l).BY=s:=by simp [wdB]
theorem uG {base:Int}:∀ {L:List ac} {i:Nat},Gd (L.map (mvT base))->i<L.length->Gd ((L.drop i).map (mvT base))
 | [],_,h,_=>h.elim
 | t::r,0,h,_=>h
 | t::r,i+1,h,hi=>by
  rcases h.2 with h2|h2
  ·have:r=[]:=List.map_eq_nil_iff.1 h2.2;subst this; simp at hi
  ·exact uG (L:=r) (i:=i) h2.2 (by simpa using hi)
theorem vo {L:List ac}{i:Nat}(h:i<L.length):L.drop i=lat L (i:Int)::L.drop (i+1):=by
 rw [qq L i h]; exact List.drop_eq_getElem_cons h
section
variable {L:List ac} {base:Int}
def Pos (L:List ac)(base:Int)(i:Nat)(NJ:Int)(b:Bool)(l:List ac):Prop :=i<L.length/\0<=NJ/\NJ+((L.length-i:Nat):Int)<=1000000000/\b=decide (0<NJ)/\nf b ((L.drop i).map (mvT base))=nf b l
theorem Pos.gd {i:Nat}{NJ:Int}{b:Bool}{l:List ac}(hL:Gd (L.map (mvT base)))(h:Pos L base i NJ b l):Gd (nf b l):=by
 rw [<- h.2.2.2.2]; exact pt (uG hL h.1)
theorem Lo (hL:Gd (L.map (mvT base)))(NK:L.length<=1000000000){NJ:Int}{d:au}{a:Int}:∀ (k i:Nat),i+k=L.length->0<k ->
  Ev2 (λ _ m=>dm (.mk L a NJ base d) m (i:Int)) (λ j=>∃ j':Nat,j=(j':Int)/\i<=j'/\j'<L.length/\L.drop j'=nf (decide (0<NJ)) (L.drop i)):=by
 intro k
 induction k with
 | zero=>intro i _ h; omega
 | succ k ih=>
  intro i hi _;have hd':=vo (L:=L) (i:=i) O;refine bc ?_;simp only [dm];refine aC (decide (0<NJ/\(lat L (i:Int)).Ar=5)) ?_ ?_
  ·refine aR (λ h=>aE ⟨by omega,by show (i:Int)<(L.length:Int); omega⟩ (ae ?_)) (λ h=>ae ?_)
   ·have h:0<NJ:=h;simp only [h,true_and]
   ·have h:¬ 0<NJ:=h;simp [h]
  ·by_cases h:0<NJ/\(lat L (i:Int)).Ar=5
   ·refine ay tR (aE bO ?_)
    have hk:0<k:=by
     have hg:=uG hL (i:=i) O;rw [hd',dg] at hg;rcases hg.2 with h2|h2
     ·have h2:(lat L (i:Int)).Ar=6:=h2.1;omega
     ·have:=Ei h2.2;rcases Nat.eq_zero_or_pos k with hk|hk
      ·subst hk; rw [List.drop_eq_nil_of_le O] at this; exact absurd rfl this
      ·exact hk
    refine bZ (vD (P:=λ j=>Ev2 (λ _ m=>dm (.mk L a NJ base d) m j) _) (ih (i+1) O hk)) ?_;rintro r ⟨j',h1,h2,h3,h4⟩;refine ⟨j',h1,by omega,h3,?_⟩;rw [h4,hd',kg,if_pos ⟨by simp [h.1],h.2⟩]
   ·refine ax tR (ae ⟨i,Z,bt _,by omega,?_⟩);rw [hd',kg,if_neg tR]
theorem Pos.ext {i j:Nat}{NJ:Int}{b:Bool}{l:List ac}(h:Pos L base i NJ b l)(h1:i<=j)(h2:j<L.length)(h3:L.drop j=nf b (L.drop i)):Pos L base j NJ b l:=by
 obtain ⟨q1,q2,q3,q4,q5⟩:=h;refine ⟨h2,q2,by omega,q4,?_⟩;rw [yQ,h3,Lz,<- yQ,q5]
theorem Pos.any {i:Nat}{NJ:Int}{b:Bool}{l:List ac}(h:Pos L base i NJ b l):Pos L base i NJ b ((L.drop i).map (mvT base)):=⟨h.1,h.2.1,h.2.2.1,h.2.2.2.1,Z⟩
theorem lW (hL:Gd (L.map (mvT base)))(NK:L.length<=1000000000){i:Nat}{NJ:Int}{b:Bool}{l:List ac}{d:au}(h:Pos L base i NJ b l) :
  Ev2 (λ n _=>bR n (.mk L (i:Int) NJ base d)) (λ z=>z.1=hd b l/\∃ j:Nat,z.2=.mk L (j:Int) NJ base d/\Pos L base j NJ b l/\(L.drop j).map (mvT base)=nf b l/\i<=j):=by
 simp only [bR];have hi:=h.1;refine am _ (cp (Lo hL NK (d:=d) (a:=(i:Int)) (L.length-i) i O O)) ?_;rintro x ⟨j,rfl,h1,h2,h3⟩;rw [<- h.2.2.2.1] at h3;have hg:Gd (nf b l):=h.gd hL;have hdr:(L.drop j).map (mvT base)=nf b l:=by rw [h3,<- yQ,h.2.2.2.2]
 have hhd:mvT base (lat L (j:Int))=hd b l:=by
  have:=hdr;rw [vo h2,dg,ub hg] at this;exact (ur this).1
 have hb:=xc hg;rw [<- hhd] at hb;obtain ⟨b1,b2,-,-⟩:=hb;have b1:0<=(lat L (j:Int)).fAt+base:=b1;have b2:(lat L (j:Int)).fAt+base+((lat L (j:Int)).BY.length:Int)<=1000000000:=b2;refine aE ⟨by omega,by show (j:Int)<(L.length:Int); omega⟩ (aE (eM (by show _<=(lat L (j:Int)).fAt+base; omega) (by show (lat L (j:Int)).fAt+base<=_; omega)) (ae ⟨hhd,j,rfl,h.ext h1 h2 h3,hdr,h1⟩))
theorem Pos.next {j:Nat}{NJ:Int}{b:Bool}{l:List ac}(hL:Gd (L.map (mvT base)))(h:Pos L base j NJ b l)(hdr:(L.drop j).map (mvT base)=nf b l)(h6:(hd b l).Ar≠6) :
  Pos L base (j+1) NJ b (tl b l)/\(L.drop (j+1)).map (mvT base)=tl b l:=by
 have hg:Gd (nf b l):=h.gd hL
 have e:(L.drop (j+1)).map (mvT base)=tl b l:=by
  have:=hdr;rw [vo h.1,dg,ub hg] at this;exact (ur this).2
 have Ob:=Ei (Gj hg h6)
 have:j+1<L.length:=by
  rw [<- e] at Ob;rcases Nat.lt_or_ge (j+1) L.length with q|q
  ·exact q
  ·rw [List.drop_eq_nil_of_le q] at Ob; exact absurd rfl Ob
 obtain ⟨q1,q2,q3,q4,q5⟩:=h;exact ⟨⟨this,q2,by omega,q4,by rw [e]⟩,e⟩
theorem Lf (hL:Gd (L.map (mvT base)))(NK:L.length<=1000000000){i:Nat}{NJ:Int}{b:Bool}{l:List ac}{d:au}(h:Pos L base i NJ b l) :
  Ev2 (λ n _=>aY n (.mk L (i:Int) NJ base d)) (λ z=>z.1=hd b l/\∃ j:Nat,z.2=.mk L (j:Int) NJ base d/\if (hd b l).Ar=6 then Pos L base j NJ b l else Pos L base j NJ b (tl b l)/\(L.drop j).map (mvT base)=tl b l/\i<j):=by
 simp only [aY];refine am _ qa ?_;rintro ⟨z1,z2⟩ ⟨h1,j,h2,h3,h4,h5⟩;replace h1:z1=_:=h1; subst h1; cases h2;have hj:=h3.1;by_cases h6:(hd b l).Ar=6
 ·refine aC (j:Int) (ay h6 (ae Z)) (ae ⟨Z,j,Z,?_⟩);rw [if_pos h6]; exact h3
 ·refine aC ((j:Int)+1) (ax h6 (aE (eM (by show _<=(j:Int)+1; omega) (by show (j:Int)+1<=_; omega)) (ae Z))) (ae ⟨Z,j+1,Z,?_⟩);rw [if_neg h6]; exact ⟨(h3.next hL h4 h6).1,(h3.next hL h4 h6).2,by omega⟩
theorem ky (hL:Gd (L.map (mvT base)))(NK:L.length<=1000000000){i:Nat}{NJ:Int}{b:Bool}{l:List ac}{d:au}(h:Pos L base i NJ b l)(h6:(hd b l).Ar≠6) :
  Ev2 (λ n _=>aY n (.mk L (i:Int) NJ base d)) (λ z=>z.1=hd b l/\∃ j:Nat,z.2=.mk L (j:Int) NJ base d/\Pos L base j NJ b (tl b l)/\(L.drop j).map (mvT base)=tl b l/\i<j) :=
 bZ (Lf hL NK h) λ z ⟨h1,j,h2,h3⟩=>⟨h1,j,h2,by rw [if_neg h6] at h3; exact h3⟩
theorem Ks (p:af)(k a:Int):bQ p k a=some (e0,if p.AI.Ar=0 then .mk p.fl p.fat p.G' p.Gw (.mk k a []) else .mk p.fl p.fat p.G' p.Gw (.mk p.AI.Ar p.AI.fAt p.AI.AT)):=by
 simp only [bQ,bh,Option.bind_some];by_cases h:p.AI.Ar=0
 ·simp only [h]; rfl
 ·simp only [h]; rfl
def dOk:au:=au.mk 0 0 []
def eD (e:PE):au:=au.mk e.1 e.2 []
def Out {α:Type}(L:List ac)(base:Int)(NJ:Int)(b:Bool)(q:PE⊕(α×List ac))(z:α×af):Prop:=match q with
 | .inl e=>e.1≠0/\∃ (j:Nat) (l':List ac),z.2=.mk L (j:Int) NJ base (eD e)/\Pos L base j NJ b l'
 | .inr (x,l)=>z.1=x/\∃ j:Nat,z.2=.mk L (j:Int) NJ base dOk/\Pos L base j NJ b l
def Kk (L:List ac)(base:Int)(NJ:Int)(b:Bool)(q:PE⊕(Unit×List ac))(z:af):Prop:=match q with
 | .inl e=>e.1≠0/\∃ (j:Nat) (l':List ac),z=.mk L (j:Int) NJ base (eD e)/\Pos L base j NJ b l'
 | .inr (_,l)=>∃ j:Nat,z=.mk L (j:Int) NJ base dOk/\Pos L base j NJ b l/\(L.drop j).map (mvT base)=l
theorem uJ (hL:Gd (L.map (mvT base)))(NK:L.length<=1000000000){i:Nat}{NJ:Int}{b:Bool}{l:List ac}(s:Bk)(h:Pos L base i NJ b l) :
  Ev2 (λ n _=>bp n (.mk L (i:Int) NJ base dOk) s) (λ z=>z.1=sgB b l s/\∃ j:Nat,z.2=.mk L (j:Int) NJ base dOk/\Pos L base j NJ b l):=by
 simp only [bp,bh,Option.bind_some];refine am _ qa ?_;rintro ⟨z1,z2⟩ ⟨h1,j,h2,h3,h4,h5⟩;replace h1:z1=_:=h1; subst h1; cases h2;refine aC (sgB b l s,L,(j:Int),NJ,base,0,0,[]) ?_ tI;refine ay rfl (aR (λ h=>ae ?_) (λ h=>ae ?_))
 ·have h:(hd b l).Ar=4:=h;simp only [sgB,h,decide_true,Bool.true_and] <;> rfl
 ·have h:¬ (hd b l).Ar=4:=h;simp only [sgB,h,decide_false,Bool.false_and] <;> rfl
theorem tN (hL:Gd (L.map (mvT base)))(NK:L.length<=1000000000){i:Nat}{NJ:Int}{b:Bool}{l:List ac}{e:PE}(s:Bk)(he:e.1≠0)(h:Pos L base i NJ b l) :
  Ev2 (λ n _=>bp n (.mk L (i:Int) NJ base (eD e)) s) (λ z=>∃ j:Nat,z=(false,.mk L (j:Int) NJ base (eD e))/\Pos L base j NJ b l):=by
 simp only [bp,bh,Option.bind_some];exact Ja
theorem sc (hL:Gd (L.map (mvT base)))(NK:L.length<=1000000000){i:Nat}{NJ:Int}{b:Bool}{l:List ac}(s:Bk)(h:Pos L base i NJ b l) :
  Ev2 (λ n _=>dj n (.mk L (i:Int) NJ base dOk) s) (λ z=>z.1=wdB b l s/\∃ j:Nat,z.2=.mk L (j:Int) NJ base dOk/\Pos L base j NJ b l):=by
 simp only [dj,bh,Option.bind_some];refine am _ qa ?_;rintro ⟨z1,z2⟩ ⟨h1,j,h2,h3,h4,h5⟩;replace h1:z1=_:=h1; subst h1; cases h2;refine aC (wdB b l s,L,(j:Int),NJ,base,0,0,[]) ?_ tI;refine ay rfl (aR (λ h=>ae ?_) (λ h=>ae ?_))
 ·have h:(hd b l).Ar=1:=h;simp only [wdB,h,decide_true,Bool.true_and] <;> rfl
 ·have h:¬ (hd b l).Ar=1:=h;simp only [wdB,h,decide_false,Bool.false_and] <;> rfl
theorem GN (hL:Gd (L.map (mvT base)))(NK:L.length<=1000000000){i:Nat}{NJ:Int}{b:Bool}{l:List ac}{e:PE}(s:Bk)(he:e.1≠0)(h:Pos L base i NJ b l) :
  Ev2 (λ n _=>dj n (.mk L (i:Int) NJ base (eD e)) s) (λ z=>∃ j:Nat,z=(false,.mk L (j:Int) NJ base (eD e))/\Pos L base j NJ b l):=by
 simp only [dj,bh,Option.bind_some];exact Ja
theorem vY (i NJ:Int)(k a:Int):bQ (.mk L i NJ base dOk) k a=some (e0,.mk L i NJ base (eD (k,a))):=rfl
theorem Dz {e:PE}(he:e.1≠0)(i NJ:Int)(k a:Int):bQ (.mk L i NJ base (eD e)) k a=some (e0,.mk L i NJ base (eD e)):=by
 rw [Ks,if_neg (show ¬ (eD e).Ar=0 from he)]
theorem oT (hL:Gd (L.map (mvT base)))(NK:L.length<=1000000000){i:Nat}{NJ:Int}{b:Bool}{l:List ac}(s:Bk){q:PE⊕(Unit×List ac)}(h:Pos L base i NJ b l)(hq:iY b s l=some q) :
  Ev2 (λ n _=>cT n (.mk L (i:Int) NJ base dOk) s) (Kk L base NJ b q):=by
 simp only [cT];refine am _ (uJ hL NK s h) ?_;rintro ⟨z1,z2⟩ ⟨h1,j,h2,h3⟩;replace h1:z1=_:=h1; subst h1; cases h2;unfold iY at hq;by_cases hs:sgB b l s=true
 ·rw [if_pos hs] at hq; cases hq;refine ax (by simp [hs]) (am _ (ky hL NK h3 (by have:=(qj.1 hs).1; omega)) ?_);exact Ha
 ·exact IX
theorem Cd (hL:Gd (L.map (mvT base)))(NK:L.length<=1000000000){i:Nat}{NJ:Int}{b:Bool}{l:List ac}{e:PE}(s:Bk)(he:e.1≠0)(h:Pos L base i NJ b l) :
  Ev2 (λ n _=>cT n (.mk L (i:Int) NJ base (eD e)) s) (λ z=>∃ (j:Nat) (l':List ac),z=.mk L (j:Int) NJ base (eD e)/\Pos L base j NJ b l'):=by
 simp only [cT];refine am _ (tN hL NK s he h) ?_;exact Hi
theorem wG (hL:Gd (L.map (mvT base)))(NK:L.length<=1000000000){i:Nat}{NJ:Int}{b:Bool}{l:List ac}(s:Bk){q:PE⊕(Unit×List ac)}(h:Pos L base i NJ b l)(hq:E0 b s l=some q) :
  Ev2 (λ n _=>d4 n (.mk L (i:Int) NJ base dOk) s) (Kk L base NJ b q):=by
 simp only [d4];refine am _ (sc hL NK s h) ?_;rintro ⟨z1,z2⟩ ⟨h1,j,h2,h3⟩;replace h1:z1=_:=h1; subst h1; cases h2;unfold E0 at hq;by_cases hs:wdB b l s=true
 ·rw [if_pos hs] at hq; cases hq;refine ax (by simp [hs]) (am _ (ky hL NK h3 (by have:=(yh.1 hs).1; omega)) ?_);exact Ha
 ·exact IX
theorem xi (hL:Gd (L.map (mvT base)))(NK:L.length<=1000000000){i:Nat}{NJ:Int}{b:Bool}{l:List ac}{e:PE}(s:Bk)(he:e.1≠0)(h:Pos L base i NJ b l) :
  Ev2 (λ n _=>d4 n (.mk L (i:Int) NJ base (eD e)) s) (λ z=>∃ (j:Nat) (l':List ac),z=.mk L (j:Int) NJ base (eD e)/\Pos L base j NJ b l'):=by
 simp only [d4];refine am _ (GN hL NK s he h) ?_;exact Hi
theorem Pos.out {j:Nat}{NJ:Int}{l l':List ac}(h:Pos L base j (NJ+1) true l)(h0:0<=NJ)(he:(L.drop j).map (mvT base)=l'):Pos L base j NJ (decide (0<NJ)) l':=by
 obtain ⟨q1,q2,q3,q4,q5⟩:=h;exact ⟨q1,h0,by omega,rfl,by rw [he]⟩
theorem HM (hL:Gd (L.map (mvT base)))(NK:L.length<=1000000000){i:Nat}{NJ:Int}{l:List ac}(s:Bk){q:PE⊕(Unit×List ac)}(h0:0<=NJ)(h:Pos L base i (NJ+1) true l)(hq:iY true s l=some q) :
  Ev2 (λ n _=>bW n (.mk L (i:Int) (NJ+1) base dOk) s) (Kk L base NJ (decide (0<NJ)) q):=by
 simp only [bW];refine am _ (oT hL NK s h hq) ?_;intro z hz;have hb:=h.2.2.1;rcases q with e|⟨u,l'⟩
 ·obtain ⟨he,j,l',rfl,hp⟩:=hz;refine aE CQ (ae ⟨he,j,(L.drop j).map (mvT base),?_,hp.out h0 rfl⟩);exact GE
 ·obtain ⟨j,rfl,hp,hx⟩:=hz;refine aE CQ (ae ⟨j,?_,hp.out h0 hx,hx⟩);show af.mk L j (NJ+1-1) base dOk=_;rw [Int.add_sub_cancel]
theorem Lj (hL:Gd (L.map (mvT base)))(NK:L.length<=1000000000){i:Nat}{NJ:Int}{l:List ac}{e:PE}(s:Bk)(he:e.1≠0)(h0:0<=NJ)(h:Pos L base i (NJ+1) true l) :
  Ev2 (λ n _=>bW n (.mk L (i:Int) (NJ+1) base (eD e)) s) (λ z=>∃ (j:Nat) (l':List ac),z=.mk L (j:Int) NJ base (eD e)/\Pos L base j NJ (decide (0<NJ)) l'):=by
 simp only [bW];refine am _ (Cd hL NK s he h) ?_;rintro _ ⟨j,l',rfl,hp⟩;have hb:=h.2.2.1;refine aE CQ (ae ⟨j,(L.drop j).map (mvT base),?_,hp.out h0 rfl⟩);exact GE
theorem qh (hL:Gd (L.map (mvT base)))(NK:L.length<=1000000000){i:Nat}{NJ:Int}{b:Bool}{l:List ac}(h:Pos L base i NJ b l)(h6:(hd b l).Ar≠6) :
  Ev2 (λ n _=>dh n (.mk L (i:Int) NJ base dOk)) (λ z=>∃ j:Nat,z=.mk L (j:Int) (NJ+1) base dOk/\Pos L base j (NJ+1) true (tl b l)):=by
 simp only [dh];refine am _ (ky hL NK h h6) ?_;rintro ⟨z1,z2⟩ ⟨h1,j,h2,h3,h4,h5⟩
 cases h2
 have hb:=h.2.2.1;have hn:=h.2.1;have hj:=h3.1;refine aE (eM (by show _<=NJ+1; omega) (by show NJ+1<=_; omega)) (ae ⟨j,Z,h3.1,by omega,by omega,?_,by rw [h4]⟩)
 symm; rw [decide_eq_true_eq]; omega
theorem nq (hL:Gd (L.map (mvT base)))(NK:L.length<=1000000000){i:Nat}{NJ:Int}{b:Bool}{l:List ac}{q:PE⊕(Bk×List ac)}(h:Pos L base i NJ b l)(hq:Bt b l=some q) :
  Ev2 (λ n _=>eJ n (.mk L (i:Int) NJ base dOk)) (Out L base NJ b q):=by
 simp only [eJ,bh,Option.bind_some];refine am _ qa ?_;rintro ⟨z1,z2⟩ ⟨h1,j,h2,h3,h4,h5⟩;replace h1:z1=_:=h1; subst h1; cases h2;unfold Bt at hq;by_cases hs:(hd b l).Ar=1/\zW (hd b l).BY=false
 ·rw [if_pos hs] at hq; cases hq;refine aC (false,L,(j:Int),NJ,base,0,0,[]) (ax rg (ay hs.1 (aC _ wE (ae ?_)))) ?_
  ·rw [hs.2]; rfl
  ·refine ax rg (am _ tB ?_);rintro ⟨y1,y2⟩ ⟨g1,k,g2,g3,g4,g5⟩
   cases g2
   exact ae ⟨Z,k,Z,g3⟩
 ·rw [if_neg hs] at hq; cases hq;refine aC (true,L,(j:Int),NJ,base,0,0,[]) (ax rg (aR (λ h1=>aC _ wE (ae ?_)) (λ h1=>ae rfl))) ?_
  ·have h1:(hd b l).Ar=1:=h1
   have:zW (hd b l).BY=true:=by
    cases hr:zW (hd b l).BY with
    | true=>rfl
    | false=>exact absurd ⟨h1,hr⟩ hs
   rw [this]; rfl
  ·exact ay Z vZ
end
end Go.Ab.R06
end
section
namespace Go.Ab.R06
open Go.Proofs Go.Ab Go.Ab.RB
attribute [local irreducible] awp fV aX aK aS AV.sub M cv
end Go.Ab.R06
end
section
namespace Go.Ab.R06
open Go.Ab Go.Ab.RB Go.Lib
theorem Dj {src:Bk->SE⊕Bk}{l:Bk}(hs:∀ r e,src r=.inl e->e.1≠0){e:SE}(h:ll src l=.inl e):e.1≠0:=by
 cases l with
 | nil=>cases h; decide
 | cons b r=>
  rw [kP] at h;split at h
  ·split at h
   ·cases h; exact (by decide:(7:Int)≠0)
   ·cases h
  split at h
  ·cases h
  split at h
  ·cases h
  split at h
  ·split at h
   ·rename_i e' he; cases h; exact hs _ _ he
   ·cases h
  split at h
  ·cases h; exact (by decide:(2:Int)≠0)
  ·cases h
theorem IZ:∀ (f k:Nat),(∀ l e,hZ f k l=.inl e->e.1≠0)/\(∀ n l e,lY f k n l=.inl e->e.1≠0)
 | 0,k=>⟨λ l e h=>(by rw [hZ] at h; cases h; decide),λ n l e h=>(by rw [lY] at h; cases h; decide)⟩
 | f+1,k=>by
  have ih:=IZ f;constructor
  ·intro l e h
   cases l with
   | nil=>rw [hZ] at h; cases h; decide
   | cons b r=>
    rw [qp] at h;split at h
    ·cases h
    split at h
    ·exact (ih k).1 _ _ h
    split at h
    ·split at h
     ·cases h; exact (by decide:(4:Int)≠0)
     ·split at h
      ·rename_i e' he; cases h; exact (ih (k+1)).2 _ _ _ he
      ·exact (ih k).1 _ _ h
    split at h
    ·cases h; decide
    ·split at h
     ·cases h; exact (by decide:(2:Int)≠0)
     ·exact (ih k).1 _ _ h
  ·intro n l e h;rw [qw] at h;generalize hQ false l=l0 at h
   cases l0 with
   | nil=>cases h; decide
   | cons b r=>
    rw [qx] at h
    cases hq:ll (hZ f k) (b::r) with
    | inl e'=>rw [hq] at h; cases h; exact Dj (ih k).1 hq
    | inr z=>
     obtain ⟨c,t,l'⟩:=z;rw [hq,rz] at h;split at h
     ·split at h
      ·cases h
      ·exact (ih k).2 _ _ _ h
     split at h
     ·exact (ih k).2 _ _ _ h
     ·exact (ih k).2 _ _ _ h
end Go.Ab.R06
end
section
namespace Go.Ab.R06
open Go.Proofs Go.Ab Go.Ab.RB
attribute [local irreducible] awp fV aX aK aS AV.sub M cv
end Go.Ab.R06
end
section
namespace Go.Ab.R06
open Go.Ab Go.Ab.RB Go.Lib
end Go.Ab.R06
end
section
namespace Go.Ab.R06
open Go.Ab Go.Ab.RB
variable {p:Prop}
theorem JQ (h:p:=by
 refine aR (λ h3=>ae (mk _ ?_)) (λ h3=>aE O (aR (λ h4=>ae (mk _ ?_)) (λ h4=>aE O (ae (mk _ ?_)))))
 ·simp; omega
 ·simp; omega
 ·rw [decide_eq_true_eq]; omega):p:=h
theorem FX (s:Bk)(hs:s.length<=1000000000000000):∀ (k i:Nat),i+k=s.length->Ev2 (λ _ m=>dJ s m (i:Int)) (·=if tF (AA s) i k then .inl () else .inr false):=by
 intro k
 induction k with
 | zero=>
  intro i hi;refine bc ?_;simp only [dJ];refine ax O (ae rfl)
 | succ k ih=>
  intro i hi;refine bc ?_;simp only [dJ];refine ay O (aE O ?_);have hb:byt s i=((s.getD i 0).toNat:Int):=jO s i;rw [hb];have hor:=Mi (s.getD i 0);have hok:=rK s i;rw [vw,rU] at hok;refine aC (!AA s i) ?_ ?_
  ·generalize s.getD i 0=b at hor hok ⊢;generalize AA s i=o at hok ⊢;generalize iOr .u8 ((b.toNat:Nat):Int) 32=v at hor ⊢;have hT:(qB b=true)->o=true:=λ h=>hok.2 (.inl ((vw b).1 h));have mk:∀ x:Bool,(x=true↔¬ (((97<=b.toNat/\b.toNat<=122)\/(65<=b.toNat/\b.toNat<=90)\/b.toNat=95)\/(i≠0/\48<=b.toNat/\b.toNat<=57)))->x=!o:=λ x hx=>eqB (by rw [hx,<- hok]; simp);refine aE O (aR (λ h=>ae (mk _ ?_)) (λ h=>aR (λ h1=>?_) (λ h1=>aR (λ h2=>?_) (λ h2=>ae (mk _ ?_)))))
   ·simp; omega
   ·exact JQ
   ·exact JQ
   ·simp; omega
  ·cases hk:AA s i with
   | false=>exact ay G (ae (by simp [tF,hk]))
   | true=>
    refine ax G (aE bO ?_);have:=ih (i+1) O;rw [Int.natCast_add,Int.natCast_one] at this;simpa [tF,hk] using this
theorem Ai (s:Bk)(hs:s.length<=1000000000000000):Ev2 (λ n _=>gM n s) (·=vt s):=by
 simp only [gM];have h:=FX s hs s.length 0 O;have hi:=CG s
 cases ha:tF (AA s) 0 s.length with
 | false=>
  rw [ha] at h hi;refine kF false (cp h) (eqB ?_);rw [hi]; simp
 | true=>
  rw [ha] at h hi;refine ik () (cp h) ?_;refine am (·=vt s) (aR (λ h=>ae (eqB ?_)) (λ h=>ae (eqB ?_))) (λ t ht=>ae ht)
  ·rw [hi]; simp [h]
  ·rw [hi,decide_eq_true_eq]; simp [h]; omega
end Go.Ab.R06
end
section
namespace Go.Ab
set_option autoImplicit false
inductive aw.Bd:aw->Prop where
 | mk {x:aw} (bKind:inR x.Ar) (bNum:inR x.It) (bStr:x.IS.length<=fR) (bItems:x.H'.length*80<=fR) (eItems:∀ y∈x.H',aw.Bd y) (bKeys:x.E'.length*16<=fR) (eKeys:∀ y∈x.E',y.length<=fR):aw.Bd x
theorem aw.Bd.bKind {x:aw}(h:aw.Bd x):inR x.Ar:=by cases h; assumption
theorem aw.Bd.bNum {x:aw}(h:aw.Bd x):inR x.It:=by cases h; assumption
theorem aw.Bd.bStr {x:aw}(h:aw.Bd x):x.IS.length<=fR:=by cases h; assumption
theorem aw.Bd.bItems {x:aw}(h:aw.Bd x):x.H'.length*80<=fR:=by cases h; assumption
theorem aw.Bd.eItems {x:aw}(h:aw.Bd x):∀ y∈x.H',aw.Bd y:=by cases h; assumption
theorem aw.Bd.bKeys {x:aw}(h:aw.Bd x):x.E'.length*16<=fR:=by cases h; assumption
theorem aw.Bd.eKeys {x:aw}(h:aw.Bd x):∀ y∈x.E',y.length<=fR:=by cases h; assumption
inductive ag.Bd:ag->Prop where
 | mk {x:ag} (bKind:inR x.Ar) (bOp:inR x.fOp) (bName:x.AT.length<=fR) (bKey:x.I'.length<=fR) (bValue:aw.Bd x.B') (bKids:x.If.length*160<=fR) (eKids:∀ y∈x.If,ag.Bd y) (bAt:inR x.fAt):ag.Bd x
theorem ag.Bd.bKind {x:ag}(h:ag.Bd x):inR x.Ar:=by cases h; assumption
theorem ag.Bd.bOp {x:ag}(h:ag.Bd x):inR x.fOp:=by cases h; assumption
theorem ag.Bd.bName {x:ag}(h:ag.Bd x):x.AT.length<=fR:=by cases h; assumption
theorem ag.Bd.bKey {x:ag}(h:ag.Bd x):x.I'.length<=fR:=by cases h; assumption
theorem ag.Bd.bValue {x:ag}(h:ag.Bd x):aw.Bd x.B':=by cases h; assumption
theorem ag.Bd.bKids {x:ag}(h:ag.Bd x):x.If.length*160<=fR:=by cases h; assumption
theorem ag.Bd.eKids {x:ag}(h:ag.Bd x):∀ y∈x.If,ag.Bd y:=by cases h; assumption
theorem ag.Bd.bAt {x:ag}(h:ag.Bd x):inR x.fAt:=by cases h; assumption
inductive al.Bd:al->Prop where
 | mk {x:al} (bName:x.AT.length<=fR) (bExpr:ag.Bd x.IT) (bAt:inR x.fAt):al.Bd x
theorem al.Bd.bName {x:al}(h:al.Bd x):x.AT.length<=fR:=by cases h; assumption
theorem al.Bd.bExpr {x:al}(h:al.Bd x):ag.Bd x.IT:=by cases h; assumption
theorem al.Bd.bAt {x:al}(h:al.Bd x):inR x.fAt:=by cases h; assumption
mutual
inductive aH.Bd:aH->Prop where
 | mk {x:aH} (bAttrs:x.By.length*184<=fR) (eAttrs:∀ y∈x.By,al.Bd y) (bBlocks:x.A'.length*96<=fR) (eBlocks:∀ y∈x.A',aB.Bd y):aH.Bd x
inductive aB.Bd:aB->Prop where
 | mk {x:aB} (bType:x.M'.length<=fR) (bLabels:x.L'.length*16<=fR) (eLabels:∀ y∈x.L',y.length<=fR) (bBody:aH.Bd x.J') (bAt:inR x.fAt):aB.Bd x
end
theorem aH.Bd.bAttrs {x:aH}(h:aH.Bd x):x.By.length*184<=fR:=by cases h; assumption
theorem aH.Bd.eAttrs {x:aH}(h:aH.Bd x):∀ y∈x.By,al.Bd y:=by cases h; assumption
theorem aH.Bd.bBlocks {x:aH}(h:aH.Bd x):x.A'.length*96<=fR:=by cases h; assumption
theorem aH.Bd.eBlocks {x:aH}(h:aH.Bd x):∀ y∈x.A',aB.Bd y:=by cases h; assumption
theorem aB.Bd.bType {x:aB}(h:aB.Bd x):x.M'.length<=fR:=by cases h; assumption
theorem aB.Bd.bLabels {x:aB}(h:aB.Bd x):x.L'.length*16<=fR:=by cases h; assumption
theorem aB.Bd.eLabels {x:aB}(h:aB.Bd x):∀ y∈x.L',y.length<=fR:=by cases h; assumption
theorem aB.Bd.bBody {x:aB}(h:aB.Bd x):aH.Bd x.J':=by cases h; assumption
theorem aB.Bd.bAt {x:aB}(h:aB.Bd x):inR x.fAt:=by cases h; assumption
inductive au.Bd:au->Prop where
 | mk {x:au} (bKind:inR x.Ar) (bAt:inR x.fAt) (bName:x.AT.length<=fR):au.Bd x
theorem au.Bd.bKind {x:au}(h:au.Bd x):inR x.Ar:=by cases h; assumption
theorem au.Bd.bAt {x:au}(h:au.Bd x):inR x.fAt:=by cases h; assumption
theorem au.Bd.bName {x:au}(h:au.Bd x):x.AT.length<=fR:=by cases h; assumption
inductive ac.Bd:ac->Prop where
 | mk {x:ac} (bKind:inR x.Ar) (bText:x.BY.length<=fR) (bAt:inR x.fAt):ac.Bd x
theorem ac.Bd.bKind {x:ac}(h:ac.Bd x):inR x.Ar:=by cases h; assumption
theorem ac.Bd.bText {x:ac}(h:ac.Bd x):x.BY.length<=fR:=by cases h; assumption
theorem ac.Bd.bAt {x:ac}(h:ac.Bd x):inR x.fAt:=by cases h; assumption
inductive aj.Bd:aj->Prop where
 | mk {x:aj} (bl:x.fl.length*32<=fR) (el:∀ y∈x.fl,ac.Bd y) (bat:inR x.fat) (bbad:au.Bd x.AI):aj.Bd x
theorem aj.Bd.bl {x:aj}(h:aj.Bd x):x.fl.length*32<=fR:=by cases h; assumption
theorem aj.Bd.el {x:aj}(h:aj.Bd x):∀ y∈x.fl,ac.Bd y:=by cases h; assumption
theorem aj.Bd.bat {x:aj}(h:aj.Bd x):inR x.fat:=by cases h; assumption
theorem aj.Bd.bbad {x:aj}(h:aj.Bd x):au.Bd x.AI:=by cases h; assumption
inductive dx.Bd:dx->Prop where
 | mk {x:dx} (bL:x.fL.length*32<=fR) (eL:∀ y∈x.fL,ac.Bd y) (bI:inR x.fI) (bIn:inR x.fIn) (bD:au.Bd x.fD):dx.Bd x
theorem dx.Bd.bL {x:dx}(h:dx.Bd x):x.fL.length*32<=fR:=by cases h; assumption
theorem dx.Bd.eL {x:dx}(h:dx.Bd x):∀ y∈x.fL,ac.Bd y:=by cases h; assumption
theorem dx.Bd.bI {x:dx}(h:dx.Bd x):inR x.fI:=by cases h; assumption
theorem dx.Bd.bIn {x:dx}(h:dx.Bd x):inR x.fIn:=by cases h; assumption
theorem dx.Bd.bD {x:dx}(h:dx.Bd x):au.Bd x.fD:=by cases h; assumption
inductive ct.Bd:ct->Prop where
 | mk {x:ct} (bcount:inR x.fcount):ct.Bd x
theorem ct.Bd.bcount {x:ct}(h:ct.Bd x):inR x.fcount:=by cases h; assumption
inductive af.Bd:af->Prop where
 | mk {x:af} (bl:x.fl.length*32<=fR) (el:∀ y∈x.fl,ac.Bd y) (bat:inR x.fat) (bnest:inR x.G') (bbase:inR x.Gw) (bbad:au.Bd x.AI):af.Bd x
theorem af.Bd.bl {x:af}(h:af.Bd x):x.fl.length*32<=fR:=by cases h; assumption
theorem af.Bd.el {x:af}(h:af.Bd x):∀ y∈x.fl,ac.Bd y:=by cases h; assumption
theorem af.Bd.bat {x:af}(h:af.Bd x):inR x.fat:=by cases h; assumption
theorem af.Bd.bnest {x:af}(h:af.Bd x):inR x.G':=by cases h; assumption
theorem af.Bd.bbase {x:af}(h:af.Bd x):inR x.Gw:=by cases h; assumption
theorem af.Bd.bbad {x:af}(h:af.Bd x):au.Bd x.AI:=by cases h; assumption
inductive aA.Bd:aA->Prop where
 | mk {x:aA} (bs:x.fs.length<=fR) (bat:inR x.fat) (bi:inR x.fi) (bfrom:inR x.Df) (btext:x.D'.length<=fR) (bparts:x.C'.length*160<=fR) (eparts:∀ y∈x.C',ag.Bd y):aA.Bd x
theorem aA.Bd.bs {x:aA}(h:aA.Bd x):x.fs.length<=fR:=by cases h; assumption
theorem aA.Bd.bat {x:aA}(h:aA.Bd x):inR x.fat:=by cases h; assumption
theorem aA.Bd.bi {x:aA}(h:aA.Bd x):inR x.fi:=by cases h; assumption
theorem aA.Bd.bfrom {x:aA}(h:aA.Bd x):inR x.Df:=by cases h; assumption
theorem aA.Bd.btext {x:aA}(h:aA.Bd x):x.D'.length<=fR:=by cases h; assumption
theorem aA.Bd.bparts {x:aA}(h:aA.Bd x):x.C'.length*160<=fR:=by cases h; assumption
theorem aA.Bd.eparts {x:aA}(h:aA.Bd x):∀ y∈x.C',ag.Bd y:=by cases h; assumption
end Go.Ab
end
section
namespace Go.Ab.R06
open Go.Ab Go.Ab.RB Go.Lib
variable {p:Prop}
theorem CJ (h:p:=by
 exact ax O (ae trivial)):p:=h
theorem GF (h:p:=by exact aR (λ _=>ae trivial) (λ _=>ae trivial)):p:=h
theorem HP (h:p:=by exact ⟨by show -9000<=c+1; omega,by show c+1<=4096; omega⟩):p:=h
theorem lw {P:Int->Prop}{i:Nat}(h:P ((i+1:Nat):Int)):P ((i:Int)+1):=by rwa [Int.natCast_add,Int.natCast_one] at h
theorem AR {α:Type} [Inhabited α] (l:List α){i:Nat}(h:i<l.length):l.drop i=lat l (i:Int)::l.drop (i+1):=by
 rw [qq l i h]; exact List.drop_eq_getElem_cons h
section
variable {α β:Type}
theorem tA {p:Prop} [Decidable p] {a b:Option α}(h1:p->∃ r,a=some r)(h2:¬p->∃ r,b=some r):∃ r,(if p then a else b)=some r:=by
 exact I5
theorem rE {g:Option β}{k:β->Option α}(h:∃ r,g=some r)(hk:∀ x,∃ r,k x=some r):∃ r,g.bind k=some r:=by
 obtain ⟨x,rfl⟩:=h;exact hk x
theorem LL {p:Prop} [Decidable p] {a:Option α}(hp:p)(h:∃ r,a=some r):∃ r,ck p a=some r:=by rw [jW hp]; exact h
end
inductive VSz:aw->Prop where
 | mk {x:aw} (v:x.H'.length+x.E'.length<=1000000000000000) (sub:∀ y∈x.H',VSz y):VSz x
theorem VSz.v {x:aw}(h:VSz x):x.H'.length+x.E'.length<=1000000000000000:=by cases h; assumption
theorem Ew {k n:Int}{s:Bk}:VSz (.mk k n s [] []):=.mk (qr _) (λ _ h=>by cases h)
inductive Sz:ag->Prop where
 | mk {x:ag} (n:x.AT.length<=1000000000000000) (k:x.I'.length<=1000000000000000) (w:VSz x.B') (c:x.If.length<=1000000000000000) (kids:∀ y∈x.If,Sz y):Sz x
theorem Sz.n {x:ag}(h:Sz x):x.AT.length<=1000000000000000:=by cases h; assumption
theorem Sz.k {x:ag}(h:Sz x):x.I'.length<=1000000000000000:=by cases h; assumption
theorem Sz.w {x:ag}(h:Sz x):VSz x.B':=by cases h; assumption
theorem Sz.v {x:ag}(h:Sz x):x.B'.H'.length+x.B'.E'.length<=1000000000000000:=h.w.v
theorem Sz.kids {x:ag}(h:Sz x):∀ y∈x.If,Sz y:=by cases h; assumption
theorem MI (b:UInt8)(r:Bk)(h:128<=b.toNat):128<=(decodeL (b::r)).1:=by
 have hN:=decN (b::r).length ((b::r).getD 0 0).toNat ((b::r).getD 1 0).toNat ((b::r).getD 2 0).toNat ((b::r).getD 3 0).toNat G (UInt8.toNat_lt _);rw [<- decodeL_N] at hN;rcases Nat.lt_or_ge (decodeL (b::r)).1 128 with q|q
 ·have:=(hN.2.2.2.1 q).2;have hb0:((b::r).getD 0 0).toNat=b.toNat:=rfl;omega
 ·exact q
theorem xH (s:Bk):∃ r,kW s=some r:=by
 unfold kW;refine tA (λ _=>⟨_,Z⟩) (λ _=>rE ⟨_,LZ s⟩ (λ _=>tA (λ _=>⟨_,Z⟩) (λ _=>⟨_,Z⟩)))
theorem Ny {β γ:Type}{g:Option (β⊕γ)}{k:β->Option γ}(h:∃ r,g=some r)(hk:∀ x,∃ r,k x=some r):∃ r,jn g k=some r:=by
 obtain ⟨x,rfl⟩:=h
 cases x with
 | inl x=>exact hk x
 | inr y=>exact ⟨y,Z⟩
theorem Au (v:aw):∃ r,kw v=some r:=by
 unfold kw
 repeat' (first|exact ⟨_,Z⟩|refine rE ?_ (λ _=>?_)|refine Ny ?_ (λ _=>?_)|refine tA (λ _=>?_) (λ _=>?_))
theorem G6 {α:Type}{o:Option α}(h:∃ r,o=some r):Ev2 (λ _ _=>o) (λ _=>True):=by
 obtain ⟨r,hr⟩:=h;exact aT hr trivial
theorem EY {v:aw}(hb:VSz v):Ev2 (λ n _=>mr n v) (λ _=>True):=by
 have hv:=hb.v;simp only [mr];refine am (λ _=>True) (G6 (Au v)) (λ _ _=>aR (λ _=>ae trivial) (λ _=>dH (bZ (P:=λ _=>True) ?_ (λ s _=>?_))))
 ·refine aR (λ _=>?_) (λ _=>aR (λ _=>?_) (λ _=>aR (λ _=>?_) (λ _=>ae trivial)))
  ·simp only [iM];exact am (λ _=>True) (am (λ _=>True) GF (λ _ _=>ae trivial)) (λ _ _=>aR (λ _=>ae trivial) (λ _=>ae trivial))
  ·exact am (λ _=>True) (G6 (xH _)) (λ _ _=>ae trivial)
  ·refine dH (bZ (cp (f:=λ n m=>eN v m 0) (P:=λ _=>True) ?_) (λ s _=>?_))
   ·suffices ∀ (k i:Nat),i+k=v.E'.length->Ev2 (λ n m=>eN v m (i:Int)) (λ _=>True) from this _ 0 (sm _)
    intro k
    induction k with
    | zero=>
     intro i hi;refine bc ?_;simp only [eN];exact CJ
    | succ k ih=>
     intro i hi;refine bc ?_;simp only [eN];refine ay O (aE O (am (λ _=>True) (G6 (xH _)) (λ _ _=>aR (λ _=>?_) (λ _=>ae trivial))));refine am (λ _=>True) (aR (λ _=>aE bO (aE O (ae trivial))) (λ _=>ae trivial)) (λ _ _=>aR (λ _=>ae trivial) (λ _=>aE bO ?_));exact lw (P:=λ j=>Ev2 (λ n m=>eN v m j) (λ _=>True)) (ih (i+1) O)
   ·cases s with
    | inl x=>exact ae trivial
    | inr y=>trivial
 ·cases s with
  | inl x=>exact ae trivial
  | inr y=>trivial
theorem FP {v:aw}(hb:VSz v):∀ lv c:Int,-9000<=lv->lv<=9000->-9000<=c->c<=4096->Ev2 (λ n _=>ee n v lv c) (λ r=>-9000<=r.2/\r.2<=4096):=by
 induction hb with
 | @mk v hv hs ih=>
  intro lv c h1 h2 h3 h4;refine cz ?_;simp only [ee];refine aR (λ _=>ae ⟨h3,h4⟩) (λ h5=>aR (λ _=>ae ⟨h3,h4⟩) (λ h6=>aE bO (am (λ _=>True) (EY (.mk hv hs)) (λ _ _=>aR (λ _=>?_) (λ _=>ae HP)))))
  have loop:∀ (k i:Nat) (c:Int),i+k=v.H'.length->-9000<=c->c<=4096->Ev2 (λ n m=>de (ee n) v lv m (i:Int) c) (λ s=>match s with|.inl c=>-9000<=c/\c<=4096|.inr r=>-9000<=r.2/\r.2<=4096):=by
   intro k
   induction k with
   | zero=>
    intro i c hi h7 h8;refine bc ?_;simp only [de];exact ax O (ae ⟨h7,h8⟩)
   | succ k ihk=>
    intro i c hi h7 h8;refine bc ?_;simp only [de];refine ay O (aE O (aE bO (am _ (ih _ (zg O) (lv+1) c O O  h7 h8) (λ r hr=>aR (λ _=>aE bO ?_) (λ _=>ae hr)))));exact lw (P:=λ j=>Ev2 (λ n m=>de (ee n) v lv m j r.2) _) (ihk (i+1) r.2 O hr.1 hr.2)
  refine dH (bZ (cp (f:=λ n m=>de (ee n) v lv m 0 (c+1)) (loop _ 0 (c+1) (sm _) O O)) (λ s hs=>?_))
  cases s with
  | inl x=>exact ae hs
  | inr y=>exact hs
theorem Bg {e:ag}(hb:Sz e):∃ r,lC e=some r:=by
 have hv:=hb.v;unfold lC lc k9 kS qc kK
 repeat' (first|exact ⟨_,Z⟩|refine rE ?_ (λ _=>?_)|refine LL (by first|decide|exact eM O O) ?_|refine tA (λ _=>?_) (λ _=>?_))
theorem H2 {e:ag}(hb:Sz e):Ev2 (λ n _=>nR n e) (λ _=>True):=by
 have hn:=hb.n;have hk:=hb.k;simp only [nR];refine am (λ _=>True) (G6 (Bg hb)) (λ _ _=>aR (λ _=>ae trivial) (λ _=>aR (λ _=>?_) (λ _=>?_)))
 ·simp only [nb];exact am (λ _=>True) (am _ (FP hb.w 1 0 (by decide) (by decide) (by decide) (by decide)) (λ r _=>ae trivial)) (λ _ _=>ae trivial)
 ·refine am (λ _=>True) (am (λ _=>True) (G6 ?_) (λ _ _=>aR (λ _=>aC _ (Ai _ hn) (aR (λ _=>ae trivial) (λ _=>aR (λ _=>ae trivial) (λ _=>aC _ wE (ae trivial))))) (λ _=>ae trivial))) (λ _ _=>aR (λ _=>ae trivial) (λ _=>?_))
  ·unfold k9 kS
   repeat' (first|exact ⟨_,Z⟩|refine rE ?_ (λ _=>?_)|refine tA (λ _=>?_) (λ _=>?_))
  ·exact am (λ _=>True) (aR (λ _=>ae trivial) (λ _=>aC _ (Ai _ hk) (aR (λ _=>ae trivial) (λ _=>aC _ wE (ae trivial))))) (λ _ _=>aR (λ _=>ae trivial) (λ _=>ae trivial))
theorem Kf {e:ag}(hb:Sz e):∀ lv c:Int,-9000<=lv->lv<=9000->-9000<=c->c<=4096->Ev2 (λ n _=>cx n (ct.mk c) e lv) (λ r=>-9000<=r.2.fcount/\r.2.fcount<=4096):=by
 induction hb with
 | @mk e hn hk hw hc hs ih=>
  intro lv c h1 h2 h3 h4;refine cz ?_;simp only [cx];refine aR (λ _=>ae ⟨h3,h4⟩) (λ h5=>aR (λ _=>ae ⟨h3,h4⟩) (λ h6=>aE bO (am (λ _=>True) (H2 (.mk hn hk hw hc hs)) (λ _ _=>aR (λ _=>?_) (λ _=>ae HP)))))
  have loop:∀ (k i:Nat) (c:Int),i+k=e.If.length->-9000<=c->c<=4096->Ev2 (λ n m=>cm (cx n) e lv m (i:Int) c) (λ s=>match s with|.inl c=>-9000<=c/\c<=4096|.inr r=>-9000<=r.2.fcount/\r.2.fcount<=4096):=by
   intro k
   induction k with
   | zero=>
    intro i c hi h7 h8;refine bc ?_;simp only [cm];exact ax O (ae ⟨h7,h8⟩)
   | succ k ihk=>
    intro i c hi h7 h8;refine bc ?_;simp only [cm];refine ay O (aE O (aE bO (am _ (ih _ (zg O) (lv+1) c O O  h7 h8) (λ r hr=>aR (λ _=>aE bO ?_) (λ _=>ae hr)))));exact lw (P:=λ j=>Ev2 (λ n m=>cm (cx n) e lv m j r.2.fcount) _) (ihk (i+1) r.2.fcount O hr.1 hr.2)
  refine dH (bZ (cp (f:=λ n m=>cm (cx n) e lv m 0 (c+1)) (loop _ 0 (c+1) (sm _) O O)) (λ s hs=>?_))
  cases s with
  | inl x=>exact ae hs
  | inr y=>exact hs
theorem yP {e:ag}(hb:Sz e):Ev2 (λ n _=>gX n e) (·=chk e):=by
 refine MW ?_;simp only [gX];exact am _ (Kf hb 1 0 (by decide) (by decide) (by decide) (by decide)) (λ r _=>ae trivial)
theorem Hg (h:p:=by exact rH (by decide) (by decide) (by have:=z1.2; have:=(glt g hs).2; omega) z1.1):p:=h
theorem tlS (b:Bool)(l:List ac):tl b l <:+ l:=by
 grind [tl,nf,List.tail_suffix,List.dropWhile_suffix]
theorem t1 {b:Bool}{l m:List ac}(h:l <:+ m):tl b l <:+ m:=(tlS b l).trans h
def Gl (l:List ac):Prop:=Gd l/\l.length<=1000000000
def ix {α:Type}(P:α->Prop)(l0:List ac)(x:PR α):Prop:=∀ q,x=some q->match q with
 | .inl e=>e.1≠0
 | .inr (a,l')=>P a/\l' <:+ l0/\Gl l'
theorem jM {α:Type}{P:α->Prop}{l0:List ac}:ix P l0 none:=by intro q h; cases h
theorem eO {α:Type}{P:α->Prop}{l0 l':List ac}{a:α}(p:P a)(h:l' <:+ l0)(g:Gl l'):ix P l0 (pok a l'):=by intro q h'; cases h'; grind
theorem tY {α:Type}{P:α->Prop}{l0:List ac}{k a:Int}(h:k≠0):ix P l0 (per k a):=by intro q h'; cases h'; exact h
theorem dv {α:Type}{P:α->Prop}{p:Prop} [Decidable p] {l0:List ac}{x y:PR α}(h1:p->ix P l0 x)(h2:¬p->ix P l0 y):ix P l0 (if p then x else y):=by
 grind
theorem b9 {α β:Type}{x:PR α}{k:α->List ac->PR β}{q:PE⊕(β×List ac)}(h:pb x k=some q):(∃ e,x=some (.inl e)/\q=.inl e)\/(∃ a l,x=some (.inr (a,l))/\k a l=some q):=by
 cases x with
 | none=>cases h
 | some y=>
  rcases y with e|⟨a,l⟩
  ·cases h; grind
  ·exact .inr ⟨a,l,Z,h⟩
theorem ek {α β:Type}{P:α->Prop}{P':β->Prop}{l0 l1:List ac}{x:PR α}{k:α->List ac->PR β}(h:ix P l1 x)(hs:l1 <:+ l0)(hk:∀ a l',P a->l' <:+ l0->Gl l'->ix P' l0 (k a l')):ix P' l0 (pb x k):=by
 intro q hq;rcases b9 hq with ⟨e,hx,rfl⟩|⟨a,l,hx,hq⟩
 ·exact h _ hx
 ·exact hk a l (h _ hx).1 ((h _ hx).2.1.trans hs) (h _ hx).2.2 q hq
theorem wy {α:Type}{P:α->Prop}{l0 l1:List ac}{x:PR α}(h:ix P l1 x)(hs:l1 <:+ l0):ix P l0 x:=by
 intro q hq;have:=h q hq
 grind
theorem glk {b:Bool}{l:List ac}{k:Int}(g:Gl l)(h:(hd b l).Ar=k)(hk:k≠6):Gl (tl b l):=⟨Gj (pt g.1) O,Nat.le_trans (tlS b l).length_le g.2⟩
theorem glt {b:Bool}{l:List ac}{s:Bk}(g:Gl l)(h:sgB b l s=true):Gl (tl b l):=glk g (qj.1 h).1 (by decide)
theorem glw {b:Bool}{l:List ac}{s:Bk}(g:Gl l)(h:wdB b l s=true):Gl (tl b l):=glk g (yh.1 h).1 (by decide)
theorem gln {b:Bool}{l:List ac}(g:Gl l):(hd b l).BY.length<=1000000000:=by
 have:=xc (pt (b:=b) g.1);have h1:=this.1;have h2:=this.2.1;omega
theorem gll {b:Bool}{l:List ac}(g:Gl l):(tl b l).length<l.length:=Mh (pt g.1)
abbrev Tr {α:Type}:α->Prop:=λ _=>True
abbrev Nm:Bk->Prop:=λ s=>s.length<=1000000000
theorem fz {b:Bool}{s:Bk}{l:List ac}(g:Gl l):ix Tr (tl b l) (iY b s l):=dv (λ h=>eO trivial (List.suffix_refl _) (glt g h)) (λ _=>tY (by decide))
theorem G5 {b:Bool}{s:Bk}{l:List ac}(g:Gl l):ix Tr (tl b l) (E0 b s l):=dv (λ h=>eO trivial (List.suffix_refl _) (glw g h)) (λ _=>tY (by decide))
theorem wF {b:Bool}{l:List ac}(g:Gl l):ix Nm (tl b l) (Bt b l):=dv (λ h=>eO (gln g) (List.suffix_refl _) (glk g h.1 (by decide))) (λ _=>tY (by decide))
theorem yg:∀ (f c:Nat) (l:Bk) (e:SE),jw f c l=.inl e->e.1≠0
 | 0,c,l,e,h=>by grind [jw]
 | f+1,c,l,e,h=>by
  rw [mJ] at h
  cases hsk:hQ true l with
  | nil=>
   grind [nT]
  | cons b r=>
   rw [hsk,mF] at h;split at h
   ·grind
   split at h
   ·grind
   cases ht:ll (hZ f 0) (b::r) with
   | inl e'=>
    rw [ht] at h; cases h;show e'.1≠0;exact Dj (λ x y hxy=>(IZ f 0).1 x y hxy) ht
   | inr z=>
    obtain ⟨k,t,l'⟩:=z;rw [ht,n0] at h
    cases hs:jw f (c+1) l' with
    | inl e'=>rw [hs] at h; cases h; exact yg f (c+1) l' _ hs
    | inr ts'=>grind
theorem DY {src:Bk->SE⊕Bk}{l:Bk}(hsrc:∀ r r',src r=.inr r'->r'.length<r.length){c:Int}{t l':Bk}(h:ll src l=.inr (c,t,l')):c≠6/\t.length<=l.length/\(c=3->t.length+2<=l.length)/\(c=2->t.all jC=true):=by
 cases l with
 | nil=>cases h
 | cons b r=>
  grind [kP,List.takeWhile_prefix,List.all_takeWhile,wu]
theorem se (c:Bool)(l:Bk):(hQ c l).length<=l.length:=by
 grind [List.dropWhile_suffix,hQ]
theorem zY (s:Bk)(a:Int)(h0:0<=a)(h1:a+(s.length:Int)<=1000000000):∀ (f c:Nat) (l:Bk) (ts:List Tk),l.length<=s.length->jw f c l=.inr ts->Gd ((ts.map (tkS s)).map (mvT a))/\(∀ t∈ts.map (tkS s),t.Ar=3->t.BY.length+2<=l.length)/\ts.length<=l.length+1
 | 0,c,l,ts,_,h=>by grind [jw]
 | f+1,c,l,ts,hl,h=>by
  rw [mJ] at h;have hk:=se true l
  cases hsk:hQ true l with
  | nil=>
   rw [hsk,nT] at h;split at h
   ·cases h
   ·cases h
    refine ⟨⟨⟨?_,?_,λ h=>absurd (show (6:Int)=3 from h) (by decide),λ h=>absurd (show (6:Int)=2 from h) (by decide)⟩,.inl ⟨Z,Z⟩⟩,?_,by simp⟩
    ·show 0<=(s.length:Int)-((0:Nat):Int)+a; omega
    ·show (s.length:Int)-((0:Nat):Int)+a+((0:Nat):Int)<=_; omega
    ·intro t ht hk; simp only [dg,th,List.mem_singleton] at ht; subst ht; cases hk
  | cons b r=>
   rw [hsk] at hk;rw [hsk,mF] at h;split at h
   ·cases h
   split at h
   ·cases h
   cases ht:ll (hZ f 0) (b::r) with
   | inl e=>rw [ht] at h; cases h
   | inr z=>
    obtain ⟨k,t,l'⟩:=z;rw [ht,n0] at h;obtain ⟨b1,b2,b3,b4⟩:=DY (λ x y hxy=>((jr f 0).1 x y hxy).2) ht;have b5:=(mU (λ x y _ hxy=>(jr f 0).1 x y hxy) ht).2
    cases hs:jw f (c+1) l' with
    | inl e=>grind
    | inr ts'=>
     rw [hs] at h; cases h;obtain ⟨i1,i2,i3⟩:=zY s a h0 h1 f (c+1) l' ts' O hs;have hn:(b::r).length<=s.length:=by omega
     refine ⟨⟨⟨?_,?_,?_,b4⟩,.inr ⟨b1,i1⟩⟩,?_,by grind⟩
     ·show 0<=(s.length:Int)-((b::r).length:Int)+a; omega
     ·show (s.length:Int)-((b::r).length:Int)+a+(t.length:Int)<=_; omega
     ·intro QY;have:=b3 QY;show (s.length:Int)-((b::r).length:Int)+a+1+(t.length:Int)<=_; omega
     ·intro y hy hy3;rw [dg] at hy;rcases wr.1 hy with rfl|hy
      ·have:=b3 hy3;show t.length+2<=_; omega
      grind
theorem uK {s:Bk}{a:Int}(h0:0<=a)(h1:a+(s.length:Int)<=1000000000)(h:(fg s).2.Ar=0):Gd ((fg s).1.map (mvT a))/\(∀ t∈(fg s).1,t.Ar=3->t.BY.length+2<=s.length)/\(fg s).1.length<=65537:=by
 unfold fg at h ⊢;split
 ·grind
 ·rename_i hl;rw [if_neg hl] at h
  cases hs:jw (s.length+1) 0 s with
  | inl e=>
   rw [hs] at h;exact absurd h (yg _ _ _ e hs)
  | inr ts=>
   obtain ⟨i1,i2,i3⟩:=zY s a h0 h1 _ _ s ts (bt _) hs;refine ⟨i1,i2,?_⟩;show ([]++ts.map (tkS s)).length<=_
   grind
theorem uC {s:Bk}{a:Int}(h0:0<=a)(h1:a+(s.length:Int)<=1000000000)(h:(fg s).2.Ar=0):Gl ((fg s).1.map (mvT a)) :=
 ⟨(uK h0 h1 h).1,by grind [uK]⟩
theorem lu:∀ (f:Nat),(∀ d l r,iP f d l=some (some r)->r <:+ l/\r.length<l.length)/\(∀ l r,km f l=some (some r)->r <:+ l/\r.length<l.length)
 | 0=>⟨λ d l r h=>(by grind [iP]),λ l r h=>(by grind [km])⟩
 | f+1=>by
  obtain ⟨i1,i2⟩:=lu f;constructor
  ·intro d l r h
   cases l with
   | nil=>grind [iP]
   | cons b l=>
    grind [iP]
  ·intro l r h
   cases l with
   | nil=>grind [km]
   | cons b l=>
    grind [km,List.drop_suffix]
theorem vf {l t:Bk}{n:Nat}(h:mT l=.inr (t,n)):1<=n/\n<=l.length:=by
 cases l with
 | nil=>cases h
 | cons b r=>
  rw [mT] at h;split at h
  ·split at h
   ·rename_i hz
    cases h
    simp_all [rS]
   ·cases h
  grind [me]
def sb {α:Type}(P:α->Prop)(x:Option (PE⊕α)):Prop:=∀ q,x=some q->match q with
 | .inl e=>e.1≠0
 | .inr a=>P a
theorem rY {α:Type}{P:α->Prop}:sb P none:=by intro e h; cases h
theorem M3 {α:Type}{P:α->Prop}{a:α}(h:P a):sb P (some (.inr a)):=by intro e h'; grind
theorem AG {α:Type}{P:α->Prop}{k a:Int}(h:k≠0):sb P (some (.inl (k,a))):=by intro e h'; grind
theorem vz {α:Type}{P:α->Prop}{p:Prop} [Decidable p] {x y:Option (PE⊕α)}(h1:p->sb P x)(h2:¬p->sb P y):sb P (if p then x else y):=by
 grind
theorem rH {k op:Int}{nm key:Bk}{kids:List ag}{at':Int}(n:nm.length<=1000000000)(m:key.length<=1000000000)(c:kids.length<=4000000000)(h:∀ y∈kids,Sz y):Sz (ag.mk k op nm key v0 kids at') :=
 .mk (Nat.le_trans n (by decide)) (Nat.le_trans m (by decide)) Ew (Nat.le_trans c (by decide)) h
theorem Jx (v:aw)(at':Int)(h:VSz v):Sz (E4 v at'):=.mk (qr _) (qr _) h (qr _) (λ y hy=>by cases hy)
theorem L9 (s:Bk)(at':Int):Sz (Gx s at'):=Jx _ _ Ew
theorem m1 {a:ag}(h:Sz a):∀ y∈[a],Sz y:=λ y hy=>by grind
theorem m2 {a b:ag}(h:Sz a)(g:Sz b):∀ y∈[a,b],Sz y:=λ y hy=>by
 grind
theorem m3 {a b c:ag}(h:Sz a)(g:Sz b)(k:Sz c):∀ y∈[a,b,c],Sz y:=λ y hy=>by
 grind
def Kd (N:Nat)(ks:List ag):Prop:=(∀ y∈ks,Sz y)/\ks.length<=N
def Rd (n:Nat)(z:Int×Int×Bk×List ag×Bool):Prop:=z.2.2.1.length<=4096/\(∀ y∈z.2.2.2.1,Sz y)/\z.2.2.2.1.length<=n
structure Fct (f:Nat):Prop where
 e:∀ b l,Gl l->ix Sz (tl b l) (iO f b l)
 b:∀ Oa b l,Gl l->ix Sz (tl b l) (rj f Oa b l)
 bl:∀ Oa b x l,Sz x->Gl l->ix Sz l (tJ f Oa b x l)
 u:∀ b l,Gl l->ix Sz (tl b l) (unS f b l)
 pl:∀ b x l,Sz x->Gl l->ix Sz l (nu f b x l)
 p:∀ b l,Gl l->ix Sz (tl b l) (p6 f b l)
 s:∀ b l,Gl l->(hd b l).Ar=3->ix Sz (tl b l) (vB f b l)
 n:∀ b l,Gl l->(hd b l).Ar=1->ix Sz (tl b l) (qQ f b l)
 i:∀ e l,Gl l->ix (Kd l.length) (tl true l) (kl f e l)
 t:∀ l,Gl l->ix (Kd (2*l.length)) (tl true l) (tS f l)
 k:∀ l,Gl l->ix Sz (tl true l) (qJ f l)
 lo:∀ a k l,Gl l->ix Sz l (oX f a k l)
 tm:∀ (s:Bk) (a:Int),0<=a->a+(s.length:Int)<=1000000000->sb Sz (nr f s a)
 r:∀ (frm pos:Int) (text:Bk) (parts:List ag) (OI:Bool) (s:Bk) (n:Nat),0<=pos->pos+(s.length:Int)<=1000000000->text.length<=4096->(∀ y∈parts,Sz y)->parts.length+2*s.length<=n->sb (Rd n) (j9 f frm pos text parts OI s)
 w:∀ (s:Bk) (a:Int),0<=a->a+(s.length:Int)<=1000000000->sb Sz (kM f s a)
theorem qA {l p:Bk}(h:hasPrefix l p=true):p.length<=l.length:=by
 grind [hasPrefix]
theorem Ea {s:Bk}{k:Int}(h:mT s=.inl k):k≠0:=by
 cases s with
 | nil=>cases h; decide
 | cons b r=>
  grind [mT]
theorem Js {frm pos:Int}{text:Bk}{parts:List ag}(h:∀ y∈parts,Sz y):(∀ y∈flS frm pos text parts,Sz y)/\(flS frm pos text parts).length<=parts.length+1:=by
 grind [flS,L9]
theorem zU {at':Int}{n:Nat}{z:Int×Int×Bk×List ag×Bool}(hn:n<=3000000000)(h:Rd n z):Sz (uY at' z):=by
 obtain ⟨frm,pos,text,parts,OI⟩:=z;obtain ⟨h1,h2,h3⟩:=h
 grind [uY,Js,rH,L9]
theorem Nu {e:ag}(h:Sz e)(at':Int):Sz (ag.mk e.Ar e.fOp e.AT e.I' e.B' e.If at'):=by
 cases h with
 | mk n k v c kids=>exact .mk n k v c kids
abbrev sfx (l:List ac):l <:+ l:=List.suffix_refl l
theorem fct:∀ f,Fct f:=by
 intro f
 induction f with
 | zero=>
  constructor
  ·grind [iO,jM]
  ·grind [rj,jM]
  ·grind [tJ,jM]
  ·grind [unS,jM]
  ·grind [nu,jM]
  ·grind [p6,jM]
  ·grind [vB,jM]
  ·grind [qQ,jM]
  ·grind [kl,jM]
  ·grind [tS,jM]
  ·grind [qJ,jM]
  ·grind [oX,jM]
  ·grind [nr,rY]
  ·grind [j9,rY]
  grind [kM,rY]
 | succ f ih=>
  constructor
  ·intro b l g;rw [iO];refine ek (ih.b 0 b l g) (sfx _) λ c l1 z1 s1 g1=>dv (λ hs=>?_) (λ _=>eO z1 s1 g1);exact ek (ih.e b _ (glt g1 hs)) (t1 (t1 s1)) λ a l2 z2 s2 g2=>ek (fz g2) (t1 s2) λ _ l3 _ s3 g3=>ek (ih.e b _ g3) (t1 s3) λ d l4 z4 s4 g4=>eO (rH (by decide) (by decide) G (m3 z1 z2 z4)) s4 g4
  ·intro v b l g;rw [rj];exact dv (λ _=>ih.u b l g) (λ _=>ek (ih.b _ b l g) (sfx _) λ e l1 z1 s1 g1=>wy (ih.bl v b e l1 z1 g1) s1)
  ·intro v b x l zx g;rw [tJ]
   cases ha:CE b l v with
   | none=>grind [eO]
   | some p=>
    have hs:sgB b l p.1=true:=List.find?_some (p:=λ p:Bk×Int=>sgB b l p.1) ha;exact ek (ih.b _ b _ (glt g hs)) (t1 (tlS b l)) λ y l1 z1 s1 g1=>wy (ih.bl v b _ l1 (rH (by decide) (by decide) G (m2 zx z1)) g1) s1
  ·intro b l g;rw [unS];refine dv (λ hs=>ek (ih.u b _ (glt g hs)) (t1 (sfx _)) λ e l1 z1 s1 g1=>eO (rH (by decide) (by decide) G (m1 z1)) s1 g1) (λ _=>dv (λ hs=>ek (ih.u b _ (glt g hs)) (t1 (sfx _)) λ e l1 z1 s1 g1=>eO (rH (by decide) (by decide) G (m1 z1)) s1 g1) (λ _=>?_));exact ek (ih.p b l g) (sfx _) λ e l1 z1 s1 g1=>wy (ih.pl b e l1 z1 g1) s1
  ·intro b x l zx g;rw [nu];refine dv (λ hs=>dv (λ hk=>?_) (λ _=>tY (by decide))) (λ _=>dv (λ hs=>?_) (λ _=>eO zx (sfx _) g))
   ·exact wy (ih.pl b _ _ (rH (gln (glt g hs)) (by decide) G (m1 zx)) (glk (glt g hs) hk (by decide))) (t1 (tlS b l))
   ·exact ek (ih.e true _ (glt g hs)) (t1 (tlS b l)) λ y l1 z1 s1 g1=>ek (fz g1) (t1 s1) λ _ l2 _ s2 g2=>wy (ih.pl b _ _ (rH (by decide) (by decide) G (m2 zx z1)) g2) s2
  ·intro b l g;rw [p6];refine dv (λ hk=>dv (λ _=>eO (Jx _ _ Ew) (sfx _) (glk g hk (by decide))) (λ h=>tY h)) (λ _=>dv (λ hk=>ih.s b l g hk) (λ _=>dv (λ hk=>ih.n b l g hk) (λ _=>?_)));refine dv (λ hs=>ek (ih.e true _ (glt g hs)) (tlS true _) λ e l1 z1 s1 g1=>ek (fz g1) (t1 s1) λ _ l2 _ s2 g2=>eO z1 s2 g2) (λ _=>?_);refine dv (λ hs=>dv (λ hw=>wy (ih.lo _ _ _ (glw (glt g hs) hw)) (tlS true _)) (λ _=>ek (ih.i _ _ (glt g hs)) (tlS true _) λ ks l1 z1 s1 g1=>eO Hg s1 g1)) (λ _=>?_);exact dv (λ hs=>dv (λ hw=>wy (ih.lo _ _ _ (glw (glt g hs) hw)) (tlS true _)) (λ _=>ek (ih.t _ (glt g hs)) (tlS true _) λ ks l1 z1 s1 g1=>eO Hg s1 g1)) (λ _=>tY (by decide))
  ·intro b l g hk;rw [vB];intro q hq;have hb:=xc (pt (b:=b) g.1);have ht':=ih.tm (hd b l).BY ((hd b l).fAt+1) (by have:=hb.1; omega) (by have:=hb.2.2.1 hk; omega)
   cases ht:nr f (hd b l).BY ((hd b l).fAt+1) with
   | none=>grind
   | some y=>
    rw [ht] at hq;have ht':=ht' y ht;rcases y with e|e
    ·grind
    ·cases hq; simp_all [Nu,glk]
  ·intro b l g hk;have g1:=glk g hk (by decide);have gn:=gln (b:=b) g;rw [qQ];refine dv (λ _=>eO (Jx _ _ Ew) (sfx _) g1) (λ _=>dv (λ _=>eO (Jx _ _ Ew) (sfx _) g1) (λ _=>dv (λ _=>eO (Jx _ _ Ew) (sfx _) g1) (λ _=>dv (λ _=>tY (by decide)) (λ _=>?_))));exact dv (λ hs=>ek (ih.i _ _ (glt g1 hs)) (t1 (tlS b _)) λ ks l1 z1 s1 g2=>eO (rH gn (by decide) (by have:=z1.2; have:=(glt g1 hs).2; omega) z1.1) s1 g2) (λ _=>eO (rH gn (by decide) (by decide) (λ y hy=>by cases hy)) (sfx _) g1)
  ·intro e l g;have gt:=gll (b:=true) g;rw [kl];refine dv (λ hs=>eO ⟨(λ y hy=>by cases hy),qr _⟩ (sfx _) (glt g hs)) (λ _=>ek (ih.e true l g) (sfx _) λ x l1 zx s1 g1=>dv (λ hs=>?_) (λ _=>ek (fz g1) (t1 s1) λ _ l2 _ s2 g2=>eO ⟨m1 zx,by grind⟩ s2 g2));have h1:=s1.length_le;have h2:=gll (b:=true) g1
   exact ek (ih.i e _ (glt g1 hs)) (t1 (t1 s1)) λ r l2 z2 s2 g2=>eO ⟨λ y hy=>by
    rcases wr.1 hy with rfl|hy
    ·exact zx
    ·exact z2.1 y hy,by have:=z2.2; grind⟩ s2 g2
  ·intro l g;have gt:=gll (b:=true) g;rw [tS];refine dv (λ hs=>eO ⟨(λ y hy=>by cases hy),qr _⟩ (sfx _) (glt g hs)) (λ _=>ek (ih.k l g) (sfx _) λ k l1 z1 s1 g1=>ek (fz g1) (t1 s1) λ _ l2 _ s2 g2=>ek (ih.e true l2 g2) (t1 s2) λ x l3 z3 s3 g3=>dv (λ hs=>?_) (λ _=>ek (fz g3) (t1 s3) λ _ l4 _ s4 g4=>eO ⟨m2 z1 z3,by grind⟩ s4 g4));have h1:=s3.length_le;have h2:=gll (b:=true) g3
   exact ek (ih.t _ (glt g3 hs)) (t1 (t1 s3)) λ r l4 z4 s4 g4=>eO ⟨λ y hy=>by
    rcases wr.1 hy with rfl|hy
    ·exact z1
    rcases wr.1 hy with rfl|hy
    ·exact z3
    ·exact z4.1 y hy,by have:=z4.2; grind⟩ s4 g4
  ·intro l g;rw [qJ];refine dv (λ hk=>eO (L9 _ _) (sfx _) (glk g hk (by decide))) (λ _=>dv (λ hk=>ih.s true l g hk) (λ _=>dv (λ hs=>?_) (λ _=>tY (by decide))));exact ek (ih.e true _ (glt g hs)) (tlS true _) λ e l1 z1 s1 g1=>ek (fz g1) (t1 s1) λ _ l2 _ s2 g2=>eO z1 s2 g2
  ·intro a k l g;rw [oX];refine ek (wF g) (tlS true l) λ v l1 z1 s1 g1=>ek (P:=λ p:Bk×Bk=>p.1.length<=1000000000/\p.2.length<=1000000000) (l1:=l1) (dv (λ hs=>ek (wF (glt g1 hs)) (t1 (tlS true l1)) λ w l2 z2 s2 g2=>eO ⟨z2,z1⟩ s2 g2) (λ _=>eO ⟨z1,qr _⟩ (sfx _) g1)) s1 λ nk l2 zn s2 g2=>?_;refine ek (G5 g2) (t1 s2) λ _ l3 _ s3 g3=>ek (ih.e true l3 g3) (t1 s3) λ x l4 z4 s4 g4=>ek (fz g4) (t1 s4) λ _ l5 _ s5 g5=>ek (ih.e true l5 g5) (t1 s5) λ c l6 z6 s6 g6=>?_;refine ek (P:=Kd 3) (l1:=l6) (dv (λ _=>ek (fz g6) (tlS true l6) λ _ l7 _ s7 g7=>ek (ih.e true l7 g7) (t1 s7) λ d l8 z8 s8 g8=>eO ⟨m3 z4 z6 z8,by simp⟩ s8 g8) (λ _=>eO ⟨m2 z4 z6,by simp⟩ (sfx _) g6)) s6 λ ks l7 z7 s7 g7=>?_
   refine ek (P:=Kd 4) (l1:=l7) (dv (λ hw=>ek (ih.e true _ (glw g7 hw)) (t1 (tlS true l7)) λ e l8 z8 s8 g8=>eO ⟨λ y hy=>by
    rcases List.mem_append.1 hy with hy|hy
    ·exact z7.1 y hy
    grind,by have:=z7.2; grind⟩ s8 g8) (λ _=>eO ⟨z7.1,by have:=z7.2; omega⟩ (sfx _) g7)) s7 λ ks l8 z8 s8 g8=>?_
   exact ek (fz g8) (t1 s8) λ _ l9 _ s9 g9=>eO (rH zn.1 zn.2 (by have:=z8.2; omega) z8.1) s9 g9
  ·intro s a h0 h1;rw [nr];have hr':=ih.r a a [] [] false s (2*s.length) h0 h1 (by decide) (λ y hy=>by cases hy) G;intro q hq
   cases hr:j9 f a a [] [] false s with
   | none=>grind
   | some y=>
    rw [hr] at hq;have hr':=hr' y hr;rcases y with e'|z
    ·grind
    ·have hz:Sz (uY a z):=zU O hr'
     grind [BE]
  ·intro frm pos text parts OI s n h0 h1 ht hp hn
   cases s with
   | nil=>rw [j9]; exact M3 ⟨ht,hp,by grind⟩
   | cons c r=>
    have hcl:(c::r).length=r.length+1:=rfl;rw [j9];refine vz (λ hx=>vz (λ _=>AG (by decide)) (λ hl=>ih.r _ _ _ _ _ _ n O ?_ ?_ hp ?_)) (λ _=>vz (λ hx=>?_) (λ _=>?_))
    ·have:=qA hx
     grind
    ·grind
    ·grind
    ·cases hc:iP f 1 ((c::r).drop 2) with
     | none=>exact rY
     | some y=>
      cases y with
      | none=>grind [AG]
      | some r'=>
       simp only [];have hr:=(lu f).1 _ _ _ hc;have hr2:=hr.2;have hr1:=hr.1.length_le;have hx:=qA hx;have hfl:=Js (frm:=frm) (pos:=pos) (text:=text) hp;rw [ro] at hr1 hr2;simp only [cl,n7] at hr1 hr2 h1 hx hn;have hw':=ih.w (((c::r).drop 2).take (((c::r).drop 2).length-r'.length-1)) (pos+2) O (by grind)
       cases hw:kM f (((c::r).drop 2).take (((c::r).drop 2).length-r'.length-1)) (pos+2) with
       | none=>exact rY
       | some z=>
        have hw':=hw' z hw;rcases z with e|e
        ·intro e' h; grind
        ·refine ih.r _ _ _ _ _ _ n O (by grind) (by decide) (λ y hy=>?_) (by grind)
         grind
    ·cases hi:mT (c::r) with
     | inl k=>exact AG (Ea hi)
     | inr tn=>
      have:=vf hi;exact vz (λ _=>AG (by decide)) (λ hl=>ih.r _ _ _ _ _ _ n O (by grind) (by grind) hp (by grind))
  ·intro s a h0 h1;rw [kM];refine vz (λ h=>AG h) (λ hk=>?_);have hk:(fg s).2.Ar=0:=Classical.not_not.1 hk;have hx':=ih.e true _ (uC h0 h1 hk);intro q hq
   cases hx:iO f true ((fg s).1.map (mvT a)) with
   | none=>grind
   | some y=>
    rw [hx] at hq;have hx':=hx' y hx
    grind
theorem Gk (h:p:=by
 have g1:=glt g hs
 exact fy ((stepT g1).e true) (λ n=>(fct n).e true _ g1) (λ _ l2 _ _ g2=>fy ou (λ _=>fz g2) (λ _ _ _ _ _=>gZ))):p:=h
theorem FO (h:p:=by
 exact fy ((stepT (glt g hs)).u b) (λ n=>(fct n).u b _ (glt g hs)) (λ _ _ _ _ _=>gZ)):p:=h
def Tot {α:Type}(F:Nat->Option α):Prop:=Ev2 (λ n _=>F n) (λ _=>True)
theorem fy {α β:Type}{x:Nat->PR α}{k:Nat->α->List ac->PR β}{P:α->Prop}{l0:List ac}(h:Tot x)(hx:∀ n,ix P l0 (x n))(hk:∀ a l',P a->l' <:+ l0->Gl l'->Tot (λ n=>k n a l')):Tot (λ n=>pb (x n) (k n)):=by
 obtain ⟨r,_,N,hN⟩:=h;have hr:=hx N r (hN N N (bt _) (bt _));rcases r with e|⟨a,l'⟩
 ·exact ⟨.inl e,trivial,N,λ n m hn hm=>by show pb (x n) (k n)=_; rw [show x n=_ from hN n m hn hm]; rfl⟩
 ·obtain ⟨r2,_,N2,hN2⟩:=hk a l' hr.1 hr.2.1 hr.2.2;refine ⟨r2,trivial,max N N2,λ n m hn hm=>?_⟩;show pb (x n) (k n)=_;rw [show x n=_ from hN n m O O];exact hN2 n m O O
theorem gZ {α:Type}{r:α}:Tot (λ _=>some r):=ae trivial
theorem Gn {α:Type}{x:Option α}(h:∃ r,x=some r):Tot (λ _=>x):=by
 obtain ⟨r,rfl⟩:=h;exact gZ
theorem ou {b:Bool}{s:Bk}{l:List ac}:Tot (λ _=>iY b s l):=Gn (by unfold iY; split <;> exact ⟨_,Z⟩)
theorem NC {b:Bool}{s:Bk}{l:List ac}:Tot (λ _=>E0 b s l):=Gn (by unfold E0; split <;> exact ⟨_,Z⟩)
theorem LM {b:Bool}{l:List ac}:Tot (λ _=>Bt b l):=Gn (by unfold Bt; split <;> exact ⟨_,Z⟩)
theorem dZ {α:Type}{p:Prop} [Decidable p] {f g:Nat->Option α}(h1:p->Tot f)(h2:¬p->Tot g):Tot (λ n=>if p then f n else g n):=aR h1 h2
theorem hH {α:Type}{f:Nat->Option α}(h:Tot (λ n=>f (n+1))):Tot f:=cz h
theorem zZ {α:Type}{x:Nat->Option α}(h:Tot x):∃ r N,∀ n,N<=n->x n=some r:=by
 obtain ⟨r,_,N,hN⟩:=h;exact ⟨r,N,λ n hn=>hN n n hn hn⟩
theorem ya {α:Type}{x:Nat->Option α}(r:α)(N:Nat)(h:∀ n,N<=n->x n=some r):Tot x:=⟨r,trivial,N,λ n _ hn _=>h n hn⟩
def G9 (M:Nat)(l:List ac):Prop:=∀ t∈l,t.Ar=3->t.BY.length<M
theorem alS {M:Nat}{l l':List ac}(h:G9 M l)(hs:l' <:+ l):G9 M l':=λ t ht=>h t (hs.subset ht)
theorem LU {b:Bool}{l:List ac}(g:Gl l):hd b l∈l:=by
 have h1:=ub (pt (b:=b) g.1)
 have h2:nf b l <:+ l:=by
  unfold nf
  cases b
  ·exact List.suffix_refl _
  ·exact List.dropWhile_suffix _
 exact h2.subset (by rw [h1]; exact List.mem_cons_self)
structure TA (l:List ac):Prop where
 e:∀ b,Tot (λ n=>iO n b l)
 b:∀ Oa b,Tot (λ n=>rj n Oa b l)
 bl:∀ Oa b x,Sz x->Tot (λ n=>tJ n Oa b x l)
 u:∀ b,Tot (λ n=>unS n b l)
 pl:∀ b x,Sz x->Tot (λ n=>nu n b x l)
 i:∀ en,Tot (λ n=>kl n en l)
 t:Tot (λ n=>tS n l)
 lo:∀ a k,Tot (λ n=>oX n a k l)
theorem LJ {K:Nat}(hK:∀ (s:Bk) (a:Int),s.length<K->0<=a->a+(s.length:Int)<=1000000000->Tot (λ n=>nr n s a)):∀ (N:Nat) (l:List ac),l.length<=N->Gl l->G9 K l->TA l:=by
 intro N
 induction N with
 | zero=>
  intro l hl g _;have:=Ei g.1;exact absurd (List.length_eq_zero_iff.1 O) this
 | succ N ih=>
  intro l hl g hA;have step:∀ {l':List ac} {b:Bool},l' <:+ tl b l->Gl l'->TA l':=λ {l' b} hs gl=>ih l' (by have:=hs.length_le; have:=gll (b:=b) g; omega) gl (alS hA (hs.trans (tlS b l)));have stepT:∀ {b:Bool},Gl (tl b l)->TA (tl b l):=λ {b} gl=>step (sfx _) gl
  have hs:∀ b,(hd b l).Ar=3->Tot (λ n=>vB n b l):=by
   intro b k3;refine hH ?_;simp only [vB];have tk:=xc (pt (b:=b) g.1);have h1:=tk.1;have h2:=tk.2.2.1 k3;obtain ⟨r,M,hM⟩:=zZ (hK (hd b l).BY ((hd b l).fAt+1) (hA _ (LU g) k3) O O);rcases r with e|e
   ·exact ya (.inl e) M λ n hn=>by simp only [hM n hn]
   ·exact ya (.inr (ag.mk e.Ar e.fOp e.AT e.I' e.B' e.If (hd b l).fAt,tl b l)) M λ n hn=>by simp only [hM n hn]; rfl
  have hn:∀ b,(hd b l).Ar=1->Tot (λ n=>qQ n b l):=by
   intro b k1;have g1:=glk g k1 (by decide);refine hH ?_;simp only [qQ];refine dZ (λ _=>gZ) (λ _=>dZ (λ _=>gZ) (λ _=>dZ (λ _=>gZ) (λ _=>dZ (λ _=>gZ) (λ _=>dZ (λ hs=>?_) (λ _=>gZ)))));have g2:=glt g1 hs;exact fy ((step (b:=b) (tlS b _) g2).i _) (λ n=>(fct n).i _ _ g2) (λ _ _ _ _ _=>gZ)
  have hp:∀ b,Tot (λ n=>p6 n b l):=by
   intro b;refine hH ?_;simp only [p6];refine dZ (λ _=>dZ (λ _=>gZ) (λ _=>gZ)) (λ _=>dZ (λ k3=>hs b k3) (λ _=>dZ (λ k1=>hn b k1) (λ _=>?_)));refine dZ (λ hs=>?_) (λ _=>?_)
   ·exact Gk
   refine dZ (λ hs=>dZ (λ hw=>?_) (λ _=>?_)) (λ _=>dZ (λ hs=>dZ (λ hw=>?_) (λ _=>?_)) (λ _=>gZ))
   ·exact (step (b:=b) (tlS true _) (glw (glt g hs) hw)).lo _ _
   ·exact fy ((stepT (glt g hs)).i _) (λ n=>(fct n).i _ _ (glt g hs)) (λ _ _ _ _ _=>gZ)
   ·exact (step (b:=b) (tlS true _) (glw (glt g hs) hw)).lo _ _
   ·exact fy (stepT (glt g hs)).t (λ n=>(fct n).t _ (glt g hs)) (λ _ _ _ _ _=>gZ)
  have hpl:∀ b x,Sz x->Tot (λ n=>nu n b x l):=by
   intro b x zx;refine hH ?_;simp only [nu];refine dZ (λ hs=>dZ (λ hk=>?_) (λ _=>gZ)) (λ _=>dZ (λ hs=>?_) (λ _=>gZ))
   ·exact (step (b:=b) (tlS b _) (glk (glt g hs) hk (by decide))).pl b _ (rH (gln (glt g hs)) (by decide) G (m1 zx))
   ·have g1:=glt g hs;exact fy ((stepT g1).e true) (λ n=>(fct n).e true _ g1) (λ y l2 zy s2 g2=>fy ou (λ _=>fz g2) (λ _ l3 _ s3 g3=>(step (b:=b) (s3.trans ((tlS true l2).trans (s2.trans (tlS true _)))) g3).pl b _ (rH (by decide) (by decide) G (m2 zx zy))))
  have hu:∀ b,Tot (λ n=>unS n b l):=by
   intro b;refine hH ?_;simp only [unS];refine dZ (λ hs=>?_) (λ _=>dZ (λ hs=>?_) (λ _=>?_))
   ·exact FO
   ·exact FO
   ·exact fy (hp b) (λ n=>(fct n).p b l g) (λ x l1 zx s1 g1=>(step s1 g1).pl b x zx)
  have hbl:∀ Oa b x,Sz x->Tot (λ n=>tJ n Oa b x l):=by
   intro Oa b x zx;refine hH ?_;simp only [tJ]
   cases ha:CE b l Oa with
   | none=>exact gZ
   | some p=>
    have hs:sgB b l p.1=true:=List.find?_some (p:=λ p:Bk×Int=>sgB b l p.1) ha;exact fy ((stepT (glt g hs)).b _ b) (λ n=>(fct n).b _ b _ (glt g hs)) (λ y l1 zy s1 g1=>(step (b:=b) (s1.trans (tlS b _)) g1).bl Oa b _ (rH (by decide) (by decide) G (m2 zx zy)))
  have hb:∀ (k Oa:Nat) b,6<=Oa+k->Tot (λ n=>rj n Oa b l):=by
   intro k
   induction k with
   | zero=>
    intro Oa b hk;refine hH ?_;simp only [rj];exact dZ (λ _=>hu b) (λ h=>absurd O h)
   | succ k ihk=>
    intro Oa b hk;refine hH ?_;simp only [rj];exact dZ (λ _=>hu b) (λ _=>fy (ihk (Oa+1) b O) (λ n=>(fct n).b _ b l g) (λ x l1 zx s1 g1=>(step s1 g1).bl Oa b x zx))
  have he:∀ b,Tot (λ n=>iO n b l):=by
   intro b;refine hH ?_;simp only [iO];refine fy (hb 6 0 b (by decide)) (λ n=>(fct n).b 0 b l g) (λ c l1 zc s1 g1=>dZ (λ hs=>?_) (λ _=>gZ));have g2:=glt g1 hs;exact fy ((step (b:=b) ((tlS b l1).trans s1) g2).e b) (λ n=>(fct n).e b _ g2) (λ a l3 _ s3 g3=>fy ou (λ _=>fz g3) (λ _ l4 _ s4 g4=>fy ((step (b:=b) (s4.trans ((tlS b l3).trans (s3.trans ((tlS b _).trans ((tlS b l1).trans s1))))) g4).e b) (λ n=>(fct n).e b _ g4) (λ _ _ _ _ _=>gZ)))
  have hk:Tot (λ n=>qJ n l):=by
   refine hH ?_;simp only [qJ];refine dZ (λ _=>gZ) (λ _=>dZ (λ k3=>hs true k3) (λ _=>dZ (λ hs=>?_) (λ _=>gZ)));exact Gk
  have hi:∀ en,Tot (λ n=>kl n en l):=by
   intro en;refine hH ?_;simp only [kl];refine dZ (λ _=>gZ) (λ _=>fy (he true) (λ n=>(fct n).e true l g) (λ x l1 _ s1 g1=>dZ (λ hs=>?_) (λ _=>fy ou (λ _=>fz g1) (λ _ _ _ _ _=>gZ))));have g2:=glt g1 hs;exact fy ((step (b:=true) ((tlS true l1).trans s1) g2).i en) (λ n=>(fct n).i _ _ g2) (λ _ _ _ _ _=>gZ)
  have ht:Tot (λ n=>tS n l):=by
   refine hH ?_;simp only [tS];refine dZ (λ _=>gZ) (λ _=>fy hk (λ n=>(fct n).k l g) (λ x l1 _ s1 g1=>fy ou (λ _=>fz g1) (λ _ l2 _ s2 g2=>?_)));have s2':=s2.trans ((tlS true l1).trans s1);refine fy ((step (b:=true) s2' g2).e true) (λ n=>(fct n).e true _ g2) (λ y l3 _ s3 g3=>dZ (λ hs=>?_) (λ _=>fy ou (λ _=>fz g3) (λ _ _ _ _ _=>gZ)));have g4:=glt g3 hs;exact fy (step (b:=true) ((tlS true l3).trans (s3.trans ((tlS true l2).trans s2'))) g4).t (λ n=>(fct n).t _ g4) (λ _ _ _ _ _=>gZ)
  have hlo:∀ a k,Tot (λ n=>oX n a k l):=by
   intro a k;refine hH ?_;simp only [oX];refine fy LM (λ _=>wF g) (λ v l1 _ s1 g1=>?_);refine fy (P:=Tr) (l0:=l1) (dZ (λ hs=>fy LM (λ _=>wF (glt g1 hs)) (λ _ _ _ _ _=>gZ)) (λ _=>gZ)) (λ _=>dv (λ hs=>ek (wF (glt g1 hs)) (t1 (tlS true l1)) λ w l2 _ s2 g2=>eO trivial s2 g2) (λ _=>eO trivial (sfx _) g1)) (λ nk l2 _ s2 g2=>?_);have q2:=s2.trans s1;refine fy NC (λ _=>G5 g2) (λ _ l3 _ s3 g3=>?_);have q3:=s3.trans ((tlS true l2).trans q2);refine fy ((step (b:=true) q3 g3).e true) (λ n=>(fct n).e true _ g3) (λ x l4 _ s4 g4=>?_);have q4:=s4.trans ((tlS true l3).trans q3);refine fy ou (λ _=>fz g4) (λ _ l5 _ s5 g5=>?_);have q5:=s5.trans ((tlS true l4).trans q4);refine fy ((step (b:=true) q5 g5).e true) (λ n=>(fct n).e true _ g5) (λ c l6 _ s6 g6=>?_);have q6:=s6.trans ((tlS true l5).trans q5);refine fy (P:=Tr) (l0:=l6) (dZ (λ _=>fy ou (λ _=>fz g6) (λ _ l7 _ s7 g7=>fy ((step (b:=true) (s7.trans ((tlS true l6).trans q6)) g7).e true) (λ n=>(fct n).e true _ g7) (λ _ _ _ _ _=>gZ))) (λ _=>gZ)) (λ n=>dv (λ _=>ek (fz g6) (tlS true l6) λ _ l7 _ s7 g7=>ek ((fct n).e true l7 g7) (t1 s7) λ d l8 _ s8 g8=>eO trivial s8 g8) (λ _=>eO trivial (sfx _) g6)) (λ ks l7 _ s7 g7=>?_);have q7:=s7.trans q6;refine fy (P:=Tr) (l0:=l7) (dZ (λ hw=>fy ((step (b:=true) ((tlS true l7).trans q7) (glw g7 hw)).e true) (λ n=>(fct n).e true _ (glw g7 hw)) (λ _ _ _ _ _=>gZ)) (λ _=>gZ)) (λ n=>dv (λ hw=>ek ((fct n).e true _ (glw g7 hw)) (t1 (tlS true l7)) λ e l8 _ s8 g8=>eO trivial s8 g8) (λ _=>eO trivial (sfx _) g7)) (λ ks l8 _ s8 g8=>?_);exact fy ou (λ _=>fz g8) (λ _ _ _ _ _=>gZ)
  exact ⟨he,λ Oa b=>hb 6 Oa b O,hbl,hu,hpl,hi,ht,hlo⟩
theorem xC:∀ (k:Nat) (l:Bk),l.length<k->(∀ d,Tot (λ n=>iP n d l))/\Tot (λ n=>km n l)
 | 0,_,h=>absurd h (Nat.not_lt_zero _)
 | k+1,[],_=>⟨λ d=>hH (by simp only [iP]; exact gZ),hH (by simp only [km]; exact gZ)⟩
 | k+1,b::r,h=>by
  have hl:(b::r).length=r.length+1:=rfl;have ih:=λ (l:Bk) (hl':l.length<=r.length)=>xC k l O;constructor
  ·intro d;refine hH ?_;simp only [iP];refine dZ (λ _=>(ih r (bt _)).1 _) (λ _=>dZ (λ _=>dZ (λ _=>gZ) (λ _=>(ih r (bt _)).1 _)) (λ _=>dZ (λ _=>?_) (λ _=>(ih r (bt _)).1 _)));obtain ⟨q,_,N,hN⟩:=(ih r (bt _)).2;have hq:=hN N N (bt _) (bt _)
   cases q with
   | none=>exact ⟨none,trivial,N,λ n m hn hm=>by simp only [show km n r=_ from hN n m hn hm]⟩
   | some r'=>
    have hsf:=(lu N).2 _ _ hq;obtain ⟨q2,_,N2,hN2⟩:=(ih r' O).1 d;refine ⟨q2,trivial,max N N2,λ n m hn hm=>?_⟩;simp only [show km n r=_ from hN n m O O];exact hN2 n m O O
  ·refine hH ?_;simp only [km];refine dZ (λ _=>gZ) (λ _=>dZ (λ _=>(ih _ lL).2) (λ _=>dZ (λ _=>(ih _ lL).2) (λ _=>dZ (λ _=>?_) (λ _=>(ih r (bt _)).2))));obtain ⟨q,_,N,hN⟩:=(ih ((b::r).drop 2) lL).1 1;have hq:=hN N N (bt _) (bt _)
   cases q with
   | none=>exact ⟨none,trivial,N,λ n m hn hm=>by simp only [show iP n 1 ((b::r).drop 2)=_ from hN n m hn hm]⟩
   | some r'=>
    have hsf:=(lu N).1 _ _ _ hq;have h2:=hsf.2;rw [ro] at h2;obtain ⟨q2,_,N2,hN2⟩:=(ih r' O).2;refine ⟨q2,trivial,max N N2,λ n m hn hm=>?_⟩;simp only [show iP n 1 ((b::r).drop 2)=_ from hN n m O O];exact hN2 n m O O
theorem Dq {M:Nat}(hW:∀ (s:Bk) (a:Int),s.length<M->0<=a->a+(s.length:Int)<=1000000000->Tot (λ n=>kM n s a)):∀ (k:Nat) (s:Bk) (frm pos:Int) (text:Bk) (parts:List ag) (OI:Bool),s.length<k->s.length<=M->0<=pos->pos+(s.length:Int)<=1000000000->Tot (λ n=>j9 n frm pos text parts OI s)
 | 0,_,_,_,_,_,_,h,_,_,_=>absurd h (Nat.not_lt_zero _)
 | k+1,[],_,_,_,_,_,_,_,_,_=>hH (by simp only [j9]; exact gZ)
 | k+1,c::r,frm,pos,text,parts,OI,h,hM,h0,h1=>by
  have hl:(c::r).length=r.length+1:=rfl;refine hH ?_;simp only [j9];refine dZ (λ hx=>dZ (λ _=>gZ) (λ _=>?_)) (λ _=>dZ (λ hx=>?_) (λ _=>?_))
  ·have:=qA hx;simp only [cl,n7] at this;exact Dq hW k _ _ _ _ _ _ lL lL O lL
  ·have hpl:=qA hx;simp only [cl,n7] at hpl;obtain ⟨q,_,N,hN⟩:=(xC ((c::r).length+1) ((c::r).drop 2) lL).1 1;have hq:=hN N N (bt _) (bt _)
   cases q with
   | none=>exact ⟨.inl (40,pos),trivial,N,λ n m hn hm=>by simp only [show iP n 1 ((c::r).drop 2)=_ from hN n m hn hm]⟩
   | some r'=>
    have hsf:=(lu N).1 _ _ _ hq;have h2:=hsf.2;rw [ro] at h2;have hw:=hW (((c::r).drop 2).take (((c::r).drop 2).length-r'.length-1)) (pos+2) (by rw [List.length_take,ro]; omega) O (by rw [List.length_take,ro]; omega);obtain ⟨z,N1,hN1⟩:=zZ hw;rcases z with e|e
    ·exact ya (.inl e) (max N N1) λ n hn=>by simp only [show iP n 1 ((c::r).drop 2)=_ from hN n n O O,hN1 n O]
    ·obtain ⟨q2,N2,hN2⟩:=zZ (Dq hW k r' (pos+(((c::r).length-r'.length:Nat):Int)) (pos+(((c::r).length-r'.length:Nat):Int)) [] (flS frm pos text parts++[e]) true O O O O);refine ya q2 (max N (max N1 N2)) λ n hn=>?_;simp only [show iP n 1 ((c::r).drop 2)=_ from hN n n O O,hN1 n O];exact hN2 n O
  ·cases hi:mT (c::r) with
   | inl k=>exact gZ
   | inr tn=>
    obtain ⟨t,n'⟩:=tn;have:=vf hi;exact dZ (λ _=>gZ) (λ _=>Dq hW k _ _ _ _ _ _ lL lL O lL)
theorem Ne {K:Nat}(hK:∀ (s:Bk) (a:Int),s.length<K->0<=a->a+(s.length:Int)<=1000000000->Tot (λ n=>nr n s a))(s:Bk)(a:Int)(hs:s.length<K+2)(h0:0<=a)(h1:a+(s.length:Int)<=1000000000):Tot (λ n=>kM n s a):=by
 refine hH ?_;simp only [kM];refine dZ (λ _=>gZ) (λ hk=>?_);have hk:(fg s).2.Ar=0:=Classical.not_not.1 hk;have hg:=uC h0 h1 hk
 have hA:G9 K ((fg s).1.map (mvT a)):=by
  intro t ht h3;obtain ⟨y,hy,rfl⟩:=List.mem_map.1 ht;have:=(uK h0 h1 hk).2.1 y hy h3;show y.BY.length<K;omega
 obtain ⟨z,N,hN⟩:=zZ ((LJ hK _ _ (bt _) hg hA).e true);rcases z with e|⟨x,l⟩
 ·exact ya (.inl e) N λ n hn=>by simp only [hN n hn]
 ·by_cases h6:(hd true l).Ar=6
  ·exact ya (.inr x) N λ n hn=>by simp only [hN n hn,if_pos h6]
  ·exact ya (.inl (2,(hd true l).fAt)) N λ n hn=>by simp only [hN n hn,if_neg h6]
theorem Jn:∀ (K:Nat) (s:Bk) (a:Int),s.length<K->0<=a->a+(s.length:Int)<=1000000000->Tot (λ n=>nr n s a)
 | 0,_,_,h,_,_=>absurd h (Nat.not_lt_zero _)
 | K+1,s,a,h,h0,h1=>by
  refine hH ?_;simp only [nr];have hr:=Dq (M:=s.length) (λ s' a' hs' h0' h1'=>Ne (K:=K) (λ s'' a''=>Jn K s'' a'') s' a' O h0' h1') (s.length+1) s a a [] [] false O (bt _) h0 h1;obtain ⟨z,N,hN⟩:=zZ hr;rcases z with e|z
  ·exact ya (.inl e) N λ n hn=>by simp only [hN n hn]
  ·exact ya (BE (.inr (uY a z))) N λ n hn=>by simp only [hN n hn]
theorem HR (b:Bool)(l:List ac)(g:Gl l):∃ n q,iO n b l=some q:=by
 have hA:∃ K,G9 K l:=by
  clear g
  induction l with
  | nil=>exact ⟨0,λ t ht=>by cases ht⟩
  | cons t r ih=>
   obtain ⟨K,hK⟩:=ih;refine ⟨max K (t.BY.length+1),λ y hy h3=>?_⟩;rcases wr.1 hy with rfl|hy
   ·omega
   ·have:=hK y hy h3; omega
 obtain ⟨K,hA⟩:=hA;obtain ⟨q,_,N,hN⟩:=(LJ (λ s' a'=>Jn K s' a') _ _ (bt _) g hA).e b;exact ⟨N,q,hN N N (bt _) (bt _)⟩
theorem x4 (h:p:=by
 rintro _ ⟨z,rfl,hz⟩
 exact hz):p:=h
theorem ol (h:p:=by
 rintro ⟨z1,z2⟩ hz
 exact ae hz):p:=h
theorem GQ (h:p:=by
 refine dH (bZ (cp hl) ?_);rintro _ ⟨j,rfl,hp⟩
 exact ae ⟨j,Z,hp⟩):p:=h
theorem F4 (h:p:=by exact cp (xF hL NK he h3 O (z1,.mk L (j:Int) NJ base (eD e)) _ _ _ _ _ _ _ _ _ _)):p:=h
theorem F2 (h:p:=by exact cp (wj hL NK he h3 (z1,.mk L (j:Int) NJ base (eD e)) _ _ _ _ _ _ _ _ _ _)):p:=h
theorem sM (h:p:=by exact ae ⟨j,Z,h3⟩):p:=h
theorem vd (h:p:=by exact tN hL NK _ he h3):p:=h
theorem vF (h:p:=by exact uJ hL NK _ h):p:=h
section
variable {L:List ac} {base:Int}
theorem Fw (hL:Gd (L.map (mvT base)))(NK:L.length<=1000000000){NJ:Int}{b:Bool}{l:List ac}(ls:List Bk)(hls:ls.length<=1000):∀ (k t i:Nat),t+k=ls.length->Pos L base i NJ b l ->
  Ev2 (λ n m=>bS n ls m (t:Int) L (i:Int) NJ base 0 0 []) (λ r=>match (ls.drop t).find? (λ s=>sgB b l s) with
   | some s=>∃ j:Nat,r=.inr (s,true,.mk L (j:Int) NJ base dOk)/\Pos L base j NJ b l
   | none=>∃ j:Nat,r=.inl (L,(j:Int),NJ,base,0,0,[])/\Pos L base j NJ b l):=by
 intro k
 induction k with
 | zero=>
  intro t i ht h;refine bc ?_;simp only [bS];refine ax O (ae ?_);rw [List.drop_eq_nil_of_le O];exact ⟨i,rfl,h⟩
 | succ k ih=>
  intro t i ht h;refine bc ?_;simp only [bS];have hdr:ls.drop t=lat ls (t:Int)::ls.drop (t+1):=by rw [qq ls t O]; exact List.drop_eq_getElem_cons O
  refine ay O (aE ⟨by omega,by omega⟩ (am _ vF ?_));rintro ⟨z1,z2⟩ ⟨h1,j,h2,h3⟩;replace h1:z1=_:=h1; subst h1; cases h2;rw [hdr,List.find?_cons]
  cases hs:sgB b l (lat ls (t:Int)) with
  | true=>exact ay Z (ae ⟨j,Z,h3⟩)
  | false=>exact ax rg (aE (eM O O) (vD (P:=λ x=>Ev2 (λ n m=>bS n ls m x L (j:Int) NJ base 0 0 []) _) (ih (t+1) j O h3)))
theorem GD (hL:Gd (L.map (mvT base)))(NK:L.length<=1000000000){i:Nat}{NJ:Int}{b:Bool}{l:List ac}(ls:List Bk)(hls:ls.length<=1000)(h:Pos L base i NJ b l) :
  Ev2 (λ n _=>eV n (.mk L (i:Int) NJ base dOk) ls) (λ r=>match ls.find? (λ s=>sgB b l s) with
   | some s=>∃ j:Nat,r=(s,true,.mk L (j:Int) NJ base dOk)/\Pos L base j NJ b l
   | none=>∃ j:Nat,r=([],false,.mk L (j:Int) NJ base dOk)/\Pos L base j NJ b l):=by
 simp only [eV];have hl:=Fw hL NK ls hls ls.length 0 i O h;rw [List.drop_zero] at hl
 cases hf:ls.find? (λ s=>sgB b l s) with
 | some s=>
  rw [hf] at hl;refine dH (bZ (cp hl) ?_);rintro _ ⟨j,rfl,hp⟩;exact ⟨j,rfl,hp⟩
 | none=>
  rw [hf] at hl;exact GQ
theorem Io (hL:Gd (L.map (mvT base)))(NK:L.length<=1000000000){NJ:Int}{b:Bool}{l:List ac}{e:PE}(he:e.1≠0)(ls:List Bk)(hls:ls.length<=1000):∀ (k t i:Nat),t+k=ls.length->Pos L base i NJ b l ->
  Ev2 (λ n m=>bS n ls m (t:Int) L (i:Int) NJ base e.1 e.2 []) (λ r=>∃ j:Nat,r=.inl (L,(j:Int),NJ,base,e.1,e.2,[])/\Pos L base j NJ b l):=by
 intro k
 induction k with
 | zero=>
  intro t i ht h;refine bc ?_;simp only [bS];exact ax O (ae ⟨i,rfl,h⟩)
 | succ k ih=>
  intro t i ht h;refine bc ?_;simp only [bS];refine ay O (aE ⟨by omega,by omega⟩ (am _ (tN hL NK _ he h) ?_));rintro _ ⟨j,rfl,h3⟩;exact ax rg (aE bO (vD (P:=λ x=>Ev2 (λ n m=>bS n ls m x L (j:Int) NJ base e.1 e.2 []) _) (ih (t+1) j O h3)))
theorem Kx (hL:Gd (L.map (mvT base)))(NK:L.length<=1000000000){i:Nat}{NJ:Int}{b:Bool}{l:List ac}{e:PE}(he:e.1≠0)(ls:List Bk)(hls:ls.length<=1000)(h:Pos L base i NJ b l) :
  Ev2 (λ n _=>eV n (.mk L (i:Int) NJ base (eD e)) ls) (λ r=>∃ j:Nat,r=([],false,.mk L (j:Int) NJ base (eD e))/\Pos L base j NJ b l):=by
 simp only [eV];have hl:=Io hL NK he ls hls ls.length 0 i O h;exact GQ
theorem AK {Oa:Nat}(h:Oa<=5):kh (Oa:Int)=some ((wW Oa).map (·.1)):=by
 rcases Oa with _|_|_|_|_|_|k
 ·rfl
 ·rfl
 ·rfl
 ·rfl
 ·rfl
 ·rfl
 ·omega
def rL:List Bk:=[[124,124],[38,38],[61,61],[33,61],[60],[60,61],[62],[62,61],[43],[45],[42],[47],[37]]
theorem M7 (s:Bk):∀ (k t:Nat),t+k=13->Ev2 (λ _ m=>iF s m (t:Int)) (·=match (rL.drop t).findIdx? (λ x=>decide (x=s)) with|some i=>.inr ((3+t+i:Nat):Int)|none=>.inl ()):=by
 intro k
 induction k with
 | zero=>
  intro t ht;refine bc ?_;simp only [iF];have:t=13:=by omega
  subst this;exact ax (by decide) (ae rfl)
 | succ k ih=>
  intro t ht;refine bc ?_;simp only [iF];have hdr:rL.drop t=lat rL (t:Int)::rL.drop (t+1):=by rw [qq rL t (by show t<13; omega)]; exact List.drop_eq_getElem_cons (by show t<13; omega)
  refine ay O (aE ⟨by omega,by omega⟩ ?_);rw [hdr,List.findIdx?_cons];by_cases hs:lat rL (t:Int)=s
  ·refine ay hs (aE bO (ae ?_));rw [decide_eq_true hs];show _=Sum.inr _;rw [show (3:Int)+(t:Int)=((3+t+0:Nat):Int) by omega]
  ·refine ax hs (aE bO (bZ (vD (P:=λ x=>Ev2 (λ _ m=>iF s m x) _) (ih (t+1) O)) ?_));rintro r rfl;rw [decide_eq_false hs]
   cases (rL.drop (t+1)).findIdx? (λ x=>decide (x=s)) with
   | none=>rfl
   | some i=>
    show Sum.inr ((3+(t+1)+i:Nat):Int)=Sum.inr ((3+t+(i+1):Nat):Int);congr 2; omega
theorem LF {Oa:Nat}(h:Oa<=5){p:Bk×Int}(hp:p∈wW Oa):Ev2 (λ n _=>rB n p.1) (·=p.2):=by
 simp only [rB];have hl:=M7 p.1 13 0 rfl;rw [List.drop_zero] at hl
 have:(match rL.findIdx? (λ x=>decide (x=p.1)) with|some i=>Sum.inr ((3+0+i:Nat):Int)|none=>(Sum.inl ():Unit⊕Int))=.inr p.2:=by
  have hall:∀ Oa:Fin 6,∀ p∈wW Oa.1,(match rL.findIdx? (λ x=>decide (x=p.1)) with|some i=>Sum.inr ((3+0+i:Nat):Int)|none=>(Sum.inl ():Unit⊕Int))=.inr p.2:=by decide
  exact hall ⟨Oa,by omega⟩ p hp
 rw [this] at hl;exact kF p.2 (cp hl) rfl
theorem Gi (b:Bool)(l:List ac)(Oa:Nat):((wW Oa).map (·.1)).find? (λ s=>sgB b l s)=(CE b l Oa).map (·.1):=by
 unfold CE
 induction wW Oa with
 | nil=>rfl
 | cons p r ih=>
  rw [dg,List.find?_cons,List.find?_cons]
  cases sgB b l p.1 with
  | true=>rfl
  | false=>exact ih
theorem KS {b:Bool}{l:List ac}{Oa:Nat}{p:Bk×Int}(h:CE b l Oa=some p):p∈wW Oa/\sgB b l p.1=true:=⟨List.mem_of_find?_eq_some h,List.find?_some (p:=λ p:Bk×Int=>sgB b l p.1) h⟩
theorem Ee {Oa:Nat}:((wW Oa).map (·.1)).length<=1000:=by
 rcases Oa with _|_|_|_|_|k <;> simp [wW]
def wg {α:Type}(L:List ac)(base:Int)(NJ:Int)(b:Bool)(e:PE)(z:α×af):Prop:=∃ (j:Nat) (l':List ac),z.2=.mk L (j:Int) NJ base (eD e)/\Pos L base j NJ b l'
theorem E6 {e:PE}(he:e.1≠0):(!decide ((eD e).Ar=0))=true:=by show (!decide (e.1=0))=true; simp [he]
theorem Eu {i:Nat}{NJ:Int}{b:Bool}{l:List ac}{e:PE}(he:e.1≠0)(h:Pos L base i NJ b l) :
  Ev2 (λ n _=>dr n (.mk L (i:Int) NJ base (eD e))) (wg L base NJ b e):=by
 refine cz ?_;simp only [dr,bh,Option.bind_some];exact ay (E6 he) (ae ⟨i,l,Z,h⟩)
theorem wj (hL:Gd (L.map (mvT base)))(NK:L.length<=1000000000){i:Nat}{NJ:Int}{b:Bool}{l:List ac}{e:PE}(he:e.1≠0)(h:Pos L base i NJ b l)(r1:ag×af)(k op:Int)(nm key:Bk)(vk vn:Int)(vs:Bk)(vi:List aw)(vks:List Bk)(kids:List ag) :
  Ev2 (λ n m=>cg n (aO n) r1 m k op nm key vk vn vs vi vks kids L (i:Int) NJ base e.1 e.2 []) (λ s=>∃ z,s=.inr z/\wg L base NJ b e z):=by
 refine bc ?_;simp only [cg];refine dH (am _ (tN hL NK _ he h) ?_);rintro _ ⟨j,rfl,h3⟩;refine ax rg (am _ vd ?_);rintro _ ⟨j,rfl,h3⟩;exact ax rg (ae ⟨_,rfl,j,l,rfl,h3⟩)
theorem EO (hL:Gd (L.map (mvT base)))(NK:L.length<=1000000000){i:Nat}{NJ:Int}{b:Bool}{l:List ac}{e:PE}(he:e.1≠0)(h:Pos L base i NJ b l) :
  Ev2 (λ n _=>d6 n (.mk L (i:Int) NJ base (eD e))) (wg L base NJ b e):=by
 refine cz ?_;simp only [d6];refine am _ (Eu he h) ?_;rintro ⟨z1,z2⟩ ⟨j,l',h2,h3⟩
 cases h2
 refine dH (bZ F2 ?_);exact x4
theorem J5 (hL:Gd (L.map (mvT base)))(NK:L.length<=1000000000){i:Nat}{NJ:Int}{b:Bool}{l:List ac}{e:PE}(he:e.1≠0)(h:Pos L base i NJ b l) :
  Ev2 (λ n _=>dz n (.mk L (i:Int) NJ base (eD e))) (wg L base NJ b e):=by
 refine cz ?_;simp only [dz];refine am (λ t=>∃ j:Nat,t=(0,L,(j:Int),NJ,base,e.1,e.2,[])/\Pos L base j NJ b l) ?_ ?_
 ·refine am _ (tN hL NK _ he h) ?_;rintro _ ⟨j,rfl,h3⟩;refine ax rg (am _ vd ?_);rintro _ ⟨j,rfl,h3⟩;exact ax rg sM
 ·rintro _ ⟨j,rfl,h3⟩;refine ay rfl (am _ (EO hL NK he h3) ?_);exact ol
theorem xF (hL:Gd (L.map (mvT base)))(NK:L.length<=1000000000){i:Nat}{NJ:Int}{b:Bool}{l:List ac}{e:PE}(he:e.1≠0)(h:Pos L base i NJ b l){Oa:Nat}(hlev:Oa<=5)(r5:ag×af)(k op:Int)(nm key:Bk)(vk vn:Int)(vs:Bk)(vi:List aw)(vks:List Bk)(kids:List ag) :
  Ev2 (λ n m=>cn n (br n) (Oa:Int) r5 m k op nm key vk vn vs vi vks kids L (i:Int) NJ base e.1 e.2 []) (λ s=>∃ z,s=.inr z/\wg L base NJ b e z):=by
 refine bc ?_;simp only [cn];refine aC _ (aT (AK hlev) rfl) (am _ (Kx hL NK he _ Ee h) ?_);rintro _ ⟨j,rfl,h3⟩;exact ay rfl (ae ⟨_,rfl,j,l,rfl,h3⟩)
theorem Hd (hL:Gd (L.map (mvT base)))(NK:L.length<=1000000000){NJ:Int}{b:Bool}{e:PE}(he:e.1≠0):∀ (k Oa i:Nat) (l:List ac),Oa+k=6->Pos L base i NJ b l ->
  Ev2 (λ n _=>br n (.mk L (i:Int) NJ base (eD e)) (Oa:Int)) (wg L base NJ b e):=by
 intro k
 induction k with
 | zero=>
  intro Oa i l hk h;refine cz ?_;simp only [br];refine ay O (am _ (J5 hL NK he h) ?_);exact ol
 | succ k ih=>
  intro Oa i l hk h;refine cz ?_;simp only [br];refine ax O (aE bO (am _ (vD (P:=λ x=>Ev2 (λ n _=>br n (.mk L (i:Int) NJ base (eD e)) x) _) (ih (Oa+1) i l O h)) ?_));rintro ⟨z1,z2⟩ ⟨j,l',h2,h3⟩
  cases h2
  refine dH (bZ F4 ?_);exact x4
theorem GP (hL:Gd (L.map (mvT base)))(NK:L.length<=1000000000){i:Nat}{NJ:Int}{b:Bool}{l:List ac}{e:PE}(he:e.1≠0)(h:Pos L base i NJ b l) :
  Ev2 (λ n _=>aO n (.mk L (i:Int) NJ base (eD e))) (wg L base NJ b e):=by
 refine cz ?_;simp only [aO];refine am _ (Hd hL NK he 6 0 i l rfl h) ?_;rintro ⟨z1,z2⟩ ⟨j,l',h2,h3⟩
 cases h2
 refine am _ vd ?_;rintro _ ⟨j,rfl,h3⟩;exact ay rfl (ae ⟨j,l',rfl,h3⟩)
end
end Go.Ab.R06
end
