/- Texts of the proof, one behind the other. No statement is proved here. -/
import Derived.Test.YtmpmphkpplgbkaaGreatDoorZ17Za
import Derived.Test.YtmpmphkpplgbkaaGreatDoorZ17Zb
import Derived.Test.YtmpmphkpplgbkaaGreatDoorZ17Zc
import Derived.Test.YtmpmphkpplgbkaaGreatDoorZ17Zd
set_option maxHeartbeats 4000000
section
namespace Go.Ab.R06
open Go.Proofs Go.Ab Go.Ab.RB
attribute [local irreducible] awp eR bq aB aV AV.sub M cN
abbrev bv:List AV:=[.p (eI 0),.p (eI 0),.p (eS ([]:Bytes)),.p (eS ([]:Bytes)),.p (eI 0),.p (eI 0),.p (eS ([]:Bytes)),.p (.val (.slice none 0 0)),.p (.val (.slice none 0 0)),.p (.val (.slice none 0 0)),.p (eI 0)]
abbrev ol:List PV:=[eI 0,eI 0,eS ([]:Bytes),eS ([]:Bytes),eI 0,eI 0,eS ([]:Bytes),.val (.slice none 0 0),.val (.slice none 0 0),.val (.slice none 0 0),eI 0]
abbrev cz:List AV:=[.p (eI 0),.p (eI 0),.p (eS ([]:Bytes))]
def cb (n:Nat)(IC:al->Option (ap×al)):Nat->Bytes->Int->Int->Int->Bytes->(List ab)->Bool->Option ((Bytes×Int×Int×Int×Bytes×(List ab)×Bool)⊕(ap×al))
 | 0,_,_,_,_,_,_,_=>none
 | m+1,JI,JH,Jf,Jz,JU,JG,JV =>
 if Jf < (JI.length:Int) then
  ck ((0:Int)<=Jf/\Jf<=(JI.length:Int)/\(JI.length:Int)<=(JI.length:Int)) <|
  (
    (strings_HasPrefix (sub JI Jf (JI.length:Int)) ([36,36,123]:Bytes)).bind λ Lo =>
    if Lo=true then
     ck (JU.length+([36,123]:Bytes).length<=9223372036854775807) <|
     ck (inR (Jf+3)) <|
     (d7 (al.mk JI JH (Jf+3) Jz (JU++([36,123]:Bytes)) JG JV)).bind λ KV =>
     some (KV.1.Ar,KV.1.fAt,KV.1.AI,KV.2.fs,KV.2.fat,KV.2.fi,KV.2.B',KV.2.C',KV.2.BY,KV.2.HS)
    else
     (strings_HasPrefix (sub JI Jf (JI.length:Int)) ([36,123]:Bytes)).bind λ Jn =>
     if Jn=true then
      (IC (al.mk JI JH Jf Jz JU JG JV)).bind λ La =>
      some (La.1.Ar,La.1.fAt,La.1.AI,La.2.fs,La.2.fat,La.2.fi,La.2.B',La.2.C',La.2.BY,La.2.HS)
     else
      (fV n (al.mk JI JH Jf Jz JU JG JV)).bind λ Kh =>
      some (Kh.1.Ar,Kh.1.fAt,Kh.1.AI,Kh.2.fs,Kh.2.fat,Kh.2.fi,Kh.2.B',Kh.2.C',Kh.2.BY,Kh.2.HS)
   : Option (Int×Int×Bytes×Bytes×Int×Int×Int×Bytes×(List ab)×Bool)).bind λ KU =>
  if KU.1=0 then
   cb n IC m KU.2.2.2.1 KU.2.2.2.2.1 KU.2.2.2.2.2.1 KU.2.2.2.2.2.2.1 KU.2.2.2.2.2.2.2.1 KU.2.2.2.2.2.2.2.2.1 KU.2.2.2.2.2.2.2.2.2
  else
   some (.inr ((ap.mk KU.1 KU.2.1 KU.2.2.1),(al.mk KU.2.2.2.1 KU.2.2.2.2.1 KU.2.2.2.2.2.1 KU.2.2.2.2.2.2.1 KU.2.2.2.2.2.2.2.1 KU.2.2.2.2.2.2.2.2.1 KU.2.2.2.2.2.2.2.2.2)))
 else
  some (.inl (JI,JH,Jf,Jz,JU,JG,JV))
def cj (n:Nat)(IY:ae->Int->Option (ab×ae))(H5:Int)(r5:ab×ae):Nat->Int->Int->Bytes->Bytes->Int->Int->Bytes->(List ah)->(List Bytes)->(List ab)->(List af)->Int->Int->Int->Int->Int->Bytes->Option (((List af)×Int×Int×Int×Int×Int×Bytes)⊕(ab×ae))
 | 0,_,_,_,_,_,_,_,_,_,_,_,_,_,_,_,_,_=>none
 | m+1,JH,Jf,Jz,JU,JG,JV,K5,K4,LV,LU,f46,f47,f48,ML,f50,LS,LR =>
 (kl H5).bind λ Lu =>
 (et n (ae.mk f46 f47 f48 ML (ap.mk f50 LS LR)) Lu).bind λ KD =>
 if (!KD.2.1)=true then
  some (.inr ((ab.mk JH Jf Jz JU (ah.mk JG JV K5 K4 LV) LU r5.1.fAt),KD.2.2))
 else
  (aU n KD.2.2).bind λ JJ =>
  ck (inR (H5+1)) <|
  (IY JJ.2 (H5+1)).bind λ Jg =>
  (qQ n KD.1).bind λ Kw =>
  cj n IY H5 r5 m 7 Kw ([]:Bytes) ([]:Bytes) 0 0 ([]:Bytes) [] [] [(ab.mk JH Jf Jz JU (ah.mk JG JV K5 K4 LV) LU r5.1.fAt),Jg.1] Jg.2.fl Jg.2.fat Jg.2.G' Jg.2.Gw Jg.2.AT.Ar Jg.2.AT.fAt Jg.2.AT.AI
def bY (n:Nat)(Ih:ae->Option (ab×ae))(r1:ab×ae):Nat->Int->Int->Bytes->Bytes->Int->Int->Bytes->(List ah)->(List Bytes)->(List ab)->(List af)->Int->Int->Int->Int->Int->Bytes->Option (((List af)×Int×Int×Int×Int×Int×Bytes)⊕(ab×ae))
 | 0,_,_,_,_,_,_,_,_,_,_,_,_,_,_,_,_,_=>none
 | m+1,LS,LR,NS,NR,NQ,NP,Nc,Nb,NO,NN,f61,f62,f63,f64,f65,f66,f67 =>
 jn (
   (bu n (ae.mk f61 f62 f63 f64 (ap.mk f65 f66 f67)) ([46]:Bytes)).bind λ N1 =>
   if N1.1=true then
    (aU n N1.2).bind λ r71 =>
    (bN n r71.2).bind λ MQ =>
    if MQ.1.Ar=1 then
     (aU n MQ.2).bind λ Nl =>
     some (.inl (4,MQ.1.Df,[(ab.mk LS LR NS NR (ah.mk NQ NP Nc Nb NO) NN r1.1.fAt)],Nl.2.fl,Nl.2.fat,Nl.2.G',Nl.2.Gw,Nl.2.AT.Ar,Nl.2.AT.fAt,Nl.2.AT.AI))
    else
     (bO MQ.2 2 MQ.1.fAt).bind λ r76 =>
     some (.inr (.inr (r76.1,r76.2)))
   else
    (bu n N1.2 ([91]:Bytes)).bind λ Ou =>
    if Ou.1=true then
     (dc n Ou.2).bind λ r83 =>
     (Ih r83).bind λ Ot =>
     (bR n Ot.2 ([93]:Bytes)).bind λ Nk =>
     some (.inl (5,([]:Bytes),[(ab.mk LS LR NS NR (ah.mk NQ NP Nc Nb NO) NN r1.1.fAt),Ot.1],Nk.fl,Nk.fat,Nk.G',Nk.Gw,Nk.AT.Ar,Nk.AT.fAt,Nk.AT.AI))
    else
     some (.inr (.inr ((ab.mk LS LR NS NR (ah.mk NQ NP Nc Nb NO) NN r1.1.fAt),Ou.2)))
  : Option ((Int×Bytes×(List ab)×(List af)×Int×Int×Int×Int×Int×Bytes)⊕(((List af)×Int×Int×Int×Int×Int×Bytes)⊕(ab×ae)))) λ Kx =>
 bY n Ih r1 m Kx.1 0 Kx.2.1 ([]:Bytes) 0 0 ([]:Bytes) [] [] Kx.2.2.1 Kx.2.2.2.1 Kx.2.2.2.2.1 Kx.2.2.2.2.2.1 Kx.2.2.2.2.2.2.1 Kx.2.2.2.2.2.2.2.1 Kx.2.2.2.2.2.2.2.2.1 Kx.2.2.2.2.2.2.2.2.2
def de (n:Nat)(Ih:ae->Option (ab×ae))(end_1:Bytes):Nat->(List ab)->(List af)->Int->Int->Int->Int->Int->Bytes->Option ((List ab)×(List af)×Int×Int×Int×Int×Int×Bytes)
 | 0,_,_,_,_,_,_,_,_=>none
 | m+1,JP,LB,f33,f34,JI,JH,Jf,Jz =>
 (
   (bc (ae.mk LB f33 f34 JI (ap.mk JH Jf Jz))).bind λ L6 =>
   if (!L6.1)=true then
    (bu n L6.2 end_1).bind λ Kb =>
    some (!Kb.1,Kb.2.fl,Kb.2.fat,Kb.2.G',Kb.2.Gw,Kb.2.AT.Ar,Kb.2.AT.fAt,Kb.2.AT.AI)
   else
    some (false,L6.2.fl,L6.2.fat,L6.2.G',L6.2.Gw,L6.2.AT.Ar,L6.2.AT.fAt,L6.2.AT.AI)
  : Option (Bool×(List af)×Int×Int×Int×Int×Int×Bytes)).bind λ Li =>
 if Li.1=true then
  (Ih (ae.mk Li.2.1 Li.2.2.1 Li.2.2.2.1 Li.2.2.2.2.1 (ap.mk Li.2.2.2.2.2.1 Li.2.2.2.2.2.2.1 Li.2.2.2.2.2.2.2))).bind λ Lu =>
  ck ((JP.length+[Lu.1].length)*160<=140737488355328) <|
  (bu n Lu.2 ([44]:Bytes)).bind λ Kh =>
  if (!Kh.1)=true then
   some (JP++[Lu.1],Kh.2.fl,Kh.2.fat,Kh.2.G',Kh.2.Gw,Kh.2.AT.Ar,Kh.2.AT.fAt,Kh.2.AT.AI)
  else
   (aU n Kh.2).bind λ Ld =>
   de n Ih end_1 m (JP++[Lu.1]) Ld.2.fl Ld.2.fat Ld.2.G' Ld.2.Gw Ld.2.AT.Ar Ld.2.AT.fAt Ld.2.AT.AI
 else
  some (JP,Li.2.1,Li.2.2.1,Li.2.2.2.1,Li.2.2.2.2.1,Li.2.2.2.2.2.1,Li.2.2.2.2.2.2.1,Li.2.2.2.2.2.2.2)
def cI (n:Nat)(Ih:ae->Option (ab×ae))(I':ae->Option (ab×ae)):Nat->(List ab)->(List af)->Int->Int->Int->Int->Int->Bytes->Option ((List ab)×(List af)×Int×Int×Int×Int×Int×Bytes)
 | 0,_,_,_,_,_,_,_,_=>none
 | m+1,Jt,Jf,Jz,JU,JG,JV,K5,K4 =>
 (
   (bc (ae.mk Jf Jz JU JG (ap.mk JV K5 K4))).bind λ Lo =>
   if (!Lo.1)=true then
    (bu n Lo.2 ([125]:Bytes)).bind λ MS =>
    some (!MS.1,MS.2.fl,MS.2.fat,MS.2.G',MS.2.Gw,MS.2.AT.Ar,MS.2.AT.fAt,MS.2.AT.AI)
   else
    some (false,Lo.2.fl,Lo.2.fat,Lo.2.G',Lo.2.Gw,Lo.2.AT.Ar,Lo.2.AT.fAt,Lo.2.AT.AI)
  : Option (Bool×(List af)×Int×Int×Int×Int×Int×Bytes)).bind λ Lh =>
 if Lh.1=true then
  (I' (ae.mk Lh.2.1 Lh.2.2.1 Lh.2.2.2.1 Lh.2.2.2.2.1 (ap.mk Lh.2.2.2.2.2.1 Lh.2.2.2.2.2.2.1 Lh.2.2.2.2.2.2.2))).bind λ JJ =>
  ck ((Jt.length+[JJ.1].length)*160<=140737488355328) <|
  (cS n JJ.2 ([61]:Bytes)).bind λ Jg =>
  (Ih Jg).bind λ Kw =>
  ck (((Jt++[JJ.1]).length+[Kw.1].length)*160<=140737488355328) <|
  (bu n Kw.2 ([44]:Bytes)).bind λ Kv =>
  if (!Kv.1)=true then
   some ((Jt++[JJ.1])++[Kw.1],Kv.2.fl,Kv.2.fat,Kv.2.G',Kv.2.Gw,Kv.2.AT.Ar,Kv.2.AT.fAt,Kv.2.AT.AI)
  else
   (aU n Kv.2).bind λ Lc =>
   cI n Ih I' m ((Jt++[JJ.1])++[Kw.1]) Lc.2.fl Lc.2.fat Lc.2.G' Lc.2.Gw Lc.2.AT.Ar Lc.2.AT.fAt Lc.2.AT.AI
 else
  some (Jt,Lh.2.1,Lh.2.2.1,Lh.2.2.2.1,Lh.2.2.2.2.1,Lh.2.2.2.2.2.1,Lh.2.2.2.2.2.2.1,Lh.2.2.2.2.2.2.2)
mutual
def ir:Nat->Bytes->Int->Option (ab×ap)
 | 0,_,_=>none
 | n+1,H1,Ir =>
 ((fS n) (al.mk H1 Ir 0 0 ([]:Bytes) [] false)).bind λ r1 =>
 if r1.1.Ar=0 then
  (gv (ah.mk 3 0 r1.2.C' [] []) Ir).bind λ r4 =>
  (
    if r1.2.HS=true then
     (eA (al.mk r1.2.fs r1.2.fat r1.2.fi r1.2.B' r1.2.C' r1.2.BY r1.2.HS)).bind λ r7 =>
     some (2,0,([]:Bytes),([]:Bytes),0,0,([]:Bytes),[],[],r7.BY,Ir)
    else
     some (r4.Ar,r4.fOp,r4.AI,r4.E',r4.A'.Ar,r4.A'.F',r4.A'.HT,r4.A'.HQ,r4.A'.D',r4.By,r4.fAt)
   : Option (Int×Int×Bytes×Bytes×Int×Int×Bytes×(List ah)×(List Bytes)×(List ab)×Int)).bind λ Ja =>
  (jP n (ab.mk Ja.1 Ja.2.1 Ja.2.2.1 Ja.2.2.2.1 (ah.mk Ja.2.2.2.2.1 Ja.2.2.2.2.2.1 Ja.2.2.2.2.2.2.1 Ja.2.2.2.2.2.2.2.1 Ja.2.2.2.2.2.2.2.2.1) Ja.2.2.2.2.2.2.2.2.2.1 Ja.2.2.2.2.2.2.2.2.2.2) r1.1).bind λ Jq =>
  some (Jq.1,Jq.2)
 else
  some ((ab.mk 0 0 ([]:Bytes) ([]:Bytes) (ah.mk 0 0 ([]:Bytes) [] []) [] 0),r1.1)
def hQ:Nat->Bytes->Int->Option (ab×ap)
 | 0,_,_=>none
 | n+1,H1,base_1 =>
 (mz n H1).bind λ r1 =>
 if r1.2.Ar=0 then
  ((aF n) (ae.mk r1.1 0 1 base_1 (ap.mk 0 0 ([]:Bytes)))).bind λ r5 =>
  (
    (bN n r5.2).bind λ r7 =>
    if r7.1.Ar=6 then
     some (r7.2.fl,r7.2.fat,r7.2.G',r7.2.Gw,r7.2.AT.Ar,r7.2.AT.fAt,r7.2.AT.AI)
    else
     (bO r7.2 2 r7.1.fAt).bind λ Iu =>
     some (Iu.2.fl,Iu.2.fat,Iu.2.G',Iu.2.Gw,Iu.2.AT.Ar,Iu.2.AT.fAt,Iu.2.AT.AI)
   : Option ((List af)×Int×Int×Int×Int×Int×Bytes)).bind λ Md =>
  some (r5.1,(ap.mk Md.2.2.2.2.1 Md.2.2.2.2.2.1 Md.2.2.2.2.2.2))
 else
  ck (inR (base_1+r1.2.fAt)) <|
  some ((ab.mk 0 0 ([]:Bytes) ([]:Bytes) (ah.mk 0 0 ([]:Bytes) [] []) [] 0),(ap.mk r1.2.Ar (base_1+r1.2.fAt) ([]:Bytes)))
def fS:Nat->al->Option (ap×al)
 | 0,_=>none
 | n+1,H3 =>
 jn (cb n (aR n) n H3.fs H3.fat H3.fi H3.B' H3.C' H3.BY H3.HS) λ Nw =>
 some ((ap.mk 0 0 ([]:Bytes)),(al.mk Nw.1 Nw.2.1 Nw.2.2.1 Nw.2.2.2.1 Nw.2.2.2.2.1 Nw.2.2.2.2.2.1 Nw.2.2.2.2.2.2))
def aF:Nat->ae->Option (ab×ae)
 | 0,_=>none
 | n+1,H7 =>
 ((bw n) H7 0).bind λ r1 =>
 (bu n r1.2 ([63]:Bytes)).bind λ r3 =>
 if (!r3.1)=true then
  some (r1.1,r3.2)
 else
  (aU n r3.2).bind λ r6 =>
  ((aF n) r6.2).bind λ r8 =>
  (cS n r8.2 ([58]:Bytes)).bind λ Iu =>
  ((aF n) Iu).bind λ IN =>
  some ((ab.mk 8 0 ([]:Bytes) ([]:Bytes) (ah.mk 0 0 ([]:Bytes) [] []) [r1.1,r8.1,IN.1] r1.1.fAt),IN.2)
def aR:Nat->al->Option (ap×al)
 | 0,_=>none
 | n+1,H3 =>
 (eA (al.mk H3.fs H3.fat H3.fi H3.B' H3.C' H3.BY H3.HS)).bind λ r1 =>
 ck (inR (r1.fi+2)) <|
 (d4 n r1.fs (r1.fi+2)).bind λ r4 =>
 if r4 < 0 then
  ck (inR (r1.fat+r1.fi)) <|
  some ((ap.mk 40 (r1.fat+r1.fi) ([]:Bytes)),(al.mk r1.fs r1.fat r1.fi r1.B' r1.C' r1.BY true))
 else
  ck (inR (r1.fi+2)) <|
  ck ((0:Int)<=r1.fi+2/\r1.fi+2<=r4/\r4<=(r1.fs.length:Int)) <|
  ck (inR (r1.fat+r1.fi)) <|
  ck (inR ((r1.fat+r1.fi)+2)) <|
  ((hQ n) (sub r1.fs (r1.fi+2) r4) ((r1.fat+r1.fi)+2)).bind λ IN =>
  if IN.2.Ar=0 then
   ck ((r1.BY.length+1)*160<=140737488355328) <|
   ck (inR (r4+1)) <|
   some ((ap.mk 0 0 ([]:Bytes)),(al.mk r1.fs r1.fat (r4+1) (r4+1) r1.C' (r1.BY++[IN.1]) true))
  else
   some (IN.2,(al.mk r1.fs r1.fat r1.fi r1.B' r1.C' r1.BY true))
def bw:Nat->ae->Int->Option (ab×ae)
 | 0,_,_=>none
 | n+1,H7,H5 =>
 if 5 < H5 then
  ((du n) H7).bind λ r2 =>
  some (r2.1,r2.2)
 else
  ck (inR (H5+1)) <|
  ((bw n) H7 (H5+1)).bind λ r5 =>
  jn (cj n (bw n) H5 r5 n r5.1.Ar r5.1.fOp r5.1.AI r5.1.E' r5.1.A'.Ar r5.1.A'.F' r5.1.A'.HT r5.1.A'.HQ r5.1.A'.D' r5.1.By r5.2.fl r5.2.fat r5.2.G' r5.2.Gw r5.2.AT.Ar r5.2.AT.fAt r5.2.AT.AI) λ _q89 =>
  none
def du:Nat->ae->Option (ab×ae)
 | 0,_=>none
 | n+1,H7 =>
 (
   (bu n H7 ([33]:Bytes)).bind λ r1 =>
   if r1.1=true then
    some (1,r1.2.fl,r1.2.fat,r1.2.G',r1.2.Gw,r1.2.AT.Ar,r1.2.AT.fAt,r1.2.AT.AI)
   else
    (bu n r1.2 ([45]:Bytes)).bind λ r4 =>
    if r4.1=true then
     some (2,r4.2.fl,r4.2.fat,r4.2.G',r4.2.Gw,r4.2.AT.Ar,r4.2.AT.fAt,r4.2.AT.AI)
    else
     some (0,r4.2.fl,r4.2.fat,r4.2.G',r4.2.Gw,r4.2.AT.Ar,r4.2.AT.fAt,r4.2.AT.AI)
  : Option (Int×(List af)×Int×Int×Int×Int×Int×Bytes)).bind λ Ja =>
 if Ja.1=0 then
  ((dN n) (ae.mk Ja.2.1 Ja.2.2.1 Ja.2.2.2.1 Ja.2.2.2.2.1 (ap.mk Ja.2.2.2.2.2.1 Ja.2.2.2.2.2.2.1 Ja.2.2.2.2.2.2.2))).bind λ Lg =>
  some (Lg.1,Lg.2)
 else
  (aU n (ae.mk Ja.2.1 Ja.2.2.1 Ja.2.2.2.1 Ja.2.2.2.2.1 (ap.mk Ja.2.2.2.2.2.1 Ja.2.2.2.2.2.2.1 Ja.2.2.2.2.2.2.2))).bind λ Jw =>
  ((du n) Jw.2).bind λ Jq =>
  some ((ab.mk 6 Ja.1 ([]:Bytes) ([]:Bytes) (ah.mk 0 0 ([]:Bytes) [] []) [Jq.1] Jw.1.fAt),Jq.2)
def dN:Nat->ae->Option (ab×ae)
 | 0,_=>none
 | n+1,H7 =>
 ((dj n) H7).bind λ r1 =>
 jn (bY n (aF n) r1 n r1.1.Ar r1.1.fOp r1.1.AI r1.1.E' r1.1.A'.Ar r1.1.A'.F' r1.1.A'.HT r1.1.A'.HQ r1.1.A'.D' r1.1.By r1.2.fl r1.2.fat r1.2.G' r1.2.Gw r1.2.AT.Ar r1.2.AT.fAt r1.2.AT.AI) λ _q123 =>
 none
def dj:Nat->ae->Option (ab×ae)
 | 0,_=>none
 | n+1,H7 =>
 (bc H7).bind λ r1 =>
 if r1.1=true then
  some ((ab.mk 0 0 ([]:Bytes) ([]:Bytes) (ah.mk 0 0 ([]:Bytes) [] []) [] 0),r1.2)
 else
  (bN n r1.2).bind λ r4 =>
  if r4.1.Ar=2 then
   (kg n r4.1.Df).bind λ r7 =>
   if r7.2=0 then
    (aU n r4.2).bind λ IN =>
    (gv (ah.mk 2 r7.1 ([]:Bytes) [] []) r4.1.fAt).bind λ Lb =>
    some (Lb,IN.2)
   else
    (bO r4.2 r7.2 r4.1.fAt).bind λ Iu =>
    some (Iu.1,Iu.2)
  else
   if r4.1.Ar=3 then
    ((eQ n) r4.2).bind λ KS =>
    some (KS.1,KS.2)
   else
    if r4.1.Ar=1 then
     ((fH n) r4.2).bind λ Jq =>
     some (Jq.1,Jq.2)
    else
     if r4.1.Ar=4 then
      ((gr n) r4.2).bind λ IOz =>
      some (IOz.1,IOz.2)
     else
      (bO r4.2 2 r4.1.fAt).bind λ Jm =>
      some (Jm.1,Jm.2)
def eQ:Nat->ae->Option (ab×ae)
 | 0,_=>none
 | n+1,H7 =>
 (bN n H7).bind λ r1 =>
 ck (inR (r1.1.fAt+1)) <|
 ((ir n) r1.1.Df (r1.1.fAt+1)).bind λ r4 =>
 if r4.2.Ar=0 then
  (aU n r1.2).bind λ r9 =>
  some ((ab.mk r4.1.Ar r4.1.fOp r4.1.AI r4.1.E' r4.1.A' r4.1.By r1.1.fAt),r9.2)
 else
  (bO r1.2 r4.2.Ar r4.2.fAt).bind λ r7 =>
  some (r7.1,r7.2)
def fH:Nat->ae->Option (ab×ae)
 | 0,_=>none
 | n+1,H7 =>
 (bN n H7).bind λ r1 =>
 if r1.1.Df=([110,117,108,108]:Bytes) then
  (aU n r1.2).bind λ r4 =>
  (gv (ah.mk 0 0 ([]:Bytes) [] []) r1.1.fAt).bind λ r6 =>
  some (r6,r4.2)
 else
  (
    if r1.1.Df=([116,114,117,101]:Bytes) then
     some true
    else
     some (decide (r1.1.Df=([102,97,108,115,101]:Bytes)))
   : Option Bool).bind λ t9 =>
  if t9=true then
   (aU n r1.2).bind λ Jh =>
   (
     if r1.1.Df=([116,114,117,101]:Bytes) then
      some 1
     else
      some 0
    : Option Int).bind λ Ne =>
   (gv (ah.mk 1 Ne ([]:Bytes) [] []) r1.1.fAt).bind λ Im =>
   some (Im,Jh.2)
  else
   (fF r1.1.Df).bind λ KS =>
   if KS=true then
    (bO r1.2 2 r1.1.fAt).bind λ Jq =>
    some (Jq.1,Jq.2)
   else
    (aU n r1.2).bind λ Kr =>
    (bu n Kr.2 ([40]:Bytes)).bind λ Ow =>
    if (!Ow.1)=true then
     some ((ab.mk 3 0 r1.1.Df ([]:Bytes) (ah.mk 0 0 ([]:Bytes) [] []) [] r1.1.fAt),Ow.2)
    else
     (dc n Ow.2).bind λ L8 =>
     ((fJ n) L8 ([41]:Bytes)).bind λ KW =>
     (bR n KW.2 ([41]:Bytes)).bind λ Ov =>
     some ((ab.mk 9 0 r1.1.Df ([]:Bytes) (ah.mk 0 0 ([]:Bytes) [] []) KW.1 r1.1.fAt),Ov)
def gr:Nat->ae->Option (ab×ae)
 | 0,_=>none
 | n+1,H7 =>
 (bN n H7).bind λ r1 =>
 if r1.1.Df=([40]:Bytes) then
  (dc n r1.2).bind λ r4 =>
  ((aF n) r4).bind λ r6 =>
  (bR n r6.2 ([41]:Bytes)).bind λ r8 =>
  some (r6.1,r8)
 else
  if r1.1.Df=([91]:Bytes) then
   (dc n r1.2).bind λ Jh =>
   (dd n Jh ([102,111,114]:Bytes)).bind λ KE =>
   if KE.1=true then
    ((eH n) KE.2 r1.1.fAt 12).bind λ Lg =>
    some (Lg.1,Lg.2)
   else
    ((fJ n) KE.2 ([93]:Bytes)).bind λ Jw =>
    (bR n Jw.2 ([93]:Bytes)).bind λ Jq =>
    some ((ab.mk 10 0 ([]:Bytes) ([]:Bytes) (ah.mk 0 0 ([]:Bytes) [] []) Jw.1 r1.1.fAt),Jq)
  else
   if r1.1.Df=([123]:Bytes) then
    (dc n r1.2).bind λ IOz =>
    (dd n IOz ([102,111,114]:Bytes)).bind λ Jm =>
    if Jm.1=true then
     ((eH n) Jm.2 r1.1.fAt 13).bind λ Jc =>
     some (Jc.1,Jc.2)
    else
     ((fo n) Jm.2).bind λ MF =>
     (bR n MF.2 ([125]:Bytes)).bind λ J1 =>
     some ((ab.mk 11 0 ([]:Bytes) ([]:Bytes) (ah.mk 0 0 ([]:Bytes) [] []) MF.1 r1.1.fAt),J1)
   else
    (bO r1.2 2 r1.1.fAt).bind λ It =>
    some (It.1,It.2)
def fJ:Nat->ae->Bytes->Option ((List ab)×ae)
 | 0,_,_=>none
 | n+1,H7,end_1 =>
 (de n (aF n) end_1 n [] H7.fl H7.fat H7.G' H7.Gw H7.AT.Ar H7.AT.fAt H7.AT.AI).bind λ Nn =>
 some (Nn.1,(ae.mk Nn.2.1 Nn.2.2.1 Nn.2.2.2.1 Nn.2.2.2.2.1 (ap.mk Nn.2.2.2.2.2.1 Nn.2.2.2.2.2.2.1 Nn.2.2.2.2.2.2.2)))
def eH:Nat->ae->Int->Int->Option (ab×ae)
 | 0,_,_,_=>none
 | n+1,H7,Ir,k_2 =>
 (aU n H7).bind λ r1 =>
 (ee n r1.2).bind λ r3 =>
 (
   (bu n r3.2 ([44]:Bytes)).bind λ r5 =>
   if r5.1=true then
    (aU n r5.2).bind λ r8 =>
    (ee n r8.2).bind λ Iu =>
    some (Iu.1,r3.1,Iu.2.fl,Iu.2.fat,Iu.2.G',Iu.2.Gw,Iu.2.AT.Ar,Iu.2.AT.fAt,Iu.2.AT.AI)
   else
    some (r3.1,([]:Bytes),r5.2.fl,r5.2.fat,r5.2.G',r5.2.Gw,r5.2.AT.Ar,r5.2.AT.fAt,r5.2.AT.AI)
  : Option (Bytes×Bytes×(List af)×Int×Int×Int×Int×Int×Bytes)).bind λ MW =>
 (dM n (ae.mk MW.2.2.1 MW.2.2.2.1 MW.2.2.2.2.1 MW.2.2.2.2.2.1 (ap.mk MW.2.2.2.2.2.2.1 MW.2.2.2.2.2.2.2.1 MW.2.2.2.2.2.2.2.2)) ([105,110]:Bytes)).bind λ Iq =>
 ((aF n) Iq).bind λ IOz =>
 ck ([IOz.1].length*160<=140737488355328) <|
 (cS n IOz.2 ([58]:Bytes)).bind λ JF =>
 ((aF n) JF).bind λ Jc =>
 ck (([IOz.1].length+[Jc.1].length)*160<=140737488355328) <|
 (
   if k_2=13 then
    (cS n Jc.2 ([61,62]:Bytes)).bind λ J1 =>
    ((aF n) J1).bind λ It =>
    ck ((([IOz.1]++[Jc.1]).length+[It.1].length)*160<=140737488355328) <|
    some (([125]:Bytes),([IOz.1]++[Jc.1])++[It.1],It.2.fl,It.2.fat,It.2.G',It.2.Gw,It.2.AT.Ar,It.2.AT.fAt,It.2.AT.AI)
   else
    some (([93]:Bytes),[IOz.1]++[Jc.1],Jc.2.fl,Jc.2.fat,Jc.2.G',Jc.2.Gw,Jc.2.AT.Ar,Jc.2.AT.fAt,Jc.2.AT.AI)
  : Option (Bytes×(List ab)×(List af)×Int×Int×Int×Int×Int×Bytes)).bind λ Ma =>
 (
   (dd n (ae.mk Ma.2.2.1 Ma.2.2.2.1 Ma.2.2.2.2.1 Ma.2.2.2.2.2.1 (ap.mk Ma.2.2.2.2.2.2.1 Ma.2.2.2.2.2.2.2.1 Ma.2.2.2.2.2.2.2.2)) ([105,102]:Bytes)).bind λ L3 =>
   if L3.1=true then
    (aU n L3.2).bind λ KV =>
    ((aF n) KV.2).bind λ Jn =>
    ck ((Ma.2.1.length+[Jn.1].length)*160<=140737488355328) <|
    some (Ma.2.1++[Jn.1],Jn.2.fl,Jn.2.fat,Jn.2.G',Jn.2.Gw,Jn.2.AT.Ar,Jn.2.AT.fAt,Jn.2.AT.AI)
   else
    some (Ma.2.1,L3.2.fl,L3.2.fat,L3.2.G',L3.2.Gw,L3.2.AT.Ar,L3.2.AT.fAt,L3.2.AT.AI)
  : Option ((List ab)×(List af)×Int×Int×Int×Int×Int×Bytes)).bind λ Np =>
 (bR n (ae.mk Np.2.1 Np.2.2.1 Np.2.2.2.1 Np.2.2.2.2.1 (ap.mk Np.2.2.2.2.2.1 Np.2.2.2.2.2.2.1 Np.2.2.2.2.2.2.2)) Ma.1).bind λ r62 =>
 some ((ab.mk k_2 0 MW.1 MW.2.1 (ah.mk 0 0 ([]:Bytes) [] []) Np.1 Ir),r62)
def fo:Nat->ae->Option ((List ab)×ae)
 | 0,_=>none
 | n+1,H7 =>
 (cI n (aF n) (dA n) n [] H7.fl H7.fat H7.G' H7.Gw H7.AT.Ar H7.AT.fAt H7.AT.AI).bind λ Kc =>
 some (Kc.1,(ae.mk Kc.2.1 Kc.2.2.1 Kc.2.2.2.1 Kc.2.2.2.2.1 (ap.mk Kc.2.2.2.2.2.1 Kc.2.2.2.2.2.2.1 Kc.2.2.2.2.2.2.2)))
def dA:Nat->ae->Option (ab×ae)
 | 0,_=>none
 | n+1,H7 =>
 (bN n H7).bind λ r1 =>
 if r1.1.Ar=1 then
  (aU n r1.2).bind λ r4 =>
  (gv (ah.mk 3 0 r1.1.Df [] []) r1.1.fAt).bind λ r6 =>
  some (r6,r4.2)
 else
  if r1.1.Ar=3 then
   ((eQ n) r1.2).bind λ r9 =>
   some (r9.1,r9.2)
  else
   (bu n r1.2 ([40]:Bytes)).bind λ Jh =>
   if Jh.1=true then
    (dc n Jh.2).bind λ Lb =>
    ((aF n) Lb).bind λ Lg =>
    (bR n Lg.2 ([41]:Bytes)).bind λ Jw =>
    some (Lg.1,Jw)
   else
    (bO Jh.2 2 r1.1.fAt).bind λ Jq =>
    some (Jq.1,Jq.2)
end
theorem qY (n:Nat):(∀ (H1:Bytes) (Ir:Int) (r:ab×ap),ir n H1 Ir=some r->aB Tryz.prog 115 [eS H1,eI Ir] (·=.tuple [.p (.agg (ab.cs r.1)),.p (.agg (ap.cs r.2))]))/\(∀ (H1:Bytes) (base_1:Int) (r:ab×ap),hQ n H1 base_1=some r->aB Tryz.prog 19 [eS H1,eI base_1] (·=.tuple [.p (.agg (ab.cs r.1)),.p (.agg (ap.cs r.2))]))/\(∀ (H3:al) (r:ap×al),fS n H3=some r->aV Tryz.prog 124 [.ptr 1000000 0] [(1000000,[.p (eS H3.fs),.p (eI H3.fat),.p (eI H3.fi),.p (eI H3.B'),.p (eS H3.C'),.vec 900000 11 0 (H3.BY.map ai),.p (eB H3.HS)])] (λ x y=>x=.p (.agg (ap.cs r.1))/\y=[(1000000,[.p (eS r.2.fs),.p (eI r.2.fat),.p (eI r.2.fi),.p (eI r.2.B'),.p (eS r.2.C'),.vec 2000000 11 0 (r.2.BY.map ai),.p (eB r.2.HS)])]))/\(∀ (H7:ae) (r:ab×ae),aF n H7=some r->aV Tryz.prog 30 [.ptr 1000000 0] [(1000000,((ae.cs H7).map .p))] (λ x y=>x=.p (.agg (ab.cs r.1))/\y=[(1000000,((ae.cs r.2).map .p))]))/\(∀ (H3:al) (r:ap×al),aR n H3=some r->aV Tryz.prog 137 [.ptr 1000000 0] [(1000000,[.p (eS H3.fs),.p (eI H3.fat),.p (eI H3.fi),.p (eI H3.B'),.p (eS H3.C'),.vec 900000 11 0 (H3.BY.map ai),.p (eB H3.HS)])] (λ x y=>x=.p (.agg (ap.cs r.1))/\y=[(1000000,[.p (eS r.2.fs),.p (eI r.2.fat),.p (eI r.2.fi),.p (eI r.2.B'),.p (eS r.2.C'),.vec 2000000 11 0 (r.2.BY.map ai),.p (eB r.2.HS)])]))/\(∀ (H7:ae) (H5:Int) (r:ab×ae),bw n H7 H5=some r->aV Tryz.prog 42 [.ptr 1000000 0,.p (eI H5)] [(1000000,((ae.cs H7).map .p))] (λ x y=>x=.p (.agg (ab.cs r.1))/\y=[(1000000,((ae.cs r.2).map .p))]))/\(∀ (H7:ae) (r:ab×ae),du n H7=some r->aV Tryz.prog 62 [.ptr 1000000 0] [(1000000,((ae.cs H7).map .p))] (λ x y=>x=.p (.agg (ab.cs r.1))/\y=[(1000000,((ae.cs r.2).map .p))]))/\(∀ (H7:ae) (r:ab×ae),dN n H7=some r->aV Tryz.prog 80 [.ptr 1000000 0] [(1000000,((ae.cs H7).map .p))] (λ x y=>x=.p (.agg (ab.cs r.1))/\y=[(1000000,((ae.cs r.2).map .p))]))/\(∀ (H7:ae) (r:ab×ae),dj n H7=some r->aV Tryz.prog 91 [.ptr 1000000 0] [(1000000,((ae.cs H7).map .p))] (λ x y=>x=.p (.agg (ab.cs r.1))/\y=[(1000000,((ae.cs r.2).map .p))]))/\(∀ (H7:ae) (r:ab×ae),eQ n H7=some r->aV Tryz.prog 106 [.ptr 1000000 0] [(1000000,((ae.cs H7).map .p))] (λ x y=>x=.p (.agg (ab.cs r.1))/\y=[(1000000,((ae.cs r.2).map .p))]))/\(∀ (H7:ae) (r:ab×ae),fH n H7=some r->aV Tryz.prog 107 [.ptr 1000000 0] [(1000000,((ae.cs H7).map .p))] (λ x y=>x=.p (.agg (ab.cs r.1))/\y=[(1000000,((ae.cs r.2).map .p))]))/\(∀ (H7:ae) (r:ab×ae),gr n H7=some r->aV Tryz.prog 108 [.ptr 1000000 0] [(1000000,((ae.cs H7).map .p))] (λ x y=>x=.p (.agg (ab.cs r.1))/\y=[(1000000,((ae.cs r.2).map .p))]))/\(∀ (H7:ae) (end_1:Bytes) (r:(List ab)×ae),fJ n H7 end_1=some r->aV Tryz.prog 116 [.ptr 1000000 0,.p (eS end_1)] [(1000000,((ae.cs H7).map .p))] (λ x y=>x=.p (eL ai r.1)/\y=[(1000000,((ae.cs r.2).map .p))]))/\(∀ (H7:ae) (Ir:Int) (k_2:Int) (r:ab×ae),eH n H7 Ir k_2=some r->aV Tryz.prog 118 [.ptr 1000000 0,.p (eI Ir),.p (eI k_2)] [(1000000,((ae.cs H7).map .p))] (λ x y=>x=.p (.agg (ab.cs r.1))/\y=[(1000000,((ae.cs r.2).map .p))]))/\(∀ (H7:ae) (r:(List ab)×ae),fo n H7=some r->aV Tryz.prog 119 [.ptr 1000000 0] [(1000000,((ae.cs H7).map .p))] (λ x y=>x=.p (eL ai r.1)/\y=[(1000000,((ae.cs r.2).map .p))]))/\(∀ (H7:ae) (r:ab×ae),dA n H7=some r->aV Tryz.prog 128 [.ptr 1000000 0] [(1000000,((ae.cs H7).map .p))] (λ x y=>x=.p (.agg (ab.cs r.1))/\y=[(1000000,((ae.cs r.2).map .p))])):=by
 induction n with
 | zero=>exact ⟨(by intro H1 Ir r h0; cases h0),(by intro H1 base_1 r h0; cases h0),(by intro H3 r h0; cases h0),(by intro H7 r h0; cases h0),(by intro H3 r h0; cases h0),(by intro H7 H5 r h0; cases h0),(by intro H7 r h0; cases h0),(by intro H7 r h0; cases h0),(by intro H7 r h0; cases h0),(by intro H7 r h0; cases h0),(by intro H7 r h0; cases h0),(by intro H7 r h0; cases h0),(by intro H7 end_1 r h0; cases h0),(by intro H7 Ir k_2 r h0; cases h0),(by intro H7 r h0; cases h0),(by intro H7 r h0; cases h0)⟩
 | succ n ih =>
 obtain ⟨Jy,Is,Jd,H',IM,Ix,IK,I8,I7,IP,Jj,I4,IR,IQ,I9,Jp⟩:=ih;refine ⟨?_,?_,?_,?_,?_,?_,?_,?_,?_,?_,?_,?_,?_,?_,?_,?_⟩
 ·skip
  intro H1 Ir r h0;rw [ir] at h0;refine bm good Tryz.func115 Z Z Z λ w0=>mP (λ v:ab×ap=>.tuple [.p (.agg (ab.cs v.1)),.p (.agg (ap.cs v.2))]) ?_;refine nx 16 rfl (bd h0 λ r1 e2 h0=>?_);refine mO rfl (bn [12] [890000] 101000 101001 (Jd (al.mk H1 Ir 0 0 ([]:Bytes) [] false) _ e2) Z Z Z Z Z ⟨sr,trivial⟩ Z Z ⟨⟨_,rfl,⟨sr,sr,sr,sr,sr,AV.sub_nilvec _ _ _,sr,trivial⟩⟩,trivial⟩ Z Z Z Z Z Z Z Z Tryz.call124 Z Z ?_);refine nx 10 rfl (fN [17] h0 rfl (λ c3 h0=>?_) λ c3 h0=>?_)
  ·refine nx 10 Z (bd h0 λ r4 e5 h0=>?_);refine oK (fg (ah.mk 3 0 r1.2.C' [] []) Ir _ e5) Z ⟨cR ⟨.inl Z,.inl Z,.inl Z,.inr ⟨Z,Z⟩,.inr ⟨Z,Z⟩,trivial⟩,sr,trivial⟩ Tryz.call105 Z (nx 4 Z ?_);refine bd h0 λ IV h1 h0=>kN IV (λ Ji=>⟨[(4,.ptr 4 0),(5,.ptr 5 0),(7,.ptr 7 0),(8,.ptr 8 0)],[(4,bv),(5,cz),(7,(ap.cs r1.1).map .p),(8,[.p (eI Ji.1),.p (eI Ji.2.1),.p (eS Ji.2.2.1),.p (eS Ji.2.2.2.1),.p (eI Ji.2.2.2.2.1),.p (eI Ji.2.2.2.2.2.1),.p (eS Ji.2.2.2.2.2.2.1),.p (eL dv Ji.2.2.2.2.2.2.2.1),.p (eL eS Ji.2.2.2.2.2.2.2.2.1),.p (eL ai Ji.2.2.2.2.2.2.2.2.2.1),.p (eI Ji.2.2.2.2.2.2.2.2.2.2)])]⟩) ?_ ?_
   ·refine nx 5 Z (bd h0 λ Jq Ll h0=>?_);refine oK (pA _ (ab.mk IV.1 IV.2.1 IV.2.2.1 IV.2.2.2.1 (ah.mk IV.2.2.2.2.1 IV.2.2.2.2.2.1 IV.2.2.2.2.2.2.1 IV.2.2.2.2.2.2.2.1 IV.2.2.2.2.2.2.2.2.1) IV.2.2.2.2.2.2.2.2.2.1 IV.2.2.2.2.2.2.2.2.2.2) r1.1 _ Ll) Z ⟨sr,sr,trivial⟩ Tryz.call20 Z (nx 6 Z ?_);exact mQ (oi h0) Z (ax ⟨sr,sr,trivial⟩)
   refine nx 7 Z (fB [30] h1 Z (λ c6 h1=>?_) λ c6 h1=>?_)
   ·refine nx 4 Z (bd h1 λ r7 e8 h1=>?_);refine mO Z (cVq [12] [101000] 102000 102001 (kc (al.mk r1.2.fs r1.2.fat r1.2.fi r1.2.B' r1.2.C' r1.2.BY r1.2.HS) _ e8) Tryz.call125 Z ?_);exact nx 10 Z (eX _ (oi h1).symm (cK (iF ⟨er Z,er Z,er Z,er Z,trivial⟩ ⟨⟨_,Z,⟨sr,sr,sr,sr,sr,sr,sr,sr,sr,sr,sr,trivial⟩⟩,⟨_,Z,⟨sr,sr,sr,trivial⟩⟩,⟨_,Z,⟨sr,sr,sr,trivial⟩⟩,⟨_,Z,⟨sr,sr,sr,sr,sr,sr,sr,fT _,fT _,AV.sub_vec _ _ _ _,sr,trivial⟩⟩,trivial⟩)))
   exact nx 2 Z (eX _ (oi h1).symm (gE Z Z))
  refine nx 2 Z (mG (gE (t:=⟨[(4,.ptr 4 0),(5,.ptr 5 0),(7,.ptr 7 0)],[(4,bv),(5,cz),(7,(ap.cs r1.1).map .p)]⟩) Z Z) ?_);refine mSq ⟨2,[2,3],(λ _=>.none),(λ _=>[(4,.ptr 4 0),(5,.ptr 5 0),(7,.ptr 7 0)]),(ob3 ([(4,bv),(5,cz),(7,((ap.cs r1.1).map .p))]) (4,bv) (5,((ap.cs r1.1).map .p)))⟩ Z (dPc (.p (.agg ol)) Z ?_);refine dPc (.p (.agg (ap.cs r1.1))) Z (dS Z ?_);refine dS Z (dF ?_);exact nx 2 Z (mQ (oi h0) Z (ax ⟨cR ⟨.inl Z,.inl Z,.inl Z,.inl Z,.inl Z,.inl Z,.inl Z,.inr ⟨Z,Z⟩,.inr ⟨Z,Z⟩,.inr ⟨Z,Z⟩,.inl Z,trivial⟩,sr,trivial⟩))
 ·skip
  intro H1 base_1 r h0;rw [hQ] at h0;refine bm good Tryz.func19 Z Z Z λ w0=>mP (λ v:ab×ap=>.tuple [.p (.agg (ab.cs v.1)),.p (.agg (ap.cs v.2))]) ?_;refine nx 8 rfl (bd h0 λ r1 e2 h0=>?_);refine oK (uP _ H1 _ e2) rfl ⟨sr,trivial⟩ Tryz.call29 rfl (nx 14 rfl ?_);refine fN [18] h0 rfl (λ c3 h0=>?_) λ c3 h0=>?_
  ·refine nx 13 Z (bd h0 λ r5 e6 h0=>?_);refine mO Z (cVq [30] [] 101000 101000 (H' (ae.mk r1.1 0 1 base_1 (ap.mk 0 0 ([]:Bytes))) _ e6) Tryz.call30 Z ?_);refine nx 4 Z (bd h0 λ Kj h1 h0=>?_);refine kN Kj (λ v21=>⟨[(4,.ptr 4 0),(5,.ptr 5 0),(8,.ptr 30 0),(9,.ptr 9 0)],[(4,bv),(5,cz),(9,(ab.cs r5.1).map .p),(30,[.p (eL bM v21.1),.p (eI v21.2.1),.p (eI v21.2.2.1),.p (eI v21.2.2.2.1),.p (eI v21.2.2.2.2.1),.p (eI v21.2.2.2.2.2.1),.p (eS v21.2.2.2.2.2.2)])]⟩) ?_ ?_
   ·refine nx 2 Z (mG (gE (t:=⟨[(4,.ptr 4 0),(5,.ptr 5 0),(8,.ptr 30 0),(9,.ptr 9 0)],[(4,bv),(5,cz),(9,(ab.cs r5.1).map .p),(30,[.p (eL bM Kj.1),.p (eI Kj.2.1),.p (eI Kj.2.2.1),.p (eI Kj.2.2.2.1),.p (eI Kj.2.2.2.2.1),.p (eI Kj.2.2.2.2.2.1),.p (eS Kj.2.2.2.2.2.2)])]⟩) Z Z) ?_);refine mSq ⟨2,[5,6],(λ _=>.none),(λ _=>[(4,.ptr 4 0),(5,.ptr 5 0),(8,.ptr 30 0),(9,.ptr 9 0)]),(ob3 ([(4,bv),(5,cz),(9,((ab.cs r5.1).map .p)),(30,[.p (eL bM Kj.1),.p (eI Kj.2.1),.p (eI Kj.2.2.1),.p (eI Kj.2.2.2.1),.p (eI Kj.2.2.2.2.1),.p (eI Kj.2.2.2.2.2.1),.p (eS Kj.2.2.2.2.2.2)])]) (4,((ab.cs r5.1).map .p)) (5,[.p (eI Kj.2.2.2.2.1),.p (eI Kj.2.2.2.2.2.1),.p (eS Kj.2.2.2.2.2.2)]))⟩ Z (dPc (.p (.agg (ab.cs r5.1))) Z ?_);refine dPc (.ptr 30 0) Z (dPc (.ptr 30 0) Z ?_);refine dPc (.ptr 30 4) Z (dPc (.p (.agg [eI Kj.2.2.2.2.1,eI Kj.2.2.2.2.2.1,eS Kj.2.2.2.2.2.2])) Z ?_);refine dS Z (dS Z ?_);refine dF (nx 2 Z ?_);exact mQ (oi h0) Z (ax ⟨sr,sr,trivial⟩)
   refine nx 3 Z (bd h1 λ r7 e8 h1=>?_);refine mO Z (cVq [30] [] 102000 102000 (bS _ r5.2 _ e8) Tryz.call31 Z ?_);refine nx 9 Z (fN [37] h1 Z (λ c9 h1=>?_) λ c9 h1=>?_)
   ·exact nx 2 Z (eX _ (oi h1).symm (gE Z Z))
   refine nx 5 Z (bd h1 λ Iu JM h1=>?_);refine mO Z (cVq [30] [] 103000 103000 (cp r7.2 2 r7.1.fAt _ JM) Tryz.call32 Z ?_);exact nx 1 Z (eX _ (oi h1).symm (gE Z Z))
  refine nx 2 Z (cc' h0 λ Ml h0=>?_);refine mG (gE (t:=⟨[(1,.p (eI base_1)),(4,.ptr 4 0),(5,.ptr 5 0),(7,.ptr 7 0)],[(4,bv),(5,cz),(7,(ap.cs r1.2).map .p)]⟩) Z Z) (mSq ⟨2,[8,9],(λ _=>.none),(λ _=>[(1,.p (eI base_1)),(4,.ptr 4 0),(5,.ptr 5 0),(7,.ptr 7 0)]),(ob3 ([(4,bv),(5,cz),(7,((ap.cs r1.2).map .p))]) (4,bv) (5,[.p (eI r1.2.Ar),.p (eI (base_1+r1.2.fAt)),.p (eS ([]:Bytes))]))⟩ Z ?_);refine dPc (.p (.agg ol)) Z (dPc (.ptr 7 0) Z ?_);refine dPc (.p (eI r1.2.Ar)) Z (dPc (.p (eI base_1)) Z ?_);refine dPc (.ptr 7 1) Z (dPc (.p (eI r1.2.fAt)) Z ?_);refine aG (λ _=>.p (eI (base_1+r1.2.fAt))) Z Z Z (gx Z Z Y) (lt2 Z Z) (aA Z (au [(22,_),(24,_)] ⟨.inr ⟨3,_,Z,Z,Z⟩,.inr ⟨5,_,Z,Z,Z⟩,trivial⟩ (λ sl H2 K hK=>aj Z (dV Z Z Z (H2 _ _ Z) (H2 _ _ Z) Z Ml hK)) (au [(22,_),(24,_)] ⟨.inr ⟨3,_,Z,Z,Z⟩,.inr ⟨5,_,Z,Z,Z⟩,trivial⟩ (λ sl H2 K hK=>aj Z (dV Z Z Z (H2 _ _ Z) (H2 _ _ Z) Z Ml hK)) aE))) (dPc (.p (.agg [eI r1.2.Ar,eI (base_1+r1.2.fAt),eS ([]:Bytes)])) Z ?_);refine dS Z (dS Z ?_);refine dF (nx 2 Z ?_);exact mQ (oi h0) Z (ax ⟨cR ⟨.inl Z,.inl Z,.inl Z,.inl Z,.inl Z,.inl Z,.inl Z,.inr ⟨Z,Z⟩,.inr ⟨Z,Z⟩,.inr ⟨Z,Z⟩,.inl Z,trivial⟩,sr,trivial⟩)
 ·skip
  intro H3 r h0;rw [fS] at h0;refine cr good [800000] [1000000] Tryz.func124 Z Z Z Z Z λ w0 F=>mPo (λ v:ap×al=>.p (.agg (ap.cs v.1))) (λ v=>[(1000000,[.p (eS v.2.fs),.p (eI v.2.fat),.p (eI v.2.fi),.p (eI v.2.B'),.p (eS v.2.C'),.vec 2000000 11 0 (v.2.BY.map ai),.p (eB v.2.HS)])]) ?_;refine nx 6 rfl ?_;obtain ⟨o85,h1,IS,hR0⟩:=db h0;refine kEx 0 (λ LK:Bytes×Int×Int×Int×Bytes×(List ab)×Bool=>o85=.inl LK) (λ LK=>⟨[(2,.ptr 2 0)],[(2,cz),(1000000,[.p (eS LK.1),.p (eI LK.2.1),.p (eI LK.2.2.1),.p (eI LK.2.2.2.1),.p (eS LK.2.2.2.2.1),.vec 900000 11 0 (LK.2.2.2.2.2.1.map ai),.p (eB LK.2.2.2.2.2.2)])]⟩) (λ LK hv=>?_) ?_
  ·have h0:=IS _ hv;exact nx 7 Z (mQo (oi h0) (aQ (bB 900000 800000 Z Z Z Z Z) (ay _)) Z Z Z Z (sr) ⟨⟨_,Z,⟨sr,sr,sr,sr,sr,sr,sr,trivial⟩⟩,trivial⟩)
  refine lG (λ (Kc:Bytes×Int×Int×Int×Bytes×(List ab)×Bool)=>⟨[(0,.ptr 1000000 0),(2,.ptr 2 0)],[(2,cz),(1000000,[.p (eS Kc.1),.p (eI Kc.2.1),.p (eI Kc.2.2.1),.p (eI Kc.2.2.2.1),.p (eS Kc.2.2.2.2.1),.vec 900000 11 0 (Kc.2.2.2.2.2.1.map ai),.p (eB Kc.2.2.2.2.2.2)])]⟩) (λ m (Kc:Bytes×Int×Int×Int×Bytes×(List ab)×Bool)=>cb n (aR n) m Kc.1 Kc.2.1 Kc.2.2.1 Kc.2.2.2.1 Kc.2.2.2.2.1 Kc.2.2.2.2.2.1 Kc.2.2.2.2.2.2) Y (H3.fs,H3.fat,H3.fi,H3.B',H3.C',H3.BY,H3.HS) h1 (gE rfl rfl) ?_;rintro m ⟨JI,JH,Jf,Jz,JU,JG,JV⟩ h1;replace h1:cb n (aR n) (m+1) JI JH Jf Jz JU JG JV=some o85:=h1;rw [cb] at h1;refine nx 2 rfl (mD [(0,.ptr 1000000 0),(2,.ptr 2 0)] rfl ⟨rfl,rfl,trivial⟩ rfl ?_);refine dR 8 rfl (dq (.p (eI (JI.length:Int))) [12] rfl (λ _ e _ q=>aj rfl (qO rfl rfl rfl rfl rfl (e _ _ rfl) q)) rfl ?_);refine dR 1 rfl (dE rfl ?_);refine nx 1 rfl (fD [14] h1 rfl (λ Pb h1=>?_) λ Pb h1=>?_)
  ·refine nx 9 Z (cc' h1 λ hk43 h1=>?_);refine mD [(0,.ptr 1000000 0),(2,.ptr 2 0),(3,.ptr 3 0)] Z ⟨Z,Z,Z,trivial⟩ Z (dR 8 Z ?_);refine dq (.p (eS (sub JI Jf (JI.length:Int)))) [18,22] Z (λ _ e _ q=>aj Z (dQ (a:=JI) (l:=Jf) (h:=(JI.length:Int)) Z Z Z Z Z (e _ _ Z) (gG (e _ _ Z)) Z hk43 q)) Z (dR 1 Z ?_);refine dE Z (nx 1 Z ?_);refine bd h1 λ Nr h2 h1=>kN Nr (λ MD=>⟨[(0,.ptr 1000000 0),(2,.ptr 2 0),(3,.ptr 3 0)],[(2,cz),(3,[.p (eI MD.1),.p (eI MD.2.1),.p (eS MD.2.2.1)]),(1000000,[.p (eS MD.2.2.2.1),.p (eI MD.2.2.2.2.1),.p (eI MD.2.2.2.2.2.1),.p (eI MD.2.2.2.2.2.2.1),.p (eS MD.2.2.2.2.2.2.2.1),.vec 106000 11 0 (MD.2.2.2.2.2.2.2.2.1.map ai),.p (eB MD.2.2.2.2.2.2.2.2.2)])]⟩) ?_ ?_
   ·refine nx 7 Z (fN [52] h1 Z (λ c68 h1=>?_) λ c68 h1=>?_)
    ·exact nx 2 Z (eX (Nr.2.2.2.1,Nr.2.2.2.2.1,Nr.2.2.2.2.2.1,Nr.2.2.2.2.2.2.1,Nr.2.2.2.2.2.2.2.1,Nr.2.2.2.2.2.2.2.2.1,Nr.2.2.2.2.2.2.2.2.2) h1 (aQ (bB 106000 900000 Z Z Z Z Z) (gE Z Z)))
    exact nx 7 Z (mQo (hR0 _ (oi h1).symm) (aQ (bB 106000 800000 Z Z Z Z Z) (ay _)) Z Z Z Z (sr) ⟨⟨_,Z,⟨sr,sr,sr,sr,sr,sr,sr,trivial⟩⟩,trivial⟩)
   refine nx 4 Z (bd h2 λ Lo NU h2=>?_);refine oK (cV (sub JI Jf (JI.length:Int)) ([36,36,123]:Bytes) _ NU) Z ⟨sr,sr,trivial⟩ Tryz.call76 Z (nx 2 Z ?_);refine fB [26,28] h2 Z (λ c46 h2=>?_) λ c46 h2=>?_
   ·refine nx 7 Z (oC h2 Z λ OU h2=>?_);refine nx 10 Z (oA h2 Z Z λ NJ h2=>?_);refine nx 4 Z (mG (gE (t:=⟨[(0,.ptr 1000000 0),(2,.ptr 2 0),(3,.ptr 3 0)],[(2,cz),(3,cz),(1000000,[.p (eS JI),.p (eI JH),.p (eI (Jf+3)),.p (eI Jz),.p (eS (JU++([36,123]:Bytes))),.vec 900000 11 0 (JG.map ai),.p (eB JV)])]⟩) Z Z) ?_);refine nx 2 Z (bd h2 λ KV e50 h2=>?_);refine mO Z (cVq [1000000] [900000] 104000 104001 (kq (al.mk JI JH (Jf+3) Jz (JU++([36,123]:Bytes)) JG JV) _ e50) Tryz.call136 Z ?_);exact nx 2 Z (eX _ (oi h2).symm (aQ (bB 104000 106000 Z Z Z Z Z) (gE Z Z)))
   refine nx 4 Z (bd h2 λ Jn O2 h2=>?_);refine oK (cV (sub JI Jf (JI.length:Int)) ([36,123]:Bytes) _ O2) Z ⟨sr,sr,trivial⟩ Tryz.call76 Z (nx 2 Z ?_);refine fB [45,47] h2 Z (λ c53 h2=>?_) λ c53 h2=>?_
   ·refine nx 3 Z (bd h2 λ La e55 h2=>?_);refine mO Z (cVq [1000000] [900000] 105000 105001 (IM (al.mk JI JH Jf Jz JU JG JV) _ e55) Tryz.call137 Z ?_);exact nx 2 Z (eX _ (oi h2).symm (aQ (bB 105000 106000 Z Z Z Z Z) (gE Z Z)))
   refine nx 3 Z (bd h2 λ Kh e57 h2=>?_);refine mO Z (cVq [1000000] [900000] 106000 106001 (oZ _ (al.mk JI JH Jf Jz JU JG JV) _ e57) Tryz.call138 Z ?_);exact nx 2 Z (eX _ (oi h2).symm (gE Z Z))
  exact nx 2 Z (eXi _ (oi h1).symm (gE Z Z))
 ·skip
  intro H7 r h0;rw [aF] at h0;refine cr good [] [1000000] Tryz.func30 Z Z Z Z Z λ w0 F=>mPo (λ v:ab×ae=>.p (.agg (ab.cs v.1))) (λ v=>[(1000000,((ae.cs v.2).map .p))]) ?_;refine nx 7 rfl (bd h0 λ r1 e2 h0=>?_);refine mO rfl (cVq [1000000] [] 101000 101000 (Ix H7 0 _ e2) Tryz.call42 rfl ?_);refine nx 7 rfl (bd h0 λ r3 e4 h0=>?_);refine mO rfl (cVq [1000000] [] 102000 102000 (bK _ r1.2 ([63]:Bytes) _ e4) Tryz.call43 rfl ?_);refine nx 2 rfl (fB [10] h0 rfl (λ c5 h0=>?_) λ c5 h0=>?_)
  ·exact nx 7 Z (iy h0 Z)
  refine nx 5 Z (bd h0 λ r6 e7 h0=>?_);refine mO Z (cVq [1000000] [] 103000 103000 (aX _ r3.2 _ e7) Tryz.call44 Z ?_);refine nx 4 Z (bd h0 λ r8 e9 h0=>?_);refine mO Z (cVq [1000000] [] 104000 104000 (H' r6.2 _ e9) Tryz.call30 Z ?_);refine nx 6 Z (bd h0 λ Iu JM h0=>?_);refine mO Z (cVq [1000000] [] 105000 105000 (fh _ r8.2 ([58]:Bytes) _ JM) Tryz.call45 Z ?_);refine nx 4 Z (bd h0 λ IN Lr h0=>?_);refine mO Z (cVq [1000000] [] 106000 106000 (H' Iu _ Lr) Tryz.call30 Z ?_);refine nx 8 Z (mO Z (bF ai [r1.1,r8.1,IN.1] Z Z Z Z Z Z Z Z Z Z Z Z Z (by first | rfl | (simp only [bx,ld,ab.HR]; done) | (simp only [bx,ld,ab.HR]; rfl)) ?_));exact nx 6 Z (mQo (oi h0) (ay _) Z Z Z Z (cR ⟨.inl Z,.inl Z,.inl Z,.inl Z,.inl Z,.inl Z,.inl Z,.inr ⟨Z,Z⟩,.inr ⟨Z,Z⟩,.inl Z,.inl Z,trivial⟩) ⟨⟨_,Z,⟨sr,sr,sr,sr,sr,sr,sr,trivial⟩⟩,trivial⟩)
 ·skip
  intro H3 r h0;rw [aR] at h0;refine cr good [800000] [1000000] Tryz.func137 Z Z Z Z Z λ w0 F=>mPo (λ v:ap×al=>.p (.agg (ap.cs v.1))) (λ v=>[(1000000,[.p (eS v.2.fs),.p (eI v.2.fat),.p (eI v.2.fi),.p (eI v.2.B'),.p (eS v.2.C'),.vec 2000000 11 0 (v.2.BY.map ai),.p (eB v.2.HS)])]) ?_;refine nx 7 rfl (bd h0 λ r1 e2 h0=>?_);refine mO rfl (cVq [1000000] [900000] 101000 101001 (kc (al.mk H3.fs H3.fat H3.fi H3.B' H3.C' H3.BY H3.HS) _ e2) Tryz.call125 rfl ?_);refine nx 9 rfl (cc' h0 λ Lz h0=>?_);refine bd h0 λ r4 e5 h0=>mD [(0,.ptr 1000000 0),(2,.ptr 2 0)] rfl ⟨rfl,rfl,trivial⟩ rfl (dR 8 rfl ?_);refine dq (.p (eI (r1.fi+2))) [18] rfl (λ _ e _ q=>aj rfl (dV Z Z Z (e _ _ rfl) Z Z Lz q)) rfl (dq (.p (eI r4)) [14,19] rfl (λ _ e _ q=>aj rfl (fj (sR _ r1.fs (r1.fi+2) _ e5) Z Z Z (bo (e _ _ rfl) (bo (e _ _ rfl) cX)) ⟨sr,sr,trivial⟩ Tryz.call145 rfl q)) rfl ?_);refine dR 1 rfl (dE rfl ?_);refine nx 7 rfl (fD [22] h0 rfl (λ c6 h0=>?_) λ c6 h0=>?_)
  ·refine nx 2 Z (cc' h0 λ Oa h0=>?_);refine mG (gE (t:=⟨[(0,.ptr 1000000 0),(2,.ptr 2 0)],[(2,cz),(1000000,[.p (eS r1.fs),.p (eI r1.fat),.p (eI r1.fi),.p (eI r1.B'),.p (eS r1.C'),.vec 101000 11 0 (r1.BY.map ai),.p (eB true)])]⟩) Z Z) (mSq ⟨1,[10],(λ _=>.none),(λ _=>[(0,.ptr 1000000 0),(2,.ptr 2 0)]),(ob2 ([(2,cz),(1000000,[.p (eS r1.fs),.p (eI r1.fat),.p (eI r1.fi),.p (eI r1.B'),.p (eS r1.C'),.vec 101000 11 0 (r1.BY.map ai),.p (eB true)])]) (2,[.p (eI 40),.p (eI (r1.fat+r1.fi)),.p (eS ([]:Bytes))]))⟩ Z ?_);refine dPc (.ptr 1000000 0) Z (dPc (.ptr 1000000 0) Z ?_);refine dPc (.ptr 1000000 1) Z (dPc (.p (eI r1.fat)) Z ?_);refine dPc (.ptr 1000000 0) Z (dPc (.ptr 1000000 0) Z ?_);refine dPc (.ptr 1000000 2) Z (dPc (.p (eI r1.fi)) Z ?_);refine aG (λ _=>.p (eI (r1.fat+r1.fi))) Z Z Z (ip Z Y) (lt1 Z) (aA Z (au [(26,_),(30,_)] ⟨.inr ⟨3,_,Z,Z,Z⟩,.inr ⟨7,_,Z,Z,Z⟩,trivial⟩ (λ sl H2 K hK=>aj Z (dV Z Z Z (H2 _ _ Z) (H2 _ _ Z) Z Oa hK)) aE)) (dPc (.p (.agg [eI 40,eI (r1.fat+r1.fi),eS ([]:Bytes)])) Z ?_);refine dS Z (dF ?_);exact nx 2 Z (mQo (oi h0) (aQ (bB 101000 800000 Z Z Z Z Z) (ay _)) Z Z Z Z (sr) ⟨⟨_,Z,⟨sr,sr,sr,sr,sr,sr,sr,trivial⟩⟩,trivial⟩)
  refine nx 3 Z (cc' h0 λ Mh h0=>?_);refine cc' h0 λ Lq h0=>cc' h0 λ JL h0=>cc' h0 λ J8 h0=>bd h0 λ IN Lr h0=>mG (gE (t:=⟨[(0,.ptr 1000000 0),(2,.ptr 2 0),(3,.p (eI r4))],[(2,cz),(1000000,[.p (eS r1.fs),.p (eI r1.fat),.p (eI r1.fi),.p (eI r1.B'),.p (eS r1.C'),.vec 101000 11 0 (r1.BY.map ai),.p (eB true)])]⟩) Z Z) (mSS ⟨4,[25,26,27,28],(by5 (.some λ i=>Nat.beq i 4) (.some λ i=>Nat.beq i 5) .none .none .none),(λ _=>[(0,.ptr 1000000 0),(2,.ptr 2 0),(3,.p (eI r4))]),(ob5 ([(2,cz),(1000000,[.p (eS r1.fs),.p (eI r1.fat),.p (eI r1.fi),.p (eI r1.B'),.p (eS r1.C'),.vec 101000 11 0 (r1.BY.map ai),.p (eB true)])]) (4,bv) (5,cz) (4,((ab.cs IN.1).map .p)) (5,((ap.cs IN.2).map .p)))⟩ ⟨4,[26,25,27,28],(by5 (.some λ i=>Nat.beq i 5) (.some λ i=>Nat.beq i 4) .none .none .none),(λ _=>[(0,.ptr 1000000 0),(2,.ptr 2 0),(3,.p (eI r4))]),(ob5 ([(2,cz),(1000000,[.p (eS r1.fs),.p (eI r1.fat),.p (eI r1.fi),.p (eI r1.B'),.p (eS r1.C'),.vec 101000 11 0 (r1.BY.map ai),.p (eB true)])]) (5,cz) (4,bv) (4,((ab.cs IN.1).map .p)) (5,((ap.cs IN.2).map .p)))⟩ Z Z Z Z Z Z Z ⟨Z,Z,Z,trivial⟩ Z (lt4 ⟨Z,Z,Z,trivial⟩ ⟨Z,Z,Z,trivial⟩ ⟨Z,Z,Z,trivial⟩ ⟨Z,Z,Z,trivial⟩) (lt4 ⟨Z,Z,Z,trivial⟩ ⟨Z,Z,Z,trivial⟩ ⟨Z,Z,Z,trivial⟩ ⟨Z,Z,Z,trivial⟩) Z Z Z Z Z ?_);refine dPc (.ptr 1000000 0) Z (dPc (.ptr 1000000 0) Z ?_);refine dPc (.ptr 1000000 0) Z (dPc (.p (eS r1.fs)) Z ?_);refine dPc (.ptr 1000000 0) Z (dPc (.ptr 1000000 0) Z ?_);refine dPc (.ptr 1000000 2) Z (dPc (.p (eI r1.fi)) Z ?_);refine aG (λ _=>.p (eI (r1.fi+2))) Z Z Z (uQ Z Z Z Z Y) (lt4 Z Z Z Z) (aA Z (aA Z (au [(41,_)] ⟨.inr ⟨7,_,Z,Z,Z⟩,trivial⟩ (λ sl H2 K hK=>aj Z (dV Z Z Z (H2 _ _ Z) Z Z Mh hK)) (au [(41,_)] ⟨.inr ⟨7,_,Z,Z,Z⟩,trivial⟩ (λ sl H2 K hK=>aj Z (dV Z Z Z (H2 _ _ Z) Z Z Mh hK)) (au [(41,_)] ⟨.inr ⟨7,_,Z,Z,Z⟩,trivial⟩ (λ sl H2 K hK=>aj Z (dV Z Z Z (H2 _ _ Z) Z Z Mh hK)) aE))))) (dPc (.p (eI r4)) Z ?_);refine aG (λ _=>.p (eS (sub r1.fs (r1.fi+2) r4))) Z Z Z (uQ Z Z Z Z Y) (lt4 Z Z Z Z) (aA Z (aA Z (au [(37,_),(42,_),(43,_)] ⟨.inr ⟨3,_,Z,Z,Z⟩,.inr ⟨8,_,Z,Z,Z⟩,.inr ⟨9,_,Z,Z,Z⟩,trivial⟩ (λ sl H2 K hK=>aj Z (dQ (a:=r1.fs) (l:=r1.fi+2) (h:=r4) Z Z Z Z Z (H2 _ _ Z) (gG (H2 _ _ Z)) (lY (H2 _ _ Z)) Lq hK)) (au [(37,_),(42,_),(43,_)] ⟨.inr ⟨3,_,Z,Z,Z⟩,.inr ⟨8,_,Z,Z,Z⟩,.inr ⟨9,_,Z,Z,Z⟩,trivial⟩ (λ sl H2 K hK=>aj Z (dQ (a:=r1.fs) (l:=r1.fi+2) (h:=r4) Z Z Z Z Z (H2 _ _ Z) (gG (H2 _ _ Z)) (lY (H2 _ _ Z)) Lq hK)) (au [(37,_),(42,_),(43,_)] ⟨.inr ⟨3,_,Z,Z,Z⟩,.inr ⟨8,_,Z,Z,Z⟩,.inr ⟨9,_,Z,Z,Z⟩,trivial⟩ (λ sl H2 K hK=>aj Z (dQ (a:=r1.fs) (l:=r1.fi+2) (h:=r4) Z Z Z Z Z (H2 _ _ Z) (gG (H2 _ _ Z)) (lY (H2 _ _ Z)) Lq hK)) aE))))) (dPc (.ptr 1000000 0) Z ?_);refine dPc (.ptr 1000000 0) Z (dPc (.ptr 1000000 1) Z ?_);refine dPc (.p (eI r1.fat)) Z (dPc (.ptr 1000000 0) Z ?_);refine dPc (.ptr 1000000 0) Z (dPc (.ptr 1000000 2) Z ?_);refine dPc (.p (eI r1.fi)) Z (aG (λ _=>.p (eI (r1.fat+r1.fi))) Z Z Z (uQ Z Z Z Z Y) (lt4 Z Z Z Z) (aA Z (aA Z (au [(48,_),(52,_)] ⟨.inr ⟨14,_,Z,Z,Z⟩,.inr ⟨18,_,Z,Z,Z⟩,trivial⟩ (λ sl H2 K hK=>aj Z (dV Z Z Z (H2 _ _ Z) (H2 _ _ Z) Z JL hK)) (au [(48,_),(52,_)] ⟨.inr ⟨14,_,Z,Z,Z⟩,.inr ⟨18,_,Z,Z,Z⟩,trivial⟩ (λ sl H2 K hK=>aj Z (dV Z Z Z (H2 _ _ Z) (H2 _ _ Z) Z JL hK)) (au [(48,_),(52,_)] ⟨.inr ⟨14,_,Z,Z,Z⟩,.inr ⟨18,_,Z,Z,Z⟩,trivial⟩ (λ sl H2 K hK=>aj Z (dV Z Z Z (H2 _ _ Z) (H2 _ _ Z) Z JL hK)) aE))))) ?_);refine aG (λ _=>.p (eI ((r1.fat+r1.fi)+2))) Z Z Z (uQ Z Z Z Z Y) (lt4 Z Z Z Z) (aA Z (aA Z (au [(53,_)] ⟨.inr ⟨19,_,Z,Z,Z⟩,trivial⟩ (λ sl H2 K hK=>aj Z (dV Z Z Z (H2 _ _ Z) Z Z J8 hK)) (au [(53,_)] ⟨.inr ⟨19,_,Z,Z,Z⟩,trivial⟩ (λ sl H2 K hK=>aj Z (dV Z Z Z (H2 _ _ Z) Z Z J8 hK)) (au [(53,_)] ⟨.inr ⟨19,_,Z,Z,Z⟩,trivial⟩ (λ sl H2 K hK=>aj Z (dV Z Z Z (H2 _ _ Z) Z Z J8 hK)) aE))))) (aG (λ _=>.tuple [.p (.agg (ab.cs IN.1)),.p (.agg (ap.cs IN.2))]) Z Z Z (uQ Z Z Z Z Y) (lt4 Z Z Z Z) (aA Z (aA Z (au [(44,_),(54,_)] ⟨.inr ⟨10,_,Z,Z,Z⟩,.inr ⟨20,_,Z,Z,Z⟩,trivial⟩ (λ sl H2 K hK=>aj Z (fj (Is (sub r1.fs (r1.fi+2) r4) ((r1.fat+r1.fi)+2) _ Lr) Z Z Z (bo (H2 _ _ Z) (bo (H2 _ _ Z) cX)) ⟨sr,sr,trivial⟩ Tryz.call19 Z hK)) (au [(44,_),(54,_)] ⟨.inr ⟨10,_,Z,Z,Z⟩,.inr ⟨20,_,Z,Z,Z⟩,trivial⟩ (λ sl H2 K hK=>aj Z (fj (Is (sub r1.fs (r1.fi+2) r4) ((r1.fat+r1.fi)+2) _ Lr) Z Z Z (bo (H2 _ _ Z) (bo (H2 _ _ Z) cX)) ⟨sr,sr,trivial⟩ Tryz.call19 Z hK)) (au [(44,_),(54,_)] ⟨.inr ⟨10,_,Z,Z,Z⟩,.inr ⟨20,_,Z,Z,Z⟩,trivial⟩ (λ sl H2 K hK=>aj Z (fj (Is (sub r1.fs (r1.fi+2) r4) ((r1.fat+r1.fi)+2) _ Lr) Z Z Z (bo (H2 _ _ Z) (bo (H2 _ _ Z) cX)) ⟨sr,sr,trivial⟩ Tryz.call19 Z hK)) aE))))) ?_);refine dPc (.tuple [.p (.agg (ab.cs IN.1)),.p (.agg (ap.cs IN.2))]) Z (dPc (.p (.agg (ab.cs IN.1))) Z ?_);refine dPc (.p (.agg (ap.cs IN.2))) Z (eM (λ _=>.ptr 4 0) [] Z trivial Z Z (mY Z Z Z Y) (lt4 (λ h=>absurd h (by decide)) Y Y Y) (λ sl H2 K hK=>aj Z (io Z Z Z Z Z hK)) ?_);refine eM (λ _=>.ptr 5 0) [] Z trivial Z Z (gx Z Z Y) (lt4 (λ h=>absurd h (by decide)) (λ h=>absurd h (by decide)) Y Y) (λ sl H2 K hK=>aj Z (io Z Z Z Z Z hK)) (dS Z ?_);refine dS Z (yZ (dPc (.ptr 1000000 0) Z (dPc (.ptr 1000000 0) Z (dPc (.ptr 1000000 0) Z (dPc (.p (eS r1.fs)) Z (dPc (.ptr 1000000 0) Z (dPc (.ptr 1000000 0) Z (dPc (.ptr 1000000 2) Z (dPc (.p (eI r1.fi)) Z (aG (λ _=>.p (eI (r1.fi+2))) Z Z Z (uQ Z Z Z Z Y) (lt4 Z Z Z Z) (aA Z (aA Z (au [(41,_)] ⟨.inr ⟨7,_,Z,Z,Z⟩,trivial⟩ (λ sl H2 K hK=>aj Z (dV Z Z Z (H2 _ _ Z) Z Z Mh hK)) (au [(41,_)] ⟨.inr ⟨7,_,Z,Z,Z⟩,trivial⟩ (λ sl H2 K hK=>aj Z (dV Z Z Z (H2 _ _ Z) Z Z Mh hK)) (au [(41,_)] ⟨.inr ⟨7,_,Z,Z,Z⟩,trivial⟩ (λ sl H2 K hK=>aj Z (dV Z Z Z (H2 _ _ Z) Z Z Mh hK)) aE))))) (dPc (.p (eI r4)) Z (aG (λ _=>.p (eS (sub r1.fs (r1.fi+2) r4))) Z Z Z (uQ Z Z Z Z Y) (lt4 Z Z Z Z) (aA Z (aA Z (au [(37,_),(42,_),(43,_)] ⟨.inr ⟨3,_,Z,Z,Z⟩,.inr ⟨8,_,Z,Z,Z⟩,.inr ⟨9,_,Z,Z,Z⟩,trivial⟩ (λ sl H2 K hK=>aj Z (dQ (a:=r1.fs) (l:=r1.fi+2) (h:=r4) Z Z Z Z Z (H2 _ _ Z) (gG (H2 _ _ Z)) (lY (H2 _ _ Z)) Lq hK)) (au [(37,_),(42,_),(43,_)] ⟨.inr ⟨3,_,Z,Z,Z⟩,.inr ⟨8,_,Z,Z,Z⟩,.inr ⟨9,_,Z,Z,Z⟩,trivial⟩ (λ sl H2 K hK=>aj Z (dQ (a:=r1.fs) (l:=r1.fi+2) (h:=r4) Z Z Z Z Z (H2 _ _ Z) (gG (H2 _ _ Z)) (lY (H2 _ _ Z)) Lq hK)) (au [(37,_),(42,_),(43,_)] ⟨.inr ⟨3,_,Z,Z,Z⟩,.inr ⟨8,_,Z,Z,Z⟩,.inr ⟨9,_,Z,Z,Z⟩,trivial⟩ (λ sl H2 K hK=>aj Z (dQ (a:=r1.fs) (l:=r1.fi+2) (h:=r4) Z Z Z Z Z (H2 _ _ Z) (gG (H2 _ _ Z)) (lY (H2 _ _ Z)) Lq hK)) aE))))) (dPc (.ptr 1000000 0) Z (dPc (.ptr 1000000 0) Z (dPc (.ptr 1000000 1) Z (dPc (.p (eI r1.fat)) Z (dPc (.ptr 1000000 0) Z (dPc (.ptr 1000000 0) Z (dPc (.ptr 1000000 2) Z (dPc (.p (eI r1.fi)) Z (aG (λ _=>.p (eI (r1.fat+r1.fi))) Z Z Z (uQ Z Z Z Z Y) (lt4 Z Z Z Z) (aA Z (aA Z (au [(48,_),(52,_)] ⟨.inr ⟨14,_,Z,Z,Z⟩,.inr ⟨18,_,Z,Z,Z⟩,trivial⟩ (λ sl H2 K hK=>aj Z (dV Z Z Z (H2 _ _ Z) (H2 _ _ Z) Z JL hK)) (au [(48,_),(52,_)] ⟨.inr ⟨14,_,Z,Z,Z⟩,.inr ⟨18,_,Z,Z,Z⟩,trivial⟩ (λ sl H2 K hK=>aj Z (dV Z Z Z (H2 _ _ Z) (H2 _ _ Z) Z JL hK)) (au [(48,_),(52,_)] ⟨.inr ⟨14,_,Z,Z,Z⟩,.inr ⟨18,_,Z,Z,Z⟩,trivial⟩ (λ sl H2 K hK=>aj Z (dV Z Z Z (H2 _ _ Z) (H2 _ _ Z) Z JL hK)) aE))))) (aG (λ _=>.p (eI ((r1.fat+r1.fi)+2))) Z Z Z (uQ Z Z Z Z Y) (lt4 Z Z Z Z) (aA Z (aA Z (au [(53,_)] ⟨.inr ⟨19,_,Z,Z,Z⟩,trivial⟩ (λ sl H2 K hK=>aj Z (dV Z Z Z (H2 _ _ Z) Z Z J8 hK)) (au [(53,_)] ⟨.inr ⟨19,_,Z,Z,Z⟩,trivial⟩ (λ sl H2 K hK=>aj Z (dV Z Z Z (H2 _ _ Z) Z Z J8 hK)) (au [(53,_)] ⟨.inr ⟨19,_,Z,Z,Z⟩,trivial⟩ (λ sl H2 K hK=>aj Z (dV Z Z Z (H2 _ _ Z) Z Z J8 hK)) aE))))) (aG (λ _=>.tuple [.p (.agg (ab.cs IN.1)),.p (.agg (ap.cs IN.2))]) Z Z Z (uQ Z Z Z Z Y) (lt4 Z Z Z Z) (aA Z (aA Z (au [(44,_),(54,_)] ⟨.inr ⟨10,_,Z,Z,Z⟩,.inr ⟨20,_,Z,Z,Z⟩,trivial⟩ (λ sl H2 K hK=>aj Z (fj (Is (sub r1.fs (r1.fi+2) r4) ((r1.fat+r1.fi)+2) _ Lr) Z Z Z (bo (H2 _ _ Z) (bo (H2 _ _ Z) cX)) ⟨sr,sr,trivial⟩ Tryz.call19 Z hK)) (au [(44,_),(54,_)] ⟨.inr ⟨10,_,Z,Z,Z⟩,.inr ⟨20,_,Z,Z,Z⟩,trivial⟩ (λ sl H2 K hK=>aj Z (fj (Is (sub r1.fs (r1.fi+2) r4) ((r1.fat+r1.fi)+2) _ Lr) Z Z Z (bo (H2 _ _ Z) (bo (H2 _ _ Z) cX)) ⟨sr,sr,trivial⟩ Tryz.call19 Z hK)) (au [(44,_),(54,_)] ⟨.inr ⟨10,_,Z,Z,Z⟩,.inr ⟨20,_,Z,Z,Z⟩,trivial⟩ (λ sl H2 K hK=>aj Z (fj (Is (sub r1.fs (r1.fi+2) r4) ((r1.fat+r1.fi)+2) _ Lr) Z Z Z (bo (H2 _ _ Z) (bo (H2 _ _ Z) cX)) ⟨sr,sr,trivial⟩ Tryz.call19 Z hK)) aE))))) (dPc (.tuple [.p (.agg (ab.cs IN.1)),.p (.agg (ap.cs IN.2))]) Z (dPc (.p (.agg (ab.cs IN.1))) Z (dPc (.p (.agg (ap.cs IN.2))) Z (eM (λ _=>.ptr 4 0) [] Z trivial Z Z (gx Z Z Y) (lt4 (λ h=>absurd h (by decide)) (λ h=>absurd h (by decide)) Y Y) (λ sl H2 K hK=>aj Z (io Z Z Z Z Z hK)) (eM (λ _=>.ptr 5 0) [] Z trivial Z Z (mY Z Z Z Y) (lt4 (λ h=>absurd h (by decide)) Y Y Y) (λ sl H2 K hK=>aj Z (io Z Z Z Z Z hK)) (dS Z (dS Z (GJ Z ⟨Z,Z,Z,Z,Z,Z,trivial⟩ ⟨⟨Z,Z,.inl Z⟩,⟨⟨Z,Z,.inl Z⟩,⟨⟨Z,Z,.inr Z⟩,⟨⟨Z,Z,.inr Z⟩,⟨⟨Z,Z,.inr Z⟩,⟨⟨Z,Z,.inr Z⟩,⟨⟨Z,Z,.inr Z⟩,⟨⟨Z,Z,.inr Z⟩,⟨⟨Z,Z,.inr Z⟩,⟨⟨Z,Z,.inr Z⟩,⟨⟨Z,Z,.inr Z⟩,⟨⟨Z,Z,.inr Z⟩,⟨⟨Z,Z,.inr Z⟩,⟨⟨Z,Z,.inr Z⟩,⟨⟨Z,Z,.inr Z⟩,⟨⟨Z,Z,.inr Z⟩,⟨⟨Z,Z,.inr Z⟩,⟨⟨Z,Z,.inr Z⟩,⟨⟨Z,Z,.inr Z⟩,⟨⟨Z,Z,.inr Z⟩,⟨⟨Z,Z,.inr Z⟩,⟨⟨Z,Z,.inr Z⟩,⟨⟨Z,Z,.inr Z⟩,⟨⟨Z,Z,.inr Z⟩,⟨⟨Z,Z,.inr Z⟩,⟨⟨Z,Z,.inr Z⟩,⟨⟨Z,Z,.inr Z⟩,trivial⟩⟩⟩⟩⟩⟩⟩⟩⟩⟩⟩⟩⟩⟩⟩⟩⟩⟩⟩⟩⟩⟩⟩⟩⟩⟩⟩)))))))))))))))))))))))))))))) ?_);refine nx 1 Z (mG (gE (t:=⟨[(0,.ptr 1000000 0),(2,.ptr 2 0),(3,.p (eI r4)),(4,.ptr 4 0),(5,.ptr 5 0)],[(2,cz),(4,(ab.cs IN.1).map .p),(5,(ap.cs IN.2).map .p),(1000000,[.p (eS r1.fs),.p (eI r1.fat),.p (eI r1.fi),.p (eI r1.B'),.p (eS r1.C'),.vec 101000 11 0 (r1.BY.map ai),.p (eB true)])]⟩) Z Z) ?_);refine nx 7 Z (fN [60] h0 Z (λ KO h0=>?_) λ KO h0=>?_)
  ·refine nx 3 Z (cc' h0 λ Ko h0=>?_);refine mG (gE (t:=⟨[(0,.ptr 1000000 0),(2,.ptr 2 0),(3,.p (eI r4)),(4,.ptr 4 0)],[(2,cz),(4,(ab.cs IN.1).map .p),(1000000,[.p (eS r1.fs),.p (eI r1.fat),.p (eI r1.fi),.p (eI r1.B'),.p (eS r1.C'),.vec 101000 11 0 (r1.BY.map ai),.p (eB true)])]⟩) Z Z) (mSP ⟨3,[7,9,12],(by4 (.some λ i=>Nat.beq i 101000||Nat.beq i 69) (.fn (upP 69 11 (.agg (ab.cs IN.1)))) .none .none),(λ _=>[(0,.ptr 1000000 0),(2,.ptr 2 0),(3,.p (eI r4)),(4,.ptr 4 0)]),(by4 ([(2,cz),(4,((ab.cs IN.1).map .p)),(1000000,[.p (eS r1.fs),.p (eI r1.fat),.p (eI r1.fi),.p (eI r1.B'),.p (eS r1.C'),.vec 101000 11 0 (r1.BY.map ai),.p (eB true)])]) ([(2,cz),(4,((ab.cs IN.1).map .p)),(1000000,[.p (eS r1.fs),.p (eI r1.fat),.p (eI r1.fi),.p (eI r1.B'),.p (eS r1.C'),.p (eL ai r1.BY),.p (eB true)])]) ([(2,cz),(4,((ab.cs IN.1).map .p)),(1000000,[.p (eS r1.fs),.p (eI r1.fat),.p (eI r1.fi),.p (eI r1.B'),.p (eS r1.C'),.p (eL ai r1.BY),.p (eB true)])]) ([(1000000,[.p (eS r1.fs),.p (eI r1.fat),.p (eI r1.fi),.p (eI r1.B'),.p (eS r1.C'),.vec 69 11 0 (r1.BY.map ai++[.agg (ab.cs IN.1)]),.p (eB true)]),(2,cz),(4,((ab.cs IN.1).map .p)),(1000000,[.p (eS r1.fs),.p (eI r1.fat),.p (eI r1.fi),.p (eI r1.B'),.p (eS r1.C'),.p (eL ai r1.BY),.p (eB true)])]))⟩ ⟨3,[7,12,9],(by4 (.some λ i=>Nat.beq i 101000||Nat.beq i 69) .none (.fn (upP 69 11 (.agg (ab.cs IN.1)))) .none),(λ _=>[(0,.ptr 1000000 0),(2,.ptr 2 0),(3,.p (eI r4)),(4,.ptr 4 0)]),(by4 ([(2,cz),(4,((ab.cs IN.1).map .p)),(1000000,[.p (eS r1.fs),.p (eI r1.fat),.p (eI r1.fi),.p (eI r1.B'),.p (eS r1.C'),.vec 101000 11 0 (r1.BY.map ai),.p (eB true)])]) ([(2,cz),(4,((ab.cs IN.1).map .p)),(1000000,[.p (eS r1.fs),.p (eI r1.fat),.p (eI r1.fi),.p (eI r1.B'),.p (eS r1.C'),.p (eL ai r1.BY),.p (eB true)])]) ([(1000000,[.p (eS r1.fs),.p (eI r1.fat),.p (eI r1.fi),.p (eI r1.B'),.p (eS r1.C'),.vecp 69 11 0 (r1.BY.map ai),.p (eB true)]),(2,cz),(4,((ab.cs IN.1).map .p)),(1000000,[.p (eS r1.fs),.p (eI r1.fat),.p (eI r1.fi),.p (eI r1.B'),.p (eS r1.C'),.p (eL ai r1.BY),.p (eB true)])]) ([(1000000,[.p (eS r1.fs),.p (eI r1.fat),.p (eI r1.fi),.p (eI r1.B'),.p (eS r1.C'),.vec 69 11 0 (r1.BY.map ai++[.agg (ab.cs IN.1)]),.p (eB true)]),(2,cz),(4,((ab.cs IN.1).map .p)),(1000000,[.p (eS r1.fs),.p (eI r1.fat),.p (eI r1.fi),.p (eI r1.B'),.p (eS r1.C'),.p (eL ai r1.BY),.p (eB true)])]))⟩ Z Z Z Z Z Z Z ⟨Z,Z,Z,Z,trivial⟩ Z (lt3 ⟨Z,Z,Z,Z,trivial⟩ ⟨Z,Z,Z,Z,trivial⟩ ⟨Z,Z,Z,Z,trivial⟩) (lt3 ⟨Z,Z,Z,Z,trivial⟩ ⟨Z,Z,Z,Z,trivial⟩ ⟨Z,Z,Z,Z,trivial⟩) Z Z Z Z Z ?_);refine dPc (.ptr 1000000 0) Z (dPc (.ptr 1000000 0) Z ?_);refine dPc (.ptr 1000000 5) Z (dP (by4 (.vec 101000 11 0 (r1.BY.map ai)) (.p (eL ai r1.BY)) (.p (eL ai r1.BY)) (.p (eL ai r1.BY))) Z ?_);refine dPc (.p (.agg (ab.cs IN.1))) Z (aG (λ _=>.p (eI (r1.BY.length:Int))) Z Z Z (mY Z Z Z Y) (lt3 Z Z Z) (aA Z (aA Z (aA Z (au [(65,_)] ⟨.inr ⟨3,_,Z,Z,Z⟩,trivial⟩ (λ sl H2 K hK=>aj Z (kP (f:=ai) (l:=r1.BY) Z Z Z Z Z (H2 _ _ Z) Z hK)) aE)))) ?_);refine aG (λ _=>.p (eL (λ x:PV=>x) [.agg ol])) Z Z Z (mY Z Z Z Y) (lt3 Z Z Z) (aA Z (aA Z (aA Z (au [] trivial (λ sl H2 K hK=>aj Z (bF (λ x:PV=>x) [.agg ol] Z Z Z Z Z Z (eq Z Z fK) Z Z Z Z Z Z Z hK)) aE)))) (eM (by4 (.vecp 69 11 0 (r1.BY.map ai)) (.vecp 69 11 0 (r1.BY.map ai)) (.vec 69 11 0 (r1.BY.map ai++[.agg (ab.cs IN.1)])) (.vec 69 11 0 (r1.BY.map ai++[.agg (ab.cs IN.1)]))) [(65,_),(68,_)] Z ⟨.inr ⟨3,_,Z,Z,Z⟩,.inr ⟨6,_,Z,Z,Z⟩,trivial⟩ Z Z (gx Z Z Y) (lt3 (λ h=>absurd h (by decide)) Y Y) (λ sl H2 K hK=>aj Z (qG ai r1.BY Z Z Z Z Z Z Z Z (H2 _ _ Z) Z Z (H2 _ _ Z) Z Z Z Z Z Ko hK)) ?_);refine pF (by4 (.elp 69 11) (.elp 69 11) .undef .undef) Z Z Z (mY Z Z Z Y) (lt3 (nl Z) Y Y) (aA Z (aA Z (au [(67,_),(69,_)] ⟨.inr ⟨5,_,Z,Z,Z⟩,.inr ⟨7,_,Z,Z,Z⟩,trivial⟩ (λ sl H2 K hK=>aj Z (p7 Z Z Z Z Z Z Z (H2 _ _ Z) (H2 _ _ Z) (by rw [n7]) hK)) (aA Z aE)))) (iR [(66,_),(70,_)] Z ⟨.inr ⟨4,_,Z,Z,Z⟩,.inr ⟨8,_,Z,Z,Z⟩,trivial⟩ Z (λ sl H2 K hK=>aj Z (wO (z:=.agg (ab.cs IN.1)) Z Z Z Z (H2 _ _ Z) (H2 _ _ Z) Z Z Z Z Z hK)) ?_);refine dPc (.ptr 1000000 0) Z (dPc (.ptr 1000000 5) Z ?_);refine dS Z (yZ (dPc (.ptr 1000000 0) Z (dPc (.ptr 1000000 0) Z (dPc (.ptr 1000000 5) Z (dP (by4 (.vec 101000 11 0 (r1.BY.map ai)) (.p (eL ai r1.BY)) (.p (eL ai r1.BY)) (.p (eL ai r1.BY))) Z (dPc (.p (.agg (ab.cs IN.1))) Z (aG (λ _=>.p (eI (r1.BY.length:Int))) Z Z Z (mY Z Z Z Y) (lt3 Z Z Z) (aA Z (aA Z (aA Z (au [(65,_)] ⟨.inr ⟨3,_,Z,Z,Z⟩,trivial⟩ (λ sl H2 K hK=>aj Z (kP (f:=ai) (l:=r1.BY) Z Z Z Z Z (H2 _ _ Z) Z hK)) aE)))) (aG (λ _=>.p (eL (λ x:PV=>x) [.agg ol])) Z Z Z (mY Z Z Z Y) (lt3 Z Z Z) (aA Z (aA Z (aA Z (au [] trivial (λ sl H2 K hK=>aj Z (bF (λ x:PV=>x) [.agg ol] Z Z Z Z Z Z (eq Z Z fK) Z Z Z Z Z Z Z hK)) aE)))) (eM (by4 (.vecp 69 11 0 (r1.BY.map ai)) (.vecp 69 11 0 (r1.BY.map ai)) (.vecp 69 11 0 (r1.BY.map ai)) (.vec 69 11 0 (r1.BY.map ai++[.agg (ab.cs IN.1)]))) [(65,_),(68,_)] Z ⟨.inr ⟨3,_,Z,Z,Z⟩,.inr ⟨6,_,Z,Z,Z⟩,trivial⟩ Z Z (gx Z Z Y) (lt3 (λ h=>absurd h (by decide)) Y Y) (λ sl H2 K hK=>aj Z (qG ai r1.BY Z Z Z Z Z Z Z Z (H2 _ _ Z) Z Z (H2 _ _ Z) Z Z Z Z Z Ko hK)) (pF (by4 (.elp 69 11) (.elp 69 11) (.elp 69 11) .undef) Z Z Z (mY Z Z Z Y) (lt3 (nl Z) Y Y) (aA Z (au [(67,_),(69,_)] ⟨.inr ⟨5,_,Z,Z,Z⟩,.inr ⟨7,_,Z,Z,Z⟩,trivial⟩ (λ sl H2 K hK=>aj Z (p7 Z Z Z Z Z Z Z (H2 _ _ Z) (H2 _ _ Z) (by rw [n7]) hK)) (au [(67,_),(69,_)] ⟨.inr ⟨5,_,Z,Z,Z⟩,.inr ⟨7,_,Z,Z,Z⟩,trivial⟩ (λ sl H2 K hK=>aj Z (p7 Z Z Z Z Z Z Z (H2 _ _ Z) (H2 _ _ Z) (by rw [n7]) hK)) (aA Z aE)))) (iR [(66,_),(70,_)] Z ⟨.inr ⟨4,_,Z,Z,Z⟩,.inr ⟨8,_,Z,Z,Z⟩,trivial⟩ Z (λ sl H2 K hK=>aj Z (wO (z:=.agg (ab.cs IN.1)) Z Z Z Z (H2 _ _ Z) (H2 _ _ Z) Z Z Z Z Z hK)) (dPc (.ptr 1000000 0) Z (dPc (.ptr 1000000 5) Z (dS Z (zN Z ⟨Z,Z,Z,Z,trivial⟩ ⟨⟨Z,Z,.inr Z⟩,⟨⟨Z,Z,.inr Z⟩,⟨⟨Z,Z,.inr Z⟩,⟨⟨Z,Z,.inr Z⟩,⟨⟨Z,Z,.inr Z⟩,⟨⟨Z,Z,.inr Z⟩,⟨⟨Z,Z,.inr Z⟩,⟨⟨Z,Z,.inr Z⟩,⟨⟨Z,Z,.inr Z⟩,⟨⟨Z,Z,.inr Z⟩,⟨⟨Z,Z,.inr Z⟩,trivial⟩⟩⟩⟩⟩⟩⟩⟩⟩⟩⟩)))))))))))))) ?_);refine mG (cK (t:=⟨[(0,.ptr 1000000 0),(2,.ptr 2 0),(3,.p (eI r4))],[(2,cz),(1000000,[.p (eS r1.fs),.p (eI r1.fat),.p (eI r1.fi),.p (eI r1.B'),.p (eS r1.C'),.vec 69 11 0 ((r1.BY++[IN.1]).map ai),.p (eB true)])]⟩) (iF ⟨er Z,er Z,er Z,trivial⟩ ⟨⟨_,Z,⟨sr,sr,sr,trivial⟩⟩,⟨_,Z,⟨sr,sr,sr,sr,sr,AV.sub_of_eq (by first | (simp only [List.map_append,bx,ld,ab.HR]; done) | (simp only [List.map_append,bx,ld,ab.HR]; rfl)),sr,trivial⟩⟩,trivial⟩)) (nx 5 Z ?_);exact oA h0 Z Z λ K0 h0=>nx 21 Z (mQo (oi h0) (aQ (bB 69 800000 Z Z Z Z Z) (ay _)) Z Z Z Z (sr) ⟨⟨_,Z,⟨sr,sr,sr,sr,sr,sr,sr,trivial⟩⟩,trivial⟩)
  exact nx 7 Z (mQo (oi h0) (aQ (bB 101000 800000 Z Z Z Z Z) (ay _)) Z Z Z Z (sr) ⟨⟨_,Z,⟨sr,sr,sr,sr,sr,sr,sr,trivial⟩⟩,trivial⟩)
 ·skip
  intro H7 H5 r h0;rw [bw] at h0;refine cr good [] [1000000] Tryz.func42 Z Z Z Z Z λ w0 F=>mPo (λ v:ab×ae=>.p (.agg (ab.cs v.1))) (λ v=>[(1000000,((ae.cs v.2).map .p))]) ?_;refine nx 10 rfl (fD [10] h0 rfl (λ c1 h0=>?_) λ c1 h0=>?_)
  ·refine nx 4 Z (bd h0 λ r2 e3 h0=>?_);refine mO Z (cVq [1000000] [] 101000 101000 (IK H7 _ e3) Tryz.call62 Z ?_);exact nx 3 Z (iy h0 Z)
  refine nx 6 rfl (oA h0 Z Z λ Ml h0=>?_);refine bd h0 λ r5 e6 h0=>mO rfl (cVq [1000000] [] 102000 102000 (Ix H7 (H5+1) _ e6) Tryz.call42 rfl ?_);refine nx 4 rfl ?_;obtain ⟨o90,h1,IS,hR0⟩:=db h0;refine kEx 0 (λ MB:(List af)×Int×Int×Int×Int×Int×Bytes=>o90=.inl MB) (λ MB=>⟨[],[(1000000,[.p (eL bM MB.1),.p (eI MB.2.1),.p (eI MB.2.2.1),.p (eI MB.2.2.2.1),.p (eI MB.2.2.2.2.1),.p (eI MB.2.2.2.2.2.1),.p (eS MB.2.2.2.2.2.2)])]⟩) (λ MB hv=>?_) ?_
  ·have h0:=IS _ hv;refine nx 1 Z ?_
   cases h0
  refine lG (λ (Js:Int×Int×Bytes×Bytes×Int×Int×Bytes×(List ah)×(List Bytes)×(List ab)×(List af)×Int×Int×Int×Int×Int×Bytes)=>⟨[(0,.ptr 1000000 0),(1,.p (eI H5)),(4,.ptr 4 0),(5,.ptr 5 0)],[(4,bv),(5,[.p (eI Js.1),.p (eI Js.2.1),.p (eS Js.2.2.1),.p (eS Js.2.2.2.1),.p (eI Js.2.2.2.2.1),.p (eI Js.2.2.2.2.2.1),.p (eS Js.2.2.2.2.2.2.1),.p (eL dv Js.2.2.2.2.2.2.2.1),.p (eL eS Js.2.2.2.2.2.2.2.2.1),.p (eL ai Js.2.2.2.2.2.2.2.2.2.1),.p (eI r5.1.fAt)]),(1000000,[.p (eL bM Js.2.2.2.2.2.2.2.2.2.2.1),.p (eI Js.2.2.2.2.2.2.2.2.2.2.2.1),.p (eI Js.2.2.2.2.2.2.2.2.2.2.2.2.1),.p (eI Js.2.2.2.2.2.2.2.2.2.2.2.2.2.1),.p (eI Js.2.2.2.2.2.2.2.2.2.2.2.2.2.2.1),.p (eI Js.2.2.2.2.2.2.2.2.2.2.2.2.2.2.2.1),.p (eS Js.2.2.2.2.2.2.2.2.2.2.2.2.2.2.2.2)])]⟩) (λ m (Js:Int×Int×Bytes×Bytes×Int×Int×Bytes×(List ah)×(List Bytes)×(List ab)×(List af)×Int×Int×Int×Int×Int×Bytes)=>cj n (bw n) H5 r5 m Js.1 Js.2.1 Js.2.2.1 Js.2.2.2.1 Js.2.2.2.2.1 Js.2.2.2.2.2.1 Js.2.2.2.2.2.2.1 Js.2.2.2.2.2.2.2.1 Js.2.2.2.2.2.2.2.2.1 Js.2.2.2.2.2.2.2.2.2.1 Js.2.2.2.2.2.2.2.2.2.2.1 Js.2.2.2.2.2.2.2.2.2.2.2.1 Js.2.2.2.2.2.2.2.2.2.2.2.2.1 Js.2.2.2.2.2.2.2.2.2.2.2.2.2.1 Js.2.2.2.2.2.2.2.2.2.2.2.2.2.2.1 Js.2.2.2.2.2.2.2.2.2.2.2.2.2.2.2.1 Js.2.2.2.2.2.2.2.2.2.2.2.2.2.2.2.2) Y (r5.1.Ar,r5.1.fOp,r5.1.AI,r5.1.E',r5.1.A'.Ar,r5.1.A'.F',r5.1.A'.HT,r5.1.A'.HQ,r5.1.A'.D',r5.1.By,r5.2.fl,r5.2.fat,r5.2.G',r5.2.Gw,r5.2.AT.Ar,r5.2.AT.fAt,r5.2.AT.AI) h1 (gE rfl rfl) ?_;rintro m ⟨JH,Jf,Jz,JU,JG,JV,K5,K4,LV,LU,f46,f47,f48,ML,f50,LS,LR⟩ h1;replace h1:cj n (bw n) H5 r5 (m+1) JH Jf Jz JU JG JV K5 K4 LV LU f46 f47 f48 ML f50 LS LR=some o90:=h1;rw [cj] at h1;refine nx 5 rfl (bd h1 λ Lu e54 h1=>?_);refine oK (qH H5 _ e54) rfl ⟨sr,trivial⟩ Tryz.call64 rfl (bd h1 λ KD O1 h1=>?_);refine mO rfl (cVq [1000000] [] 106000 106000 (pi _ (ae.mk f46 f47 f48 ML (ap.mk f50 LS LR)) Lu _ O1) Tryz.call63 rfl ?_);refine nx 12 rfl (fB [25] h1 rfl (λ O7 h1=>?_) λ O7 h1=>?_)
  ·exact nx 7 Z (mQo (hR0 _ (oi h1).symm) (ay _) Z Z Z Z (sr) ⟨⟨_,Z,⟨sr,sr,sr,sr,sr,sr,sr,trivial⟩⟩,trivial⟩)
  refine nx 5 Z (bd h1 λ JJ NT h1=>?_);refine mO Z (cVq [1000000] [] 107000 107000 (aX _ KD.2.2 _ NT) Tryz.call44 Z ?_);refine nx 5 Z (oA h1 Z Z λ Mi h1=>?_);refine bd h1 λ Jg MM h1=>mO Z (cVq [1000000] [] 108000 108000 (Ix JJ.2 (H5+1) _ MM) Tryz.call42 Z ?_);refine nx 3 Z (bd h1 λ Kw O0 h1=>?_);refine mG (gE (t:=⟨[(0,.ptr 1000000 0),(1,.p (eI H5)),(4,.ptr 4 0),(5,.ptr 5 0),(6,.p (eS KD.1)),(8,.ptr 8 0)],[(4,bv),(5,[.p (eI JH),.p (eI Jf),.p (eS Jz),.p (eS JU),.p (eI JG),.p (eI JV),.p (eS K5),.p (eL dv K4),.p (eL eS LV),.p (eL ai LU),.p (eI r5.1.fAt)]),(8,(ab.cs Jg.1).map .p),(1000000,(ae.cs Jg.2).map .p)]⟩) Z Z) (mSq ⟨1,[8],(λ _=>.none),(λ _=>[(0,.ptr 1000000 0),(1,.p (eI H5)),(4,.ptr 4 0),(5,.ptr 5 0),(6,.p (eS KD.1)),(8,.ptr 8 0)]),(ob2 ([(4,bv),(5,[.p (eI JH),.p (eI Jf),.p (eS Jz),.p (eS JU),.p (eI JG),.p (eI JV),.p (eS K5),.p (eL dv K4),.p (eL eS LV),.p (eL ai LU),.p (eI r5.1.fAt)]),(8,((ab.cs Jg.1).map .p)),(1000000,((ae.cs Jg.2).map .p))]) (5,[.p (eI 7),.p (eI Kw),.p (eS ([]:Bytes)),.p (eS ([]:Bytes)),.p (eI 0),.p (eI 0),.p (eS ([]:Bytes)),.p (.val (.slice none 0 0)),.p (.val (.slice none 0 0)),.p (eL ai [(ab.mk JH Jf Jz JU (ah.mk JG JV K5 K4 LV) LU r5.1.fAt),Jg.1]),.p (eI r5.1.fAt)]))⟩ Z ?_);refine dPc (.p (eS KD.1)) Z (aG (λ _=>.p (eI Kw)) Z Z Z (ip Z Y) (lt1 Z) (aA Z (au [(33,_)] ⟨.inr ⟨0,_,Z,Z,Z⟩,trivial⟩ (λ sl H2 K hK=>aj Z (fj (zl _ KD.1 _ O0) Z Z Z (bo (H2 _ _ Z) cX) ⟨sr,trivial⟩ Tryz.call65 Z hK)) aE)) ?_);refine dPc (.p (.agg [eI JH,eI Jf,eS Jz,eS JU,eI JG,eI JV,eS K5,eL dv K4,eL eS LV,eL ai LU,eI r5.1.fAt])) Z (dPc (.p (.agg (ab.cs Jg.1))) Z ?_);refine aG (λ _=>.p (eL ai [(ab.mk JH Jf Jz JU (ah.mk JG JV K5 K4 LV) LU r5.1.fAt),Jg.1])) Z Z Z (ip Z Y) (lt1 Z) (aA Z (au [(35,_),(36,_)] ⟨.inr ⟨2,_,Z,Z,Z⟩,.inr ⟨3,_,Z,Z,Z⟩,trivial⟩ (λ sl H2 K hK=>aj Z (bF ai [(ab.mk JH Jf Jz JU (ah.mk JG JV K5 K4 LV) LU r5.1.fAt),Jg.1] Z Z Z Z Z Z (eq (H2 _ _ Z) Z (eq (H2 _ _ Z) Z fK)) Z Z Z Z Z Z (by first | rfl | (simp only [bx,ld,ab.HR]; done) | (simp only [bx,ld,ab.HR]; rfl)) hK)) aE)) (dPc (.ptr 5 10) Z ?_);refine dPc (.p (eI r5.1.fAt)) Z (dPc (.p (.agg [eI 7,eI Kw,eS ([]:Bytes),eS ([]:Bytes),eI 0,eI 0,eS ([]:Bytes),.val (.slice none 0 0),.val (.slice none 0 0),eL ai [(ab.mk JH Jf Jz JU (ah.mk JG JV K5 K4 LV) LU r5.1.fAt),Jg.1],eI r5.1.fAt])) Z ?_);refine dS Z (dF ?_);exact nx 1 Z (eX (7,Kw,([]:Bytes),([]:Bytes),0,0,([]:Bytes),[],[],[(ab.mk JH Jf Jz JU (ah.mk JG JV K5 K4 LV) LU r5.1.fAt),Jg.1],Jg.2.fl,Jg.2.fat,Jg.2.G',Jg.2.Gw,Jg.2.AT.Ar,Jg.2.AT.fAt,Jg.2.AT.AI) h1 (cK (iF ⟨er Z,er Z,er Z,er Z,trivial⟩ ⟨⟨_,Z,⟨sr,sr,sr,sr,sr,sr,sr,sr,sr,sr,sr,trivial⟩⟩,⟨_,Z,⟨sr,sr,sr,sr,sr,sr,sr,fT _,fT _,sr,sr,trivial⟩⟩,⟨_,Z,⟨sr,sr,sr,sr,sr,sr,sr,trivial⟩⟩,trivial⟩)))
 ·skip
  intro H7 r h0;rw [du] at h0;refine cr good [] [1000000] Tryz.func62 Z Z Z Z Z λ w0 F=>mPo (λ v:ab×ae=>.p (.agg (ab.cs v.1))) (λ v=>[(1000000,((ae.cs v.2).map .p))]) ?_;refine nx 9 rfl (bd h0 λ IV h1 h0=>?_);refine kN IV (λ Ji=>⟨[(0,.ptr 1000000 0),(2,.ptr 2 0),(3,.p (eI Ji.1))],[(2,bv),(1000000,[.p (eL bM Ji.2.1),.p (eI Ji.2.2.1),.p (eI Ji.2.2.2.1),.p (eI Ji.2.2.2.2.1),.p (eI Ji.2.2.2.2.2.1),.p (eI Ji.2.2.2.2.2.2.1),.p (eS Ji.2.2.2.2.2.2.2)])]⟩) ?_ ?_
  ·refine nx 7 Z (fD [10] h0 Z (λ KN h0=>?_) λ KN h0=>?_)
   ·refine nx 4 Z (bd h0 λ Lg Nh h0=>?_);refine mO Z (cVq [1000000] [] 103000 103000 (I8 (ae.mk IV.2.1 IV.2.2.1 IV.2.2.2.1 IV.2.2.2.2.1 (ap.mk IV.2.2.2.2.2.1 IV.2.2.2.2.2.2.1 IV.2.2.2.2.2.2.2)) _ Nh) Tryz.call80 Z ?_);exact nx 3 Z (iy h0 Z)
   refine nx 5 Z (bd h0 λ Jw Mr h0=>?_);refine mO Z (cVq [1000000] [] 104000 104000 (aX _ (ae.mk IV.2.1 IV.2.2.1 IV.2.2.2.1 IV.2.2.2.2.1 (ap.mk IV.2.2.2.2.2.1 IV.2.2.2.2.2.2.1 IV.2.2.2.2.2.2.2)) _ Mr) Tryz.call44 Z ?_);refine nx 4 Z (bd h0 λ Jq Ll h0=>?_);refine mG (gE (t:=⟨[(0,.ptr 1000000 0),(2,.ptr 2 0),(3,.p (eI IV.1)),(4,.ptr 4 0)],[(2,bv),(4,(af.cs Jw.1).map .p),(1000000,(ae.cs Jw.2).map .p)]⟩) Z Z) (mSq ⟨2,[2,7],(by3 (.some (dr [] 105000 105000)) .none .none),(λ _=>[(0,.ptr 1000000 0),(2,.ptr 2 0),(3,.p (eI IV.1)),(4,.ptr 4 0)]),(by3 ([(2,bv),(4,((af.cs Jw.1).map .p)),(1000000,((ae.cs Jw.2).map .p))]) ([(1000000,((ae.cs Jq.2).map .p)),(2,bv),(4,((af.cs Jw.1).map .p))]) ([(2,[.p (eI 6),.p (eI IV.1),.p (eS ([]:Bytes)),.p (eS ([]:Bytes)),.p (eI 0),.p (eI 0),.p (eS ([]:Bytes)),.p (.val (.slice none 0 0)),.p (.val (.slice none 0 0)),.p (eL ai [Jq.1]),.p (eI Jw.1.fAt)]),(1000000,((ae.cs Jq.2).map .p)),(2,bv),(4,((af.cs Jw.1).map .p))]))⟩ Z ?_);refine dPc (.p (eI IV.1)) Z (dPc (.ptr 1000000 0) Z ?_);refine eM (λ _=>.p (.agg (ab.cs Jq.1))) [(16,_)] Z ⟨.inr ⟨1,_,Z,Z,Z⟩,trivial⟩ Z Z (ip Z Y) (lt2 (λ h=>absurd h (by decide)) Y) (λ sl H2 K hK=>aj Z (bn [1000000] [] 105000 105000 (IK Jw.2 _ Ll) Z Z Z (bo (H2 _ _ Z) cX) Z ⟨sr,trivial⟩ Z Z ⟨⟨_,Z,⟨sr,sr,sr,sr,sr,sr,sr,trivial⟩⟩,trivial⟩ Z Z Z Z Z Z Z Z Tryz.call62 Z Z hK)) (aG (λ _=>.p (eL ai [Jq.1])) Z Z Z (gx Z Z Y) (lt2 Z Z) (aA Z (au [(17,_)] ⟨.inr ⟨2,_,Z,Z,Z⟩,trivial⟩ (λ sl H2 K hK=>aj Z (bF ai [Jq.1] Z Z Z Z Z Z (eq (H2 _ _ Z) Z fK) Z Z Z Z Z Z (by first | rfl | (simp only [bx,ld,ab.HR]; done) | (simp only [bx,ld,ab.HR]; rfl)) hK)) (aA Z aE))) ?_);refine dPc (.ptr 4 2) Z (dPc (.p (eI Jw.1.fAt)) Z ?_);refine dPc (.p (.agg [eI 6,eI IV.1,eS ([]:Bytes),eS ([]:Bytes),eI 0,eI 0,eS ([]:Bytes),.val (.slice none 0 0),.val (.slice none 0 0),eL ai [Jq.1],eI Jw.1.fAt])) Z (dS Z ?_);refine dF (nx 2 Z ?_);exact mQo (oi h0) (ay _) Z Z Z Z (cR ⟨.inl Z,.inl Z,.inl Z,.inl Z,.inl Z,.inl Z,.inl Z,.inr ⟨Z,Z⟩,.inr ⟨Z,Z⟩,.inl Z,.inl Z,trivial⟩) ⟨⟨_,Z,⟨sr,sr,sr,sr,sr,sr,sr,trivial⟩⟩,trivial⟩
  refine nx 3 Z (bd h1 λ r1 e2 h1=>?_);refine mO Z (cVq [1000000] [] 101000 101000 (bK _ H7 ([33]:Bytes) _ e2) Tryz.call43 Z ?_);refine nx 1 Z (fB [6] h1 Z (λ c3 h1=>?_) λ c3 h1=>?_)
  ·exact nx 4 Z (eX _ (oi h1).symm (gE Z Z))
  refine nx 4 Z (bd h1 λ r4 e5 h1=>?_);refine mO Z (cVq [1000000] [] 102000 102000 (bK _ r1.2 ([45]:Bytes) _ e5) Tryz.call43 Z ?_);refine nx 1 Z (fB [8] h1 Z (λ c6 h1=>?_) λ c6 h1=>?_)
  ·exact nx 4 Z (eX _ (oi h1).symm (gE Z Z))
  exact nx 2 Z (eX _ (oi h1).symm (gE Z Z))
 ·skip
  intro H7 r h0;rw [dN] at h0;refine cr good [] [1000000] Tryz.func80 Z Z Z Z Z λ w0 F=>mPo (λ v:ab×ae=>.p (.agg (ab.cs v.1))) (λ v=>[(1000000,((ae.cs v.2).map .p))]) ?_;refine nx 7 rfl (bd h0 λ r1 e2 h0=>?_);refine mO rfl (cVq [1000000] [] 101000 101000 (I7 H7 _ e2) Tryz.call91 rfl ?_);refine nx 4 rfl ?_;obtain ⟨OK,h1,IS,hR0⟩:=db h0;refine kEx 0 (λ Ku:(List af)×Int×Int×Int×Int×Int×Bytes=>OK=.inl Ku) (λ Ku=>⟨[],[(1000000,[.p (eL bM Ku.1),.p (eI Ku.2.1),.p (eI Ku.2.2.1),.p (eI Ku.2.2.2.1),.p (eI Ku.2.2.2.2.1),.p (eI Ku.2.2.2.2.2.1),.p (eS Ku.2.2.2.2.2.2)])]⟩) (λ Ku hv=>?_) ?_
  ·have h0:=IS _ hv;refine nx 1 Z ?_
   cases h0
  refine lG (λ (IH:Int×Int×Bytes×Bytes×Int×Int×Bytes×(List ah)×(List Bytes)×(List ab)×(List af)×Int×Int×Int×Int×Int×Bytes)=>⟨[(0,.ptr 1000000 0),(2,.ptr 2 0),(3,.ptr 3 0)],[(2,bv),(3,[.p (eI IH.1),.p (eI IH.2.1),.p (eS IH.2.2.1),.p (eS IH.2.2.2.1),.p (eI IH.2.2.2.2.1),.p (eI IH.2.2.2.2.2.1),.p (eS IH.2.2.2.2.2.2.1),.p (eL dv IH.2.2.2.2.2.2.2.1),.p (eL eS IH.2.2.2.2.2.2.2.2.1),.p (eL ai IH.2.2.2.2.2.2.2.2.2.1),.p (eI r1.1.fAt)]),(1000000,[.p (eL bM IH.2.2.2.2.2.2.2.2.2.2.1),.p (eI IH.2.2.2.2.2.2.2.2.2.2.2.1),.p (eI IH.2.2.2.2.2.2.2.2.2.2.2.2.1),.p (eI IH.2.2.2.2.2.2.2.2.2.2.2.2.2.1),.p (eI IH.2.2.2.2.2.2.2.2.2.2.2.2.2.2.1),.p (eI IH.2.2.2.2.2.2.2.2.2.2.2.2.2.2.2.1),.p (eS IH.2.2.2.2.2.2.2.2.2.2.2.2.2.2.2.2)])]⟩) (λ m (IH:Int×Int×Bytes×Bytes×Int×Int×Bytes×(List ah)×(List Bytes)×(List ab)×(List af)×Int×Int×Int×Int×Int×Bytes)=>bY n (aF n) r1 m IH.1 IH.2.1 IH.2.2.1 IH.2.2.2.1 IH.2.2.2.2.1 IH.2.2.2.2.2.1 IH.2.2.2.2.2.2.1 IH.2.2.2.2.2.2.2.1 IH.2.2.2.2.2.2.2.2.1 IH.2.2.2.2.2.2.2.2.2.1 IH.2.2.2.2.2.2.2.2.2.2.1 IH.2.2.2.2.2.2.2.2.2.2.2.1 IH.2.2.2.2.2.2.2.2.2.2.2.2.1 IH.2.2.2.2.2.2.2.2.2.2.2.2.2.1 IH.2.2.2.2.2.2.2.2.2.2.2.2.2.2.1 IH.2.2.2.2.2.2.2.2.2.2.2.2.2.2.2.1 IH.2.2.2.2.2.2.2.2.2.2.2.2.2.2.2.2) Y (r1.1.Ar,r1.1.fOp,r1.1.AI,r1.1.E',r1.1.A'.Ar,r1.1.A'.F',r1.1.A'.HT,r1.1.A'.HQ,r1.1.A'.D',r1.1.By,r1.2.fl,r1.2.fat,r1.2.G',r1.2.Gw,r1.2.AT.Ar,r1.2.AT.fAt,r1.2.AT.AI) h1 (gE rfl rfl) ?_;rintro m ⟨LS,LR,NS,NR,NQ,NP,Nc,Nb,NO,NN,f61,f62,f63,f64,f65,f66,f67⟩ h1;replace h1:bY n (aF n) r1 (m+1) LS LR NS NR NQ NP Nc Nb NO NN f61 f62 f63 f64 f65 f66 f67=some OK:=h1;rw [bY] at h1;refine nx 1 rfl ?_;obtain ⟨o128,h2,hL1,hR1⟩:=db h1;refine kX (λ I2:Int×Bytes×(List ab)×(List af)×Int×Int×Int×Int×Int×Bytes=>o128=.inl I2) (λ I2=>⟨[(0,.ptr 1000000 0),(2,.ptr 2 0),(3,.ptr 3 0)],[(2,bv),(3,[.p (eI I2.1),.p (eI 0),.p (eS I2.2.1),.p (eS ([]:Bytes)),.p (eI 0),.p (eI 0),.p (eS ([]:Bytes)),.p (.val (.slice none 0 0)),.p (.val (.slice none 0 0)),.p (eL ai I2.2.2.1),.p (eI r1.1.fAt)]),(1000000,[.p (eL bM I2.2.2.2.1),.p (eI I2.2.2.2.2.1),.p (eI I2.2.2.2.2.2.1),.p (eI I2.2.2.2.2.2.2.1),.p (eI I2.2.2.2.2.2.2.2.1),.p (eI I2.2.2.2.2.2.2.2.2.1),.p (eS I2.2.2.2.2.2.2.2.2.2)])]⟩) (λ I2 hv=>?_) ?_
  ·have h1:=hL1 _ hv;exact nx 1 Z (eX (I2.1,0,I2.2.1,([]:Bytes),0,0,([]:Bytes),[],[],I2.2.2.1,I2.2.2.2.1,I2.2.2.2.2.1,I2.2.2.2.2.2.1,I2.2.2.2.2.2.2.1,I2.2.2.2.2.2.2.2.1,I2.2.2.2.2.2.2.2.2.1,I2.2.2.2.2.2.2.2.2.2) h1 (cK (iF ⟨er Z,er Z,er Z,trivial⟩ ⟨⟨_,Z,⟨sr,sr,sr,sr,sr,sr,sr,sr,sr,sr,sr,trivial⟩⟩,⟨_,Z,⟨sr,sr,sr,sr,sr,sr,sr,fT _,fT _,sr,sr,trivial⟩⟩,⟨_,Z,⟨sr,sr,sr,sr,sr,sr,sr,trivial⟩⟩,trivial⟩)))
  refine nx 4 Z (bd h2 λ N1 e69 h2=>?_);refine mO Z (cVq [1000000] [] 111000 111000 (bK _ (ae.mk f61 f62 f63 f64 (ap.mk f65 f66 f67)) ([46]:Bytes) _ e69) Tryz.call43 Z ?_);refine nx 2 Z (fB [9,11] h2 Z (λ c70 h2=>?_) λ c70 h2=>?_)
  ·refine nx 4 Z (bd h2 λ r71 e72 h2=>?_);refine mO Z (cVq [1000000] [] 112000 112000 (aX _ N1.2 _ e72) Tryz.call44 Z ?_);refine nx 4 Z (bd h2 λ MQ e74 h2=>?_);refine mO Z (cVq [1000000] [] 113000 113000 (bS _ r71.2 _ e74) Tryz.call31 Z ?_);refine nx 10 Z (fN [18] h2 Z (λ c75 h2=>?_) λ c75 h2=>?_)
   ·refine nx 5 Z (bd h2 λ Nl e79 h2=>?_);refine mO Z (cVq [1000000] [] 115000 115000 (aX _ MQ.2 _ e79) Tryz.call44 Z ?_);refine nx 5 Z (mO Z (bF ai [(ab.mk LS LR NS NR (ah.mk NQ NP Nc Nb NO) NN r1.1.fAt)] Z Z Z Z Z Z Z Z Z Z Z Z Z (by first | rfl | (simp only [bx,ld,ab.HR]; done) | (simp only [bx,ld,ab.HR]; rfl)) ?_));exact nx 5 Z (eX _ (oi h2).symm (gE Z Z))
   refine nx 6 Z (bd h2 λ r76 e77 h2=>?_);refine mO Z (cVq [1000000] [] 114000 114000 (cp MQ.2 2 MQ.1.fAt _ e77) Tryz.call32 Z ?_);exact nx 3 Z (mQo (hR0 _ (hR1 _ (oi h2).symm).symm) (ay _) Z Z Z Z (sr) ⟨⟨_,Z,⟨sr,sr,sr,sr,sr,sr,sr,trivial⟩⟩,trivial⟩)
  refine nx 4 Z (bd h2 λ Ou e81 h2=>?_);refine mO Z (cVq [1000000] [] 116000 116000 (bK _ N1.2 ([91]:Bytes) _ e81) Tryz.call43 Z ?_);refine nx 2 Z (fB [32,34] h2 Z (λ c82 h2=>?_) λ c82 h2=>?_)
  ·refine nx 4 Z (bd h2 λ r83 e84 h2=>?_);refine mO Z (cVq [1000000] [] 117000 117000 (ez _ Ou.2 _ e84) Tryz.call92 Z ?_);refine nx 4 Z (bd h2 λ Ot e86 h2=>?_);refine mO Z (cVq [1000000] [] 118000 118000 (H' r83 _ e86) Tryz.call30 Z ?_);refine nx 6 Z (bd h2 λ Nk e88 h2=>?_);refine mO Z (cVq [1000000] [] 119000 119000 (dz _ Ot.2 ([93]:Bytes) _ e88) Tryz.call93 Z ?_);refine nx 4 Z (mO Z (bF ai [(ab.mk LS LR NS NR (ah.mk NQ NP Nc Nb NO) NN r1.1.fAt),Ot.1] Z Z Z Z Z Z Z Z Z Z Z Z Z (by first | rfl | (simp only [bx,ld,ab.HR]; done) | (simp only [bx,ld,ab.HR]; rfl)) ?_));exact nx 5 Z (eX _ (oi h2).symm (gE Z Z))
  exact nx 7 Z (mQo (hR0 _ (hR1 _ (oi h2).symm).symm) (ay _) Z Z Z Z (sr) ⟨⟨_,Z,⟨sr,sr,sr,sr,sr,sr,sr,trivial⟩⟩,trivial⟩)
 ·skip
  intro H7 r h0;rw [dj] at h0;refine cr good [] [1000000] Tryz.func91 Z Z Z Z Z λ w0 F=>mPo (λ v:ab×ae=>.p (.agg (ab.cs v.1))) (λ v=>[(1000000,((ae.cs v.2).map .p))]) ?_;refine nx 8 rfl (bd h0 λ r1 e2 h0=>?_);refine mO rfl (cVq [1000000] [] 101000 101000 (dp H7 _ e2) Tryz.call46 rfl ?_);refine nx 1 rfl (fB [7] h0 rfl (λ c3 h0=>?_) λ c3 h0=>?_)
  ·exact nx 7 Z (mQo (oi h0) (ay _) Z Z Z Z (cR ⟨.inl Z,.inl Z,.inl Z,.inl Z,.inl Z,.inl Z,.inl Z,.inr ⟨Z,Z⟩,.inr ⟨Z,Z⟩,.inr ⟨Z,Z⟩,.inl Z,trivial⟩) ⟨⟨_,Z,⟨sr,sr,sr,sr,sr,sr,sr,trivial⟩⟩,trivial⟩)
  refine nx 5 Z (bd h0 λ r4 e5 h0=>?_);refine mO Z (cVq [1000000] [] 102000 102000 (bS _ r1.2 _ e5) Tryz.call31 Z ?_);refine nx 14 Z (fD [17,18] h0 Z (λ c6 h0=>?_) λ c6 h0=>?_)
  ·refine nx 5 Z (bd h0 λ r7 e8 h0=>?_);refine oK (sP _ r4.1.Df _ e8) Z ⟨sr,trivial⟩ Tryz.call104 Z (nx 12 Z ?_);refine fN [26] h0 Z (λ c9 h0=>?_) λ c9 h0=>?_
   ·refine nx 5 Z (bd h0 λ IN Lr h0=>?_);refine mO Z (cVq [1000000] [] 104000 104000 (aX _ r4.2 _ Lr) Tryz.call44 Z ?_);refine nx 7 Z (bd h0 λ Lb Ms h0=>?_);refine oK (fg (ah.mk 2 r7.1 ([]:Bytes) [] []) r4.1.fAt _ Ms) Z ⟨cR ⟨.inl Z,.inl Z,.inl Z,.inr ⟨Z,Z⟩,.inr ⟨Z,Z⟩,trivial⟩,sr,trivial⟩ Tryz.call105 Z (nx 2 Z ?_);refine mG (gE (t:=⟨[(2,.ptr 2 0)],[(2,(ab.cs Lb).map .p),(1000000,(ae.cs IN.2).map .p)]⟩) Z Z) (nx 1 Z ?_);exact iy h0 Z
   refine nx 7 Z (bd h0 λ Iu JM h0=>?_);refine mO Z (cVq [1000000] [] 103000 103000 (cp r4.2 r7.2 r4.1.fAt _ JM) Tryz.call32 Z ?_);refine nx 2 Z (mG (gE (t:=⟨[(2,.ptr 2 0)],[(2,(ab.cs Iu.1).map .p),(1000000,(ae.cs Iu.2).map .p)]⟩) Z Z) ?_);exact nx 1 Z (iy h0 Z)
  refine nx 6 Z (fD [39,40] h0 Z (λ MA h0=>?_) λ MA h0=>?_)
  ·refine nx 4 Z (bd h0 λ KS Ng h0=>?_);refine mO Z (cVq [1000000] [] 105000 105000 (IP r4.2 _ Ng) Tryz.call106 Z ?_);exact nx 3 Z (iy h0 Z)
  refine nx 6 Z (fD [43,44] h0 Z (λ Lm h0=>?_) λ Lm h0=>?_)
  ·refine nx 4 Z (bd h0 λ Jq Ll h0=>?_);refine mO Z (cVq [1000000] [] 106000 106000 (Jj r4.2 _ Ll) Tryz.call107 Z ?_);exact nx 3 Z (iy h0 Z)
  refine nx 6 Z (fD [47,48] h0 Z (λ Mz h0=>?_) λ Mz h0=>?_)
  ·refine nx 4 Z (bd h0 λ IOz Mq h0=>?_);refine mO Z (cVq [1000000] [] 107000 107000 (I4 r4.2 _ Mq) Tryz.call108 Z ?_);exact nx 3 Z (iy h0 Z)
  refine nx 6 Z (bd h0 λ Jm Mp h0=>?_);refine mO Z (cVq [1000000] [] 108000 108000 (cp r4.2 2 r4.1.fAt _ Mp) Tryz.call32 Z ?_);exact nx 3 Z (iy h0 Z)
 ·skip
  intro H7 r h0;rw [eQ] at h0;refine cr good [] [1000000] Tryz.func106 Z Z Z Z Z λ w0 F=>mPo (λ v:ab×ae=>.p (.agg (ab.cs v.1))) (λ v=>[(1000000,((ae.cs v.2).map .p))]) ?_;refine nx 7 rfl (bd h0 λ r1 e2 h0=>?_);refine mO rfl (cVq [1000000] [] 101000 101000 (bS _ H7 _ e2) Tryz.call31 rfl ?_);refine nx 9 rfl (oA h0 Z Z λ Lz h0=>?_);refine bd h0 λ r4 e5 h0=>oK (Jy r1.1.Df (r1.1.fAt+1) _ e5) rfl ⟨sr,sr,trivial⟩ Tryz.call115 rfl (nx 15 rfl ?_);refine fN [19] h0 rfl (λ c6 h0=>?_) λ c6 h0=>?_
  ·refine nx 5 Z (bd h0 λ r9 J0 h0=>?_);refine mO Z (cVq [1000000] [] 103000 103000 (aX _ r1.2 _ J0) Tryz.call44 Z ?_);exact nx 14 Z (iy h0 Z)
  refine nx 8 Z (bd h0 λ r7 e8 h0=>?_);refine mO Z (cVq [1000000] [] 102000 102000 (cp r1.2 r4.2.Ar r4.2.fAt _ e8) Tryz.call32 Z ?_);exact nx 3 Z (iy h0 Z)
 ·skip
  intro H7 r h0;rw [fH] at h0;refine cr good [] [1000000] Tryz.func107 Z Z Z Z Z λ w0 F=>mPo (λ v:ab×ae=>.p (.agg (ab.cs v.1))) (λ v=>[(1000000,((ae.cs v.2).map .p))]) ?_;refine nx 7 rfl (bd h0 λ r1 e2 h0=>?_);refine mO rfl (cVq [1000000] [] 101000 101000 (bS _ H7 _ e2) Tryz.call31 rfl ?_);refine nx 12 rfl (oS Z Z ?_);refine nx 2 rfl (fD [10,11] h0 rfl (λ c3 h0=>?_) λ c3 h0=>?_)
  ·refine nx 4 Z (bd h0 λ r4 e5 h0=>?_);refine mO Z (cVq [1000000] [] 102000 102000 (aX _ r1.2 _ e5) Tryz.call44 Z ?_);refine nx 6 Z (bd h0 λ r6 e7 h0=>?_);refine oK (fg (ah.mk 0 0 ([]:Bytes) [] []) r1.1.fAt _ e7) Z ⟨cR ⟨.inl Z,.inl Z,.inl Z,.inr ⟨Z,Z⟩,.inr ⟨Z,Z⟩,trivial⟩,sr,trivial⟩ Tryz.call105 Z (nx 3 Z ?_);exact iy h0 Z
  refine nx 2 Z (bd h0 λ LO h1 h0=>?_);refine kN LO (λ MP=>⟨[(0,.ptr 1000000 0),(2,.ptr 2 0),(3,.ptr 3 0),(18,.p (eB MP))],[(2,bv),(3,(af.cs r1.1).map .p),(1000000,(ae.cs r1.2).map .p)]⟩) ?_ ?_
  ·refine nx 1 Z (fB [18] h0 Z (λ Kq h0=>?_) λ Kq h0=>?_)
   ·refine nx 4 Z (bd h0 λ Jh JZ h0=>?_);refine mO Z (cVq [1000000] [] 103000 103000 (aX _ r1.2 _ JZ) Tryz.call44 Z ?_);refine nx 8 Z (bd h0 λ o37 h1 h0=>?_);refine kN o37 (λ v38=>⟨[(2,.ptr 2 0),(3,.ptr 3 0),(4,.ptr 4 0)],[(2,bv),(3,(af.cs r1.1).map .p),(4,[.p (eI 1),.p (eI v38),.p (eS ([]:Bytes)),.p (.val (.slice none 0 0)),.p (.val (.slice none 0 0))]),(1000000,(ae.cs Jh.2).map .p)]⟩) ?_ ?_
    ·refine nx 6 Z (bd h0 λ Im K7 h0=>?_);refine oK (fg (ah.mk 1 o37 ([]:Bytes) [] []) r1.1.fAt _ K7) Z ⟨cR ⟨.inl Z,.inl Z,.inl Z,.inr ⟨Z,Z⟩,.inr ⟨Z,Z⟩,trivial⟩,sr,trivial⟩ Tryz.call105 Z (nx 3 Z ?_);exact iy h0 Z
    refine nx 4 Z (oS Z Z ?_);refine nx 1 Z (fD [26] h1 Z (λ JN h1=>?_) λ JN h1=>?_)
    ·exact nx 5 Z (eX _ (oi h1).symm (gE Z Z))
    exact nx 2 Z (eX _ (oi h1).symm (gE Z Z))
   refine nx 7 Z (bd h0 λ KS Ng h0=>?_);refine oK (jd r1.1.Df _ Ng) Z ⟨sr,trivial⟩ Tryz.call85 Z (nx 1 Z ?_);refine fB [34] h0 Z (λ Lm h0=>?_) λ Lm h0=>?_
   ·refine nx 6 Z (bd h0 λ Jq Ll h0=>?_);refine mO Z (cVq [1000000] [] 104000 104000 (cp r1.2 2 r1.1.fAt _ Ll) Tryz.call32 Z ?_);exact nx 3 Z (iy h0 Z)
   refine nx 5 Z (bd h0 λ Kr NX h0=>?_);refine mO Z (cVq [1000000] [] 105000 105000 (aX _ r1.2 _ NX) Tryz.call44 Z ?_);refine nx 5 Z (bd h0 λ Ow e25 h0=>?_);refine mO Z (cVq [1000000] [] 106000 106000 (bK _ Kr.2 ([40]:Bytes) _ e25) Tryz.call43 Z ?_);refine nx 2 Z (fB [43] h0 Z (λ Mx h0=>?_) λ Mx h0=>?_)
   ·exact nx 11 Z (mQo (oi h0) (ay _) Z Z Z Z (cR ⟨.inl Z,.inl Z,.inl Z,.inl Z,.inl Z,.inl Z,.inl Z,.inr ⟨Z,Z⟩,.inr ⟨Z,Z⟩,.inr ⟨Z,Z⟩,.inl Z,trivial⟩) ⟨⟨_,Z,⟨sr,sr,sr,sr,sr,sr,sr,trivial⟩⟩,trivial⟩)
   refine nx 5 Z (bd h0 λ L8 O6 h0=>?_);refine mO Z (cVq [1000000] [] 107000 107000 (ez _ Ow.2 _ O6) Tryz.call92 Z ?_);refine nx 4 Z (bd h0 λ KW NV h0=>?_);refine mO Z (cVq [1000000] [] 108000 108000 (IR L8 ([41]:Bytes) _ NV) Tryz.call116 Z ?_);refine nx 5 Z (bd h0 λ Ov Ob h0=>?_);refine mO Z (cVq [1000000] [] 109000 109000 (dz _ KW.2 ([41]:Bytes) _ Ob) Tryz.call93 Z ?_);exact nx 12 Z (mQo (oi h0) (ay _) Z Z Z Z (cR ⟨.inl Z,.inl Z,.inl Z,.inl Z,.inl Z,.inl Z,.inl Z,.inr ⟨Z,Z⟩,.inr ⟨Z,Z⟩,.inl Z,.inl Z,trivial⟩) ⟨⟨_,Z,⟨sr,sr,sr,sr,sr,sr,sr,trivial⟩⟩,trivial⟩)
  refine nx 2 Z (oS Z Z ?_);refine nx 2 Z (fD [18,19] h1 Z (λ c8 h1=>?_) λ c8 h1=>?_)
  ·exact nx 2 Z (eX _ (oi h1).symm (gE Z Z))
  refine nx 2 Z (oS Z Z ?_);exact nx 2 Z (eX _ (oi h1).symm (gE Z Z))
 ·skip
  intro H7 r h0;rw [gr] at h0;refine cr good [] [1000000] Tryz.func108 Z Z Z Z Z λ w0 F=>mPo (λ v:ab×ae=>.p (.agg (ab.cs v.1))) (λ v=>[(1000000,((ae.cs v.2).map .p))]) ?_;refine nx 7 rfl (bd h0 λ r1 e2 h0=>?_);refine mO rfl (cVq [1000000] [] 101000 101000 (bS _ H7 _ e2) Tryz.call31 rfl ?_);refine nx 12 rfl (oS Z Z ?_);refine nx 2 rfl (fD [11,12] h0 rfl (λ c3 h0=>?_) λ c3 h0=>?_)
  ·refine nx 4 Z (bd h0 λ r4 e5 h0=>?_);refine mO Z (cVq [1000000] [] 102000 102000 (ez _ r1.2 _ e5) Tryz.call92 Z ?_);refine nx 4 Z (bd h0 λ r6 e7 h0=>?_);refine mO Z (cVq [1000000] [] 103000 103000 (H' r4 _ e7) Tryz.call30 Z ?_);refine nx 6 Z (bd h0 λ r8 e9 h0=>?_);refine mO Z (cVq [1000000] [] 104000 104000 (dz _ r6.2 ([41]:Bytes) _ e9) Tryz.call93 Z ?_);exact nx 7 Z (iy h0 Z)
  refine nx 3 Z (oS Z Z ?_);refine nx 2 Z (fD [20,21] h0 Z (λ Kq h0=>?_) λ Kq h0=>?_)
  ·refine nx 4 Z (bd h0 λ Jh JZ h0=>?_);refine mO Z (cVq [1000000] [] 105000 105000 (ez _ r1.2 _ JZ) Tryz.call92 Z ?_);refine nx 5 Z (bd h0 λ KE NY h0=>?_);refine mO Z (cVq [1000000] [] 106000 106000 (gI _ Jh ([102,111,114]:Bytes) _ NY) Tryz.call117 Z ?_);refine nx 1 Z (fB [25] h0 Z (λ KN h0=>?_) λ KN h0=>?_)
   ·refine nx 6 Z (bd h0 λ Lg Nh h0=>?_);refine mO Z (cVq [1000000] [] 107000 107000 (IQ KE.2 r1.1.fAt 12 _ Nh) Tryz.call118 Z ?_);exact nx 3 Z (iy h0 Z)
   refine nx 5 Z (bd h0 λ Jw Mr h0=>?_);refine mO Z (cVq [1000000] [] 108000 108000 (IR KE.2 ([93]:Bytes) _ Mr) Tryz.call116 Z ?_);refine nx 5 Z (bd h0 λ Jq Ll h0=>?_);refine mO Z (cVq [1000000] [] 109000 109000 (dz _ Jw.2 ([93]:Bytes) _ Ll) Tryz.call93 Z ?_);exact nx 10 Z (mQo (oi h0) (ay _) Z Z Z Z (cR ⟨.inl Z,.inl Z,.inl Z,.inl Z,.inl Z,.inl Z,.inl Z,.inr ⟨Z,Z⟩,.inr ⟨Z,Z⟩,.inl Z,.inl Z,trivial⟩) ⟨⟨_,Z,⟨sr,sr,sr,sr,sr,sr,sr,trivial⟩⟩,trivial⟩)
  refine nx 3 Z (oS Z Z ?_);refine nx 2 Z (fD [38,39] h0 Z (λ Mz h0=>?_) λ Mz h0=>?_)
  ·refine nx 4 Z (bd h0 λ IOz Mq h0=>?_);refine mO Z (cVq [1000000] [] 110000 110000 (ez _ r1.2 _ Mq) Tryz.call92 Z ?_);refine nx 5 Z (bd h0 λ Jm Mp h0=>?_);refine mO Z (cVq [1000000] [] 111000 111000 (gI _ IOz ([102,111,114]:Bytes) _ Mp) Tryz.call117 Z ?_);refine nx 1 Z (fB [43] h0 Z (λ K8 h0=>?_) λ K8 h0=>?_)
   ·refine nx 6 Z (bd h0 λ Jc O5 h0=>?_);refine mO Z (cVq [1000000] [] 112000 112000 (IQ Jm.2 r1.1.fAt 13 _ O5) Tryz.call118 Z ?_);exact nx 3 Z (iy h0 Z)
   refine nx 5 Z (bd h0 λ MF e31 h0=>?_);refine mO Z (cVq [1000000] [] 113000 113000 (I9 Jm.2 _ e31) Tryz.call119 Z ?_);refine nx 5 Z (bd h0 λ J1 Mo h0=>?_);refine mO Z (cVq [1000000] [] 114000 114000 (dz _ MF.2 ([125]:Bytes) _ Mo) Tryz.call93 Z ?_);refine nx 9 Z (mG (gE (t:=⟨[(2,.ptr 2 0)],[(2,[.p (eI 11),.p (eI 0),.p (eS ([]:Bytes)),.p (eS ([]:Bytes)),.p (eI 0),.p (eI 0),.p (eS ([]:Bytes)),.p (.val (.slice none 0 0)),.p (.val (.slice none 0 0)),.p (eL ai MF.1),.p (eI r1.1.fAt)]),(1000000,(ae.cs J1).map .p)]⟩) Z Z) ?_);exact nx 1 Z (mQo (oi h0) (ay _) Z Z Z Z (cR ⟨.inl Z,.inl Z,.inl Z,.inl Z,.inl Z,.inl Z,.inl Z,.inr ⟨Z,Z⟩,.inr ⟨Z,Z⟩,.inl Z,.inl Z,trivial⟩) ⟨⟨_,Z,⟨sr,sr,sr,sr,sr,sr,sr,trivial⟩⟩,trivial⟩)
  refine nx 7 Z (bd h0 λ It LH h0=>?_);refine mO Z (cVq [1000000] [] 115000 115000 (cp r1.2 2 r1.1.fAt _ LH) Tryz.call32 Z ?_);exact nx 3 Z (iy h0 Z)
 ·skip
  intro H7 end_1 r h0;rw [fJ] at h0;refine cr good [] [1000000] Tryz.func116 Z Z Z Z Z λ w0 F=>mPo (λ v:(List ab)×ae=>.p (eL ai v.1)) (λ v=>[(1000000,((ae.cs v.2).map .p))]) ?_;refine nx 10 rfl (bd h0 λ OD h1 h0=>?_);refine kE 0 OD (λ v80=>⟨[(5,.vec 19 11 0 (v80.1.map ai))],[(1000000,[.p (eL bM v80.2.1),.p (eI v80.2.2.1),.p (eI v80.2.2.2.1),.p (eI v80.2.2.2.2.1),.p (eI v80.2.2.2.2.2.1),.p (eI v80.2.2.2.2.2.2.1),.p (eS v80.2.2.2.2.2.2.2)])]⟩) ?_ ?_
  ·exact nx 7 Z (iy h0 Z)
  refine lG (λ (Ki:(List ab)×(List af)×Int×Int×Int×Int×Int×Bytes)=>⟨[(0,.ptr 1000000 0),(1,.p (eS end_1)),(5,.vec 19 11 0 (Ki.1.map ai))],[(1000000,[.p (eL bM Ki.2.1),.p (eI Ki.2.2.1),.p (eI Ki.2.2.2.1),.p (eI Ki.2.2.2.2.1),.p (eI Ki.2.2.2.2.2.1),.p (eI Ki.2.2.2.2.2.2.1),.p (eS Ki.2.2.2.2.2.2.2)])]⟩) (λ m (Ki:(List ab)×(List af)×Int×Int×Int×Int×Int×Bytes)=>de n (aF n) end_1 m Ki.1 Ki.2.1 Ki.2.2.1 Ki.2.2.2.1 Ki.2.2.2.2.1 Ki.2.2.2.2.2.1 Ki.2.2.2.2.2.2.1 Ki.2.2.2.2.2.2.2) Y ([],H7.fl,H7.fat,H7.G',H7.Gw,H7.AT.Ar,H7.AT.fAt,H7.AT.AI) h1 (cK (iF ⟨er rfl,er rfl,⟨_,rfl,AV.sub_nilvec _ _ _⟩,trivial⟩ ⟨⟨_,rfl,⟨sr,sr,sr,sr,sr,sr,sr,trivial⟩⟩,trivial⟩)) ?_;rintro m ⟨JP,LB,f33,f34,JI,JH,Jf,Jz⟩ h1;replace h1:de n (aF n) end_1 (m+1) JP LB f33 f34 JI JH Jf Jz=some OD:=h1;rw [de] at h1;refine nx 2 rfl (bd h1 λ MI h2 h1=>?_);refine kN MI (λ ME=>⟨[(0,.ptr 1000000 0),(1,.p (eS end_1)),(5,.vec 19 11 0 (JP.map ai)),(14,.p (eB ME.1))],[(1000000,[.p (eL bM ME.2.1),.p (eI ME.2.2.1),.p (eI ME.2.2.2.1),.p (eI ME.2.2.2.2.1),.p (eI ME.2.2.2.2.2.1),.p (eI ME.2.2.2.2.2.2.1),.p (eS ME.2.2.2.2.2.2.2)])]⟩) ?_ ?_
  ·refine nx 1 Z (fB [14] h1 Z (λ NZ h1=>?_) λ NZ h1=>?_)
   ·refine nx 7 Z (bd h1 λ Lu e54 h1=>?_);refine mO Z (cVq [1000000] [] 108000 108000 (H' (ae.mk MI.2.1 MI.2.2.1 MI.2.2.2.1 MI.2.2.2.2.1 (ap.mk MI.2.2.2.2.2.1 MI.2.2.2.2.2.2.1 MI.2.2.2.2.2.2.2)) _ e54) Tryz.call30 Z ?_);refine mO Z (bF ai [Lu.1] Z Z Z Z Z Z Z Z Z Z Z Z Z (by first | rfl | (simp only [bx,ld,ab.HR]; done) | (simp only [bx,ld,ab.HR]; rfl)) ?_);refine cc' h1 λ NF h1=>mO Z (gu ai JP [Lu.1] Z Z Z Z Z Z Z Z Z Z Z Z Z (λ x=>congrArg List.length (ab.HU x)) Z Z Z Z NF ?_);refine nx 6 Z (bd h1 λ Kh e57 h1=>?_);refine mO Z (cVq [1000000] [] 109000 109000 (bK _ Lu.2 ([44]:Bytes) _ e57) Tryz.call43 Z ?_);refine nx 2 Z (fB [22] h1 Z (λ c58 h1=>?_) λ c58 h1=>?_)
    ·exact nx 2 Z (eXi _ (oi h1).symm (gE Z Z))
    refine nx 4 Z (bd h1 λ Ld e60 h1=>?_);refine mO Z (cVq [1000000] [] 110000 110000 (aX _ Kh.2 _ e60) Tryz.call44 Z ?_);exact nx 1 Z (eX (JP++[Lu.1],Ld.2.fl,Ld.2.fat,Ld.2.G',Ld.2.Gw,Ld.2.AT.Ar,Ld.2.AT.fAt,Ld.2.AT.AI) h1 (gE Z Z))
   exact nx 2 Z (eXi _ (oi h1).symm (gE Z Z))
  refine nx 2 Z (bd h2 λ L6 e40 h2=>?_);refine mO Z (cVq [1000000] [] 106000 106000 (dp (ae.mk LB f33 f34 JI (ap.mk JH Jf Jz)) _ e40) Tryz.call46 Z ?_);refine nx 2 Z (fB [8,9] h2 Z (λ c41 h2=>?_) λ c41 h2=>?_)
  ·refine nx 2 Z (bd h2 λ Kb e43 h2=>?_);refine mO Z (cVq [1000000] [] 107000 107000 (bK _ L6.2 end_1 _ e43) Tryz.call43 Z ?_);exact nx 3 Z (eX _ (oi h2).symm (gE Z Z))
  exact nx 6 Z (eX _ (oi h2).symm (gE Z Z))
 ·skip
  intro H7 Ir k_2 r h0;rw [eH] at h0;refine cr good [] [1000000] Tryz.func118 Z Z Z Z Z λ w0 F=>mPo (λ v:ab×ae=>.p (.agg (ab.cs v.1))) (λ v=>[(1000000,((ae.cs v.2).map .p))]) ?_;refine nx 7 rfl (bd h0 λ r1 e2 h0=>?_);refine mO rfl (cVq [1000000] [] 101000 101000 (aX _ H7 _ e2) Tryz.call44 rfl ?_);refine nx 6 rfl (bd h0 λ r3 e4 h0=>?_);refine mO rfl (cVq [1000000] [] 102000 102000 (jQ _ r1.2 _ e4) Tryz.call126 rfl ?_);refine nx 5 rfl (bd h0 λ IJ h1 h0=>?_);refine kN IJ (λ LZ=>⟨[(0,.ptr 1000000 0),(2,.p (eI k_2)),(6,.ptr 6 0),(7,.ptr 7 0)],[(6,bv),(7,[.p (eI k_2),.p (eI 0),.p (eS LZ.1),.p (eS LZ.2.1),.p (eI 0),.p (eI 0),.p (eS ([]:Bytes)),.p (.val (.slice none 0 0)),.p (.val (.slice none 0 0)),.p (.val (.slice none 0 0)),.p (eI Ir)]),(1000000,[.p (eL bM LZ.2.2.1),.p (eI LZ.2.2.2.1),.p (eI LZ.2.2.2.2.1),.p (eI LZ.2.2.2.2.2.1),.p (eI LZ.2.2.2.2.2.2.1),.p (eI LZ.2.2.2.2.2.2.2.1),.p (eS LZ.2.2.2.2.2.2.2.2)])]⟩) ?_ ?_
  ·refine nx 4 Z (bd h0 λ Iq LI h0=>?_);refine mO Z (cVq [1000000] [] 106000 106000 (ou _ (ae.mk IJ.2.2.1 IJ.2.2.2.1 IJ.2.2.2.2.1 IJ.2.2.2.2.2.1 (ap.mk IJ.2.2.2.2.2.2.1 IJ.2.2.2.2.2.2.2.1 IJ.2.2.2.2.2.2.2.2)) ([105,110]:Bytes) _ LI) Tryz.call127 Z ?_);refine nx 2 Z (bd h0 λ IOz Mq h0=>?_);refine cc' h0 λ KH h0=>mG (gE (t:=⟨[(0,.ptr 1000000 0),(2,.p (eI k_2)),(6,.ptr 6 0),(7,.ptr 7 0)],[(6,bv),(7,[.p (eI k_2),.p (eI 0),.p (eS IJ.1),.p (eS IJ.2.1),.p (eI 0),.p (eI 0),.p (eS ([]:Bytes)),.p (.val (.slice none 0 0)),.p (.val (.slice none 0 0)),.p (.val (.slice none 0 0)),.p (eI Ir)]),(1000000,(ae.cs Iq).map .p)]⟩) Z Z) (mSq ⟨3,[3,5,7],(by4 (.some (dr [] 107000 107000)) (.some λ i=>Nat.beq i 33) .none .none),(λ _=>[(0,.ptr 1000000 0),(2,.p (eI k_2)),(6,.ptr 6 0),(7,.ptr 7 0)]),(by4 ([(6,bv),(7,[.p (eI k_2),.p (eI 0),.p (eS IJ.1),.p (eS IJ.2.1),.p (eI 0),.p (eI 0),.p (eS ([]:Bytes)),.p (.val (.slice none 0 0)),.p (.val (.slice none 0 0)),.p (.val (.slice none 0 0)),.p (eI Ir)]),(1000000,((ae.cs Iq).map .p))]) ([(1000000,((ae.cs IOz.2).map .p)),(6,bv),(7,[.p (eI k_2),.p (eI 0),.p (eS IJ.1),.p (eS IJ.2.1),.p (eI 0),.p (eI 0),.p (eS ([]:Bytes)),.p (.val (.slice none 0 0)),.p (.val (.slice none 0 0)),.p (.val (.slice none 0 0)),.p (eI Ir)])]) ([(1000000,((ae.cs IOz.2).map .p)),(6,bv),(7,[.p (eI k_2),.p (eI 0),.p (eS IJ.1),.p (eS IJ.2.1),.p (eI 0),.p (eI 0),.p (eS ([]:Bytes)),.p (.val (.slice none 0 0)),.p (.val (.slice none 0 0)),.p (.val (.slice none 0 0)),.p (eI Ir)])]) ([(7,[.p (eI k_2),.p (eI 0),.p (eS IJ.1),.p (eS IJ.2.1),.p (eI 0),.p (eI 0),.p (eS ([]:Bytes)),.p (.val (.slice none 0 0)),.p (.val (.slice none 0 0)),.vec 33 11 0 ([IOz.1].map ai),.p (eI Ir)]),(1000000,((ae.cs IOz.2).map .p)),(6,bv),(7,[.p (eI k_2),.p (eI 0),.p (eS IJ.1),.p (eS IJ.2.1),.p (eI 0),.p (eI 0),.p (eS ([]:Bytes)),.p (.val (.slice none 0 0)),.p (.val (.slice none 0 0)),.p (.val (.slice none 0 0)),.p (eI Ir)])]))⟩ Z ?_);refine dPc (.ptr 7 9) Z (dPc (.p (.val (.slice none 0 0))) Z ?_);refine dPc (.ptr 1000000 0) Z (eM (λ _=>.p (.agg (ab.cs IOz.1))) [(30,_)] Z ⟨.inr ⟨2,_,Z,Z,Z⟩,trivial⟩ Z Z (gx Z Z Y) (lt3 (λ h=>absurd h (by decide)) Y Y) (λ sl H2 K hK=>aj Z (bn [1000000] [] 107000 107000 (H' Iq _ Mq) Z Z Z (bo (H2 _ _ Z) cX) Z ⟨sr,trivial⟩ Z Z ⟨⟨_,Z,⟨sr,sr,sr,sr,sr,sr,sr,trivial⟩⟩,trivial⟩ Z Z Z Z Z Z Z Z Tryz.call30 Z Z hK)) ?_);refine aG (λ _=>.p (eL ai [IOz.1])) Z Z Z (mY Z Z Z Y) (lt3 Z Z Z) (aA Z (aA Z (au [(31,_)] ⟨.inr ⟨3,_,Z,Z,Z⟩,trivial⟩ (λ sl H2 K hK=>aj Z (bF ai [IOz.1] Z Z Z Z Z Z (eq (H2 _ _ Z) Z fK) Z Z Z Z Z Z (by first | rfl | (simp only [bx,ld,ab.HR]; done) | (simp only [bx,ld,ab.HR]; rfl)) hK)) (aA Z aE)))) (eM (λ _=>.vec 33 11 0 ([IOz.1].map ai)) [(29,_),(32,_)] Z ⟨.inr ⟨1,_,Z,Z,Z⟩,.inr ⟨4,_,Z,Z,Z⟩,trivial⟩ Z Z (ip Z Y) (lt3 (λ h=>absurd h (by decide)) (λ h=>absurd h (by decide)) Y) (λ sl H2 K hK=>aj Z (Ej ai [IOz.1] 0 Z Z Z Z Z Z Z Z (H2 _ _ Z) (H2 _ _ Z) Z (λ x=>congrArg List.length (ab.HU x)) Z Z Z Z KH hK)) ?_);refine dPc (.ptr 7 9) Z (dS Z ?_);refine dF (nx 4 Z ?_);refine bd h0 λ JF NW h0=>mO Z (cVq [1000000] [] 108000 108000 (fh _ IOz.2 ([58]:Bytes) _ NW) Tryz.call45 Z ?_);refine nx 2 Z (bd h0 λ Jc O5 h0=>?_);refine cc' h0 λ Mn h0=>mG (gE (t:=⟨[(0,.ptr 1000000 0),(2,.p (eI k_2)),(6,.ptr 6 0),(7,.ptr 7 0)],[(6,bv),(7,[.p (eI k_2),.p (eI 0),.p (eS IJ.1),.p (eS IJ.2.1),.p (eI 0),.p (eI 0),.p (eS ([]:Bytes)),.p (.val (.slice none 0 0)),.p (.val (.slice none 0 0)),.vec 33 11 0 ([IOz.1].map ai),.p (eI Ir)]),(1000000,(ae.cs JF).map .p)]⟩) Z Z) (mSq ⟨3,[3,5,7],(by4 (.some (dr [] 109000 109000)) (.some λ i=>Nat.beq i 33||Nat.beq i 42) .none .none),(λ _=>[(0,.ptr 1000000 0),(2,.p (eI k_2)),(6,.ptr 6 0),(7,.ptr 7 0)]),(by4 ([(6,bv),(7,[.p (eI k_2),.p (eI 0),.p (eS IJ.1),.p (eS IJ.2.1),.p (eI 0),.p (eI 0),.p (eS ([]:Bytes)),.p (.val (.slice none 0 0)),.p (.val (.slice none 0 0)),.vec 33 11 0 ([IOz.1].map ai),.p (eI Ir)]),(1000000,((ae.cs JF).map .p))]) ([(1000000,((ae.cs Jc.2).map .p)),(6,bv),(7,[.p (eI k_2),.p (eI 0),.p (eS IJ.1),.p (eS IJ.2.1),.p (eI 0),.p (eI 0),.p (eS ([]:Bytes)),.p (.val (.slice none 0 0)),.p (.val (.slice none 0 0)),.vec 33 11 0 ([IOz.1].map ai),.p (eI Ir)])]) ([(1000000,((ae.cs Jc.2).map .p)),(6,bv),(7,[.p (eI k_2),.p (eI 0),.p (eS IJ.1),.p (eS IJ.2.1),.p (eI 0),.p (eI 0),.p (eS ([]:Bytes)),.p (.val (.slice none 0 0)),.p (.val (.slice none 0 0)),.p (eL ai [IOz.1]),.p (eI Ir)])]) ([(7,[.p (eI k_2),.p (eI 0),.p (eS IJ.1),.p (eS IJ.2.1),.p (eI 0),.p (eI 0),.p (eS ([]:Bytes)),.p (.val (.slice none 0 0)),.p (.val (.slice none 0 0)),.vec 42 11 0 (([IOz.1]++[Jc.1]).map ai),.p (eI Ir)]),(1000000,((ae.cs Jc.2).map .p)),(6,bv),(7,[.p (eI k_2),.p (eI 0),.p (eS IJ.1),.p (eS IJ.2.1),.p (eI 0),.p (eI 0),.p (eS ([]:Bytes)),.p (.val (.slice none 0 0)),.p (.val (.slice none 0 0)),.p (eL ai [IOz.1]),.p (eI Ir)])]))⟩ Z ?_);refine dPc (.ptr 7 9) Z (dP (by4 (.vec 33 11 0 ([IOz.1].map ai)) (.vec 33 11 0 ([IOz.1].map ai)) (.p (eL ai [IOz.1])) (.p (eL ai [IOz.1]))) Z ?_);refine dPc (.ptr 1000000 0) Z (eM (λ _=>.p (.agg (ab.cs Jc.1))) [(39,_)] Z ⟨.inr ⟨2,_,Z,Z,Z⟩,trivial⟩ Z Z (gx Z Z Y) (lt3 (λ h=>absurd h (by decide)) Y Y) (λ sl H2 K hK=>aj Z (bn [1000000] [] 109000 109000 (H' JF _ O5) Z Z Z (bo (H2 _ _ Z) cX) Z ⟨sr,trivial⟩ Z Z ⟨⟨_,Z,⟨sr,sr,sr,sr,sr,sr,sr,trivial⟩⟩,trivial⟩ Z Z Z Z Z Z Z Z Tryz.call30 Z Z hK)) ?_);refine aG (λ _=>.p (eL ai [Jc.1])) Z Z Z (mY Z Z Z Y) (lt3 Z Z Z) (aA Z (aA Z (au [(40,_)] ⟨.inr ⟨3,_,Z,Z,Z⟩,trivial⟩ (λ sl H2 K hK=>aj Z (bF ai [Jc.1] Z Z Z Z Z Z (eq (H2 _ _ Z) Z fK) Z Z Z Z Z Z (by first | rfl | (simp only [bx,ld,ab.HR]; done) | (simp only [bx,ld,ab.HR]; rfl)) hK)) (aA Z aE)))) (eM (λ _=>.vec 42 11 0 (([IOz.1]++[Jc.1]).map ai)) [(38,_),(41,_)] Z ⟨.inr ⟨1,_,Z,Z,Z⟩,.inr ⟨4,_,Z,Z,Z⟩,trivial⟩ Z Z (ip Z Y) (lt3 (λ h=>absurd h (by decide)) (λ h=>absurd h (by decide)) Y) (λ sl H2 K hK=>aj Z (gu ai [IOz.1] [Jc.1] Z Z Z Z Z Z Z Z (H2 _ _ Z) Z Z (H2 _ _ Z) Z (λ x=>congrArg List.length (ab.HU x)) Z Z Z Z Mn hK)) ?_);refine dPc (.ptr 7 9) Z (dS Z ?_);refine dF (nx 6 Z ?_);refine bd h0 λ Jo h1 h0=>kN Jo (λ LY=>⟨[(0,.ptr 1000000 0),(6,.ptr 6 0),(7,.ptr 7 0),(8,.p (eS LY.1))],[(6,bv),(7,[.p (eI k_2),.p (eI 0),.p (eS IJ.1),.p (eS IJ.2.1),.p (eI 0),.p (eI 0),.p (eS ([]:Bytes)),.p (.val (.slice none 0 0)),.p (.val (.slice none 0 0)),.vec 53 11 0 (LY.2.1.map ai),.p (eI Ir)]),(1000000,[.p (eL bM LY.2.2.1),.p (eI LY.2.2.2.1),.p (eI LY.2.2.2.2.1),.p (eI LY.2.2.2.2.2.1),.p (eI LY.2.2.2.2.2.2.1),.p (eI LY.2.2.2.2.2.2.2.1),.p (eS LY.2.2.2.2.2.2.2.2)])]⟩) ?_ ?_
   ·refine nx 2 Z (bd h0 λ Me h1 h0=>?_);refine kN Me (λ KQ=>⟨[(0,.ptr 1000000 0),(6,.ptr 6 0),(7,.ptr 7 0),(8,.p (eS Jo.1))],[(6,bv),(7,[.p (eI k_2),.p (eI 0),.p (eS IJ.1),.p (eS IJ.2.1),.p (eI 0),.p (eI 0),.p (eS ([]:Bytes)),.p (.val (.slice none 0 0)),.p (.val (.slice none 0 0)),.vec 64 11 0 (KQ.1.map ai),.p (eI Ir)]),(1000000,[.p (eL bM KQ.2.1),.p (eI KQ.2.2.1),.p (eI KQ.2.2.2.1),.p (eI KQ.2.2.2.2.1),.p (eI KQ.2.2.2.2.2.1),.p (eI KQ.2.2.2.2.2.2.1),.p (eS KQ.2.2.2.2.2.2.2)])]⟩) ?_ ?_
    ·refine nx 5 Z (bd h0 λ r62 e63 h0=>?_);refine mO Z (cVq [1000000] [] 115000 115000 (dz _ (ae.mk Me.2.1 Me.2.2.1 Me.2.2.2.1 Me.2.2.2.2.1 (ap.mk Me.2.2.2.2.2.1 Me.2.2.2.2.2.2.1 Me.2.2.2.2.2.2.2)) Jo.1 _ e63) Tryz.call93 Z ?_);exact nx 7 Z (mQo (oi h0) (ay _) Z Z Z Z (BU ⟨sr,sr,sr,sr,sr,sr,sr,fT _,fT _,sr,sr,trivial⟩) ⟨⟨_,Z,⟨sr,sr,sr,sr,sr,sr,sr,trivial⟩⟩,trivial⟩)
    refine nx 3 Z (bd h1 λ L3 e47 h1=>?_);refine mO Z (cVq [1000000] [] 112000 112000 (gI _ (ae.mk Jo.2.2.1 Jo.2.2.2.1 Jo.2.2.2.2.1 Jo.2.2.2.2.2.1 (ap.mk Jo.2.2.2.2.2.2.1 Jo.2.2.2.2.2.2.2.1 Jo.2.2.2.2.2.2.2.2)) ([105,102]:Bytes) _ e47) Tryz.call117 Z ?_);refine nx 1 Z (fB [56] h1 Z (λ O9 h1=>?_) λ O9 h1=>?_)
    ·refine nx 4 Z (bd h1 λ KV e50 h1=>?_);refine mO Z (cVq [1000000] [] 113000 113000 (aX _ L3.2 _ e50) Tryz.call44 Z ?_);refine nx 1 Z (bd h1 λ Jn O2 h1=>?_);refine cc' h1 λ Mj h1=>mG (gE (t:=⟨[(0,.ptr 1000000 0),(6,.ptr 6 0),(7,.ptr 7 0),(8,.p (eS Jo.1))],[(6,bv),(7,[.p (eI k_2),.p (eI 0),.p (eS IJ.1),.p (eS IJ.2.1),.p (eI 0),.p (eI 0),.p (eS ([]:Bytes)),.p (.val (.slice none 0 0)),.p (.val (.slice none 0 0)),.vec 53 11 0 (Jo.2.1.map ai),.p (eI Ir)]),(1000000,(ae.cs KV.2).map .p)]⟩) Z Z) (mSq ⟨3,[3,5,7],(by4 (.some (dr [] 114000 114000)) (.some λ i=>Nat.beq i 53||Nat.beq i 64) .none .none),(λ _=>[(0,.ptr 1000000 0),(6,.ptr 6 0),(7,.ptr 7 0),(8,.p (eS Jo.1))]),(by4 ([(6,bv),(7,[.p (eI k_2),.p (eI 0),.p (eS IJ.1),.p (eS IJ.2.1),.p (eI 0),.p (eI 0),.p (eS ([]:Bytes)),.p (.val (.slice none 0 0)),.p (.val (.slice none 0 0)),.vec 53 11 0 (Jo.2.1.map ai),.p (eI Ir)]),(1000000,((ae.cs KV.2).map .p))]) ([(1000000,((ae.cs Jn.2).map .p)),(6,bv),(7,[.p (eI k_2),.p (eI 0),.p (eS IJ.1),.p (eS IJ.2.1),.p (eI 0),.p (eI 0),.p (eS ([]:Bytes)),.p (.val (.slice none 0 0)),.p (.val (.slice none 0 0)),.vec 53 11 0 (Jo.2.1.map ai),.p (eI Ir)])]) ([(1000000,((ae.cs Jn.2).map .p)),(6,bv),(7,[.p (eI k_2),.p (eI 0),.p (eS IJ.1),.p (eS IJ.2.1),.p (eI 0),.p (eI 0),.p (eS ([]:Bytes)),.p (.val (.slice none 0 0)),.p (.val (.slice none 0 0)),.p (eL ai Jo.2.1),.p (eI Ir)])]) ([(7,[.p (eI k_2),.p (eI 0),.p (eS IJ.1),.p (eS IJ.2.1),.p (eI 0),.p (eI 0),.p (eS ([]:Bytes)),.p (.val (.slice none 0 0)),.p (.val (.slice none 0 0)),.vec 64 11 0 ((Jo.2.1++[Jn.1]).map ai),.p (eI Ir)]),(1000000,((ae.cs Jn.2).map .p)),(6,bv),(7,[.p (eI k_2),.p (eI 0),.p (eS IJ.1),.p (eS IJ.2.1),.p (eI 0),.p (eI 0),.p (eS ([]:Bytes)),.p (.val (.slice none 0 0)),.p (.val (.slice none 0 0)),.p (eL ai Jo.2.1),.p (eI Ir)])]))⟩ Z ?_);refine dPc (.ptr 7 9) Z (dP (by4 (.vec 53 11 0 (Jo.2.1.map ai)) (.vec 53 11 0 (Jo.2.1.map ai)) (.p (eL ai Jo.2.1)) (.p (eL ai Jo.2.1))) Z ?_);refine dPc (.ptr 1000000 0) Z (eM (λ _=>.p (.agg (ab.cs Jn.1))) [(61,_)] Z ⟨.inr ⟨2,_,Z,Z,Z⟩,trivial⟩ Z Z (gx Z Z Y) (lt3 (λ h=>absurd h (by decide)) Y Y) (λ sl H2 K hK=>aj Z (bn [1000000] [] 114000 114000 (H' KV.2 _ O2) Z Z Z (bo (H2 _ _ Z) cX) Z ⟨sr,trivial⟩ Z Z ⟨⟨_,Z,⟨sr,sr,sr,sr,sr,sr,sr,trivial⟩⟩,trivial⟩ Z Z Z Z Z Z Z Z Tryz.call30 Z Z hK)) ?_);refine aG (λ _=>.p (eL ai [Jn.1])) Z Z Z (mY Z Z Z Y) (lt3 Z Z Z) (aA Z (aA Z (au [(62,_)] ⟨.inr ⟨3,_,Z,Z,Z⟩,trivial⟩ (λ sl H2 K hK=>aj Z (bF ai [Jn.1] Z Z Z Z Z Z (eq (H2 _ _ Z) Z fK) Z Z Z Z Z Z (by first | rfl | (simp only [bx,ld,ab.HR]; done) | (simp only [bx,ld,ab.HR]; rfl)) hK)) (aA Z aE)))) (eM (λ _=>.vec 64 11 0 ((Jo.2.1++[Jn.1]).map ai)) [(60,_),(63,_)] Z ⟨.inr ⟨1,_,Z,Z,Z⟩,.inr ⟨4,_,Z,Z,Z⟩,trivial⟩ Z Z (ip Z Y) (lt3 (λ h=>absurd h (by decide)) (λ h=>absurd h (by decide)) Y) (λ sl H2 K hK=>aj Z (gu ai Jo.2.1 [Jn.1] Z Z Z Z Z Z Z Z (H2 _ _ Z) Z Z (H2 _ _ Z) Z (λ x=>congrArg List.length (ab.HU x)) Z Z Z Z Mj hK)) ?_);refine dPc (.ptr 7 9) Z (dS Z ?_);refine dF (nx 1 Z ?_);exact eX _ (oi h1).symm (gE Z Z)
    exact nx 2 Z (eX _ (oi h1).symm (aQ (bB 53 64 Z Z Z Z Z) (gE Z Z)))
   refine nx 5 Z (fD [45] h1 Z (λ Jk h1=>?_) λ Jk h1=>?_)
   ·refine nx 4 Z (bd h1 λ J1 Mo h1=>?_);refine mO Z (cVq [1000000] [] 110000 110000 (fh _ Jc.2 ([61,62]:Bytes) _ Mo) Tryz.call45 Z ?_);refine nx 2 Z (bd h1 λ It LH h1=>?_);refine cc' h1 λ M7 h1=>mG (gE (t:=⟨[(0,.ptr 1000000 0),(6,.ptr 6 0),(7,.ptr 7 0)],[(6,bv),(7,[.p (eI k_2),.p (eI 0),.p (eS IJ.1),.p (eS IJ.2.1),.p (eI 0),.p (eI 0),.p (eS ([]:Bytes)),.p (.val (.slice none 0 0)),.p (.val (.slice none 0 0)),.vec 42 11 0 (([IOz.1]++[Jc.1]).map ai),.p (eI Ir)]),(1000000,(ae.cs J1).map .p)]⟩) Z Z) (mSq ⟨3,[3,5,7],(by4 (.some (dr [] 111000 111000)) (.some λ i=>Nat.beq i 42||Nat.beq i 53) .none .none),(λ _=>[(0,.ptr 1000000 0),(6,.ptr 6 0),(7,.ptr 7 0)]),(by4 ([(6,bv),(7,[.p (eI k_2),.p (eI 0),.p (eS IJ.1),.p (eS IJ.2.1),.p (eI 0),.p (eI 0),.p (eS ([]:Bytes)),.p (.val (.slice none 0 0)),.p (.val (.slice none 0 0)),.vec 42 11 0 (([IOz.1]++[Jc.1]).map ai),.p (eI Ir)]),(1000000,((ae.cs J1).map .p))]) ([(1000000,((ae.cs It.2).map .p)),(6,bv),(7,[.p (eI k_2),.p (eI 0),.p (eS IJ.1),.p (eS IJ.2.1),.p (eI 0),.p (eI 0),.p (eS ([]:Bytes)),.p (.val (.slice none 0 0)),.p (.val (.slice none 0 0)),.vec 42 11 0 (([IOz.1]++[Jc.1]).map ai),.p (eI Ir)])]) ([(1000000,((ae.cs It.2).map .p)),(6,bv),(7,[.p (eI k_2),.p (eI 0),.p (eS IJ.1),.p (eS IJ.2.1),.p (eI 0),.p (eI 0),.p (eS ([]:Bytes)),.p (.val (.slice none 0 0)),.p (.val (.slice none 0 0)),.p (eL ai ([IOz.1]++[Jc.1])),.p (eI Ir)])]) ([(7,[.p (eI k_2),.p (eI 0),.p (eS IJ.1),.p (eS IJ.2.1),.p (eI 0),.p (eI 0),.p (eS ([]:Bytes)),.p (.val (.slice none 0 0)),.p (.val (.slice none 0 0)),.vec 53 11 0 ((([IOz.1]++[Jc.1])++[It.1]).map ai),.p (eI Ir)]),(1000000,((ae.cs It.2).map .p)),(6,bv),(7,[.p (eI k_2),.p (eI 0),.p (eS IJ.1),.p (eS IJ.2.1),.p (eI 0),.p (eI 0),.p (eS ([]:Bytes)),.p (.val (.slice none 0 0)),.p (.val (.slice none 0 0)),.p (eL ai ([IOz.1]++[Jc.1])),.p (eI Ir)])]))⟩ Z ?_);refine dPc (.ptr 7 9) Z (dP (by4 (.vec 42 11 0 (([IOz.1]++[Jc.1]).map ai)) (.vec 42 11 0 (([IOz.1]++[Jc.1]).map ai)) (.p (eL ai ([IOz.1]++[Jc.1]))) (.p (eL ai ([IOz.1]++[Jc.1])))) Z ?_);refine dPc (.ptr 1000000 0) Z (eM (λ _=>.p (.agg (ab.cs It.1))) [(50,_)] Z ⟨.inr ⟨2,_,Z,Z,Z⟩,trivial⟩ Z Z (gx Z Z Y) (lt3 (λ h=>absurd h (by decide)) Y Y) (λ sl H2 K hK=>aj Z (bn [1000000] [] 111000 111000 (H' J1 _ LH) Z Z Z (bo (H2 _ _ Z) cX) Z ⟨sr,trivial⟩ Z Z ⟨⟨_,Z,⟨sr,sr,sr,sr,sr,sr,sr,trivial⟩⟩,trivial⟩ Z Z Z Z Z Z Z Z Tryz.call30 Z Z hK)) ?_);refine aG (λ _=>.p (eL ai [It.1])) Z Z Z (mY Z Z Z Y) (lt3 Z Z Z) (aA Z (aA Z (au [(51,_)] ⟨.inr ⟨3,_,Z,Z,Z⟩,trivial⟩ (λ sl H2 K hK=>aj Z (bF ai [It.1] Z Z Z Z Z Z (eq (H2 _ _ Z) Z fK) Z Z Z Z Z Z (by first | rfl | (simp only [bx,ld,ab.HR]; done) | (simp only [bx,ld,ab.HR]; rfl)) hK)) (aA Z aE)))) (eM (λ _=>.vec 53 11 0 ((([IOz.1]++[Jc.1])++[It.1]).map ai)) [(49,_),(52,_)] Z ⟨.inr ⟨1,_,Z,Z,Z⟩,.inr ⟨4,_,Z,Z,Z⟩,trivial⟩ Z Z (ip Z Y) (lt3 (λ h=>absurd h (by decide)) (λ h=>absurd h (by decide)) Y) (λ sl H2 K hK=>aj Z (gu ai ([IOz.1]++[Jc.1]) [It.1] Z Z Z Z Z Z Z Z (H2 _ _ Z) Z Z (H2 _ _ Z) Z (λ x=>congrArg List.length (ab.HU x)) Z Z Z Z M7 hK)) ?_);refine dPc (.ptr 7 9) Z (dS Z ?_);refine dF (nx 4 Z ?_);exact eX _ (oi h1).symm (gE Z Z)
   exact nx 2 Z (eX _ (oi h1).symm (aQ (bB 42 53 Z Z Z Z Z) (gE Z Z)))
  refine nx 3 Z (bd h1 λ r5 e6 h1=>?_);refine mO Z (cVq [1000000] [] 103000 103000 (bK _ r3.2 ([44]:Bytes) _ e6) Tryz.call43 Z ?_);refine nx 1 Z (fB [17] h1 Z (λ c7 h1=>?_) λ c7 h1=>?_)
  ·refine nx 4 Z (bd h1 λ r8 e9 h1=>?_);refine mO Z (cVq [1000000] [] 104000 104000 (aX _ r5.2 _ e9) Tryz.call44 Z ?_);refine nx 10 Z (bd h1 λ Iu JM h1=>?_);refine mO Z (cVq [1000000] [] 105000 105000 (jQ _ r8.2 _ JM) Tryz.call126 Z ?_);exact nx 3 Z (eX _ (oi h1).symm (gE Z Z))
  exact nx 2 Z (eX _ (oi h1).symm (gE Z Z))
 ·skip
  intro H7 r h0;rw [fo] at h0;refine cr good [] [1000000] Tryz.func119 Z Z Z Z Z λ w0 F=>mPo (λ v:(List ab)×ae=>.p (eL ai v.1)) (λ v=>[(1000000,((ae.cs v.2).map .p))]) ?_;refine nx 10 rfl (bd h0 λ OC h1 h0=>?_);refine kE 0 OC (λ MC=>⟨[(3,.vec 23 11 0 (MC.1.map ai))],[(1000000,[.p (eL bM MC.2.1),.p (eI MC.2.2.1),.p (eI MC.2.2.2.1),.p (eI MC.2.2.2.2.1),.p (eI MC.2.2.2.2.2.1),.p (eI MC.2.2.2.2.2.2.1),.p (eS MC.2.2.2.2.2.2.2)])]⟩) ?_ ?_
  ·exact nx 7 Z (iy h0 Z)
  refine lG (λ (KX:(List ab)×(List af)×Int×Int×Int×Int×Int×Bytes)=>⟨[(0,.ptr 1000000 0),(3,.vec 23 11 0 (KX.1.map ai))],[(1000000,[.p (eL bM KX.2.1),.p (eI KX.2.2.1),.p (eI KX.2.2.2.1),.p (eI KX.2.2.2.2.1),.p (eI KX.2.2.2.2.2.1),.p (eI KX.2.2.2.2.2.2.1),.p (eS KX.2.2.2.2.2.2.2)])]⟩) (λ m (KX:(List ab)×(List af)×Int×Int×Int×Int×Int×Bytes)=>cI n (aF n) (dA n) m KX.1 KX.2.1 KX.2.2.1 KX.2.2.2.1 KX.2.2.2.2.1 KX.2.2.2.2.2.1 KX.2.2.2.2.2.2.1 KX.2.2.2.2.2.2.2) Y ([],H7.fl,H7.fat,H7.G',H7.Gw,H7.AT.Ar,H7.AT.fAt,H7.AT.AI) h1 (cK (iF ⟨er rfl,⟨_,rfl,AV.sub_nilvec _ _ _⟩,trivial⟩ ⟨⟨_,rfl,⟨sr,sr,sr,sr,sr,sr,sr,trivial⟩⟩,trivial⟩)) ?_;rintro m ⟨Jt,Jf,Jz,JU,JG,JV,K5,K4⟩ h1;replace h1:cI n (aF n) (dA n) (m+1) Jt Jf Jz JU JG JV K5 K4=some OC:=h1;rw [cI] at h1;refine nx 2 rfl (bd h1 λ Nq h2 h1=>?_);refine kN Nq (λ Nj=>⟨[(0,.ptr 1000000 0),(3,.vec 23 11 0 (Jt.map ai)),(11,.p (eB Nj.1))],[(1000000,[.p (eL bM Nj.2.1),.p (eI Nj.2.2.1),.p (eI Nj.2.2.2.1),.p (eI Nj.2.2.2.2.1),.p (eI Nj.2.2.2.2.2.1),.p (eI Nj.2.2.2.2.2.2.1),.p (eS Nj.2.2.2.2.2.2.2)])]⟩) ?_ ?_
  ·refine nx 1 Z (fB [11] h1 Z (λ O7 h1=>?_) λ O7 h1=>?_)
   ·refine nx 7 Z (bd h1 λ JJ NT h1=>?_);refine mO Z (cVq [1000000] [] 110000 110000 (Jp (ae.mk Nq.2.1 Nq.2.2.1 Nq.2.2.2.1 Nq.2.2.2.2.1 (ap.mk Nq.2.2.2.2.2.1 Nq.2.2.2.2.2.2.1 Nq.2.2.2.2.2.2.2)) _ NT) Tryz.call128 Z ?_);refine mO Z (bF ai [JJ.1] Z Z Z Z Z Z Z Z Z Z Z Z Z (by first | rfl | (simp only [bx,ld,ab.HR]; done) | (simp only [bx,ld,ab.HR]; rfl)) ?_);refine cc' h1 λ Mi h1=>mO Z (gu ai Jt [JJ.1] Z Z Z Z Z Z Z Z Z Z Z Z Z (λ x=>congrArg List.length (ab.HU x)) Z Z Z Z Mi ?_);refine nx 5 Z (bd h1 λ Jg MM h1=>?_);refine mO Z (cVq [1000000] [] 111000 111000 (fh _ JJ.2 ([61]:Bytes) _ MM) Tryz.call45 Z ?_);refine nx 5 Z (bd h1 λ Kw O0 h1=>?_);refine mO Z (cVq [1000000] [] 112000 112000 (H' Jg _ O0) Tryz.call30 Z ?_);refine mO Z (bF ai [Kw.1] Z Z Z Z Z Z Z Z Z Z Z Z Z (by first | rfl | (simp only [bx,ld,ab.HR]; done) | (simp only [bx,ld,ab.HR]; rfl)) ?_);refine cc' h1 λ ND h1=>mO Z (gu ai (Jt++[JJ.1]) [Kw.1] Z Z Z Z Z Z Z Z Z Z Z Z Z (λ x=>congrArg List.length (ab.HU x)) Z Z Z Z ND ?_);refine nx 6 Z (bd h1 λ Kv OZ h1=>?_);refine mO Z (cVq [1000000] [] 113000 113000 (bK _ Kw.2 ([44]:Bytes) _ OZ) Tryz.call43 Z ?_);refine nx 2 Z (fB [26] h1 Z (λ c68 h1=>?_) λ c68 h1=>?_)
    ·exact nx 2 Z (eXi _ (oi h1).symm (gE Z Z))
    refine nx 4 Z (bd h1 λ Lc e70 h1=>?_);refine mO Z (cVq [1000000] [] 114000 114000 (aX _ Kv.2 _ e70) Tryz.call44 Z ?_);exact nx 1 Z (eX ((Jt++[JJ.1])++[Kw.1],Lc.2.fl,Lc.2.fat,Lc.2.G',Lc.2.Gw,Lc.2.AT.Ar,Lc.2.AT.fAt,Lc.2.AT.AI) h1 (gE Z Z))
   exact nx 2 Z (eXi _ (oi h1).symm (gE Z Z))
  refine nx 2 Z (bd h2 λ Lo NU h2=>?_);refine mO Z (cVq [1000000] [] 108000 108000 (dp (ae.mk Jf Jz JU JG (ap.mk JV K5 K4)) _ NU) Tryz.call46 Z ?_);refine nx 2 Z (fB [6,7] h2 Z (λ c46 h2=>?_) λ c46 h2=>?_)
  ·refine nx 1 Z (bd h2 λ MS e48 h2=>?_);refine mO Z (cVq [1000000] [] 109000 109000 (bK _ Lo.2 ([125]:Bytes) _ e48) Tryz.call43 Z ?_);exact nx 3 Z (eX _ (oi h2).symm (gE Z Z))
  exact nx 5 Z (eX _ (oi h2).symm (gE Z Z))
 ·skip
  intro H7 r h0;rw [dA] at h0;refine cr good [] [1000000] Tryz.func128 Z Z Z Z Z λ w0 F=>mPo (λ v:ab×ae=>.p (.agg (ab.cs v.1))) (λ v=>[(1000000,((ae.cs v.2).map .p))]) ?_;refine nx 7 rfl (bd h0 λ r1 e2 h0=>?_);refine mO rfl (cVq [1000000] [] 101000 101000 (bS _ H7 _ e2) Tryz.call31 rfl ?_);refine nx 12 rfl (fD [7,10] h0 rfl (λ c3 h0=>?_) λ c3 h0=>?_)
  ·refine nx 4 Z (bd h0 λ r4 e5 h0=>?_);refine mO Z (cVq [1000000] [] 102000 102000 (aX _ r1.2 _ e5) Tryz.call44 Z ?_);refine nx 8 Z (bd h0 λ r6 e7 h0=>?_);refine oK (fg (ah.mk 3 0 r1.1.Df [] []) r1.1.fAt _ e7) Z ⟨cR ⟨.inl Z,.inl Z,.inl Z,.inr ⟨Z,Z⟩,.inr ⟨Z,Z⟩,trivial⟩,sr,trivial⟩ Tryz.call105 Z (nx 3 Z ?_);exact iy h0 Z
  refine nx 8 Z (fD [19,22] h0 Z (λ c8 h0=>?_) λ c8 h0=>?_)
  ·refine nx 4 Z (bd h0 λ r9 J0 h0=>?_);refine mO Z (cVq [1000000] [] 103000 103000 (IP r1.2 _ J0) Tryz.call106 Z ?_);exact nx 3 Z (iy h0 Z)
  refine nx 4 Z (bd h0 λ Jh JZ h0=>?_);refine mO Z (cVq [1000000] [] 104000 104000 (bK _ r1.2 ([40]:Bytes) _ JZ) Tryz.call43 Z ?_);refine nx 2 Z (fB [25,27] h0 Z (λ JN h0=>?_) λ JN h0=>?_)
  ·refine nx 4 Z (bd h0 λ Lb Ms h0=>?_);refine mO Z (cVq [1000000] [] 105000 105000 (ez _ Jh.2 _ Ms) Tryz.call92 Z ?_);refine nx 4 Z (bd h0 λ Lg Nh h0=>?_);refine mO Z (cVq [1000000] [] 106000 106000 (H' Lb _ Nh) Tryz.call30 Z ?_);refine nx 6 Z (bd h0 λ Jw Mr h0=>?_);refine mO Z (cVq [1000000] [] 107000 107000 (dz _ Lg.2 ([41]:Bytes) _ Mr) Tryz.call93 Z ?_);exact nx 7 Z (iy h0 Z)
  refine nx 7 Z (bd h0 λ Jq Ll h0=>?_);refine mO Z (cVq [1000000] [] 108000 108000 (cp Jh.2 2 r1.1.fAt _ Ll) Tryz.call32 Z ?_);exact nx 3 Z (iy h0 Z)
theorem ve (n:Nat):∀ (H1:Bytes) (base_1:Int) (r:ab×ap),hQ n H1 base_1=some r->aB Tryz.prog 19 [eS H1,eI base_1] (·=.tuple [.p (.agg (ab.cs r.1)),.p (.agg (ap.cs r.2))]):=(qY n).2.1
def mA (n:Nat)(H1:Bytes):Option (ab×ap) :=
 (hQ n H1 0).bind λ r1 =>
 (jP n r1.1 r1.2).bind λ r3 =>
 some (r3.1,r3.2)
theorem uR (n:Nat)(H1:Bytes)(r:ab×ap)(h0:mA n H1=some r):aB Tryz.prog 7 [eS H1] (·=.tuple [.p (.agg (ab.cs r.1)),.p (.agg (ap.cs r.2))]):=by
 unfold mA at h0;refine bm good Tryz.func7 Z Z Z λ w0=>mP (λ v:ab×ap=>.tuple [.p (.agg (ab.cs v.1)),.p (.agg (ap.cs v.2))]) ?_;refine nx 8 Z (bd h0 λ r1 e2 h0=>?_);refine oK (ve _ H1 0 _ e2) Z ⟨sr,sr,trivial⟩ Tryz.call19 Z (nx 12 Z ?_);refine bd h0 λ r3 e4 h0=>oK (pA _ r1.1 r1.2 _ e4) Z ⟨sr,sr,trivial⟩ Tryz.call20 Z (nx 6 Z ?_);exact mQ (oi h0) Z (ax ⟨sr,sr,trivial⟩)
end Go.Ab.R06
end
section
namespace Go.Ab
open Go.Proofs Go.Ab
attribute [local irreducible] awp eR bq aB aV gB AV.sub
theorem kw (l:List Bytes)(H0:l.length*16<=140737488355328):aV Tryz.prog 36 [.p (eL eS l)] [] (λ x y=>x=.vec 2000000 1 0 (l.map eS)/\y=[]):=by
 refine cr good [800000] [] Tryz.func36 Z Z Z Z Z λ w0 F=>?_;refine dI ?_;refine eF ?_;refine aH Z ?_;refine dU Z Z Z Z ?_;refine cW ?_
 (repeat (first | refine bb ?_ | refine bA ?_ | refine cq ?_ | refine bz Z ?_ | refine co ?_ | refine a8 ?_ | refine bf ?_ | refine aJ ?_ | refine aT ?_ | refine aN Z ?_ | refine noGoto_ret ?_ | refine noGoto_exit ?_ | refine noGoto_normal ?_))
 refine dI ?_;refine dI ?_;refine eF ?_;refine aH Z ?_;refine b9 Z Z Z Z ?_;refine aH Z ?_;refine Dx Z Z Z Z Z Z Z Z (λ b hb=>?_);refine cW ?_
 (repeat (first | refine bb ?_ | refine bA ?_ | refine cq ?_ | refine bz Z ?_ | refine co ?_ | refine a8 ?_ | refine bf ?_ | refine aJ ?_ | refine aT ?_ | refine aN Z ?_ | refine noGoto_ret ?_ | refine noGoto_exit ?_ | refine noGoto_normal ?_))
 refine xP Z (λ hc=>?_) (λ hc=>?_)
 ·have he:l=[]:=by simpa using hb hc
  subst he;refine dI ?_;refine eF ?_;refine aH rfl ?_;refine dU Z Z Z Z ?_;refine cW ?_
  (repeat (first | refine bb ?_ | refine bA ?_ | refine cq ?_ | refine bz Z ?_ | refine co ?_ | refine a8 ?_ | refine bf ?_ | refine aJ ?_ | refine aT ?_ | refine aN Z ?_ | refine noGoto_ret ?_ | refine noGoto_exit ?_ | refine noGoto_normal ?_))
  refine qJ ?_
  (repeat (first | refine bb ?_ | refine bA ?_ | refine cq ?_ | refine bz Z ?_ | refine co ?_ | refine a8 ?_ | refine bf ?_ | refine aJ ?_ | refine aT ?_ | refine aN Z ?_ | refine noGoto_ret ?_ | refine noGoto_exit ?_ | refine noGoto_normal ?_))
  exact wN (ay _) Z Z Z Z (AV.sub_nilvec _ _ _) trivial
 ·skip
  refine nZ ?_
  (repeat (first | refine bb ?_ | refine bA ?_ | refine cq ?_ | refine bz Z ?_ | refine co ?_ | refine a8 ?_ | refine bf ?_ | refine aJ ?_ | refine aT ?_ | refine aN Z ?_ | refine noGoto_ret ?_ | refine noGoto_exit ?_ | refine noGoto_normal ?_))
  refine dI ?_;refine eF ?_;refine aH Z ?_;refine Cz Z Z Z Z Z Z Z 5 1 ?_;refine aH Z ?_;refine b9 Z Z Z Z ?_;refine aH Z ?_;refine gu eS [] l Z Z Z Z Z Z Z Z Z Z Z Z Z Y Z Z Z Z (by simpa using H0) ?_;refine aH Z ?_;refine dU Z Z Z Z ?_;refine cW ?_
  (repeat (first | refine bb ?_ | refine bA ?_ | refine cq ?_ | refine bz Z ?_ | refine co ?_ | refine a8 ?_ | refine bf ?_ | refine aJ ?_ | refine aT ?_ | refine aN Z ?_ | refine noGoto_ret ?_ | refine noGoto_exit ?_ | refine noGoto_normal ?_))
  refine qJ ?_
  (repeat (first | refine bb ?_ | refine bA ?_ | refine cq ?_ | refine bz Z ?_ | refine co ?_ | refine a8 ?_ | refine bf ?_ | refine aJ ?_ | refine aT ?_ | refine aN Z ?_ | refine noGoto_ret ?_ | refine noGoto_exit ?_ | refine noGoto_normal ?_))
  exact wN (bB 7 800000 Z Z Z Z Z) Z Z Z Z (AV.sub_refl _) trivial
end Go.Ab
end
section
namespace Go.Ab.R06
open Go.Proofs Go.Ab
attribute [local irreducible] awp eR bq aB aV gB AV.sub
def iK (l:List Bytes):Option (List Bytes):=ck (l.length*16<=140737488355328) <| some l
theorem lq (l r:List Bytes)(h:iK l=some r):aV Tryz.prog 36 [.p (eL eS l)] [] (λ x y=>x=.vec 2000000 1 0 (r.map eS)/\y=[]):=by
 obtain ⟨h1,h2⟩:=fe h
 cases h2
 exact kw l h1
theorem yp:aB Tryz.prog 24 [eL ai []] (·=.tuple []):=by
 refine bm good Tryz.func24 Z Z Z λ w0=>?_;refine dI ?_;refine eF ?_;refine aH Z ?_;refine b9 Z Z Z Z ?_;refine aH Z ?_;refine kP (f:=ai) (l:=[]) Z Z Z Z Z Z Z ?_;refine aH Z ?_;refine dV Z Z Z Z Z Z ⟨by decide,by decide⟩ ?_;refine aH Z ?_;refine dU Z Z Z Z ?_;refine aH Z ?_;refine dU Z Z Z Z ?_;refine cW ?_
 (repeat (first | refine bb ?_ | refine bA ?_ | refine cq ?_ | refine bz Z ?_ | refine co ?_ | refine a8 ?_ | refine bf ?_ | refine aJ ?_ | refine aT ?_ | refine aN Z ?_ | refine noGoto_ret ?_ | refine noGoto_exit ?_ | refine noGoto_normal ?_))
 refine kG ?_;refine pS (λ _:Unit=>⟨[(2,.p (eI 0)),(3,.p (eI (-1)))],[]⟩) (λ m _=>match m with | 0=>none | _+1=>some ()) Y (o:=()) (n:=1) () rfl (cK (iF ⟨⟨_,rfl,AV.sub_refl _⟩,⟨_,rfl,AV.sub_refl _⟩,trivial⟩ trivial)) ?_;rintro m ⟨⟩ h;refine dI ?_;refine dI ?_;refine eF ?_;refine aH rfl ?_;refine b9 rfl rfl rfl rfl ?_;refine aH rfl ?_;refine b9 rfl rfl rfl rfl ?_;refine aH rfl ?_;refine mM rfl rfl rfl rfl rfl rfl ?_;refine cW ?_
 (repeat (first | refine bb ?_ | refine bA ?_ | refine cq ?_ | refine bz Z ?_ | refine co ?_ | refine a8 ?_ | refine bf ?_ | refine aJ ?_ | refine aT ?_ | refine aN Z ?_ | refine noGoto_ret ?_ | refine noGoto_exit ?_ | refine noGoto_normal ?_))
 refine Gt Z (by decide) ?_;refine pE ?_
 (repeat (first | refine bb ?_ | refine bA ?_ | refine cq ?_ | refine bz Z ?_ | refine co ?_ | refine a8 ?_ | refine bf ?_ | refine aJ ?_ | refine aT ?_ | refine aN Z ?_ | refine noGoto_ret ?_ | refine noGoto_exit ?_ | refine noGoto_normal ?_))
 refine FC Z ?_;exact AV.sub_refl _
def jp:Nat->Int->Int->List ab->Option (List ab)
 | 0,_,_,_=>none
 | m+1,i,j,l=>if i < j then ck ((0:Int)<=j/\j < (l.length:Int)) <| ck ((0:Int)<=i/\i < (l.length:Int)) <| ck (inR (i+1)) <| ck (inR (j - 1)) <| jp m (i+1) (j - 1) ((l.set i.toNat (lat l j)).set j.toNat (lat l i))
  else some l
def gi (n:Nat)(l:List ab):Option (List ab):=ck (inR ((l.length:Int) - 1)) <| jp n 0 ((l.length:Int) - 1) l
theorem xR (n:Nat)(l r:List ab)(h0:gi n l=some r):aV Tryz.prog 24 [.arr 1000000 11 0 l.length] [(1000000,jU ai l)] (λ x y=>x=.tuple []/\y=[(1000000,jU ai r)]):=by
 unfold gi at h0;obtain ⟨hr,h0⟩:=fe h0;refine cr good [] [1000000] Tryz.func24 Z Z Z Z Z λ w0 F=>?_;refine dI ?_;refine eF ?_;refine aH rfl ?_;refine b9 Z Z Z Z ?_;refine aH rfl ?_;refine AR Z Z Z Z Z Z ?_;refine aH rfl ?_;refine dV Z Z Z Z Z Z hr ?_;refine aH rfl ?_;refine dU Z Z Z Z ?_;refine aH rfl ?_;refine dU Z Z Z Z ?_;refine cW ?_
 (repeat (first | refine bb ?_ | refine bA ?_ | refine cq ?_ | refine bz Z ?_ | refine co ?_ | refine a8 ?_ | refine bf ?_ | refine aJ ?_ | refine aT ?_ | refine aN Z ?_ | refine noGoto_ret ?_ | refine noGoto_exit ?_ | refine noGoto_normal ?_))
 refine kG ?_;refine pS (λ q:Int×Int×List ab=>⟨[(0,.arr 1000000 11 0 q.2.2.length),(2,.p (eI q.1)),(3,.p (eI q.2.1))],[(1000000,jU ai q.2.2)]⟩) (λ m q=>jp m q.1 q.2.1 q.2.2) Y (0,(l.length:Int) - 1,l) h0 (cK (iF ⟨⟨_,Z,AV.sub_refl _⟩,⟨_,Z,AV.sub_refl _⟩,⟨_,Z,AV.sub_refl _⟩,trivial⟩ ⟨⟨_,Z,aC _⟩,trivial⟩)) ?_
 clear h0 hr
 rintro m ⟨i,j,l⟩ h0;replace h0:jp (m+1) i j l=some r:=h0;rw [jp] at h0;refine dI ?_;refine dI ?_;refine eF ?_;refine aH rfl ?_;refine b9 rfl rfl rfl rfl ?_;refine aH rfl ?_;refine b9 rfl rfl rfl rfl ?_;refine aH rfl ?_;refine mM rfl rfl rfl rfl rfl rfl ?_;refine cW ?_
 (repeat (first | refine bb ?_ | refine bA ?_ | refine cq ?_ | refine bz Z ?_ | refine co ?_ | refine a8 ?_ | refine bf ?_ | refine aJ ?_ | refine aT ?_ | refine aN Z ?_ | refine noGoto_ret ?_ | refine noGoto_exit ?_ | refine noGoto_normal ?_))
 refine GF Z (λ c=>?_) (λ c=>?_)
 rotate_left
 ·replace h0:=zr c h0
  cases h0
  refine pE ?_
  (repeat (first | refine bb ?_ | refine bA ?_ | refine cq ?_ | refine bz Z ?_ | refine co ?_ | refine a8 ?_ | refine bf ?_ | refine aJ ?_ | refine aT ?_ | refine aN Z ?_ | refine noGoto_ret ?_ | refine noGoto_exit ?_ | refine noGoto_normal ?_))
  exact AJ (ay _) Z Z Z (av Z (az _) Z) (AV.sub_refl _) ⟨⟨_,Z,aC _⟩,trivial⟩
 replace h0:=vb c h0;obtain ⟨hj,h0⟩:=fe h0;obtain ⟨hi,h0⟩:=fe h0;obtain ⟨hi2,h0⟩:=fe h0;obtain ⟨hj2,h0⟩:=fe h0;refine nZ ?_
 (repeat (first | refine bb ?_ | refine bA ?_ | refine cq ?_ | refine bz Z ?_ | refine co ?_ | refine a8 ?_ | refine bf ?_ | refine aJ ?_ | refine aT ?_ | refine aN Z ?_ | refine noGoto_ret ?_ | refine noGoto_exit ?_ | refine noGoto_normal ?_))
 refine dI ?_;refine kG ?_;refine jT (cK (t:=⟨[(0,.arr 1000000 11 0 l.length),(2,.p (eI i)),(3,.p (eI j))],[(1000000,jU ai l)]⟩) (iF ⟨⟨_,Z,AV.sub_refl _⟩,⟨_,Z,AV.sub_refl _⟩,⟨_,Z,AV.sub_refl _⟩,trivial⟩ ⟨⟨_,Z,aC _⟩,trivial⟩)) ?_;refine vp ⟨2,[13,15],(λ _=>.none),(λ _=>[(0,.arr 1000000 11 0 l.length),(2,.p (eI i)),(3,.p (eI j))]),(by3 ([(1000000,jU ai l)]) ([(1000000,jU ai (l.set i.toNat (lat l j))),(1000000,jU ai l)]) ([(1000000,jU ai ((l.set i.toNat (lat l j)).set j.toNat (lat l i))),(1000000,jU ai (l.set i.toNat (lat l j))),(1000000,jU ai l)]))⟩ Z Z Z ⟨Z,Z,Z,trivial⟩ (lt2 ⟨Z,Z,Z,trivial⟩ ⟨Z,Z,Z,trivial⟩) Z Z Z Z ?_;refine aG (λ _=>.arr 1000000 11 0 l.length) Z Z Z (gx Z Z Y) (lt2 Z Z) (aA Z (aA Z (au [(0,.arr 1000000 11 0 l.length)] ⟨.inl Z,trivial⟩ (λ sl H2 K hK=>aj Z (b9 Z Z Z (H2 _ _ Z) hK)) aE))) ?_;refine aG (λ _=>.p (eI i)) Z Z Z (gx Z Z Y) (lt2 Z Z) (aA Z (aA Z (au [(2,.p (eI i))] ⟨.inl Z,trivial⟩ (λ sl H2 K hK=>aj Z (b9 Z Z Z (H2 _ _ Z) hK)) aE))) ?_;refine aG (λ _=>.arr 1000000 11 0 l.length) Z Z Z (gx Z Z Y) (lt2 Z Z) (aA Z (au [(0,.arr 1000000 11 0 l.length)] ⟨.inl Z,trivial⟩ (λ sl H2 K hK=>aj Z (b9 Z Z Z (H2 _ _ Z) hK)) (au [(0,.arr 1000000 11 0 l.length)] ⟨.inl Z,trivial⟩ (λ sl H2 K hK=>aj Z (b9 Z Z Z (H2 _ _ Z) hK)) aE))) ?_;refine aG (λ _=>.p (eI j)) Z Z Z (gx Z Z Y) (lt2 Z Z) (aA Z (au [(3,.p (eI j))] ⟨.inl Z,trivial⟩ (λ sl H2 K hK=>aj Z (b9 Z Z Z (H2 _ _ Z) hK)) (au [(3,.p (eI j))] ⟨.inl Z,trivial⟩ (λ sl H2 K hK=>aj Z (b9 Z Z Z (H2 _ _ Z) hK)) aE))) ?_;refine aG (λ _=>.arr 1000000 11 0 l.length) Z Z Z (gx Z Z Y) (lt2 Z Z) (aA Z (aA Z (au [(0,.arr 1000000 11 0 l.length)] ⟨.inl Z,trivial⟩ (λ sl H2 K hK=>aj Z (b9 Z Z Z (H2 _ _ Z) hK)) aE))) ?_;refine aG (λ _=>.p (eI j)) Z Z Z (gx Z Z Y) (lt2 Z Z) (aA Z (aA Z (au [(3,.p (eI j))] ⟨.inl Z,trivial⟩ (λ sl H2 K hK=>aj Z (b9 Z Z Z (H2 _ _ Z) hK)) aE))) ?_;refine aG (λ _=>.ptr 1000000 (0+j.toNat*11)) Z Z Z (gx Z Z Y) (lt2 Z Z) (aA Z (aA Z (au [(18,.arr 1000000 11 0 l.length),(19,.p (eI j))] ⟨.inr ⟨4,_,Z,Z,Z⟩,.inr ⟨5,_,Z,Z,Z⟩,trivial⟩ (λ sl H2 K hK=>aj Z (jt (id:=1000000) (sz:=11) (off:=0) Z Z Z Z Z Z (H2 _ _ Z) (H2 _ _ Z) Z hj hK)) aE))) ?_;refine aG (λ _=>.p (.agg (ab.cs (lat l j)))) Z Z Z (gx Z Z Y) (lt2 Z Z) (aA Z (aA Z (au [(20,.ptr 1000000 (0+j.toNat*11))] ⟨.inr ⟨6,_,Z,Z,Z⟩,trivial⟩ (λ sl H2 K hK=>aj Z (ut ai ab.cs l Z Z Z Z Z (H2 _ _ Z) Z Z Z hj ab.HU Y hK)) aE))) ?_;refine aG (λ _=>.arr 1000000 11 0 l.length) Z Z Z (gx Z Z Y) (lt2 Z Z) (aA Z (au [(0,.arr 1000000 11 0 l.length)] ⟨.inl Z,trivial⟩ (λ sl H2 K hK=>aj Z (b9 Z Z Z (H2 _ _ Z) hK)) (au [(0,.arr 1000000 11 0 l.length)] ⟨.inl Z,trivial⟩ (λ sl H2 K hK=>aj Z (b9 Z Z Z (H2 _ _ Z) hK)) aE))) ?_;refine aG (λ _=>.p (eI i)) Z Z Z (gx Z Z Y) (lt2 Z Z) (aA Z (au [(2,.p (eI i))] ⟨.inl Z,trivial⟩ (λ sl H2 K hK=>aj Z (b9 Z Z Z (H2 _ _ Z) hK)) (au [(2,.p (eI i))] ⟨.inl Z,trivial⟩ (λ sl H2 K hK=>aj Z (b9 Z Z Z (H2 _ _ Z) hK)) aE))) ?_;refine aG (λ _=>.ptr 1000000 (0+i.toNat*11)) Z Z Z (gx Z Z Y) (lt2 Z Z) (aA Z (au [(22,.arr 1000000 11 0 l.length),(23,.p (eI i))] ⟨.inr ⟨8,_,Z,Z,Z⟩,.inr ⟨9,_,Z,Z,Z⟩,trivial⟩ (λ sl H2 K hK=>aj Z (jt (id:=1000000) (sz:=11) (off:=0) Z Z Z Z Z Z (H2 _ _ Z) (H2 _ _ Z) Z hi hK)) (au [(22,.arr 1000000 11 0 l.length),(23,.p (eI i))] ⟨.inr ⟨8,_,Z,Z,Z⟩,.inr ⟨9,_,Z,Z,Z⟩,trivial⟩ (λ sl H2 K hK=>aj Z (jt (id:=1000000) (sz:=11) (off:=0) Z Z Z Z Z Z (H2 _ _ Z) (H2 _ _ Z) Z hi hK)) aE))) ?_;refine aG (λ _=>.p (.agg (ab.cs (lat l i)))) Z Z Z (gx Z Z Y) (lt2 Z Z) (aA Z (aA Z (au [(24,.ptr 1000000 (0+i.toNat*11))] ⟨.inr ⟨10,_,Z,Z,Z⟩,trivial⟩ (λ sl H2 K hK=>aj Z (ut ai ab.cs l Z Z Z Z Z (H2 _ _ Z) Z Z Z hi ab.HU Y hK)) aE))) ?_;refine aG (λ _=>.ptr 1000000 (0+i.toNat*11)) Z Z Z (gx Z Z Y) (lt2 Z Z) (aA Z (aA Z (au [(14,.arr 1000000 11 0 l.length),(15,.p (eI i))] ⟨.inr ⟨0,_,Z,Z,Z⟩,.inr ⟨1,_,Z,Z,Z⟩,trivial⟩ (λ sl H2 K hK=>aj Z (jt (id:=1000000) (sz:=11) (off:=0) Z Z Z Z Z Z (H2 _ _ Z) (H2 _ _ Z) Z hi hK)) aE))) ?_;refine iR [(21,.p (.agg (ab.cs (lat l j)))),(26,.ptr 1000000 (0+i.toNat*11))] Z ⟨.inr ⟨7,_,Z,Z,Z⟩,.inr ⟨12,_,Z,Z,Z⟩,trivial⟩ Z (λ sl H2 K hK=>aj Z (rZ ai ab.cs l (lat l j) (n:=i) Z Z Z (H2 _ _ Z) (H2 _ _ Z) Z Z Z hi ab.HU Y Y hK)) ?_;refine aG (λ _=>.ptr 1000000 (0+j.toNat*11)) Z Z Z (gx Z Z Y) (lt2 Z Z) (aA Z (au [(16,.arr 1000000 11 0 l.length),(17,.p (eI j))] ⟨.inr ⟨2,_,Z,Z,Z⟩,.inr ⟨3,_,Z,Z,Z⟩,trivial⟩ (λ sl H2 K hK=>aj Z (jt (id:=1000000) (sz:=11) (off:=0) Z Z Z Z Z Z (H2 _ _ Z) (H2 _ _ Z) Z hj hK)) (aA Z aE))) ?_;refine iR [(25,.p (.agg (ab.cs (lat l i)))),(27,.ptr 1000000 (0+j.toNat*11))] Z ⟨.inr ⟨11,_,Z,Z,Z⟩,.inr ⟨14,_,Z,Z,Z⟩,trivial⟩ Z (λ sl H2 K hK=>aj Z (rZ ai ab.cs (l.set i.toNat (lat l j)) (lat l i) (n:=j) Z Z Z (H2 _ _ Z) (H2 _ _ Z) Z Z Z (by simpa using hj) ab.HU Y Y hK)) ?_;refine dF ?_
 (repeat (first | refine bb ?_ | refine bA ?_ | refine cq ?_ | refine bz Z ?_ | refine co ?_ | refine a8 ?_ | refine bf ?_ | refine aJ ?_ | refine aT ?_ | refine aN Z ?_ | refine noGoto_ret ?_ | refine noGoto_exit ?_ | refine noGoto_normal ?_))
 refine eF ?_;refine aH Z ?_;refine b9 Z Z Z Z ?_;refine aH Z ?_;refine dV Z Z Z Z Z Z hi2 ?_;refine aH Z ?_;refine b9 Z Z Z Z ?_;refine aH Z ?_;refine dV Z Z Z Z Z Z hj2 ?_;refine aH Z ?_;refine dU Z Z Z Z ?_;refine aH Z ?_;refine dU Z Z Z Z ?_;refine cW ?_
 (repeat (first | refine bb ?_ | refine bA ?_ | refine cq ?_ | refine bz Z ?_ | refine co ?_ | refine a8 ?_ | refine bf ?_ | refine aJ ?_ | refine aT ?_ | refine aN Z ?_ | refine noGoto_ret ?_ | refine noGoto_exit ?_ | refine noGoto_normal ?_))
 exact ⟨(i+1,j - 1,((l.set i.toNat (lat l j)).set j.toNat (lat l i))),h0,cK (iF ⟨⟨_,Z,AV.sub_of_eq G⟩,⟨_,Z,AV.sub_refl _⟩,⟨_,Z,AV.sub_refl _⟩,trivial⟩ ⟨⟨_,Z,aC _⟩,trivial⟩)⟩
def chS:List ab->AV
 | []=>.p (.val (.slice none 0 0))
 | _::r=>.arr 22 11 0 (r.length+1)
def chO:List ab->List (Nat×List AV)
 | []=>[]
 | x::r=>[(22,jU ai (x::r))]
theorem wG {n:Nat}{r:List ab}(h:gi n []=some r):r=[]:=by
 unfold gi at h;obtain ⟨_,h⟩:=fe h
 cases n with
 | zero=>cases h
 | succ n=>rw [jp,if_neg G] at h; cases h; rfl
theorem zU:∀ {m:Nat} {i j:Int} {l r:List ab},jp m i j l=some r->r.length=l.length
 | 0,_,_,_,_,h=>by cases h
 | m+1,i,j,l,r,h=>by
  rw [jp] at h;split at h
  ·obtain ⟨_,h⟩:=fe h;obtain ⟨_,h⟩:=fe h;obtain ⟨_,h⟩:=fe h;obtain ⟨_,h⟩:=fe h;rw [zU h]; simp
  ·cases h; rfl
theorem w5 {n:Nat}{l r:List ab}(h:gi n l=some r):r.length=l.length:=by
 unfold gi at h;obtain ⟨_,h⟩:=fe h;exact zU h
def cy:Nat->(List ab)->Int->Int->Bytes->Bytes->Int->Int->Bytes->(List ah)->(List Bytes)->(List ab)->Int->Option ((List ab)×Int×Int×Bytes×Bytes×Int×Int×Bytes×(List ah)×(List Bytes)×(List ab)×Int)
 | 0,_,_,_,_,_,_,_,_,_,_,_,_=>none
 | m+1,steps19,KC,f21,KJ,LG,LF,LE,LD,J9,KB,IW,LC =>
 (
   if KC=4 then
    some (decide (0 < (IW.length:Int)))
   else
    if KC=5 then
     some (decide (0 < (IW.length:Int)))
    else
     some false
  : Option Bool).bind λ t33 =>
 if t33=true then
  ck ((steps19.length+[(ab.mk KC f21 KJ LG (ah.mk LF LE LD J9 KB) IW LC)].length)*160<=140737488355328) <|
  ck ((0:Int)<=0/\0 < (IW.length:Int)) <|
  cy m (steps19++[(ab.mk KC f21 KJ LG (ah.mk LF LE LD J9 KB) IW LC)]) ((lat IW 0).Ar) ((lat IW 0).fOp) ((lat IW 0).AI) ((lat IW 0).E') (((lat IW 0).A').Ar) (((lat IW 0).A').F') (((lat IW 0).A').HT) (((lat IW 0).A').HQ) (((lat IW 0).A').D') ((lat IW 0).By) ((lat IW 0).fAt)
 else
  some (steps19,KC,f21,KJ,LG,LF,LE,LD,J9,KB,IW,LC)
def dZ (n:Nat)(H9:ab):Option (ab×(List ab)) :=
 (cy n [] H9.Ar H9.fOp H9.AI H9.E' H9.A'.Ar H9.A'.F' H9.A'.HT H9.A'.HQ H9.A'.D' H9.By H9.fAt).bind λ LM =>
 (gi n LM.1).bind λ Jg =>
 some ((ab.mk LM.2.1 LM.2.2.1 LM.2.2.2.1 LM.2.2.2.2.1 (ah.mk LM.2.2.2.2.2.1 LM.2.2.2.2.2.2.1 LM.2.2.2.2.2.2.2.1 LM.2.2.2.2.2.2.2.2.1 LM.2.2.2.2.2.2.2.2.2.1) LM.2.2.2.2.2.2.2.2.2.2.1 LM.2.2.2.2.2.2.2.2.2.2.2),Jg)
theorem mg (n:Nat)(H9:ab)(r:ab×(List ab))(h0:dZ n H9=some r):aB Tryz.prog 15 [.agg (ab.cs H9)] (·=.tuple [.p (.agg (ab.cs r.1)),.p (eL ai r.2)]):=by
 unfold dZ at h0;refine bm good Tryz.func15 Z Z Z λ w0=>?_;refine dI ?_;refine eF ?_;refine aH rfl ?_;refine w4 Z Z Z Z Z ?_;refine aH rfl ?_;refine io Z Z Z Z Z ?_;refine aH rfl ?_;refine dU Z Z Z Z ?_;refine cW ?_;refine dI ?_;refine eF ?_;refine aH rfl ?_;refine dU Z Z Z Z ?_;refine cW ?_;refine dI ?_;refine kG ?_;obtain ⟨KF,h1,h0⟩:=uy h0;refine BK 0 ⟨[(1,.ptr 1 0),(2,.ptr 2 0),(4,chS KF.1)],(1,[.p (eI KF.2.1),.p (eI KF.2.2.1),.p (eS KF.2.2.2.1),.p (eS KF.2.2.2.2.1),.p (eI KF.2.2.2.2.2.1),.p (eI KF.2.2.2.2.2.2.1),.p (eS KF.2.2.2.2.2.2.2.1),.p (eL dv KF.2.2.2.2.2.2.2.2.1),.p (eL eS KF.2.2.2.2.2.2.2.2.2.1),.p (eL ai KF.2.2.2.2.2.2.2.2.2.2.1),.p (eI KF.2.2.2.2.2.2.2.2.2.2.2)])::(2,[.p (eI 0),.p (eI 0),.p (eS ([]:Bytes)),.p (eS ([]:Bytes)),.p (eI 0),.p (eI 0),.p (eS ([]:Bytes)),.p (.val (.slice none 0 0)),.p (.val (.slice none 0 0)),.p (.val (.slice none 0 0)),.p (eI 0)])::chO KF.1⟩ ?_ ?_
 ·intro s' hle
  (repeat (first | refine bb ?_ | refine bA ?_ | refine cq ?_ | refine bz Z ?_ | refine co ?_ | refine a8 ?_ | refine bf ?_ | refine aJ ?_ | refine aT ?_ | refine aN Z ?_ | refine noGoto_ret ?_ | refine noGoto_exit ?_ | refine noGoto_normal ?_))
  refine jT hle ?_
  (repeat (first | refine bb ?_ | refine bA ?_ | refine cq ?_ | refine bz Z ?_ | refine co ?_ | refine a8 ?_ | refine bf ?_ | refine aJ ?_ | refine aT ?_ | refine aN Z ?_ | refine noGoto_ret ?_ | refine noGoto_exit ?_ | refine noGoto_normal ?_))
  obtain ⟨l65,hl65⟩:∃ l,l=KF.1:=⟨_,rfl⟩
  rw [<- hl65];replace h0:=h0;obtain ⟨Jg,MM,h0⟩:=uy h0;rw [<- hl65] at MM;rcases l65 with _ | ⟨s65,ss65⟩
  ·have hr:=wG MM;subst hr;refine dI ?_;refine eF ?_;refine aH Z ?_;refine b9 Z Z Z Z ?_;refine aH Z ?_;refine fj yp Z Z Z Z ⟨fT _,trivial⟩ Tryz.call24 Z ?_;refine cW ?_
   (repeat (first | refine bb ?_ | refine bA ?_ | refine cq ?_ | refine bz Z ?_ | refine co ?_ | refine a8 ?_ | refine bf ?_ | refine aJ ?_ | refine aT ?_ | refine aN Z ?_ | refine noGoto_ret ?_ | refine noGoto_exit ?_ | refine noGoto_normal ?_))
   refine dI ?_;refine eF ?_;refine aH Z ?_;refine jf Z Z Z Z Z Z Z Z Z ?_;refine aH Z ?_;refine b9 Z Z Z Z ?_;refine aH Z ?_;refine il Z Z Z Z Z Z Z Z (th Z) ?_;refine aH Z ?_;refine dU Z Z Z Z ?_;refine cW ?_
   (repeat (first | refine bb ?_ | refine bA ?_ | refine cq ?_ | refine bz Z ?_ | refine co ?_ | refine a8 ?_ | refine bf ?_ | refine aJ ?_ | refine aT ?_ | refine aN Z ?_ | refine noGoto_ret ?_ | refine noGoto_exit ?_ | refine noGoto_normal ?_))
   refine qJ ?_
   (repeat (first | refine bb ?_ | refine bA ?_ | refine cq ?_ | refine bz Z ?_ | refine co ?_ | refine a8 ?_ | refine bf ?_ | refine aJ ?_ | refine aT ?_ | refine aN Z ?_ | refine noGoto_ret ?_ | refine noGoto_exit ?_ | refine noGoto_normal ?_))
   have e0:=Option.some.inj h0;subst e0;refine wH Z ?_;exact ax ⟨AV.sub_refl _,fT _,trivial⟩
  ·have hr:=w5 MM;refine dI ?_;refine eF ?_;refine aH Z ?_;refine b9 Z Z Z Z ?_;refine aH Z ?_;refine bn [22] [] 700000 700000 (xR _ _ _ MM) Z Z Z Z Z ⟨AV.sub_refl _,trivial⟩ Z (av Z (az _) Z) ⟨⟨_,Z,aC _⟩,trivial⟩ Z Z Z Z Z Z Z Z Tryz.call24 Z (av Z (az _) Z) ?_;refine cW ?_
   (repeat (first | refine bb ?_ | refine bA ?_ | refine cq ?_ | refine bz Z ?_ | refine co ?_ | refine a8 ?_ | refine bf ?_ | refine aJ ?_ | refine aT ?_ | refine aN Z ?_ | refine noGoto_ret ?_ | refine noGoto_exit ?_ | refine noGoto_normal ?_))
   refine dI ?_;refine eF ?_;refine aH Z ?_;refine jf Z Z Z Z Z Z Z Z Z ?_;refine aH Z ?_;refine b9 Z Z Z Z ?_;refine aH Z ?_;refine il Z Z Z Z Z Z Z Z (th Z) ?_;refine aH Z ?_;refine dU Z Z Z Z ?_;refine cW ?_
   (repeat (first | refine bb ?_ | refine bA ?_ | refine cq ?_ | refine bz Z ?_ | refine co ?_ | refine a8 ?_ | refine bf ?_ | refine aJ ?_ | refine aT ?_ | refine aN Z ?_ | refine noGoto_ret ?_ | refine noGoto_exit ?_ | refine noGoto_normal ?_))
   refine jT (u6 3 (f:=ai) (l:=Jg) Z (by rw [hr]; rfl) Z Z Z (λ x=>⟨congrArg List.length (ab.HU x),by rw [ab.HU]; rfl⟩)) ?_;refine qJ ?_
   (repeat (first | refine bb ?_ | refine bA ?_ | refine cq ?_ | refine bz Z ?_ | refine co ?_ | refine a8 ?_ | refine bf ?_ | refine aJ ?_ | refine aT ?_ | refine aN Z ?_ | refine noGoto_ret ?_ | refine noGoto_exit ?_ | refine noGoto_normal ?_))
   have e0:=Option.some.inj h0;subst e0;refine wH Z ?_;exact ax ⟨AV.sub_refl _,AV.sub_refl _,trivial⟩
 ·skip
  refine pS (λ (J2:(List ab)×Int×Int×Bytes×Bytes×Int×Int×Bytes×(List ah)×(List Bytes)×(List ab)×Int)=>⟨[(1,.ptr 1 0),(2,.ptr 2 0),(4,chS J2.1)],(1,[.p (eI J2.2.1),.p (eI J2.2.2.1),.p (eS J2.2.2.2.1),.p (eS J2.2.2.2.2.1),.p (eI J2.2.2.2.2.2.1),.p (eI J2.2.2.2.2.2.2.1),.p (eS J2.2.2.2.2.2.2.2.1),.p (eL dv J2.2.2.2.2.2.2.2.2.1),.p (eL eS J2.2.2.2.2.2.2.2.2.2.1),.p (eL ai J2.2.2.2.2.2.2.2.2.2.2.1),.p (eI J2.2.2.2.2.2.2.2.2.2.2.2)])::(2,[.p (eI 0),.p (eI 0),.p (eS ([]:Bytes)),.p (eS ([]:Bytes)),.p (eI 0),.p (eI 0),.p (eS ([]:Bytes)),.p (.val (.slice none 0 0)),.p (.val (.slice none 0 0)),.p (.val (.slice none 0 0)),.p (eI 0)])::chO J2.1⟩) (λ m (J2:(List ab)×Int×Int×Bytes×Bytes×Int×Int×Bytes×(List ah)×(List Bytes)×(List ab)×Int)=>cy m J2.1 J2.2.1 J2.2.2.1 J2.2.2.2.1 J2.2.2.2.2.1 J2.2.2.2.2.2.1 J2.2.2.2.2.2.2.1 J2.2.2.2.2.2.2.2.1 J2.2.2.2.2.2.2.2.2.1 J2.2.2.2.2.2.2.2.2.2.1 J2.2.2.2.2.2.2.2.2.2.2.1 J2.2.2.2.2.2.2.2.2.2.2.2) Y ([],H9.Ar,H9.fOp,H9.AI,H9.E',H9.A'.Ar,H9.A'.F',H9.A'.HT,H9.A'.HQ,H9.A'.D',H9.By,H9.fAt) h1 (cK (iF ⟨⟨_,rfl,AV.sub_refl _⟩,⟨_,rfl,AV.sub_refl _⟩,⟨_,rfl,AV.sub_refl _⟩,trivial⟩ ⟨⟨_,rfl,⟨AV.sub_refl _,AV.sub_refl _,AV.sub_refl _,AV.sub_refl _,AV.sub_refl _,AV.sub_refl _,AV.sub_refl _,AV.sub_refl _,AV.sub_refl _,AV.sub_refl _,AV.sub_refl _,trivial⟩⟩,⟨_,rfl,⟨AV.sub_refl _,AV.sub_refl _,AV.sub_refl _,AV.sub_refl _,AV.sub_refl _,AV.sub_refl _,AV.sub_refl _,AV.sub_refl _,AV.sub_refl _,AV.sub_refl _,AV.sub_refl _,trivial⟩⟩,trivial⟩)) ?_;rintro m ⟨steps19,KC,f21,KJ,LG,LF,LE,LD,J9,KB,IW,LC⟩ h1;replace h1:cy (m+1) steps19 KC f21 KJ LG LF LE LD J9 KB IW LC=some KF:=h1;rw [cy] at h1;rcases steps19 with _ | ⟨s19,ss19⟩
  ·refine dI ?_;refine dI ?_;obtain ⟨OF,h2,h1⟩:=uy h1;refine vR ⟨[(1,.ptr 1 0),(2,.ptr 2 0),(4,chS []),(18,.p (eB OF))],(1,[.p (eI KC),.p (eI f21),.p (eS KJ),.p (eS LG),.p (eI LF),.p (eI LE),.p (eS LD),.p (eL dv J9),.p (eL eS KB),.p (eL ai IW),.p (eI LC)])::(2,[.p (eI 0),.p (eI 0),.p (eS ([]:Bytes)),.p (eS ([]:Bytes)),.p (eI 0),.p (eI 0),.p (eS ([]:Bytes)),.p (.val (.slice none 0 0)),.p (.val (.slice none 0 0)),.p (.val (.slice none 0 0)),.p (eI 0)])::chO []⟩ ?_ ?_
   ·intro s' hle
    (repeat (first | refine bb ?_ | refine bA ?_ | refine cq ?_ | refine bz Z ?_ | refine co ?_ | refine a8 ?_ | refine bf ?_ | refine aJ ?_ | refine aT ?_ | refine aN Z ?_ | refine noGoto_ret ?_ | refine noGoto_exit ?_ | refine noGoto_normal ?_))
    refine jT hle ?_;refine xP Z (λ Mu=>?_) (λ Mu=>?_)
    ·replace h1:=vb Mu h1;refine nZ ?_;refine kG ?_;refine dI ?_;refine eF ?_;refine aH rfl ?_;refine b9 Z Z Z Z ?_;refine aH rfl ?_;refine jf Z Z Z Z Z Z Z Z Z ?_;refine aH rfl ?_;refine bF ai [(ab.mk KC f21 KJ LG (ah.mk LF LE LD J9 KB) IW LC)] Z Z Z Z Z Z Z Z Z Z Z Z Z (by first | rfl | (simp only [bx,ld,ab.HR]; done) | (simp only [bx,ld,ab.HR]; rfl)) ?_;obtain ⟨h35,h1⟩:=fe h1;refine aH rfl ?_;refine ED ai [(ab.mk KC f21 KJ LG (ah.mk LF LE LD J9 KB) IW LC)] Z Z Z Z Z Z Z Z Z Z Z Z (λ x=>congrArg List.length (ab.HU x)) (Nat.lt_succ_self 0) Z Z Z (by simp) ?_;refine aH rfl ?_;refine dU Z Z Z Z ?_;refine cW ?_;refine eF ?_;refine aH rfl ?_;refine cg Z Z Z Z Z Z Z Z Z ?_;refine aH rfl ?_;refine ef Z Z Z Z Z Z Z Z ?_;obtain ⟨h36,h1⟩:=fe h1;refine aH rfl ?_;refine rY (f:=ai) (l:=IW) ab.cs Z Z Z Z Z Z Z Z Z h36 ab.HU Y ?_;refine aH rfl ?_;refine nJ Z Z Z Z Z Z Z ?_;refine aH rfl ?_;refine il Z Z Z Z Z Z Z Z (th rfl) ?_;refine cW ?_
     (repeat (first | refine bb ?_ | refine bA ?_ | refine cq ?_ | refine bz Z ?_ | refine co ?_ | refine a8 ?_ | refine bf ?_ | refine aJ ?_ | refine aT ?_ | refine aN Z ?_ | refine noGoto_ret ?_ | refine noGoto_exit ?_ | refine noGoto_normal ?_))
     (repeat (first | refine bb ?_ | refine bA ?_ | refine cq ?_ | refine bz Z ?_ | refine co ?_ | refine a8 ?_ | refine bf ?_ | refine aJ ?_ | refine aT ?_ | refine aN Z ?_ | refine noGoto_ret ?_ | refine noGoto_exit ?_ | refine noGoto_normal ?_))
     exact ⟨([]++[(ab.mk KC f21 KJ LG (ah.mk LF LE LD J9 KB) IW LC)],(lat IW 0).Ar,(lat IW 0).fOp,(lat IW 0).AI,(lat IW 0).E',((lat IW 0).A').Ar,((lat IW 0).A').F',((lat IW 0).A').HT,((lat IW 0).A').HQ,((lat IW 0).A').D',(lat IW 0).By,(lat IW 0).fAt),h1,cK (iF ⟨⟨_,Z,AV.sub_refl _⟩,⟨_,Z,AV.sub_refl _⟩,⟨_,Z,AV.sub_refl _⟩,trivial⟩ ⟨⟨_,Z,⟨AV.sub_refl _,AV.sub_refl _,AV.sub_refl _,AV.sub_refl _,AV.sub_refl _,AV.sub_refl _,AV.sub_refl _,AV.sub_refl _,AV.sub_refl _,AV.sub_refl _,AV.sub_refl _,trivial⟩⟩,⟨_,Z,⟨AV.sub_refl _,AV.sub_refl _,AV.sub_refl _,AV.sub_refl _,AV.sub_refl _,AV.sub_refl _,AV.sub_refl _,AV.sub_refl _,AV.sub_refl _,AV.sub_refl _,AV.sub_refl _,trivial⟩⟩,⟨_,Z,aC _⟩,trivial⟩)⟩
    ·replace h1:=Dr Mu h1;refine pE ?_
     (repeat (first | refine bb ?_ | refine bA ?_ | refine cq ?_ | refine bz Z ?_ | refine co ?_ | refine a8 ?_ | refine bf ?_ | refine aJ ?_ | refine aT ?_ | refine aN Z ?_ | refine noGoto_ret ?_ | refine noGoto_exit ?_ | refine noGoto_normal ?_))
     have e1:=Option.some.inj h1;subst e1;exact cK (iF ⟨⟨_,Z,AV.sub_refl _⟩,⟨_,Z,AV.sub_refl _⟩,⟨_,Z,AV.sub_refl _⟩,trivial⟩ ⟨⟨_,Z,⟨AV.sub_refl _,AV.sub_refl _,AV.sub_refl _,AV.sub_refl _,AV.sub_refl _,AV.sub_refl _,AV.sub_refl _,AV.sub_refl _,AV.sub_refl _,AV.sub_refl _,AV.sub_refl _,trivial⟩⟩,⟨_,Z,⟨AV.sub_refl _,AV.sub_refl _,AV.sub_refl _,AV.sub_refl _,AV.sub_refl _,AV.sub_refl _,AV.sub_refl _,AV.sub_refl _,AV.sub_refl _,AV.sub_refl _,AV.sub_refl _,trivial⟩⟩,trivial⟩)
   ·skip
    refine eF ?_;refine aH Z ?_;refine cg Z Z Z Z Z Z Z Z Z ?_;refine aH Z ?_;refine ef Z Z Z Z Z Z Z Z ?_;refine aH Z ?_;refine mM Z Z Z Z Z Z ?_;refine aH Z ?_;refine b9 Z Z Z Z ?_;refine EF Z Z Z (λ Jk=>?_) (λ Jk=>?_)
    ·replace h2:=vb Jk h2;refine vx Z Z Z (decide_eq_true Jk) Z Z ?_;refine vx Z Z Z (decide_eq_true Jk) Z Z ?_;refine vx Z Z Z (decide_eq_true Jk) Z Z ?_;refine aH Z ?_;refine eW Z Z Z Z (decide_eq_true Jk) Z ?_;refine aH Z ?_;refine b9 Z Z Z Z ?_;refine lO Z Z Z (rfl) ?_;refine cg Z Z Z Z Z Z Z Z Z ?_;refine lO Z Z Z (rfl) ?_;refine ef Z Z Z Z Z Z Z Z ?_;refine lO Z Z Z (rfl) ?_;refine kP (f:=ai) (l:=IW) Z Z Z Z Z Z Z ?_;refine lO Z Z Z (rfl) ?_;refine mM Z Z Z Z Z Z ?_;refine aH Z ?_;refine eW Z Z Z Z (rfl) Z ?_;refine cW ?_
     (repeat (first | refine bb ?_ | refine bA ?_ | refine cq ?_ | refine bz Z ?_ | refine co ?_ | refine a8 ?_ | refine bf ?_ | refine aJ ?_ | refine aT ?_ | refine aN Z ?_ | refine noGoto_ret ?_ | refine noGoto_exit ?_ | refine noGoto_normal ?_))
     have e2:=Option.some.inj h2;subst e2;exact cK (iF ⟨⟨_,Z,AV.sub_refl _⟩,⟨_,Z,AV.sub_refl _⟩,⟨_,Z,AV.sub_refl _⟩,⟨_,Z,AV.sub_refl _⟩,trivial⟩ ⟨⟨_,Z,⟨AV.sub_refl _,AV.sub_refl _,AV.sub_refl _,AV.sub_refl _,AV.sub_refl _,AV.sub_refl _,AV.sub_refl _,AV.sub_refl _,AV.sub_refl _,AV.sub_refl _,AV.sub_refl _,trivial⟩⟩,⟨_,Z,⟨AV.sub_refl _,AV.sub_refl _,AV.sub_refl _,AV.sub_refl _,AV.sub_refl _,AV.sub_refl _,AV.sub_refl _,AV.sub_refl _,AV.sub_refl _,AV.sub_refl _,AV.sub_refl _,trivial⟩⟩,trivial⟩)
    ·replace h2:=zr Jk h2;refine vv Z Z Z (decide_eq_false Jk) ?_;refine cg Z Z Z Z Z Z Z Z Z ?_;refine vv Z Z Z (decide_eq_false Jk) ?_;refine ef Z Z Z Z Z Z Z Z ?_;refine vv Z Z Z (decide_eq_false Jk) ?_;refine mM Z Z Z Z Z Z ?_;refine aH Z ?_;refine gz Z Z Z Z (decide_eq_false Jk) Z ?_;refine aH Z ?_;refine b9 Z Z Z Z ?_;refine EF Z Z Z (λ Jv=>?_) (λ Jv=>?_)
     ·replace h2:=vb Jv h2;refine lO Z Z Z (decide_eq_true Jv) ?_;refine cg Z Z Z Z Z Z Z Z Z ?_;refine lO Z Z Z (decide_eq_true Jv) ?_;refine ef Z Z Z Z Z Z Z Z ?_;refine lO Z Z Z (decide_eq_true Jv) ?_;refine kP (f:=ai) (l:=IW) Z Z Z Z Z Z Z ?_;refine lO Z Z Z (decide_eq_true Jv) ?_;refine mM Z Z Z Z Z Z ?_;refine aH Z ?_;refine eW Z Z Z Z (decide_eq_true Jv) Z ?_;refine cW ?_
      (repeat (first | refine bb ?_ | refine bA ?_ | refine cq ?_ | refine bz Z ?_ | refine co ?_ | refine a8 ?_ | refine bf ?_ | refine aJ ?_ | refine aT ?_ | refine aN Z ?_ | refine noGoto_ret ?_ | refine noGoto_exit ?_ | refine noGoto_normal ?_))
      have e2:=Option.some.inj h2;subst e2;exact cK (iF ⟨⟨_,Z,AV.sub_refl _⟩,⟨_,Z,AV.sub_refl _⟩,⟨_,Z,AV.sub_refl _⟩,⟨_,Z,AV.sub_refl _⟩,trivial⟩ ⟨⟨_,Z,⟨AV.sub_refl _,AV.sub_refl _,AV.sub_refl _,AV.sub_refl _,AV.sub_refl _,AV.sub_refl _,AV.sub_refl _,AV.sub_refl _,AV.sub_refl _,AV.sub_refl _,AV.sub_refl _,trivial⟩⟩,⟨_,Z,⟨AV.sub_refl _,AV.sub_refl _,AV.sub_refl _,AV.sub_refl _,AV.sub_refl _,AV.sub_refl _,AV.sub_refl _,AV.sub_refl _,AV.sub_refl _,AV.sub_refl _,AV.sub_refl _,trivial⟩⟩,trivial⟩)
     ·replace h2:=zr Jv h2;refine sf Z Z Z (decide_eq_false Jv) Z Z ?_;refine sf Z Z Z (decide_eq_false Jv) Z Z ?_;refine sf Z Z Z (decide_eq_false Jv) Z Z ?_;refine sf Z Z Z (decide_eq_false Jv) Z Z ?_;refine aH Z ?_;refine gz Z Z Z Z (decide_eq_false Jv) Z ?_;refine cW ?_
      (repeat (first | refine bb ?_ | refine bA ?_ | refine cq ?_ | refine bz Z ?_ | refine co ?_ | refine a8 ?_ | refine bf ?_ | refine aJ ?_ | refine aT ?_ | refine aN Z ?_ | refine noGoto_ret ?_ | refine noGoto_exit ?_ | refine noGoto_normal ?_))
      have e2:=Option.some.inj h2;subst e2;exact cK (iF ⟨⟨_,Z,AV.sub_refl _⟩,⟨_,Z,AV.sub_refl _⟩,⟨_,Z,AV.sub_refl _⟩,⟨_,Z,AV.sub_refl _⟩,trivial⟩ ⟨⟨_,Z,⟨AV.sub_refl _,AV.sub_refl _,AV.sub_refl _,AV.sub_refl _,AV.sub_refl _,AV.sub_refl _,AV.sub_refl _,AV.sub_refl _,AV.sub_refl _,AV.sub_refl _,AV.sub_refl _,trivial⟩⟩,⟨_,Z,⟨AV.sub_refl _,AV.sub_refl _,AV.sub_refl _,AV.sub_refl _,AV.sub_refl _,AV.sub_refl _,AV.sub_refl _,AV.sub_refl _,AV.sub_refl _,AV.sub_refl _,AV.sub_refl _,trivial⟩⟩,trivial⟩)
  ·refine dI ?_;refine dI ?_;obtain ⟨OF,h2,h1⟩:=uy h1;refine vR ⟨[(1,.ptr 1 0),(2,.ptr 2 0),(4,chS (s19::ss19)),(18,.p (eB OF))],(1,[.p (eI KC),.p (eI f21),.p (eS KJ),.p (eS LG),.p (eI LF),.p (eI LE),.p (eS LD),.p (eL dv J9),.p (eL eS KB),.p (eL ai IW),.p (eI LC)])::(2,[.p (eI 0),.p (eI 0),.p (eS ([]:Bytes)),.p (eS ([]:Bytes)),.p (eI 0),.p (eI 0),.p (eS ([]:Bytes)),.p (.val (.slice none 0 0)),.p (.val (.slice none 0 0)),.p (.val (.slice none 0 0)),.p (eI 0)])::chO (s19::ss19)⟩ ?_ ?_
   ·intro s' hle
    (repeat (first | refine bb ?_ | refine bA ?_ | refine cq ?_ | refine bz Z ?_ | refine co ?_ | refine a8 ?_ | refine bf ?_ | refine aJ ?_ | refine aT ?_ | refine aN Z ?_ | refine noGoto_ret ?_ | refine noGoto_exit ?_ | refine noGoto_normal ?_))
    refine jT hle ?_;refine xP Z (λ Mu=>?_) (λ Mu=>?_)
    ·replace h1:=vb Mu h1;refine nZ ?_;refine kG ?_;refine dI ?_;refine eF ?_;refine aH rfl ?_;refine b9 Z Z Z Z ?_;refine aH rfl ?_;refine jf Z Z Z Z Z Z Z Z Z ?_;refine aH rfl ?_;refine bF ai [(ab.mk KC f21 KJ LG (ah.mk LF LE LD J9 KB) IW LC)] Z Z Z Z Z Z Z Z Z Z Z Z Z (by first | rfl | (simp only [bx,ld,ab.HR]; done) | (simp only [bx,ld,ab.HR]; rfl)) ?_;obtain ⟨h35,h1⟩:=fe h1;refine aH rfl ?_;refine FB ai (s19::ss19) [(ab.mk KC f21 KJ LG (ah.mk LF LE LD J9 KB) IW LC)] Z Z Z Z Z Z Z Z Z Z Z Z Z Z Z (λ x=>congrArg List.length (ab.HU x)) Z Z Z h35 ?_;refine aH rfl ?_;refine dU Z Z Z Z ?_;refine cW ?_;refine eF ?_;refine aH rfl ?_;refine cg Z Z Z Z Z Z Z Z Z ?_;refine aH rfl ?_;refine ef Z Z Z Z Z Z Z Z ?_;obtain ⟨h36,h1⟩:=fe h1;refine aH rfl ?_;refine rY (f:=ai) (l:=IW) ab.cs Z Z Z Z Z Z Z Z Z h36 ab.HU Y ?_;refine aH rfl ?_;refine nJ Z Z Z Z Z Z Z ?_;refine aH rfl ?_;refine il Z Z Z Z Z Z Z Z (th rfl) ?_;refine cW ?_
     (repeat (first | refine bb ?_ | refine bA ?_ | refine cq ?_ | refine bz Z ?_ | refine co ?_ | refine a8 ?_ | refine bf ?_ | refine aJ ?_ | refine aT ?_ | refine aN Z ?_ | refine noGoto_ret ?_ | refine noGoto_exit ?_ | refine noGoto_normal ?_))
     (repeat (first | refine bb ?_ | refine bA ?_ | refine cq ?_ | refine bz Z ?_ | refine co ?_ | refine a8 ?_ | refine bf ?_ | refine aJ ?_ | refine aT ?_ | refine aN Z ?_ | refine noGoto_ret ?_ | refine noGoto_exit ?_ | refine noGoto_normal ?_))
     exact ⟨((s19::ss19)++[(ab.mk KC f21 KJ LG (ah.mk LF LE LD J9 KB) IW LC)],(lat IW 0).Ar,(lat IW 0).fOp,(lat IW 0).AI,(lat IW 0).E',((lat IW 0).A').Ar,((lat IW 0).A').F',((lat IW 0).A').HT,((lat IW 0).A').HQ,((lat IW 0).A').D',(lat IW 0).By,(lat IW 0).fAt),h1,cK (iF ⟨⟨_,Z,AV.sub_refl _⟩,⟨_,Z,AV.sub_refl _⟩,⟨_,Z,AV.sub_of_eq (by simp [chS])⟩,trivial⟩ ⟨⟨_,Z,⟨AV.sub_refl _,AV.sub_refl _,AV.sub_refl _,AV.sub_refl _,AV.sub_refl _,AV.sub_refl _,AV.sub_refl _,AV.sub_refl _,AV.sub_refl _,AV.sub_refl _,AV.sub_refl _,trivial⟩⟩,⟨_,Z,⟨AV.sub_refl _,AV.sub_refl _,AV.sub_refl _,AV.sub_refl _,AV.sub_refl _,AV.sub_refl _,AV.sub_refl _,AV.sub_refl _,AV.sub_refl _,AV.sub_refl _,AV.sub_refl _,trivial⟩⟩,⟨_,Z,aC _⟩,trivial⟩)⟩
    ·replace h1:=Dr Mu h1;refine pE ?_
     (repeat (first | refine bb ?_ | refine bA ?_ | refine cq ?_ | refine bz Z ?_ | refine co ?_ | refine a8 ?_ | refine bf ?_ | refine aJ ?_ | refine aT ?_ | refine aN Z ?_ | refine noGoto_ret ?_ | refine noGoto_exit ?_ | refine noGoto_normal ?_))
     have e1:=Option.some.inj h1;subst e1;exact cK (iF ⟨⟨_,Z,AV.sub_refl _⟩,⟨_,Z,AV.sub_refl _⟩,⟨_,Z,AV.sub_refl _⟩,trivial⟩ ⟨⟨_,Z,⟨AV.sub_refl _,AV.sub_refl _,AV.sub_refl _,AV.sub_refl _,AV.sub_refl _,AV.sub_refl _,AV.sub_refl _,AV.sub_refl _,AV.sub_refl _,AV.sub_refl _,AV.sub_refl _,trivial⟩⟩,⟨_,Z,⟨AV.sub_refl _,AV.sub_refl _,AV.sub_refl _,AV.sub_refl _,AV.sub_refl _,AV.sub_refl _,AV.sub_refl _,AV.sub_refl _,AV.sub_refl _,AV.sub_refl _,AV.sub_refl _,trivial⟩⟩,⟨_,Z,aC _⟩,trivial⟩)
   ·skip
    refine eF ?_;refine aH Z ?_;refine cg Z Z Z Z Z Z Z Z Z ?_;refine aH Z ?_;refine ef Z Z Z Z Z Z Z Z ?_;refine aH Z ?_;refine mM Z Z Z Z Z Z ?_;refine aH Z ?_;refine b9 Z Z Z Z ?_;refine EF Z Z Z (λ Jk=>?_) (λ Jk=>?_)
    ·replace h2:=vb Jk h2;refine vx Z Z Z (decide_eq_true Jk) Z Z ?_;refine vx Z Z Z (decide_eq_true Jk) Z Z ?_;refine vx Z Z Z (decide_eq_true Jk) Z Z ?_;refine aH Z ?_;refine eW Z Z Z Z (decide_eq_true Jk) Z ?_;refine aH Z ?_;refine b9 Z Z Z Z ?_;refine lO Z Z Z (rfl) ?_;refine cg Z Z Z Z Z Z Z Z Z ?_;refine lO Z Z Z (rfl) ?_;refine ef Z Z Z Z Z Z Z Z ?_;refine lO Z Z Z (rfl) ?_;refine kP (f:=ai) (l:=IW) Z Z Z Z Z Z Z ?_;refine lO Z Z Z (rfl) ?_;refine mM Z Z Z Z Z Z ?_;refine aH Z ?_;refine eW Z Z Z Z (rfl) Z ?_;refine cW ?_
     (repeat (first | refine bb ?_ | refine bA ?_ | refine cq ?_ | refine bz Z ?_ | refine co ?_ | refine a8 ?_ | refine bf ?_ | refine aJ ?_ | refine aT ?_ | refine aN Z ?_ | refine noGoto_ret ?_ | refine noGoto_exit ?_ | refine noGoto_normal ?_))
     have e2:=Option.some.inj h2;subst e2;exact cK (iF ⟨⟨_,Z,AV.sub_refl _⟩,⟨_,Z,AV.sub_refl _⟩,⟨_,Z,AV.sub_refl _⟩,⟨_,Z,AV.sub_refl _⟩,trivial⟩ ⟨⟨_,Z,⟨AV.sub_refl _,AV.sub_refl _,AV.sub_refl _,AV.sub_refl _,AV.sub_refl _,AV.sub_refl _,AV.sub_refl _,AV.sub_refl _,AV.sub_refl _,AV.sub_refl _,AV.sub_refl _,trivial⟩⟩,⟨_,Z,⟨AV.sub_refl _,AV.sub_refl _,AV.sub_refl _,AV.sub_refl _,AV.sub_refl _,AV.sub_refl _,AV.sub_refl _,AV.sub_refl _,AV.sub_refl _,AV.sub_refl _,AV.sub_refl _,trivial⟩⟩,⟨_,Z,aC _⟩,trivial⟩)
    ·replace h2:=zr Jk h2;refine vv Z Z Z (decide_eq_false Jk) ?_;refine cg Z Z Z Z Z Z Z Z Z ?_;refine vv Z Z Z (decide_eq_false Jk) ?_;refine ef Z Z Z Z Z Z Z Z ?_;refine vv Z Z Z (decide_eq_false Jk) ?_;refine mM Z Z Z Z Z Z ?_;refine aH Z ?_;refine gz Z Z Z Z (decide_eq_false Jk) Z ?_;refine aH Z ?_;refine b9 Z Z Z Z ?_;refine EF Z Z Z (λ Jv=>?_) (λ Jv=>?_)
     ·replace h2:=vb Jv h2;refine lO Z Z Z (decide_eq_true Jv) ?_;refine cg Z Z Z Z Z Z Z Z Z ?_;refine lO Z Z Z (decide_eq_true Jv) ?_;refine ef Z Z Z Z Z Z Z Z ?_;refine lO Z Z Z (decide_eq_true Jv) ?_;refine kP (f:=ai) (l:=IW) Z Z Z Z Z Z Z ?_;refine lO Z Z Z (decide_eq_true Jv) ?_;refine mM Z Z Z Z Z Z ?_;refine aH Z ?_;refine eW Z Z Z Z (decide_eq_true Jv) Z ?_;refine cW ?_
      (repeat (first | refine bb ?_ | refine bA ?_ | refine cq ?_ | refine bz Z ?_ | refine co ?_ | refine a8 ?_ | refine bf ?_ | refine aJ ?_ | refine aT ?_ | refine aN Z ?_ | refine noGoto_ret ?_ | refine noGoto_exit ?_ | refine noGoto_normal ?_))
      have e2:=Option.some.inj h2;subst e2;exact cK (iF ⟨⟨_,Z,AV.sub_refl _⟩,⟨_,Z,AV.sub_refl _⟩,⟨_,Z,AV.sub_refl _⟩,⟨_,Z,AV.sub_refl _⟩,trivial⟩ ⟨⟨_,Z,⟨AV.sub_refl _,AV.sub_refl _,AV.sub_refl _,AV.sub_refl _,AV.sub_refl _,AV.sub_refl _,AV.sub_refl _,AV.sub_refl _,AV.sub_refl _,AV.sub_refl _,AV.sub_refl _,trivial⟩⟩,⟨_,Z,⟨AV.sub_refl _,AV.sub_refl _,AV.sub_refl _,AV.sub_refl _,AV.sub_refl _,AV.sub_refl _,AV.sub_refl _,AV.sub_refl _,AV.sub_refl _,AV.sub_refl _,AV.sub_refl _,trivial⟩⟩,⟨_,Z,aC _⟩,trivial⟩)
     ·replace h2:=zr Jv h2;refine sf Z Z Z (decide_eq_false Jv) Z Z ?_;refine sf Z Z Z (decide_eq_false Jv) Z Z ?_;refine sf Z Z Z (decide_eq_false Jv) Z Z ?_;refine sf Z Z Z (decide_eq_false Jv) Z Z ?_;refine aH Z ?_;refine gz Z Z Z Z (decide_eq_false Jv) Z ?_;refine cW ?_
      (repeat (first | refine bb ?_ | refine bA ?_ | refine cq ?_ | refine bz Z ?_ | refine co ?_ | refine a8 ?_ | refine bf ?_ | refine aJ ?_ | refine aT ?_ | refine aN Z ?_ | refine noGoto_ret ?_ | refine noGoto_exit ?_ | refine noGoto_normal ?_))
      have e2:=Option.some.inj h2;subst e2;exact cK (iF ⟨⟨_,Z,AV.sub_refl _⟩,⟨_,Z,AV.sub_refl _⟩,⟨_,Z,AV.sub_refl _⟩,⟨_,Z,AV.sub_refl _⟩,trivial⟩ ⟨⟨_,Z,⟨AV.sub_refl _,AV.sub_refl _,AV.sub_refl _,AV.sub_refl _,AV.sub_refl _,AV.sub_refl _,AV.sub_refl _,AV.sub_refl _,AV.sub_refl _,AV.sub_refl _,AV.sub_refl _,trivial⟩⟩,⟨_,Z,⟨AV.sub_refl _,AV.sub_refl _,AV.sub_refl _,AV.sub_refl _,AV.sub_refl _,AV.sub_refl _,AV.sub_refl _,AV.sub_refl _,AV.sub_refl _,AV.sub_refl _,AV.sub_refl _,trivial⟩⟩,⟨_,Z,aC _⟩,trivial⟩)
end Go.Ab.R06
end
section
namespace Go.Ab.R06
open Go.Proofs Go.Ab Go.Ab.RB
attribute [local irreducible] awp eR bq aB aV AV.sub M cN
def aD (H1:List ab)(f_1:ab->Option Bool):Nat->Int->Option (Unit⊕Int)
 | 0,_=>none
 | m+1,t8 =>
 if t8 < (H1.length:Int) then
  ck ((0:Int)<=t8/\t8 < (H1.length:Int)) <|
  (f_1 (lat H1 t8)).bind λ Jh =>
  if Jh=true then
   some (.inr t8)
  else
   ck (inR (t8+1)) <|
   aD H1 f_1 m (t8+1)
 else
  some (.inl ())
def bJ (n:Nat)(H1:List ab)(f_1:ab->Option Bool):Option Int :=
 jn (aD H1 f_1 n 0) λ _q16 =>
 some (-1)
theorem jc (n:Nat)(H1:List ab)(f_1:ab->Option Bool)(F_f_1:FuncId)(C_f_1:List AV)(K_f_1:AV.mapA.go (λ _=>none) C_f_1=some C_f_1)(E_f_1:∀ vs w,(callFunc F_f_1 vs).run Tryz.prog w=.ok (.enter F_f_1 vs) w)(H_f_1:∀ (x0:ab) r,f_1 x0=some r->gB Tryz.prog F_f_1 ([.p (.agg (ab.cs x0))]++C_f_1) (·=.p (eB r)))(r:Int)(h0:bJ n H1 f_1=some r):gB Tryz.prog 25 [.p (eL ai H1),.func (.func F_f_1) C_f_1] (·=.p (eI r)):=by
 unfold bJ at h0;refine tA good Tryz.func25 Z Z Z λ w0=>mP (λ v:Int=>.p (eI v)) ?_;refine nx 8 rfl (oLl (f:=ai) Z Z ?_);refine nx 3 rfl ?_;obtain ⟨OJ,h1,IS,hR0⟩:=db h0;refine kEx 0 (λ Nv:Unit=>OJ=.inl Nv) (λ Nv=>⟨[],[]⟩) (λ Nv hv=>?_) ?_
 ·have h0:=IS _ hv;exact nx 6 Z (mQ (oi h0) Z (sr))
 refine lG (λ (Md:Int)=>⟨[(0,.p (eL ai H1)),(1,.func (.func F_f_1) C_f_1),(7,.p (eI (H1.length:Int))),(8,.p (eI Md))],[]⟩) (λ m (Md:Int)=>aD H1 f_1 m Md) Y 0 h1 (gE rfl rfl) ?_;rintro m t8 h1;replace h1:aD H1 f_1 (m+1) t8=some OJ:=h1;rw [aD] at h1;refine nx 5 rfl (fD [9] h1 rfl (λ c9 h1=>?_) λ c9 h1=>?_)
 ·refine nx 14 Z (oE h1 ab.HU Z Z Y λ JL h1=>?_);refine nx 1 Z (bd h1 λ Jh JZ h1=>?_);refine mG (gFn 1 C_f_1 Z (by simp only [])) (mG (gFn 11 C_f_1 Z (by simp only [])) ?_);refine mO Z (xd (q:=[.p (.agg (ab.cs (lat H1 t8)))]) (H_f_1 (lat H1 t8) _ JZ) Z Z Z Z K_f_1 Z Z ⟨sr,trivial⟩ E_f_1 Z ?_);refine nx 1 Z (fB [16] h1 Z (λ JN h1=>?_) λ JN h1=>?_)
  ·exact nx 7 Z (mQ (hR0 _ (oi h1).symm) Z (sr))
  refine nx 3 Z (oA h1 Z Z λ Kp h1=>?_);exact nx 2 Z (eX (t8+1) h1 (gE Z Z))
 exact nx 2 Z (eXi _ (oi h1).symm (gE Z Z))
def bh (n:Nat)(H1:List ab)(f_1:ab->Option Bool):Option Bool :=
 (bJ n H1 f_1).bind λ r1 =>
 some (decide (0<=r1))
theorem iA (n:Nat)(H1:List ab)(f_1:ab->Option Bool)(F_f_1:FuncId)(C_f_1:List AV)(K_f_1:AV.mapA.go (λ _=>none) C_f_1=some C_f_1)(E_f_1:∀ vs w,(callFunc F_f_1 vs).run Tryz.prog w=.ok (.enter F_f_1 vs) w)(H_f_1:∀ (x0:ab) r,f_1 x0=some r->gB Tryz.prog F_f_1 ([.p (.agg (ab.cs x0))]++C_f_1) (·=.p (eB r)))(r:Bool)(h0:bh n H1 f_1=some r):gB Tryz.prog 16 [.p (eL ai H1),.func (.func F_f_1) C_f_1] (·=.p (eB r)):=by
 unfold bh at h0;refine tA good Tryz.func16 Z Z Z λ w0=>mP (λ v:Bool=>.p (eB v)) ?_;refine nx 8 Z (bd h0 λ r1 e2 h0=>?_);refine mO Z (qK (jc _ H1 f_1 F_f_1 C_f_1 K_f_1 E_f_1 H_f_1 _ e2) Z Z Z Z (gZ Z (gZ (pU K_f_1) oB)) ⟨sr,sr,trivial⟩ Tryz.call25 Z ?_);exact nx 4 Z (mQ (oi h0) Z (sr))
def dO (H1:ab):Option Bool :=
 some (decide (H1.Ar=5))
theorem pG (H1:ab)(r:Bool)(h0:dO H1=some r):aB Tryz.prog 17 [.agg (ab.cs H1)] (·=.p (eB r)):=by
 unfold dO at h0;refine bm good Tryz.func17 Z Z Z λ w0=>mP (λ v:Bool=>.p (eB v)) ?_;exact nx 13 Z (mQ (oi h0) Z (sr))
def ep (steps_0:List ab)(Ie:Int):Option (Bytes×Bool) :=
 (
   if (steps_0.length:Int)<=Ie then
    some true
   else
    ck ((0:Int)<=Ie/\Ie < (steps_0.length:Int)) <|
    some (!decide ((lat steps_0 Ie).Ar=4))
  : Option Bool).bind λ t3 =>
 if t3=true then
  some (([]:Bytes),false)
 else
  ck ((0:Int)<=Ie/\Ie < (steps_0.length:Int)) <|
  some ((lat steps_0 Ie).AI,true)
theorem iC (steps_0:List ab)(Ie:Int)(r:Bytes×Bool)(h0:ep steps_0 Ie=some r):aB Tryz.prog 26 [eL ai steps_0,eI Ie] (·=.tuple [.p (eS r.1),.p (eB r.2)]):=by
 unfold ep at h0;refine bm good Tryz.func26 Z Z Z λ w0=>mP (λ v:Bytes×Bool=>.tuple [.p (eS v.1),.p (eB v.2)]) ?_;refine nx 7 Z (bd h0 λ o7 h1 h0=>?_);refine kN o7 (λ v8=>⟨[(0,.p (eL ai steps_0)),(1,.p (eI Ie)),(17,.p (eB v8))],[]⟩) ?_ ?_
 ·refine nx 1 Z (fB [17] h0 Z (λ c4 h0=>?_) λ c4 h0=>?_)
  ·exact nx 7 Z (mQ (oi h0) Z (ax ⟨sr,sr,trivial⟩))
  refine nx 6 Z (oE h0 ab.HU Z Z Y λ Mk h0=>?_);exact nx 6 Z (mQ (oi h0) Z (ax ⟨sr,sr,trivial⟩))
 refine nx 3 Z (oLl (f:=ai) Z Z ?_);refine nx 2 Z (fD [9,10] h1 Z (λ c1 h1=>?_) λ c1 h1=>?_)
 ·exact nx 8 Z (eX _ (oi h1).symm (gE Z Z))
 refine nx 2 Z (oE h1 ab.HU Z Z Y λ Ke h1=>?_);exact nx 5 Z (eX _ (oi h1).symm (gE Z Z))
def im (root_0:Bytes):Option (Int×Bool) :=
 if root_0=([118,97,114]:Bytes) then
  some (1,true)
 else
  if root_0=([108,111,99,97,108]:Bytes) then
   some (2,true)
  else
   if root_0=([101,97,99,104]:Bytes) then
    some (6,true)
   else
    if root_0=([99,111,117,110,116]:Bytes) then
     some (7,true)
    else
     if root_0=([114,101,109,111,116,101]:Bytes) then
      some (8,true)
     else
      some (0,false)
theorem qy (root_0:Bytes)(r:Int×Bool)(h0:im root_0=some r):aB Tryz.prog 27 [eS root_0] (·=.tuple [.p (eI r.1),.p (eB r.2)]):=by
 unfold im at h0;refine bm good Tryz.func27 Z Z Z λ w0=>mP (λ v:Int×Bool=>.tuple [.p (eI v.1),.p (eB v.2)]) ?_;refine nx 13 Z (oS Z Z ?_);refine nx 2 Z (fD [5,6] h0 Z (λ c1 h0=>?_) λ c1 h0=>?_)
 ·exact nx 7 Z (mQ (oi h0) Z (ax ⟨sr,sr,trivial⟩))
 refine nx 3 Z (oS Z Z ?_);refine nx 2 Z (fD [7,8] h0 Z (λ c2 h0=>?_) λ c2 h0=>?_)
 ·exact nx 7 Z (mQ (oi h0) Z (ax ⟨sr,sr,trivial⟩))
 refine nx 3 Z (oS Z Z ?_);refine nx 2 Z (fD [9,10] h0 Z (λ c3 h0=>?_) λ c3 h0=>?_)
 ·exact nx 7 Z (mQ (oi h0) Z (ax ⟨sr,sr,trivial⟩))
 refine nx 3 Z (oS Z Z ?_);refine nx 2 Z (fD [11,12] h0 Z (λ c4 h0=>?_) λ c4 h0=>?_)
 ·exact nx 7 Z (mQ (oi h0) Z (ax ⟨sr,sr,trivial⟩))
 refine nx 3 Z (oS Z Z ?_);refine nx 2 Z (fD [13,14] h0 Z (λ c5 h0=>?_) λ c5 h0=>?_)
 ·exact nx 7 Z (mQ (oi h0) Z (ax ⟨sr,sr,trivial⟩))
 exact nx 8 Z (mQ (oi h0) Z (ax ⟨sr,sr,trivial⟩))
def jh (name_0:Bytes)(steps_1:List ab)(at_2:Int):Option (bD×Int) :=
 (ep steps_1 1).bind λ r1 =>
 if r1.2=true then
  some ((bD.mk 5 r1.1 name_0 at_2),2)
 else
  (ep steps_1 2).bind λ r4 =>
  if r4.2=true then
   some ((bD.mk 5 r4.1 name_0 at_2),3)
  else
   some ((bD.mk 5 ([]:Bytes) name_0 at_2),1)
theorem qc (name_0:Bytes)(steps_1:List ab)(at_2:Int)(r:bD×Int)(h0:jh name_0 steps_1 at_2=some r):aB Tryz.prog 28 [eS name_0,eL ai steps_1,eI at_2] (·=.tuple [.p (.agg (bD.cs r.1)),.p (eI r.2)]):=by
 unfold jh at h0;refine bm good Tryz.func28 Z Z Z λ w0=>mP (λ v:bD×Int=>.tuple [.p (.agg (bD.cs v.1)),.p (eI v.2)]) ?_;refine nx 17 Z (bd h0 λ r1 e2 h0=>?_);refine oK (iC steps_1 1 _ e2) Z ⟨sr,sr,trivial⟩ Tryz.call26 Z (nx 10 Z ?_);refine fB [10,20,21] h0 Z (λ c3 h0=>?_) λ c3 h0=>?_
 ·exact nx 14 Z (mQ (oi h0) Z (ax ⟨sr,sr,trivial⟩))
 refine nx 6 Z (bd h0 λ r4 e5 h0=>?_);refine oK (iC steps_1 2 _ e5) Z ⟨sr,sr,trivial⟩ Tryz.call26 Z (nx 10 Z ?_);refine fB [12,29,30] h0 Z (λ c6 h0=>?_) λ c6 h0=>?_
 ·refine nx 7 Z (mG (gE (t:=⟨[(6,.ptr 6 0),(8,.ptr 8 0)],[(6,[.p (eI 0),.p (eS ([]:Bytes)),.p (eS ([]:Bytes)),.p (eI 0)]),(8,[.p (eI 5),.p (eS r4.1),.p (eS name_0),.p (eI at_2)])]⟩) Z Z) ?_);exact nx 7 Z (mQ (oi h0) Z (ax ⟨sr,sr,trivial⟩))
 exact nx 9 Z (mQ (oi h0) Z (ax ⟨sr,sr,trivial⟩))
def gm (root_0:ab)(steps_1:List ab):Option (bD×Int) :=
 (ep steps_1 0).bind λ r1 =>
 if (!r1.2)=true then
  some ((bD.mk 9 ([]:Bytes) root_0.AI root_0.fAt),0)
 else
  (im root_0.AI).bind λ r4 =>
  if r4.2=true then
   some ((bD.mk r4.1 ([]:Bytes) r1.1 root_0.fAt),1)
  else
   if root_0.AI=([100,97,116,97]:Bytes) then
    (ep steps_1 1).bind λ r8 =>
    if (!r8.2)=true then
     some ((bD.mk 9 ([]:Bytes) root_0.AI root_0.fAt),0)
    else
     some ((bD.mk 4 r1.1 r8.1 root_0.fAt),2)
   else
    if root_0.AI=([109,111,100,117,108,101]:Bytes) then
     (jh r1.1 steps_1 root_0.fAt).bind λ IN =>
     some (IN.1,IN.2)
    else
     some ((bD.mk 3 root_0.AI r1.1 root_0.fAt),1)
theorem mf (root_0:ab)(steps_1:List ab)(r:bD×Int)(h0:gm root_0 steps_1=some r):aB Tryz.prog 18 [.agg (ab.cs root_0),eL ai steps_1] (·=.tuple [.p (.agg (bD.cs r.1)),.p (eI r.2)]):=by
 unfold gm at h0;refine bm good Tryz.func18 Z Z Z λ w0=>mP (λ v:bD×Int=>.tuple [.p (.agg (bD.cs v.1)),.p (eI v.2)]) ?_;refine nx 19 Z (bd h0 λ r1 e2 h0=>?_);refine oK (iC steps_1 0 _ e2) Z ⟨sr,sr,trivial⟩ Tryz.call26 Z (nx 12 Z ?_);refine fB [24] h0 Z (λ c3 h0=>?_) λ c3 h0=>?_
 ·exact nx 8 Z (mQ (oi h0) Z (ax ⟨sr,sr,trivial⟩))
 refine nx 7 Z (bd h0 λ r4 e5 h0=>?_);refine oK (qy root_0.AI _ e5) Z ⟨sr,trivial⟩ Tryz.call27 Z (nx 10 Z ?_);refine fB [10,31,32] h0 Z (λ c6 h0=>?_) λ c6 h0=>?_
 ·refine nx 11 Z (mG (gE (t:=⟨[(4,.ptr 4 0),(5,.p (eI 1))],[(4,[.p (eI r4.1),.p (eS ([]:Bytes)),.p (eS r1.1),.p (eI root_0.fAt)])]⟩) Z Z) ?_);exact nx 1 Z (mQ (oi h0) Z (ax ⟨sr,sr,trivial⟩))
 refine nx 8 Z (mG (gE (t:=⟨[(1,.p (eL ai steps_1)),(2,.ptr 2 0),(4,.ptr 4 0),(6,.ptr 6 0),(7,.p (eS r1.1)),(39,.p (eS root_0.AI))],[(2,(ab.cs root_0).map .p),(4,[.p (eI 0),.p (eS ([]:Bytes)),.p (eS ([]:Bytes)),.p (eI 0)]),(6,[.p (eI 9),.p (eS ([]:Bytes)),.p (eS root_0.AI),.p (eI root_0.fAt)])]⟩) Z Z) ?_);refine nx 3 Z (oS Z Z ?_);refine nx 2 Z (fD [40,41] h0 Z (λ c7 h0=>?_) λ c7 h0=>?_)
 ·refine nx 4 Z (bd h0 λ r8 e9 h0=>?_);refine oK (iC steps_1 1 _ e9) Z ⟨sr,sr,trivial⟩ Tryz.call26 Z (nx 12 Z ?_);refine fB [48] h0 Z (λ Kq h0=>?_) λ Kq h0=>?_
  ·exact nx 8 Z (mQ (oi h0) Z (ax ⟨sr,sr,trivial⟩))
  exact nx 13 Z (mQ (oi h0) Z (ax ⟨sr,sr,trivial⟩))
 refine nx 3 Z (oS Z Z ?_);refine nx 2 Z (fD [55,56] h0 Z (λ Ka h0=>?_) λ Ka h0=>?_)
 ·refine nx 7 Z (bd h0 λ IN Lr h0=>?_);refine oK (qc r1.1 steps_1 root_0.fAt _ Lr) Z ⟨sr,sr,sr,trivial⟩ Tryz.call28 Z (nx 6 Z ?_);exact mQ (oi h0) Z (ax ⟨sr,sr,trivial⟩)
 exact nx 14 Z (mQ (oi h0) Z (ax ⟨sr,sr,trivial⟩))
def cG (n:Nat)(H9:ab):Option (bD×Bool) :=
 (dZ n H9).bind λ r1 =>
 (
   if r1.1.Ar=3 then
    (bh n r1.2 (λ x0=>dO x0)).bind λ r5 =>
    some r5
   else
    some true
  : Option Bool).bind λ t7 =>
 if t7=true then
  some ((bD.mk 0 ([]:Bytes) ([]:Bytes) 0),false)
 else
  (gm r1.1 r1.2).bind λ r9 =>
  if r9.2=(r1.2.length:Int) then
   some (r9.1,true)
  else
   some ((bD.mk 0 ([]:Bytes) ([]:Bytes) 0),false)
theorem ig (n:Nat)(H9:ab)(r:bD×Bool)(h0:cG n H9=some r):aB Tryz.prog 6 [.agg (ab.cs H9)] (·=.tuple [.p (.agg (bD.cs r.1)),.p (eB r.2)]):=by
 unfold cG at h0;refine bm good Tryz.func6 Z Z Z λ w0=>mP (λ v:bD×Bool=>.tuple [.p (.agg (bD.cs v.1)),.p (eB v.2)]) ?_;refine nx 9 Z (bd h0 λ r1 e2 h0=>?_);refine oK (mg _ H9 _ e2) Z ⟨sr,trivial⟩ Tryz.call15 Z (nx 9 Z ?_);refine bd h0 λ o13 h1 h0=>kN o13 (λ On=>⟨[(2,.ptr 2 0),(4,.ptr 4 0),(5,.p (eL ai r1.2)),(19,.p (eB On))],[(2,[.p (eI 0),.p (eS ([]:Bytes)),.p (eS ([]:Bytes)),.p (eI 0)]),(4,(ab.cs r1.1).map .p)]⟩) ?_ ?_
 ·refine nx 1 Z (fB [19] h0 Z (λ c8 h0=>?_) λ c8 h0=>?_)
  ·exact nx 8 Z (mQ (oi h0) Z (ax ⟨sr,sr,trivial⟩))
  refine nx 6 Z (bd h0 λ r9 J0 h0=>?_);refine oK (mf r1.1 r1.2 _ J0) Z ⟨sr,sr,trivial⟩ Tryz.call18 Z (nx 12 Z ?_);refine oLl (f:=ai) Z Z (nx 2 Z ?_);refine fN [30] h0 Z (λ Ka h0=>?_) λ Ka h0=>?_
  ·exact nx 9 Z (mQ (oi h0) Z (ax ⟨sr,sr,trivial⟩))
  exact nx 8 Z (mQ (oi h0) Z (ax ⟨sr,sr,trivial⟩))
 refine nx 5 Z (fN [15,16] h1 Z (λ c3 h1=>?_) λ c3 h1=>?_)
 ·refine nx 1 Z (bd h1 λ r5 e6 h1=>?_);refine mO Z (qK (iA _ r1.2 (λ x0=>dO x0) 17 [] Z Tryz.call17 (λ x0 r h=>(pG x0 r h).q) _ e6) Z Z Z Z (gZ Z (gZ (pU Z) oB)) ⟨sr,sr,trivial⟩ Tryz.call16 Z ?_);exact nx 2 Z (eX _ (oi h1).symm (gE Z Z))
 exact nx 4 Z (eX _ (oi h1).symm (gE Z Z))
def bZ (I0:bD):Option Bytes :=
 if I0.Ar=1 then
  ck (([118,97,114,46]:Bytes).length+I0.AI.length<=9223372036854775807) <|
  some (([118,97,114,46]:Bytes)++I0.AI)
 else
  if I0.Ar=2 then
   ck (([108,111,99,97,108,46]:Bytes).length+I0.AI.length<=9223372036854775807) <|
   some (([108,111,99,97,108,46]:Bytes)++I0.AI)
  else
   if I0.Ar=6 then
    ck (([101,97,99,104,46]:Bytes).length+I0.AI.length<=9223372036854775807) <|
    some (([101,97,99,104,46]:Bytes)++I0.AI)
   else
    if I0.Ar=7 then
     ck (([99,111,117,110,116,46]:Bytes).length+I0.AI.length<=9223372036854775807) <|
     some (([99,111,117,110,116,46]:Bytes)++I0.AI)
    else
     if I0.Ar=8 then
      ck (([114,101,109,111,116,101,46]:Bytes).length+I0.AI.length<=9223372036854775807) <|
      some (([114,101,109,111,116,101,46]:Bytes)++I0.AI)
     else
      if I0.Ar=3 then
       ck (I0.HX.length+([46]:Bytes).length<=9223372036854775807) <|
       ck ((I0.HX++([46]:Bytes)).length+I0.AI.length<=9223372036854775807) <|
       some ((I0.HX++([46]:Bytes))++I0.AI)
      else
       if I0.Ar=4 then
        ck (([100,97,116,97,46]:Bytes).length+I0.HX.length<=9223372036854775807) <|
        ck ((([100,97,116,97,46]:Bytes)++I0.HX).length+([46]:Bytes).length<=9223372036854775807) <|
        ck (((([100,97,116,97,46]:Bytes)++I0.HX)++([46]:Bytes)).length+I0.AI.length<=9223372036854775807) <|
        some (((([100,97,116,97,46]:Bytes)++I0.HX)++([46]:Bytes))++I0.AI)
       else
        if I0.Ar=5 then
         if I0.HX=([]:Bytes) then
          ck (([109,111,100,117,108,101,46]:Bytes).length+I0.AI.length<=9223372036854775807) <|
          some (([109,111,100,117,108,101,46]:Bytes)++I0.AI)
         else
          ck (([109,111,100,117,108,101,46]:Bytes).length+I0.AI.length<=9223372036854775807) <|
          ck ((([109,111,100,117,108,101,46]:Bytes)++I0.AI).length+([46]:Bytes).length<=9223372036854775807) <|
          ck (((([109,111,100,117,108,101,46]:Bytes)++I0.AI)++([46]:Bytes)).length+I0.HX.length<=9223372036854775807) <|
          some (((([109,111,100,117,108,101,46]:Bytes)++I0.AI)++([46]:Bytes))++I0.HX)
        else
         if I0.Ar=9 then
          some I0.AI
         else
          some ([]:Bytes)
theorem ny (I0:bD)(r:Bytes)(h0:bZ I0=some r):aB Tryz.prog 8 [.agg (bD.cs I0)] (·=.p (eS r)):=by
 unfold bZ at h0;refine bm good Tryz.func8 Z Z Z λ w0=>mP (λ v:Bytes=>.p (eS v)) ?_;refine nx 17 Z (fD [5,6] h0 Z (λ c1 h0=>?_) λ c1 h0=>?_)
 ·refine nx 5 Z (oC h0 Z λ Ke h0=>?_);exact nx 3 Z (mQ (oi h0) Z (sr))
 refine nx 6 Z (fD [10,11] h0 Z (λ c3 h0=>?_) λ c3 h0=>?_)
 ·refine nx 5 Z (oC h0 Z λ Ml h0=>?_);exact nx 3 Z (mQ (oi h0) Z (sr))
 refine nx 6 Z (fD [15,16] h0 Z (λ c5 h0=>?_) λ c5 h0=>?_)
 ·refine nx 5 Z (oC h0 Z λ hk6 h0=>?_);exact nx 3 Z (mQ (oi h0) Z (sr))
 refine nx 6 Z (fD [20,21] h0 Z (λ c7 h0=>?_) λ c7 h0=>?_)
 ·refine nx 5 Z (oC h0 Z λ Mh h0=>?_);exact nx 3 Z (mQ (oi h0) Z (sr))
 refine nx 6 Z (fD [25,26] h0 Z (λ c9 h0=>?_) λ c9 h0=>?_)
 ·refine nx 5 Z (oC h0 Z λ JL h0=>?_);exact nx 3 Z (mQ (oi h0) Z (sr))
 refine nx 6 Z (fD [30,31] h0 Z (λ Ka h0=>?_) λ Ka h0=>?_)
 ·refine nx 5 Z (oC h0 Z λ KA h0=>?_);refine nx 2 Z (oC h0 Z λ K3 h0=>?_);exact nx 3 Z (mQ (oi h0) Z (sr))
 refine nx 6 Z (fD [38,39] h0 Z (λ KO h0=>?_) λ KO h0=>?_)
 ·refine nx 5 Z (oC h0 Z λ Ko h0=>?_);refine oC h0 Z λ K0 h0=>nx 2 Z (oC h0 Z λ Na h0=>?_);refine nx 2 Z (mG (gE (t:=⟨[(2,.p (eS (((([100,97,116,97,46]:Bytes)++I0.HX)++([46]:Bytes))++I0.AI)))],[]⟩) Z Z) ?_);exact nx 1 Z (mQ (oi h0) Z (sr))
 refine nx 6 Z (fD [47,48] h0 Z (λ J' h0=>?_) λ J' h0=>?_)
 ·refine nx 6 Z (oS Z Z ?_);refine nx 1 Z (fD [51] h0 Z (λ Lm h0=>?_) λ Lm h0=>?_)
  ·refine nx 5 Z (oC h0 Z λ Kn h0=>?_);refine nx 2 Z (mG (gE (t:=⟨[(2,.p (eS (([109,111,100,117,108,101,46]:Bytes)++I0.AI)))],[]⟩) Z Z) ?_);exact nx 1 Z (mQ (oi h0) Z (sr))
  refine nx 6 Z (oC h0 Z λ Km h0=>?_);refine oC h0 Z λ Kl h0=>nx 2 Z (oC h0 Z λ LA h0=>?_);refine nx 2 Z (mG (gE (t:=⟨[(2,.p (eS (((([109,111,100,117,108,101,46]:Bytes)++I0.AI)++([46]:Bytes))++I0.HX)))],[]⟩) Z Z) ?_);exact nx 1 Z (mQ (oi h0) Z (sr))
 refine nx 6 Z (fD [62,63] h0 Z (λ My h0=>?_) λ My h0=>?_)
 ·exact nx 8 Z (mQ (oi h0) Z (sr))
 exact nx 7 Z (mQ (oi h0) Z (sr))
def fW (a_0:bD)(Oc:bD):Option Bool :=
 (
   if a_0.Ar=Oc.Ar then
    if a_0.HX=Oc.HX then
     some (decide (a_0.AI=Oc.AI))
    else
     some false
   else
    some false
  : Option Bool).bind λ t3 =>
 some t3
theorem kd (a_0:bD)(Oc:bD)(r:Bool)(h0:fW a_0 Oc=some r):aB Tryz.prog 9 [.agg (bD.cs a_0),.agg (bD.cs Oc)] (·=.p (eB r)):=by
 unfold fW at h0;refine bm good Tryz.func9 Z Z Z λ w0=>mP (λ v:Bool=>.p (eB v)) ?_;refine nx 7 Z (bd h0 λ o5 h1 h0=>?_);refine kN o5 (λ v6=>⟨[(4,.p (eB v6))],[]⟩) ?_ ?_
 ·exact nx 2 Z (mQ (oi h0) Z (sr))
 refine nx 7 Z (fD [9,10] h1 Z (λ c1 h1=>?_) λ c1 h1=>?_)
 ·refine nx 4 Z (oS Z Z ?_);refine nx 2 Z (fD [15,16,17] h1 Z (λ c2 h1=>?_) λ c2 h1=>?_)
  ·refine nx 4 Z (oS Z Z ?_);exact nx 3 Z (eX _ (oi h1).symm (gE Z Z))
  exact nx 8 Z (eX _ (oi h1).symm (gE Z Z))
 exact nx 15 Z (eX _ (oi h1).symm (gE Z Z))
def iN (H9:ab)(s_1:Bytes):Option ab :=
 some (ab.mk 4 0 s_1 ([]:Bytes) (ah.mk 0 0 ([]:Bytes) [] []) [H9] 0)
theorem iu (H9:ab)(s_1:Bytes)(r:ab)(h0:iN H9 s_1=some r):aB Tryz.prog 12 [.agg (ab.cs H9),eS s_1] (·=.p (.agg (ab.cs r))):=by
 unfold iN at h0;refine bm good Tryz.func12 Z Z Z λ w0=>mP (λ v:ab=>.p (.agg (ab.cs v))) ?_;refine nx 9 Z (mO Z (bF ai [H9] Z Z Z Z Z Z Z Z Z Z Z Z Z (by first | rfl | (simp only [bx,ld,ab.HR]; done) | (simp only [bx,ld,ab.HR]; rfl)) ?_));exact nx 4 Z (mQ (oi h0) Z (cR ⟨.inl Z,.inl Z,.inl Z,.inl Z,.inl Z,.inl Z,.inl Z,.inr ⟨Z,Z⟩,.inr ⟨Z,Z⟩,.inl Z,.inl Z,trivial⟩))
def kx (H1:Bytes):Option ab :=
 some (ab.mk 3 0 H1 ([]:Bytes) (ah.mk 0 0 ([]:Bytes) [] []) [] 0)
theorem kV (H1:Bytes)(r:ab)(h0:kx H1=some r):aB Tryz.prog 13 [eS H1] (·=.p (.agg (ab.cs r))):=by
 unfold kx at h0;refine bm good Tryz.func13 Z Z Z λ w0=>mP (λ v:ab=>.p (.agg (ab.cs v))) ?_;exact nx 11 Z (mQ (oi h0) Z (cR ⟨.inl Z,.inl Z,.inl Z,.inl Z,.inl Z,.inl Z,.inl Z,.inr ⟨Z,Z⟩,.inr ⟨Z,Z⟩,.inr ⟨Z,Z⟩,.inl Z,trivial⟩))
def bQ (H1:List Bytes)(v_1:Bytes):Nat->Int->Option (Unit⊕Int)
 | 0,_=>none
 | m+1,t6 =>
 if t6 < (H1.length:Int) then
  ck ((0:Int)<=t6/\t6 < (H1.length:Int)) <|
  if v_1=lat H1 t6 then
   some (.inr t6)
  else
   ck (inR (t6+1)) <|
   bQ H1 v_1 m (t6+1)
 else
  some (.inl ())
def cU (n:Nat)(H1:List Bytes)(v_1:Bytes):Option Int :=
 jn (bQ H1 v_1 n 0) λ _q12 =>
 some (-1)
theorem lC (n:Nat)(H1:List Bytes)(v_1:Bytes)(r:Int)(h0:cU n H1 v_1=some r):aB Tryz.prog 72 [eL eS H1,eS v_1] (·=.p (eI r)):=by
 unfold cU at h0;refine bm good Tryz.func72 Z Z Z λ w0=>mP (λ v:Int=>.p (eI v)) ?_;refine nx 8 rfl (oLl (f:=eS) Z Z ?_);refine nx 3 rfl ?_;obtain ⟨o13,h1,IS,hR0⟩:=db h0;refine kEx 0 (λ On:Unit=>o13=.inl On) (λ On=>⟨[],[]⟩) (λ On hv=>?_) ?_
 ·have h0:=IS _ hv;exact nx 6 Z (mQ (oi h0) Z (sr))
 refine lG (λ (Ks:Int)=>⟨[(0,.p (eL eS H1)),(1,.p (eS v_1)),(7,.p (eI (H1.length:Int))),(8,.p (eI Ks))],[]⟩) (λ m (Ks:Int)=>bQ H1 v_1 m Ks) Y 0 h1 (gE rfl rfl) ?_;rintro m t6 h1;replace h1:bQ H1 v_1 (m+1) t6=some o13:=h1;rw [bQ] at h1;refine nx 5 rfl (fD [9] h1 rfl (λ c7 h1=>?_) λ c7 h1=>?_)
 ·refine nx 14 Z (oE h1 Y Z Z Y λ Mh h1=>?_);refine nx 1 Z (oS Z Z ?_);refine nx 1 Z (fD [16] h1 Z (λ c9 h1=>?_) λ c9 h1=>?_)
  ·exact nx 7 Z (mQ (hR0 _ (oi h1).symm) Z (sr))
  refine nx 3 Z (oA h1 Z Z λ JL h1=>?_);exact nx 2 Z (eX (t6+1) h1 (gE Z Z))
 exact nx 2 Z (eXi _ (oi h1).symm (gE Z Z))
def cC (n:Nat)(H1:List Bytes)(v_1:Bytes):Option Bool :=
 (cU n H1 v_1).bind λ r1 =>
 some (decide (0<=r1))
theorem j7 (n:Nat)(H1:List Bytes)(v_1:Bytes)(r:Bool)(h0:cC n H1 v_1=some r):aB Tryz.prog 54 [eL eS H1,eS v_1] (·=.p (eB r)):=by
 unfold cC at h0;refine bm good Tryz.func54 Z Z Z λ w0=>mP (λ v:Bool=>.p (eB v)) ?_;refine nx 8 Z (bd h0 λ r1 e2 h0=>?_);refine oK (lC _ H1 v_1 _ e2) Z ⟨sr,sr,trivial⟩ Tryz.call72 Z (nx 4 Z ?_);exact mQ (oi h0) Z (sr)
def bp (H1:List bD)(f_1:bD->Option Bool):Nat->Int->Option (Unit⊕Int)
 | 0,_=>none
 | m+1,t8 =>
 if t8 < (H1.length:Int) then
  ck ((0:Int)<=t8/\t8 < (H1.length:Int)) <|
  (f_1 (lat H1 t8)).bind λ Jh =>
  if Jh=true then
   some (.inr t8)
  else
   ck (inR (t8+1)) <|
   bp H1 f_1 m (t8+1)
 else
  some (.inl ())
def ca (n:Nat)(H1:List bD)(f_1:bD->Option Bool):Option Int :=
 jn (bp H1 f_1 n 0) λ _q16 =>
 some (-1)
theorem jA (n:Nat)(H1:List bD)(f_1:bD->Option Bool)(F_f_1:FuncId)(C_f_1:List AV)(K_f_1:AV.mapA.go (λ _=>none) C_f_1=some C_f_1)(E_f_1:∀ vs w,(callFunc F_f_1 vs).run Tryz.prog w=.ok (.enter F_f_1 vs) w)(H_f_1:∀ (x0:bD) r,f_1 x0=some r->gB Tryz.prog F_f_1 ([.p (.agg (bD.cs x0))]++C_f_1) (·=.p (eB r)))(r:Int)(h0:ca n H1 f_1=some r):gB Tryz.prog 87 [.p (eL dm H1),.func (.func F_f_1) C_f_1] (·=.p (eI r)):=by
 unfold ca at h0;refine tA good Tryz.func87 Z Z Z λ w0=>mP (λ v:Int=>.p (eI v)) ?_;refine nx 8 rfl (oLl (f:=dm) Z Z ?_);refine nx 3 rfl ?_;obtain ⟨OJ,h1,IS,hR0⟩:=db h0;refine kEx 0 (λ Nv:Unit=>OJ=.inl Nv) (λ Nv=>⟨[],[]⟩) (λ Nv hv=>?_) ?_
 ·have h0:=IS _ hv;exact nx 6 Z (mQ (oi h0) Z (sr))
 refine lG (λ (Md:Int)=>⟨[(0,.p (eL dm H1)),(1,.func (.func F_f_1) C_f_1),(7,.p (eI (H1.length:Int))),(8,.p (eI Md))],[]⟩) (λ m (Md:Int)=>bp H1 f_1 m Md) Y 0 h1 (gE rfl rfl) ?_;rintro m t8 h1;replace h1:bp H1 f_1 (m+1) t8=some OJ:=h1;rw [bp] at h1;refine nx 5 rfl (fD [9] h1 rfl (λ c9 h1=>?_) λ c9 h1=>?_)
 ·refine nx 14 Z (oE h1 bD.HU Z Z Y λ JL h1=>?_);refine nx 1 Z (bd h1 λ Jh JZ h1=>?_);refine mG (gFn 1 C_f_1 Z (by simp only [])) (mG (gFn 11 C_f_1 Z (by simp only [])) ?_);refine mO Z (xd (q:=[.p (.agg (bD.cs (lat H1 t8)))]) (H_f_1 (lat H1 t8) _ JZ) Z Z Z Z K_f_1 Z Z ⟨sr,trivial⟩ E_f_1 Z ?_);refine nx 1 Z (fB [16] h1 Z (λ JN h1=>?_) λ JN h1=>?_)
  ·exact nx 7 Z (mQ (hR0 _ (oi h1).symm) Z (sr))
  refine nx 3 Z (oA h1 Z Z λ Kp h1=>?_);exact nx 2 Z (eX (t8+1) h1 (gE Z Z))
 exact nx 2 Z (eXi _ (oi h1).symm (gE Z Z))
def bT (n:Nat)(H1:List bD)(f_1:bD->Option Bool):Option Bool :=
 (ca n H1 f_1).bind λ r1 =>
 some (decide (0<=r1))
theorem iT (n:Nat)(H1:List bD)(f_1:bD->Option Bool)(F_f_1:FuncId)(C_f_1:List AV)(K_f_1:AV.mapA.go (λ _=>none) C_f_1=some C_f_1)(E_f_1:∀ vs w,(callFunc F_f_1 vs).run Tryz.prog w=.ok (.enter F_f_1 vs) w)(H_f_1:∀ (x0:bD) r,f_1 x0=some r->gB Tryz.prog F_f_1 ([.p (.agg (bD.cs x0))]++C_f_1) (·=.p (eB r)))(r:Bool)(h0:bT n H1 f_1=some r):gB Tryz.prog 73 [.p (eL dm H1),.func (.func F_f_1) C_f_1] (·=.p (eB r)):=by
 unfold bT at h0;refine tA good Tryz.func73 Z Z Z λ w0=>mP (λ v:Bool=>.p (eB v)) ?_;refine nx 8 Z (bd h0 λ r1 e2 h0=>?_);refine mO Z (qK (jA _ H1 f_1 F_f_1 C_f_1 K_f_1 E_f_1 H_f_1 _ e2) Z Z Z Z (gZ Z (gZ (pU K_f_1) oB)) ⟨sr,sr,trivial⟩ Tryz.call87 Z ?_);exact nx 4 Z (mQ (oi h0) Z (sr))
def fq (H8:bD)(cap_0:bD):Option Bool :=
 (fW H8 cap_0).bind λ r1 =>
 some r1
theorem nh (H8:bD)(cap_0:bD)(r:Bool)(h0:fq H8 cap_0=some r):gB Tryz.prog 74 [.p (.agg (bD.cs H8)),.rptr (bD.cs cap_0)] (·=.p (eB r)):=by
 unfold fq at h0;refine tA good Tryz.func74 Z Z Z λ w0=>mP (λ v:Bool=>.p (eB v)) ?_;refine nx 9 Z (bd h0 λ r1 e2 h0=>?_);refine oK (kd H8 cap_0 _ e2) Z ⟨sr,sr,trivial⟩ Tryz.call9 Z (nx 3 Z ?_);exact mQ (oi h0) Z (sr)
def eg (n:Nat)(f_0:ba)(Io:bD):Option ba :=
 (bT n f_0.fout (λ x0=>fq x0 Io)).bind λ r2 =>
 if (!r2)=true then
  ck ((f_0.fout.length+[Io].length)*48<=140737488355328) <|
  some (ba.mk (f_0.fout++[Io]))
 else
  some (ba.mk f_0.fout)
theorem oc (n:Nat)(f_0:ba)(Io:bD)(r:ba)(h0:eg n f_0 Io=some r):aV Tryz.prog 55 [.ptr 1000000 0,.p (.agg (bD.cs Io))] [(1000000,[.vec 900000 4 0 (f_0.fout.map dm)])] (λ x y=>x=.tuple []/\y=[(1000000,[.vec 2000000 4 0 (r.fout.map dm)])]):=by
 unfold eg at h0;refine cr good [800000] [1000000] Tryz.func55 Z Z Z Z Z λ w0 F=>mPo (λ v:ba=>.tuple []) (λ v=>[(1000000,[.vec 2000000 4 0 (v.fout.map dm)])]) ?_;refine nx 10 Z (mG (u5 3 (cs:=bD.cs Io) Z Z Z) ?_);refine mO Z (sy Z Z Z Z ?_);refine bd h0 λ r2 e3 h0=>mO Z (qK (iT _ f_0.fout (λ x0=>fq x0 Io) 74 [.rptr (bD.cs Io)] Z Tryz.call74 (λ x0 r h=>nh x0 Io r h) _ e3) Z Z Z Z (gZ Z (gZ (pU Z) oB)) ⟨sr,sr,trivial⟩ Tryz.call73 Z ?_);refine nx 2 Z (fB [10] h0 Z (λ c4 h0=>?_) λ c4 h0=>?_)
 ·refine nx 1 Z (cc' h0 λ Mk h0=>?_);refine mG (gE (t:=⟨[(0,.ptr 1000000 0),(3,.rptr (bD.cs Io))],[(1000000,[.vec 900000 4 0 (f_0.fout.map dm)])]⟩) Z Z) (mS ⟨2,[7,10],(by3 (.some λ i=>Nat.beq i 900000||Nat.beq i 18) .none .none),(λ _=>[(0,.ptr 1000000 0),(3,.rptr (bD.cs Io))]),(by3 ([(1000000,[.vec 900000 4 0 (f_0.fout.map dm)])]) ([(1000000,[.p (eL dm f_0.fout)])]) ([(1000000,[.vec 18 4 0 ((f_0.fout++[Io]).map dm)]),(1000000,[.p (eL dm f_0.fout)])]))⟩ Z Z Z ⟨Z,Z,trivial⟩ (lt2 ⟨Z,Z,trivial⟩ ⟨Z,Z,trivial⟩) Z Z Z Z ?_);refine aG (λ _=>.ptr 1000000 0) Z Z Z (gx Z Z Y) (lt2 Z Z) (aA Z (au [(0,_)] ⟨.inl Z,trivial⟩ (λ sl H2 K hK=>aj Z (b9 Z Z Z (H2 _ _ Z) hK)) (au [(0,_)] ⟨.inl Z,trivial⟩ (λ sl H2 K hK=>aj Z (b9 Z Z Z (H2 _ _ Z) hK)) aE))) (aG (λ _=>.ptr 1000000 0) Z Z Z (gx Z Z Y) (lt2 Z Z) (aA Z (au [(0,_)] ⟨.inl Z,trivial⟩ (λ sl H2 K hK=>aj Z (b9 Z Z Z (H2 _ _ Z) hK)) (au [(0,_)] ⟨.inl Z,trivial⟩ (λ sl H2 K hK=>aj Z (b9 Z Z Z (H2 _ _ Z) hK)) aE))) ?_);refine aG (λ _=>.ptr 1000000 0) Z Z Z (gx Z Z Y) (lt2 Z Z) (aA Z (au [(12,_)] ⟨.inr ⟨1,_,Z,Z,Z⟩,trivial⟩ (λ sl H2 K hK=>aj Z (ka Z Z Z (H2 _ _ Z) hK)) (au [(12,_)] ⟨.inr ⟨1,_,Z,Z,Z⟩,trivial⟩ (λ sl H2 K hK=>aj Z (ka Z Z Z (H2 _ _ Z) hK)) aE))) (aG (λ _=>.ptr 1000000 0) Z Z Z (gx Z Z Y) (lt2 Z Z) (aA Z (au [(13,_)] ⟨.inr ⟨2,_,Z,Z,Z⟩,trivial⟩ (λ sl H2 K hK=>aj Z (cg Z Z Z Z Z Z Z Z (H2 _ _ Z) hK)) (au [(13,_)] ⟨.inr ⟨2,_,Z,Z,Z⟩,trivial⟩ (λ sl H2 K hK=>aj Z (cg Z Z Z Z Z Z Z Z (H2 _ _ Z) hK)) aE))) ?_);refine aG (by3 (.vec 900000 4 0 (f_0.fout.map dm)) (.p (eL dm f_0.fout)) (.p (eL dm f_0.fout))) Z Z Z (gx Z Z Y) (lt2 Z Z) (aA Z (aA Z (au [(14,_)] ⟨.inr ⟨3,_,Z,Z,Z⟩,trivial⟩ (λ sl H2 K hK=>aj Z (ef Z Z Z Z Z (H2 _ _ Z) Z Z hK)) aE))) (aG (λ _=>.p (.agg (bD.cs Io))) Z Z Z (gx Z Z Y) (lt2 Z Z) (aA Z (au [(3,_)] ⟨.inl Z,trivial⟩ (λ sl H2 K hK=>aj Z (nJ Z Z Z Z Z (H2 _ _ Z) Z hK)) (au [(3,_)] ⟨.inl Z,trivial⟩ (λ sl H2 K hK=>aj Z (nJ Z Z Z Z Z (H2 _ _ Z) Z hK)) aE))) ?_);refine aG (λ _=>.p (eL dm [Io])) Z Z Z (gx Z Z Y) (lt2 Z Z) (aA Z (aA Z (au [(16,_)] ⟨.inr ⟨5,_,Z,Z,Z⟩,trivial⟩ (λ sl H2 K hK=>aj Z (bF dm [Io] Z Z Z Z Z Z (eq (H2 _ _ Z) Z fK) Z Z Z Z Z Z (by first | rfl | (simp only [bx,ld,bD.HR]; done) | (simp only [bx,ld,bD.HR]; rfl)) hK)) aE))) (eM (λ _=>.vec 18 4 0 ((f_0.fout++[Io]).map dm)) [(15,_),(17,_)] Z ⟨.inr ⟨4,_,Z,Z,Z⟩,.inr ⟨6,_,Z,Z,Z⟩,trivial⟩ Z Z (ip Z Y) (lt2 (λ h=>absurd h (by decide)) Y) (λ sl H2 K hK=>aj Z (gu dm f_0.fout [Io] Z Z Z Z Z Z Z Z (H2 _ _ Z) Z Z (H2 _ _ Z) Z (λ x=>congrArg List.length (bD.HU x)) Z Z Z Z Mk hK)) ?_);refine aG (λ _=>.ptr 1000000 0) Z Z Z (gx Z Z Y) (lt2 Z Z) (au [(11,_)] ⟨.inr ⟨0,_,Z,Z,Z⟩,trivial⟩ (λ sl H2 K hK=>aj Z (ka Z Z Z (H2 _ _ Z) hK)) (au [(11,_)] ⟨.inr ⟨0,_,Z,Z,Z⟩,trivial⟩ (λ sl H2 K hK=>aj Z (ka Z Z Z (H2 _ _ Z) hK)) (aA Z aE))) (aG (λ _=>.ptr 1000000 0) Z Z Z (gx Z Z Y) (lt2 Z Z) (aA Z (au [(19,_)] ⟨.inr ⟨8,_,Z,Z,Z⟩,trivial⟩ (λ sl H2 K hK=>aj Z (cg Z Z Z Z Z Z Z Z (H2 _ _ Z) hK)) (aA Z aE))) ?_);refine iR [(18,_),(20,_)] Z ⟨.inr ⟨7,_,Z,Z,Z⟩,.inr ⟨9,_,Z,Z,Z⟩,trivial⟩ Z (λ sl H2 K hK=>aj Z (il Z Z Z (H2 _ _ Z) (H2 _ _ Z) Z Z Z (th Z) hK)) (dF ?_);exact nx 1 Z (uM (oi h0) (aQ (bB 18 800000 Z Z Z Z Z) (ay _)) Z Z Z Z (sr) ⟨⟨_,Z,⟨sr,trivial⟩⟩,trivial⟩)
 exact nx 2 Z (uM (oi h0) (aQ (bB 900000 800000 Z Z Z Z Z) (ay _)) Z Z Z Z (sr) ⟨⟨_,Z,⟨sr,trivial⟩⟩,trivial⟩)
def cv (H4:ba->ab->(List Bytes)->Option ba)(e_1:ab)(bound_2:List Bytes)(inner15:List Bytes):Nat->Int->(List bD)->Option (List bD)
 | 0,_,_=>none
 | m+1,Ln,KB =>
 if Ln < (e_1.By.length:Int) then
  (
    ck ((0:Int)<=Ln/\Ln < (e_1.By.length:Int)) <|
    if Ln=0 then
     (H4 (ba.mk KB) (lat e_1.By Ln) bound_2).bind λ J1 =>
     some J1.fout
    else
     (H4 (ba.mk KB) (lat e_1.By Ln) inner15).bind λ It =>
     some It.fout
   : Option (List bD)).bind λ JH =>
  ck (inR (Ln+1)) <|
  cv H4 e_1 bound_2 inner15 m (Ln+1) JH
 else
  some KB
def cu (H4:ba->ab->(List Bytes)->Option ba)(e_1:ab)(bound_2:List Bytes):Nat->Int->(List bD)->Option (List bD)
 | 0,_,_=>none
 | m+1,LL,ML =>
 if LL < (e_1.By.length:Int) then
  ck ((0:Int)<=LL/\LL < (e_1.By.length:Int)) <|
  (H4 (ba.mk ML) (lat e_1.By LL) bound_2).bind λ r52 =>
  ck (inR (LL+1)) <|
  cu H4 e_1 bound_2 m (LL+1) r52.fout
 else
  some ML
def cn (H4:ba->ab->(List Bytes)->Option ba)(bound_2:List Bytes)(r1:ab×(List ab)):Nat->Int->(List bD)->Option (List bD)
 | 0,_,_=>none
 | m+1,K9,J9 =>
 if K9 < (r1.2.length:Int) then
  (
    ck ((0:Int)<=K9/\K9 < (r1.2.length:Int)) <|
    (
      if (lat r1.2 K9).Ar=5 then
       some (decide (1 < (((lat r1.2 K9).By).length:Int)))
      else
       some false
     : Option Bool).bind λ t31 =>
    if t31=true then
     ck ((0:Int)<=1/\1 < (((lat r1.2 K9).By).length:Int)) <|
     (H4 (ba.mk J9) (lat ((lat r1.2 K9).By) 1) bound_2).bind λ It =>
     some It.fout
    else
     some J9
   : Option (List bD)).bind λ JH =>
  ck (inR (K9+1)) <|
  cn H4 bound_2 r1 m (K9+1) JH
 else
  some J9
mutual
def aP:Nat->ba->ab->(List Bytes)->Option ba
 | 0,_,_,_=>none
 | n+1,f_0,e_1,bound_2 =>
 (
   (
     if e_1.Ar=3 then
      some true
     else
      if e_1.Ar=4 then
       some true
      else
       some (decide (e_1.Ar=5))
    : Option Bool).bind λ t3 =>
   if t3=true then
    ((dH n) (ba.mk f_0.fout) e_1 bound_2).bind λ r5 =>
    some r5.fout
   else
    (
      if e_1.Ar=12 then
       some true
      else
       some (decide (e_1.Ar=13))
     : Option Bool).bind λ t8 =>
    if t8=true then
     (iK bound_2).bind λ Iu =>
     ck ((Iu.length+[e_1.AI].length)*16<=140737488355328) <|
     (
       if e_1.E'=([]:Bytes) then
        some (Iu++[e_1.AI])
       else
        ck (((Iu++[e_1.AI]).length+[e_1.E'].length)*16<=140737488355328) <|
        some ((Iu++[e_1.AI])++[e_1.E'])
      : Option (List Bytes)).bind λ inner15 =>
     (cv (aP n) e_1 bound_2 inner15 n 0 f_0.fout).bind λ JG =>
     some JG
    else
     (cu (aP n) e_1 bound_2 n 0 f_0.fout).bind λ Nc =>
     some Nc
  : Option (List bD)).bind λ Nb =>
 some (ba.mk Nb)
def dH:Nat->ba->ab->(List Bytes)->Option ba
 | 0,_,_,_=>none
 | n+1,f_0,e_1,bound_2 =>
 (dZ n e_1).bind λ r1 =>
 (
   if r1.1.Ar=3 then
    (cC n bound_2 r1.1.AI).bind λ r4 =>
    if (!r4)=true then
     (gm r1.1 r1.2).bind λ r7 =>
     (eg n (ba.mk f_0.fout) r7.1).bind λ r9 =>
     some r9.fout
    else
     some f_0.fout
   else
    ((aP n) (ba.mk f_0.fout) r1.1 bound_2).bind λ Jh =>
    some Jh.fout
  : Option (List bD)).bind λ f13 =>
 (cn (aP n) bound_2 r1 n 0 f13).bind λ JG =>
 some (ba.mk JG)
end
theorem mX (n:Nat):(∀ (f_0:ba) (e_1:ab) (bound_2:List Bytes) (r:ba),aP n f_0 e_1 bound_2=some r->aV Tryz.prog 23 [.ptr 1000000 0,.p (.agg (ab.cs e_1)),.p (eL eS bound_2)] [(1000000,[.vec 900000 4 0 (f_0.fout.map dm)])] (λ x y=>x=.tuple []/\y=[(1000000,[.vec 2000000 4 0 (r.fout.map dm)])]))/\(∀ (f_0:ba) (e_1:ab) (bound_2:List Bytes) (r:ba),dH n f_0 e_1 bound_2=some r->aV Tryz.prog 35 [.ptr 1000000 0,.p (.agg (ab.cs e_1)),.p (eL eS bound_2)] [(1000000,[.vec 900000 4 0 (f_0.fout.map dm)])] (λ x y=>x=.tuple []/\y=[(1000000,[.vec 2000000 4 0 (r.fout.map dm)])])):=by
 induction n with
 | zero=>exact ⟨(by intro f_0 e_1 bound_2 r h0; cases h0),(by intro f_0 e_1 bound_2 r h0; cases h0)⟩
 | succ n ih =>
 obtain ⟨If,I1⟩:=ih;refine ⟨?_,?_⟩
 ·skip
  intro f_0 e_1 bound_2 r h0;rw [aP] at h0;refine cr good [800000] [1000000] Tryz.func23 Z Z Z Z Z λ w0 F=>mPo (λ v:ba=>.tuple []) (λ v=>[(1000000,[.vec 2000000 4 0 (v.fout.map dm)])]) ?_;refine nx 9 rfl (bd h0 λ o66 h1 h0=>?_);refine kN o66 (λ v67=>⟨[],[(1000000,[.vec 900000 4 0 (v67.map dm)])]⟩) ?_ ?_
  ·exact nx 1 Z (uM (oi h0) (aQ (bB 900000 800000 Z Z Z Z Z) (ay _)) Z Z Z Z (sr) ⟨⟨_,Z,⟨sr,trivial⟩⟩,trivial⟩)
  refine nx 2 Z (bd h1 λ OF h2 h1=>?_);refine kN OF (λ v69=>⟨[(0,.ptr 1000000 0),(2,.p (eL eS bound_2)),(4,.ptr 4 0),(12,.p (eI e_1.Ar)),(25,.p (eB v69))],[(4,(ab.cs e_1).map .p),(1000000,[.vec 900000 4 0 (f_0.fout.map dm)])]⟩) ?_ ?_
  ·refine nx 1 Z (fB [25] h1 Z (λ c4 h1=>?_) λ c4 h1=>?_)
   ·refine nx 5 Z (bd h1 λ r5 e6 h1=>?_);refine mO Z (bn [1000000] [900000] 101000 101001 (I1 (ba.mk f_0.fout) e_1 bound_2 _ e6) Z Z Z Z Z ⟨sr,sr,sr,trivial⟩ Z Z ⟨⟨_,Z,⟨sr,trivial⟩⟩,trivial⟩ Z Z Z Z Z Z Z Z Tryz.call35 Z Z ?_);exact nx 1 Z (eX _ (oi h1).symm (aQ (bB 101000 900000 Z Z Z Z Z) (gE Z Z)))
   refine nx 2 Z (bd h1 λ o70 h2 h1=>?_);refine kN o70 (λ v71=>⟨[(0,.ptr 1000000 0),(2,.p (eL eS bound_2)),(4,.ptr 4 0),(33,.p (eB v71))],[(4,(ab.cs e_1).map .p),(1000000,[.vec 900000 4 0 (f_0.fout.map dm)])]⟩) ?_ ?_
   ·refine nx 1 Z (fB [33] h1 Z (λ c9 h1=>?_) λ c9 h1=>?_)
    ·refine nx 2 Z (bd h1 λ Iu JM h1=>?_);refine cc' h1 λ KA h1=>mG (gE (t:=⟨[(0,.ptr 1000000 0),(2,.p (eL eS bound_2)),(4,.ptr 4 0)],[(4,(ab.cs e_1).map .p),(1000000,[.vec 900000 4 0 (f_0.fout.map dm)])]⟩) Z Z) (mS ⟨2,[1,5],(by3 (.some (dr [] 102000 102001)) (.some λ i=>Nat.beq i 102000||Nat.beq i 41) .none),(λ _=>[(0,.ptr 1000000 0),(2,.p (eL eS bound_2)),(4,.ptr 4 0)]),(λ _=>[(4,[.p (eI e_1.Ar),.p (eI e_1.fOp),.p (eS e_1.AI),.p (eS e_1.E'),.p (eI e_1.A'.Ar),.p (eI e_1.A'.F'),.p (eS e_1.A'.HT),.p (eL dv e_1.A'.HQ),.p (eL eS e_1.A'.D'),.p (eL ai e_1.By),.p (eI e_1.fAt)]),(1000000,[.vec 900000 4 0 (f_0.fout.map dm)])])⟩ Z Z Z ⟨Z,Z,Z,trivial⟩ (lt2 ⟨Z,Z,Z,trivial⟩ ⟨Z,Z,Z,trivial⟩) Z Z Z Z ?_);refine aG (λ _=>.p (eL eS bound_2)) Z Z Z (gx Z Z Y) (lt2 Z Z) (aA Z (aA Z (au [(2,_)] ⟨.inl Z,trivial⟩ (λ sl H2 K hK=>aj Z (b9 Z Z Z (H2 _ _ Z) hK)) aE))) (eM (by3 (.vec 102000 1 0 (Iu.map eS)) (.vec 102000 1 0 (Iu.map eS)) (.p (eL eS Iu))) [(36,_)] Z ⟨.inr ⟨0,_,Z,Z,Z⟩,trivial⟩ Z Z (ip Z Y) (lt2 (λ h=>absurd h (by decide)) Y) (λ sl H2 K hK=>aj Z (bn [] [] 102000 102001 (lq bound_2 _ JM) Z Z Z (bo (H2 _ _ Z) cX) Z ⟨sr,trivial⟩ Z Z trivial Z Z Z Z Z Z Z Z Tryz.call36 Z Z hK)) ?_);refine aG (λ _=>.ptr 4 2) Z Z Z (gx Z Z Y) (lt2 Z Z) (au [(4,_)] ⟨.inl Z,trivial⟩ (λ sl H2 K hK=>aj Z (cg Z Z Z Z Z Z Z Z (H2 _ _ Z) hK)) (au [(4,_)] ⟨.inl Z,trivial⟩ (λ sl H2 K hK=>aj Z (cg Z Z Z Z Z Z Z Z (H2 _ _ Z) hK)) (au [(4,_)] ⟨.inl Z,trivial⟩ (λ sl H2 K hK=>aj Z (cg Z Z Z Z Z Z Z Z (H2 _ _ Z) hK)) aE))) (aG (λ _=>.p (eS e_1.AI)) Z Z Z (gx Z Z Y) (lt2 Z Z) (au [(38,_)] ⟨.inr ⟨2,_,Z,Z,Z⟩,trivial⟩ (λ sl H2 K hK=>aj Z (ef Z Z Z Z Z (H2 _ _ Z) Z Z hK)) (au [(38,_)] ⟨.inr ⟨2,_,Z,Z,Z⟩,trivial⟩ (λ sl H2 K hK=>aj Z (ef Z Z Z Z Z (H2 _ _ Z) Z Z hK)) (au [(38,_)] ⟨.inr ⟨2,_,Z,Z,Z⟩,trivial⟩ (λ sl H2 K hK=>aj Z (ef Z Z Z Z Z (H2 _ _ Z) Z Z hK)) aE))) ?_);refine aG (λ _=>.p (eL eS [e_1.AI])) Z Z Z (gx Z Z Y) (lt2 Z Z) (aA Z (au [(39,_)] ⟨.inr ⟨3,_,Z,Z,Z⟩,trivial⟩ (λ sl H2 K hK=>aj Z (bF eS [e_1.AI] Z Z Z Z Z Z (eq (H2 _ _ Z) Z fK) Z Z Z Z Z Z Z hK)) (au [(39,_)] ⟨.inr ⟨3,_,Z,Z,Z⟩,trivial⟩ (λ sl H2 K hK=>aj Z (bF eS [e_1.AI] Z Z Z Z Z Z (eq (H2 _ _ Z) Z fK) Z Z Z Z Z Z Z hK)) aE))) (eM (λ _=>.vec 41 1 0 ((Iu++[e_1.AI]).map eS)) [(37,_),(40,_)] Z ⟨.inr ⟨1,_,Z,Z,Z⟩,.inr ⟨4,_,Z,Z,Z⟩,trivial⟩ Z Z Y (lt2 (λ h=>absurd h (by decide)) (λ h=>absurd h (by decide))) (λ sl H2 K hK=>aj Z (gu eS Iu [e_1.AI] Z Z Z Z Z Z Z Z (H2 _ _ Z) Z Z (H2 _ _ Z) Z Y Z Z Z Z KA hK)) ?_);refine pF (λ _=>.vec 41 1 0 ((Iu++[e_1.AI]).map eS)) Z Z Z (gx Z Z Y) (lt2 Y (nl Z)) (au [(41,_)] ⟨.inr ⟨5,_,Z,Z,Z⟩,trivial⟩ (λ sl H2 K hK=>aj Z (dU Z Z Z (H2 _ _ Z) hK)) (aA Z (aA Z aE))) (dF ?_);refine nx 2 Z (bd h1 λ N5 h2 h1=>?_);refine kN N5 (λ v73=>⟨[(0,.ptr 1000000 0),(2,.p (eL eS bound_2)),(4,.ptr 4 0),(6,.vec 49 1 0 (v73.map eS))],[(4,(ab.cs e_1).map .p),(1000000,[.vec 900000 4 0 (f_0.fout.map dm)])]⟩) ?_ ?_
     ·refine nx 5 Z (oLl (f:=ai) Z Z ?_);refine nx 3 Z (bd h1 λ o74 h2 h1=>?_);refine kE 3 o74 (λ v75=>⟨[],[(1000000,[.vec 900000 4 0 (v75.map dm)])]⟩) ?_ ?_
      ·exact nx 1 Z (eX _ (oi h1).symm (gE Z Z))
      refine lG (λ (Ox:Int×(List bD))=>⟨[(0,.ptr 1000000 0),(2,.p (eL eS bound_2)),(6,.vec 49 1 0 (N5.map eS)),(51,.p (eL ai e_1.By)),(52,.p (eI (e_1.By.length:Int))),(53,.p (eI Ox.1))],[(1000000,[.vec 900000 4 0 (Ox.2.map dm)])]⟩) (λ m (Ox:Int×(List bD))=>cv (aP n) e_1 bound_2 N5 m Ox.1 Ox.2) Y (0,f_0.fout) h2 (gE rfl rfl) ?_;rintro m ⟨Ln,KB⟩ h2;replace h2:cv (aP n) e_1 bound_2 N5 (m+1) Ln KB=some o74:=h2;rw [cv] at h2;refine nx 5 rfl (fD [54] h2 rfl (λ Mv h2=>?_) λ Mv h2=>?_)
      ·refine nx 3 Z (bd h2 λ o77 h3 h2=>?_);refine kN o77 (λ v78=>⟨[(0,.ptr 1000000 0),(2,.p (eL eS bound_2)),(6,.vec 49 1 0 (N5.map eS)),(51,.p (eL ai e_1.By)),(52,.p (eI (e_1.By.length:Int))),(53,.p (eI Ln))],[(1000000,[.vec 106000 4 0 (v78.map dm)])]⟩) ?_ ?_
       ·refine nx 2 Z (oA h2 Z Z λ KZ h2=>?_);exact nx 2 Z (eX (Ln+1,o77) h2 (aQ (bB 106000 900000 Z Z Z Z Z) (gE Z Z)))
       refine nx 4 Z (oE h3 ab.HU Z Z Y λ Mn h3=>?_);refine nx 10 Z (fD [59] h3 Z (λ Jk h3=>?_) λ Jk h3=>?_)
       ·refine nx 5 Z (bd h3 λ J1 Mo h3=>?_);refine mO Z (bn [1000000] [900000] 105000 105001 (If (ba.mk KB) (lat e_1.By Ln) bound_2 _ Mo) Z Z Z Z Z ⟨sr,sr,sr,trivial⟩ Z Z ⟨⟨_,Z,⟨sr,trivial⟩⟩,trivial⟩ Z Z Z Z Z Z Z Z Tryz.call23 Z Z ?_);exact nx 1 Z (eX _ (oi h3).symm (aQ (bB 105000 106000 Z Z Z Z Z) (gE Z Z)))
       refine nx 5 Z (bd h3 λ It LH h3=>?_);refine mO Z (bn [1000000] [900000] 106000 106001 (If (ba.mk KB) (lat e_1.By Ln) N5 _ LH) Z Z Z Z Z ⟨sr,sr,sr,trivial⟩ Z Z ⟨⟨_,Z,⟨sr,trivial⟩⟩,trivial⟩ Z Z Z Z Z Z Z Z Tryz.call23 Z Z ?_);exact nx 1 Z (eX _ (oi h3).symm (gE Z Z))
      exact nx 2 Z (eXi _ (oi h2).symm (gE Z Z))
     refine nx 4 Z (oS Z Z ?_);refine nx 1 Z (fN [44] h2 Z (λ JN h2=>?_) λ JN h2=>?_)
     ·exact nx 2 Z (eX _ (oi h2).symm (aQ (bB 41 49 Z Z Z Z Z) (gE Z Z)))
     refine nx 5 Z (mO Z (bF eS [e_1.E'] Z Z Z Z Z Z Z Z Z Z Z Z Z Z ?_));refine cc' h2 λ Kp h2=>mO Z (gu eS (Iu++[e_1.AI]) [e_1.E'] Z Z Z Z Z Z Z Z Z Z Z Z Z Y Z Z Z Z Kp ?_);exact nx 2 Z (eX _ (oi h2).symm (gE Z Z))
    refine nx 5 Z (oLl (f:=ai) Z Z ?_);refine nx 3 Z (bd h1 λ OD h2 h1=>?_);refine kE 1 OD (λ v80=>⟨[],[(1000000,[.vec 900000 4 0 (v80.map dm)])]⟩) ?_ ?_
    ·exact nx 1 Z (eX _ (oi h1).symm (gE Z Z))
    refine lG (λ (Ki:Int×(List bD))=>⟨[(0,.ptr 1000000 0),(2,.p (eL eS bound_2)),(14,.p (eL ai e_1.By)),(15,.p (eI (e_1.By.length:Int))),(16,.p (eI Ki.1))],[(1000000,[.vec 900000 4 0 (Ki.2.map dm)])]⟩) (λ m (Ki:Int×(List bD))=>cu (aP n) e_1 bound_2 m Ki.1 Ki.2) Y (0,f_0.fout) h2 (gE rfl rfl) ?_;rintro m ⟨LL,ML⟩ h2;replace h2:cu (aP n) e_1 bound_2 (m+1) LL ML=some OD:=h2;rw [cu] at h2;refine nx 5 rfl (fD [17] h2 rfl (λ O8 h2=>?_) λ O8 h2=>?_)
    ·refine nx 6 Z (oE h2 ab.HU Z Z Y λ NH h2=>?_);refine nx 8 Z (bd h2 λ r52 e53 h2=>?_);refine mO Z (bn [1000000] [900000] 108000 108001 (If (ba.mk ML) (lat e_1.By LL) bound_2 _ e53) Z Z Z Z Z ⟨sr,sr,sr,trivial⟩ Z Z ⟨⟨_,Z,⟨sr,trivial⟩⟩,trivial⟩ Z Z Z Z Z Z Z Z Tryz.call23 Z Z ?_);refine nx 2 Z (oA h2 Z Z λ NG h2=>?_);exact nx 2 Z (eX (LL+1,r52.fout) h2 (aQ (bB 108000 900000 Z Z Z Z Z) (gE Z Z)))
    exact nx 2 Z (eXi _ (oi h2).symm (gE Z Z))
   refine nx 5 Z (fD [33,34] h2 Z (λ c7 h2=>?_) λ c7 h2=>?_)
   ·exact nx 2 Z (eX _ (oi h2).symm (gE Z Z))
   exact nx 5 Z (eX _ (oi h2).symm (gE Z Z))
  refine nx 5 Z (fD [25,26] h2 Z (λ c1 h2=>?_) λ c1 h2=>?_)
  ·exact nx 2 Z (eX _ (oi h2).symm (gE Z Z))
  refine nx 6 Z (fD [25,27] h2 Z (λ c2 h2=>?_) λ c2 h2=>?_)
  ·exact nx 2 Z (eX _ (oi h2).symm (gE Z Z))
  exact nx 5 Z (eX _ (oi h2).symm (gE Z Z))
 ·skip
  intro f_0 e_1 bound_2 r h0;rw [dH] at h0;refine cr good [800000] [1000000] Tryz.func35 Z Z Z Z Z λ w0 F=>mPo (λ v:ba=>.tuple []) (λ v=>[(1000000,[.vec 2000000 4 0 (v.fout.map dm)])]) ?_;refine nx 7 rfl (bd h0 λ r1 e2 h0=>?_);refine oK (mg _ e_1 _ e2) rfl ⟨sr,trivial⟩ Tryz.call15 rfl (nx 8 rfl ?_);refine bd h0 λ LN h1 h0=>kN LN (λ v46=>⟨[(0,.ptr 1000000 0),(2,.p (eL eS bound_2)),(7,.p (eL ai r1.2))],[(1000000,[.vec 900000 4 0 (v46.map dm)])]⟩) ?_ ?_
  ·refine nx 4 Z (oLl (f:=ai) Z Z ?_);refine nx 3 Z (bd h0 λ N7 h1 h0=>?_);refine kE 0 N7 (λ Oe=>⟨[],[(1000000,[.vec 900000 4 0 (Oe.map dm)])]⟩) ?_ ?_
   ·exact nx 1 Z (uM (oi h0) (aQ (bB 900000 800000 Z Z Z Z Z) (ay _)) Z Z Z Z (sr) ⟨⟨_,Z,⟨sr,trivial⟩⟩,trivial⟩)
   refine lG (λ (MG:Int×(List bD))=>⟨[(0,.ptr 1000000 0),(2,.p (eL eS bound_2)),(38,.p (eL ai r1.2)),(39,.p (eI (r1.2.length:Int))),(40,.p (eI MG.1))],[(1000000,[.vec 900000 4 0 (MG.2.map dm)])]⟩) (λ m (MG:Int×(List bD))=>cn (aP n) bound_2 r1 m MG.1 MG.2) Y (0,LN) h1 (gE rfl rfl) ?_;rintro m ⟨K9,J9⟩ h1;replace h1:cn (aP n) bound_2 r1 (m+1) K9 J9=some N7:=h1;rw [cn] at h1;refine nx 5 rfl (fD [41] h1 rfl (λ Mw h1=>?_) λ Mw h1=>?_)
   ·refine nx 3 Z (bd h1 λ Nz h2 h1=>?_);refine kN Nz (λ v51=>⟨[(0,.ptr 1000000 0),(2,.p (eL eS bound_2)),(38,.p (eL ai r1.2)),(39,.p (eI (r1.2.length:Int))),(40,.p (eI K9))],[(1000000,[.vec 900000 4 0 (v51.map dm)])]⟩) ?_ ?_
    ·refine nx 2 Z (oA h1 Z Z λ KZ h1=>?_);exact nx 2 Z (eX (K9+1,Nz) h1 (gE Z Z))
    refine nx 3 Z (oE h2 ab.HU Z Z Y λ M9 h2=>?_);refine nx 5 Z (bd h2 λ o52 h3 h2=>?_);refine kN o52 (λ v53=>⟨[(0,.ptr 1000000 0),(2,.p (eL eS bound_2)),(11,.ptr 11 0),(38,.p (eL ai r1.2)),(39,.p (eI (r1.2.length:Int))),(40,.p (eI K9)),(52,.p (eB v53))],[(11,(ab.cs (lat r1.2 K9)).map .p),(1000000,[.vec 900000 4 0 (J9.map dm)])]⟩) ?_ ?_
    ·refine nx 1 Z (fB [52] h2 Z (λ Jv h2=>?_) λ Jv h2=>?_)
     ·refine nx 5 Z (oE h2 ab.HU Z Z Y λ NM h2=>?_);refine nx 2 Z (bd h2 λ It LH h2=>?_);refine mO Z (bn [1000000] [900000] 104000 104001 (If (ba.mk J9) (lat ((lat r1.2 K9).By) 1) bound_2 _ LH) Z Z Z Z Z ⟨sr,sr,sr,trivial⟩ Z Z ⟨⟨_,Z,⟨sr,trivial⟩⟩,trivial⟩ Z Z Z Z Z Z Z Z Tryz.call23 Z Z ?_);exact nx 1 Z (eX _ (oi h2).symm (aQ (bB 104000 900000 Z Z Z Z Z) (gE Z Z)))
     exact nx 2 Z (eX _ (oi h2).symm (gE Z Z))
    refine nx 5 Z (fD [46,47] h3 Z (λ LJ h3=>?_) λ LJ h3=>?_)
    ·refine nx 2 Z (oLl (f:=ai) Z Z ?_);exact nx 3 Z (eX _ (oi h3).symm (gE Z Z))
    exact nx 6 Z (eX _ (oi h3).symm (gE Z Z))
   exact nx 2 Z (eXi _ (oi h1).symm (gE Z Z))
  refine nx 6 Z (fN [19] h1 Z (λ c3 h1=>?_) λ c3 h1=>?_)
  ·refine nx 6 Z (bd h1 λ r4 e5 h1=>?_);refine oK (j7 _ bound_2 r1.1.AI _ e5) Z ⟨sr,sr,trivial⟩ Tryz.call54 Z (nx 2 Z ?_);refine fB [28] h1 Z (λ c6 h1=>?_) λ c6 h1=>?_
   ·refine nx 5 Z (bd h1 λ r7 e8 h1=>?_);refine oK (mf r1.1 r1.2 _ e8) Z ⟨sr,sr,trivial⟩ Tryz.call18 Z (nx 10 Z ?_);refine bd h1 λ r9 J0 h1=>mO Z (bn [1000000] [900000] 101000 101001 (oc _ (ba.mk f_0.fout) r7.1 _ J0) Z Z Z Z Z ⟨sr,sr,trivial⟩ Z Z ⟨⟨_,Z,⟨sr,trivial⟩⟩,trivial⟩ Z Z Z Z Z Z Z Z Tryz.call55 Z Z ?_);exact nx 1 Z (eX _ (oi h1).symm (aQ (bB 101000 900000 Z Z Z Z Z) (gE Z Z)))
   exact nx 2 Z (eX _ (oi h1).symm (gE Z Z))
  refine nx 5 Z (bd h1 λ Jh JZ h1=>?_);refine mO Z (bn [1000000] [900000] 102000 102001 (If (ba.mk f_0.fout) r1.1 bound_2 _ JZ) Z Z Z Z Z ⟨sr,sr,sr,trivial⟩ Z Z ⟨⟨_,Z,⟨sr,trivial⟩⟩,trivial⟩ Z Z Z Z Z Z Z Z Tryz.call23 Z Z ?_);exact nx 1 Z (eX _ (oi h1).symm (aQ (bB 102000 900000 Z Z Z Z Z) (gE Z Z)))
theorem nF (n:Nat):∀ (f_0:ba) (e_1:ab) (bound_2:List Bytes) (r:ba),aP n f_0 e_1 bound_2=some r->aV Tryz.prog 23 [.ptr 1000000 0,.p (.agg (ab.cs e_1)),.p (eL eS bound_2)] [(1000000,[.vec 900000 4 0 (f_0.fout.map dm)])] (λ x y=>x=.tuple []/\y=[(1000000,[.vec 2000000 4 0 (r.fout.map dm)])]):=(mX n).1
def iV (n:Nat)(H9:ab):Option (List bD) :=
 (aP n (ba.mk []) H9 []).bind λ r1 =>
 some r1.fout
theorem sJ (n:Nat)(H9:ab)(r:(List bD))(h0:iV n H9=some r):aB Tryz.prog 14 [.agg (ab.cs H9)] (·=.p (eL dm r)):=by
 unfold iV at h0;refine bm good Tryz.func14 Z Z Z λ w0=>mP (λ v:(List bD)=>.p (eL dm v)) ?_;refine nx 15 Z (bd h0 λ r1 e2 h0=>?_);refine mO Z (bn [5] [890000] 101000 101001 (nF _ (ba.mk []) H9 [] _ e2) Z Z Z Z Z ⟨sr,sr,fT _,trivial⟩ Z Z ⟨⟨_,Z,⟨AV.sub_nilvec _ _ _,trivial⟩⟩,trivial⟩ Z Z Z Z Z Z Z Z Tryz.call23 Z Z ?_);exact nx 10 Z (mQ (oi h0) Z (AV.sub_vec _ _ _ _))
def fw (n:Nat):Option Bool :=
 (kx ([118,97,114]:Bytes)).bind λ r1 =>
 (iN r1 ([108]:Bytes)).bind λ r3 =>
 (kx ([120]:Bytes)).bind λ r5 =>
 (iN r5 ([105,100]:Bytes)).bind λ r7 =>
 (iV n (ab.mk 12 0 ([120]:Bytes) ([]:Bytes) (ah.mk 0 0 ([]:Bytes) [] []) [r3,r7] 0)).bind λ r9 =>
 (kx ([109,111,100,117,108,101]:Bytes)).bind λ Jh =>
 (iN Jh ([109]:Bytes)).bind λ KE =>
 (iN KE ([111]:Bytes)).bind λ Im =>
 (cG n Im).bind λ KS =>
 (kx ([110,101,116]:Bytes)).bind λ Lf =>
 (iN Lf ([97]:Bytes)).bind λ Iq =>
 (iN Iq ([105,100]:Bytes)).bind λ IOz =>
 (cG n IOz).bind λ Jm =>
 (
   if (r9.length:Int)=1 then
    ck ((0:Int)<=0/\0 < (r9.length:Int)) <|
    if (lat r9 0).Ar=1 then
     ck ((0:Int)<=0/\0 < (r9.length:Int)) <|
     if (lat r9 0).AI=([108]:Bytes) then
      if KS.2=true then
       if (!Jm.2)=true then
        (bZ KS.1).bind λ It =>
        if It=([109,111,100,117,108,101,46,109,46,111]:Bytes) then
         (fW (bD.mk 0 ([]:Bytes) ([]:Bytes) 1) (bD.mk 0 ([]:Bytes) ([]:Bytes) 2)).bind λ r37 =>
         some r37
        else
         some false
       else
        some false
      else
       some false
     else
      some false
    else
     some false
   else
    some false
  : Option Bool).bind λ t39 =>
 some t39
theorem mH (n:Nat)(r:Bool)(h0:fw n=some r):aB Tryz.prog 5 [] (·=.p (eB r)):=by
 unfold fw at h0;refine bm good Tryz.func5 Z Z Z λ w0=>mP (λ v:Bool=>.p (eB v)) ?_;refine nx 6 Z (bd h0 λ r1 e2 h0=>?_);refine oK (kV ([118,97,114]:Bytes) _ e2) Z ⟨sr,trivial⟩ Tryz.call13 Z (bd h0 λ r3 e4 h0=>?_);refine oK (iu r1 ([108]:Bytes) _ e4) Z ⟨sr,sr,trivial⟩ Tryz.call12 Z (bd h0 λ r5 e6 h0=>?_);refine oK (kV ([120]:Bytes) _ e6) Z ⟨sr,trivial⟩ Tryz.call13 Z (bd h0 λ r7 e8 h0=>?_);refine oK (iu r5 ([105,100]:Bytes) _ e8) Z ⟨sr,sr,trivial⟩ Tryz.call12 Z (mO Z (bF ai [r3,r7] Z Z Z Z Z Z Z Z Z Z Z Z Z (by first | rfl | (simp only [bx,ld,ab.HR]; done) | (simp only [bx,ld,ab.HR]; rfl)) ?_));refine nx 7 Z (bd h0 λ r9 J0 h0=>?_);refine oK (sJ _ (ab.mk 12 0 ([120]:Bytes) ([]:Bytes) (ah.mk 0 0 ([]:Bytes) [] []) [r3,r7] 0) _ J0) Z ⟨cR ⟨.inl Z,.inl Z,.inl Z,.inl Z,.inl Z,.inl Z,.inl Z,.inr ⟨Z,Z⟩,.inr ⟨Z,Z⟩,.inl Z,.inl Z,trivial⟩,trivial⟩ Tryz.call14 Z (nx 4 Z ?_);refine bd h0 λ Jh JZ h0=>oK (kV ([109,111,100,117,108,101]:Bytes) _ JZ) Z ⟨sr,trivial⟩ Tryz.call13 Z (bd h0 λ KE NY h0=>?_);refine oK (iu Jh ([109]:Bytes) _ NY) Z ⟨sr,sr,trivial⟩ Tryz.call12 Z (bd h0 λ Im K7 h0=>?_);refine oK (iu KE ([111]:Bytes) _ K7) Z ⟨sr,sr,trivial⟩ Tryz.call12 Z (bd h0 λ KS Ng h0=>?_);refine oK (ig _ Im _ Ng) Z ⟨sr,trivial⟩ Tryz.call6 Z (nx 9 Z ?_);refine bd h0 λ Lf Nf h0=>oK (kV ([110,101,116]:Bytes) _ Nf) Z ⟨sr,trivial⟩ Tryz.call13 Z (bd h0 λ Iq LI h0=>?_);refine oK (iu Lf ([97]:Bytes) _ LI) Z ⟨sr,sr,trivial⟩ Tryz.call12 Z (bd h0 λ IOz Mq h0=>?_);refine oK (iu Iq ([105,100]:Bytes) _ Mq) Z ⟨sr,sr,trivial⟩ Tryz.call12 Z (bd h0 λ Jm Mp h0=>?_);refine oK (ig _ IOz _ Mp) Z ⟨sr,trivial⟩ Tryz.call6 Z (nx 7 Z ?_);refine mG (gE (t:=⟨[(2,.p (eL dm r9)),(3,.ptr 3 0),(4,.p (eB KS.2)),(6,.p (eB Jm.2))],[(3,(bD.cs KS.1).map .p)]⟩) Z Z) (nx 1 Z ?_);refine bd h0 λ OG h1 h0=>kN OG (λ Oh=>⟨[(0,.p (eB Oh))],[]⟩) ?_ ?_
 ·exact nx 2 Z (mQ (oi h0) Z (sr))
 refine nx 2 Z (oLl (f:=dm) Z Z ?_);refine nx 2 Z (fD [31,32] h1 Z (λ K8 h1=>?_) λ K8 h1=>?_)
 ·refine nx 1 Z (oE h1 bD.HU Z Z Y λ M' h1=>?_);refine nx 5 Z (fD [37,38,39] h1 Z (λ Mv h1=>?_) λ Mv h1=>?_)
  ·refine nx 1 Z (oE h1 bD.HU Z Z Y λ Mn h1=>?_);refine nx 2 Z (oS Z Z ?_);refine nx 2 Z (fD [44,45,46] h1 Z (λ Jk h1=>?_) λ Jk h1=>?_)
   ·refine nx 3 Z (fB [4,47,48,49] h1 Z (λ Jv h1=>?_) λ Jv h1=>?_)
    ·refine nx 4 Z (fB [51,52,53] h1 Z (λ N0 h1=>?_) λ N0 h1=>?_)
     ·refine nx 1 Z (bd h1 λ It LH h1=>?_);refine oK (ny KS.1 _ LH) Z ⟨sr,trivial⟩ Tryz.call8 Z (oS Z Z ?_);refine nx 2 Z (fD [56,57,58] h1 Z (λ Mt h1=>?_) λ Mt h1=>?_)
      ·refine nx 2 Z (bd h1 λ r37 e38 h1=>?_);refine oK (kd (bD.mk 0 ([]:Bytes) ([]:Bytes) 1) (bD.mk 0 ([]:Bytes) ([]:Bytes) 2) _ e38) Z ⟨sr,sr,trivial⟩ Tryz.call9 Z (nx 3 Z ?_);exact eX _ (oi h1).symm (gE Z Z)
      exact nx 6 Z (eX _ (oi h1).symm (gE Z Z))
     exact nx 11 Z (eX _ (oi h1).symm (gE Z Z))
    exact nx 15 Z (eX _ (oi h1).symm (gE Z Z))
   exact nx 18 Z (eX _ (oi h1).symm (gE Z Z))
  exact nx 25 Z (eX _ (oi h1).symm (gE Z Z))
 exact nx 32 Z (eX _ (oi h1).symm (gE Z Z))
def lx (n:Nat)(H9:ab):Option Bool :=
 (
   (kY n H9 200).bind λ r1 =>
   if r1=true then
    (lw n H9).bind λ r4 =>
    some (decide (r4=0))
   else
    some false
  : Option Bool).bind λ t6 =>
 some t6
theorem tJ (n:Nat)(H9:ab)(r:Bool)(h0:lx n H9=some r):aB Tryz.prog 4 [.agg (ab.cs H9)] (·=.p (eB r)):=by
 unfold lx at h0;refine bm good Tryz.func4 Z Z Z λ w0=>mP (λ v:Bool=>.p (eB v)) ?_;refine nx 6 Z (bd h0 λ o8 h1 h0=>?_);refine kN o8 (λ v9=>⟨[(2,.p (eB v9))],[]⟩) ?_ ?_
 ·exact nx 2 Z (mQ (oi h0) Z (sr))
 refine nx 2 Z (bd h1 λ r1 e2 h1=>?_);refine oK (uF _ H9 200 _ e2) Z ⟨sr,sr,trivial⟩ Tryz.call10 Z (nx 1 Z ?_);refine fB [4,5] h1 Z (λ c3 h1=>?_) λ c3 h1=>?_
 ·refine nx 1 Z (bd h1 λ r4 e5 h1=>?_);refine oK (tG _ H9 _ e5) Z ⟨sr,trivial⟩ Tryz.call11 Z (nx 4 Z ?_);exact eX _ (oi h1).symm (gE Z Z)
 exact nx 6 Z (eX _ (oi h1).symm (gE Z Z))
def gJ (n:Nat)(H9:ab):Option Bool :=
 (lx n H9).bind λ r1 =>
 if (!r1)=true then
  (fw n).bind λ r4 =>
  some r4
 else
  (cG n H9).bind λ r6 =>
  if (!r6.2)=true then
   (fw n).bind λ r9 =>
   some r9
  else
   (bZ r6.1).bind λ Jh =>
   (mA n Jh).bind λ KE =>
   (cG n KE.1).bind λ Im =>
   (
     if KE.2.Ar=0 then
      if Im.2=true then
       (fW r6.1 Im.1).bind λ Lf =>
       if Lf=true then
        (fw n).bind λ Kr =>
        some Kr
       else
        some false
      else
       some false
     else
      some false
    : Option Bool).bind λ Kg =>
   some Kg
theorem oM (n:Nat)(H9:ab)(r:Bool)(h0:gJ n H9=some r):aB Tryz.prog 3 [.agg (ab.cs H9)] (·=.p (eB r)):=by
 unfold gJ at h0;refine bm good Tryz.func3 Z Z Z λ w0=>mP (λ v:Bool=>.p (eB v)) ?_;refine nx 9 Z (bd h0 λ r1 e2 h0=>?_);refine oK (tJ _ H9 _ e2) Z ⟨sr,trivial⟩ Tryz.call4 Z (nx 2 Z ?_);refine fB [11] h0 Z (λ c3 h0=>?_) λ c3 h0=>?_
 ·refine nx 3 Z (bd h0 λ r4 e5 h0=>?_);refine oK (mH _  _ e5) Z trivial Tryz.call5 Z (nx 3 Z ?_);exact mQ (oi h0) Z (sr)
 refine nx 5 Z (bd h0 λ r6 e7 h0=>?_);refine oK (ig _ H9 _ e7) Z ⟨sr,trivial⟩ Tryz.call6 Z (nx 13 Z ?_);refine fB [19] h0 Z (λ c8 h0=>?_) λ c8 h0=>?_
 ·refine nx 3 Z (bd h0 λ r9 J0 h0=>?_);refine oK (mH _  _ J0) Z trivial Tryz.call5 Z (nx 3 Z ?_);exact mQ (oi h0) Z (sr)
 refine nx 5 Z (bd h0 λ Jh JZ h0=>?_);refine oK (ny r6.1 _ JZ) Z ⟨sr,trivial⟩ Tryz.call8 Z (bd h0 λ KE NY h0=>?_);refine oK (uR _ Jh _ NY) Z ⟨sr,trivial⟩ Tryz.call7 Z (nx 11 Z ?_);refine bd h0 λ Im K7 h0=>oK (ig _ KE.1 _ K7) Z ⟨sr,trivial⟩ Tryz.call6 Z (nx 7 Z ?_);refine mG (gE (t:=⟨[(3,.ptr 3 0),(6,.ptr 6 0),(7,.ptr 7 0),(8,.p (eB Im.2))],[(3,(bD.cs r6.1).map .p),(6,(ap.cs KE.2).map .p),(7,(bD.cs Im.1).map .p)]⟩) Z Z) (nx 1 Z ?_);refine bd h0 λ o26 h1 h0=>kN o26 (λ v27=>⟨[(2,.p (eB v27))],[]⟩) ?_ ?_
 ·exact nx 2 Z (mQ (oi h0) Z (sr))
 refine nx 5 Z (fD [34,35] h1 Z (λ IA h1=>?_) λ IA h1=>?_)
 ·refine nx 3 Z (fB [8,36,37,38] h1 Z (λ J' h1=>?_) λ J' h1=>?_)
  ·refine nx 2 Z (bd h1 λ Lf Nf h1=>?_);refine oK (kd r6.1 Im.1 _ Nf) Z ⟨sr,sr,trivial⟩ Tryz.call9 Z (nx 2 Z ?_);refine fB [41,42,43] h1 Z (λ c21 h1=>?_) λ c21 h1=>?_
   ·refine bd h1 λ Kr NX h1=>oK (mH _  _ NX) Z trivial Tryz.call5 Z (nx 3 Z ?_);exact eX _ (oi h1).symm (gE Z Z)
   exact nx 4 Z (eX _ (oi h1).symm (gE Z Z))
  exact nx 9 Z (eX _ (oi h1).symm (gE Z Z))
 exact nx 12 Z (eX _ (oi h1).symm (gE Z Z))
end Go.Ab.R06
end
