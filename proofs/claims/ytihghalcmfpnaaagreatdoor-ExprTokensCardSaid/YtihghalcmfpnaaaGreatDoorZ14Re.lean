/- Texts of the proof, one behind the other. No statement is proved here. -/
import Derived.Lib.IndexLaws
import Derived.Lib.Bytes2
import Derived.Test.YtihghalcmfpnaaaGreatDoorZ14Ra
import Derived.Test.YtihghalcmfpnaaaGreatDoorZ14Rb
import Derived.Test.YtihghalcmfpnaaaGreatDoorZ14Rc
import Derived.Test.YtihghalcmfpnaaaGreatDoorZ14Rd
set_option maxHeartbeats 4000000
section
namespace Go.Ab.R06
open Go.Proofs Go.Ab Go.Ab.RB
set_option maxRecDepth 4000
attribute [local irreducible] awp fT bn bF cv AV.sub M cT
abbrev bc:List AV:=[.p (eI 0),.p (eI 0),.p (eS ([]:Bytes)),.p (eS ([]:Bytes)),.p (eI 0),.p (eI 0),.p (eS ([]:Bytes)),.p (.val (.slice none 0 0)),.p (.val (.slice none 0 0)),.p (.val (.slice none 0 0)),.p (eI 0)]
abbrev lb:List PV:=[eI 0,eI 0,eS ([]:Bytes),eS ([]:Bytes),eI 0,eI 0,eS ([]:Bytes),.val (.slice none 0 0),.val (.slice none 0 0),.val (.slice none 0 0),eI 0]
abbrev b9:List AV:=[.p (eI 0),.p (eI 0),.p (eS ([]:Bytes))]
def bo (n:Nat)(r_expr_template_interpolation:al→Option (ax×al)):Nat→Bytes→Int→Int→Int→Bytes→(List ac)→Bool→Option ((Bytes×Int×Int×Int×Bytes×(List ac)×Bool)⊕(ax×al))
 | 0,_,_,_,_,_,_,_=>none
 | m+1,f35,f36,f37,f38,f39,f40,f41 =>
 if f37 < (f35.length:Int) then
  ck ((0:Int)≤f37∧f37≤(f35.length:Int)∧(f35.length:Int)≤(f35.length:Int)) <|
  (
    (strings_HasPrefix (sub f35 f37 (f35.length:Int)) ([36,36,123]:Bytes)).bind λ r44 =>
    if r44=true then
     ck (f39.length+([36,123]:Bytes).length≤9223372036854775807) <|
     ck (inR (f37+3)) <|
     (dC (al.mk f35 f36 (f37+3) f38 (f39++([36,123]:Bytes)) f40 f41)).bind λ r49 =>
     some (r49.1.fKind,r49.1.fAt,r49.1.fName,r49.2.fs,r49.2.fat,r49.2.fi,r49.2.ffrom,r49.2.ftext,r49.2.fparts,r49.2.fopen)
    else
     (strings_HasPrefix (sub f35 f37 (f35.length:Int)) ([36,123]:Bytes)).bind λ r51 =>
     if r51=true then
      (r_expr_template_interpolation (al.mk f35 f36 f37 f38 f39 f40 f41)).bind λ r54 =>
      some (r54.1.fKind,r54.1.fAt,r54.1.fName,r54.2.fs,r54.2.fat,r54.2.fi,r54.2.ffrom,r54.2.ftext,r54.2.fparts,r54.2.fopen)
     else
      (dc n (al.mk f35 f36 f37 f38 f39 f40 f41)).bind λ r56 =>
      some (r56.1.fKind,r56.1.fAt,r56.1.fName,r56.2.fs,r56.2.fat,r56.2.fi,r56.2.ffrom,r56.2.ftext,r56.2.fparts,r56.2.fopen)
   : Option (Int×Int×Bytes×Bytes×Int×Int×Int×Bytes×(List ac)×Bool)).bind λ q84 =>
  if q84.1=0 then
   bo n r_expr_template_interpolation m q84.2.2.2.1 q84.2.2.2.2.1 q84.2.2.2.2.2.1 q84.2.2.2.2.2.2.1 q84.2.2.2.2.2.2.2.1 q84.2.2.2.2.2.2.2.2.1 q84.2.2.2.2.2.2.2.2.2
  else
   some (.inr ((ax.mk q84.1 q84.2.1 q84.2.2.1),(al.mk q84.2.2.2.1 q84.2.2.2.2.1 q84.2.2.2.2.2.1 q84.2.2.2.2.2.2.1 q84.2.2.2.2.2.2.2.1 q84.2.2.2.2.2.2.2.2.1 q84.2.2.2.2.2.2.2.2.2)))
 else
  some (.inl (f35,f36,f37,f38,f39,f40,f41))
def bm (n:Nat)(r_expr_parser_binary:ae→Int→Option (ac×ae))(level_1:Int)(r5:ac×ae):Nat→Int→Int→Bytes→Bytes→Int→Int→Bytes→(List ah)→(List Bytes)→(List ac)→(List ad)→Int→Int→Int→Int→Int→Bytes→Option (((List ad)×Int×Int×Int×Int×Int×Bytes)⊕(ac×ae))
 | 0,_,_,_,_,_,_,_,_,_,_,_,_,_,_,_,_,_=>none
 | m+1,f36,f37,f38,f39,f40,f41,f42,f43,f44,f45,f46,f47,f48,f49,f50,f51,f52 =>
 (iR level_1).bind λ r53 =>
 (cD n (ae.mk f46 f47 f48 f49 (ax.mk f50 f51 f52)) r53).bind λ r55 =>
 if (!r55.2.1)=true then
  some (.inr ((ac.mk f36 f37 f38 f39 (ah.mk f40 f41 f42 f43 f44) f45 r5.1.fAt),r55.2.2))
 else
  (aH n r55.2.2).bind λ r58 =>
  ck (inR (level_1+1)) <|
  (r_expr_parser_binary r58.2 (level_1+1)).bind λ r61 =>
  (kx n r55.1).bind λ r63 =>
  bm n r_expr_parser_binary level_1 r5 m 7 r63 ([]:Bytes) ([]:Bytes) 0 0 ([]:Bytes) [] [] [(ac.mk f36 f37 f38 f39 (ah.mk f40 f41 f42 f43 f44) f45 r5.1.fAt),r61.1] r61.2.fl r61.2.fat r61.2.fnest r61.2.fbase r61.2.fbad.fKind r61.2.fbad.fAt r61.2.fbad.fName
def bg (n:Nat)(r_expr_parser_expr:ae→Option (ac×ae))(r1:ac×ae):Nat→Int→Int→Bytes→Bytes→Int→Int→Bytes→(List ah)→(List Bytes)→(List ac)→(List ad)→Int→Int→Int→Int→Int→Bytes→Option (((List ad)×Int×Int×Int×Int×Int×Bytes)⊕(ac×ae))
 | 0,_,_,_,_,_,_,_,_,_,_,_,_,_,_,_,_,_=>none
 | m+1,f51,f52,f53,f54,f55,f56,f57,f58,f59,f60,f61,f62,f63,f64,f65,f66,f67 =>
 jn (
   (aP n (ae.mk f61 f62 f63 f64 (ax.mk f65 f66 f67)) ([46]:Bytes)).bind λ r68 =>
   if r68.1=true then
    (aH n r68.2).bind λ r71 =>
    (bb n r71.2).bind λ r73 =>
    if r73.1.fKind=1 then
     (aH n r73.2).bind λ r78 =>
     some (.inl (4,r73.1.fText,[(ac.mk f51 f52 f53 f54 (ah.mk f55 f56 f57 f58 f59) f60 r1.1.fAt)],r78.2.fl,r78.2.fat,r78.2.fnest,r78.2.fbase,r78.2.fbad.fKind,r78.2.fbad.fAt,r78.2.fbad.fName))
    else
     (bu r73.2 2 r73.1.fAt).bind λ r76 =>
     some (.inr (.inr (r76.1,r76.2)))
   else
    (aP n r68.2 ([91]:Bytes)).bind λ r80 =>
    if r80.1=true then
     (b6 n r80.2).bind λ r83 =>
     (r_expr_parser_expr r83).bind λ r85 =>
     (bf n r85.2 ([93]:Bytes)).bind λ r87 =>
     some (.inl (5,([]:Bytes),[(ac.mk f51 f52 f53 f54 (ah.mk f55 f56 f57 f58 f59) f60 r1.1.fAt),r85.1],r87.fl,r87.fat,r87.fnest,r87.fbase,r87.fbad.fKind,r87.fbad.fAt,r87.fbad.fName))
    else
     some (.inr (.inr ((ac.mk f51 f52 f53 f54 (ah.mk f55 f56 f57 f58 f59) f60 r1.1.fAt),r80.2)))
  : Option ((Int×Bytes×(List ac)×(List ad)×Int×Int×Int×Int×Int×Bytes)⊕(((List ad)×Int×Int×Int×Int×Int×Bytes)⊕(ac×ae)))) λ q124 =>
 bg n r_expr_parser_expr r1 m q124.1 0 q124.2.1 ([]:Bytes) 0 0 ([]:Bytes) [] [] q124.2.2.1 q124.2.2.2.1 q124.2.2.2.2.1 q124.2.2.2.2.2.1 q124.2.2.2.2.2.2.1 q124.2.2.2.2.2.2.2.1 q124.2.2.2.2.2.2.2.2.1 q124.2.2.2.2.2.2.2.2.2
def bW (n:Nat)(r_expr_parser_expr:ae→Option (ac×ae))(end_1:Bytes):Nat→(List ac)→(List ad)→Int→Int→Int→Int→Int→Bytes→Option ((List ac)×(List ad)×Int×Int×Int×Int×Int×Bytes)
 | 0,_,_,_,_,_,_,_,_=>none
 | m+1,out31,f32,f33,f34,f35,f36,f37,f38 =>
 (
   (aV (ae.mk f32 f33 f34 f35 (ax.mk f36 f37 f38))).bind λ r39 =>
   if (!r39.1)=true then
    (aP n r39.2 end_1).bind λ r42 =>
    some (!r42.1,r42.2.fl,r42.2.fat,r42.2.fnest,r42.2.fbase,r42.2.fbad.fKind,r42.2.fbad.fAt,r42.2.fbad.fName)
   else
    some (false,r39.2.fl,r39.2.fat,r39.2.fnest,r39.2.fbase,r39.2.fbad.fKind,r39.2.fbad.fAt,r39.2.fbad.fName)
  : Option (Bool×(List ad)×Int×Int×Int×Int×Int×Bytes)).bind λ q78 =>
 if q78.1=true then
  (r_expr_parser_expr (ae.mk q78.2.1 q78.2.2.1 q78.2.2.2.1 q78.2.2.2.2.1 (ax.mk q78.2.2.2.2.2.1 q78.2.2.2.2.2.2.1 q78.2.2.2.2.2.2.2))).bind λ r53 =>
  ck ((out31.length+[r53.1].length)*160≤140737488355328) <|
  (aP n r53.2 ([44]:Bytes)).bind λ r56 =>
  if (!r56.1)=true then
   some (out31++[r53.1],r56.2.fl,r56.2.fat,r56.2.fnest,r56.2.fbase,r56.2.fbad.fKind,r56.2.fbad.fAt,r56.2.fbad.fName)
  else
   (aH n r56.2).bind λ r59 =>
   bW n r_expr_parser_expr end_1 m (out31++[r53.1]) r59.2.fl r59.2.fat r59.2.fnest r59.2.fbase r59.2.fbad.fKind r59.2.fbad.fAt r59.2.fbad.fName
 else
  some (out31,q78.2.1,q78.2.2.1,q78.2.2.2.1,q78.2.2.2.2.1,q78.2.2.2.2.2.1,q78.2.2.2.2.2.2.1,q78.2.2.2.2.2.2.2)
def bA (n:Nat)(r_expr_parser_expr:ae→Option (ac×ae))(r_expr_parser_key:ae→Option (ac×ae)):Nat→(List ac)→(List ad)→Int→Int→Int→Int→Int→Bytes→Option ((List ac)×(List ad)×Int×Int×Int×Int×Int×Bytes)
 | 0,_,_,_,_,_,_,_,_=>none
 | m+1,out36,f37,f38,f39,f40,f41,f42,f43 =>
 (
   (aV (ae.mk f37 f38 f39 f40 (ax.mk f41 f42 f43))).bind λ r44 =>
   if (!r44.1)=true then
    (aP n r44.2 ([125]:Bytes)).bind λ r47 =>
    some (!r47.1,r47.2.fl,r47.2.fat,r47.2.fnest,r47.2.fbase,r47.2.fbad.fKind,r47.2.fbad.fAt,r47.2.fbad.fName)
   else
    some (false,r44.2.fl,r44.2.fat,r44.2.fnest,r44.2.fbase,r44.2.fbad.fKind,r44.2.fbad.fAt,r44.2.fbad.fName)
  : Option (Bool×(List ad)×Int×Int×Int×Int×Int×Bytes)).bind λ q88 =>
 if q88.1=true then
  (r_expr_parser_key (ae.mk q88.2.1 q88.2.2.1 q88.2.2.2.1 q88.2.2.2.2.1 (ax.mk q88.2.2.2.2.2.1 q88.2.2.2.2.2.2.1 q88.2.2.2.2.2.2.2))).bind λ r58 =>
  ck ((out36.length+[r58.1].length)*160≤140737488355328) <|
  (bR n r58.2 ([61]:Bytes)).bind λ r61 =>
  (r_expr_parser_expr r61).bind λ r63 =>
  ck (((out36++[r58.1]).length+[r63.1].length)*160≤140737488355328) <|
  (aP n r63.2 ([44]:Bytes)).bind λ r66 =>
  if (!r66.1)=true then
   some ((out36++[r58.1])++[r63.1],r66.2.fl,r66.2.fat,r66.2.fnest,r66.2.fbase,r66.2.fbad.fKind,r66.2.fbad.fAt,r66.2.fbad.fName)
  else
   (aH n r66.2).bind λ r69 =>
   bA n r_expr_parser_expr r_expr_parser_key m ((out36++[r58.1])++[r63.1]) r69.2.fl r69.2.fat r69.2.fnest r69.2.fbase r69.2.fbad.fKind r69.2.fbad.fAt r69.2.fbad.fName
 else
  some (out36,q88.2.1,q88.2.2.1,q88.2.2.2.1,q88.2.2.2.2.1,q88.2.2.2.2.2.1,q88.2.2.2.2.2.2.1,q88.2.2.2.2.2.2.2)
mutual
def eu:Nat→Bytes→Int→Option (ac×ax)
 | 0,_,_=>none
 | n+1,s_0,at_1 =>
 ((db n) (al.mk s_0 at_1 0 0 ([]:Bytes) [] false)).bind λ r1 =>
 if r1.1.fKind=0 then
  (fx (ah.mk 3 0 r1.2.ftext [] []) at_1).bind λ r4 =>
  (
    if r1.2.fopen=true then
     (d6 (al.mk r1.2.fs r1.2.fat r1.2.fi r1.2.ffrom r1.2.ftext r1.2.fparts r1.2.fopen)).bind λ r7 =>
     some (2,0,([]:Bytes),([]:Bytes),0,0,([]:Bytes),[],[],r7.fparts,at_1)
    else
     some (r4.fKind,r4.fOp,r4.fName,r4.fKey,r4.fValue.fKind,r4.fValue.fNum,r4.fValue.fStr,r4.fValue.fItems,r4.fValue.fKeys,r4.fKids,r4.fAt)
   : Option (Int×Int×Bytes×Bytes×Int×Int×Bytes×(List ah)×(List Bytes)×(List ac)×Int)).bind λ q22 =>
  (eW n (ac.mk q22.1 q22.2.1 q22.2.2.1 q22.2.2.2.1 (ah.mk q22.2.2.2.2.1 q22.2.2.2.2.2.1 q22.2.2.2.2.2.2.1 q22.2.2.2.2.2.2.2.1 q22.2.2.2.2.2.2.2.2.1) q22.2.2.2.2.2.2.2.2.2.1 q22.2.2.2.2.2.2.2.2.2.2) r1.1).bind λ r20 =>
  some (r20.1,r20.2)
 else
  some ((ac.mk 0 0 ([]:Bytes) ([]:Bytes) (ah.mk 0 0 ([]:Bytes) [] []) [] 0),r1.1)
def dU:Nat→Bytes→Int→Option (ac×ax)
 | 0,_,_=>none
 | n+1,s_0,base_1 =>
 (gm n s_0).bind λ r1 =>
 if r1.2.fKind=0 then
  ((ay n) (ae.mk r1.1 0 1 base_1 (ax.mk 0 0 ([]:Bytes)))).bind λ r5 =>
  (
    (bb n r5.2).bind λ r7 =>
    if r7.1.fKind=6 then
     some (r7.2.fl,r7.2.fat,r7.2.fnest,r7.2.fbase,r7.2.fbad.fKind,r7.2.fbad.fAt,r7.2.fbad.fName)
    else
     (bu r7.2 2 r7.1.fAt).bind λ r10 =>
     some (r10.2.fl,r10.2.fat,r10.2.fnest,r10.2.fbase,r10.2.fbad.fKind,r10.2.fbad.fAt,r10.2.fbad.fName)
   : Option ((List ad)×Int×Int×Int×Int×Int×Bytes)).bind λ q19 =>
  some (r5.1,(ax.mk q19.2.2.2.2.1 q19.2.2.2.2.2.1 q19.2.2.2.2.2.2))
 else
  ck (inR (base_1+r1.2.fAt)) <|
  some ((ac.mk 0 0 ([]:Bytes) ([]:Bytes) (ah.mk 0 0 ([]:Bytes) [] []) [] 0),(ax.mk r1.2.fKind (base_1+r1.2.fAt) ([]:Bytes)))
def db:Nat→al→Option (ax×al)
 | 0,_=>none
 | n+1,t_0 =>
 jn (bo n (aC n) n t_0.fs t_0.fat t_0.fi t_0.ffrom t_0.ftext t_0.fparts t_0.fopen) λ q83 =>
 some ((ax.mk 0 0 ([]:Bytes)),(al.mk q83.1 q83.2.1 q83.2.2.1 q83.2.2.2.1 q83.2.2.2.2.1 q83.2.2.2.2.2.1 q83.2.2.2.2.2.2))
def ay:Nat→ae→Option (ac×ae)
 | 0,_=>none
 | n+1,p_0 =>
 ((aO n) p_0 0).bind λ r1 =>
 (aP n r1.2 ([63]:Bytes)).bind λ r3 =>
 if (!r3.1)=true then
  some (r1.1,r3.2)
 else
  (aH n r3.2).bind λ r6 =>
  ((ay n) r6.2).bind λ r8 =>
  (bR n r8.2 ([58]:Bytes)).bind λ r10 =>
  ((ay n) r10).bind λ r12 =>
  some ((ac.mk 8 0 ([]:Bytes) ([]:Bytes) (ah.mk 0 0 ([]:Bytes) [] []) [r1.1,r8.1,r12.1] r1.1.fAt),r12.2)
def aC:Nat→al→Option (ax×al)
 | 0,_=>none
 | n+1,t_0 =>
 (d6 (al.mk t_0.fs t_0.fat t_0.fi t_0.ffrom t_0.ftext t_0.fparts t_0.fopen)).bind λ r1 =>
 ck (inR (r1.fi+2)) <|
 (cr n r1.fs (r1.fi+2)).bind λ r4 =>
 if r4 < 0 then
  ck (inR (r1.fat+r1.fi)) <|
  some ((ax.mk 40 (r1.fat+r1.fi) ([]:Bytes)),(al.mk r1.fs r1.fat r1.fi r1.ffrom r1.ftext r1.fparts true))
 else
  ck (inR (r1.fi+2)) <|
  ck ((0:Int)≤r1.fi+2∧r1.fi+2≤r4∧r4≤(r1.fs.length:Int)) <|
  ck (inR (r1.fat+r1.fi)) <|
  ck (inR ((r1.fat+r1.fi)+2)) <|
  ((dU n) (sub r1.fs (r1.fi+2) r4) ((r1.fat+r1.fi)+2)).bind λ r12 =>
  if r12.2.fKind=0 then
   ck ((r1.fparts.length+1)*160≤140737488355328) <|
   ck (inR (r4+1)) <|
   some ((ax.mk 0 0 ([]:Bytes)),(al.mk r1.fs r1.fat (r4+1) (r4+1) r1.ftext (r1.fparts++[r12.1]) true))
  else
   some (r12.2,(al.mk r1.fs r1.fat r1.fi r1.ffrom r1.ftext r1.fparts true))
def aO:Nat→ae→Int→Option (ac×ae)
 | 0,_,_=>none
 | n+1,p_0,level_1 =>
 if 5 < level_1 then
  ((b8 n) p_0).bind λ r2 =>
  some (r2.1,r2.2)
 else
  ck (inR (level_1+1)) <|
  ((aO n) p_0 (level_1+1)).bind λ r5 =>
  jn (bm n (aO n) level_1 r5 n r5.1.fKind r5.1.fOp r5.1.fName r5.1.fKey r5.1.fValue.fKind r5.1.fValue.fNum r5.1.fValue.fStr r5.1.fValue.fItems r5.1.fValue.fKeys r5.1.fKids r5.2.fl r5.2.fat r5.2.fnest r5.2.fbase r5.2.fbad.fKind r5.2.fbad.fAt r5.2.fbad.fName) λ q89 =>
  none
def b8:Nat→ae→Option (ac×ae)
 | 0,_=>none
 | n+1,p_0 =>
 (
   (aP n p_0 ([33]:Bytes)).bind λ r1 =>
   if r1.1=true then
    some (1,r1.2.fl,r1.2.fat,r1.2.fnest,r1.2.fbase,r1.2.fbad.fKind,r1.2.fbad.fAt,r1.2.fbad.fName)
   else
    (aP n r1.2 ([45]:Bytes)).bind λ r4 =>
    if r4.1=true then
     some (2,r4.2.fl,r4.2.fat,r4.2.fnest,r4.2.fbase,r4.2.fbad.fKind,r4.2.fbad.fAt,r4.2.fbad.fName)
    else
     some (0,r4.2.fl,r4.2.fat,r4.2.fnest,r4.2.fbase,r4.2.fbad.fKind,r4.2.fbad.fAt,r4.2.fbad.fName)
  : Option (Int×(List ad)×Int×Int×Int×Int×Int×Bytes)).bind λ q22 =>
 if q22.1=0 then
  ((cj n) (ae.mk q22.2.1 q22.2.2.1 q22.2.2.2.1 q22.2.2.2.2.1 (ax.mk q22.2.2.2.2.2.1 q22.2.2.2.2.2.2.1 q22.2.2.2.2.2.2.2))).bind λ r16 =>
  some (r16.1,r16.2)
 else
  (aH n (ae.mk q22.2.1 q22.2.2.1 q22.2.2.2.1 q22.2.2.2.2.1 (ax.mk q22.2.2.2.2.2.1 q22.2.2.2.2.2.2.1 q22.2.2.2.2.2.2.2))).bind λ r18 =>
  ((b8 n) r18.2).bind λ r20 =>
  some ((ac.mk 6 q22.1 ([]:Bytes) ([]:Bytes) (ah.mk 0 0 ([]:Bytes) [] []) [r20.1] r18.1.fAt),r20.2)
def cj:Nat→ae→Option (ac×ae)
 | 0,_=>none
 | n+1,p_0 =>
 ((bV n) p_0).bind λ r1 =>
 jn (bg n (ay n) r1 n r1.1.fKind r1.1.fOp r1.1.fName r1.1.fKey r1.1.fValue.fKind r1.1.fValue.fNum r1.1.fValue.fStr r1.1.fValue.fItems r1.1.fValue.fKeys r1.1.fKids r1.2.fl r1.2.fat r1.2.fnest r1.2.fbase r1.2.fbad.fKind r1.2.fbad.fAt r1.2.fbad.fName) λ q123 =>
 none
def bV:Nat→ae→Option (ac×ae)
 | 0,_=>none
 | n+1,p_0 =>
 (aV p_0).bind λ r1 =>
 if r1.1=true then
  some ((ac.mk 0 0 ([]:Bytes) ([]:Bytes) (ah.mk 0 0 ([]:Bytes) [] []) [] 0),r1.2)
 else
  (bb n r1.2).bind λ r4 =>
  if r4.1.fKind=2 then
   (fz n r4.1.fText).bind λ r7 =>
   if r7.2=0 then
    (aH n r4.2).bind λ r12 =>
    (fx (ah.mk 2 r7.1 ([]:Bytes) [] []) r4.1.fAt).bind λ r14 =>
    some (r14,r12.2)
   else
    (bu r4.2 r7.2 r4.1.fAt).bind λ r10 =>
    some (r10.1,r10.2)
  else
   if r4.1.fKind=3 then
    ((cP n) r4.2).bind λ r17 =>
    some (r17.1,r17.2)
   else
    if r4.1.fKind=1 then
     ((dk n) r4.2).bind λ r20 =>
     some (r20.1,r20.2)
    else
     if r4.1.fKind=4 then
      ((da n) r4.2).bind λ r23 =>
      some (r23.1,r23.2)
     else
      (bu r4.2 2 r4.1.fAt).bind λ r25 =>
      some (r25.1,r25.2)
def cP:Nat→ae→Option (ac×ae)
 | 0,_=>none
 | n+1,p_0 =>
 (bb n p_0).bind λ r1 =>
 ck (inR (r1.1.fAt+1)) <|
 ((eu n) r1.1.fText (r1.1.fAt+1)).bind λ r4 =>
 if r4.2.fKind=0 then
  (aH n r1.2).bind λ r9 =>
  some ((ac.mk r4.1.fKind r4.1.fOp r4.1.fName r4.1.fKey r4.1.fValue r4.1.fKids r1.1.fAt),r9.2)
 else
  (bu r1.2 r4.2.fKind r4.2.fAt).bind λ r7 =>
  some (r7.1,r7.2)
def dk:Nat→ae→Option (ac×ae)
 | 0,_=>none
 | n+1,p_0 =>
 (bb n p_0).bind λ r1 =>
 if r1.1.fText=([110,117,108,108]:Bytes) then
  (aH n r1.2).bind λ r4 =>
  (fx (ah.mk 0 0 ([]:Bytes) [] []) r1.1.fAt).bind λ r6 =>
  some (r6,r4.2)
 else
  (
    if r1.1.fText=([116,114,117,101]:Bytes) then
     some true
    else
     some (decide (r1.1.fText=([102,97,108,115,101]:Bytes)))
   : Option Bool).bind λ t9 =>
  if t9=true then
   (aH n r1.2).bind λ r11 =>
   (
     if r1.1.fText=([116,114,117,101]:Bytes) then
      some 1
     else
      some 0
    : Option Int).bind λ f14 =>
   (fx (ah.mk 1 f14 ([]:Bytes) [] []) r1.1.fAt).bind λ r15 =>
   some (r15,r11.2)
  else
   (eT r1.1.fText).bind λ r17 =>
   if r17=true then
    (bu r1.2 2 r1.1.fAt).bind λ r20 =>
    some (r20.1,r20.2)
   else
    (aH n r1.2).bind λ r22 =>
    (aP n r22.2 ([40]:Bytes)).bind λ r24 =>
    if (!r24.1)=true then
     some ((ac.mk 3 0 r1.1.fText ([]:Bytes) (ah.mk 0 0 ([]:Bytes) [] []) [] r1.1.fAt),r24.2)
    else
     (b6 n r24.2).bind λ r27 =>
     ((dm n) r27 ([41]:Bytes)).bind λ r29 =>
     (bf n r29.2 ([41]:Bytes)).bind λ r31 =>
     some ((ac.mk 9 0 r1.1.fText ([]:Bytes) (ah.mk 0 0 ([]:Bytes) [] []) r29.1 r1.1.fAt),r31)
def da:Nat→ae→Option (ac×ae)
 | 0,_=>none
 | n+1,p_0 =>
 (bb n p_0).bind λ r1 =>
 if r1.1.fText=([40]:Bytes) then
  (b6 n r1.2).bind λ r4 =>
  ((ay n) r4).bind λ r6 =>
  (bf n r6.2 ([41]:Bytes)).bind λ r8 =>
  some (r6.1,r8)
 else
  if r1.1.fText=([91]:Bytes) then
   (b6 n r1.2).bind λ r11 =>
   (bZ n r11 ([102,111,114]:Bytes)).bind λ r13 =>
   if r13.1=true then
    ((cN n) r13.2 r1.1.fAt 12).bind λ r16 =>
    some (r16.1,r16.2)
   else
    ((dm n) r13.2 ([93]:Bytes)).bind λ r18 =>
    (bf n r18.2 ([93]:Bytes)).bind λ r20 =>
    some ((ac.mk 10 0 ([]:Bytes) ([]:Bytes) (ah.mk 0 0 ([]:Bytes) [] []) r18.1 r1.1.fAt),r20)
  else
   if r1.1.fText=([123]:Bytes) then
    (b6 n r1.2).bind λ r23 =>
    (bZ n r23 ([102,111,114]:Bytes)).bind λ r25 =>
    if r25.1=true then
     ((cN n) r25.2 r1.1.fAt 13).bind λ r28 =>
     some (r28.1,r28.2)
    else
     ((cS n) r25.2).bind λ r30 =>
     (bf n r30.2 ([125]:Bytes)).bind λ r32 =>
     some ((ac.mk 11 0 ([]:Bytes) ([]:Bytes) (ah.mk 0 0 ([]:Bytes) [] []) r30.1 r1.1.fAt),r32)
   else
    (bu r1.2 2 r1.1.fAt).bind λ r34 =>
    some (r34.1,r34.2)
def dm:Nat→ae→Bytes→Option ((List ac)×ae)
 | 0,_,_=>none
 | n+1,p_0,end_1 =>
 (bW n (ay n) end_1 n [] p_0.fl p_0.fat p_0.fnest p_0.fbase p_0.fbad.fKind p_0.fbad.fAt p_0.fbad.fName).bind λ q77 =>
 some (q77.1,(ae.mk q77.2.1 q77.2.2.1 q77.2.2.2.1 q77.2.2.2.2.1 (ax.mk q77.2.2.2.2.2.1 q77.2.2.2.2.2.2.1 q77.2.2.2.2.2.2.2)))
def cN:Nat→ae→Int→Int→Option (ac×ae)
 | 0,_,_,_=>none
 | n+1,p_0,at_1,k_2 =>
 (aH n p_0).bind λ r1 =>
 (ct n r1.2).bind λ r3 =>
 (
   (aP n r3.2 ([44]:Bytes)).bind λ r5 =>
   if r5.1=true then
    (aH n r5.2).bind λ r8 =>
    (ct n r8.2).bind λ r10 =>
    some (r10.1,r3.1,r10.2.fl,r10.2.fat,r10.2.fnest,r10.2.fbase,r10.2.fbad.fKind,r10.2.fbad.fAt,r10.2.fbad.fName)
   else
    some (r3.1,([]:Bytes),r5.2.fl,r5.2.fat,r5.2.fnest,r5.2.fbase,r5.2.fbad.fKind,r5.2.fbad.fAt,r5.2.fbad.fName)
  : Option (Bytes×Bytes×(List ad)×Int×Int×Int×Int×Int×Bytes)).bind λ q64 =>
 (ce n (ae.mk q64.2.2.1 q64.2.2.2.1 q64.2.2.2.2.1 q64.2.2.2.2.2.1 (ax.mk q64.2.2.2.2.2.2.1 q64.2.2.2.2.2.2.2.1 q64.2.2.2.2.2.2.2.2)) ([105,110]:Bytes)).bind λ r21 =>
 ((ay n) r21).bind λ r23 =>
 ck ([r23.1].length*160≤140737488355328) <|
 (bR n r23.2 ([58]:Bytes)).bind λ r26 =>
 ((ay n) r26).bind λ r28 =>
 ck (([r23.1].length+[r28.1].length)*160≤140737488355328) <|
 (
   if k_2=13 then
    (bR n r28.2 ([61,62]:Bytes)).bind λ r32 =>
    ((ay n) r32).bind λ r34 =>
    ck ((([r23.1]++[r28.1]).length+[r34.1].length)*160≤140737488355328) <|
    some (([125]:Bytes),([r23.1]++[r28.1])++[r34.1],r34.2.fl,r34.2.fat,r34.2.fnest,r34.2.fbase,r34.2.fbad.fKind,r34.2.fbad.fAt,r34.2.fbad.fName)
   else
    some (([93]:Bytes),[r23.1]++[r28.1],r28.2.fl,r28.2.fat,r28.2.fnest,r28.2.fbase,r28.2.fbad.fKind,r28.2.fbad.fAt,r28.2.fbad.fName)
  : Option (Bytes×(List ac)×(List ad)×Int×Int×Int×Int×Int×Bytes)).bind λ q65 =>
 (
   (bZ n (ae.mk q65.2.2.1 q65.2.2.2.1 q65.2.2.2.2.1 q65.2.2.2.2.2.1 (ax.mk q65.2.2.2.2.2.2.1 q65.2.2.2.2.2.2.2.1 q65.2.2.2.2.2.2.2.2)) ([105,102]:Bytes)).bind λ r46 =>
   if r46.1=true then
    (aH n r46.2).bind λ r49 =>
    ((ay n) r49.2).bind λ r51 =>
    ck ((q65.2.1.length+[r51.1].length)*160≤140737488355328) <|
    some (q65.2.1++[r51.1],r51.2.fl,r51.2.fat,r51.2.fnest,r51.2.fbase,r51.2.fbad.fKind,r51.2.fbad.fAt,r51.2.fbad.fName)
   else
    some (q65.2.1,r46.2.fl,r46.2.fat,r46.2.fnest,r46.2.fbase,r46.2.fbad.fKind,r46.2.fbad.fAt,r46.2.fbad.fName)
  : Option ((List ac)×(List ad)×Int×Int×Int×Int×Int×Bytes)).bind λ q66 =>
 (bf n (ae.mk q66.2.1 q66.2.2.1 q66.2.2.2.1 q66.2.2.2.2.1 (ax.mk q66.2.2.2.2.2.1 q66.2.2.2.2.2.2.1 q66.2.2.2.2.2.2.2)) q65.1).bind λ r62 =>
 some ((ac.mk k_2 0 q64.1 q64.2.1 (ah.mk 0 0 ([]:Bytes) [] []) q66.1 at_1),r62)
def cS:Nat→ae→Option ((List ac)×ae)
 | 0,_=>none
 | n+1,p_0 =>
 (bA n (ay n) (cp n) n [] p_0.fl p_0.fat p_0.fnest p_0.fbase p_0.fbad.fKind p_0.fbad.fAt p_0.fbad.fName).bind λ q87 =>
 some (q87.1,(ae.mk q87.2.1 q87.2.2.1 q87.2.2.2.1 q87.2.2.2.2.1 (ax.mk q87.2.2.2.2.2.1 q87.2.2.2.2.2.2.1 q87.2.2.2.2.2.2.2)))
def cp:Nat→ae→Option (ac×ae)
 | 0,_=>none
 | n+1,p_0 =>
 (bb n p_0).bind λ r1 =>
 if r1.1.fKind=1 then
  (aH n r1.2).bind λ r4 =>
  (fx (ah.mk 3 0 r1.1.fText [] []) r1.1.fAt).bind λ r6 =>
  some (r6,r4.2)
 else
  if r1.1.fKind=3 then
   ((cP n) r1.2).bind λ r9 =>
   some (r9.1,r9.2)
  else
   (aP n r1.2 ([40]:Bytes)).bind λ r11 =>
   if r11.1=true then
    (b6 n r11.2).bind λ r14 =>
    ((ay n) r14).bind λ r16 =>
    (bf n r16.2 ([41]:Bytes)).bind λ r18 =>
    some (r16.1,r18)
   else
    (bu r11.2 2 r1.1.fAt).bind λ r20 =>
    some (r20.1,r20.2)
end
theorem oX (n:Nat):(∀ (s_0:Bytes) (at_1:Int) (r:ac×ax),HP (eu n s_0 at_1=some r) Tryz.prog 19 [eS s_0,eI at_1] (.tuple [.p (.agg (ac.cs r.1)),.p (.agg (ax.cs r.2))]))∧(∀ (s_0:Bytes) (base_1:Int) (r:ac×ax),HP (dU n s_0 base_1=some r) Tryz.prog 33 [eS s_0,eI base_1] (.tuple [.p (.agg (ac.cs r.1)),.p (.agg (ax.cs r.2))]))∧(∀ (t_0:al) (r:ax×al),HO (db n t_0=some r) Tryz.prog 38 [.ptr 1000000 0] [(1000000,[.p (eS t_0.fs),.p (eI t_0.fat),.p (eI t_0.fi),.p (eI t_0.ffrom),.p (eS t_0.ftext),.vec 900000 11 0 (t_0.fparts.map aj),.p (eB t_0.fopen)])] (.p (.agg (ax.cs r.1))) ([(1000000,[.p (eS r.2.fs),.p (eI r.2.fat),.p (eI r.2.fi),.p (eI r.2.ffrom),.p (eS r.2.ftext),.vec 2000000 11 0 (r.2.fparts.map aj),.p (eB r.2.fopen)])]))∧(∀ (p_0:ae) (r:ac×ae),HO (ay n p_0=some r) Tryz.prog 65 [.ptr 1000000 0] [(1000000,((ae.cs p_0).map .p))] (.p (.agg (ac.cs r.1))) ([(1000000,((ae.cs r.2).map .p))]))∧(∀ (t_0:al) (r:ax×al),HO (aC n t_0=some r) Tryz.prog 77 [.ptr 1000000 0] [(1000000,[.p (eS t_0.fs),.p (eI t_0.fat),.p (eI t_0.fi),.p (eI t_0.ffrom),.p (eS t_0.ftext),.vec 900000 11 0 (t_0.fparts.map aj),.p (eB t_0.fopen)])] (.p (.agg (ax.cs r.1))) ([(1000000,[.p (eS r.2.fs),.p (eI r.2.fat),.p (eI r.2.fi),.p (eI r.2.ffrom),.p (eS r.2.ftext),.vec 2000000 11 0 (r.2.fparts.map aj),.p (eB r.2.fopen)])]))∧(∀ (p_0:ae) (level_1:Int) (r:ac×ae),HO (aO n p_0 level_1=some r) Tryz.prog 100 [.ptr 1000000 0,.p (eI level_1)] [(1000000,((ae.cs p_0).map .p))] (.p (.agg (ac.cs r.1))) ([(1000000,((ae.cs r.2).map .p))]))∧(∀ (p_0:ae) (r:ac×ae),HO (b8 n p_0=some r) Tryz.prog 139 [.ptr 1000000 0] [(1000000,((ae.cs p_0).map .p))] (.p (.agg (ac.cs r.1))) ([(1000000,((ae.cs r.2).map .p))]))∧(∀ (p_0:ae) (r:ac×ae),HO (cj n p_0=some r) Tryz.prog 166 [.ptr 1000000 0] [(1000000,((ae.cs p_0).map .p))] (.p (.agg (ac.cs r.1))) ([(1000000,((ae.cs r.2).map .p))]))∧(∀ (p_0:ae) (r:ac×ae),HO (bV n p_0=some r) Tryz.prog 184 [.ptr 1000000 0] [(1000000,((ae.cs p_0).map .p))] (.p (.agg (ac.cs r.1))) ([(1000000,((ae.cs r.2).map .p))]))∧(∀ (p_0:ae) (r:ac×ae),HO (cP n p_0=some r) Tryz.prog 197 [.ptr 1000000 0] [(1000000,((ae.cs p_0).map .p))] (.p (.agg (ac.cs r.1))) ([(1000000,((ae.cs r.2).map .p))]))∧(∀ (p_0:ae) (r:ac×ae),HO (dk n p_0=some r) Tryz.prog 198 [.ptr 1000000 0] [(1000000,((ae.cs p_0).map .p))] (.p (.agg (ac.cs r.1))) ([(1000000,((ae.cs r.2).map .p))]))∧(∀ (p_0:ae) (r:ac×ae),HO (da n p_0=some r) Tryz.prog 199 [.ptr 1000000 0] [(1000000,((ae.cs p_0).map .p))] (.p (.agg (ac.cs r.1))) ([(1000000,((ae.cs r.2).map .p))]))∧(∀ (p_0:ae) (end_1:Bytes) (r:(List ac)×ae),HO (dm n p_0 end_1=some r) Tryz.prog 210 [.ptr 1000000 0,.p (eS end_1)] [(1000000,((ae.cs p_0).map .p))] (.p (eL aj r.1)) ([(1000000,((ae.cs r.2).map .p))]))∧(∀ (p_0:ae) (at_1:Int) (k_2:Int) (r:ac×ae),HO (cN n p_0 at_1 k_2=some r) Tryz.prog 212 [.ptr 1000000 0,.p (eI at_1),.p (eI k_2)] [(1000000,((ae.cs p_0).map .p))] (.p (.agg (ac.cs r.1))) ([(1000000,((ae.cs r.2).map .p))]))∧(∀ (p_0:ae) (r:(List ac)×ae),HO (cS n p_0=some r) Tryz.prog 213 [.ptr 1000000 0] [(1000000,((ae.cs p_0).map .p))] (.p (eL aj r.1)) ([(1000000,((ae.cs r.2).map .p))]))∧(∀ (p_0:ae) (r:ac×ae),HO (cp n p_0=some r) Tryz.prog 225 [.ptr 1000000 0] [(1000000,((ae.cs p_0).map .p))] (.p (.agg (ac.cs r.1))) ([(1000000,((ae.cs r.2).map .p))])):=by
 induction n with
 | zero=>exact ⟨by intros; exact ⟨λ h=>by cases h⟩,by intros; exact ⟨λ h=>by cases h⟩,by intros; exact ⟨λ h=>by cases h⟩,by intros; exact ⟨λ h=>by cases h⟩,by intros; exact ⟨λ h=>by cases h⟩,by intros; exact ⟨λ h=>by cases h⟩,by intros; exact ⟨λ h=>by cases h⟩,by intros; exact ⟨λ h=>by cases h⟩,by intros; exact ⟨λ h=>by cases h⟩,by intros; exact ⟨λ h=>by cases h⟩,by intros; exact ⟨λ h=>by cases h⟩,by intros; exact ⟨λ h=>by cases h⟩,by intros; exact ⟨λ h=>by cases h⟩,by intros; exact ⟨λ h=>by cases h⟩,by intros; exact ⟨λ h=>by cases h⟩,by intros; exact ⟨λ h=>by cases h⟩⟩
 | succ n ih =>
 obtain ⟨ih_expr_Template_ok,ih_expr_whole_ok,ih_expr_template_read_ok,ih_expr_parser_expr_ok,ih_expr_template_interpolation_ok,ih_expr_parser_binary_ok,ih_expr_parser_unary_ok,ih_expr_parser_postfix_ok,ih_expr_parser_primary_ok,ih_expr_parser_text_ok,ih_expr_parser_name_ok,ih_expr_parser_enclosed_ok,ih_expr_parser_list_ok,ih_expr_parser_loop_ok,ih_expr_parser_entries_ok,ih_expr_parser_key_ok⟩:=ih
 refine ⟨?_,?_,?_,?_,?_,?_,?_,?_,?_,?_,?_,?_,?_,?_,?_,?_⟩
 ·skip
  refine λ s_0 at_1=>hP good Tryz.func19 Z Z λ r h0 _ w0=>?_
  rw [eu] at h0
  refine nx 16 Z (bd h0 λ r1 e2 h0=>?_)
  refine mO Z (bq [12] [890000] 101000 101001 (HO.c e2) Z Z Z Z Z ⟨sr,trivial⟩ Z Z ⟨⟨_,Z,⟨sr,sr,sr,sr,sr,AV.sub_nilvec _ _ _,sr,trivial⟩⟩,trivial⟩ Z Z Z Z Z Z Z Z Tryz.call38 Z Z ?_)
  refine nx 10 Z (fN [17] h0 Z (λ c3 h0=>?_) λ c3 h0=>?_)
  ·refine nx 10 Z (bd h0 λ r4 e5 h0=>?_)
   refine oK (HP.c e5) Z ⟨cR ⟨.inl Z,.inl Z,.inl Z,.inr ⟨Z,Z⟩,.inr ⟨Z,Z⟩,trivial⟩,sr,trivial⟩ Tryz.call39 Z (nx 4 Z ?_)
   refine bd h0 λ o23 h1 h0=>kN o23 (λ v24=>⟨[(4,.ptr 4 0),(5,.ptr 5 0),(7,.ptr 7 0),(8,.ptr 8 0)],[(4,bc),(5,b9),(7,(ax.cs r1.1).map .p),(8,[.p (eI v24.1),.p (eI v24.2.1),.p (eS v24.2.2.1),.p (eS v24.2.2.2.1),.p (eI v24.2.2.2.2.1),.p (eI v24.2.2.2.2.2.1),.p (eS v24.2.2.2.2.2.2.1),.p (eL eO v24.2.2.2.2.2.2.2.1),.p (eL eS v24.2.2.2.2.2.2.2.2.1),.p (eL aj v24.2.2.2.2.2.2.2.2.2.1),.p (eI v24.2.2.2.2.2.2.2.2.2.2)])]⟩) ?_ ?_
   ·refine nx 5 Z (bd h0 λ r20 e21 h0=>?_)
    refine oK (HP.c e21) Z ⟨sr,sr,trivial⟩ Tryz.call34 Z (nx 6 Z ?_)
    exact mQ (oi h0) Z (bz ⟨sr,sr,trivial⟩)
   refine nx 7 Z (fB [30] h1 Z (λ c6 h1=>?_) λ c6 h1=>?_)
   ·refine nx 4 Z (bd h1 λ r7 e8 h1=>?_)
    refine mO Z (cVq [12] [101000] 102000 102001 (HO.c e8) Tryz.call40 Z ?_)
    exact nx 10 Z (eX _ (oi h1).symm (dZ (jK ⟨er Z,er Z,er Z,er Z,trivial⟩ ⟨⟨_,Z,⟨sr,sr,sr,sr,sr,sr,sr,sr,sr,sr,sr,trivial⟩⟩,⟨_,Z,⟨sr,sr,sr,trivial⟩⟩,⟨_,Z,⟨sr,sr,sr,trivial⟩⟩,⟨_,Z,⟨sr,sr,sr,sr,sr,sr,sr,fQ _,fQ _,AV.sub_vec _ _ _ _,sr,trivial⟩⟩,trivial⟩)))
   exact nx 2 Z (eX _ (oi h1).symm (gE Z Z))
  refine nx 2 Z (mG (gE (t:=⟨[(4,.ptr 4 0),(5,.ptr 5 0),(7,.ptr 7 0)],[(4,bc),(5,b9),(7,(ax.cs r1.1).map .p)]⟩) Z Z) ?_)
  refine mSq ⟨2,[2,3],(λ _=>.none),(λ _=>[(4,.ptr 4 0),(5,.ptr 5 0),(7,.ptr 7 0)]),(ob3 ([(4,bc),(5,b9),(7,((ax.cs r1.1).map .p))]) (4,bc) (5,((ax.cs r1.1).map .p)))⟩ Z (dPc (.p (.agg lb)) Z ?_)
  refine dPc (.p (.agg (ax.cs r1.1))) Z (dS Z ?_)
  refine dS Z (cY ?_)
  exact nx 2 Z (mQ (oi h0) Z (bz ⟨cR ⟨.inl Z,.inl Z,.inl Z,.inl Z,.inl Z,.inl Z,.inl Z,.inr ⟨Z,Z⟩,.inr ⟨Z,Z⟩,.inr ⟨Z,Z⟩,.inl Z,trivial⟩,sr,trivial⟩))
 ·skip
  refine λ s_0 base_1=>hP good Tryz.func33 Z Z λ r h0 _ w0=>?_
  rw [dU] at h0
  refine nx 8 Z (bd h0 λ r1 e2 h0=>?_)
  refine oK (HP.c e2) Z ⟨sr,trivial⟩ Tryz.call25 Z (nx 14 Z ?_)
  refine fN [18] h0 Z (λ c3 h0=>?_) λ c3 h0=>?_
  ·refine nx 13 Z (bd h0 λ r5 e6 h0=>?_)
   refine mO Z (cVq [30] [] 101000 101000 (HO.c e6) Tryz.call65 Z ?_)
   refine nx 4 Z (bd h0 λ o20 h1 h0=>?_)
   refine kN o20 (λ v21=>⟨[(4,.ptr 4 0),(5,.ptr 5 0),(8,.ptr 30 0),(9,.ptr 9 0)],[(4,bc),(5,b9),(9,(ac.cs r5.1).map .p),(30,[.p (eL aU v21.1),.p (eI v21.2.1),.p (eI v21.2.2.1),.p (eI v21.2.2.2.1),.p (eI v21.2.2.2.2.1),.p (eI v21.2.2.2.2.2.1),.p (eS v21.2.2.2.2.2.2)])]⟩) ?_ ?_
   ·refine nx 2 Z (mG (gE (t:=⟨[(4,.ptr 4 0),(5,.ptr 5 0),(8,.ptr 30 0),(9,.ptr 9 0)],[(4,bc),(5,b9),(9,(ac.cs r5.1).map .p),(30,[.p (eL aU o20.1),.p (eI o20.2.1),.p (eI o20.2.2.1),.p (eI o20.2.2.2.1),.p (eI o20.2.2.2.2.1),.p (eI o20.2.2.2.2.2.1),.p (eS o20.2.2.2.2.2.2)])]⟩) Z Z) ?_)
    refine mSq ⟨2,[5,6],(λ _=>.none),(λ _=>[(4,.ptr 4 0),(5,.ptr 5 0),(8,.ptr 30 0),(9,.ptr 9 0)]),(ob3 ([(4,bc),(5,b9),(9,((ac.cs r5.1).map .p)),(30,[.p (eL aU o20.1),.p (eI o20.2.1),.p (eI o20.2.2.1),.p (eI o20.2.2.2.1),.p (eI o20.2.2.2.2.1),.p (eI o20.2.2.2.2.2.1),.p (eS o20.2.2.2.2.2.2)])]) (4,((ac.cs r5.1).map .p)) (5,[.p (eI o20.2.2.2.2.1),.p (eI o20.2.2.2.2.2.1),.p (eS o20.2.2.2.2.2.2)]))⟩ Z (dPc (.p (.agg (ac.cs r5.1))) Z ?_)
    refine dPc (.ptr 30 0) Z (dPc (.ptr 30 0) Z ?_)
    refine dPc (.ptr 30 4) Z (dPc (.p (.agg [eI o20.2.2.2.2.1,eI o20.2.2.2.2.2.1,eS o20.2.2.2.2.2.2])) Z ?_)
    refine dS Z (dS Z ?_)
    refine cY (nx 2 Z ?_)
    exact mQ (oi h0) Z (bz ⟨sr,sr,trivial⟩)
   refine nx 3 Z (bd h1 λ r7 e8 h1=>?_)
   refine mO Z (cVq [30] [] 102000 102000 (HO.c e8) Tryz.call70 Z ?_)
   refine nx 9 Z (fN [37] h1 Z (λ c9 h1=>?_) λ c9 h1=>?_)
   ·exact nx 2 Z (eX _ (oi h1).symm (gE Z Z))
   refine nx 5 Z (bd h1 λ r10 e11 h1=>?_)
   refine mO Z (cVq [30] [] 103000 103000 (HO.c e11) Tryz.call71 Z ?_)
   exact nx 1 Z (eX _ (oi h1).symm (gE Z Z))
  refine nx 2 Z (cc' h0 λ hk4 h0=>?_)
  refine mG (gE (t:=⟨[(1,.p (eI base_1)),(4,.ptr 4 0),(5,.ptr 5 0),(7,.ptr 7 0)],[(4,bc),(5,b9),(7,(ax.cs r1.2).map .p)]⟩) Z Z) (mSq ⟨2,[8,9],(λ _=>.none),(λ _=>[(1,.p (eI base_1)),(4,.ptr 4 0),(5,.ptr 5 0),(7,.ptr 7 0)]),(ob3 ([(4,bc),(5,b9),(7,((ax.cs r1.2).map .p))]) (4,bc) (5,[.p (eI r1.2.fKind),.p (eI (base_1+r1.2.fAt)),.p (eS ([]:Bytes))]))⟩ Z ?_)
  refine dPc (.p (.agg lb)) Z (dPc (.ptr 7 0) Z ?_)
  refine dPc (.p (eI r1.2.fKind)) Z (dPc (.p (eI base_1)) Z ?_)
  refine dPc (.ptr 7 1) Z (dPc (.p (eI r1.2.fAt)) Z ?_)
  refine aR (λ _=>.p (eI (base_1+r1.2.fAt))) Z Z Z (nC Z Z Y) (lt2 Z Z) (az Z (aB [(22,_),(24,_)] ⟨.inr ⟨3,_,Z,Z,Z⟩,.inr ⟨5,_,Z,Z,Z⟩,trivial⟩ (λ sl hsl K hK=>ap Z (ew Z Z Z (hsl _ _ Z) (hsl _ _ Z) Z hk4 hK)) (aB [(22,_),(24,_)] ⟨.inr ⟨3,_,Z,Z,Z⟩,.inr ⟨5,_,Z,Z,Z⟩,trivial⟩ (λ sl hsl K hK=>ap Z (ew Z Z Z (hsl _ _ Z) (hsl _ _ Z) Z hk4 hK)) aS))) (dPc (.p (.agg [eI r1.2.fKind,eI (base_1+r1.2.fAt),eS ([]:Bytes)])) Z ?_)
  refine dS Z (dS Z ?_)
  refine cY (nx 2 Z ?_)
  exact mQ (oi h0) Z (bz ⟨cR ⟨.inl Z,.inl Z,.inl Z,.inl Z,.inl Z,.inl Z,.inl Z,.inr ⟨Z,Z⟩,.inr ⟨Z,Z⟩,.inr ⟨Z,Z⟩,.inl Z,trivial⟩,sr,trivial⟩)
 ·skip
  refine λ t_0=>hO good [800000] [1000000] Tryz.func38 Z Z λ r h0 _ w0 F=>?_
  rw [db] at h0
  refine nx 6 Z ?_
  obtain ⟨o85,h1,hL0,hR0⟩:=dj h0
  refine kEx 0 (λ v86:Bytes×Int×Int×Int×Bytes×(List ac)×Bool=>o85=.inl v86) (λ v86=>⟨[(2,.ptr 2 0)],[(2,b9),(1000000,[.p (eS v86.1),.p (eI v86.2.1),.p (eI v86.2.2.1),.p (eI v86.2.2.2.1),.p (eS v86.2.2.2.2.1),.vec 900000 11 0 (v86.2.2.2.2.2.1.map aj),.p (eB v86.2.2.2.2.2.2)])]⟩) (λ v86 hv=>?_) ?_
  ·have h0:=hL0 _ hv
   exact nx 7 Z (mQo (oi h0) (aY (bK 900000 800000 Z Z Z Z Z) (au _)) Z Z Z Z (sr) ⟨⟨_,Z,⟨sr,sr,sr,sr,sr,sr,sr,trivial⟩⟩,trivial⟩)
  refine lG (λ (q87:Bytes×Int×Int×Int×Bytes×(List ac)×Bool)=>⟨[(0,.ptr 1000000 0),(2,.ptr 2 0)],[(2,b9),(1000000,[.p (eS q87.1),.p (eI q87.2.1),.p (eI q87.2.2.1),.p (eI q87.2.2.2.1),.p (eS q87.2.2.2.2.1),.vec 900000 11 0 (q87.2.2.2.2.2.1.map aj),.p (eB q87.2.2.2.2.2.2)])]⟩) (λ m (q87:Bytes×Int×Int×Int×Bytes×(List ac)×Bool)=>bo n (aC n) m q87.1 q87.2.1 q87.2.2.1 q87.2.2.2.1 q87.2.2.2.2.1 q87.2.2.2.2.2.1 q87.2.2.2.2.2.2) Y (t_0.fs,t_0.fat,t_0.fi,t_0.ffrom,t_0.ftext,t_0.fparts,t_0.fopen) h1 (gE Z Z) ?_
  rintro m ⟨f35,f36,f37,f38,f39,f40,f41⟩ h1
  replace h1:bo n (aC n) (m+1) f35 f36 f37 f38 f39 f40 f41=some o85:=h1
  rw [bo] at h1
  refine nx 2 Z (mD [(0,.ptr 1000000 0),(2,.ptr 2 0)] Z ⟨Z,Z,trivial⟩ Z ?_)
  refine dR 8 Z (dq (.p (eI (f35.length:Int))) [12] Z (λ _ e _ q=>ap Z (oa Z Z Z Z Z (e _ _ Z) q)) Z ?_)
  refine dR 1 Z (dE Z ?_)
  refine nx 1 Z (fD [14] h1 Z (λ c42 h1=>?_) λ c42 h1=>?_)
  ·refine nx 9 Z (cc' h1 λ hk43 h1=>?_)
   refine mD [(0,.ptr 1000000 0),(2,.ptr 2 0),(3,.ptr 3 0)] Z ⟨Z,Z,Z,trivial⟩ Z (dR 8 Z ?_)
   refine dq (.p (eS (sub f35 f37 (f35.length:Int)))) [18,22] Z (λ _ e _ q=>ap Z (dy (a:=f35) (l:=f37) (h:=(f35.length:Int)) Z Z Z Z Z (e _ _ Z) (fK (e _ _ Z)) Z hk43 q)) Z (dR 1 Z ?_)
   refine dE Z (nx 1 Z ?_)
   refine bd h1 λ o88 h2 h1=>kN o88 (λ v89=>⟨[(0,.ptr 1000000 0),(2,.ptr 2 0),(3,.ptr 3 0)],[(2,b9),(3,[.p (eI v89.1),.p (eI v89.2.1),.p (eS v89.2.2.1)]),(1000000,[.p (eS v89.2.2.2.1),.p (eI v89.2.2.2.2.1),.p (eI v89.2.2.2.2.2.1),.p (eI v89.2.2.2.2.2.2.1),.p (eS v89.2.2.2.2.2.2.2.1),.vec 106000 11 0 (v89.2.2.2.2.2.2.2.2.1.map aj),.p (eB v89.2.2.2.2.2.2.2.2.2)])]⟩) ?_ ?_
   ·refine nx 7 Z (fN [52] h1 Z (λ c68 h1=>?_) λ c68 h1=>?_)
    ·exact nx 2 Z (eX (o88.2.2.2.1,o88.2.2.2.2.1,o88.2.2.2.2.2.1,o88.2.2.2.2.2.2.1,o88.2.2.2.2.2.2.2.1,o88.2.2.2.2.2.2.2.2.1,o88.2.2.2.2.2.2.2.2.2) h1 (aY (bK 106000 900000 Z Z Z Z Z) (gE Z Z)))
    exact nx 7 Z (mQo (hR0 _ (oi h1).symm) (aY (bK 106000 800000 Z Z Z Z Z) (au _)) Z Z Z Z (sr) ⟨⟨_,Z,⟨sr,sr,sr,sr,sr,sr,sr,trivial⟩⟩,trivial⟩)
   refine nx 4 Z (bd h2 λ r44 e45 h2=>?_)
   refine oK (bY (sub f35 f37 (f35.length:Int)) ([36,36,123]:Bytes) _ e45) Z ⟨sr,sr,trivial⟩ Tryz.call75 Z (nx 2 Z ?_)
   refine fB [26,28] h2 Z (λ c46 h2=>?_) λ c46 h2=>?_
   ·refine nx 7 Z (oC h2 Z λ hk47 h2=>?_)
    refine nx 10 Z (oA h2 Z Z λ hk48 h2=>?_)
    refine nx 4 Z (mG (gE (t:=⟨[(0,.ptr 1000000 0),(2,.ptr 2 0),(3,.ptr 3 0)],[(2,b9),(3,b9),(1000000,[.p (eS f35),.p (eI f36),.p (eI (f37+3)),.p (eI f38),.p (eS (f39++([36,123]:Bytes))),.vec 900000 11 0 (f40.map aj),.p (eB f41)])]⟩) Z Z) ?_)
    refine nx 2 Z (bd h2 λ r49 e50 h2=>?_)
    refine mO Z (cVq [1000000] [900000] 104000 104001 (HO.c e50) Tryz.call76 Z ?_)
    exact nx 2 Z (eX _ (oi h2).symm (aY (bK 104000 106000 Z Z Z Z Z) (gE Z Z)))
   refine nx 4 Z (bd h2 λ r51 e52 h2=>?_)
   refine oK (bY (sub f35 f37 (f35.length:Int)) ([36,123]:Bytes) _ e52) Z ⟨sr,sr,trivial⟩ Tryz.call75 Z (nx 2 Z ?_)
   refine fB [45,47] h2 Z (λ c53 h2=>?_) λ c53 h2=>?_
   ·refine nx 3 Z (bd h2 λ r54 e55 h2=>?_)
    refine mO Z (cVq [1000000] [900000] 105000 105001 (HO.c e55) Tryz.call77 Z ?_)
    exact nx 2 Z (eX _ (oi h2).symm (aY (bK 105000 106000 Z Z Z Z Z) (gE Z Z)))
   refine nx 3 Z (bd h2 λ r56 e57 h2=>?_)
   refine mO Z (cVq [1000000] [900000] 106000 106001 (HO.c e57) Tryz.call78 Z ?_)
   exact nx 2 Z (eX _ (oi h2).symm (gE Z Z))
  exact nx 2 Z (eXi _ (oi h1).symm (gE Z Z))
 ·skip
  refine λ p_0=>hO good [] [1000000] Tryz.func65 Z Z λ r h0 _ w0 F=>?_
  rw [ay] at h0
  refine nx 7 Z (bd h0 λ r1 e2 h0=>?_)
  refine mO Z (cVq [1000000] [] 101000 101000 (HO.c e2) Tryz.call100 Z ?_)
  refine nx 7 Z (bd h0 λ r3 e4 h0=>?_)
  refine mO Z (cVq [1000000] [] 102000 102000 (HO.c e4) Tryz.call101 Z ?_)
  refine nx 2 Z (fB [10] h0 Z (λ c5 h0=>?_) λ c5 h0=>?_)
  ·exact nx 7 Z (fC h0 Z)
  refine nx 5 Z (bd h0 λ r6 e7 h0=>?_)
  refine mO Z (cVq [1000000] [] 103000 103000 (HO.c e7) Tryz.call102 Z ?_)
  refine nx 4 Z (bd h0 λ r8 e9 h0=>?_)
  refine mO Z (cVq [1000000] [] 104000 104000 (HO.c e9) Tryz.call65 Z ?_)
  refine nx 6 Z (bd h0 λ r10 e11 h0=>?_)
  refine mO Z (cVq [1000000] [] 105000 105000 (HO.c e11) Tryz.call103 Z ?_)
  refine nx 4 Z (bd h0 λ r12 e13 h0=>?_)
  refine mO Z (cVq [1000000] [] 106000 106000 (HO.c e13) Tryz.call65 Z ?_)
  refine nx 8 Z (mO Z (bO aj [r1.1,r8.1,r12.1] Z Z Z Z Z Z Z Z Z Z Z Z Z (by first | rfl | (simp only [List.map_cons,List.map_nil,ac.agg_eq]; done) | (simp only [List.map_cons,List.map_nil,ac.agg_eq]; rfl)) ?_))
  exact nx 6 Z (mQo (oi h0) (au _) Z Z Z Z (cR ⟨.inl Z,.inl Z,.inl Z,.inl Z,.inl Z,.inl Z,.inl Z,.inr ⟨Z,Z⟩,.inr ⟨Z,Z⟩,.inl Z,.inl Z,trivial⟩) ⟨⟨_,Z,⟨sr,sr,sr,sr,sr,sr,sr,trivial⟩⟩,trivial⟩)
 ·skip
  refine λ t_0=>hO good [800000] [1000000] Tryz.func77 Z Z λ r h0 _ w0 F=>?_
  rw [aC] at h0
  refine nx 7 Z (bd h0 λ r1 e2 h0=>?_)
  refine mO Z (cVq [1000000] [900000] 101000 101001 (HO.c e2) Tryz.call40 Z ?_)
  refine nx 9 Z (cc' h0 λ hk3 h0=>?_)
  refine bd h0 λ r4 e5 h0=>mD [(0,.ptr 1000000 0),(2,.ptr 2 0)] Z ⟨Z,Z,trivial⟩ Z (dR 8 Z ?_)
  refine dq (.p (eI (r1.fi+2))) [18] Z (λ _ e _ q=>ap Z (ew Z Z Z (e _ _ Z) Z Z hk3 q)) Z (dq (.p (eI r4)) [14,19] Z (λ _ e _ q=>ap Z (ed (HP.c e5) Z Z Z (aN (e _ _ Z) (aN (e _ _ Z) cx)) ⟨sr,sr,trivial⟩ Tryz.call124 Z q)) Z ?_)
  refine dR 1 Z (dE Z ?_)
  refine nx 7 Z (fD [22] h0 Z (λ c6 h0=>?_) λ c6 h0=>?_)
  ·refine nx 2 Z (cc' h0 λ hk7 h0=>?_)
   refine mG (gE (t:=⟨[(0,.ptr 1000000 0),(2,.ptr 2 0)],[(2,b9),(1000000,[.p (eS r1.fs),.p (eI r1.fat),.p (eI r1.fi),.p (eI r1.ffrom),.p (eS r1.ftext),.vec 101000 11 0 (r1.fparts.map aj),.p (eB true)])]⟩) Z Z) (mSq ⟨1,[10],(λ _=>.none),(λ _=>[(0,.ptr 1000000 0),(2,.ptr 2 0)]),(ob2 ([(2,b9),(1000000,[.p (eS r1.fs),.p (eI r1.fat),.p (eI r1.fi),.p (eI r1.ffrom),.p (eS r1.ftext),.vec 101000 11 0 (r1.fparts.map aj),.p (eB true)])]) (2,[.p (eI 40),.p (eI (r1.fat+r1.fi)),.p (eS ([]:Bytes))]))⟩ Z ?_)
   refine dPc (.ptr 1000000 0) Z (dPc (.ptr 1000000 0) Z ?_)
   refine dPc (.ptr 1000000 1) Z (dPc (.p (eI r1.fat)) Z ?_)
   refine dPc (.ptr 1000000 0) Z (dPc (.ptr 1000000 0) Z ?_)
   refine dPc (.ptr 1000000 2) Z (dPc (.p (eI r1.fi)) Z ?_)
   refine aR (λ _=>.p (eI (r1.fat+r1.fi))) Z Z Z (gw Z Y) (lt1 Z) (az Z (aB [(26,_),(30,_)] ⟨.inr ⟨3,_,Z,Z,Z⟩,.inr ⟨7,_,Z,Z,Z⟩,trivial⟩ (λ sl hsl K hK=>ap Z (ew Z Z Z (hsl _ _ Z) (hsl _ _ Z) Z hk7 hK)) aS)) (dPc (.p (.agg [eI 40,eI (r1.fat+r1.fi),eS ([]:Bytes)])) Z ?_)
   refine dS Z (cY ?_)
   exact nx 2 Z (mQo (oi h0) (aY (bK 101000 800000 Z Z Z Z Z) (au _)) Z Z Z Z (sr) ⟨⟨_,Z,⟨sr,sr,sr,sr,sr,sr,sr,trivial⟩⟩,trivial⟩)
  refine nx 3 Z (cc' h0 λ hk8 h0=>?_)
  refine cc' h0 λ hk9 h0=>cc' h0 λ hk10 h0=>cc' h0 λ hk11 h0=>bd h0 λ r12 e13 h0=>mG (gE (t:=⟨[(0,.ptr 1000000 0),(2,.ptr 2 0),(3,.p (eI r4))],[(2,b9),(1000000,[.p (eS r1.fs),.p (eI r1.fat),.p (eI r1.fi),.p (eI r1.ffrom),.p (eS r1.ftext),.vec 101000 11 0 (r1.fparts.map aj),.p (eB true)])]⟩) Z Z) (mSS ⟨4,[25,26,27,28],(by5 (.some λ i=>Nat.beq i 4) (.some λ i=>Nat.beq i 5) .none .none .none),(λ _=>[(0,.ptr 1000000 0),(2,.ptr 2 0),(3,.p (eI r4))]),(ob5 ([(2,b9),(1000000,[.p (eS r1.fs),.p (eI r1.fat),.p (eI r1.fi),.p (eI r1.ffrom),.p (eS r1.ftext),.vec 101000 11 0 (r1.fparts.map aj),.p (eB true)])]) (4,bc) (5,b9) (4,((ac.cs r12.1).map .p)) (5,((ax.cs r12.2).map .p)))⟩ ⟨4,[26,25,27,28],(by5 (.some λ i=>Nat.beq i 5) (.some λ i=>Nat.beq i 4) .none .none .none),(λ _=>[(0,.ptr 1000000 0),(2,.ptr 2 0),(3,.p (eI r4))]),(ob5 ([(2,b9),(1000000,[.p (eS r1.fs),.p (eI r1.fat),.p (eI r1.fi),.p (eI r1.ffrom),.p (eS r1.ftext),.vec 101000 11 0 (r1.fparts.map aj),.p (eB true)])]) (5,b9) (4,bc) (4,((ac.cs r12.1).map .p)) (5,((ax.cs r12.2).map .p)))⟩ Z Z Z Z Z Z Z ⟨Z,Z,Z,trivial⟩ Z (lt4 ⟨Z,Z,Z,trivial⟩ ⟨Z,Z,Z,trivial⟩ ⟨Z,Z,Z,trivial⟩ ⟨Z,Z,Z,trivial⟩) (lt4 ⟨Z,Z,Z,trivial⟩ ⟨Z,Z,Z,trivial⟩ ⟨Z,Z,Z,trivial⟩ ⟨Z,Z,Z,trivial⟩) Z Z Z Z Z ?_)
  refine dPc (.ptr 1000000 0) Z (dPc (.ptr 1000000 0) Z ?_)
  refine dPc (.ptr 1000000 0) Z (dPc (.p (eS r1.fs)) Z ?_)
  refine dPc (.ptr 1000000 0) Z (dPc (.ptr 1000000 0) Z ?_)
  refine dPc (.ptr 1000000 2) Z (dPc (.p (eI r1.fi)) Z ?_)
  refine aR (λ _=>.p (eI (r1.fi+2))) Z Z Z (rJ Z Z Z Z Y) (lt4 Z Z Z Z) (az Z (az Z (aB [(41,_)] ⟨.inr ⟨7,_,Z,Z,Z⟩,trivial⟩ (λ sl hsl K hK=>ap Z (ew Z Z Z (hsl _ _ Z) Z Z hk8 hK)) (aB [(41,_)] ⟨.inr ⟨7,_,Z,Z,Z⟩,trivial⟩ (λ sl hsl K hK=>ap Z (ew Z Z Z (hsl _ _ Z) Z Z hk8 hK)) (aB [(41,_)] ⟨.inr ⟨7,_,Z,Z,Z⟩,trivial⟩ (λ sl hsl K hK=>ap Z (ew Z Z Z (hsl _ _ Z) Z Z hk8 hK)) aS))))) (dPc (.p (eI r4)) Z ?_)
  refine aR (λ _=>.p (eS (sub r1.fs (r1.fi+2) r4))) Z Z Z (rJ Z Z Z Z Y) (lt4 Z Z Z Z) (az Z (az Z (aB [(37,_),(42,_),(43,_)] ⟨.inr ⟨3,_,Z,Z,Z⟩,.inr ⟨8,_,Z,Z,Z⟩,.inr ⟨9,_,Z,Z,Z⟩,trivial⟩ (λ sl hsl K hK=>ap Z (dy (a:=r1.fs) (l:=r1.fi+2) (h:=r4) Z Z Z Z Z (hsl _ _ Z) (fK (hsl _ _ Z)) (jL (hsl _ _ Z)) hk9 hK)) (aB [(37,_),(42,_),(43,_)] ⟨.inr ⟨3,_,Z,Z,Z⟩,.inr ⟨8,_,Z,Z,Z⟩,.inr ⟨9,_,Z,Z,Z⟩,trivial⟩ (λ sl hsl K hK=>ap Z (dy (a:=r1.fs) (l:=r1.fi+2) (h:=r4) Z Z Z Z Z (hsl _ _ Z) (fK (hsl _ _ Z)) (jL (hsl _ _ Z)) hk9 hK)) (aB [(37,_),(42,_),(43,_)] ⟨.inr ⟨3,_,Z,Z,Z⟩,.inr ⟨8,_,Z,Z,Z⟩,.inr ⟨9,_,Z,Z,Z⟩,trivial⟩ (λ sl hsl K hK=>ap Z (dy (a:=r1.fs) (l:=r1.fi+2) (h:=r4) Z Z Z Z Z (hsl _ _ Z) (fK (hsl _ _ Z)) (jL (hsl _ _ Z)) hk9 hK)) aS))))) (dPc (.ptr 1000000 0) Z ?_)
  refine dPc (.ptr 1000000 0) Z (dPc (.ptr 1000000 1) Z ?_)
  refine dPc (.p (eI r1.fat)) Z (dPc (.ptr 1000000 0) Z ?_)
  refine dPc (.ptr 1000000 0) Z (dPc (.ptr 1000000 2) Z ?_)
  refine dPc (.p (eI r1.fi)) Z (aR (λ _=>.p (eI (r1.fat+r1.fi))) Z Z Z (rJ Z Z Z Z Y) (lt4 Z Z Z Z) (az Z (az Z (aB [(48,_),(52,_)] ⟨.inr ⟨14,_,Z,Z,Z⟩,.inr ⟨18,_,Z,Z,Z⟩,trivial⟩ (λ sl hsl K hK=>ap Z (ew Z Z Z (hsl _ _ Z) (hsl _ _ Z) Z hk10 hK)) (aB [(48,_),(52,_)] ⟨.inr ⟨14,_,Z,Z,Z⟩,.inr ⟨18,_,Z,Z,Z⟩,trivial⟩ (λ sl hsl K hK=>ap Z (ew Z Z Z (hsl _ _ Z) (hsl _ _ Z) Z hk10 hK)) (aB [(48,_),(52,_)] ⟨.inr ⟨14,_,Z,Z,Z⟩,.inr ⟨18,_,Z,Z,Z⟩,trivial⟩ (λ sl hsl K hK=>ap Z (ew Z Z Z (hsl _ _ Z) (hsl _ _ Z) Z hk10 hK)) aS))))) ?_)
  refine aR (λ _=>.p (eI ((r1.fat+r1.fi)+2))) Z Z Z (rJ Z Z Z Z Y) (lt4 Z Z Z Z) (az Z (az Z (aB [(53,_)] ⟨.inr ⟨19,_,Z,Z,Z⟩,trivial⟩ (λ sl hsl K hK=>ap Z (ew Z Z Z (hsl _ _ Z) Z Z hk11 hK)) (aB [(53,_)] ⟨.inr ⟨19,_,Z,Z,Z⟩,trivial⟩ (λ sl hsl K hK=>ap Z (ew Z Z Z (hsl _ _ Z) Z Z hk11 hK)) (aB [(53,_)] ⟨.inr ⟨19,_,Z,Z,Z⟩,trivial⟩ (λ sl hsl K hK=>ap Z (ew Z Z Z (hsl _ _ Z) Z Z hk11 hK)) aS))))) (aR (λ _=>.tuple [.p (.agg (ac.cs r12.1)),.p (.agg (ax.cs r12.2))]) Z Z Z (rJ Z Z Z Z Y) (lt4 Z Z Z Z) (az Z (az Z (aB [(44,_),(54,_)] ⟨.inr ⟨10,_,Z,Z,Z⟩,.inr ⟨20,_,Z,Z,Z⟩,trivial⟩ (λ sl hsl K hK=>ap Z (ed (HP.c e13) Z Z Z (aN (hsl _ _ Z) (aN (hsl _ _ Z) cx)) ⟨sr,sr,trivial⟩ Tryz.call33 Z hK)) (aB [(44,_),(54,_)] ⟨.inr ⟨10,_,Z,Z,Z⟩,.inr ⟨20,_,Z,Z,Z⟩,trivial⟩ (λ sl hsl K hK=>ap Z (ed (HP.c e13) Z Z Z (aN (hsl _ _ Z) (aN (hsl _ _ Z) cx)) ⟨sr,sr,trivial⟩ Tryz.call33 Z hK)) (aB [(44,_),(54,_)] ⟨.inr ⟨10,_,Z,Z,Z⟩,.inr ⟨20,_,Z,Z,Z⟩,trivial⟩ (λ sl hsl K hK=>ap Z (ed (HP.c e13) Z Z Z (aN (hsl _ _ Z) (aN (hsl _ _ Z) cx)) ⟨sr,sr,trivial⟩ Tryz.call33 Z hK)) aS))))) ?_)
  refine dPc (.tuple [.p (.agg (ac.cs r12.1)),.p (.agg (ax.cs r12.2))]) Z (dPc (.p (.agg (ac.cs r12.1))) Z ?_)
  refine dPc (.p (.agg (ax.cs r12.2))) Z (eQ (λ _=>.ptr 4 0) [] Z trivial Z Z (ki Z Z Z Y) (lt4 (λ h=>absurd h (by decide)) Y Y Y) (λ sl hsl K hK=>ap Z (gJ Z Z Z Z Z hK)) ?_)
  refine eQ (λ _=>.ptr 5 0) [] Z trivial Z Z (nC Z Z Y) (lt4 (λ h=>absurd h (by decide)) (λ h=>absurd h (by decide)) Y Y) (λ sl hsl K hK=>ap Z (gJ Z Z Z Z Z hK)) (dS Z ?_)
  refine dS Z (xg (dPc (.ptr 1000000 0) Z (dPc (.ptr 1000000 0) Z (dPc (.ptr 1000000 0) Z (dPc (.p (eS r1.fs)) Z (dPc (.ptr 1000000 0) Z (dPc (.ptr 1000000 0) Z (dPc (.ptr 1000000 2) Z (dPc (.p (eI r1.fi)) Z (aR (λ _=>.p (eI (r1.fi+2))) Z Z Z (rJ Z Z Z Z Y) (lt4 Z Z Z Z) (az Z (az Z (aB [(41,_)] ⟨.inr ⟨7,_,Z,Z,Z⟩,trivial⟩ (λ sl hsl K hK=>ap Z (ew Z Z Z (hsl _ _ Z) Z Z hk8 hK)) (aB [(41,_)] ⟨.inr ⟨7,_,Z,Z,Z⟩,trivial⟩ (λ sl hsl K hK=>ap Z (ew Z Z Z (hsl _ _ Z) Z Z hk8 hK)) (aB [(41,_)] ⟨.inr ⟨7,_,Z,Z,Z⟩,trivial⟩ (λ sl hsl K hK=>ap Z (ew Z Z Z (hsl _ _ Z) Z Z hk8 hK)) aS))))) (dPc (.p (eI r4)) Z (aR (λ _=>.p (eS (sub r1.fs (r1.fi+2) r4))) Z Z Z (rJ Z Z Z Z Y) (lt4 Z Z Z Z) (az Z (az Z (aB [(37,_),(42,_),(43,_)] ⟨.inr ⟨3,_,Z,Z,Z⟩,.inr ⟨8,_,Z,Z,Z⟩,.inr ⟨9,_,Z,Z,Z⟩,trivial⟩ (λ sl hsl K hK=>ap Z (dy (a:=r1.fs) (l:=r1.fi+2) (h:=r4) Z Z Z Z Z (hsl _ _ Z) (fK (hsl _ _ Z)) (jL (hsl _ _ Z)) hk9 hK)) (aB [(37,_),(42,_),(43,_)] ⟨.inr ⟨3,_,Z,Z,Z⟩,.inr ⟨8,_,Z,Z,Z⟩,.inr ⟨9,_,Z,Z,Z⟩,trivial⟩ (λ sl hsl K hK=>ap Z (dy (a:=r1.fs) (l:=r1.fi+2) (h:=r4) Z Z Z Z Z (hsl _ _ Z) (fK (hsl _ _ Z)) (jL (hsl _ _ Z)) hk9 hK)) (aB [(37,_),(42,_),(43,_)] ⟨.inr ⟨3,_,Z,Z,Z⟩,.inr ⟨8,_,Z,Z,Z⟩,.inr ⟨9,_,Z,Z,Z⟩,trivial⟩ (λ sl hsl K hK=>ap Z (dy (a:=r1.fs) (l:=r1.fi+2) (h:=r4) Z Z Z Z Z (hsl _ _ Z) (fK (hsl _ _ Z)) (jL (hsl _ _ Z)) hk9 hK)) aS))))) (dPc (.ptr 1000000 0) Z (dPc (.ptr 1000000 0) Z (dPc (.ptr 1000000 1) Z (dPc (.p (eI r1.fat)) Z (dPc (.ptr 1000000 0) Z (dPc (.ptr 1000000 0) Z (dPc (.ptr 1000000 2) Z (dPc (.p (eI r1.fi)) Z (aR (λ _=>.p (eI (r1.fat+r1.fi))) Z Z Z (rJ Z Z Z Z Y) (lt4 Z Z Z Z) (az Z (az Z (aB [(48,_),(52,_)] ⟨.inr ⟨14,_,Z,Z,Z⟩,.inr ⟨18,_,Z,Z,Z⟩,trivial⟩ (λ sl hsl K hK=>ap Z (ew Z Z Z (hsl _ _ Z) (hsl _ _ Z) Z hk10 hK)) (aB [(48,_),(52,_)] ⟨.inr ⟨14,_,Z,Z,Z⟩,.inr ⟨18,_,Z,Z,Z⟩,trivial⟩ (λ sl hsl K hK=>ap Z (ew Z Z Z (hsl _ _ Z) (hsl _ _ Z) Z hk10 hK)) (aB [(48,_),(52,_)] ⟨.inr ⟨14,_,Z,Z,Z⟩,.inr ⟨18,_,Z,Z,Z⟩,trivial⟩ (λ sl hsl K hK=>ap Z (ew Z Z Z (hsl _ _ Z) (hsl _ _ Z) Z hk10 hK)) aS))))) (aR (λ _=>.p (eI ((r1.fat+r1.fi)+2))) Z Z Z (rJ Z Z Z Z Y) (lt4 Z Z Z Z) (az Z (az Z (aB [(53,_)] ⟨.inr ⟨19,_,Z,Z,Z⟩,trivial⟩ (λ sl hsl K hK=>ap Z (ew Z Z Z (hsl _ _ Z) Z Z hk11 hK)) (aB [(53,_)] ⟨.inr ⟨19,_,Z,Z,Z⟩,trivial⟩ (λ sl hsl K hK=>ap Z (ew Z Z Z (hsl _ _ Z) Z Z hk11 hK)) (aB [(53,_)] ⟨.inr ⟨19,_,Z,Z,Z⟩,trivial⟩ (λ sl hsl K hK=>ap Z (ew Z Z Z (hsl _ _ Z) Z Z hk11 hK)) aS))))) (aR (λ _=>.tuple [.p (.agg (ac.cs r12.1)),.p (.agg (ax.cs r12.2))]) Z Z Z (rJ Z Z Z Z Y) (lt4 Z Z Z Z) (az Z (az Z (aB [(44,_),(54,_)] ⟨.inr ⟨10,_,Z,Z,Z⟩,.inr ⟨20,_,Z,Z,Z⟩,trivial⟩ (λ sl hsl K hK=>ap Z (ed (HP.c e13) Z Z Z (aN (hsl _ _ Z) (aN (hsl _ _ Z) cx)) ⟨sr,sr,trivial⟩ Tryz.call33 Z hK)) (aB [(44,_),(54,_)] ⟨.inr ⟨10,_,Z,Z,Z⟩,.inr ⟨20,_,Z,Z,Z⟩,trivial⟩ (λ sl hsl K hK=>ap Z (ed (HP.c e13) Z Z Z (aN (hsl _ _ Z) (aN (hsl _ _ Z) cx)) ⟨sr,sr,trivial⟩ Tryz.call33 Z hK)) (aB [(44,_),(54,_)] ⟨.inr ⟨10,_,Z,Z,Z⟩,.inr ⟨20,_,Z,Z,Z⟩,trivial⟩ (λ sl hsl K hK=>ap Z (ed (HP.c e13) Z Z Z (aN (hsl _ _ Z) (aN (hsl _ _ Z) cx)) ⟨sr,sr,trivial⟩ Tryz.call33 Z hK)) aS))))) (dPc (.tuple [.p (.agg (ac.cs r12.1)),.p (.agg (ax.cs r12.2))]) Z (dPc (.p (.agg (ac.cs r12.1))) Z (dPc (.p (.agg (ax.cs r12.2))) Z (eQ (λ _=>.ptr 4 0) [] Z trivial Z Z (nC Z Z Y) (lt4 (λ h=>absurd h (by decide)) (λ h=>absurd h (by decide)) Y Y) (λ sl hsl K hK=>ap Z (gJ Z Z Z Z Z hK)) (eQ (λ _=>.ptr 5 0) [] Z trivial Z Z (ki Z Z Z Y) (lt4 (λ h=>absurd h (by decide)) Y Y Y) (λ sl hsl K hK=>ap Z (gJ Z Z Z Z Z hK)) (dS Z (dS Z (EG Z ⟨Z,Z,Z,Z,Z,Z,trivial⟩ ⟨⟨Z,Z,.inl Z⟩,⟨⟨Z,Z,.inl Z⟩,⟨⟨Z,Z,.inr Z⟩,⟨⟨Z,Z,.inr Z⟩,⟨⟨Z,Z,.inr Z⟩,⟨⟨Z,Z,.inr Z⟩,⟨⟨Z,Z,.inr Z⟩,⟨⟨Z,Z,.inr Z⟩,⟨⟨Z,Z,.inr Z⟩,⟨⟨Z,Z,.inr Z⟩,⟨⟨Z,Z,.inr Z⟩,⟨⟨Z,Z,.inr Z⟩,⟨⟨Z,Z,.inr Z⟩,⟨⟨Z,Z,.inr Z⟩,⟨⟨Z,Z,.inr Z⟩,⟨⟨Z,Z,.inr Z⟩,⟨⟨Z,Z,.inr Z⟩,⟨⟨Z,Z,.inr Z⟩,⟨⟨Z,Z,.inr Z⟩,⟨⟨Z,Z,.inr Z⟩,⟨⟨Z,Z,.inr Z⟩,⟨⟨Z,Z,.inr Z⟩,⟨⟨Z,Z,.inr Z⟩,⟨⟨Z,Z,.inr Z⟩,⟨⟨Z,Z,.inr Z⟩,⟨⟨Z,Z,.inr Z⟩,⟨⟨Z,Z,.inr Z⟩,trivial⟩⟩⟩⟩⟩⟩⟩⟩⟩⟩⟩⟩⟩⟩⟩⟩⟩⟩⟩⟩⟩⟩⟩⟩⟩⟩⟩)))))))))))))))))))))))))))))) ?_)
  refine nx 1 Z (mG (gE (t:=⟨[(0,.ptr 1000000 0),(2,.ptr 2 0),(3,.p (eI r4)),(4,.ptr 4 0),(5,.ptr 5 0)],[(2,b9),(4,(ac.cs r12.1).map .p),(5,(ax.cs r12.2).map .p),(1000000,[.p (eS r1.fs),.p (eI r1.fat),.p (eI r1.fi),.p (eI r1.ffrom),.p (eS r1.ftext),.vec 101000 11 0 (r1.fparts.map aj),.p (eB true)])]⟩) Z Z) ?_)
  refine nx 7 Z (fN [60] h0 Z (λ c14 h0=>?_) λ c14 h0=>?_)
  ·refine nx 3 Z (cc' h0 λ hk15 h0=>?_)
   refine mG (gE (t:=⟨[(0,.ptr 1000000 0),(2,.ptr 2 0),(3,.p (eI r4)),(4,.ptr 4 0)],[(2,b9),(4,(ac.cs r12.1).map .p),(1000000,[.p (eS r1.fs),.p (eI r1.fat),.p (eI r1.fi),.p (eI r1.ffrom),.p (eS r1.ftext),.vec 101000 11 0 (r1.fparts.map aj),.p (eB true)])]⟩) Z Z) (mSP ⟨3,[7,9,12],(by4 (.some λ i=>Nat.beq i 101000||Nat.beq i 69) (.fn (upP 69 11 (.agg (ac.cs r12.1)))) .none .none),(λ _=>[(0,.ptr 1000000 0),(2,.ptr 2 0),(3,.p (eI r4)),(4,.ptr 4 0)]),(by4 ([(2,b9),(4,((ac.cs r12.1).map .p)),(1000000,[.p (eS r1.fs),.p (eI r1.fat),.p (eI r1.fi),.p (eI r1.ffrom),.p (eS r1.ftext),.vec 101000 11 0 (r1.fparts.map aj),.p (eB true)])]) ([(2,b9),(4,((ac.cs r12.1).map .p)),(1000000,[.p (eS r1.fs),.p (eI r1.fat),.p (eI r1.fi),.p (eI r1.ffrom),.p (eS r1.ftext),.p (eL aj r1.fparts),.p (eB true)])]) ([(2,b9),(4,((ac.cs r12.1).map .p)),(1000000,[.p (eS r1.fs),.p (eI r1.fat),.p (eI r1.fi),.p (eI r1.ffrom),.p (eS r1.ftext),.p (eL aj r1.fparts),.p (eB true)])]) ([(1000000,[.p (eS r1.fs),.p (eI r1.fat),.p (eI r1.fi),.p (eI r1.ffrom),.p (eS r1.ftext),.vec 69 11 0 (r1.fparts.map aj++[.agg (ac.cs r12.1)]),.p (eB true)]),(2,b9),(4,((ac.cs r12.1).map .p)),(1000000,[.p (eS r1.fs),.p (eI r1.fat),.p (eI r1.fi),.p (eI r1.ffrom),.p (eS r1.ftext),.p (eL aj r1.fparts),.p (eB true)])]))⟩ ⟨3,[7,12,9],(by4 (.some λ i=>Nat.beq i 101000||Nat.beq i 69) .none (.fn (upP 69 11 (.agg (ac.cs r12.1)))) .none),(λ _=>[(0,.ptr 1000000 0),(2,.ptr 2 0),(3,.p (eI r4)),(4,.ptr 4 0)]),(by4 ([(2,b9),(4,((ac.cs r12.1).map .p)),(1000000,[.p (eS r1.fs),.p (eI r1.fat),.p (eI r1.fi),.p (eI r1.ffrom),.p (eS r1.ftext),.vec 101000 11 0 (r1.fparts.map aj),.p (eB true)])]) ([(2,b9),(4,((ac.cs r12.1).map .p)),(1000000,[.p (eS r1.fs),.p (eI r1.fat),.p (eI r1.fi),.p (eI r1.ffrom),.p (eS r1.ftext),.p (eL aj r1.fparts),.p (eB true)])]) ([(1000000,[.p (eS r1.fs),.p (eI r1.fat),.p (eI r1.fi),.p (eI r1.ffrom),.p (eS r1.ftext),.vecp 69 11 0 (r1.fparts.map aj),.p (eB true)]),(2,b9),(4,((ac.cs r12.1).map .p)),(1000000,[.p (eS r1.fs),.p (eI r1.fat),.p (eI r1.fi),.p (eI r1.ffrom),.p (eS r1.ftext),.p (eL aj r1.fparts),.p (eB true)])]) ([(1000000,[.p (eS r1.fs),.p (eI r1.fat),.p (eI r1.fi),.p (eI r1.ffrom),.p (eS r1.ftext),.vec 69 11 0 (r1.fparts.map aj++[.agg (ac.cs r12.1)]),.p (eB true)]),(2,b9),(4,((ac.cs r12.1).map .p)),(1000000,[.p (eS r1.fs),.p (eI r1.fat),.p (eI r1.fi),.p (eI r1.ffrom),.p (eS r1.ftext),.p (eL aj r1.fparts),.p (eB true)])]))⟩ Z Z Z Z Z Z Z ⟨Z,Z,Z,Z,trivial⟩ Z (lt3 ⟨Z,Z,Z,Z,trivial⟩ ⟨Z,Z,Z,Z,trivial⟩ ⟨Z,Z,Z,Z,trivial⟩) (lt3 ⟨Z,Z,Z,Z,trivial⟩ ⟨Z,Z,Z,Z,trivial⟩ ⟨Z,Z,Z,Z,trivial⟩) Z Z Z Z Z ?_)
   refine dPc (.ptr 1000000 0) Z (dPc (.ptr 1000000 0) Z ?_)
   refine dPc (.ptr 1000000 5) Z (dP (by4 (.vec 101000 11 0 (r1.fparts.map aj)) (.p (eL aj r1.fparts)) (.p (eL aj r1.fparts)) (.p (eL aj r1.fparts))) Z ?_)
   refine dPc (.p (.agg (ac.cs r12.1))) Z (aR (λ _=>.p (eI (r1.fparts.length:Int))) Z Z Z (ki Z Z Z Y) (lt3 Z Z Z) (az Z (az Z (az Z (aB [(65,_)] ⟨.inr ⟨3,_,Z,Z,Z⟩,trivial⟩ (λ sl hsl K hK=>ap Z (oM (f:=aj) (l:=r1.fparts) Z Z Z Z Z (hsl _ _ Z) Z hK)) aS)))) ?_)
   refine aR (λ _=>.p (eL (λ x:PV=>x) [.agg lb])) Z Z Z (ki Z Z Z Y) (lt3 Z Z Z) (az Z (az Z (az Z (aB [] trivial (λ sl hsl K hK=>ap Z (bO (λ x:PV=>x) [.agg lb] Z Z Z Z Z Z (fj Z Z gq) Z Z Z Z Z Z Z hK)) aS)))) (eQ (by4 (.vecp 69 11 0 (r1.fparts.map aj)) (.vecp 69 11 0 (r1.fparts.map aj)) (.vec 69 11 0 (r1.fparts.map aj++[.agg (ac.cs r12.1)])) (.vec 69 11 0 (r1.fparts.map aj++[.agg (ac.cs r12.1)]))) [(65,_),(68,_)] Z ⟨.inr ⟨3,_,Z,Z,Z⟩,.inr ⟨6,_,Z,Z,Z⟩,trivial⟩ Z Z (nC Z Z Y) (lt3 (λ h=>absurd h (by decide)) Y Y) (λ sl hsl K hK=>ap Z (om aj r1.fparts Z Z Z Z Z Z Z Z (hsl _ _ Z) Z Z (hsl _ _ Z) Z Z Z Z Z hk15 hK)) ?_)
   refine nU (by4 (.elp 69 11) (.elp 69 11) .undef .undef) Z Z Z (ki Z Z Z Y) (lt3 (nl Z) Y Y) (az Z (az Z (aB [(67,_),(69,_)] ⟨.inr ⟨5,_,Z,Z,Z⟩,.inr ⟨7,_,Z,Z,Z⟩,trivial⟩ (λ sl hsl K hK=>ap Z (mW Z Z Z Z Z Z Z (hsl _ _ Z) (hsl _ _ Z) (by rw [List.length_map]) hK)) (az Z aS)))) (jy [(66,_),(70,_)] Z ⟨.inr ⟨4,_,Z,Z,Z⟩,.inr ⟨8,_,Z,Z,Z⟩,trivial⟩ Z (λ sl hsl K hK=>ap Z (tU (z:=.agg (ac.cs r12.1)) Z Z Z Z (hsl _ _ Z) (hsl _ _ Z) Z Z Z Z Z hK)) ?_)
   refine dPc (.ptr 1000000 0) Z (dPc (.ptr 1000000 5) Z ?_)
   refine dS Z (xg (dPc (.ptr 1000000 0) Z (dPc (.ptr 1000000 0) Z (dPc (.ptr 1000000 5) Z (dP (by4 (.vec 101000 11 0 (r1.fparts.map aj)) (.p (eL aj r1.fparts)) (.p (eL aj r1.fparts)) (.p (eL aj r1.fparts))) Z (dPc (.p (.agg (ac.cs r12.1))) Z (aR (λ _=>.p (eI (r1.fparts.length:Int))) Z Z Z (ki Z Z Z Y) (lt3 Z Z Z) (az Z (az Z (az Z (aB [(65,_)] ⟨.inr ⟨3,_,Z,Z,Z⟩,trivial⟩ (λ sl hsl K hK=>ap Z (oM (f:=aj) (l:=r1.fparts) Z Z Z Z Z (hsl _ _ Z) Z hK)) aS)))) (aR (λ _=>.p (eL (λ x:PV=>x) [.agg lb])) Z Z Z (ki Z Z Z Y) (lt3 Z Z Z) (az Z (az Z (az Z (aB [] trivial (λ sl hsl K hK=>ap Z (bO (λ x:PV=>x) [.agg lb] Z Z Z Z Z Z (fj Z Z gq) Z Z Z Z Z Z Z hK)) aS)))) (eQ (by4 (.vecp 69 11 0 (r1.fparts.map aj)) (.vecp 69 11 0 (r1.fparts.map aj)) (.vecp 69 11 0 (r1.fparts.map aj)) (.vec 69 11 0 (r1.fparts.map aj++[.agg (ac.cs r12.1)]))) [(65,_),(68,_)] Z ⟨.inr ⟨3,_,Z,Z,Z⟩,.inr ⟨6,_,Z,Z,Z⟩,trivial⟩ Z Z (nC Z Z Y) (lt3 (λ h=>absurd h (by decide)) Y Y) (λ sl hsl K hK=>ap Z (om aj r1.fparts Z Z Z Z Z Z Z Z (hsl _ _ Z) Z Z (hsl _ _ Z) Z Z Z Z Z hk15 hK)) (nU (by4 (.elp 69 11) (.elp 69 11) (.elp 69 11) .undef) Z Z Z (ki Z Z Z Y) (lt3 (nl Z) Y Y) (az Z (aB [(67,_),(69,_)] ⟨.inr ⟨5,_,Z,Z,Z⟩,.inr ⟨7,_,Z,Z,Z⟩,trivial⟩ (λ sl hsl K hK=>ap Z (mW Z Z Z Z Z Z Z (hsl _ _ Z) (hsl _ _ Z) (by rw [List.length_map]) hK)) (aB [(67,_),(69,_)] ⟨.inr ⟨5,_,Z,Z,Z⟩,.inr ⟨7,_,Z,Z,Z⟩,trivial⟩ (λ sl hsl K hK=>ap Z (mW Z Z Z Z Z Z Z (hsl _ _ Z) (hsl _ _ Z) (by rw [List.length_map]) hK)) (az Z aS)))) (jy [(66,_),(70,_)] Z ⟨.inr ⟨4,_,Z,Z,Z⟩,.inr ⟨8,_,Z,Z,Z⟩,trivial⟩ Z (λ sl hsl K hK=>ap Z (tU (z:=.agg (ac.cs r12.1)) Z Z Z Z (hsl _ _ Z) (hsl _ _ Z) Z Z Z Z Z hK)) (dPc (.ptr 1000000 0) Z (dPc (.ptr 1000000 5) Z (dS Z (xS Z ⟨Z,Z,Z,Z,trivial⟩ ⟨⟨Z,Z,.inr Z⟩,⟨⟨Z,Z,.inr Z⟩,⟨⟨Z,Z,.inr Z⟩,⟨⟨Z,Z,.inr Z⟩,⟨⟨Z,Z,.inr Z⟩,⟨⟨Z,Z,.inr Z⟩,⟨⟨Z,Z,.inr Z⟩,⟨⟨Z,Z,.inr Z⟩,⟨⟨Z,Z,.inr Z⟩,⟨⟨Z,Z,.inr Z⟩,⟨⟨Z,Z,.inr Z⟩,trivial⟩⟩⟩⟩⟩⟩⟩⟩⟩⟩⟩)))))))))))))) ?_)
   refine mG (dZ (t:=⟨[(0,.ptr 1000000 0),(2,.ptr 2 0),(3,.p (eI r4))],[(2,b9),(1000000,[.p (eS r1.fs),.p (eI r1.fat),.p (eI r1.fi),.p (eI r1.ffrom),.p (eS r1.ftext),.vec 69 11 0 ((r1.fparts++[r12.1]).map aj),.p (eB true)])]⟩) (jK ⟨er Z,er Z,er Z,trivial⟩ ⟨⟨_,Z,⟨sr,sr,sr,trivial⟩⟩,⟨_,Z,⟨sr,sr,sr,sr,sr,AV.sub_of_eq (by first | (simp only [List.map_append,List.map_cons,List.map_nil,ac.agg_eq]; done) | (simp only [List.map_append,List.map_cons,List.map_nil,ac.agg_eq]; rfl)),sr,trivial⟩⟩,trivial⟩)) (nx 5 Z ?_)
   exact oA h0 Z Z λ hk16 h0=>nx 21 Z (mQo (oi h0) (aY (bK 69 800000 Z Z Z Z Z) (au _)) Z Z Z Z (sr) ⟨⟨_,Z,⟨sr,sr,sr,sr,sr,sr,sr,trivial⟩⟩,trivial⟩)
  exact nx 7 Z (mQo (oi h0) (aY (bK 101000 800000 Z Z Z Z Z) (au _)) Z Z Z Z (sr) ⟨⟨_,Z,⟨sr,sr,sr,sr,sr,sr,sr,trivial⟩⟩,trivial⟩)
 ·skip
  refine λ p_0 level_1=>hO good [] [1000000] Tryz.func100 Z Z λ r h0 _ w0 F=>?_
  rw [aO] at h0
  refine nx 10 Z (fD [10] h0 Z (λ c1 h0=>?_) λ c1 h0=>?_)
  ·refine nx 4 Z (bd h0 λ r2 e3 h0=>?_)
   refine mO Z (cVq [1000000] [] 101000 101000 (HO.c e3) Tryz.call139 Z ?_)
   exact nx 3 Z (fC h0 Z)
  refine nx 6 Z (oA h0 Z Z λ hk4 h0=>?_)
  refine bd h0 λ r5 e6 h0=>mO Z (cVq [1000000] [] 102000 102000 (HO.c e6) Tryz.call100 Z ?_)
  refine nx 4 Z ?_
  obtain ⟨o90,h1,hL0,hR0⟩:=dj h0
  refine kEx 0 (λ v91:(List ad)×Int×Int×Int×Int×Int×Bytes=>o90=.inl v91) (λ v91=>⟨[],[(1000000,[.p (eL aU v91.1),.p (eI v91.2.1),.p (eI v91.2.2.1),.p (eI v91.2.2.2.1),.p (eI v91.2.2.2.2.1),.p (eI v91.2.2.2.2.2.1),.p (eS v91.2.2.2.2.2.2)])]⟩) (λ v91 hv=>?_) ?_
  ·have h0:=hL0 _ hv
   refine nx 1 Z ?_
   cases h0
  refine lG (λ (q92:Int×Int×Bytes×Bytes×Int×Int×Bytes×(List ah)×(List Bytes)×(List ac)×(List ad)×Int×Int×Int×Int×Int×Bytes)=>⟨[(0,.ptr 1000000 0),(1,.p (eI level_1)),(4,.ptr 4 0),(5,.ptr 5 0)],[(4,bc),(5,[.p (eI q92.1),.p (eI q92.2.1),.p (eS q92.2.2.1),.p (eS q92.2.2.2.1),.p (eI q92.2.2.2.2.1),.p (eI q92.2.2.2.2.2.1),.p (eS q92.2.2.2.2.2.2.1),.p (eL eO q92.2.2.2.2.2.2.2.1),.p (eL eS q92.2.2.2.2.2.2.2.2.1),.p (eL aj q92.2.2.2.2.2.2.2.2.2.1),.p (eI r5.1.fAt)]),(1000000,[.p (eL aU q92.2.2.2.2.2.2.2.2.2.2.1),.p (eI q92.2.2.2.2.2.2.2.2.2.2.2.1),.p (eI q92.2.2.2.2.2.2.2.2.2.2.2.2.1),.p (eI q92.2.2.2.2.2.2.2.2.2.2.2.2.2.1),.p (eI q92.2.2.2.2.2.2.2.2.2.2.2.2.2.2.1),.p (eI q92.2.2.2.2.2.2.2.2.2.2.2.2.2.2.2.1),.p (eS q92.2.2.2.2.2.2.2.2.2.2.2.2.2.2.2.2)])]⟩) (λ m (q92:Int×Int×Bytes×Bytes×Int×Int×Bytes×(List ah)×(List Bytes)×(List ac)×(List ad)×Int×Int×Int×Int×Int×Bytes)=>bm n (aO n) level_1 r5 m q92.1 q92.2.1 q92.2.2.1 q92.2.2.2.1 q92.2.2.2.2.1 q92.2.2.2.2.2.1 q92.2.2.2.2.2.2.1 q92.2.2.2.2.2.2.2.1 q92.2.2.2.2.2.2.2.2.1 q92.2.2.2.2.2.2.2.2.2.1 q92.2.2.2.2.2.2.2.2.2.2.1 q92.2.2.2.2.2.2.2.2.2.2.2.1 q92.2.2.2.2.2.2.2.2.2.2.2.2.1 q92.2.2.2.2.2.2.2.2.2.2.2.2.2.1 q92.2.2.2.2.2.2.2.2.2.2.2.2.2.2.1 q92.2.2.2.2.2.2.2.2.2.2.2.2.2.2.2.1 q92.2.2.2.2.2.2.2.2.2.2.2.2.2.2.2.2) Y (r5.1.fKind,r5.1.fOp,r5.1.fName,r5.1.fKey,r5.1.fValue.fKind,r5.1.fValue.fNum,r5.1.fValue.fStr,r5.1.fValue.fItems,r5.1.fValue.fKeys,r5.1.fKids,r5.2.fl,r5.2.fat,r5.2.fnest,r5.2.fbase,r5.2.fbad.fKind,r5.2.fbad.fAt,r5.2.fbad.fName) h1 (gE Z Z) ?_
  rintro m ⟨f36,f37,f38,f39,f40,f41,f42,f43,f44,f45,f46,f47,f48,f49,f50,f51,f52⟩ h1
  replace h1:bm n (aO n) level_1 r5 (m+1) f36 f37 f38 f39 f40 f41 f42 f43 f44 f45 f46 f47 f48 f49 f50 f51 f52=some o90:=h1
  rw [bm] at h1
  refine nx 5 Z (bd h1 λ r53 e54 h1=>?_)
  refine oK (HP.c e54) Z ⟨sr,trivial⟩ Tryz.call141 Z (bd h1 λ r55 e56 h1=>?_)
  refine mO Z (cVq [1000000] [] 106000 106000 (HO.c e56) Tryz.call140 Z ?_)
  refine nx 12 Z (fB [25] h1 Z (λ c57 h1=>?_) λ c57 h1=>?_)
  ·exact nx 7 Z (mQo (hR0 _ (oi h1).symm) (au _) Z Z Z Z (sr) ⟨⟨_,Z,⟨sr,sr,sr,sr,sr,sr,sr,trivial⟩⟩,trivial⟩)
  refine nx 5 Z (bd h1 λ r58 e59 h1=>?_)
  refine mO Z (cVq [1000000] [] 107000 107000 (HO.c e59) Tryz.call102 Z ?_)
  refine nx 5 Z (oA h1 Z Z λ hk60 h1=>?_)
  refine bd h1 λ r61 e62 h1=>mO Z (cVq [1000000] [] 108000 108000 (HO.c e62) Tryz.call100 Z ?_)
  refine nx 3 Z (bd h1 λ r63 e64 h1=>?_)
  refine mG (gE (t:=⟨[(0,.ptr 1000000 0),(1,.p (eI level_1)),(4,.ptr 4 0),(5,.ptr 5 0),(6,.p (eS r55.1)),(8,.ptr 8 0)],[(4,bc),(5,[.p (eI f36),.p (eI f37),.p (eS f38),.p (eS f39),.p (eI f40),.p (eI f41),.p (eS f42),.p (eL eO f43),.p (eL eS f44),.p (eL aj f45),.p (eI r5.1.fAt)]),(8,(ac.cs r61.1).map .p),(1000000,(ae.cs r61.2).map .p)]⟩) Z Z) (mSq ⟨1,[8],(λ _=>.none),(λ _=>[(0,.ptr 1000000 0),(1,.p (eI level_1)),(4,.ptr 4 0),(5,.ptr 5 0),(6,.p (eS r55.1)),(8,.ptr 8 0)]),(ob2 ([(4,bc),(5,[.p (eI f36),.p (eI f37),.p (eS f38),.p (eS f39),.p (eI f40),.p (eI f41),.p (eS f42),.p (eL eO f43),.p (eL eS f44),.p (eL aj f45),.p (eI r5.1.fAt)]),(8,((ac.cs r61.1).map .p)),(1000000,((ae.cs r61.2).map .p))]) (5,[.p (eI 7),.p (eI r63),.p (eS ([]:Bytes)),.p (eS ([]:Bytes)),.p (eI 0),.p (eI 0),.p (eS ([]:Bytes)),.p (.val (.slice none 0 0)),.p (.val (.slice none 0 0)),.p (eL aj [(ac.mk f36 f37 f38 f39 (ah.mk f40 f41 f42 f43 f44) f45 r5.1.fAt),r61.1]),.p (eI r5.1.fAt)]))⟩ Z ?_)
  refine dPc (.p (eS r55.1)) Z (aR (λ _=>.p (eI r63)) Z Z Z (gw Z Y) (lt1 Z) (az Z (aB [(33,_)] ⟨.inr ⟨0,_,Z,Z,Z⟩,trivial⟩ (λ sl hsl K hK=>ap Z (ed (HP.c e64) Z Z Z (aN (hsl _ _ Z) cx) ⟨sr,trivial⟩ Tryz.call142 Z hK)) aS)) ?_)
  refine dPc (.p (.agg [eI f36,eI f37,eS f38,eS f39,eI f40,eI f41,eS f42,eL eO f43,eL eS f44,eL aj f45,eI r5.1.fAt])) Z (dPc (.p (.agg (ac.cs r61.1))) Z ?_)
  refine aR (λ _=>.p (eL aj [(ac.mk f36 f37 f38 f39 (ah.mk f40 f41 f42 f43 f44) f45 r5.1.fAt),r61.1])) Z Z Z (gw Z Y) (lt1 Z) (az Z (aB [(35,_),(36,_)] ⟨.inr ⟨2,_,Z,Z,Z⟩,.inr ⟨3,_,Z,Z,Z⟩,trivial⟩ (λ sl hsl K hK=>ap Z (bO aj [(ac.mk f36 f37 f38 f39 (ah.mk f40 f41 f42 f43 f44) f45 r5.1.fAt),r61.1] Z Z Z Z Z Z (fj (hsl _ _ Z) Z (fj (hsl _ _ Z) Z gq)) Z Z Z Z Z Z (by first | rfl | (simp only [List.map_cons,List.map_nil,ac.agg_eq]; done) | (simp only [List.map_cons,List.map_nil,ac.agg_eq]; rfl)) hK)) aS)) (dPc (.ptr 5 10) Z ?_)
  refine dPc (.p (eI r5.1.fAt)) Z (dPc (.p (.agg [eI 7,eI r63,eS ([]:Bytes),eS ([]:Bytes),eI 0,eI 0,eS ([]:Bytes),.val (.slice none 0 0),.val (.slice none 0 0),eL aj [(ac.mk f36 f37 f38 f39 (ah.mk f40 f41 f42 f43 f44) f45 r5.1.fAt),r61.1],eI r5.1.fAt])) Z ?_)
  refine dS Z (cY ?_)
  exact nx 1 Z (eX (7,r63,([]:Bytes),([]:Bytes),0,0,([]:Bytes),[],[],[(ac.mk f36 f37 f38 f39 (ah.mk f40 f41 f42 f43 f44) f45 r5.1.fAt),r61.1],r61.2.fl,r61.2.fat,r61.2.fnest,r61.2.fbase,r61.2.fbad.fKind,r61.2.fbad.fAt,r61.2.fbad.fName) h1 (dZ (jK ⟨er Z,er Z,er Z,er Z,trivial⟩ ⟨⟨_,Z,⟨sr,sr,sr,sr,sr,sr,sr,sr,sr,sr,sr,trivial⟩⟩,⟨_,Z,⟨sr,sr,sr,sr,sr,sr,sr,fQ _,fQ _,sr,sr,trivial⟩⟩,⟨_,Z,⟨sr,sr,sr,sr,sr,sr,sr,trivial⟩⟩,trivial⟩)))
 ·skip
  refine λ p_0=>hO good [] [1000000] Tryz.func139 Z Z λ r h0 _ w0 F=>?_
  rw [b8] at h0
  refine nx 9 Z (bd h0 λ o23 h1 h0=>?_)
  refine kN o23 (λ v24=>⟨[(0,.ptr 1000000 0),(2,.ptr 2 0),(3,.p (eI v24.1))],[(2,bc),(1000000,[.p (eL aU v24.2.1),.p (eI v24.2.2.1),.p (eI v24.2.2.2.1),.p (eI v24.2.2.2.2.1),.p (eI v24.2.2.2.2.2.1),.p (eI v24.2.2.2.2.2.2.1),.p (eS v24.2.2.2.2.2.2.2)])]⟩) ?_ ?_
  ·refine nx 7 Z (fD [10] h0 Z (λ c15 h0=>?_) λ c15 h0=>?_)
   ·refine nx 4 Z (bd h0 λ r16 e17 h0=>?_)
    refine mO Z (cVq [1000000] [] 103000 103000 (HO.c e17) Tryz.call166 Z ?_)
    exact nx 3 Z (fC h0 Z)
   refine nx 5 Z (bd h0 λ r18 e19 h0=>?_)
   refine mO Z (cVq [1000000] [] 104000 104000 (HO.c e19) Tryz.call102 Z ?_)
   refine nx 4 Z (bd h0 λ r20 e21 h0=>?_)
   refine mG (gE (t:=⟨[(0,.ptr 1000000 0),(2,.ptr 2 0),(3,.p (eI o23.1)),(4,.ptr 4 0)],[(2,bc),(4,(ad.cs r18.1).map .p),(1000000,(ae.cs r18.2).map .p)]⟩) Z Z) (mSq ⟨2,[2,7],(by3 (.some (cK [] 105000 105000)) .none .none),(λ _=>[(0,.ptr 1000000 0),(2,.ptr 2 0),(3,.p (eI o23.1)),(4,.ptr 4 0)]),(by3 ([(2,bc),(4,((ad.cs r18.1).map .p)),(1000000,((ae.cs r18.2).map .p))]) ([(1000000,((ae.cs r20.2).map .p)),(2,bc),(4,((ad.cs r18.1).map .p))]) ([(2,[.p (eI 6),.p (eI o23.1),.p (eS ([]:Bytes)),.p (eS ([]:Bytes)),.p (eI 0),.p (eI 0),.p (eS ([]:Bytes)),.p (.val (.slice none 0 0)),.p (.val (.slice none 0 0)),.p (eL aj [r20.1]),.p (eI r18.1.fAt)]),(1000000,((ae.cs r20.2).map .p)),(2,bc),(4,((ad.cs r18.1).map .p))]))⟩ Z ?_)
   refine dPc (.p (eI o23.1)) Z (dPc (.ptr 1000000 0) Z ?_)
   refine eQ (λ _=>.p (.agg (ac.cs r20.1))) [(16,_)] Z ⟨.inr ⟨1,_,Z,Z,Z⟩,trivial⟩ Z Z (gw Z Y) (lt2 (λ h=>absurd h (by decide)) Y) (λ sl hsl K hK=>ap Z (bq [1000000] [] 105000 105000 (HO.c e21) Z Z Z (aN (hsl _ _ Z) cx) Z ⟨sr,trivial⟩ Z Z ⟨⟨_,Z,⟨sr,sr,sr,sr,sr,sr,sr,trivial⟩⟩,trivial⟩ Z Z Z Z Z Z Z Z Tryz.call139 Z Z hK)) (aR (λ _=>.p (eL aj [r20.1])) Z Z Z (nC Z Z Y) (lt2 Z Z) (az Z (aB [(17,_)] ⟨.inr ⟨2,_,Z,Z,Z⟩,trivial⟩ (λ sl hsl K hK=>ap Z (bO aj [r20.1] Z Z Z Z Z Z (fj (hsl _ _ Z) Z gq) Z Z Z Z Z Z (by first | rfl | (simp only [List.map_cons,List.map_nil,ac.agg_eq]; done) | (simp only [List.map_cons,List.map_nil,ac.agg_eq]; rfl)) hK)) (az Z aS))) ?_)
   refine dPc (.ptr 4 2) Z (dPc (.p (eI r18.1.fAt)) Z ?_)
   refine dPc (.p (.agg [eI 6,eI o23.1,eS ([]:Bytes),eS ([]:Bytes),eI 0,eI 0,eS ([]:Bytes),.val (.slice none 0 0),.val (.slice none 0 0),eL aj [r20.1],eI r18.1.fAt])) Z (dS Z ?_)
   refine cY (nx 2 Z ?_)
   exact mQo (oi h0) (au _) Z Z Z Z (cR ⟨.inl Z,.inl Z,.inl Z,.inl Z,.inl Z,.inl Z,.inl Z,.inr ⟨Z,Z⟩,.inr ⟨Z,Z⟩,.inl Z,.inl Z,trivial⟩) ⟨⟨_,Z,⟨sr,sr,sr,sr,sr,sr,sr,trivial⟩⟩,trivial⟩
  refine nx 3 Z (bd h1 λ r1 e2 h1=>?_)
  refine mO Z (cVq [1000000] [] 101000 101000 (HO.c e2) Tryz.call101 Z ?_)
  refine nx 1 Z (fB [6] h1 Z (λ c3 h1=>?_) λ c3 h1=>?_)
  ·exact nx 4 Z (eX _ (oi h1).symm (gE Z Z))
  refine nx 4 Z (bd h1 λ r4 e5 h1=>?_)
  refine mO Z (cVq [1000000] [] 102000 102000 (HO.c e5) Tryz.call101 Z ?_)
  refine nx 1 Z (fB [8] h1 Z (λ c6 h1=>?_) λ c6 h1=>?_)
  ·exact nx 4 Z (eX _ (oi h1).symm (gE Z Z))
  exact nx 2 Z (eX _ (oi h1).symm (gE Z Z))
 ·skip
  refine λ p_0=>hO good [] [1000000] Tryz.func166 Z Z λ r h0 _ w0 F=>?_
  rw [cj] at h0
  refine nx 7 Z (bd h0 λ r1 e2 h0=>?_)
  refine mO Z (cVq [1000000] [] 101000 101000 (HO.c e2) Tryz.call184 Z ?_)
  refine nx 4 Z ?_
  obtain ⟨o125,h1,hL0,hR0⟩:=dj h0
  refine kEx 0 (λ v126:(List ad)×Int×Int×Int×Int×Int×Bytes=>o125=.inl v126) (λ v126=>⟨[],[(1000000,[.p (eL aU v126.1),.p (eI v126.2.1),.p (eI v126.2.2.1),.p (eI v126.2.2.2.1),.p (eI v126.2.2.2.2.1),.p (eI v126.2.2.2.2.2.1),.p (eS v126.2.2.2.2.2.2)])]⟩) (λ v126 hv=>?_) ?_
  ·have h0:=hL0 _ hv
   refine nx 1 Z ?_
   cases h0
  refine lG (λ (q127:Int×Int×Bytes×Bytes×Int×Int×Bytes×(List ah)×(List Bytes)×(List ac)×(List ad)×Int×Int×Int×Int×Int×Bytes)=>⟨[(0,.ptr 1000000 0),(2,.ptr 2 0),(3,.ptr 3 0)],[(2,bc),(3,[.p (eI q127.1),.p (eI q127.2.1),.p (eS q127.2.2.1),.p (eS q127.2.2.2.1),.p (eI q127.2.2.2.2.1),.p (eI q127.2.2.2.2.2.1),.p (eS q127.2.2.2.2.2.2.1),.p (eL eO q127.2.2.2.2.2.2.2.1),.p (eL eS q127.2.2.2.2.2.2.2.2.1),.p (eL aj q127.2.2.2.2.2.2.2.2.2.1),.p (eI r1.1.fAt)]),(1000000,[.p (eL aU q127.2.2.2.2.2.2.2.2.2.2.1),.p (eI q127.2.2.2.2.2.2.2.2.2.2.2.1),.p (eI q127.2.2.2.2.2.2.2.2.2.2.2.2.1),.p (eI q127.2.2.2.2.2.2.2.2.2.2.2.2.2.1),.p (eI q127.2.2.2.2.2.2.2.2.2.2.2.2.2.2.1),.p (eI q127.2.2.2.2.2.2.2.2.2.2.2.2.2.2.2.1),.p (eS q127.2.2.2.2.2.2.2.2.2.2.2.2.2.2.2.2)])]⟩) (λ m (q127:Int×Int×Bytes×Bytes×Int×Int×Bytes×(List ah)×(List Bytes)×(List ac)×(List ad)×Int×Int×Int×Int×Int×Bytes)=>bg n (ay n) r1 m q127.1 q127.2.1 q127.2.2.1 q127.2.2.2.1 q127.2.2.2.2.1 q127.2.2.2.2.2.1 q127.2.2.2.2.2.2.1 q127.2.2.2.2.2.2.2.1 q127.2.2.2.2.2.2.2.2.1 q127.2.2.2.2.2.2.2.2.2.1 q127.2.2.2.2.2.2.2.2.2.2.1 q127.2.2.2.2.2.2.2.2.2.2.2.1 q127.2.2.2.2.2.2.2.2.2.2.2.2.1 q127.2.2.2.2.2.2.2.2.2.2.2.2.2.1 q127.2.2.2.2.2.2.2.2.2.2.2.2.2.2.1 q127.2.2.2.2.2.2.2.2.2.2.2.2.2.2.2.1 q127.2.2.2.2.2.2.2.2.2.2.2.2.2.2.2.2) Y (r1.1.fKind,r1.1.fOp,r1.1.fName,r1.1.fKey,r1.1.fValue.fKind,r1.1.fValue.fNum,r1.1.fValue.fStr,r1.1.fValue.fItems,r1.1.fValue.fKeys,r1.1.fKids,r1.2.fl,r1.2.fat,r1.2.fnest,r1.2.fbase,r1.2.fbad.fKind,r1.2.fbad.fAt,r1.2.fbad.fName) h1 (gE Z Z) ?_
  rintro m ⟨f51,f52,f53,f54,f55,f56,f57,f58,f59,f60,f61,f62,f63,f64,f65,f66,f67⟩ h1
  replace h1:bg n (ay n) r1 (m+1) f51 f52 f53 f54 f55 f56 f57 f58 f59 f60 f61 f62 f63 f64 f65 f66 f67=some o125:=h1
  rw [bg] at h1
  refine nx 1 Z ?_
  obtain ⟨o128,h2,hL1,hR1⟩:=dj h1
  refine kX (λ v129:Int×Bytes×(List ac)×(List ad)×Int×Int×Int×Int×Int×Bytes=>o128=.inl v129) (λ v129=>⟨[(0,.ptr 1000000 0),(2,.ptr 2 0),(3,.ptr 3 0)],[(2,bc),(3,[.p (eI v129.1),.p (eI 0),.p (eS v129.2.1),.p (eS ([]:Bytes)),.p (eI 0),.p (eI 0),.p (eS ([]:Bytes)),.p (.val (.slice none 0 0)),.p (.val (.slice none 0 0)),.p (eL aj v129.2.2.1),.p (eI r1.1.fAt)]),(1000000,[.p (eL aU v129.2.2.2.1),.p (eI v129.2.2.2.2.1),.p (eI v129.2.2.2.2.2.1),.p (eI v129.2.2.2.2.2.2.1),.p (eI v129.2.2.2.2.2.2.2.1),.p (eI v129.2.2.2.2.2.2.2.2.1),.p (eS v129.2.2.2.2.2.2.2.2.2)])]⟩) (λ v129 hv=>?_) ?_
  ·have h1:=hL1 _ hv
   exact nx 1 Z (eX (v129.1,0,v129.2.1,([]:Bytes),0,0,([]:Bytes),[],[],v129.2.2.1,v129.2.2.2.1,v129.2.2.2.2.1,v129.2.2.2.2.2.1,v129.2.2.2.2.2.2.1,v129.2.2.2.2.2.2.2.1,v129.2.2.2.2.2.2.2.2.1,v129.2.2.2.2.2.2.2.2.2) h1 (dZ (jK ⟨er Z,er Z,er Z,trivial⟩ ⟨⟨_,Z,⟨sr,sr,sr,sr,sr,sr,sr,sr,sr,sr,sr,trivial⟩⟩,⟨_,Z,⟨sr,sr,sr,sr,sr,sr,sr,fQ _,fQ _,sr,sr,trivial⟩⟩,⟨_,Z,⟨sr,sr,sr,sr,sr,sr,sr,trivial⟩⟩,trivial⟩)))
  refine nx 4 Z (bd h2 λ r68 e69 h2=>?_)
  refine mO Z (cVq [1000000] [] 111000 111000 (HO.c e69) Tryz.call101 Z ?_)
  refine nx 2 Z (fB [9,11] h2 Z (λ c70 h2=>?_) λ c70 h2=>?_)
  ·refine nx 4 Z (bd h2 λ r71 e72 h2=>?_)
   refine mO Z (cVq [1000000] [] 112000 112000 (HO.c e72) Tryz.call102 Z ?_)
   refine nx 4 Z (bd h2 λ r73 e74 h2=>?_)
   refine mO Z (cVq [1000000] [] 113000 113000 (HO.c e74) Tryz.call70 Z ?_)
   refine nx 10 Z (fN [18] h2 Z (λ c75 h2=>?_) λ c75 h2=>?_)
   ·refine nx 5 Z (bd h2 λ r78 e79 h2=>?_)
    refine mO Z (cVq [1000000] [] 115000 115000 (HO.c e79) Tryz.call102 Z ?_)
    refine nx 5 Z (mO Z (bO aj [(ac.mk f51 f52 f53 f54 (ah.mk f55 f56 f57 f58 f59) f60 r1.1.fAt)] Z Z Z Z Z Z Z Z Z Z Z Z Z (by first | rfl | (simp only [List.map_cons,List.map_nil,ac.agg_eq]; done) | (simp only [List.map_cons,List.map_nil,ac.agg_eq]; rfl)) ?_))
    exact nx 5 Z (eX _ (oi h2).symm (gE Z Z))
   refine nx 6 Z (bd h2 λ r76 e77 h2=>?_)
   refine mO Z (cVq [1000000] [] 114000 114000 (HO.c e77) Tryz.call71 Z ?_)
   exact nx 3 Z (mQo (hR0 _ (hR1 _ (oi h2).symm).symm) (au _) Z Z Z Z (sr) ⟨⟨_,Z,⟨sr,sr,sr,sr,sr,sr,sr,trivial⟩⟩,trivial⟩)
  refine nx 4 Z (bd h2 λ r80 e81 h2=>?_)
  refine mO Z (cVq [1000000] [] 116000 116000 (HO.c e81) Tryz.call101 Z ?_)
  refine nx 2 Z (fB [32,34] h2 Z (λ c82 h2=>?_) λ c82 h2=>?_)
  ·refine nx 4 Z (bd h2 λ r83 e84 h2=>?_)
   refine mO Z (cVq [1000000] [] 117000 117000 (HO.c e84) Tryz.call185 Z ?_)
   refine nx 4 Z (bd h2 λ r85 e86 h2=>?_)
   refine mO Z (cVq [1000000] [] 118000 118000 (HO.c e86) Tryz.call65 Z ?_)
   refine nx 6 Z (bd h2 λ r87 e88 h2=>?_)
   refine mO Z (cVq [1000000] [] 119000 119000 (HO.c e88) Tryz.call186 Z ?_)
   refine nx 4 Z (mO Z (bO aj [(ac.mk f51 f52 f53 f54 (ah.mk f55 f56 f57 f58 f59) f60 r1.1.fAt),r85.1] Z Z Z Z Z Z Z Z Z Z Z Z Z (by first | rfl | (simp only [List.map_cons,List.map_nil,ac.agg_eq]; done) | (simp only [List.map_cons,List.map_nil,ac.agg_eq]; rfl)) ?_))
   exact nx 5 Z (eX _ (oi h2).symm (gE Z Z))
  exact nx 7 Z (mQo (hR0 _ (hR1 _ (oi h2).symm).symm) (au _) Z Z Z Z (sr) ⟨⟨_,Z,⟨sr,sr,sr,sr,sr,sr,sr,trivial⟩⟩,trivial⟩)
 ·skip
  refine λ p_0=>hO good [] [1000000] Tryz.func184 Z Z λ r h0 _ w0 F=>?_
  rw [bV] at h0
  refine nx 8 Z (bd h0 λ r1 e2 h0=>?_)
  refine mO Z (cVq [1000000] [] 101000 101000 (HO.c e2) Tryz.call121 Z ?_)
  refine nx 1 Z (fB [7] h0 Z (λ c3 h0=>?_) λ c3 h0=>?_)
  ·exact nx 7 Z (mQo (oi h0) (au _) Z Z Z Z (cR ⟨.inl Z,.inl Z,.inl Z,.inl Z,.inl Z,.inl Z,.inl Z,.inr ⟨Z,Z⟩,.inr ⟨Z,Z⟩,.inr ⟨Z,Z⟩,.inl Z,trivial⟩) ⟨⟨_,Z,⟨sr,sr,sr,sr,sr,sr,sr,trivial⟩⟩,trivial⟩)
  refine nx 5 Z (bd h0 λ r4 e5 h0=>?_)
  refine mO Z (cVq [1000000] [] 102000 102000 (HO.c e5) Tryz.call70 Z ?_)
  refine nx 14 Z (fD [17,18] h0 Z (λ c6 h0=>?_) λ c6 h0=>?_)
  ·refine nx 5 Z (bd h0 λ r7 e8 h0=>?_)
   refine oK (HP.c e8) Z ⟨sr,trivial⟩ Tryz.call196 Z (nx 12 Z ?_)
   refine fN [26] h0 Z (λ c9 h0=>?_) λ c9 h0=>?_
   ·refine nx 5 Z (bd h0 λ r12 e13 h0=>?_)
    refine mO Z (cVq [1000000] [] 104000 104000 (HO.c e13) Tryz.call102 Z ?_)
    refine nx 7 Z (bd h0 λ r14 e15 h0=>?_)
    refine oK (HP.c e15) Z ⟨cR ⟨.inl Z,.inl Z,.inl Z,.inr ⟨Z,Z⟩,.inr ⟨Z,Z⟩,trivial⟩,sr,trivial⟩ Tryz.call39 Z (nx 2 Z ?_)
    refine mG (gE (t:=⟨[(2,.ptr 2 0)],[(2,(ac.cs r14).map .p),(1000000,(ae.cs r12.2).map .p)]⟩) Z Z) (nx 1 Z ?_)
    exact fC h0 Z
   refine nx 7 Z (bd h0 λ r10 e11 h0=>?_)
   refine mO Z (cVq [1000000] [] 103000 103000 (HO.c e11) Tryz.call71 Z ?_)
   refine nx 2 Z (mG (gE (t:=⟨[(2,.ptr 2 0)],[(2,(ac.cs r10.1).map .p),(1000000,(ae.cs r10.2).map .p)]⟩) Z Z) ?_)
   exact nx 1 Z (fC h0 Z)
  refine nx 6 Z (fD [39,40] h0 Z (λ c16 h0=>?_) λ c16 h0=>?_)
  ·refine nx 4 Z (bd h0 λ r17 e18 h0=>?_)
   refine mO Z (cVq [1000000] [] 105000 105000 (HO.c e18) Tryz.call197 Z ?_)
   exact nx 3 Z (fC h0 Z)
  refine nx 6 Z (fD [43,44] h0 Z (λ c19 h0=>?_) λ c19 h0=>?_)
  ·refine nx 4 Z (bd h0 λ r20 e21 h0=>?_)
   refine mO Z (cVq [1000000] [] 106000 106000 (HO.c e21) Tryz.call198 Z ?_)
   exact nx 3 Z (fC h0 Z)
  refine nx 6 Z (fD [47,48] h0 Z (λ c22 h0=>?_) λ c22 h0=>?_)
  ·refine nx 4 Z (bd h0 λ r23 e24 h0=>?_)
   refine mO Z (cVq [1000000] [] 107000 107000 (HO.c e24) Tryz.call199 Z ?_)
   exact nx 3 Z (fC h0 Z)
  refine nx 6 Z (bd h0 λ r25 e26 h0=>?_)
  refine mO Z (cVq [1000000] [] 108000 108000 (HO.c e26) Tryz.call71 Z ?_)
  exact nx 3 Z (fC h0 Z)
 ·skip
  refine λ p_0=>hO good [] [1000000] Tryz.func197 Z Z λ r h0 _ w0 F=>?_
  rw [cP] at h0
  refine nx 7 Z (bd h0 λ r1 e2 h0=>?_)
  refine mO Z (cVq [1000000] [] 101000 101000 (HO.c e2) Tryz.call70 Z ?_)
  refine nx 9 Z (oA h0 Z Z λ hk3 h0=>?_)
  refine bd h0 λ r4 e5 h0=>oK (HP.c e5) Z ⟨sr,sr,trivial⟩ Tryz.call19 Z (nx 15 Z ?_)
  refine fN [19] h0 Z (λ c6 h0=>?_) λ c6 h0=>?_
  ·refine nx 5 Z (bd h0 λ r9 e10 h0=>?_)
   refine mO Z (cVq [1000000] [] 103000 103000 (HO.c e10) Tryz.call102 Z ?_)
   exact nx 14 Z (fC h0 Z)
  refine nx 8 Z (bd h0 λ r7 e8 h0=>?_)
  refine mO Z (cVq [1000000] [] 102000 102000 (HO.c e8) Tryz.call71 Z ?_)
  exact nx 3 Z (fC h0 Z)
 ·skip
  refine λ p_0=>hO good [] [1000000] Tryz.func198 Z Z λ r h0 _ w0 F=>?_
  rw [dk] at h0
  refine nx 7 Z (bd h0 λ r1 e2 h0=>?_)
  refine mO Z (cVq [1000000] [] 101000 101000 (HO.c e2) Tryz.call70 Z ?_)
  refine nx 12 Z (oS Z Z ?_)
  refine nx 2 Z (fD [10,11] h0 Z (λ c3 h0=>?_) λ c3 h0=>?_)
  ·refine nx 4 Z (bd h0 λ r4 e5 h0=>?_)
   refine mO Z (cVq [1000000] [] 102000 102000 (HO.c e5) Tryz.call102 Z ?_)
   refine nx 6 Z (bd h0 λ r6 e7 h0=>?_)
   refine oK (HP.c e7) Z ⟨cR ⟨.inl Z,.inl Z,.inl Z,.inr ⟨Z,Z⟩,.inr ⟨Z,Z⟩,trivial⟩,sr,trivial⟩ Tryz.call39 Z (nx 3 Z ?_)
   exact fC h0 Z
  refine nx 2 Z (bd h0 λ o35 h1 h0=>?_)
  refine kN o35 (λ v36=>⟨[(0,.ptr 1000000 0),(2,.ptr 2 0),(3,.ptr 3 0),(18,.p (eB v36))],[(2,bc),(3,(ad.cs r1.1).map .p),(1000000,(ae.cs r1.2).map .p)]⟩) ?_ ?_
  ·refine nx 1 Z (fB [18] h0 Z (λ c10 h0=>?_) λ c10 h0=>?_)
   ·refine nx 4 Z (bd h0 λ r11 e12 h0=>?_)
    refine mO Z (cVq [1000000] [] 103000 103000 (HO.c e12) Tryz.call102 Z ?_)
    refine nx 8 Z (bd h0 λ o37 h1 h0=>?_)
    refine kN o37 (λ v38=>⟨[(2,.ptr 2 0),(3,.ptr 3 0),(4,.ptr 4 0)],[(2,bc),(3,(ad.cs r1.1).map .p),(4,[.p (eI 1),.p (eI v38),.p (eS ([]:Bytes)),.p (.val (.slice none 0 0)),.p (.val (.slice none 0 0))]),(1000000,(ae.cs r11.2).map .p)]⟩) ?_ ?_
    ·refine nx 6 Z (bd h0 λ r15 e16 h0=>?_)
     refine oK (HP.c e16) Z ⟨cR ⟨.inl Z,.inl Z,.inl Z,.inr ⟨Z,Z⟩,.inr ⟨Z,Z⟩,trivial⟩,sr,trivial⟩ Tryz.call39 Z (nx 3 Z ?_)
     exact fC h0 Z
    refine nx 4 Z (oS Z Z ?_)
    refine nx 1 Z (fD [26] h1 Z (λ c13 h1=>?_) λ c13 h1=>?_)
    ·exact nx 5 Z (eX _ (oi h1).symm (gE Z Z))
    exact nx 2 Z (eX _ (oi h1).symm (gE Z Z))
   refine nx 7 Z (bd h0 λ r17 e18 h0=>?_)
   refine oK (HP.c e18) Z ⟨sr,trivial⟩ Tryz.call114 Z (nx 1 Z ?_)
   refine fB [34] h0 Z (λ c19 h0=>?_) λ c19 h0=>?_
   ·refine nx 6 Z (bd h0 λ r20 e21 h0=>?_)
    refine mO Z (cVq [1000000] [] 104000 104000 (HO.c e21) Tryz.call71 Z ?_)
    exact nx 3 Z (fC h0 Z)
   refine nx 5 Z (bd h0 λ r22 e23 h0=>?_)
   refine mO Z (cVq [1000000] [] 105000 105000 (HO.c e23) Tryz.call102 Z ?_)
   refine nx 5 Z (bd h0 λ r24 e25 h0=>?_)
   refine mO Z (cVq [1000000] [] 106000 106000 (HO.c e25) Tryz.call101 Z ?_)
   refine nx 2 Z (fB [43] h0 Z (λ c26 h0=>?_) λ c26 h0=>?_)
   ·exact nx 11 Z (mQo (oi h0) (au _) Z Z Z Z (cR ⟨.inl Z,.inl Z,.inl Z,.inl Z,.inl Z,.inl Z,.inl Z,.inr ⟨Z,Z⟩,.inr ⟨Z,Z⟩,.inr ⟨Z,Z⟩,.inl Z,trivial⟩) ⟨⟨_,Z,⟨sr,sr,sr,sr,sr,sr,sr,trivial⟩⟩,trivial⟩)
   refine nx 5 Z (bd h0 λ r27 e28 h0=>?_)
   refine mO Z (cVq [1000000] [] 107000 107000 (HO.c e28) Tryz.call185 Z ?_)
   refine nx 4 Z (bd h0 λ r29 e30 h0=>?_)
   refine mO Z (cVq [1000000] [] 108000 108000 (HO.c e30) Tryz.call210 Z ?_)
   refine nx 5 Z (bd h0 λ r31 e32 h0=>?_)
   refine mO Z (cVq [1000000] [] 109000 109000 (HO.c e32) Tryz.call186 Z ?_)
   exact nx 12 Z (mQo (oi h0) (au _) Z Z Z Z (cR ⟨.inl Z,.inl Z,.inl Z,.inl Z,.inl Z,.inl Z,.inl Z,.inr ⟨Z,Z⟩,.inr ⟨Z,Z⟩,.inl Z,.inl Z,trivial⟩) ⟨⟨_,Z,⟨sr,sr,sr,sr,sr,sr,sr,trivial⟩⟩,trivial⟩)
  refine nx 2 Z (oS Z Z ?_)
  refine nx 2 Z (fD [18,19] h1 Z (λ c8 h1=>?_) λ c8 h1=>?_)
  ·exact nx 2 Z (eX _ (oi h1).symm (gE Z Z))
  refine nx 2 Z (oS Z Z ?_)
  exact nx 2 Z (eX _ (oi h1).symm (gE Z Z))
 ·skip
  refine λ p_0=>hO good [] [1000000] Tryz.func199 Z Z λ r h0 _ w0 F=>?_
  rw [da] at h0
  refine nx 7 Z (bd h0 λ r1 e2 h0=>?_)
  refine mO Z (cVq [1000000] [] 101000 101000 (HO.c e2) Tryz.call70 Z ?_)
  refine nx 12 Z (oS Z Z ?_)
  refine nx 2 Z (fD [11,12] h0 Z (λ c3 h0=>?_) λ c3 h0=>?_)
  ·refine nx 4 Z (bd h0 λ r4 e5 h0=>?_)
   refine mO Z (cVq [1000000] [] 102000 102000 (HO.c e5) Tryz.call185 Z ?_)
   refine nx 4 Z (bd h0 λ r6 e7 h0=>?_)
   refine mO Z (cVq [1000000] [] 103000 103000 (HO.c e7) Tryz.call65 Z ?_)
   refine nx 6 Z (bd h0 λ r8 e9 h0=>?_)
   refine mO Z (cVq [1000000] [] 104000 104000 (HO.c e9) Tryz.call186 Z ?_)
   exact nx 7 Z (fC h0 Z)
  refine nx 3 Z (oS Z Z ?_)
  refine nx 2 Z (fD [20,21] h0 Z (λ c10 h0=>?_) λ c10 h0=>?_)
  ·refine nx 4 Z (bd h0 λ r11 e12 h0=>?_)
   refine mO Z (cVq [1000000] [] 105000 105000 (HO.c e12) Tryz.call185 Z ?_)
   refine nx 5 Z (bd h0 λ r13 e14 h0=>?_)
   refine mO Z (cVq [1000000] [] 106000 106000 (HO.c e14) Tryz.call211 Z ?_)
   refine nx 1 Z (fB [25] h0 Z (λ c15 h0=>?_) λ c15 h0=>?_)
   ·refine nx 6 Z (bd h0 λ r16 e17 h0=>?_)
    refine mO Z (cVq [1000000] [] 107000 107000 (HO.c e17) Tryz.call212 Z ?_)
    exact nx 3 Z (fC h0 Z)
   refine nx 5 Z (bd h0 λ r18 e19 h0=>?_)
   refine mO Z (cVq [1000000] [] 108000 108000 (HO.c e19) Tryz.call210 Z ?_)
   refine nx 5 Z (bd h0 λ r20 e21 h0=>?_)
   refine mO Z (cVq [1000000] [] 109000 109000 (HO.c e21) Tryz.call186 Z ?_)
   exact nx 10 Z (mQo (oi h0) (au _) Z Z Z Z (cR ⟨.inl Z,.inl Z,.inl Z,.inl Z,.inl Z,.inl Z,.inl Z,.inr ⟨Z,Z⟩,.inr ⟨Z,Z⟩,.inl Z,.inl Z,trivial⟩) ⟨⟨_,Z,⟨sr,sr,sr,sr,sr,sr,sr,trivial⟩⟩,trivial⟩)
  refine nx 3 Z (oS Z Z ?_)
  refine nx 2 Z (fD [38,39] h0 Z (λ c22 h0=>?_) λ c22 h0=>?_)
  ·refine nx 4 Z (bd h0 λ r23 e24 h0=>?_)
   refine mO Z (cVq [1000000] [] 110000 110000 (HO.c e24) Tryz.call185 Z ?_)
   refine nx 5 Z (bd h0 λ r25 e26 h0=>?_)
   refine mO Z (cVq [1000000] [] 111000 111000 (HO.c e26) Tryz.call211 Z ?_)
   refine nx 1 Z (fB [43] h0 Z (λ c27 h0=>?_) λ c27 h0=>?_)
   ·refine nx 6 Z (bd h0 λ r28 e29 h0=>?_)
    refine mO Z (cVq [1000000] [] 112000 112000 (HO.c e29) Tryz.call212 Z ?_)
    exact nx 3 Z (fC h0 Z)
   refine nx 5 Z (bd h0 λ r30 e31 h0=>?_)
   refine mO Z (cVq [1000000] [] 113000 113000 (HO.c e31) Tryz.call213 Z ?_)
   refine nx 5 Z (bd h0 λ r32 e33 h0=>?_)
   refine mO Z (cVq [1000000] [] 114000 114000 (HO.c e33) Tryz.call186 Z ?_)
   refine nx 9 Z (mG (gE (t:=⟨[(2,.ptr 2 0)],[(2,[.p (eI 11),.p (eI 0),.p (eS ([]:Bytes)),.p (eS ([]:Bytes)),.p (eI 0),.p (eI 0),.p (eS ([]:Bytes)),.p (.val (.slice none 0 0)),.p (.val (.slice none 0 0)),.p (eL aj r30.1),.p (eI r1.1.fAt)]),(1000000,(ae.cs r32).map .p)]⟩) Z Z) ?_)
   exact nx 1 Z (mQo (oi h0) (au _) Z Z Z Z (cR ⟨.inl Z,.inl Z,.inl Z,.inl Z,.inl Z,.inl Z,.inl Z,.inr ⟨Z,Z⟩,.inr ⟨Z,Z⟩,.inl Z,.inl Z,trivial⟩) ⟨⟨_,Z,⟨sr,sr,sr,sr,sr,sr,sr,trivial⟩⟩,trivial⟩)
  refine nx 7 Z (bd h0 λ r34 e35 h0=>?_)
  refine mO Z (cVq [1000000] [] 115000 115000 (HO.c e35) Tryz.call71 Z ?_)
  exact nx 3 Z (fC h0 Z)
 ·skip
  refine λ p_0 end_1=>hO good [] [1000000] Tryz.func210 Z Z λ r h0 _ w0 F=>?_
  rw [dm] at h0
  refine nx 10 Z (bd h0 λ o79 h1 h0=>?_)
  refine kE 0 o79 (λ v80=>⟨[(5,.vec 19 11 0 (v80.1.map aj))],[(1000000,[.p (eL aU v80.2.1),.p (eI v80.2.2.1),.p (eI v80.2.2.2.1),.p (eI v80.2.2.2.2.1),.p (eI v80.2.2.2.2.2.1),.p (eI v80.2.2.2.2.2.2.1),.p (eS v80.2.2.2.2.2.2.2)])]⟩) ?_ ?_
  ·exact nx 7 Z (fC h0 Z)
  refine lG (λ (q81:(List ac)×(List ad)×Int×Int×Int×Int×Int×Bytes)=>⟨[(0,.ptr 1000000 0),(1,.p (eS end_1)),(5,.vec 19 11 0 (q81.1.map aj))],[(1000000,[.p (eL aU q81.2.1),.p (eI q81.2.2.1),.p (eI q81.2.2.2.1),.p (eI q81.2.2.2.2.1),.p (eI q81.2.2.2.2.2.1),.p (eI q81.2.2.2.2.2.2.1),.p (eS q81.2.2.2.2.2.2.2)])]⟩) (λ m (q81:(List ac)×(List ad)×Int×Int×Int×Int×Int×Bytes)=>bW n (ay n) end_1 m q81.1 q81.2.1 q81.2.2.1 q81.2.2.2.1 q81.2.2.2.2.1 q81.2.2.2.2.2.1 q81.2.2.2.2.2.2.1 q81.2.2.2.2.2.2.2) Y ([],p_0.fl,p_0.fat,p_0.fnest,p_0.fbase,p_0.fbad.fKind,p_0.fbad.fAt,p_0.fbad.fName) h1 (dZ (jK ⟨er Z,er Z,⟨_,Z,AV.sub_nilvec _ _ _⟩,trivial⟩ ⟨⟨_,Z,⟨sr,sr,sr,sr,sr,sr,sr,trivial⟩⟩,trivial⟩)) ?_
  rintro m ⟨out31,f32,f33,f34,f35,f36,f37,f38⟩ h1
  replace h1:bW n (ay n) end_1 (m+1) out31 f32 f33 f34 f35 f36 f37 f38=some o79:=h1
  rw [bW] at h1
  refine nx 2 Z (bd h1 λ o82 h2 h1=>?_)
  refine kN o82 (λ v83=>⟨[(0,.ptr 1000000 0),(1,.p (eS end_1)),(5,.vec 19 11 0 (out31.map aj)),(14,.p (eB v83.1))],[(1000000,[.p (eL aU v83.2.1),.p (eI v83.2.2.1),.p (eI v83.2.2.2.1),.p (eI v83.2.2.2.2.1),.p (eI v83.2.2.2.2.2.1),.p (eI v83.2.2.2.2.2.2.1),.p (eS v83.2.2.2.2.2.2.2)])]⟩) ?_ ?_
  ·refine nx 1 Z (fB [14] h1 Z (λ c52 h1=>?_) λ c52 h1=>?_)
   ·refine nx 7 Z (bd h1 λ r53 e54 h1=>?_)
    refine mO Z (cVq [1000000] [] 108000 108000 (HO.c e54) Tryz.call65 Z ?_)
    refine mO Z (bO aj [r53.1] Z Z Z Z Z Z Z Z Z Z Z Z Z (by first | rfl | (simp only [List.map_cons,List.map_nil,ac.agg_eq]; done) | (simp only [List.map_cons,List.map_nil,ac.agg_eq]; rfl)) ?_)
    refine cc' h1 λ hk55 h1=>mO Z (gv aj out31 [r53.1] Z Z Z Z Z Z Z Z Z Z Z Z Z (λ x=>congrArg List.length (ac.cells_eq x)) Z Z Z Z hk55 ?_)
    refine nx 6 Z (bd h1 λ r56 e57 h1=>?_)
    refine mO Z (cVq [1000000] [] 109000 109000 (HO.c e57) Tryz.call101 Z ?_)
    refine nx 2 Z (fB [22] h1 Z (λ c58 h1=>?_) λ c58 h1=>?_)
    ·exact nx 2 Z (eXi _ (oi h1).symm (gE Z Z))
    refine nx 4 Z (bd h1 λ r59 e60 h1=>?_)
    refine mO Z (cVq [1000000] [] 110000 110000 (HO.c e60) Tryz.call102 Z ?_)
    exact nx 1 Z (eX (out31++[r53.1],r59.2.fl,r59.2.fat,r59.2.fnest,r59.2.fbase,r59.2.fbad.fKind,r59.2.fbad.fAt,r59.2.fbad.fName) h1 (gE Z Z))
   exact nx 2 Z (eXi _ (oi h1).symm (gE Z Z))
  refine nx 2 Z (bd h2 λ r39 e40 h2=>?_)
  refine mO Z (cVq [1000000] [] 106000 106000 (HO.c e40) Tryz.call121 Z ?_)
  refine nx 2 Z (fB [8,9] h2 Z (λ c41 h2=>?_) λ c41 h2=>?_)
  ·refine nx 2 Z (bd h2 λ r42 e43 h2=>?_)
   refine mO Z (cVq [1000000] [] 107000 107000 (HO.c e43) Tryz.call101 Z ?_)
   exact nx 3 Z (eX _ (oi h2).symm (gE Z Z))
  exact nx 6 Z (eX _ (oi h2).symm (gE Z Z))
 ·skip
  refine λ p_0 at_1 k_2=>hO good [] [1000000] Tryz.func212 Z Z λ r h0 _ w0 F=>?_
  rw [cN] at h0
  refine nx 7 Z (bd h0 λ r1 e2 h0=>?_)
  refine mO Z (cVq [1000000] [] 101000 101000 (HO.c e2) Tryz.call102 Z ?_)
  refine nx 6 Z (bd h0 λ r3 e4 h0=>?_)
  refine mO Z (cVq [1000000] [] 102000 102000 (HO.c e4) Tryz.call223 Z ?_)
  refine nx 5 Z (bd h0 λ o67 h1 h0=>?_)
  refine kN o67 (λ v68=>⟨[(0,.ptr 1000000 0),(2,.p (eI k_2)),(6,.ptr 6 0),(7,.ptr 7 0)],[(6,bc),(7,[.p (eI k_2),.p (eI 0),.p (eS v68.1),.p (eS v68.2.1),.p (eI 0),.p (eI 0),.p (eS ([]:Bytes)),.p (.val (.slice none 0 0)),.p (.val (.slice none 0 0)),.p (.val (.slice none 0 0)),.p (eI at_1)]),(1000000,[.p (eL aU v68.2.2.1),.p (eI v68.2.2.2.1),.p (eI v68.2.2.2.2.1),.p (eI v68.2.2.2.2.2.1),.p (eI v68.2.2.2.2.2.2.1),.p (eI v68.2.2.2.2.2.2.2.1),.p (eS v68.2.2.2.2.2.2.2.2)])]⟩) ?_ ?_
  ·refine nx 4 Z (bd h0 λ r21 e22 h0=>?_)
   refine mO Z (cVq [1000000] [] 106000 106000 (HO.c e22) Tryz.call224 Z ?_)
   refine nx 2 Z (bd h0 λ r23 e24 h0=>?_)
   refine cc' h0 λ hk25 h0=>mG (gE (t:=⟨[(0,.ptr 1000000 0),(2,.p (eI k_2)),(6,.ptr 6 0),(7,.ptr 7 0)],[(6,bc),(7,[.p (eI k_2),.p (eI 0),.p (eS o67.1),.p (eS o67.2.1),.p (eI 0),.p (eI 0),.p (eS ([]:Bytes)),.p (.val (.slice none 0 0)),.p (.val (.slice none 0 0)),.p (.val (.slice none 0 0)),.p (eI at_1)]),(1000000,(ae.cs r21).map .p)]⟩) Z Z) (mSq ⟨3,[3,5,7],(by4 (.some (cK [] 107000 107000)) (.some λ i=>Nat.beq i 33) .none .none),(λ _=>[(0,.ptr 1000000 0),(2,.p (eI k_2)),(6,.ptr 6 0),(7,.ptr 7 0)]),(by4 ([(6,bc),(7,[.p (eI k_2),.p (eI 0),.p (eS o67.1),.p (eS o67.2.1),.p (eI 0),.p (eI 0),.p (eS ([]:Bytes)),.p (.val (.slice none 0 0)),.p (.val (.slice none 0 0)),.p (.val (.slice none 0 0)),.p (eI at_1)]),(1000000,((ae.cs r21).map .p))]) ([(1000000,((ae.cs r23.2).map .p)),(6,bc),(7,[.p (eI k_2),.p (eI 0),.p (eS o67.1),.p (eS o67.2.1),.p (eI 0),.p (eI 0),.p (eS ([]:Bytes)),.p (.val (.slice none 0 0)),.p (.val (.slice none 0 0)),.p (.val (.slice none 0 0)),.p (eI at_1)])]) ([(1000000,((ae.cs r23.2).map .p)),(6,bc),(7,[.p (eI k_2),.p (eI 0),.p (eS o67.1),.p (eS o67.2.1),.p (eI 0),.p (eI 0),.p (eS ([]:Bytes)),.p (.val (.slice none 0 0)),.p (.val (.slice none 0 0)),.p (.val (.slice none 0 0)),.p (eI at_1)])]) ([(7,[.p (eI k_2),.p (eI 0),.p (eS o67.1),.p (eS o67.2.1),.p (eI 0),.p (eI 0),.p (eS ([]:Bytes)),.p (.val (.slice none 0 0)),.p (.val (.slice none 0 0)),.vec 33 11 0 ([r23.1].map aj),.p (eI at_1)]),(1000000,((ae.cs r23.2).map .p)),(6,bc),(7,[.p (eI k_2),.p (eI 0),.p (eS o67.1),.p (eS o67.2.1),.p (eI 0),.p (eI 0),.p (eS ([]:Bytes)),.p (.val (.slice none 0 0)),.p (.val (.slice none 0 0)),.p (.val (.slice none 0 0)),.p (eI at_1)])]))⟩ Z ?_)
   refine dPc (.ptr 7 9) Z (dPc (.p (.val (.slice none 0 0))) Z ?_)
   refine dPc (.ptr 1000000 0) Z (eQ (λ _=>.p (.agg (ac.cs r23.1))) [(30,_)] Z ⟨.inr ⟨2,_,Z,Z,Z⟩,trivial⟩ Z Z (nC Z Z Y) (lt3 (λ h=>absurd h (by decide)) Y Y) (λ sl hsl K hK=>ap Z (bq [1000000] [] 107000 107000 (HO.c e24) Z Z Z (aN (hsl _ _ Z) cx) Z ⟨sr,trivial⟩ Z Z ⟨⟨_,Z,⟨sr,sr,sr,sr,sr,sr,sr,trivial⟩⟩,trivial⟩ Z Z Z Z Z Z Z Z Tryz.call65 Z Z hK)) ?_)
   refine aR (λ _=>.p (eL aj [r23.1])) Z Z Z (ki Z Z Z Y) (lt3 Z Z Z) (az Z (az Z (aB [(31,_)] ⟨.inr ⟨3,_,Z,Z,Z⟩,trivial⟩ (λ sl hsl K hK=>ap Z (bO aj [r23.1] Z Z Z Z Z Z (fj (hsl _ _ Z) Z gq) Z Z Z Z Z Z (by first | rfl | (simp only [List.map_cons,List.map_nil,ac.agg_eq]; done) | (simp only [List.map_cons,List.map_nil,ac.agg_eq]; rfl)) hK)) (az Z aS)))) (eQ (λ _=>.vec 33 11 0 ([r23.1].map aj)) [(29,_),(32,_)] Z ⟨.inr ⟨1,_,Z,Z,Z⟩,.inr ⟨4,_,Z,Z,Z⟩,trivial⟩ Z Z (gw Z Y) (lt3 (λ h=>absurd h (by decide)) (λ h=>absurd h (by decide)) Y) (λ sl hsl K hK=>ap Z (Cr aj [r23.1] 0 Z Z Z Z Z Z Z Z (hsl _ _ Z) (hsl _ _ Z) Z (λ x=>congrArg List.length (ac.cells_eq x)) Z Z Z Z hk25 hK)) ?_)
   refine dPc (.ptr 7 9) Z (dS Z ?_)
   refine cY (nx 4 Z ?_)
   refine bd h0 λ r26 e27 h0=>mO Z (cVq [1000000] [] 108000 108000 (HO.c e27) Tryz.call103 Z ?_)
   refine nx 2 Z (bd h0 λ r28 e29 h0=>?_)
   refine cc' h0 λ hk30 h0=>mG (gE (t:=⟨[(0,.ptr 1000000 0),(2,.p (eI k_2)),(6,.ptr 6 0),(7,.ptr 7 0)],[(6,bc),(7,[.p (eI k_2),.p (eI 0),.p (eS o67.1),.p (eS o67.2.1),.p (eI 0),.p (eI 0),.p (eS ([]:Bytes)),.p (.val (.slice none 0 0)),.p (.val (.slice none 0 0)),.vec 33 11 0 ([r23.1].map aj),.p (eI at_1)]),(1000000,(ae.cs r26).map .p)]⟩) Z Z) (mSq ⟨3,[3,5,7],(by4 (.some (cK [] 109000 109000)) (.some λ i=>Nat.beq i 33||Nat.beq i 42) .none .none),(λ _=>[(0,.ptr 1000000 0),(2,.p (eI k_2)),(6,.ptr 6 0),(7,.ptr 7 0)]),(by4 ([(6,bc),(7,[.p (eI k_2),.p (eI 0),.p (eS o67.1),.p (eS o67.2.1),.p (eI 0),.p (eI 0),.p (eS ([]:Bytes)),.p (.val (.slice none 0 0)),.p (.val (.slice none 0 0)),.vec 33 11 0 ([r23.1].map aj),.p (eI at_1)]),(1000000,((ae.cs r26).map .p))]) ([(1000000,((ae.cs r28.2).map .p)),(6,bc),(7,[.p (eI k_2),.p (eI 0),.p (eS o67.1),.p (eS o67.2.1),.p (eI 0),.p (eI 0),.p (eS ([]:Bytes)),.p (.val (.slice none 0 0)),.p (.val (.slice none 0 0)),.vec 33 11 0 ([r23.1].map aj),.p (eI at_1)])]) ([(1000000,((ae.cs r28.2).map .p)),(6,bc),(7,[.p (eI k_2),.p (eI 0),.p (eS o67.1),.p (eS o67.2.1),.p (eI 0),.p (eI 0),.p (eS ([]:Bytes)),.p (.val (.slice none 0 0)),.p (.val (.slice none 0 0)),.p (eL aj [r23.1]),.p (eI at_1)])]) ([(7,[.p (eI k_2),.p (eI 0),.p (eS o67.1),.p (eS o67.2.1),.p (eI 0),.p (eI 0),.p (eS ([]:Bytes)),.p (.val (.slice none 0 0)),.p (.val (.slice none 0 0)),.vec 42 11 0 (([r23.1]++[r28.1]).map aj),.p (eI at_1)]),(1000000,((ae.cs r28.2).map .p)),(6,bc),(7,[.p (eI k_2),.p (eI 0),.p (eS o67.1),.p (eS o67.2.1),.p (eI 0),.p (eI 0),.p (eS ([]:Bytes)),.p (.val (.slice none 0 0)),.p (.val (.slice none 0 0)),.p (eL aj [r23.1]),.p (eI at_1)])]))⟩ Z ?_)
   refine dPc (.ptr 7 9) Z (dP (by4 (.vec 33 11 0 ([r23.1].map aj)) (.vec 33 11 0 ([r23.1].map aj)) (.p (eL aj [r23.1])) (.p (eL aj [r23.1]))) Z ?_)
   refine dPc (.ptr 1000000 0) Z (eQ (λ _=>.p (.agg (ac.cs r28.1))) [(39,_)] Z ⟨.inr ⟨2,_,Z,Z,Z⟩,trivial⟩ Z Z (nC Z Z Y) (lt3 (λ h=>absurd h (by decide)) Y Y) (λ sl hsl K hK=>ap Z (bq [1000000] [] 109000 109000 (HO.c e29) Z Z Z (aN (hsl _ _ Z) cx) Z ⟨sr,trivial⟩ Z Z ⟨⟨_,Z,⟨sr,sr,sr,sr,sr,sr,sr,trivial⟩⟩,trivial⟩ Z Z Z Z Z Z Z Z Tryz.call65 Z Z hK)) ?_)
   refine aR (λ _=>.p (eL aj [r28.1])) Z Z Z (ki Z Z Z Y) (lt3 Z Z Z) (az Z (az Z (aB [(40,_)] ⟨.inr ⟨3,_,Z,Z,Z⟩,trivial⟩ (λ sl hsl K hK=>ap Z (bO aj [r28.1] Z Z Z Z Z Z (fj (hsl _ _ Z) Z gq) Z Z Z Z Z Z (by first | rfl | (simp only [List.map_cons,List.map_nil,ac.agg_eq]; done) | (simp only [List.map_cons,List.map_nil,ac.agg_eq]; rfl)) hK)) (az Z aS)))) (eQ (λ _=>.vec 42 11 0 (([r23.1]++[r28.1]).map aj)) [(38,_),(41,_)] Z ⟨.inr ⟨1,_,Z,Z,Z⟩,.inr ⟨4,_,Z,Z,Z⟩,trivial⟩ Z Z (gw Z Y) (lt3 (λ h=>absurd h (by decide)) (λ h=>absurd h (by decide)) Y) (λ sl hsl K hK=>ap Z (gv aj [r23.1] [r28.1] Z Z Z Z Z Z Z Z (hsl _ _ Z) Z Z (hsl _ _ Z) Z (λ x=>congrArg List.length (ac.cells_eq x)) Z Z Z Z hk30 hK)) ?_)
   refine dPc (.ptr 7 9) Z (dS Z ?_)
   refine cY (nx 6 Z ?_)
   refine bd h0 λ o69 h1 h0=>kN o69 (λ v70=>⟨[(0,.ptr 1000000 0),(6,.ptr 6 0),(7,.ptr 7 0),(8,.p (eS v70.1))],[(6,bc),(7,[.p (eI k_2),.p (eI 0),.p (eS o67.1),.p (eS o67.2.1),.p (eI 0),.p (eI 0),.p (eS ([]:Bytes)),.p (.val (.slice none 0 0)),.p (.val (.slice none 0 0)),.vec 53 11 0 (v70.2.1.map aj),.p (eI at_1)]),(1000000,[.p (eL aU v70.2.2.1),.p (eI v70.2.2.2.1),.p (eI v70.2.2.2.2.1),.p (eI v70.2.2.2.2.2.1),.p (eI v70.2.2.2.2.2.2.1),.p (eI v70.2.2.2.2.2.2.2.1),.p (eS v70.2.2.2.2.2.2.2.2)])]⟩) ?_ ?_
   ·refine nx 2 Z (bd h0 λ o71 h1 h0=>?_)
    refine kN o71 (λ v72=>⟨[(0,.ptr 1000000 0),(6,.ptr 6 0),(7,.ptr 7 0),(8,.p (eS o69.1))],[(6,bc),(7,[.p (eI k_2),.p (eI 0),.p (eS o67.1),.p (eS o67.2.1),.p (eI 0),.p (eI 0),.p (eS ([]:Bytes)),.p (.val (.slice none 0 0)),.p (.val (.slice none 0 0)),.vec 64 11 0 (v72.1.map aj),.p (eI at_1)]),(1000000,[.p (eL aU v72.2.1),.p (eI v72.2.2.1),.p (eI v72.2.2.2.1),.p (eI v72.2.2.2.2.1),.p (eI v72.2.2.2.2.2.1),.p (eI v72.2.2.2.2.2.2.1),.p (eS v72.2.2.2.2.2.2.2)])]⟩) ?_ ?_
    ·refine nx 5 Z (bd h0 λ r62 e63 h0=>?_)
     refine mO Z (cVq [1000000] [] 115000 115000 (HO.c e63) Tryz.call186 Z ?_)
     exact nx 7 Z (mQo (oi h0) (au _) Z Z Z Z (vE ⟨sr,sr,sr,sr,sr,sr,sr,fQ _,fQ _,sr,sr,trivial⟩) ⟨⟨_,Z,⟨sr,sr,sr,sr,sr,sr,sr,trivial⟩⟩,trivial⟩)
    refine nx 3 Z (bd h1 λ r46 e47 h1=>?_)
    refine mO Z (cVq [1000000] [] 112000 112000 (HO.c e47) Tryz.call211 Z ?_)
    refine nx 1 Z (fB [56] h1 Z (λ c48 h1=>?_) λ c48 h1=>?_)
    ·refine nx 4 Z (bd h1 λ r49 e50 h1=>?_)
     refine mO Z (cVq [1000000] [] 113000 113000 (HO.c e50) Tryz.call102 Z ?_)
     refine nx 1 Z (bd h1 λ r51 e52 h1=>?_)
     refine cc' h1 λ hk53 h1=>mG (gE (t:=⟨[(0,.ptr 1000000 0),(6,.ptr 6 0),(7,.ptr 7 0),(8,.p (eS o69.1))],[(6,bc),(7,[.p (eI k_2),.p (eI 0),.p (eS o67.1),.p (eS o67.2.1),.p (eI 0),.p (eI 0),.p (eS ([]:Bytes)),.p (.val (.slice none 0 0)),.p (.val (.slice none 0 0)),.vec 53 11 0 (o69.2.1.map aj),.p (eI at_1)]),(1000000,(ae.cs r49.2).map .p)]⟩) Z Z) (mSq ⟨3,[3,5,7],(by4 (.some (cK [] 114000 114000)) (.some λ i=>Nat.beq i 53||Nat.beq i 64) .none .none),(λ _=>[(0,.ptr 1000000 0),(6,.ptr 6 0),(7,.ptr 7 0),(8,.p (eS o69.1))]),(by4 ([(6,bc),(7,[.p (eI k_2),.p (eI 0),.p (eS o67.1),.p (eS o67.2.1),.p (eI 0),.p (eI 0),.p (eS ([]:Bytes)),.p (.val (.slice none 0 0)),.p (.val (.slice none 0 0)),.vec 53 11 0 (o69.2.1.map aj),.p (eI at_1)]),(1000000,((ae.cs r49.2).map .p))]) ([(1000000,((ae.cs r51.2).map .p)),(6,bc),(7,[.p (eI k_2),.p (eI 0),.p (eS o67.1),.p (eS o67.2.1),.p (eI 0),.p (eI 0),.p (eS ([]:Bytes)),.p (.val (.slice none 0 0)),.p (.val (.slice none 0 0)),.vec 53 11 0 (o69.2.1.map aj),.p (eI at_1)])]) ([(1000000,((ae.cs r51.2).map .p)),(6,bc),(7,[.p (eI k_2),.p (eI 0),.p (eS o67.1),.p (eS o67.2.1),.p (eI 0),.p (eI 0),.p (eS ([]:Bytes)),.p (.val (.slice none 0 0)),.p (.val (.slice none 0 0)),.p (eL aj o69.2.1),.p (eI at_1)])]) ([(7,[.p (eI k_2),.p (eI 0),.p (eS o67.1),.p (eS o67.2.1),.p (eI 0),.p (eI 0),.p (eS ([]:Bytes)),.p (.val (.slice none 0 0)),.p (.val (.slice none 0 0)),.vec 64 11 0 ((o69.2.1++[r51.1]).map aj),.p (eI at_1)]),(1000000,((ae.cs r51.2).map .p)),(6,bc),(7,[.p (eI k_2),.p (eI 0),.p (eS o67.1),.p (eS o67.2.1),.p (eI 0),.p (eI 0),.p (eS ([]:Bytes)),.p (.val (.slice none 0 0)),.p (.val (.slice none 0 0)),.p (eL aj o69.2.1),.p (eI at_1)])]))⟩ Z ?_)
     refine dPc (.ptr 7 9) Z (dP (by4 (.vec 53 11 0 (o69.2.1.map aj)) (.vec 53 11 0 (o69.2.1.map aj)) (.p (eL aj o69.2.1)) (.p (eL aj o69.2.1))) Z ?_)
     refine dPc (.ptr 1000000 0) Z (eQ (λ _=>.p (.agg (ac.cs r51.1))) [(61,_)] Z ⟨.inr ⟨2,_,Z,Z,Z⟩,trivial⟩ Z Z (nC Z Z Y) (lt3 (λ h=>absurd h (by decide)) Y Y) (λ sl hsl K hK=>ap Z (bq [1000000] [] 114000 114000 (HO.c e52) Z Z Z (aN (hsl _ _ Z) cx) Z ⟨sr,trivial⟩ Z Z ⟨⟨_,Z,⟨sr,sr,sr,sr,sr,sr,sr,trivial⟩⟩,trivial⟩ Z Z Z Z Z Z Z Z Tryz.call65 Z Z hK)) ?_)
     refine aR (λ _=>.p (eL aj [r51.1])) Z Z Z (ki Z Z Z Y) (lt3 Z Z Z) (az Z (az Z (aB [(62,_)] ⟨.inr ⟨3,_,Z,Z,Z⟩,trivial⟩ (λ sl hsl K hK=>ap Z (bO aj [r51.1] Z Z Z Z Z Z (fj (hsl _ _ Z) Z gq) Z Z Z Z Z Z (by first | rfl | (simp only [List.map_cons,List.map_nil,ac.agg_eq]; done) | (simp only [List.map_cons,List.map_nil,ac.agg_eq]; rfl)) hK)) (az Z aS)))) (eQ (λ _=>.vec 64 11 0 ((o69.2.1++[r51.1]).map aj)) [(60,_),(63,_)] Z ⟨.inr ⟨1,_,Z,Z,Z⟩,.inr ⟨4,_,Z,Z,Z⟩,trivial⟩ Z Z (gw Z Y) (lt3 (λ h=>absurd h (by decide)) (λ h=>absurd h (by decide)) Y) (λ sl hsl K hK=>ap Z (gv aj o69.2.1 [r51.1] Z Z Z Z Z Z Z Z (hsl _ _ Z) Z Z (hsl _ _ Z) Z (λ x=>congrArg List.length (ac.cells_eq x)) Z Z Z Z hk53 hK)) ?_)
     refine dPc (.ptr 7 9) Z (dS Z ?_)
     refine cY (nx 1 Z ?_)
     exact eX _ (oi h1).symm (gE Z Z)
    exact nx 2 Z (eX _ (oi h1).symm (aY (bK 53 64 Z Z Z Z Z) (gE Z Z)))
   refine nx 5 Z (fD [45] h1 Z (λ c31 h1=>?_) λ c31 h1=>?_)
   ·refine nx 4 Z (bd h1 λ r32 e33 h1=>?_)
    refine mO Z (cVq [1000000] [] 110000 110000 (HO.c e33) Tryz.call103 Z ?_)
    refine nx 2 Z (bd h1 λ r34 e35 h1=>?_)
    refine cc' h1 λ hk36 h1=>mG (gE (t:=⟨[(0,.ptr 1000000 0),(6,.ptr 6 0),(7,.ptr 7 0)],[(6,bc),(7,[.p (eI k_2),.p (eI 0),.p (eS o67.1),.p (eS o67.2.1),.p (eI 0),.p (eI 0),.p (eS ([]:Bytes)),.p (.val (.slice none 0 0)),.p (.val (.slice none 0 0)),.vec 42 11 0 (([r23.1]++[r28.1]).map aj),.p (eI at_1)]),(1000000,(ae.cs r32).map .p)]⟩) Z Z) (mSq ⟨3,[3,5,7],(by4 (.some (cK [] 111000 111000)) (.some λ i=>Nat.beq i 42||Nat.beq i 53) .none .none),(λ _=>[(0,.ptr 1000000 0),(6,.ptr 6 0),(7,.ptr 7 0)]),(by4 ([(6,bc),(7,[.p (eI k_2),.p (eI 0),.p (eS o67.1),.p (eS o67.2.1),.p (eI 0),.p (eI 0),.p (eS ([]:Bytes)),.p (.val (.slice none 0 0)),.p (.val (.slice none 0 0)),.vec 42 11 0 (([r23.1]++[r28.1]).map aj),.p (eI at_1)]),(1000000,((ae.cs r32).map .p))]) ([(1000000,((ae.cs r34.2).map .p)),(6,bc),(7,[.p (eI k_2),.p (eI 0),.p (eS o67.1),.p (eS o67.2.1),.p (eI 0),.p (eI 0),.p (eS ([]:Bytes)),.p (.val (.slice none 0 0)),.p (.val (.slice none 0 0)),.vec 42 11 0 (([r23.1]++[r28.1]).map aj),.p (eI at_1)])]) ([(1000000,((ae.cs r34.2).map .p)),(6,bc),(7,[.p (eI k_2),.p (eI 0),.p (eS o67.1),.p (eS o67.2.1),.p (eI 0),.p (eI 0),.p (eS ([]:Bytes)),.p (.val (.slice none 0 0)),.p (.val (.slice none 0 0)),.p (eL aj ([r23.1]++[r28.1])),.p (eI at_1)])]) ([(7,[.p (eI k_2),.p (eI 0),.p (eS o67.1),.p (eS o67.2.1),.p (eI 0),.p (eI 0),.p (eS ([]:Bytes)),.p (.val (.slice none 0 0)),.p (.val (.slice none 0 0)),.vec 53 11 0 ((([r23.1]++[r28.1])++[r34.1]).map aj),.p (eI at_1)]),(1000000,((ae.cs r34.2).map .p)),(6,bc),(7,[.p (eI k_2),.p (eI 0),.p (eS o67.1),.p (eS o67.2.1),.p (eI 0),.p (eI 0),.p (eS ([]:Bytes)),.p (.val (.slice none 0 0)),.p (.val (.slice none 0 0)),.p (eL aj ([r23.1]++[r28.1])),.p (eI at_1)])]))⟩ Z ?_)
    refine dPc (.ptr 7 9) Z (dP (by4 (.vec 42 11 0 (([r23.1]++[r28.1]).map aj)) (.vec 42 11 0 (([r23.1]++[r28.1]).map aj)) (.p (eL aj ([r23.1]++[r28.1]))) (.p (eL aj ([r23.1]++[r28.1])))) Z ?_)
    refine dPc (.ptr 1000000 0) Z (eQ (λ _=>.p (.agg (ac.cs r34.1))) [(50,_)] Z ⟨.inr ⟨2,_,Z,Z,Z⟩,trivial⟩ Z Z (nC Z Z Y) (lt3 (λ h=>absurd h (by decide)) Y Y) (λ sl hsl K hK=>ap Z (bq [1000000] [] 111000 111000 (HO.c e35) Z Z Z (aN (hsl _ _ Z) cx) Z ⟨sr,trivial⟩ Z Z ⟨⟨_,Z,⟨sr,sr,sr,sr,sr,sr,sr,trivial⟩⟩,trivial⟩ Z Z Z Z Z Z Z Z Tryz.call65 Z Z hK)) ?_)
    refine aR (λ _=>.p (eL aj [r34.1])) Z Z Z (ki Z Z Z Y) (lt3 Z Z Z) (az Z (az Z (aB [(51,_)] ⟨.inr ⟨3,_,Z,Z,Z⟩,trivial⟩ (λ sl hsl K hK=>ap Z (bO aj [r34.1] Z Z Z Z Z Z (fj (hsl _ _ Z) Z gq) Z Z Z Z Z Z (by first | rfl | (simp only [List.map_cons,List.map_nil,ac.agg_eq]; done) | (simp only [List.map_cons,List.map_nil,ac.agg_eq]; rfl)) hK)) (az Z aS)))) (eQ (λ _=>.vec 53 11 0 ((([r23.1]++[r28.1])++[r34.1]).map aj)) [(49,_),(52,_)] Z ⟨.inr ⟨1,_,Z,Z,Z⟩,.inr ⟨4,_,Z,Z,Z⟩,trivial⟩ Z Z (gw Z Y) (lt3 (λ h=>absurd h (by decide)) (λ h=>absurd h (by decide)) Y) (λ sl hsl K hK=>ap Z (gv aj ([r23.1]++[r28.1]) [r34.1] Z Z Z Z Z Z Z Z (hsl _ _ Z) Z Z (hsl _ _ Z) Z (λ x=>congrArg List.length (ac.cells_eq x)) Z Z Z Z hk36 hK)) ?_)
    refine dPc (.ptr 7 9) Z (dS Z ?_)
    refine cY (nx 4 Z ?_)
    exact eX _ (oi h1).symm (gE Z Z)
   exact nx 2 Z (eX _ (oi h1).symm (aY (bK 42 53 Z Z Z Z Z) (gE Z Z)))
  refine nx 3 Z (bd h1 λ r5 e6 h1=>?_)
  refine mO Z (cVq [1000000] [] 103000 103000 (HO.c e6) Tryz.call101 Z ?_)
  refine nx 1 Z (fB [17] h1 Z (λ c7 h1=>?_) λ c7 h1=>?_)
  ·refine nx 4 Z (bd h1 λ r8 e9 h1=>?_)
   refine mO Z (cVq [1000000] [] 104000 104000 (HO.c e9) Tryz.call102 Z ?_)
   refine nx 10 Z (bd h1 λ r10 e11 h1=>?_)
   refine mO Z (cVq [1000000] [] 105000 105000 (HO.c e11) Tryz.call223 Z ?_)
   exact nx 3 Z (eX _ (oi h1).symm (gE Z Z))
  exact nx 2 Z (eX _ (oi h1).symm (gE Z Z))
 ·skip
  refine λ p_0=>hO good [] [1000000] Tryz.func213 Z Z λ r h0 _ w0 F=>?_
  rw [cS] at h0
  refine nx 10 Z (bd h0 λ o89 h1 h0=>?_)
  refine kE 0 o89 (λ v90=>⟨[(3,.vec 23 11 0 (v90.1.map aj))],[(1000000,[.p (eL aU v90.2.1),.p (eI v90.2.2.1),.p (eI v90.2.2.2.1),.p (eI v90.2.2.2.2.1),.p (eI v90.2.2.2.2.2.1),.p (eI v90.2.2.2.2.2.2.1),.p (eS v90.2.2.2.2.2.2.2)])]⟩) ?_ ?_
  ·exact nx 7 Z (fC h0 Z)
  refine lG (λ (q91:(List ac)×(List ad)×Int×Int×Int×Int×Int×Bytes)=>⟨[(0,.ptr 1000000 0),(3,.vec 23 11 0 (q91.1.map aj))],[(1000000,[.p (eL aU q91.2.1),.p (eI q91.2.2.1),.p (eI q91.2.2.2.1),.p (eI q91.2.2.2.2.1),.p (eI q91.2.2.2.2.2.1),.p (eI q91.2.2.2.2.2.2.1),.p (eS q91.2.2.2.2.2.2.2)])]⟩) (λ m (q91:(List ac)×(List ad)×Int×Int×Int×Int×Int×Bytes)=>bA n (ay n) (cp n) m q91.1 q91.2.1 q91.2.2.1 q91.2.2.2.1 q91.2.2.2.2.1 q91.2.2.2.2.2.1 q91.2.2.2.2.2.2.1 q91.2.2.2.2.2.2.2) Y ([],p_0.fl,p_0.fat,p_0.fnest,p_0.fbase,p_0.fbad.fKind,p_0.fbad.fAt,p_0.fbad.fName) h1 (dZ (jK ⟨er Z,⟨_,Z,AV.sub_nilvec _ _ _⟩,trivial⟩ ⟨⟨_,Z,⟨sr,sr,sr,sr,sr,sr,sr,trivial⟩⟩,trivial⟩)) ?_
  rintro m ⟨out36,f37,f38,f39,f40,f41,f42,f43⟩ h1
  replace h1:bA n (ay n) (cp n) (m+1) out36 f37 f38 f39 f40 f41 f42 f43=some o89:=h1
  rw [bA] at h1
  refine nx 2 Z (bd h1 λ o92 h2 h1=>?_)
  refine kN o92 (λ v93=>⟨[(0,.ptr 1000000 0),(3,.vec 23 11 0 (out36.map aj)),(11,.p (eB v93.1))],[(1000000,[.p (eL aU v93.2.1),.p (eI v93.2.2.1),.p (eI v93.2.2.2.1),.p (eI v93.2.2.2.2.1),.p (eI v93.2.2.2.2.2.1),.p (eI v93.2.2.2.2.2.2.1),.p (eS v93.2.2.2.2.2.2.2)])]⟩) ?_ ?_
  ·refine nx 1 Z (fB [11] h1 Z (λ c57 h1=>?_) λ c57 h1=>?_)
   ·refine nx 7 Z (bd h1 λ r58 e59 h1=>?_)
    refine mO Z (cVq [1000000] [] 110000 110000 (HO.c e59) Tryz.call225 Z ?_)
    refine mO Z (bO aj [r58.1] Z Z Z Z Z Z Z Z Z Z Z Z Z (by first | rfl | (simp only [List.map_cons,List.map_nil,ac.agg_eq]; done) | (simp only [List.map_cons,List.map_nil,ac.agg_eq]; rfl)) ?_)
    refine cc' h1 λ hk60 h1=>mO Z (gv aj out36 [r58.1] Z Z Z Z Z Z Z Z Z Z Z Z Z (λ x=>congrArg List.length (ac.cells_eq x)) Z Z Z Z hk60 ?_)
    refine nx 5 Z (bd h1 λ r61 e62 h1=>?_)
    refine mO Z (cVq [1000000] [] 111000 111000 (HO.c e62) Tryz.call103 Z ?_)
    refine nx 5 Z (bd h1 λ r63 e64 h1=>?_)
    refine mO Z (cVq [1000000] [] 112000 112000 (HO.c e64) Tryz.call65 Z ?_)
    refine mO Z (bO aj [r63.1] Z Z Z Z Z Z Z Z Z Z Z Z Z (by first | rfl | (simp only [List.map_cons,List.map_nil,ac.agg_eq]; done) | (simp only [List.map_cons,List.map_nil,ac.agg_eq]; rfl)) ?_)
    refine cc' h1 λ hk65 h1=>mO Z (gv aj (out36++[r58.1]) [r63.1] Z Z Z Z Z Z Z Z Z Z Z Z Z (λ x=>congrArg List.length (ac.cells_eq x)) Z Z Z Z hk65 ?_)
    refine nx 6 Z (bd h1 λ r66 e67 h1=>?_)
    refine mO Z (cVq [1000000] [] 113000 113000 (HO.c e67) Tryz.call101 Z ?_)
    refine nx 2 Z (fB [26] h1 Z (λ c68 h1=>?_) λ c68 h1=>?_)
    ·exact nx 2 Z (eXi _ (oi h1).symm (gE Z Z))
    refine nx 4 Z (bd h1 λ r69 e70 h1=>?_)
    refine mO Z (cVq [1000000] [] 114000 114000 (HO.c e70) Tryz.call102 Z ?_)
    exact nx 1 Z (eX ((out36++[r58.1])++[r63.1],r69.2.fl,r69.2.fat,r69.2.fnest,r69.2.fbase,r69.2.fbad.fKind,r69.2.fbad.fAt,r69.2.fbad.fName) h1 (gE Z Z))
   exact nx 2 Z (eXi _ (oi h1).symm (gE Z Z))
  refine nx 2 Z (bd h2 λ r44 e45 h2=>?_)
  refine mO Z (cVq [1000000] [] 108000 108000 (HO.c e45) Tryz.call121 Z ?_)
  refine nx 2 Z (fB [6,7] h2 Z (λ c46 h2=>?_) λ c46 h2=>?_)
  ·refine nx 1 Z (bd h2 λ r47 e48 h2=>?_)
   refine mO Z (cVq [1000000] [] 109000 109000 (HO.c e48) Tryz.call101 Z ?_)
   exact nx 3 Z (eX _ (oi h2).symm (gE Z Z))
  exact nx 5 Z (eX _ (oi h2).symm (gE Z Z))
 ·skip
  refine λ p_0=>hO good [] [1000000] Tryz.func225 Z Z λ r h0 _ w0 F=>?_
  rw [cp] at h0
  refine nx 7 Z (bd h0 λ r1 e2 h0=>?_)
  refine mO Z (cVq [1000000] [] 101000 101000 (HO.c e2) Tryz.call70 Z ?_)
  refine nx 12 Z (fD [7,10] h0 Z (λ c3 h0=>?_) λ c3 h0=>?_)
  ·refine nx 4 Z (bd h0 λ r4 e5 h0=>?_)
   refine mO Z (cVq [1000000] [] 102000 102000 (HO.c e5) Tryz.call102 Z ?_)
   refine nx 8 Z (bd h0 λ r6 e7 h0=>?_)
   refine oK (HP.c e7) Z ⟨cR ⟨.inl Z,.inl Z,.inl Z,.inr ⟨Z,Z⟩,.inr ⟨Z,Z⟩,trivial⟩,sr,trivial⟩ Tryz.call39 Z (nx 3 Z ?_)
   exact fC h0 Z
  refine nx 8 Z (fD [19,22] h0 Z (λ c8 h0=>?_) λ c8 h0=>?_)
  ·refine nx 4 Z (bd h0 λ r9 e10 h0=>?_)
   refine mO Z (cVq [1000000] [] 103000 103000 (HO.c e10) Tryz.call197 Z ?_)
   exact nx 3 Z (fC h0 Z)
  refine nx 4 Z (bd h0 λ r11 e12 h0=>?_)
  refine mO Z (cVq [1000000] [] 104000 104000 (HO.c e12) Tryz.call101 Z ?_)
  refine nx 2 Z (fB [25,27] h0 Z (λ c13 h0=>?_) λ c13 h0=>?_)
  ·refine nx 4 Z (bd h0 λ r14 e15 h0=>?_)
   refine mO Z (cVq [1000000] [] 105000 105000 (HO.c e15) Tryz.call185 Z ?_)
   refine nx 4 Z (bd h0 λ r16 e17 h0=>?_)
   refine mO Z (cVq [1000000] [] 106000 106000 (HO.c e17) Tryz.call65 Z ?_)
   refine nx 6 Z (bd h0 λ r18 e19 h0=>?_)
   refine mO Z (cVq [1000000] [] 107000 107000 (HO.c e19) Tryz.call186 Z ?_)
   exact nx 7 Z (fC h0 Z)
  refine nx 7 Z (bd h0 λ r20 e21 h0=>?_)
  refine mO Z (cVq [1000000] [] 108000 108000 (HO.c e21) Tryz.call71 Z ?_)
  exact nx 3 Z (fC h0 Z)
instance Ce (n:Nat):∀ (s_0:Bytes) (base_1:Int) (r:ac×ax),HP (dU n s_0 base_1=some r) Tryz.prog 33 [eS s_0,eI base_1] (.tuple [.p (.agg (ac.cs r.1)),.p (.agg (ax.cs r.2))]):=(oX n).2.1
def em (n:Nat)(s_0:Bytes):Option (ac×ax) :=
 (dU n s_0 0).bind λ r1 =>
 (eW n r1.1 r1.2).bind λ r3 =>
 some (r3.1,r3.2)
instance Cj (n:Nat) (s_0:Bytes):∀ (r:ac×ax),HP (em n s_0=some r) Tryz.prog 16 [eS s_0] (.tuple [.p (.agg (ac.cs r.1)),.p (.agg (ax.cs r.2))]):=by
 refine hP good Tryz.func16 Z Z λ r h0 _ w0=>?_
 unfold em at h0
 refine nx 8 Z (bd h0 λ r1 e2 h0=>?_)
 refine oK (HP.c e2) Z ⟨sr,sr,trivial⟩ Tryz.call33 Z (nx 12 Z ?_)
 refine bd h0 λ r3 e4 h0=>oK (HP.c e4) Z ⟨sr,sr,trivial⟩ Tryz.call34 Z (nx 6 Z ?_)
 exact mQ (oi h0) Z (bz ⟨sr,sr,trivial⟩)
def eZ (r_expr_Nodes:ac→Option Int)(e_0:ac):Nat→Int→Int→Option Int
 | 0,_,_=>none
 | m+1,n9,t10 =>
 if t10 < (e_0.fKids.length:Int) then
  ck ((0:Int)≤t10∧t10 < (e_0.fKids.length:Int)) <|
  (r_expr_Nodes (lat e_0.fKids t10)).bind λ r13 =>
  ck (inR (n9+r13)) <|
  ck (inR (t10+1)) <|
  eZ r_expr_Nodes e_0 m (n9+r13) (t10+1)
 else
  some n9
def fg:Nat→ac→Option Int
 | 0,_=>none
 | n+1,e_0 =>
 (eZ (fg n) e_0 n 1 0).bind λ n19 =>
 some n19
instance Ch (n:Nat):∀ (e_0:ac) (r:Int),HP (fg n e_0=some r) Tryz.prog 14 [.agg (ac.cs e_0)] (.p (eI r)):=by
 induction n with
 | zero=>intros; exact ⟨λ h=>by cases h⟩
 | succ n ih =>
 have ih_expr_Nodes_ok:=ih
 refine λ e_0=>hP good Tryz.func14 Z Z λ r h0 _ w0=>?_
 rw [fg] at h0
 refine nx 14 Z (oLl (f:=aj) Z Z ?_)
 refine nx 3 Z (bd h0 λ o21 h1 h0=>?_)
 refine kE 0 o21 (λ v22=>⟨[(3,.p (eI v22))],[]⟩) ?_ ?_
 ·exact nx 7 Z (mQ (oi h0) Z (sr))
 refine lG (λ (q23:Int×Int)=>⟨[(3,.p (eI q23.1)),(7,.p (eL aj e_0.fKids)),(8,.p (eI (e_0.fKids.length:Int))),(9,.p (eI q23.2))],[]⟩) (λ m (q23:Int×Int)=>eZ (fg n) e_0 m q23.1 q23.2) Y (1,0) h1 (gE Z Z) ?_
 rintro m ⟨n9,t10⟩ h1
 replace h1:eZ (fg n) e_0 (m+1) n9 t10=some o21:=h1
 rw [eZ] at h1
 refine nx 5 Z (fD [10] h1 Z (λ c11 h1=>?_) λ c11 h1=>?_)
 ·refine nx 6 Z (oE h1 ac.cells_eq Z Z Y λ hk12 h1=>?_)
  refine nx 7 Z (bd h1 λ r13 e14 h1=>?_)
  refine oK (HP.c e14) Z ⟨sr,trivial⟩ Tryz.call14 Z (oA h1 Z Z λ hk15 h1=>?_)
  refine nx 3 Z (oA h1 Z Z λ hk16 h1=>?_)
  exact nx 2 Z (eX (n9+r13,t10+1) h1 (gE Z Z))
 exact nx 2 Z (eXi _ (oi h1).symm (gE Z Z))
def ez (n:Nat):Option Bool :=
 (em n ([49,32,43,32,50,32,42,32,51]:Bytes)).bind λ r1 =>
 (em n ([34,120,36,123,34,121,34,125,34]:Bytes)).bind λ r3 =>
 (em n ([97,32,43]:Bytes)).bind λ r5 =>
 (em n ([91,102,111,114,32,107,44,32,118,32,105,110,32,109,32,58,32,118,32,105,102,32,107,32,33,61,32,34,97,34,93]:Bytes)).bind λ r7 =>
 (
   if r1.2.fKind=0 then
    if r3.2.fKind=0 then
     if r5.2.fKind=2 then
      if r5.2.fAt=3 then
       if r7.2.fKind=0 then
        if (r1.1.fKids.length:Int)=2 then
         some (!decide ((r3.1.fKids.length:Int)=2))
        else
         some true
       else
        some true
      else
       some true
     else
      some true
    else
     some true
   else
    some true
  : Option Bool).bind λ t15 =>
 if t15=true then
  some false
 else
  (
    if r1.1.fOp=11 then
     ck ((0:Int)≤1∧1 < (r1.1.fKids.length:Int)) <|
     if (lat r1.1.fKids 1).fOp=13 then
      if r3.1.fKind=2 then
       if r7.1.fKind=12 then
        if r7.1.fKey=([107]:Bytes) then
         if r7.1.fName=([118]:Bytes) then
          if (r7.1.fKids.length:Int)=3 then
           (fg n r1.1).bind λ r25 =>
           some (decide (r25=5))
          else
           some false
         else
          some false
        else
         some false
       else
        some false
      else
       some false
     else
      some false
    else
     some false
   : Option Bool).bind λ t27 =>
  some t27
instance AQ (n:Nat):∀ (r:Bool),HP (ez n=some r) Tryz.prog 11 [] (.p (eB r)):=by
 refine hP good Tryz.func11 Z Z λ r h0 _ w0=>?_
 unfold ez at h0
 refine nx 6 Z (bd h0 λ r1 e2 h0=>?_)
 refine oK (HP.c e2) Z ⟨sr,trivial⟩ Tryz.call16 Z (nx 10 Z ?_)
 refine bd h0 λ r3 e4 h0=>oK (HP.c e4) Z ⟨sr,trivial⟩ Tryz.call16 Z (nx 10 Z ?_)
 refine bd h0 λ r5 e6 h0=>oK (HP.c e6) Z ⟨sr,trivial⟩ Tryz.call16 Z (nx 10 Z ?_)
 refine bd h0 λ r7 e8 h0=>oK (HP.c e8) Z ⟨sr,trivial⟩ Tryz.call16 Z (nx 10 Z ?_)
 refine bd h0 λ o30 h1 h0=>kN o30 (λ v31=>⟨[(1,.ptr 1 0),(3,.ptr 3 0),(7,.ptr 7 0),(59,.p (eB v31))],[(1,(ac.cs r1.1).map .p),(3,(ac.cs r3.1).map .p),(7,(ac.cs r7.1).map .p)]⟩) ?_ ?_
 ·refine nx 1 Z (fB [59] h0 Z (λ c16 h0=>?_) λ c16 h0=>?_)
  ·exact nx 6 Z (mQ (oi h0) Z (sr))
  refine nx 3 Z (bd h0 λ o32 h1 h0=>?_)
  refine kN o32 (λ v33=>⟨[(0,.p (eB v33))],[]⟩) ?_ ?_
  ·exact nx 2 Z (mQ (oi h0) Z (sr))
  refine nx 5 Z (fD [62,63] h1 Z (λ c17 h1=>?_) λ c17 h1=>?_)
  ·refine nx 2 Z (oE h1 ac.cells_eq Z Z Y λ hk18 h1=>?_)
   refine nx 5 Z (fD [69,70,71] h1 Z (λ c19 h1=>?_) λ c19 h1=>?_)
   ·refine nx 5 Z (fD [74,75,76] h1 Z (λ c20 h1=>?_) λ c20 h1=>?_)
    ·refine nx 5 Z (fD [79,80,81] h1 Z (λ c21 h1=>?_) λ c21 h1=>?_)
     ·refine nx 2 Z (oS Z Z ?_)
      refine nx 2 Z (fD [84,85,86] h1 Z (λ c22 h1=>?_) λ c22 h1=>?_)
      ·refine nx 2 Z (oS Z Z ?_)
       refine nx 2 Z (fD [89,90,91] h1 Z (λ c23 h1=>?_) λ c23 h1=>?_)
       ·refine nx 2 Z (oLl (f:=aj) Z Z ?_)
        refine nx 3 Z (fD [95,96,97] h1 Z (λ c24 h1=>?_) λ c24 h1=>?_)
        ·refine nx 1 Z (bd h1 λ r25 e26 h1=>?_)
         refine oK (HP.c e26) Z ⟨sr,trivial⟩ Tryz.call14 Z (nx 4 Z ?_)
         exact eX _ (oi h1).symm (gE Z Z)
        exact nx 6 Z (eX _ (oi h1).symm (gE Z Z))
       exact nx 12 Z (eX _ (oi h1).symm (gE Z Z))
      exact nx 17 Z (eX _ (oi h1).symm (gE Z Z))
     exact nx 22 Z (eX _ (oi h1).symm (gE Z Z))
    exact nx 27 Z (eX _ (oi h1).symm (gE Z Z))
   exact nx 32 Z (eX _ (oi h1).symm (gE Z Z))
  exact nx 40 Z (eX _ (oi h1).symm (gE Z Z))
 refine nx 5 Z (fN [27,28] h1 Z (λ c9 h1=>?_) λ c9 h1=>?_)
 ·refine nx 5 Z (fN [31,32,33] h1 Z (λ c10 h1=>?_) λ c10 h1=>?_)
  ·refine nx 5 Z (fN [36,37,38] h1 Z (λ c11 h1=>?_) λ c11 h1=>?_)
   ·refine nx 5 Z (fN [41,42,43] h1 Z (λ c12 h1=>?_) λ c12 h1=>?_)
    ·refine nx 5 Z (fN [46,47,48] h1 Z (λ c13 h1=>?_) λ c13 h1=>?_)
     ·refine nx 2 Z (oLl (f:=aj) Z Z ?_)
      refine nx 3 Z (fN [52,53,54] h1 Z (λ c14 h1=>?_) λ c14 h1=>?_)
      ·refine nx 2 Z (oLl (f:=aj) Z Z ?_)
       exact nx 3 Z (eX _ (oi h1).symm (gE Z Z))
      exact nx 6 Z (eX _ (oi h1).symm (gE Z Z))
     exact nx 12 Z (eX _ (oi h1).symm (gE Z Z))
    exact nx 17 Z (eX _ (oi h1).symm (gE Z Z))
   exact nx 22 Z (eX _ (oi h1).symm (gE Z Z))
  exact nx 27 Z (eX _ (oi h1).symm (gE Z Z))
 exact nx 32 Z (eX _ (oi h1).symm (gE Z Z))
end Go.Ab.R06
end
section
namespace Go.Ab.R06
open Go.Ab
theorem po {r_expr_Nodes r_expr_Nodes':ac→Option Int}(h_expr_Nodes:∀ x0,Le (r_expr_Nodes x0) (r_expr_Nodes' x0)){e_0:ac}:∀ (m m':Nat),m≤m'→∀ (y0:Int) (y1:Int),Le (eZ r_expr_Nodes e_0 m y0 y1) (eZ r_expr_Nodes' e_0 m' y0 y1):=by
 intro m
 induction m with
 | zero=>intro m' _ y0 y1; exact br _
 | succ m ih =>
 intro m' hm y0 y1
 cases m' with
 | zero=>omega
 | succ m' =>
 simp only [eZ]
 repeat' (with_reducible (first | exact ak _ | apply ih | apply h_expr_Nodes | refine bv ?_ | refine aQ ?_ ?_ | refine aF ?_ (λ _=>?_) | refine bw ?_ (λ _=>?_) | omega | intro _))
theorem rk (n:Nat):∀ n':Nat,n≤n'→(∀ (e_0:ac),Le (fg n e_0) (fg n' e_0)):=by
 induction n with
 | zero=>exact λ n' _=>(by intro e_0; exact br _)
 | succ n ih =>
 intro n' hn
 cases n' with
 | zero=>omega
 | succ n' =>
 have hn':n≤n':=by omega
 have ih_expr_Nodes_le:=ih n' hn'
 intro e_0
 simp only [fg]
 repeat' (with_reducible (first | exact ak _ | apply ih_expr_Nodes_le | apply po | refine bv ?_ | refine aQ ?_ ?_ | refine aF ?_ (λ _=>?_) | refine bw ?_ (λ _=>?_) | omega | intro _))
theorem rN {n n':Nat}(hn:n≤n'):∀ (e_0:ac),Le (fg n e_0) (fg n' e_0):=(rk n n' hn)
theorem kD:∀ (m m':Nat),m≤m'→∀ (y0:aa),Le (aT m y0) (aT m' y0):=by
 intro m
 induction m with
 | zero=>intro m' _ y0; exact br _
 | succ m ih =>
 intro m' hm y0
 cases m' with
 | zero=>omega
 | succ m' =>
 simp only [aT]
 repeat' (with_reducible (first | exact ak _ | apply ih | refine bv ?_ | refine aQ ?_ ?_ | refine aF ?_ (λ _=>?_) | refine bw ?_ (λ _=>?_) | omega | intro _))
theorem iX {n n':Nat}(hn:n≤n'){x_0:aa}:Le (cI n x_0) (cI n' x_0):=by
 simp only [cI]
 repeat' (with_reducible (first | exact ak _ | apply kD | refine bv ?_ | refine aQ ?_ ?_ | refine aF ?_ (λ _=>?_) | refine bw ?_ (λ _=>?_) | omega | intro _))
theorem nI {s_0:Bytes}:∀ (m m':Nat),m≤m'→∀ (y0:Int),Le (cA s_0 m y0) (cA s_0 m' y0):=by
 intro m
 induction m with
 | zero=>intro m' _ y0; exact br _
 | succ m ih =>
 intro m' hm y0
 cases m' with
 | zero=>omega
 | succ m' =>
 simp only [cA]
 repeat' (with_reducible (first | exact ak _ | apply ih | refine bv ?_ | refine aQ ?_ ?_ | refine aF ?_ (λ _=>?_) | refine bw ?_ (λ _=>?_) | omega | intro _))
theorem lO {n n':Nat}(hn:n≤n'){s_0:Bytes}:Le (eP n s_0) (eP n' s_0):=by
 simp only [eP]
 repeat' (with_reducible (first | exact ak _ | apply nI | refine bv ?_ | refine aQ ?_ ?_ | refine aF ?_ (λ _=>?_) | refine bw ?_ (λ _=>?_) | omega | intro _))
theorem iv {n n':Nat}(hn:n≤n'){x_0:aa}:Le (cu n x_0) (cu n' x_0):=by
 simp only [cu]
 repeat' (with_reducible (first | exact ak _ | apply lO | refine bv ?_ | refine aQ ?_ ?_ | refine aF ?_ (λ _=>?_) | refine bw ?_ (λ _=>?_) | omega | intro _))
theorem kT {a_1:Int}{b_2:Int}:∀ (m m':Nat),m≤m'→∀ (y0:aa),Le (bE a_1 b_2 m y0) (bE a_1 b_2 m' y0):=by
 intro m
 induction m with
 | zero=>intro m' _ y0; exact br _
 | succ m ih =>
 intro m' hm y0
 cases m' with
 | zero=>omega
 | succ m' =>
 simp only [bE]
 repeat' (with_reducible (first | exact ak _ | apply ih | refine bv ?_ | refine aQ ?_ ?_ | refine aF ?_ (λ _=>?_) | refine bw ?_ (λ _=>?_) | omega | intro _))
theorem lV {n n':Nat}(hn:n≤n'){x_0:aa}{a_1:Int}{b_2:Int}:Le (cU n x_0 a_1 b_2) (cU n' x_0 a_1 b_2):=by
 simp only [cU]
 repeat' (with_reducible (first | exact ak _ | apply kT | refine bv ?_ | refine aQ ?_ ?_ | refine aF ?_ (λ _=>?_) | refine bw ?_ (λ _=>?_) | omega | intro _))
theorem jF {r_token_scanner_interpolation r_token_scanner_interpolation':aa→Int→Option (Bool×aa)}(h_token_scanner_interpolation:∀ x0 x1,Le (r_token_scanner_interpolation x0 x1) (r_token_scanner_interpolation' x0 x1)){depth_1:Int}:∀ (m m':Nat),m≤m'→∀ (y0:aa),Le (aG r_token_scanner_interpolation depth_1 m y0) (aG r_token_scanner_interpolation' depth_1 m' y0):=by
 intro m
 induction m with
 | zero=>intro m' _ y0; exact br _
 | succ m ih =>
 intro m' hm y0
 cases m' with
 | zero=>omega
 | succ m' =>
 simp only [aG]
 repeat' (with_reducible (first | exact ak _ | apply ih | apply h_token_scanner_interpolation | refine bv ?_ | refine aQ ?_ ?_ | refine aF ?_ (λ _=>?_) | refine bw ?_ (λ _=>?_) | omega | intro _))
theorem iA {n n':Nat}(hn:n≤n'){r_token_scanner_token r_token_scanner_token':aa→Int→Option (ad×Bool×aa)}(h_token_scanner_token:∀ x0 x1,Le (r_token_scanner_token x0 x1) (r_token_scanner_token' x0 x1)){depth_1:Int}:∀ (m m':Nat),m≤m'→∀ (y0:Int) (y1:aa),Le (aD n r_token_scanner_token depth_1 m y0 y1) (aD n' r_token_scanner_token' depth_1 m' y0 y1):=by
 intro m
 induction m with
 | zero=>intro m' _ y0 y1; exact br _
 | succ m ih =>
 intro m' hm y0 y1
 cases m' with
 | zero=>omega
 | succ m' =>
 simp only [aD]
 repeat' (with_reducible (first | exact ak _ | apply ih | apply h_token_scanner_token | apply iX | apply iv | refine bv ?_ | refine aQ ?_ ?_ | refine aF ?_ (λ _=>?_) | refine bw ?_ (λ _=>?_) | omega | intro _))
theorem lf (n:Nat):∀ n':Nat,n≤n'→(∀ (x_0:aa) (depth_1:Int),Le (aM n x_0 depth_1) (aM n' x_0 depth_1))∧(∀ (x_0:aa) (depth_1:Int),Le (bX n x_0 depth_1) (bX n' x_0 depth_1))∧(∀ (x_0:aa) (depth_1:Int),Le (bP n x_0 depth_1) (bP n' x_0 depth_1))∧(∀ (x_0:aa) (depth_1:Int),Le (aA n x_0 depth_1) (aA n' x_0 depth_1)):=by
 induction n with
 | zero=>exact λ n' _=>⟨(by intro x_0 depth_1; exact br _),(by intro x_0 depth_1; exact br _),(by intro x_0 depth_1; exact br _),(by intro x_0 depth_1; exact br _)⟩
 | succ n ih =>
 intro n' hn
 cases n' with
 | zero=>omega
 | succ n' =>
 have hn':n≤n':=by omega
 obtain ⟨ih_token_scanner_token_le,ih_token_scanner_source_b_le,ih_token_scanner_source_le,ih_token_scanner_interpolation_le⟩:=ih n' hn'
 refine ⟨?_,?_,?_,?_⟩
 ·intro x_0 depth_1
  simp only [aM]
  repeat' (with_reducible (first | exact ak _ | apply ih_token_scanner_token_le | apply ih_token_scanner_source_b_le | apply ih_token_scanner_source_le | apply ih_token_scanner_interpolation_le | apply lV | apply lO | refine bv ?_ | refine aQ ?_ ?_ | refine aF ?_ (λ _=>?_) | refine bw ?_ (λ _=>?_) | omega | intro _))
 ·intro x_0 depth_1
  simp only [bX]
  repeat' (with_reducible (first | exact ak _ | apply ih_token_scanner_token_le | apply ih_token_scanner_source_b_le | apply ih_token_scanner_source_le | apply ih_token_scanner_interpolation_le | apply jF | refine bv ?_ | refine aQ ?_ ?_ | refine aF ?_ (λ _=>?_) | refine bw ?_ (λ _=>?_) | omega | intro _))
 ·intro x_0 depth_1
  simp only [bP]
  repeat' (with_reducible (first | exact ak _ | apply ih_token_scanner_token_le | apply ih_token_scanner_source_b_le | apply ih_token_scanner_source_le | apply ih_token_scanner_interpolation_le | refine bv ?_ | refine aQ ?_ ?_ | refine aF ?_ (λ _=>?_) | refine bw ?_ (λ _=>?_) | omega | intro _))
 ·intro x_0 depth_1
  simp only [aA]
  repeat' (with_reducible (first | exact ak _ | apply ih_token_scanner_token_le | apply ih_token_scanner_source_b_le | apply ih_token_scanner_source_le | apply ih_token_scanner_interpolation_le | apply iA | refine bv ?_ | refine aQ ?_ ?_ | refine aF ?_ (λ _=>?_) | refine bw ?_ (λ _=>?_) | omega | intro _))
theorem lr {n n':Nat}(hn:n≤n'):∀ (x_0:aa) (depth_1:Int),Le (aM n x_0 depth_1) (aM n' x_0 depth_1):=(lf n n' hn).1
theorem pC {n n':Nat}(hn:n≤n'):∀ (m m':Nat),m≤m'→∀ (y0:List ad) (y1:aa),Le (dA n m y0 y1) (dA n' m' y0 y1):=by
 intro m
 induction m with
 | zero=>intro m' _ y0 y1; exact br _
 | succ m ih =>
 intro m' hm y0 y1
 cases m' with
 | zero=>omega
 | succ m' =>
 simp only [dA]
 repeat' (with_reducible (first | exact ak _ | apply ih | apply iX | apply iv | apply lr | refine bv ?_ | refine aQ ?_ ?_ | refine aF ?_ (λ _=>?_) | refine bw ?_ (λ _=>?_) | omega | intro _))
theorem rW {n n':Nat}(hn:n≤n'){s_0:Bytes}:Le (gm n s_0) (gm n' s_0):=by
 simp only [gm]
 repeat' (with_reducible (first | exact ak _ | apply pC | refine bv ?_ | refine aQ ?_ ?_ | refine aF ?_ (λ _=>?_) | refine bw ?_ (λ _=>?_) | omega | intro _))
theorem ly {p_0:ae}:∀ (m m':Nat),m≤m'→∀ (y0:Int),Le (bU p_0 m y0) (bU p_0 m' y0):=by
 intro m
 induction m with
 | zero=>intro m' _ y0; exact br _
 | succ m ih =>
 intro m' hm y0
 cases m' with
 | zero=>omega
 | succ m' =>
 simp only [bU]
 repeat' (with_reducible (first | exact ak _ | apply ih | refine bv ?_ | refine aQ ?_ ?_ | refine aF ?_ (λ _=>?_) | refine bw ?_ (λ _=>?_) | omega | intro _))
theorem bB {n n':Nat}(hn:n≤n'){p_0:ae}:Le (bb n p_0) (bb n' p_0):=by
 simp only [bb]
 repeat' (with_reducible (first | exact ak _ | apply ly | refine bv ?_ | refine aQ ?_ ?_ | refine aF ?_ (λ _=>?_) | refine bw ?_ (λ _=>?_) | omega | intro _))
theorem bh {n n':Nat}(hn:n≤n'){p_0:ae}:Le (aH n p_0) (aH n' p_0):=by
 simp only [aH]
 repeat' (with_reducible (first | exact ak _ | apply bB | refine bv ?_ | refine aQ ?_ ?_ | refine aF ?_ (λ _=>?_) | refine bw ?_ (λ _=>?_) | omega | intro _))
theorem cg {n n':Nat}(hn:n≤n'){p_0:ae}{s_1:Bytes}:Le (aP n p_0 s_1) (aP n' p_0 s_1):=by
 simp only [aP]
 repeat' (with_reducible (first | exact ak _ | apply bB | refine bv ?_ | refine aQ ?_ ?_ | refine aF ?_ (λ _=>?_) | refine bw ?_ (λ _=>?_) | omega | intro _))
theorem lL {s7:Bytes}:∀ (m m':Nat),m≤m'→∀ (y0:Int),Le (bN s7 m y0) (bN s7 m' y0):=by
 intro m
 induction m with
 | zero=>intro m' _ y0; exact br _
 | succ m ih =>
 intro m' hm y0
 cases m' with
 | zero=>omega
 | succ m' =>
 simp only [bN]
 repeat' (with_reducible (first | exact ak _ | apply ih | refine bv ?_ | refine aQ ?_ ?_ | refine aF ?_ (λ _=>?_) | refine bw ?_ (λ _=>?_) | omega | intro _))
theorem nj {n n':Nat}(hn:n≤n'){s_0:Bytes}:Le (dI n s_0) (dI n' s_0):=by
 simp only [dI]
 repeat' (with_reducible (first | exact ak _ | apply lL | refine bv ?_ | refine aQ ?_ ?_ | refine aF ?_ (λ _=>?_) | refine bw ?_ (λ _=>?_) | omega | intro _))
theorem qk {n n':Nat}(hn:n≤n'){s_0:Bytes}:Le (fz n s_0) (fz n' s_0):=by
 simp only [fz]
 repeat' (with_reducible (first | exact ak _ | apply nj | refine bv ?_ | refine aQ ?_ ?_ | refine aF ?_ (λ _=>?_) | refine bw ?_ (λ _=>?_) | omega | intro _))
theorem pJ {v_0:ah}:∀ (m m':Nat),m≤m'→∀ (y0:Int),Le (fb v_0 m y0) (fb v_0 m' y0):=by
 intro m
 induction m with
 | zero=>intro m' _ y0; exact br _
 | succ m ih =>
 intro m' hm y0
 cases m' with
 | zero=>omega
 | succ m' =>
 simp only [fb]
 repeat' (with_reducible (first | exact ak _ | apply ih | refine bv ?_ | refine aQ ?_ ?_ | refine aF ?_ (λ _=>?_) | refine bw ?_ (λ _=>?_) | omega | intro _))
theorem rU {n n':Nat}(hn:n≤n'){v_0:ah}:Le (gx n v_0) (gx n' v_0):=by
 simp only [gx]
 repeat' (with_reducible (first | exact ak _ | apply pJ | refine bv ?_ | refine aQ ?_ ?_ | refine aF ?_ (λ _=>?_) | refine bw ?_ (λ _=>?_) | omega | intro _))
theorem ni {r_value_Check_1 r_value_Check_1':ah→Int→Int→Option (Int×Int)}(h_value_Check_1:∀ x0 x1 x2,Le (r_value_Check_1 x0 x1 x2) (r_value_Check_1' x0 x1 x2)){v_0:ah}{level_1:Int}:∀ (m m':Nat),m≤m'→∀ (y0:Int) (y1:Int),Le (cQ r_value_Check_1 v_0 level_1 m y0 y1) (cQ r_value_Check_1' v_0 level_1 m' y0 y1):=by
 intro m
 induction m with
 | zero=>intro m' _ y0 y1; exact br _
 | succ m ih =>
 intro m' hm y0 y1
 cases m' with
 | zero=>omega
 | succ m' =>
 simp only [cQ]
 repeat' (with_reducible (first | exact ak _ | apply ih | apply h_value_Check_1 | refine bv ?_ | refine aQ ?_ ?_ | refine aF ?_ (λ _=>?_) | refine bw ?_ (λ _=>?_) | omega | intro _))
theorem ou (n:Nat):∀ n':Nat,n≤n'→(∀ (v_0:ah) (level_1:Int) (cap_0:Int),Le (cO n v_0 level_1 cap_0) (cO n' v_0 level_1 cap_0)):=by
 induction n with
 | zero=>exact λ n' _=>(by intro v_0 level_1 cap_0; exact br _)
 | succ n ih =>
 intro n' hn
 cases n' with
 | zero=>omega
 | succ n' =>
 have hn':n≤n':=by omega
 have ih_value_Check_1_le:=ih n' hn'
 intro v_0 level_1 cap_0
 simp only [cO]
 repeat' (with_reducible (first | exact ak _ | apply ih_value_Check_1_le | apply rU | apply ni | refine bv ?_ | refine aQ ?_ ?_ | refine aF ?_ (λ _=>?_) | refine bw ?_ (λ _=>?_) | omega | intro _))
theorem pP {n n':Nat}(hn:n≤n'):∀ (v_0:ah) (level_1:Int) (cap_0:Int),Le (cO n v_0 level_1 cap_0) (cO n' v_0 level_1 cap_0):=(ou n n' hn)
theorem rn {n n':Nat}(hn:n≤n'){v_0:ah}:Le (gf n v_0) (gf n' v_0):=by
 simp only [gf]
 repeat' (with_reducible (first | exact ak _ | apply pP | refine bv ?_ | refine aQ ?_ ?_ | refine aF ?_ (λ _=>?_) | refine bw ?_ (λ _=>?_) | omega | intro _))
theorem lS {s_0:Bytes}:∀ (m m':Nat),m≤m'→∀ (y0:Int),Le (ca s_0 m y0) (ca s_0 m' y0):=by
 intro m
 induction m with
 | zero=>intro m' _ y0; exact br _
 | succ m ih =>
 intro m' hm y0
 cases m' with
 | zero=>omega
 | succ m' =>
 simp only [ca]
 repeat' (with_reducible (first | exact ak _ | apply ih | refine bv ?_ | refine aQ ?_ ?_ | refine aF ?_ (λ _=>?_) | refine bw ?_ (λ _=>?_) | omega | intro _))
theorem nO {n n':Nat}(hn:n≤n'){s_0:Bytes}:Le (dB n s_0) (dB n' s_0):=by
 simp only [dB]
 repeat' (with_reducible (first | exact ak _ | apply lS | refine bv ?_ | refine aQ ?_ ?_ | refine aF ?_ (λ _=>?_) | refine bw ?_ (λ _=>?_) | omega | intro _))
theorem tz {n n':Nat}(hn:n≤n'){e_0:ac}:Le (iz n e_0) (iz n' e_0):=by
 simp only [iz]
 repeat' (with_reducible (first | exact ak _ | apply rn | apply nO | refine bv ?_ | refine aQ ?_ ?_ | refine aF ?_ (λ _=>?_) | refine bw ?_ (λ _=>?_) | omega | intro _))
theorem kL {r_expr_checker_visit r_expr_checker_visit':bQ→ac→Int→Option (Int×bQ)}(h_expr_checker_visit:∀ x0 x1 x2,Le (r_expr_checker_visit x0 x1 x2) (r_expr_checker_visit' x0 x1 x2)){e_1:ac}{level_2:Int}:∀ (m m':Nat),m≤m'→∀ (y0:Int) (y1:Int),Le (bp r_expr_checker_visit e_1 level_2 m y0 y1) (bp r_expr_checker_visit' e_1 level_2 m' y0 y1):=by
 intro m
 induction m with
 | zero=>intro m' _ y0 y1; exact br _
 | succ m ih =>
 intro m' hm y0 y1
 cases m' with
 | zero=>omega
 | succ m' =>
 simp only [bp]
 repeat' (with_reducible (first | exact ak _ | apply ih | apply h_expr_checker_visit | refine bv ?_ | refine aQ ?_ ?_ | refine aF ?_ (λ _=>?_) | refine bw ?_ (λ _=>?_) | omega | intro _))
theorem lz (n:Nat):∀ n':Nat,n≤n'→(∀ (c_0:bQ) (e_1:ac) (level_2:Int),Le (bj n c_0 e_1 level_2) (bj n' c_0 e_1 level_2)):=by
 induction n with
 | zero=>exact λ n' _=>(by intro c_0 e_1 level_2; exact br _)
 | succ n ih =>
 intro n' hn
 cases n' with
 | zero=>omega
 | succ n' =>
 have hn':n≤n':=by omega
 have ih_expr_checker_visit_le:=ih n' hn'
 intro c_0 e_1 level_2
 simp only [bj]
 repeat' (with_reducible (first | exact ak _ | apply ih_expr_checker_visit_le | apply tz | apply kL | refine bv ?_ | refine aQ ?_ ?_ | refine aF ?_ (λ _=>?_) | refine bw ?_ (λ _=>?_) | omega | intro _))
theorem lR {n n':Nat}(hn:n≤n'):∀ (c_0:bQ) (e_1:ac) (level_2:Int),Le (bj n c_0 e_1 level_2) (bj n' c_0 e_1 level_2):=(lz n n' hn)
theorem rH {n n':Nat}(hn:n≤n'){e_0:ac}:Le (gD n e_0) (gD n' e_0):=by
 simp only [gD]
 repeat' (with_reducible (first | exact ak _ | apply lR | refine bv ?_ | refine aQ ?_ ?_ | refine aF ?_ (λ _=>?_) | refine bw ?_ (λ _=>?_) | omega | intro _))
theorem my {n n':Nat}(hn:n≤n'){e_0:ac}{d_1:ax}:Le (eW n e_0 d_1) (eW n' e_0 d_1):=by
 simp only [eW]
 repeat' (with_reducible (first | exact ak _ | apply rH | refine bv ?_ | refine aQ ?_ ?_ | refine aF ?_ (λ _=>?_) | refine bw ?_ (λ _=>?_) | omega | intro _))
theorem nG {r_expr_quoted r_expr_quoted':Bytes→Int→Option Int}(h_expr_quoted:∀ x0 x1,Le (r_expr_quoted x0 x1) (r_expr_quoted' x0 x1)){s_0:Bytes}:∀ (m m':Nat),m≤m'→∀ (y0:Int) (y1:Int),Le (cz r_expr_quoted s_0 m y0 y1) (cz r_expr_quoted' s_0 m' y0 y1):=by
 intro m
 induction m with
 | zero=>intro m' _ y0 y1; exact br _
 | succ m ih =>
 intro m' hm y0 y1
 cases m' with
 | zero=>omega
 | succ m' =>
 simp only [cz]
 repeat' (with_reducible (first | exact ak _ | apply ih | apply h_expr_quoted | refine bv ?_ | refine aQ ?_ ?_ | refine aF ?_ (λ _=>?_) | refine bw ?_ (λ _=>?_) | omega | intro _))
theorem oB {r_expr_closing r_expr_closing':Bytes→Int→Option Int}(h_expr_closing:∀ x0 x1,Le (r_expr_closing x0 x1) (r_expr_closing' x0 x1)){s_0:Bytes}:∀ (m m':Nat),m≤m'→∀ (y0:Int),Le (cJ r_expr_closing s_0 m y0) (cJ r_expr_closing' s_0 m' y0):=by
 intro m
 induction m with
 | zero=>intro m' _ y0; exact br _
 | succ m ih =>
 intro m' hm y0
 cases m' with
 | zero=>omega
 | succ m' =>
 simp only [cJ]
 repeat' (with_reducible (first | exact ak _ | apply ih | apply h_expr_closing | refine bv ?_ | refine aQ ?_ ?_ | refine aF ?_ (λ _=>?_) | refine bw ?_ (λ _=>?_) | omega | intro _))
theorem pj (n:Nat):∀ n':Nat,n≤n'→(∀ (s_0:Bytes) (i_1:Int),Le (cr n s_0 i_1) (cr n' s_0 i_1))∧(∀ (s_0:Bytes) (i_1:Int),Le (dM n s_0 i_1) (dM n' s_0 i_1)):=by
 induction n with
 | zero=>exact λ n' _=>⟨(by intro s_0 i_1; exact br _),(by intro s_0 i_1; exact br _)⟩
 | succ n ih =>
 intro n' hn
 cases n' with
 | zero=>omega
 | succ n' =>
 have hn':n≤n':=by omega
 obtain ⟨ih_expr_closing_le,ih_expr_quoted_le⟩:=ih n' hn'
 refine ⟨?_,?_⟩
 ·intro s_0 i_1
  simp only [cr]
  repeat' (with_reducible (first | exact ak _ | apply ih_expr_closing_le | apply ih_expr_quoted_le | apply nG | refine bv ?_ | refine aQ ?_ ?_ | refine aF ?_ (λ _=>?_) | refine bw ?_ (λ _=>?_) | omega | intro _))
 ·intro s_0 i_1
  simp only [dM]
  repeat' (with_reducible (first | exact ak _ | apply ih_expr_closing_le | apply ih_expr_quoted_le | apply oB | refine bv ?_ | refine aQ ?_ ?_ | refine aF ?_ (λ _=>?_) | refine bw ?_ (λ _=>?_) | omega | intro _))
theorem qh {n n':Nat}(hn:n≤n'):∀ (s_0:Bytes) (i_1:Int),Le (cr n s_0 i_1) (cr n' s_0 i_1):=(pj n n' hn).1
theorem lI {s_0:Bytes}:∀ (m m':Nat),m≤m'→∀ (y0:Int),Le (bC s_0 m y0) (bC s_0 m' y0):=by
 intro m
 induction m with
 | zero=>intro m' _ y0; exact br _
 | succ m ih =>
 intro m' hm y0
 cases m' with
 | zero=>omega
 | succ m' =>
 simp only [bC]
 repeat' (with_reducible (first | exact ak _ | apply ih | refine bv ?_ | refine aQ ?_ ?_ | refine aF ?_ (λ _=>?_) | refine bw ?_ (λ _=>?_) | omega | intro _))
theorem nh {n n':Nat}(hn:n≤n'){s_0:Bytes}:Le (dJ n s_0) (dJ n' s_0):=by
 simp only [dJ]
 repeat' (with_reducible (first | exact ak _ | apply lI | refine bv ?_ | refine aQ ?_ ?_ | refine aF ?_ (λ _=>?_) | refine bw ?_ (λ _=>?_) | omega | intro _))
theorem kz {s_0:Bytes}:∀ (m m':Nat),m≤m'→∀ (y0:Int) (y1:Int),Le (bG s_0 m y0 y1) (bG s_0 m' y0 y1):=by
 intro m
 induction m with
 | zero=>intro m' _ y0 y1; exact br _
 | succ m ih =>
 intro m' hm y0 y1
 cases m' with
 | zero=>omega
 | succ m' =>
 simp only [bG]
 repeat' (with_reducible (first | exact ak _ | apply ih | refine bv ?_ | refine aQ ?_ ?_ | refine aF ?_ (λ _=>?_) | refine bw ?_ (λ _=>?_) | omega | intro _))
theorem lP {n n':Nat}(hn:n≤n'){s_0:Bytes}:Le (cF n s_0) (cF n' s_0):=by
 simp only [cF]
 repeat' (with_reducible (first | exact ak _ | apply kz | refine bv ?_ | refine aQ ?_ ?_ | refine aF ?_ (λ _=>?_) | refine bw ?_ (λ _=>?_) | omega | intro _))
theorem pN {n n':Nat}(hn:n≤n'){s_0:Bytes}:Le (eY n s_0) (eY n' s_0):=by
 simp only [eY]
 repeat' (with_reducible (first | exact ak _ | apply lP | refine bv ?_ | refine aQ ?_ ?_ | refine aF ?_ (λ _=>?_) | refine bw ?_ (λ _=>?_) | omega | intro _))
theorem lX {n n':Nat}(hn:n≤n'){s_0:Bytes}:∀ (m m':Nat),m≤m'→∀ (y0:Int) (y1:List UInt8),Le (cC n s_0 m y0 y1) (cC n' s_0 m' y0 y1):=by
 intro m
 induction m with
 | zero=>intro m' _ y0 y1; exact br _
 | succ m ih =>
 intro m' hm y0 y1
 cases m' with
 | zero=>omega
 | succ m' =>
 simp only [cC]
 repeat' (with_reducible (first | exact ak _ | apply ih | apply pN | refine bv ?_ | refine aQ ?_ ?_ | refine aF ?_ (λ _=>?_) | refine bw ?_ (λ _=>?_) | omega | intro _))
theorem oH {n n':Nat}(hn:n≤n'){s_0:Bytes}:Le (dT n s_0) (dT n' s_0):=by
 simp only [dT]
 repeat' (with_reducible (first | exact ak _ | apply lX | refine bv ?_ | refine aQ ?_ ?_ | refine aF ?_ (λ _=>?_) | refine bw ?_ (λ _=>?_) | omega | intro _))
theorem qF {n n':Nat}(hn:n≤n'){s_0:Bytes}:Le (ge n s_0) (ge n' s_0):=by
 simp only [ge]
 repeat' (with_reducible (first | exact ak _ | apply nh | apply oH | refine bv ?_ | refine aQ ?_ ?_ | refine aF ?_ (λ _=>?_) | refine bw ?_ (λ _=>?_) | omega | intro _))
theorem lQ {n n':Nat}(hn:n≤n'){t_0:al}:Le (dc n t_0) (dc n' t_0):=by
 simp only [dc]
 repeat' (with_reducible (first | exact ak _ | apply qF | refine bv ?_ | refine aQ ?_ ?_ | refine aF ?_ (λ _=>?_) | refine bw ?_ (λ _=>?_) | omega | intro _))
theorem fH {n n':Nat}(hn:n≤n'){p_0:ae}:Le (b6 n p_0) (b6 n' p_0):=by
 simp only [b6]
 repeat' (with_reducible (first | exact ak _ | apply bh | refine bv ?_ | refine aQ ?_ ?_ | refine aF ?_ (λ _=>?_) | refine bw ?_ (λ _=>?_) | omega | intro _))
theorem fJ {n n':Nat}(hn:n≤n'){p_0:ae}{s_1:Bytes}:Le (bR n p_0 s_1) (bR n' p_0 s_1):=by
 simp only [bR]
 repeat' (with_reducible (first | exact ak _ | apply cg | apply bB | apply bh | refine bv ?_ | refine aQ ?_ ?_ | refine aF ?_ (λ _=>?_) | refine bw ?_ (λ _=>?_) | omega | intro _))
theorem eA {n n':Nat}(hn:n≤n'){p_0:ae}{s_1:Bytes}:Le (bf n p_0 s_1) (bf n' p_0 s_1):=by
 simp only [bf]
 repeat' (with_reducible (first | exact ak _ | apply fJ | refine bv ?_ | refine aQ ?_ ?_ | refine aF ?_ (λ _=>?_) | refine bw ?_ (λ _=>?_) | omega | intro _))
theorem gZ {n n':Nat}(hn:n≤n'){p_0:ae}{s_1:Bytes}:Le (bZ n p_0 s_1) (bZ n' p_0 s_1):=by
 simp only [bZ]
 repeat' (with_reducible (first | exact ak _ | apply bB | refine bv ?_ | refine aQ ?_ ?_ | refine aF ?_ (λ _=>?_) | refine bw ?_ (λ _=>?_) | omega | intro _))
theorem kS {n n':Nat}(hn:n≤n'){p_0:ae}:Le (ct n p_0) (ct n' p_0):=by
 simp only [ct]
 repeat' (with_reducible (first | exact ak _ | apply bB | apply bh | refine bv ?_ | refine aQ ?_ ?_ | refine aF ?_ (λ _=>?_) | refine bw ?_ (λ _=>?_) | omega | intro _))
theorem lq {n n':Nat}(hn:n≤n'){p_0:ae}{s_1:Bytes}:Le (ce n p_0 s_1) (ce n' p_0 s_1):=by
 simp only [ce]
 repeat' (with_reducible (first | exact ak _ | apply gZ | apply bB | apply bh | refine bv ?_ | refine aQ ?_ ?_ | refine aF ?_ (λ _=>?_) | refine bw ?_ (λ _=>?_) | omega | intro _))
theorem kU {n n':Nat}(hn:n≤n'){l_1:List Bytes}:∀ (m m':Nat),m≤m'→∀ (y0:Int) (y1:List ad) (y2:Int) (y3:Int) (y4:Int) (y5:Int) (y6:Int) (y7:Bytes),Le (a8 n l_1 m y0 y1 y2 y3 y4 y5 y6 y7) (a8 n' l_1 m' y0 y1 y2 y3 y4 y5 y6 y7):=by
 intro m
 induction m with
 | zero=>intro m' _ y0 y1 y2 y3 y4 y5 y6 y7; exact br _
 | succ m ih =>
 intro m' hm y0 y1 y2 y3 y4 y5 y6 y7
 cases m' with
 | zero=>omega
 | succ m' =>
 simp only [a8]
 repeat' (with_reducible (first | exact ak _ | apply ih | apply cg | refine bv ?_ | refine aQ ?_ ?_ | refine aF ?_ (λ _=>?_) | refine bw ?_ (λ _=>?_) | omega | intro _))
theorem md {n n':Nat}(hn:n≤n'){p_0:ae}{l_1:List Bytes}:Le (cD n p_0 l_1) (cD n' p_0 l_1):=by
 simp only [cD]
 repeat' (with_reducible (first | exact ak _ | apply kU | refine bv ?_ | refine aQ ?_ ?_ | refine aF ?_ (λ _=>?_) | refine bw ?_ (λ _=>?_) | omega | intro _))
theorem rT {s_0:Bytes}:∀ (m m':Nat),m≤m'→∀ (y0:Int),Le (eM s_0 m y0) (eM s_0 m' y0):=by
 intro m
 induction m with
 | zero=>intro m' _ y0; exact br _
 | succ m ih =>
 intro m' hm y0
 cases m' with
 | zero=>omega
 | succ m' =>
 simp only [eM]
 repeat' (with_reducible (first | exact ak _ | apply ih | refine bv ?_ | refine aQ ?_ ?_ | refine aF ?_ (λ _=>?_) | refine bw ?_ (λ _=>?_) | omega | intro _))
theorem wP {n n':Nat}(hn:n≤n'){s_0:Bytes}:Le (kx n s_0) (kx n' s_0):=by
 simp only [kx]
 repeat' (with_reducible (first | exact ak _ | apply rT | refine bv ?_ | refine aQ ?_ ?_ | refine aF ?_ (λ _=>?_) | refine bw ?_ (λ _=>?_) | omega | intro _))
theorem kP {n n':Nat}(hn:n≤n'){r_expr_template_interpolation r_expr_template_interpolation':al→Option (ax×al)}(h_expr_template_interpolation:∀ x0,Le (r_expr_template_interpolation x0) (r_expr_template_interpolation' x0)):∀ (m m':Nat),m≤m'→∀ (y0:Bytes) (y1:Int) (y2:Int) (y3:Int) (y4:Bytes) (y5:List ac) (y6:Bool),Le (bo n r_expr_template_interpolation m y0 y1 y2 y3 y4 y5 y6) (bo n' r_expr_template_interpolation' m' y0 y1 y2 y3 y4 y5 y6):=by
 intro m
 induction m with
 | zero=>intro m' _ y0 y1 y2 y3 y4 y5 y6; exact br _
 | succ m ih =>
 intro m' hm y0 y1 y2 y3 y4 y5 y6
 cases m' with
 | zero=>omega
 | succ m' =>
 simp only [bo]
 repeat' (with_reducible (first | exact ak _ | apply ih | apply h_expr_template_interpolation | apply lQ | refine bv ?_ | refine aQ ?_ ?_ | refine aF ?_ (λ _=>?_) | refine bw ?_ (λ _=>?_) | omega | intro _))
theorem kO {n n':Nat}(hn:n≤n'){r_expr_parser_binary r_expr_parser_binary':ae→Int→Option (ac×ae)}(h_expr_parser_binary:∀ x0 x1,Le (r_expr_parser_binary x0 x1) (r_expr_parser_binary' x0 x1)){level_1:Int}{r5:ac×ae}:∀ (m m':Nat),m≤m'→∀ (y0:Int) (y1:Int) (y2:Bytes) (y3:Bytes) (y4:Int) (y5:Int) (y6:Bytes) (y7:List ah) (y8:List Bytes) (y9:List ac) (y10:List ad) (y11:Int) (y12:Int) (y13:Int) (y14:Int) (y15:Int) (y16:Bytes),Le (bm n r_expr_parser_binary level_1 r5 m y0 y1 y2 y3 y4 y5 y6 y7 y8 y9 y10 y11 y12 y13 y14 y15 y16) (bm n' r_expr_parser_binary' level_1 r5 m' y0 y1 y2 y3 y4 y5 y6 y7 y8 y9 y10 y11 y12 y13 y14 y15 y16):=by
 intro m
 induction m with
 | zero=>intro m' _ y0 y1 y2 y3 y4 y5 y6 y7 y8 y9 y10 y11 y12 y13 y14 y15 y16; exact br _
 | succ m ih =>
 intro m' hm y0 y1 y2 y3 y4 y5 y6 y7 y8 y9 y10 y11 y12 y13 y14 y15 y16
 cases m' with
 | zero=>omega
 | succ m' =>
 simp only [bm]
 repeat' (with_reducible (first | exact ak _ | apply ih | apply h_expr_parser_binary | apply md | apply bh | apply wP | refine bv ?_ | refine aQ ?_ ?_ | refine aF ?_ (λ _=>?_) | refine bw ?_ (λ _=>?_) | omega | intro _))
theorem kh {n n':Nat}(hn:n≤n'){r_expr_parser_expr r_expr_parser_expr':ae→Option (ac×ae)}(h_expr_parser_expr:∀ x0,Le (r_expr_parser_expr x0) (r_expr_parser_expr' x0)){r1:ac×ae}:∀ (m m':Nat),m≤m'→∀ (y0:Int) (y1:Int) (y2:Bytes) (y3:Bytes) (y4:Int) (y5:Int) (y6:Bytes) (y7:List ah) (y8:List Bytes) (y9:List ac) (y10:List ad) (y11:Int) (y12:Int) (y13:Int) (y14:Int) (y15:Int) (y16:Bytes),Le (bg n r_expr_parser_expr r1 m y0 y1 y2 y3 y4 y5 y6 y7 y8 y9 y10 y11 y12 y13 y14 y15 y16) (bg n' r_expr_parser_expr' r1 m' y0 y1 y2 y3 y4 y5 y6 y7 y8 y9 y10 y11 y12 y13 y14 y15 y16):=by
 intro m
 induction m with
 | zero=>intro m' _ y0 y1 y2 y3 y4 y5 y6 y7 y8 y9 y10 y11 y12 y13 y14 y15 y16; exact br _
 | succ m ih =>
 intro m' hm y0 y1 y2 y3 y4 y5 y6 y7 y8 y9 y10 y11 y12 y13 y14 y15 y16
 cases m' with
 | zero=>omega
 | succ m' =>
 simp only [bg]
 repeat' (with_reducible (first | exact ak _ | apply ih | apply h_expr_parser_expr | apply cg | apply bh | apply bB | apply fH | apply eA | refine bv ?_ | refine aQ ?_ ?_ | refine aF ?_ (λ _=>?_) | refine bw ?_ (λ _=>?_) | omega | intro _))
theorem lF {n n':Nat}(hn:n≤n'){r_expr_parser_expr r_expr_parser_expr':ae→Option (ac×ae)}(h_expr_parser_expr:∀ x0,Le (r_expr_parser_expr x0) (r_expr_parser_expr' x0)){end_1:Bytes}:∀ (m m':Nat),m≤m'→∀ (y0:List ac) (y1:List ad) (y2:Int) (y3:Int) (y4:Int) (y5:Int) (y6:Int) (y7:Bytes),Le (bW n r_expr_parser_expr end_1 m y0 y1 y2 y3 y4 y5 y6 y7) (bW n' r_expr_parser_expr' end_1 m' y0 y1 y2 y3 y4 y5 y6 y7):=by
 intro m
 induction m with
 | zero=>intro m' _ y0 y1 y2 y3 y4 y5 y6 y7; exact br _
 | succ m ih =>
 intro m' hm y0 y1 y2 y3 y4 y5 y6 y7
 cases m' with
 | zero=>omega
 | succ m' =>
 simp only [bW]
 repeat' (with_reducible (first | exact ak _ | apply ih | apply h_expr_parser_expr | apply cg | apply bh | refine bv ?_ | refine aQ ?_ ?_ | refine aF ?_ (λ _=>?_) | refine bw ?_ (λ _=>?_) | omega | intro _))
theorem kg {n n':Nat}(hn:n≤n'){r_expr_parser_expr r_expr_parser_expr':ae→Option (ac×ae)}(h_expr_parser_expr:∀ x0,Le (r_expr_parser_expr x0) (r_expr_parser_expr' x0)){r_expr_parser_key r_expr_parser_key':ae→Option (ac×ae)}(h_expr_parser_key:∀ x0,Le (r_expr_parser_key x0) (r_expr_parser_key' x0)):∀ (m m':Nat),m≤m'→∀ (y0:List ac) (y1:List ad) (y2:Int) (y3:Int) (y4:Int) (y5:Int) (y6:Int) (y7:Bytes),Le (bA n r_expr_parser_expr r_expr_parser_key m y0 y1 y2 y3 y4 y5 y6 y7) (bA n' r_expr_parser_expr' r_expr_parser_key' m' y0 y1 y2 y3 y4 y5 y6 y7):=by
 intro m
 induction m with
 | zero=>intro m' _ y0 y1 y2 y3 y4 y5 y6 y7; exact br _
 | succ m ih =>
 intro m' hm y0 y1 y2 y3 y4 y5 y6 y7
 cases m' with
 | zero=>omega
 | succ m' =>
 simp only [bA]
 repeat' (with_reducible (first | exact ak _ | apply ih | apply h_expr_parser_expr | apply h_expr_parser_key | apply cg | apply fJ | apply bh | refine bv ?_ | refine aQ ?_ ?_ | refine aF ?_ (λ _=>?_) | refine bw ?_ (λ _=>?_) | omega | intro _))
theorem oR (n:Nat):∀ n':Nat,n≤n'→(∀ (s_0:Bytes) (at_1:Int),Le (eu n s_0 at_1) (eu n' s_0 at_1))∧(∀ (s_0:Bytes) (base_1:Int),Le (dU n s_0 base_1) (dU n' s_0 base_1))∧(∀ (t_0:al),Le (db n t_0) (db n' t_0))∧(∀ (p_0:ae),Le (ay n p_0) (ay n' p_0))∧(∀ (t_0:al),Le (aC n t_0) (aC n' t_0))∧(∀ (p_0:ae) (level_1:Int),Le (aO n p_0 level_1) (aO n' p_0 level_1))∧(∀ (p_0:ae),Le (b8 n p_0) (b8 n' p_0))∧(∀ (p_0:ae),Le (cj n p_0) (cj n' p_0))∧(∀ (p_0:ae),Le (bV n p_0) (bV n' p_0))∧(∀ (p_0:ae),Le (cP n p_0) (cP n' p_0))∧(∀ (p_0:ae),Le (dk n p_0) (dk n' p_0))∧(∀ (p_0:ae),Le (da n p_0) (da n' p_0))∧(∀ (p_0:ae) (end_1:Bytes),Le (dm n p_0 end_1) (dm n' p_0 end_1))∧(∀ (p_0:ae) (at_1:Int) (k_2:Int),Le (cN n p_0 at_1 k_2) (cN n' p_0 at_1 k_2))∧(∀ (p_0:ae),Le (cS n p_0) (cS n' p_0))∧(∀ (p_0:ae),Le (cp n p_0) (cp n' p_0)):=by
 induction n with
 | zero=>exact λ n' _=>⟨(by intro s_0 at_1; exact br _),(by intro s_0 base_1; exact br _),(by intro t_0; exact br _),(by intro p_0; exact br _),(by intro t_0; exact br _),(by intro p_0 level_1; exact br _),(by intro p_0; exact br _),(by intro p_0; exact br _),(by intro p_0; exact br _),(by intro p_0; exact br _),(by intro p_0; exact br _),(by intro p_0; exact br _),(by intro p_0 end_1; exact br _),(by intro p_0 at_1 k_2; exact br _),(by intro p_0; exact br _),(by intro p_0; exact br _)⟩
 | succ n ih =>
 intro n' hn
 cases n' with
 | zero=>omega
 | succ n' =>
 have hn':n≤n':=by omega
 obtain ⟨ih_expr_Template_le,ih_expr_whole_le,ih_expr_template_read_le,ih_expr_parser_expr_le,ih_expr_template_interpolation_le,ih_expr_parser_binary_le,ih_expr_parser_unary_le,ih_expr_parser_postfix_le,ih_expr_parser_primary_le,ih_expr_parser_text_le,ih_expr_parser_name_le,ih_expr_parser_enclosed_le,ih_expr_parser_list_le,ih_expr_parser_loop_le,ih_expr_parser_entries_le,ih_expr_parser_key_le⟩:=ih n' hn'
 refine ⟨?_,?_,?_,?_,?_,?_,?_,?_,?_,?_,?_,?_,?_,?_,?_,?_⟩
 ·intro s_0 at_1
  simp only [eu]
  repeat' (with_reducible (first | exact ak _ | apply ih_expr_Template_le | apply ih_expr_whole_le | apply ih_expr_template_read_le | apply ih_expr_parser_expr_le | apply ih_expr_template_interpolation_le | apply ih_expr_parser_binary_le | apply ih_expr_parser_unary_le | apply ih_expr_parser_postfix_le | apply ih_expr_parser_primary_le | apply ih_expr_parser_text_le | apply ih_expr_parser_name_le | apply ih_expr_parser_enclosed_le | apply ih_expr_parser_list_le | apply ih_expr_parser_loop_le | apply ih_expr_parser_entries_le | apply ih_expr_parser_key_le | apply my | refine bv ?_ | refine aQ ?_ ?_ | refine aF ?_ (λ _=>?_) | refine bw ?_ (λ _=>?_) | omega | intro _))
 ·intro s_0 base_1
  simp only [dU]
  repeat' (with_reducible (first | exact ak _ | apply ih_expr_Template_le | apply ih_expr_whole_le | apply ih_expr_template_read_le | apply ih_expr_parser_expr_le | apply ih_expr_template_interpolation_le | apply ih_expr_parser_binary_le | apply ih_expr_parser_unary_le | apply ih_expr_parser_postfix_le | apply ih_expr_parser_primary_le | apply ih_expr_parser_text_le | apply ih_expr_parser_name_le | apply ih_expr_parser_enclosed_le | apply ih_expr_parser_list_le | apply ih_expr_parser_loop_le | apply ih_expr_parser_entries_le | apply ih_expr_parser_key_le | apply rW | apply bB | refine bv ?_ | refine aQ ?_ ?_ | refine aF ?_ (λ _=>?_) | refine bw ?_ (λ _=>?_) | omega | intro _))
 ·intro t_0
  simp only [db]
  repeat' (with_reducible (first | exact ak _ | apply ih_expr_Template_le | apply ih_expr_whole_le | apply ih_expr_template_read_le | apply ih_expr_parser_expr_le | apply ih_expr_template_interpolation_le | apply ih_expr_parser_binary_le | apply ih_expr_parser_unary_le | apply ih_expr_parser_postfix_le | apply ih_expr_parser_primary_le | apply ih_expr_parser_text_le | apply ih_expr_parser_name_le | apply ih_expr_parser_enclosed_le | apply ih_expr_parser_list_le | apply ih_expr_parser_loop_le | apply ih_expr_parser_entries_le | apply ih_expr_parser_key_le | apply kP | refine bv ?_ | refine aQ ?_ ?_ | refine aF ?_ (λ _=>?_) | refine bw ?_ (λ _=>?_) | omega | intro _))
 ·intro p_0
  simp only [ay]
  repeat' (with_reducible (first | exact ak _ | apply ih_expr_Template_le | apply ih_expr_whole_le | apply ih_expr_template_read_le | apply ih_expr_parser_expr_le | apply ih_expr_template_interpolation_le | apply ih_expr_parser_binary_le | apply ih_expr_parser_unary_le | apply ih_expr_parser_postfix_le | apply ih_expr_parser_primary_le | apply ih_expr_parser_text_le | apply ih_expr_parser_name_le | apply ih_expr_parser_enclosed_le | apply ih_expr_parser_list_le | apply ih_expr_parser_loop_le | apply ih_expr_parser_entries_le | apply ih_expr_parser_key_le | apply cg | apply bh | apply fJ | refine bv ?_ | refine aQ ?_ ?_ | refine aF ?_ (λ _=>?_) | refine bw ?_ (λ _=>?_) | omega | intro _))
 ·intro t_0
  simp only [aC]
  repeat' (with_reducible (first | exact ak _ | apply ih_expr_Template_le | apply ih_expr_whole_le | apply ih_expr_template_read_le | apply ih_expr_parser_expr_le | apply ih_expr_template_interpolation_le | apply ih_expr_parser_binary_le | apply ih_expr_parser_unary_le | apply ih_expr_parser_postfix_le | apply ih_expr_parser_primary_le | apply ih_expr_parser_text_le | apply ih_expr_parser_name_le | apply ih_expr_parser_enclosed_le | apply ih_expr_parser_list_le | apply ih_expr_parser_loop_le | apply ih_expr_parser_entries_le | apply ih_expr_parser_key_le | apply qh | refine bv ?_ | refine aQ ?_ ?_ | refine aF ?_ (λ _=>?_) | refine bw ?_ (λ _=>?_) | omega | intro _))
 ·intro p_0 level_1
  simp only [aO]
  repeat' (with_reducible (first | exact ak _ | apply ih_expr_Template_le | apply ih_expr_whole_le | apply ih_expr_template_read_le | apply ih_expr_parser_expr_le | apply ih_expr_template_interpolation_le | apply ih_expr_parser_binary_le | apply ih_expr_parser_unary_le | apply ih_expr_parser_postfix_le | apply ih_expr_parser_primary_le | apply ih_expr_parser_text_le | apply ih_expr_parser_name_le | apply ih_expr_parser_enclosed_le | apply ih_expr_parser_list_le | apply ih_expr_parser_loop_le | apply ih_expr_parser_entries_le | apply ih_expr_parser_key_le | apply kO | refine bv ?_ | refine aQ ?_ ?_ | refine aF ?_ (λ _=>?_) | refine bw ?_ (λ _=>?_) | omega | intro _))
 ·intro p_0
  simp only [b8]
  repeat' (with_reducible (first | exact ak _ | apply ih_expr_Template_le | apply ih_expr_whole_le | apply ih_expr_template_read_le | apply ih_expr_parser_expr_le | apply ih_expr_template_interpolation_le | apply ih_expr_parser_binary_le | apply ih_expr_parser_unary_le | apply ih_expr_parser_postfix_le | apply ih_expr_parser_primary_le | apply ih_expr_parser_text_le | apply ih_expr_parser_name_le | apply ih_expr_parser_enclosed_le | apply ih_expr_parser_list_le | apply ih_expr_parser_loop_le | apply ih_expr_parser_entries_le | apply ih_expr_parser_key_le | apply cg | apply bh | refine bv ?_ | refine aQ ?_ ?_ | refine aF ?_ (λ _=>?_) | refine bw ?_ (λ _=>?_) | omega | intro _))
 ·intro p_0
  simp only [cj]
  repeat' (with_reducible (first | exact ak _ | apply ih_expr_Template_le | apply ih_expr_whole_le | apply ih_expr_template_read_le | apply ih_expr_parser_expr_le | apply ih_expr_template_interpolation_le | apply ih_expr_parser_binary_le | apply ih_expr_parser_unary_le | apply ih_expr_parser_postfix_le | apply ih_expr_parser_primary_le | apply ih_expr_parser_text_le | apply ih_expr_parser_name_le | apply ih_expr_parser_enclosed_le | apply ih_expr_parser_list_le | apply ih_expr_parser_loop_le | apply ih_expr_parser_entries_le | apply ih_expr_parser_key_le | apply kh | refine bv ?_ | refine aQ ?_ ?_ | refine aF ?_ (λ _=>?_) | refine bw ?_ (λ _=>?_) | omega | intro _))
 ·intro p_0
  simp only [bV]
  repeat' (with_reducible (first | exact ak _ | apply ih_expr_Template_le | apply ih_expr_whole_le | apply ih_expr_template_read_le | apply ih_expr_parser_expr_le | apply ih_expr_template_interpolation_le | apply ih_expr_parser_binary_le | apply ih_expr_parser_unary_le | apply ih_expr_parser_postfix_le | apply ih_expr_parser_primary_le | apply ih_expr_parser_text_le | apply ih_expr_parser_name_le | apply ih_expr_parser_enclosed_le | apply ih_expr_parser_list_le | apply ih_expr_parser_loop_le | apply ih_expr_parser_entries_le | apply ih_expr_parser_key_le | apply bB | apply qk | apply bh | refine bv ?_ | refine aQ ?_ ?_ | refine aF ?_ (λ _=>?_) | refine bw ?_ (λ _=>?_) | omega | intro _))
 ·intro p_0
  simp only [cP]
  repeat' (with_reducible (first | exact ak _ | apply ih_expr_Template_le | apply ih_expr_whole_le | apply ih_expr_template_read_le | apply ih_expr_parser_expr_le | apply ih_expr_template_interpolation_le | apply ih_expr_parser_binary_le | apply ih_expr_parser_unary_le | apply ih_expr_parser_postfix_le | apply ih_expr_parser_primary_le | apply ih_expr_parser_text_le | apply ih_expr_parser_name_le | apply ih_expr_parser_enclosed_le | apply ih_expr_parser_list_le | apply ih_expr_parser_loop_le | apply ih_expr_parser_entries_le | apply ih_expr_parser_key_le | apply bB | apply bh | refine bv ?_ | refine aQ ?_ ?_ | refine aF ?_ (λ _=>?_) | refine bw ?_ (λ _=>?_) | omega | intro _))
 ·intro p_0
  simp only [dk]
  repeat' (with_reducible (first | exact ak _ | apply ih_expr_Template_le | apply ih_expr_whole_le | apply ih_expr_template_read_le | apply ih_expr_parser_expr_le | apply ih_expr_template_interpolation_le | apply ih_expr_parser_binary_le | apply ih_expr_parser_unary_le | apply ih_expr_parser_postfix_le | apply ih_expr_parser_primary_le | apply ih_expr_parser_text_le | apply ih_expr_parser_name_le | apply ih_expr_parser_enclosed_le | apply ih_expr_parser_list_le | apply ih_expr_parser_loop_le | apply ih_expr_parser_entries_le | apply ih_expr_parser_key_le | apply bB | apply bh | apply cg | apply fH | apply eA | refine bv ?_ | refine aQ ?_ ?_ | refine aF ?_ (λ _=>?_) | refine bw ?_ (λ _=>?_) | omega | intro _))
 ·intro p_0
  simp only [da]
  repeat' (with_reducible (first | exact ak _ | apply ih_expr_Template_le | apply ih_expr_whole_le | apply ih_expr_template_read_le | apply ih_expr_parser_expr_le | apply ih_expr_template_interpolation_le | apply ih_expr_parser_binary_le | apply ih_expr_parser_unary_le | apply ih_expr_parser_postfix_le | apply ih_expr_parser_primary_le | apply ih_expr_parser_text_le | apply ih_expr_parser_name_le | apply ih_expr_parser_enclosed_le | apply ih_expr_parser_list_le | apply ih_expr_parser_loop_le | apply ih_expr_parser_entries_le | apply ih_expr_parser_key_le | apply bB | apply fH | apply eA | apply gZ | refine bv ?_ | refine aQ ?_ ?_ | refine aF ?_ (λ _=>?_) | refine bw ?_ (λ _=>?_) | omega | intro _))
 ·intro p_0 end_1
  simp only [dm]
  repeat' (with_reducible (first | exact ak _ | apply ih_expr_Template_le | apply ih_expr_whole_le | apply ih_expr_template_read_le | apply ih_expr_parser_expr_le | apply ih_expr_template_interpolation_le | apply ih_expr_parser_binary_le | apply ih_expr_parser_unary_le | apply ih_expr_parser_postfix_le | apply ih_expr_parser_primary_le | apply ih_expr_parser_text_le | apply ih_expr_parser_name_le | apply ih_expr_parser_enclosed_le | apply ih_expr_parser_list_le | apply ih_expr_parser_loop_le | apply ih_expr_parser_entries_le | apply ih_expr_parser_key_le | apply lF | refine bv ?_ | refine aQ ?_ ?_ | refine aF ?_ (λ _=>?_) | refine bw ?_ (λ _=>?_) | omega | intro _))
 ·intro p_0 at_1 k_2
  simp only [cN]
  repeat' (with_reducible (first | exact ak _ | apply ih_expr_Template_le | apply ih_expr_whole_le | apply ih_expr_template_read_le | apply ih_expr_parser_expr_le | apply ih_expr_template_interpolation_le | apply ih_expr_parser_binary_le | apply ih_expr_parser_unary_le | apply ih_expr_parser_postfix_le | apply ih_expr_parser_primary_le | apply ih_expr_parser_text_le | apply ih_expr_parser_name_le | apply ih_expr_parser_enclosed_le | apply ih_expr_parser_list_le | apply ih_expr_parser_loop_le | apply ih_expr_parser_entries_le | apply ih_expr_parser_key_le | apply bh | apply kS | apply cg | apply lq | apply fJ | apply gZ | apply eA | refine bv ?_ | refine aQ ?_ ?_ | refine aF ?_ (λ _=>?_) | refine bw ?_ (λ _=>?_) | omega | intro _))
 ·intro p_0
  simp only [cS]
  repeat' (with_reducible (first | exact ak _ | apply ih_expr_Template_le | apply ih_expr_whole_le | apply ih_expr_template_read_le | apply ih_expr_parser_expr_le | apply ih_expr_template_interpolation_le | apply ih_expr_parser_binary_le | apply ih_expr_parser_unary_le | apply ih_expr_parser_postfix_le | apply ih_expr_parser_primary_le | apply ih_expr_parser_text_le | apply ih_expr_parser_name_le | apply ih_expr_parser_enclosed_le | apply ih_expr_parser_list_le | apply ih_expr_parser_loop_le | apply ih_expr_parser_entries_le | apply ih_expr_parser_key_le | apply kg | refine bv ?_ | refine aQ ?_ ?_ | refine aF ?_ (λ _=>?_) | refine bw ?_ (λ _=>?_) | omega | intro _))
 ·intro p_0
  simp only [cp]
  repeat' (with_reducible (first | exact ak _ | apply ih_expr_Template_le | apply ih_expr_whole_le | apply ih_expr_template_read_le | apply ih_expr_parser_expr_le | apply ih_expr_template_interpolation_le | apply ih_expr_parser_binary_le | apply ih_expr_parser_unary_le | apply ih_expr_parser_postfix_le | apply ih_expr_parser_primary_le | apply ih_expr_parser_text_le | apply ih_expr_parser_name_le | apply ih_expr_parser_enclosed_le | apply ih_expr_parser_list_le | apply ih_expr_parser_loop_le | apply ih_expr_parser_entries_le | apply ih_expr_parser_key_le | apply bB | apply bh | apply cg | apply fH | apply eA | refine bv ?_ | refine aQ ?_ ?_ | refine aF ?_ (λ _=>?_) | refine bw ?_ (λ _=>?_) | omega | intro _))
theorem rI {n n':Nat}(hn:n≤n'):∀ (s_0:Bytes) (base_1:Int),Le (dU n s_0 base_1) (dU n' s_0 base_1):=(oR n n' hn).2.1
theorem rR {n n':Nat}(hn:n≤n'){s_0:Bytes}:Le (em n s_0) (em n' s_0):=by
 simp only [em]
 repeat' (with_reducible (first | exact ak _ | apply rI | apply my | refine bv ?_ | refine aQ ?_ ?_ | refine aF ?_ (λ _=>?_) | refine bw ?_ (λ _=>?_) | omega | intro _))
theorem qJ {n n':Nat}(hn:n≤n'):Le (ez n) (ez n'):=by
 simp only [ez]
 repeat' (with_reducible (first | exact ak _ | apply rR | apply rN | refine bv ?_ | refine aQ ?_ ?_ | refine aF ?_ (λ _=>?_) | refine bw ?_ (λ _=>?_) | omega | intro _))
theorem we:ez 60=some true:=by decide +kernel
theorem mn:Ev2 (λ n _=>ez n) (·=true):=CH 60 we (λ n hn=>qJ hn) Z
end Go.Ab.R06
end
section
namespace Go.Ab.R06
open Go.Ab Go.Ab.RB Go.Lib
def pz (s l:Bytes):Int:=(s.length:Int) - (l.length:Int)
theorem ud {s l:Bytes}(h:l <:+ s):pz s l=((s.length - l.length:Nat):Int):=by
 have:=h.length_le
 unfold pz; omega
theorem qU {s l:Bytes}(h:l <:+ s):s.drop (s.length - l.length)=l:=by
 obtain ⟨t,rfl⟩:=h
 simp
theorem iF {s r:Bytes}{b:UInt8}(h:(b::r) <:+ s):r <:+ s:=(List.suffix_cons b r).trans h
theorem xr {s l:Bytes}(k:Nat)(h:l <:+ s):l.drop k <:+ s:=(List.drop_suffix k l).trans h
theorem mV {s r:Bytes}{b:UInt8}:pz s r=pz s (b::r)+1:=by
 unfold pz; simp only [List.length_cons]; omega
theorem qv {s l:Bytes}{k:Nat}(hk:k≤l.length):pz s (l.drop k)=pz s l+(k:Int):=by
 unfold pz; rw [List.length_drop]; omega
theorem yi {s l:Bytes}(h:l <:+ s):0≤pz s l:=by have:=h.length_le; unfold pz; omega
theorem x8 {s l:Bytes}:pz s l≤s.length:=by unfold pz; omega
theorem xz {s r:Bytes}{b:UInt8}:pz s (b::r) < s.length:=by unfold pz; simp only [List.length_cons]; omega
theorem DZ (s:Bytes):pz s s=0:=by unfold pz; omega
theorem lC {s r:Bytes}{b:UInt8}(h:(b::r) <:+ s):byt s (pz s (b::r))=(b.toNat:Int):=by
 rw [ud h,gi]
 have h1:=qU h
 have h2:s.length - (b::r).length < s.length:=by have:=h.length_le; simp only [List.length_cons] at this ⊢; omega
 rw [List.drop_eq_getElem_cons h2] at h1
 rw [List.getD_eq_getElem?_getD,List.getElem?_eq_getElem h2]
 exact congrArg _ (congrArg _ (List.cons.inj h1).1)
theorem oO {s l:Bytes}(h:l <:+ s):sub s (pz s l) (s.length:Int)=l:=by
 rw [iC,ud h,Int.toNat_natCast,qU h]
theorem xj {s l l':Bytes}(h:l <:+ s)(h':l' <:+ l):sub s (pz s l) (pz s l')=l.take (l.length - l'.length):=by
 have h1:=h.length_le
 have h2:=h'.length_le
 rw [ud h,ud (h'.trans h),xy,List.drop_take,qU h]
 congr 1; omega
def eg (b:UInt8):Bool:=decide (b.toNat=32)||decide (b.toNat=9)||decide (b.toNat=13)
def jw (b:UInt8):Nat:=if ji b then 2 else if eq b then 3 else if b.toNat=34 then 5 else if b.toNat=10 then 6 else if b.toNat=35 then 7 else if eg b then 1 else if (lat gU (b.toNat:Int)).toNat=4 then 4 else 0
theorem Gi:(List.range 256).all (λ n=>(lat gU ((UInt8.ofNat n).toNat:Int)).toNat == jw (UInt8.ofNat n))=true:=by decide +kernel
theorem pn (b:UInt8):(lat gU (b.toNat:Int)).toNat=jw b:=by
 have:=List.all_eq_true.1 Gi b.toNat (List.mem_range.2 (UInt8.toNat_lt b))
 rw [UInt8.ofNat_toNat] at this
 exact eq_of_beq this
theorem pm {s r:Bytes}{b:UInt8}(h:(b::r) <:+ s):(0:Int)≤byt s (pz s (b::r))∧byt s (pz s (b::r)) < 256:=by
 rw [lC h]
 have:=UInt8.toNat_lt b
 omega
theorem mF {s r:Bytes}{b:UInt8}(h:(b::r) <:+ s):(0:Int)≤pz s (b::r)∧pz s (b::r) < (s.length:Int):=⟨yi h,xz⟩
theorem ix (b:UInt8):(jw b=1↔eg b=true)∧(jw b=2↔ji b=true)∧(jw b=3↔eq b=true)∧(jw b=5↔b.toNat=34)∧(jw b=6↔b.toNat=10)∧(jw b=7↔b.toNat=35):=by
 have h1:=ln b
 have h2:=j3 b
 have h3:eg b=true↔b.toNat=32∨b.toNat=9∨b.toNat=13:=by simp [eg,or_assoc]
 unfold jw
 repeat' split
 all_goals (refine ⟨?_,?_,?_,?_,?_,?_⟩ <;> simp_all <;> omega)
def scx (s l:Bytes)(o:Int)(d:ax):aa:=.mk s (pz s l) o d
theorem km (s l:Bytes)(o:Int)(d:ax):bM (scx s l o d)=some (!l.isEmpty,scx s l o d):=by
 unfold bM scx
 simp only [Option.some.injEq,Prod.mk.injEq,and_true]
 cases l with
 | nil=>simp [pz]
 | cons b r=>simp only [List.isEmpty_cons,Bool.not_false,decide_eq_true_eq]; exact xz
def d7 (c:Bool)(l:Bytes):Bytes :=
 match l.dropWhile eg with
 | b::r=>if c&&decide (b.toNat=35) then (b::r).dropWhile (λ x=>!decide (x=10)) else b::r
 | []=>[]
theorem lB {p:UInt8→Bool}(l:Bytes):l.dropWhile p <:+ l:=List.dropWhile_suffix p
theorem pR (c:Bool)(l:Bytes):d7 c l <:+ l:=by
 unfold d7
 have h:=lB (p:=eg) l
 split
 ·rename_i b r hb
  rw [hb] at h
  split
  ·exact (lB _).trans h
  ·exact h
 ·exact List.nil_suffix
theorem vR:∀ (l:Bytes),(indexByte l 10 < 0→l.dropWhile (λ x=>!decide (x=10))=[])∧(0≤indexByte l 10→l.dropWhile (λ x=>!decide (x=10))=l.drop (indexByte l 10).toNat∧(indexByte l 10).toNat < l.length)
 | []=>by simp [indexByte]
 | b::r=>by
  have ih:=vR r
  have hge:=indexByte_ge r 10
  unfold indexByte
  by_cases h:b=10
  ·subst h; simp
  ·rw [if_neg (by simpa using h)]
   simp only [List.dropWhile_cons,h,decide_false,Bool.not_false,if_true]
   by_cases hn:indexByte r 10 < 0
   ·rw [if_pos (by rw [beq_iff_eq]; omega)]
    exact ⟨λ _=>ih.1 hn,λ h=>by omega⟩
   ·rw [if_neg (by rw [beq_iff_eq]; omega)]
    have:=ih.2 O
    refine ⟨λ h=>by omega,λ _=>⟨?_,?_⟩⟩
    ·rw [this.1,show (indexByte r 10+1).toNat=(indexByte r 10).toNat+1 by omega,List.drop_succ_cons]
    ·simp only [List.length_cons]; omega
theorem FK (l:Bytes):strings_IndexByte l 10=some (indexByte l 10):=rfl
theorem sG {s r:Bytes}{b:UInt8}{o:Int}{d:ax}(h:(b::r) <:+ s)(h1:jw b≠1)(h7:¬ (jw b=7∧o < 0)):Ev2 (λ _ m=>aT m (scx s (b::r) o d)) (·=.inr (scx s (b::r) o d)):=by
 refine aZ ?_
 simp only [aT]
 refine am _ (ao (km s (b::r) o d) Z) (ai G ?_)
 simp only [scx]
 refine av (mF h) (av (pm h) ?_)
 simp only [lC h,pn]
 refine jB _ (ag O ?_) Z
 by_cases h7':jw b=7
 ·exact am false (ai O (ab (decide_eq_false O))) (ag G (ab Z))
 ·exact am false (ag O (ab Z)) (ag G (ab Z))
theorem uU {s:Bytes}{o:Int}{d:ax}:Ev2 (λ _ m=>aT m (scx s [] o d)) (·=.inl (scx s [] o d)):=by
 refine aZ ?_
 simp only [aT]
 exact am _ (ao (km s [] o d) Z) (ag G (ab Z))
def skR (c:Bool)(l:Bytes)(x:aa):aa⊕aa:=if (d7 c l).isEmpty then .inl x else .inr x
theorem yd (s:Bytes)(hs:s.length≤1000000000)(o:Int)(d:ax):∀ (l:Bytes),l <:+ s→Ev2 (λ _ m=>aT m (scx s l o d)) (·=skR (decide (o < 0)) l (scx s (d7 (decide (o < 0)) l) o d))
 | [],_=>uU
 | b::r,h=>by
  by_cases h1:jw b=1
  ·have hb:=(ix b).1.1 h1
   have e:d7 (decide (o < 0)) (b::r)=d7 (decide (o < 0)) r:=by
    unfold d7; rw [List.dropWhile_cons_of_pos hb]
   unfold skR
   rw [e]
   have ih:=yd s hs o d r (iF h)
   unfold skR at ih
   refine aZ ?_
   simp only [aT]
   refine am _ (ao (km s (b::r) o d) Z) (ai G ?_)
   simp only [scx]
   have:=mF h
   refine av (mF h) (av (pm h) ?_)
   simp only [lC h,pn]
   refine f0 (scx s r o d) (ai O (av (aI O O) (ab ?_))) ih
   rw [scx,show pz s r=pz s (b::r)+1 from mV]
  ·have hb:¬ eg b=true:=λ q=>h1 ((ix b).1.2 q)
   have e0:(b::r).dropWhile eg=b::r:=List.dropWhile_cons_of_neg hb
   by_cases h7:jw b=7∧o < 0
   ·have h35:=(ix b).2.2.2.2.2.1 h7.1
    have e:d7 (decide (o < 0)) (b::r)=(b::r).dropWhile (λ x=>!decide (x=10)):=by
     unfold d7; rw [e0]; simp [h7.2,h35]
    have hsf:(b::r).dropWhile (λ x=>!decide (x=10)) <:+ s:=(lB _).trans h
    have hi:=vR (b::r)
    have hat:=mF h
    have hge:=indexByte_ge (b::r) 10
    unfold skR
    rw [e]
    refine aZ ?_
    simp only [aT]
    refine am _ (ao (km s (b::r) o d) Z) (ai G ?_)
    simp only [scx]
    refine av (mF h) (av (pm h) ?_)
    simp only [lC h,pn]
    refine f0 (scx s ((b::r).dropWhile (λ x=>!decide (x=10))) o d) (ag O (am true (ai O (ab (decide_eq_true h7.2))) (ai Z (av O ?_)))) ?_
    ·rw [oO h]
     refine am _ (ao (FK _) Z) ?_
     by_cases hn:indexByte (b::r) 10 < 0
     ·rw [hi.1 hn]
      refine am ((s.length:Int) - pz s (b::r)) (ai hn (av (aI O O) (ab Z))) (av (aI O O) (ab ?_))
      rw [scx]; congr 2; unfold pz; simp only [List.length_nil,List.length_cons]; omega
     ·have hh:=hi.2 O
      rw [hh.1]
      refine am (indexByte (b::r) 10) (ag hn (ab Z)) (av (aI (by have:=x8 (s:=s) (l:=b::r); omega) (by unfold pz at hat ⊢; omega)) (ab ?_))
      rw [scx,qv O]; congr 2; omega
    ·generalize hq:(b::r).dropWhile (λ x=>!decide (x=10))=q at hsf
     cases q with
     | nil=>exact uU
     | cons c t =>
      have hc:c=10:=by
       have:=List.head?_dropWhile_not (λ x:UInt8=>!decide (x=10)) (b::r)
       rw [hq] at this
       simpa using this
      subst hc
      exact sG hsf (by decide) (λ q=>absurd q.1 (by decide))
   ·have e:d7 (decide (o < 0)) (b::r)=b::r:=by
     unfold d7; rw [e0]
     have:(decide (o < 0)&&decide (b.toNat=35))=false:=by
      rw [Bool.and_eq_false_iff,decide_eq_false_iff_not,decide_eq_false_iff_not]
      by_cases q:o < 0
      ·exact .inr λ w=>h7 ⟨(ix b).2.2.2.2.2.2 w,q⟩
      ·exact .inl q
     simp only [this]
     rfl
    unfold skR
    rw [e]
    exact sG h h1 h7
theorem xZ (s l:Bytes)(hs:s.length≤1000000000)(h:l <:+ s)(o:Int)(d:ax):Ev2 (λ n _=>cI n (scx s l o d)) (·=scx s (d7 (decide (o < 0)) l) o d):=by
 simp only [cI]
 refine ee (cn (bT (f:=λ _ m=>aT m (scx s l o d)) (yd s hs o d l h)) λ r hr=>?_)
 subst hr
 unfold skR
 split
 ·rename_i hx
  split at hx
  ·cases hx; exact ab rfl
  ·cases hx
 ·rename_i hx
  split at hx
  ·cases hx
  ·cases hx; rfl
def oD:List Bytes:=[[61,62],[61,61],[33,61],[60,61],[62,61],[38,38],[124,124]]
def mB:Bytes:=[123,125,91,93,40,41,44,61,60,62,43,45,42,47,37,33,63,58,46]
def yO:Bytes→Bytes
 | []=>[]
 | b::_=>if indexByte mB b < 0 then [] else [b]
theorem pB (b:UInt8)(r:Bytes):yO (b::r)=if indexByte mB b < 0 then [] else [b]:=rfl
def d9 (l:Bytes):Bytes:=match oD.find? (λ t=>hasPrefix l t) with
 | some t=>t
 | none=>yO l
theorem Bm (l:Bytes):∀ (j k:Nat),k+j=7→Ev2 (λ _ m=>cA l m (k:Int)) (·=match (oD.drop k).find? (λ t=>hasPrefix l t) with | some t=>.inr t | none=>.inl ())
 | 0,k,hk=>by
  have:k=7:=by omega
  subst this
  refine aZ ?_
  simp only [cA]
  exact ag O (ab Z)
 | j+1,k,hk=>by
  have hk7:k < oD.length:=by show k < 7; omega
  refine aZ ?_
  simp only [cA]
  refine ai O (av O ?_)
  have e:lat ([([61,62]:Bytes),([61,61]:Bytes),([33,61]:Bytes),([60,61]:Bytes),([62,61]:Bytes),([38,38]:Bytes),([124,124]:Bytes)]:List Bytes) (k:Int)=oD[k]:=mK oD k hk7
  rw [e,List.drop_eq_getElem_cons hk7,List.find?_cons]
  refine am (hasPrefix l oD[k]) (ao Z Z) ?_
  cases hp:hasPrefix l oD[k]
  ·refine ag G (av (aI O O) ?_)
   exact Bm l j (k+1) O
  ·exact ai Z (ab Z)
theorem ta (l:Bytes)(hl:l.length≤1000000000):Ev2 (λ n _=>eP n l) (·=d9 l):=by
 simp only [eP]
 refine ee (cn (bT (f:=λ _ m=>cA l m 0) (Bm l 7 0 Z)) λ r hr=>?_)
 subst hr
 unfold d9
 rw [List.drop_zero]
 cases oD.find? (λ t=>hasPrefix l t) with
 | some t=>rfl
 | none =>
  cases l with
  | nil=>exact am true (ai Z (ab Z)) (ai Z (ab Z))
  | cons b r =>
   have hb:byt (b::r) 0=(b.toNat:Int):=rfl
   refine am (decide (indexByte mB b < 0)) (ag G (av (by simp only [List.length_cons]; omega) ?_)) ?_
   ·rw [hb]
    refine am (indexByte mB b) (ao ?_ Z) (ab Z)
    unfold strings_IndexByte
    rw [Int.toNat_natCast]
    congr 2
    exact UInt8.ofNat_toNat
   ·simp only [pB]
    by_cases h:indexByte mB b < 0
    ·rw [if_pos h]
     exact ai (by simpa using h) (ab Z)
    ·rw [if_neg h]
     exact ag (by simpa using h) (av (by simp only [List.length_cons]; omega) (ab Z))
theorem ry {l:Bytes}(hs:d9 l≠[]):1≤(d9 l).length∧(d9 l).length≤l.length:=by
 have h0:1≤(d9 l).length:=by cases h:d9 l with | nil=>exact absurd h hs | cons _ _=>simp
 refine ⟨h0,?_⟩
 unfold d9
 cases h:oD.find? (λ t=>hasPrefix l t) with
 | some t=>exact hasPrefix_le (List.find?_some h)
 | none =>
  cases l with
  | nil=>exact Nat.le_refl _
  | cons b r =>
   show (yO (b::r)).length≤_
   rw [pB]
   split <;> simp
def ic:Bytes→Bool
 | []=>false
 | b::r=>ji b||eq b||decide (b.toNat=34)||decide (b.toNat=10)||!(d9 (b::r)).isEmpty
theorem iJ (b:UInt8)(r:Bytes):ic (b::r)=(ji b||eq b||decide (b.toNat=34)||decide (b.toNat=10)||!(d9 (b::r)).isEmpty):=rfl
theorem sS (s:Bytes)(hs:s.length≤1000000000){b:UInt8}{r:Bytes}(h:(b::r) <:+ s)(o:Int)(d:ax):Ev2 (λ n _=>cu n (scx s (b::r) o d)) (·=(ic (b::r),scx s (b::r) o d)):=by
 obtain ⟨f1,f2,f3,f4,f5,f6⟩:=ix b
 have hat:=mF h
 simp only [cu,scx]
 refine av hat (av (pm h) ?_)
 simp only [lC h,pn]
 refine am (ji b||eq b||decide (b.toNat=34)||decide (b.toNat=10)) (aK (λ q=>ab ?_) (λ q2=>aK (λ q=>ab ?_) (λ q3=>aK (λ q=>ab ?_) (λ q5=>ab ?_)))) ?_
 ·rw [f2.1 O]; rfl
 ·rw [f3.1 O]; simp
 ·rw [decide_eq_true (f4.1 O)]; simp
 ·have e2:ji b=false:=by rw [Bool.eq_false_iff]; exact λ w=>q2 (by rw [f2.2 w]; rfl)
  have e3:eq b=false:=by rw [Bool.eq_false_iff]; exact λ w=>q3 (by rw [f3.2 w]; rfl)
  have e5:¬ b.toNat=34:=λ w=>q5 (by rw [f4.2 w]; rfl)
  rw [e2,e3,decide_eq_false e5]
  refine eqB ?_
  simp only [Bool.or_false,Bool.false_or,decide_eq_true_eq]
  constructor
  ·intro w; exact f5.1 O
  ·intro w; rw [f5.2 w]; rfl
 ·refine aK (λ q=>ab ?_) (λ q=>av ⟨hat.1,by omega,by omega⟩ ?_)
  ·rw [iJ,q]; rfl
  ·rw [oO h]
   refine am _ (ta (b::r) (by have:=h.length_le; omega)) (ab ?_)
   rw [Bool.not_eq_true] at q
   rw [iJ,q,Bool.false_or]
   congr 1
   cases d9 (b::r) <;> simp
theorem zZ (s:Bytes)(hs:s.length≤1000000000)(o:Int)(d:ax)(p:UInt8→Bool)(x y:Nat)(hp:∀ c,p c=true↔jw c=x∨jw c=y):∀ (l:Bytes),l <:+ s→Ev2 (λ _ m=>bE (x:Int) (y:Int) m (scx s l o d)) (·=scx s (l.dropWhile p) o d)
 | [],_=>by
  refine aZ ?_
  simp only [bE]
  refine am (false,scx s [] o d) (am _ (ao (km s [] o d) Z) (ag G (ab Z))) (ag G (ab Z))
 | b::r,h=>by
  have hat:=mF h
  refine aZ ?_
  simp only [bE]
  refine am (p b,scx s (b::r) o d) (am _ (ao (km s (b::r) o d) Z) (ai G ?_)) ?_
  ·simp only [scx]
   refine av hat (av (pm h) ?_)
   simp only [lC h,pn]
   refine aK (λ q=>ab ?_) (λ q=>av hat (av ?_ (ab ?_)))
   ·rw [(hp b).2 (.inl O)]
   ·have:=UInt8.toNat_lt b; omega
   ·congr 1
    refine eqB ?_
    rw [decide_eq_true_eq,hp b]
    omega
  ·cases hb:p b
   ·rw [List.dropWhile_cons_of_neg (by simp [hb])]
    exact ag G (ab Z)
   ·rw [List.dropWhile_cons_of_pos hb]
    refine ai Z ?_
    simp only [scx]
    refine av (aI O O) ?_
    rw [← show pz s r=pz s (b::r)+1 from mV]
    exact zZ s hs o d p x y hp r (iF h)
theorem Cq (p:UInt8→Bool)(l:Bytes):l.take (l.length - (l.dropWhile p).length)=l.takeWhile p:=by
 have h:=List.takeWhile_append_dropWhile (p:=p) (l:=l)
 have hl:=congrArg List.length h
 rw [List.length_append] at hl
 conv=>lhs; rw [← h]
 rw [List.take_append_of_le_length (by rw [h]; omega),List.take_of_length_le (by rw [h]; omega)]
theorem wq (s l:Bytes)(hs:s.length≤1000000000)(h:l <:+ s)(o:Int)(d:ax)(p:UInt8→Bool)(x y:Nat)(hp:∀ c,p c=true↔jw c=x∨jw c=y):Ev2 (λ n _=>cU n (scx s l o d) (x:Int) (y:Int)) (·=(l.takeWhile p,scx s (l.dropWhile p) o d)):=by
 simp only [cU]
 refine am _ (bT (f:=λ _ m=>bE (x:Int) (y:Int) m (scx s l o d)) (zZ s hs o d p x y hp l h)) ?_
 simp only [scx]
 have h1:=yi h
 have h2:pz s l≤pz s (l.dropWhile p):=by have:=(lB (p:=p) l).length_le; unfold pz; omega
 refine av ⟨h1,h2,x8⟩ (ab ?_)
 rw [xj h (lB l),Cq]
theorem Bs (c:UInt8):idB c=true↔jw c=2∨jw c=3:=by
 obtain ⟨f1,f2,f3,f4,f5,f6⟩:=ix c
 rw [f2,f3]; simp [idB]
theorem D4 (c:UInt8):eq c=true↔jw c=3∨jw c=3:=by
 obtain ⟨f1,f2,f3,f4,f5,f6⟩:=ix c
 rw [f3]; simp
theorem mJ (s l:Bytes)(o:Int)(d:ax)(k a:Int):cH (scx s l o d) k a=some (false,scx s l o (ax.mk k a [])):=rfl
theorem CN (s:Bytes)(hs:s.length≤1000000000){b:UInt8}{r:Bytes}(h:(b::r) <:+ s)(o:Int)(d:ax):Ev2 (λ _ _=>dK (scx s (b::r) o d)) (·=if j4 (decodeL (b::r)) then (false,scx s (b::r) o d) else (true,scx s ((b::r).drop (decodeL (b::r)).2) o d)):=by
 have hat:=mF h
 simp only [dK,scx]
 refine av ⟨hat.1,by omega,by omega⟩ ?_
 rw [oO h]
 have hd:aW (b::r)=some (((decodeL (b::r)).1:Int),((decodeL (b::r)).2:Int)):=by
  unfold aW
  rw [oe _ G]
 refine am _ (ao hd Z) ?_
 have hdf:=gT (b::r) G
 have hlen:=h.length_le
 generalize decodeL (b::r)=D at hdf ⊢
 obtain ⟨c,w⟩:=D
 simp only at hdf ⊢
 have hbad:Ev2 (λ _ _=>(if (c:Int)=65533 then if (w:Int)=1 then some true else if (c:Int) < 32 then some true else some (decide ((c:Int)=127)) else if (c:Int) < 32 then some true else some (decide ((c:Int)=127)):Option Bool)) (·=decide (j4 (c,w))):=by
  refine aK (λ h1=>aK (λ h2=>ab ?_) (λ h2=>aK (λ h3=>ab ?_) (λ h3=>ab (eqB ?_)))) (λ h1=>aK (λ h3=>ab ?_) (λ h3=>ab (eqB ?_)))
  ·symm; rw [decide_eq_true_eq]; left; simp only; omega
  ·symm; rw [decide_eq_true_eq]; right; left; simp only; omega
  ·rw [decide_eq_true_eq,decide_eq_true_eq]; unfold j4; simp only; omega
  ·symm; rw [decide_eq_true_eq]; right; left; simp only; omega
  ·rw [decide_eq_true_eq,decide_eq_true_eq]; unfold j4; simp only; omega
 refine am _ hbad ?_
 by_cases hb:j4 (c,w)
 ·rw [if_pos hb]
  exact ai (by simpa using hb) (ab Z)
 ·rw [if_neg hb]
  refine ag (by simpa using hb) (av (aI O (by have:=x8 (s:=s) (l:=b::r); omega)) (ab ?_))
  rw [qv hdf.2.1]
abbrev SE:=Int×Option Nat
def gG (src:Bytes→SE⊕Bytes):Bytes→SE⊕(Int×Bytes×Bytes)
 | []=>.inl (2,some 0)
 | b::r=>if ji b=true then (if 64 < ((b::r).takeWhile idB).length then .inl (7,some (b::r).length) else .inr (1,(b::r).takeWhile idB,(b::r).dropWhile idB))
  else if eq b=true then .inr (2,(b::r).takeWhile eq,(b::r).dropWhile eq)
  else if b.toNat=10 then .inr (5,[10],r)
  else if b.toNat=34 then (match src r with | .inl e=>.inl e | .inr r'=>.inr (3,r.take (r.length - r'.length - 1),r'))
  else if d9 (b::r)=[] then .inl (2,some (b::r).length) else .inr (4,d9 (b::r),(b::r).drop (d9 (b::r)).length)
mutual
def ef:Nat→Nat→Bytes→SE⊕Bytes
 | 0,_,_=>.inl (40,none)
 | _+1,_,[]=>.inl (40,none)
 | f+1,k,b::r=>if b.toNat=34 then .inr r
  else if hasPrefix (b::r) [36,36,123]=true then ef f k ((b::r).drop 3)
  else if hasPrefix (b::r) [36,123]=true then (if 32≤k then .inl (4,some (b::r).length) else match hQ f (k+1) 1 ((b::r).drop 2) with | .inl e=>.inl e | .inr l=>ef f k l)
  else match (if b.toNat=92 then r else b::r) with
   | []=>.inl (40,none)
   | c::t=>if j4 (decodeL (c::t)) then .inl (2,some (c::t).length) else ef f k ((c::t).drop (decodeL (c::t)).2)
def hQ:Nat→Nat→Nat→Bytes→SE⊕Bytes
 | 0,_,_,_=>.inl (40,none)
 | f+1,k,n,l=>match d7 false l with
  | []=>.inl (40,none)
  | b::r=>match gG (ef f k) (b::r) with
   | .inl e=>.inl e
   | .inr (c,t,l')=>if c=4∧t=[125] then (if n=1 then .inr l' else hQ f k (n - 1) l') else if c=4∧t=[123] then hQ f k (n+1) l' else hQ f k n l'
end
theorem fu (src:Bytes→SE⊕Bytes)(b:UInt8)(r:Bytes):gG src (b::r)=if ji b=true then (if 64 < ((b::r).takeWhile idB).length then .inl (7,some (b::r).length) else .inr (1,(b::r).takeWhile idB,(b::r).dropWhile idB))
  else if eq b=true then .inr (2,(b::r).takeWhile eq,(b::r).dropWhile eq)
  else if b.toNat=10 then .inr (5,[10],r)
  else if b.toNat=34 then (match src r with | .inl e=>.inl e | .inr r'=>.inr (3,r.take (r.length - r'.length - 1),r'))
  else if d9 (b::r)=[] then .inl (2,some (b::r).length) else .inr (4,d9 (b::r),(b::r).drop (d9 (b::r)).length):=rfl
theorem gP (f k:Nat)(b:UInt8)(r:Bytes):ef (f+1) k (b::r)=if b.toNat=34 then .inr r
  else if hasPrefix (b::r) [36,36,123]=true then ef f k ((b::r).drop 3)
  else if hasPrefix (b::r) [36,123]=true then (if 32≤k then .inl (4,some (b::r).length) else match hQ f (k+1) 1 ((b::r).drop 2) with | .inl e=>.inl e | .inr l=>ef f k l)
  else match (if b.toNat=92 then r else b::r) with
   | []=>.inl (40,none)
   | c::t=>if j4 (decodeL (c::t)) then .inl (2,some (c::t).length) else ef f k ((c::t).drop (decodeL (c::t)).2):=by rw [ef]; rfl
def yy (q:Nat→Bytes→SE⊕Bytes)(n:Nat):SE⊕(Int×Bytes×Bytes)→SE⊕Bytes
 | .inl e=>.inl e
 | .inr (c,t,l')=>if c=4∧t=[125] then (if n=1 then .inr l' else q (n - 1) l') else if c=4∧t=[123] then q (n+1) l' else q n l'
def DG (q:Nat→Bytes→SE⊕Bytes)(src:Bytes→SE⊕Bytes)(n:Nat):Bytes→SE⊕Bytes
 | []=>.inl (40,none)
 | b::r=>yy q n (gG src (b::r))
theorem uD (q:Nat→Bytes→SE⊕Bytes)(src:Bytes→SE⊕Bytes)(n:Nat):DG q src n []=.inl (40,none):=rfl
theorem jj (q:Nat→Bytes→SE⊕Bytes)(src:Bytes→SE⊕Bytes)(n:Nat)(b:UInt8)(r:Bytes):DG q src n (b::r)=yy q n (gG src (b::r)):=rfl
theorem rE (q:Nat→Bytes→SE⊕Bytes)(n:Nat)(e:SE):yy q n (.inl e)=.inl e:=rfl
theorem iQ (q:Nat→Bytes→SE⊕Bytes)(n:Nat)(c:Int)(t l':Bytes):yy q n (.inr (c,t,l'))=if c=4∧t=[125] then (if n=1 then .inr l' else q (n - 1) l') else if c=4∧t=[123] then q (n+1) l' else q n l':=rfl
theorem jg (f k n:Nat)(l:Bytes):hQ (f+1) k n l=DG (hQ f k) (ef f k) n (d7 false l):=by
 rw [hQ]
 cases d7 false l with
 | nil=>rfl
 | cons b r =>
  show (match gG (ef f k) (b::r) with
   | .inl e=>.inl e
   | .inr (c,t,l')=>if c=4∧t=[125] then (if n=1 then .inr l' else hQ f k (n - 1) l') else if c=4∧t=[123] then hQ f k (n+1) l' else hQ f k n l')=yy (hQ f k) n (gG (ef f k) (b::r))
  cases gG (ef f k) (b::r) with
  | inl e=>rfl
  | inr z=>rfl
theorem kV {src:Bytes→SE⊕Bytes}{l:Bytes}(hsrc:∀ r r',r.length < l.length→src r=.inr r'→r' <:+ r∧r'.length < r.length){c:Int}{t l':Bytes}(h:gG src l=.inr (c,t,l')):l' <:+ l∧l'.length < l.length:=by
 cases l with
 | nil=>cases h
 | cons b r =>
  rw [fu] at h
  split at h
  ·rename_i hb
   split at h
   ·cases h
   ·cases h
    refine ⟨lB _,?_⟩
    rw [List.dropWhile_cons_of_pos (by simp [idB,hb])]
    exact Nat.lt_succ_of_le (lB r).length_le
  split at h
  ·rename_i hb
   cases h
   refine ⟨lB _,?_⟩
   rw [List.dropWhile_cons_of_pos hb]
   exact Nat.lt_succ_of_le (lB r).length_le
  split at h
  ·cases h; exact ⟨List.suffix_cons _ _,Nat.lt_succ_self _⟩
  split at h
  ·split at h
   ·cases h
   ·rename_i r' hr
    cases h
    obtain ⟨h1,h2⟩:=hsrc r _ (Nat.lt_succ_self _) hr
    exact ⟨h1.trans (List.suffix_cons _ _),Nat.lt_succ_of_lt h2⟩
  split at h
  ·cases h
  ·rename_i hs
   cases h
   have:=ry hs
   refine ⟨List.drop_suffix _ _,?_⟩
   rw [List.length_drop]; simp only [List.length_cons] at this ⊢; omega
theorem iS:∀ (f k:Nat),(∀ l l',ef f k l=.inr l'→l' <:+ l∧l'.length < l.length)∧(∀ n l l',hQ f k n l=.inr l'→l' <:+ l∧l'.length < l.length)
 | 0,k=>⟨λ l l' h=>(by rw [ef] at h; cases h),λ n l l' h=>(by rw [hQ] at h; cases h)⟩
 | f+1,k=>by
  have ih:=iS f
  constructor
  ·intro l l' h
   cases l with
   | nil=>rw [ef] at h; cases h
   | cons b r =>
    rw [gP] at h
    split at h
    ·cases h; exact ⟨List.suffix_cons _ _,Nat.lt_succ_self _⟩
    split at h
    ·obtain ⟨h1,h2⟩:=(ih k).1 _ _ h
     exact ⟨h1.trans (List.drop_suffix _ _),by have:=List.length_drop (i:=3) (l:=b::r); simp only [List.length_cons] at this ⊢; omega⟩
    split at h
    ·split at h
     ·cases h
     ·split at h
      ·cases h
      ·rename_i l1 hl1
       obtain ⟨h1,h2⟩:=(ih (k+1)).2 _ _ _ hl1
       obtain ⟨h3,h4⟩:=(ih k).1 _ _ h
       exact ⟨h3.trans (h1.trans (List.drop_suffix _ _)),by have:=List.length_drop (i:=2) (l:=b::r); simp only [List.length_cons] at this ⊢; omega⟩
    ·have hs:(if b.toNat=92 then r else b::r) <:+ b::r:=by split; exact List.suffix_cons _ _; exact List.suffix_rfl
     split at h
     ·cases h
     ·rename_i c t hct
      rw [hct] at hs
      split at h
      ·cases h
      ·obtain ⟨h1,h2⟩:=(ih k).1 _ _ h
       exact ⟨h1.trans ((List.drop_suffix _ _).trans hs),by have:=hs.length_le; have:=(List.drop_suffix (decodeL (c::t)).2 (c::t)).length_le; omega⟩
  ·intro n l l' h
   rw [jg] at h
   have hs:=pR false l
   generalize hbr:d7 false l=l0 at h hs
   cases l0 with
   | nil=>cases h
   | cons b r =>
    rw [jj] at h
    cases hl1:gG (ef f k) (b::r) with
    | inl e=>rw [hl1] at h; cases h
    | inr z =>
     obtain ⟨c,t,l1⟩:=z
     rw [hl1,iQ] at h
     obtain ⟨h1,h2⟩:=kV (λ r r' _ hr=>(ih k).1 _ _ hr) hl1
     have h3:=hs.length_le
     have key:∀ n,hQ f k n l1=.inr l'→l' <:+ l∧l'.length < l.length:=λ n hn=>by
      obtain ⟨h4,h5⟩:=(ih k).2 _ _ _ hn
      exact ⟨h4.trans (h1.trans hs),by omega⟩
     split at h
     ·split at h
      ·cases h; exact ⟨h1.trans hs,by omega⟩
      ·exact key _ h
     split at h
     ·exact key _ h
     ·exact key _ h
def tF (s:Bytes)(o:Int)(e:SE):ax:=ax.mk e.1 (match e.2 with | some n=>(s.length:Int) - (n:Int) | none=>o) []
def zA (s:Bytes)(o o':Int)(d:ax)(q:SE⊕Bytes)(r:Bool×aa):Prop:=match q with
 | .inl e=>r.1=false∧r.2.fbad=tF s o e
 | .inr l=>r=(true,scx s l o' d)
def E7 (s l:Bytes)(o o':Int)(d:ax)(q:SE⊕(Int×Bytes×Bytes))(r:ad×Bool×aa):Prop:=match q with
 | .inl e=>r.2.1=false∧r.2.2.fbad=tF s o e
 | .inr (c,t,l')=>r=(ad.mk c t (pz s l),true,scx s l' o' d)
theorem zS {s:Bytes}(hs:s.length≤1000000000){o o':Int}{d:ax}{k:Nat}{src:Bytes→SE⊕Bytes}{b:UInt8}{r:Bytes}(h:(b::r) <:+ s)(hsuf:∀ l',src r=.inr l'→l' <:+ r∧l'.length < r.length)(ho:¬ b.toNat=34→o'=(scx s (b::r) o d).fouter)
  {oE:Int} (hsrc:b.toNat=34→Ev2 (λ n _=>bP n (scx s (b::r) o d) (k:Int)) (zA s oE o' d (src r))) (hb:ic (b::r)=true) :
  Ev2 (λ n _=>aM n (scx s (b::r) o d) (k:Int)) (E7 s (b::r) oE o' d (gG src (b::r))):=by
 obtain ⟨f1,f2,f3,f4,f5,f6⟩:=ix b
 have hat:=mF h
 have hle:=h.length_le
 refine cq ?_
 simp only [aM]
 rw [fu]
 have hat':(0:Int)≤(scx s (b::r) o d).fat∧(scx s (b::r) o d).fat < ((scx s (b::r) o d).fs.length:Int):=hat
 refine av hat' (av (pm h) ?_)
 simp only [show byt (scx s (b::r) o d).fs (scx s (b::r) o d).fat=(b.toNat:Int) from lC h,pn]
 by_cases h2:ji b=true
 ·have hn34:¬ b.toNat=34:=λ q=>by have:=(ln b).1 h2; omega
  rw [if_pos h2]
  have hc:=f2.2 h2
  by_cases hl:64 < ((b::r).takeWhile idB).length
  ·rw [if_pos hl]
   refine ee (ai O (am _ (wq s (b::r) hs h o d idB 2 3 Bs) (ai (by simp only; omega) (am _ (ao (mJ _ _ _ _ _ _) Z) (ab ?_)))))
   exact ⟨Z,Z⟩
  ·rw [if_neg hl]
   refine ee (ai O (am _ (wq s (b::r) hs h o d idB 2 3 Bs) (ag (by simp only; omega) (ab (ab ?_)))))
   rw [ho hn34]; rfl
 rw [if_neg h2]
 have c2:¬ ((jw b:Nat):Int)=2:=λ q=>h2 (f2.1 O)
 by_cases h3:eq b=true
 ·have hn34:¬ b.toNat=34:=λ q=>by have:=(j3 b).1 h3; omega
  rw [if_pos h3]
  have hc:=f3.2 h3
  refine ee (ag c2 (ai O (am _ (wq s (b::r) hs h o d eq 3 3 D4) (ab (ab ?_)))))
  rw [ho hn34]; rfl
 rw [if_neg h3]
 have c3:¬ ((jw b:Nat):Int)=3:=λ q=>h3 (f3.1 O)
 by_cases h10:b.toNat=10
 ·rw [if_pos h10]
  have hc:=f5.2 h10
  refine ee (ag c2 (ag c3 (ai O (av (aI (by show _≤pz s (b::r)+1; omega) (by show pz s (b::r)+1≤_; omega)) (ab (ab ?_))))))
  rw [ho O]
  show (ad.mk 5 [10] (pz s (b::r)),true,aa.mk s (pz s (b::r)+1) o d)=_
  rw [← show pz s r=pz s (b::r)+1 from mV]; rfl
 rw [if_neg h10]
 have c6:¬ ((jw b:Nat):Int)=6:=λ q=>h10 (f5.1 O)
 by_cases h34:b.toNat=34
 ·rw [if_pos h34]
  have hc:=f4.2 h34
  refine ee (ag c2 (ag c3 (ag c6 (ai O (af _ (hsrc h34) λ x hx=>?_)))))
  cases hq:src r with
  | inl e =>
   rw [hq] at hx
   exact ai (by rw [hx.1]; rfl) (ab ⟨Z,hx.2⟩)
  | inr l' =>
   rw [hq] at hx
   obtain ⟨g1,g2⟩:=hsuf l' hq
   have hx:x=(true,scx s l' o' d):=hx
   subst hx
   have e1:(scx s (b::r) o d).fat+1=pz s r:=(mV (b:=b)).symm
   have hl':l' <:+ s:=g1.trans (iF h)
   have e2:(scx s l' o' d).fat - 1=(s.length:Int) - ((l'.length+1:Nat):Int):=by show pz s l' - 1=_; unfold pz; omega
   have hrl:=(iF h).length_le
   have hd:r.drop (r.length - (l'.length+1)) <:+ r:=List.drop_suffix _ _
   have hdl:(r.drop (r.length - (l'.length+1))).length=l'.length+1:=by rw [List.length_drop]; omega
   have e3:(scx s l' o' d).fat - 1=pz s (r.drop (r.length - (l'.length+1))):=by rw [e2]; unfold pz; rw [hdl]
   refine ag G (av (aI (by show _≤pz s (b::r)+1; omega) (by show pz s (b::r)+1≤_; omega)) (av (aI (by rw [e2]; omega) (by rw [e2]; omega)) (av ?_ (ab (ab ?_)))))
   ·rw [e1,e3]
    refine ⟨yi (iF h),?_,x8⟩
    unfold pz; rw [hdl]; omega
   ·show _=_
    rw [e1,e3,show sub (scx s l' o' d).fs (pz s r) (pz s (r.drop (r.length - (l'.length+1))))=_ from xj (iF h) hd,hdl,show r.length - (l'.length+1)=r.length - l'.length - 1 by omega]
    rfl
 rw [if_neg h34]
 have c5:¬ ((jw b:Nat):Int)=5:=λ q=>h34 (f4.1 O)
 have hsn:d9 (b::r)≠[]:=by
  rw [iJ,Bool.not_eq_true _ |>.mp h2,Bool.not_eq_true _ |>.mp h3,decide_eq_false h34,decide_eq_false h10] at hb
  intro q; rw [q] at hb; cases hb
 rw [if_neg hsn]
 have hsl:=ry hsn
 refine ee (ag c2 (ag c3 (ag c6 (ag c5 (av ⟨hat.1,by show pz s (b::r)≤(s.length:Int); omega,by show (s.length:Int)≤(s.length:Int); omega⟩ ?_)))))
 rw [show sub (scx s (b::r) o d).fs (scx s (b::r) o d).fat ((scx s (b::r) o d).fs.length:Int)=b::r from oO h]
 refine am _ (ta (b::r) O) (av (aI (by show _≤pz s (b::r)+_; omega) (by show pz s (b::r)+_≤_; omega)) (ab (ab ?_)))
 rw [ho h34]
 show (ad.mk 4 (d9 (b::r)) (pz s (b::r)),true,aa.mk s (pz s (b::r)+((d9 (b::r)).length:Int)) o d)=_
 rw [← qv hsl.2]; rfl
def wv (s:Bytes)(o:Int)(d:ax)(q:SE⊕Bytes)(r:aa⊕(Bool×aa)):Prop:=match r with
 | .inl x=>x=scx s [] o d∧q=.inl (40,none)
 | .inr y=>zA s o o d q y
def DJ (s:Bytes)(o:Int)(d:ax)(q:SE⊕Bytes)(r:aa⊕(Bool×aa)):Prop:=match r with
 | .inl x=>∃ l,q=.inr l∧x=scx s l o d
 | .inr y=>∃ e,q=.inl e∧y.1=false∧y.2.fbad=tF s o e
theorem AH {src:Bytes→SE⊕Bytes}{b:UInt8}{r:Bytes}(h:ic (b::r)=false):gG src (b::r)=.inl (2,some (b::r).length):=by
 rw [iJ] at h
 simp only [Bool.or_eq_false_iff,decide_eq_false_iff_not,Bool.not_eq_false',List.isEmpty_iff] at h
 obtain ⟨⟨⟨⟨h1,h2⟩,h3⟩,h4⟩,h5⟩:=h
 rw [fu,if_neg (by simp [h1]),if_neg (by simp [h2]),if_neg h4,if_neg h3,if_pos h5]
theorem pY {s:Bytes}(hs:s.length≤1000000000){o:Int}{d:ax}{k:Nat}{b:UInt8}{r:Bytes}(h:(b::r) <:+ s){q:SE⊕Bytes}(hl:Ev2 (λ n m=>aG (aA n) (k:Int) m (scx s r o d)) (wv s o d q)) :
  Ev2 (λ n _=>bX n (scx s (b::r) o d) (k:Int)) (zA s o o d q):=by
 have hat:=mF h
 have hle:=h.length_le
 refine cq ?_
 simp only [bX]
 refine av (aI (by show _≤pz s (b::r)+1; omega) (by show pz s (b::r)+1≤_; omega)) ?_
 have e:aa.mk (scx s (b::r) o d).fs ((scx s (b::r) o d).fat+1) (scx s (b::r) o d).fouter (scx s (b::r) o d).fbad=scx s r o d:=by
  show aa.mk s (pz s (b::r)+1) o d=_
  rw [← show pz s r=pz s (b::r)+1 from mV]; rfl
 rw [e]
 refine ee (cn (bT (f:=λ n m=>aG (aA n) (k:Int) m (scx s r o d)) hl) λ x hx=>?_)
 cases x with
 | inl x =>
  obtain ⟨rfl,rfl⟩:=hx
  exact am _ (ao (mJ _ _ _ _ _ _) Z) (ab ⟨Z,Z⟩)
 | inr y=>exact hx
theorem zp {s:Bytes}(hs:s.length≤1000000000){o:Int}(ho:0≤o){d:ax}{k:Nat}{b:UInt8}{r:Bytes}(h:(b::r) <:+ s){q:SE⊕Bytes}(hl:Ev2 (λ n m=>aG (aA n) (k:Int) m (scx s r o d)) (wv s o d q)) :
  Ev2 (λ n _=>bP n (scx s (b::r) o d) (k:Int)) (zA s o o d q):=by
 refine cq ?_
 simp only [bP]
 exact ag (by show ¬ o < 0; omega) (pY hs h hl)
theorem wJ {s:Bytes}(hs:s.length≤1000000000){d:ax}{k:Nat}{b:UInt8}{r:Bytes}(h:(b::r) <:+ s){q:SE⊕Bytes}(hl:Ev2 (λ n m=>aG (aA n) (k:Int) m (scx s r (pz s (b::r)) d)) (wv s (pz s (b::r)) d q)) :
  Ev2 (λ n _=>bP n (scx s (b::r) (-1) d) (k:Int)) (zA s (pz s (b::r)) (-1) d q):=by
 refine cq ?_
 simp only [bP]
 refine ai (by show (-1:Int) < 0; omega) (af _ (pY hs h hl) λ x hx=>ab ?_)
 cases q with
 | inl e=>exact hx
 | inr l =>
  have hx:x=(true,scx s l (pz s (b::r)) d):=hx
  subst hx; rfl
theorem qS (s:Bytes)(b:UInt8)(r:Bytes)(o:Int)(d:ax):bM (scx s (b::r) o d)=some (true,scx s (b::r) o d):=km _ _ _ _
theorem rc (s:Bytes)(o:Int)(d:ax):bM (scx s [] o d)=some (false,scx s [] o d):=km _ _ _ _
theorem zJ (l p:Bytes):strings_HasPrefix l p=some (hasPrefix l p):=rfl
theorem xC {s l:Bytes}{o:Int}{d:ax}{k:Nat}(hk:k≤l.length):aa.mk s (pz s l+(k:Int)) o d=scx s (l.drop k) o d:=by rw [scx,qv hk]
theorem vl {s r:Bytes}{b:UInt8}{o:Int}{d:ax}:aa.mk s (pz s (b::r)+1) o d=scx s r o d:=by rw [scx,show pz s r=pz s (b::r)+1 from mV]
theorem BR {s:Bytes}(hs:s.length≤1000000000){o:Int}{d:ax}{f k:Nat}
  (ih1:∀ l,l <:+ s→l.length < f→Ev2 (λ n m=>aG (aA n) (k:Int) m (scx s l o d)) (wv s o d (ef f k l)))
  (ih2:∀ l,l <:+ s→l.length < f→k < 32→Ev2 (λ nn m=>aD nn (aM nn) (k:Int) m 1 (scx s l o d)) (DJ s o d (hQ f (k+1) 1 l))) :
  ∀ l,l <:+ s→l.length < f+1→Ev2 (λ n m=>aG (aA n) (k:Int) m (scx s l o d)) (wv s o d (ef (f+1) k l)):=by
 intro l h hf
 refine aZ ?_
 simp only [aG]
 cases l with
 | nil =>
  refine am _ (ao (rc s o d) Z) (ag G (ab ⟨Z,?_⟩))
  rw [ef]
 | cons b r =>
  have hat:=mF h
  have hle:=h.length_le
  have hfr:r.length < f:=by simp only [List.length_cons] at hf; omega
  refine am _ (ao (qS s b r o d) Z) (ai Z (av ⟨hat.1,by show pz s (b::r)≤(s.length:Int); omega,by show (s.length:Int)≤(s.length:Int); omega⟩ ?_))
  rw [gP]
  simp only [show sub (scx s (b::r) o d).fs (scx s (b::r) o d).fat ((scx s (b::r) o d).fs.length:Int)=b::r from oO h,show byt (b::r) 0=(b.toNat:Int) from rfl]
  refine ee (av (by simp only [List.length_cons]; omega) ?_)
  by_cases h34:b.toNat=34
  ·rw [if_pos h34]
   refine ai O (av (aI (by show _≤pz s (b::r)+1; omega) (by show pz s (b::r)+1≤_; omega)) (ab ?_))
   show (true,aa.mk s (pz s (b::r)+1) o d)=_
   rw [vl]
  rw [if_neg h34]
  refine ag O (am _ (ao (zJ _ _) Z) ?_)
  by_cases h3:hasPrefix (b::r) [36,36,123]=true
  ·rw [if_pos h3]
   have hp:=hasPrefix_le h3
   simp only [List.length_cons,List.length_nil] at hp
   refine ai h3 (av (aI (by show _≤pz s (b::r)+3; omega) (by show pz s (b::r)+3≤_; omega)) (ab ?_))
   have:=ih1 ((b::r).drop 3) (xr 3 h) (by rw [List.length_drop]; simp only [List.length_cons]; omega)
   rw [← xC (k:=3) (by simp only [List.length_cons]; omega)] at this
   exact this
  rw [if_neg h3]
  refine ag h3 (am _ (ao (zJ _ _) Z) ?_)
  by_cases h2:hasPrefix (b::r) [36,123]=true
  ·rw [if_pos h2]
   have hp:=hasPrefix_le h2
   simp only [List.length_cons,List.length_nil] at hp
   refine ai h2 (af (zA s o o d (if 32≤k then .inl (4,some (b::r).length) else hQ f (k+1) 1 ((b::r).drop 2))) ?_ λ x hx=>?_)
   ·refine cq ?_
    simp only [aA]
    by_cases hk:32≤k
    ·rw [if_pos hk]
     exact ai O (am _ (ao (mJ _ _ _ _ _ _) Z) (ab ⟨Z,Z⟩))
    ·rw [if_neg hk]
     refine ag O (av (aI (by show _≤pz s (b::r)+2; omega) (by show pz s (b::r)+2≤_; omega)) ?_)
     have:=ih2 ((b::r).drop 2) (xr 2 h) (by rw [List.length_drop]; simp only [List.length_cons]; omega) O
     rw [← xC (k:=2) (by simp only [List.length_cons]; omega)] at this
     refine ee (cn (bT (f:=λ nn m=>aD nn (aM nn) (k:Int) m 1 (aa.mk s (pz s (b::r)+2) o d)) this) λ y hy=>?_)
     cases y with
     | inl y =>
      obtain ⟨l',e1,rfl⟩:=hy
      rw [e1]
      exact ab Z
     | inr y =>
      obtain ⟨e,e1,e2,e3⟩:=hy
      rw [e1]
      exact ⟨e2,e3⟩
   ·by_cases hk:32≤k
    ·rw [if_pos hk] at hx ⊢
     exact ai (by rw [hx.1]; rfl) (ab ⟨Z,hx.2⟩)
    ·rw [if_neg hk] at hx ⊢
     cases hq:hQ f (k+1) 1 ((b::r).drop 2) with
     | inl e =>
      rw [hq] at hx
      exact ai (by rw [hx.1]; rfl) (ab ⟨Z,hx.2⟩)
     | inr l' =>
      rw [hq] at hx
      have hx:x=(true,scx s l' o d):=hx
      subst hx
      obtain ⟨g1,g2⟩:=(iS f (k+1)).2 _ _ _ hq
      refine ag G (ab (ih1 l' (g1.trans (xr 2 h)) ?_))
      rw [List.length_drop] at g2; simp only [List.length_cons] at g2; omega
  rw [if_neg h2]
  refine ag h2 (am (scx s (if b.toNat=92 then r else b::r) o d) (av (by simp only [List.length_cons]; omega) ?_) ?_)
  ·by_cases h92:b.toNat=92
   ·rw [if_pos h92]
    refine ai O (av (aI (by show _≤pz s (b::r)+1; omega) (by show pz s (b::r)+1≤_; omega)) (ab ?_))
    show aa.mk s (pz s (b::r)+1) o d=_
    rw [vl]
   ·rw [if_neg h92]
    exact ag O (ab Z)
  ·have hsf:(if b.toNat=92 then r else b::r) <:+ s:=by split; exact iF h; exact h
   have hln:(if b.toNat=92 then r else b::r).length≤r.length+1:=by split <;> simp
   generalize (if b.toNat=92 then r else b::r)=l1 at hsf hln ⊢
   cases l1 with
   | nil =>
    refine am _ (ao (rc s o d) Z) (ai Z (ab ?_))
    have:=ih1 [] List.nil_suffix (by simp only [List.length_nil]; omega)
    obtain ⟨f,rfl⟩:∃ g,f=g+1:=⟨f - 1,by omega⟩
    rw [ef] at this
    exact this
   | cons c t =>
    refine am _ (ao (qS s c t o d) Z) (ag G (am _ (CN s hs hsf o d) ?_))
    have hdf:=gT (c::t) G
    by_cases hb:j4 (decodeL (c::t))
    ·simp only [if_pos hb]
     exact ai Z (am _ (ao (mJ _ _ _ _ _ _) Z) (ab ⟨Z,Z⟩))
    ·simp only [if_neg hb]
     refine ag G (ab (ih1 _ (xr _ hsf) ?_))
     rw [List.length_drop]; simp only [List.length_cons] at hln ⊢; omega
theorem Br {s:Bytes}(hs:s.length≤1000000000){o:Int}(ho:0≤o){d:ax}{f k:Nat}(hk:k < 32)
  (ih1:∀ l,l <:+ s→l.length < f→Ev2 (λ n m=>aG (aA n) ((k+1:Nat):Int) m (scx s l o d)) (wv s o d (ef f (k+1) l)))
  (ih2:∀ l n,1≤n→n+l.length≤s.length+1→l <:+ s→l.length < f→Ev2 (λ nn m=>aD nn (aM nn) (k:Int) m (n:Int) (scx s l o d)) (DJ s o d (hQ f (k+1) n l))) :
  ∀ l n,1≤n→n+l.length≤s.length+1→l <:+ s→l.length < f+1→Ev2 (λ nn m=>aD nn (aM nn) (k:Int) m (n:Int) (scx s l o d)) (DJ s o d (hQ (f+1) (k+1) n l)):=by
 intro l n hn hnl h hf
 refine aZ ?_
 simp only [aD]
 rw [jg]
 have hsk:=pR false l
 have hd:decide (o < 0)=false:=decide_eq_false O
 have hskip:=xZ s l hs h o d
 rw [hd] at hskip
 refine ai O (ee (am _ hskip ?_))
 have hsl:=hsk.length_le
 have hss:=hsk.trans h
 generalize d7 false l=l1 at hsk hsl hss ⊢
 cases l1 with
 | nil=>exact am _ (ao (rc s o d) Z) (ai Z (am _ (ao (mJ _ _ _ _ _ _) Z) (ab ⟨_,Z,Z,Z⟩)))
 | cons b r =>
  refine am _ (ao (qS s b r o d) Z) (ag G (am _ (sS s hs hss o d) ?_))
  rw [jj]
  cases hb:ic (b::r)
  ·rw [AH hb,rE]
   exact ai Z (am _ (ao (mJ _ _ _ _ _ _) Z) (ab ⟨_,Z,Z,Z⟩))
  ·have hbl:=hss.length_le
   simp only [List.length_cons] at hsl hbl
   have htok:=zS (k:=k+1) (src:=ef f (k+1)) (o':=o) (oE:=o) hs hss (λ l' hl'=>(iS f (k+1)).1 _ _ hl') Y (λ _=>zp hs ho hss (ih1 r (iF hss) O)) hb (d:=d)
   refine ag G (av (aI O O) (af (E7 s (b::r) o o d (gG (ef f (k+1)) (b::r))) htok λ x hx=>?_))
   cases hq:gG (ef f (k+1)) (b::r) with
   | inl e =>
    rw [hq] at hx
    rw [rE]
    exact ai (by rw [hx.1]; rfl) (ab ⟨e,Z,Z,hx.2⟩)
   | inr z =>
    obtain ⟨c,t,l'⟩:=z
    rw [hq] at hx
    have hx:x=(ad.mk c t (pz s (b::r)),true,scx s l' o d):=hx
    subst hx
    obtain ⟨g1,g2⟩:=kV (λ r r' _ hr=>(iS f (k+1)).1 _ _ hr) hq
    simp only [List.length_cons] at g2
    have hl's:=g1.trans hss
    rw [iQ]
    refine ag G (am (if c=4∧t=[123] then (n:Int)+1 else (n:Int)) (am (decide (c=4∧t=[123])) (aK (λ q=>ab ?_) (λ q=>ab ?_)) (aK (λ q=>av (aI O O) (ab ?_)) (λ q=>ab ?_))) (am (decide (c=4∧t=[125])) (aK (λ q=>ab ?_) (λ q=>ab ?_)) ?_))
    ·simp only [show c=4 from q,true_and]
    ·symm; rw [decide_eq_false_iff_not]; exact λ w=>q w.1
    ·rw [decide_eq_true_eq] at q; rw [if_pos q]
    ·rw [decide_eq_true_eq] at q; rw [if_neg q]
    ·simp only [show c=4 from q,true_and]
    ·symm; rw [decide_eq_false_iff_not]; exact λ w=>q w.1
    by_cases h125:c=4∧t=[125]
    ·have hn123:¬ (c=4∧t=[123]):=λ w=>by rw [h125.2] at w; exact absurd w.2 (by decide)
     rw [if_neg hn123]
     simp only [if_pos h125]
     refine ai (by simpa using h125) (av (aI O O) (ab ?_))
     by_cases h1:n=1
     ·subst h1
      rw [if_pos rfl]
      refine aZ ?_
      simp only [aD]
      exact ag O (ab ⟨l',Z,Z⟩)
     ·rw [if_neg h1]
      have:=ih2 l' (n - 1) O O  hl's O
      rw [show ((n - 1:Nat):Int)=(n:Int) - 1 by omega] at this
      exact this
    ·simp only [if_neg h125]
     refine ag (by simpa using h125) (ab ?_)
     by_cases h123:c=4∧t=[123]
     ·rw [if_pos h123]
      simp only [if_pos h123]
      exact ih2 l' (n+1) O O  hl's O
     ·rw [if_neg h123]
      simp only [if_neg h123]
      exact ih2 l' n hn O hl's O
theorem xY {s:Bytes}(hs:s.length≤1000000000){o:Int}(ho:0≤o){d:ax}:∀ (f:Nat),
  (∀ (k:Nat) l,l <:+ s→l.length < f→Ev2 (λ n m=>aG (aA n) (k:Int) m (scx s l o d)) (wv s o d (ef f k l))) ∧
  (∀ (k:Nat) l n,k < 32→1≤n→n+l.length≤s.length+1→l <:+ s→l.length < f→Ev2 (λ nn m=>aD nn (aM nn) (k:Int) m (n:Int) (scx s l o d)) (DJ s o d (hQ f (k+1) n l)))
 | 0=>⟨λ k l _ h=>absurd h (Nat.not_lt_zero _),λ k l n _ _ _ _ h=>absurd h (Nat.not_lt_zero _)⟩
 | f+1=>by
  obtain ⟨i1,i2⟩:=xY hs ho (d:=d) f
  refine ⟨λ k=>BR hs (i1 k) (λ l h hf hk=>?_),λ k l n hk=>Br hs ho hk (i1 (k+1)) (λ l n a b c e=>i2 k l n hk a b c e) l n⟩
  exact i2 k l 1 hk (Nat.le_refl _) (by have:=h.length_le; omega) h hf
theorem DX {s:Bytes}(hs:s.length≤1000000000){d:ax}{f:Nat}{b:UInt8}{r:Bytes}(h:(b::r) <:+ s)(hf:r.length < f)(hb:ic (b::r)=true) :
  Ev2 (λ n _=>aM n (scx s (b::r) (-1) d) 0) (E7 s (b::r) (pz s (b::r)) (-1) d (gG (ef f 0) (b::r))) :=
 zS (k:=0) hs h (λ l' hl'=>(iS f 0).1 _ _ hl') Y (λ _=>wJ hs h ((xY hs (yi h) f).1 0 r (iF h) hf)) hb
def CM (n:Nat)(e:SE):SE:=(e.1,some (e.2.getD n))
abbrev Tk:=Int×Bytes×Nat
def AC (q:Bytes→SE⊕List Tk)(n:Nat):SE⊕(Int×Bytes×Bytes)→SE⊕List Tk
 | .inl e=>.inl (CM n e)
 | .inr (k,t,l')=>(match q l' with
  | .inl e=>.inl e
  | .inr ts=>.inr ((k,t,n)::ts))
def x5 (q:Bytes→SE⊕List Tk)(src:Bytes→SE⊕Bytes)(c:Nat):Bytes→SE⊕List Tk
 | []=>if c=16384 then .inl (14,some 0) else .inr [(6,[],0)]
 | b::r=>if ic (b::r)=false then .inl (2,some (b::r).length) else if c=16384 then .inl (14,some (b::r).length)
   else AC q (b::r).length (gG src (b::r))
def fF:Nat→Nat→Bytes→SE⊕List Tk
 | 0,_,_=>.inl (40,none)
 | f+1,c,l=>x5 (fF f (c+1)) (ef f 0) c (d7 true l)
theorem gI (f c:Nat)(l:Bytes):fF (f+1) c l=x5 (fF f (c+1)) (ef f 0) c (d7 true l):=rfl
theorem jS (q:Bytes→SE⊕List Tk)(src:Bytes→SE⊕Bytes)(c:Nat):x5 q src c []=if c=16384 then .inl (14,some 0) else .inr [(6,[],0)]:=rfl
theorem jk (q:Bytes→SE⊕List Tk)(src:Bytes→SE⊕Bytes)(c:Nat)(b:UInt8)(r:Bytes):x5 q src c (b::r)=if ic (b::r)=false then .inl (2,some (b::r).length) else if c=16384 then .inl (14,some (b::r).length)
   else AC q (b::r).length (gG src (b::r)):=rfl
theorem jR (q:Bytes→SE⊕List Tk)(n:Nat)(k:Int)(t l':Bytes):AC q n (.inr (k,t,l'))=match q l' with
  | .inl e=>.inl e
  | .inr ts=>.inr ((k,t,n)::ts):=rfl
def tkS (s:Bytes)(z:Tk):ad:=ad.mk z.1 z.2.1 ((s.length:Int) - (z.2.2:Int))
def x6 (s:Bytes)(out:List ad)(q:SE⊕List Tk):List ad×ax:=match q with
 | .inl e=>([],tF s 0 e)
 | .inr ts=>(out++ts.map (tkS s),ax.mk 0 0 [])
theorem Af (s l:Bytes)(o:Int)(e:SE):tF s (pz s l) e=tF s o (CM l.length e):=by
 obtain ⟨k,n⟩:=e
 cases n <;> rfl
theorem qC {s:Bytes}(hs:s.length≤1000000000){d:ax}:∀ (f:Nat) (l:Bytes) (out:List ad),out.length≤16384→l <:+ s→l.length < f→Ev2 (λ n m=>dA n m out (scx s l (-1) d)) (·=.inr (x6 s out (fF f out.length l)))
 | 0,l,out,_,_,h=>absurd h (Nat.not_lt_zero _)
 | f+1,l,out,hout,h,hf=>by
  refine aZ ?_
  simp only [dA]
  rw [gI]
  have hsk:=pR true l
  have hskip:=xZ s l hs h (-1) d
  rw [show decide ((-1:Int) < 0)=true from rfl] at hskip
  refine am _ hskip ?_
  have hsl:=hsk.length_le
  have hss:=hsk.trans h
  generalize d7 true l=l1 at hsk hsl hss ⊢
  cases l1 with
  | nil =>
   refine am (false,scx s [] (-1) d) (am _ (ao (rc s (-1) d) Z) (ag G (ab Z))) (ag G ?_)
   rw [jS]
   by_cases hc:out.length=16384
   ·rw [if_pos hc]
    refine ai O (ab ?_)
    rfl
   ·rw [if_neg hc]
    refine ag O (am _ (ao (rc s (-1) d) Z) (ai Z (av (by simp only [List.length_cons,List.length_nil]; omega) (ab ?_))))
    rfl
  | cons b r =>
   refine am (!ic (b::r),scx s (b::r) (-1) d) (am _ (ao (qS s b r (-1) d) Z) (ai Z (am _ (sS s hs hss (-1) d) (ab Z)))) ?_
   rw [jk]
   cases hb:ic (b::r)
   ·exact ai Z (ab Z)
   ·refine ag G ?_
    rw [if_neg G]
    by_cases hc:out.length=16384
    ·rw [if_pos hc]
     exact ai O (ab Z)
    ·rw [if_neg hc]
     simp only [List.length_cons] at hsl
     refine ag O (am _ (ao (qS s b r (-1) d) Z) (ag G (af _ (DX hs hss (f:=f) O hb) λ x hx=>?_)))
     cases hq:gG (ef f 0) (b::r) with
     | inl e =>
      rw [hq] at hx
      refine ai (by rw [hx.1]; rfl) (ab ?_)
      rw [hx.2,Af s (b::r) 0]
      rfl
     | inr z =>
      obtain ⟨c,t,l'⟩:=z
      rw [hq] at hx
      have hx:x=(ad.mk c t (pz s (b::r)),true,scx s l' (-1) d):=hx
      subst hx
      obtain ⟨g1,g2⟩:=kV (λ r r' _ hr=>(iS f 0).1 _ _ hr) hq
      simp only [List.length_cons] at g2
      have ih:=qC hs (d:=d) f l' (out++[ad.mk c t (pz s (b::r))]) (by simp only [List.length_append,List.length_cons,List.length_nil]; omega) (g1.trans hss) O
      simp only [List.length_append,List.length_cons,List.length_nil,Nat.zero_add] at ih
      rw [jR]
      refine ag G (av (by simp only [List.length_cons,List.length_nil]; omega) (F4 ih ?_))
      congr 1
      cases fF f (out.length+1) l' with
      | inl e=>rfl
      | inr ts =>
       show (_,_)=(_,_)
       rw [List.append_assoc]; rfl
def dQ (s:Bytes):List ad×ax:=if 65536 < s.length then ([],ax.mk 3 0 []) else x6 s [] (fF (s.length+1) 0 s)
theorem yj (s:Bytes):Ev2 (λ n _=>gm n s) (·=dQ s):=by
 simp only [gm]
 unfold dQ
 by_cases h:65536 < s.length
 ·rw [if_pos h]
  exact ai O (ab Z)
 ·rw [if_neg h]
  refine ag O (am (scx s s (-1) (ax.mk 0 0 [])) (ao ?_ Z) ?_)
  ·rw [scx,DZ]; rfl
  ·have:=qC (s:=s) O (d:=ax.mk 0 0 []) (s.length+1) s [] G List.suffix_rfl (Nat.lt_succ_self _)
   exact jB _ (bT (f:=λ n m=>dA n m [] (scx s s (-1) (ax.mk 0 0 []))) this) Z
def v0:ah:=ah.mk 0 0 [] [] []
def e0:ac:=ac.mk 0 0 [] [] v0 [] 0
def uO (v:ah)(at':Int):ac:=ac.mk 1 0 [] [] v [] at'
def yL (s:Bytes)(at':Int):ac:=uO (ah.mk 3 0 s [] []) at'
def resL:List Bytes:=[[110,117,108,108],[116,114,117,101],[102,97,108,115,101],[102,111,114],[105,110],[105,102]]
def oj (s:Bytes):Bool:=resL.any (λ t=>decide (s=t))
theorem rC (s:Bytes):eT s=some (oj s):=by
 unfold eT oj resL
 simp only [List.any_cons,List.any_nil,Bool.or_false]
 by_cases h1:s=[110,117,108,108]
 ·simp [h1]
 by_cases h2:s=[116,114,117,101]
 ·simp [h2]
 by_cases h3:s=[102,97,108,115,101]
 ·simp [h3]
 by_cases h4:s=[102,111,114]
 ·simp [h4]
 by_cases h5:s=[105,110]
 ·simp [h5]
 by_cases h6:s=[105,102]
 ·simp [h6]
 simp [h1,h2,h3,h4,h5,h6]
def u6 (v:ah):Int:=if v.fKind=1∧v.fNum≠0∧v.fNum≠1∨v.fKind≠1∧v.fKind≠2∧v.fNum≠0∨v.fKind≠3∧v.fStr≠[]∨v.fItems≠[]∨v.fKeys≠[] then 1
 else if v.fKind=2∧¬ (-ju≤v.fNum∧v.fNum≤ju) then 5
 else if v.fKind=3∧4096 < v.fStr.length then 3
 else if v.fKind=3∧validD v.fStr=false then 1 else 0
def rS (e:ac):Bool:=(gh e).getD false
def oo (e:ac):Int:=if rS e=false then 1 else if e.fKind=1 then u6 e.fValue
 else if (e.fKind=3∨e.fKind=4∨e.fKind=9∨e.fKind=12∨e.fKind=13)∧(gX e.fName=false∨e.fKind≠4∧oj e.fName=true) then 7
 else if e.fKey≠[]∧(gX e.fKey=false∨oj e.fKey=true) then 7 else 0
mutual
def nb:Nat→Nat→ac→Int×Nat
 | c,lv,.mk k op nm key v kids at'=>if 32 < lv then (4,c) else if 4096≤c then (14,c)
  else if oo (.mk k op nm key v kids at')=0 then np (c+1) (lv+1) kids else (oo (.mk k op nm key v kids at'),c+1)
def np:Nat→Nat→List ac→Int×Nat
 | c,_,[]=>(0,c)
 | c,lv,x::r=>if (nb c lv x).1=0 then np (nb c lv x).2 lv r else nb c lv x
end
theorem uk (c lv:Nat)(e:ac):nb c lv e=if 32 < lv then (4,c) else if 4096≤c then (14,c) else if oo e=0 then np (c+1) (lv+1) e.fKids else (oo e,c+1):=by
 cases e; rw [nb]; rfl
theorem pE (c lv:Nat)(x:ac)(r:List ac):np c lv (x::r)=if (nb c lv x).1=0 then np (nb c lv x).2 lv r else nb c lv x:=by rw [np]
def chk (e:ac):Int:=(nb 0 1 e).1
def nlT (t:ad):Bool:=decide (t.fKind=5)
def nf (b:Bool)(l:List ad):List ad:=if b then l.dropWhile nlT else l
def hd (b:Bool)(l:List ad):ad:=(nf b l).headD (ad.mk 6 [] 0)
def tl (b:Bool)(l:List ad):List ad:=(nf b l).tail
def sgB (b:Bool)(l:List ad)(s:Bytes):Bool:=decide ((hd b l).fKind=4)&&decide ((hd b l).fText=s)
def wdB (b:Bool)(l:List ad)(s:Bytes):Bool:=decide ((hd b l).fKind=1)&&decide ((hd b l).fText=s)
abbrev PE:=Int×Int
abbrev PR (α:Type):=Option (PE⊕(α×List ad))
def pb {α β:Type}(x:PR α)(k:α→List ad→PR β):PR β:=match x with
 | none=>none
 | some (.inl e)=>some (.inl e)
 | some (.inr (a,l))=>k a l
def pok {α:Type}(a:α)(l:List ad):PR α:=some (.inr (a,l))
def per {α:Type}(k a:Int):PR α:=some (.inl (k,a))
def fG (b:Bool)(s:Bytes)(l:List ad):PR Unit:=if sgB b l s then pok () (tl b l) else per 2 (hd b l).fAt
def uq (b:Bool)(s:Bytes)(l:List ad):PR Unit:=if wdB b l s then pok () (tl b l) else per 2 (hd b l).fAt
def rY (b:Bool)(l:List ad):PR Bytes:=if (hd b l).fKind=1∧oj (hd b l).fText=false then pok (hd b l).fText (tl b l) else per 2 (hd b l).fAt
def sa:Nat→List (Bytes×Int)
 | 0=>[([124,124],3)]
 | 1=>[([38,38],4)]
 | 2=>[([61,61],5),([33,61],6)]
 | 3=>[([60],7),([60,61],8),([62],9),([62,61],10)]
 | 4=>[([43],11),([45],12)]
 | _=>[([42],13),([47],14),([37],15)]
def qW (b:Bool)(l:List ad)(lev:Nat):Option (Bytes×Int):=(sa lev).find? (λ p=>sgB b l p.1)
def mvT (base:Int)(t:ad):ad:=ad.mk t.fKind t.fText (t.fAt+base)
mutual
def fO:Nat→Nat→Bytes→Option (Option Bytes)
 | 0,_,_=>none
 | _+1,_,[]=>some none
 | f+1,d,b::r=>if b.toNat=123 then fO f (d+1) r
  else if b.toNat=125 then (if d=1 then some (some r) else fO f (d - 1) r)
  else if b.toNat=34 then (match iu f r with | none=>none | some none=>some none | some (some r')=>fO f d r')
  else fO f d r
def iu:Nat→Bytes→Option (Option Bytes)
 | 0,_=>none
 | _+1,[]=>some none
 | f+1,b::r=>if b.toNat=34 then some (some r)
  else if b.toNat=92 then iu f (r.drop 1)
  else if hasPrefix (b::r) [36,36,123]=true then iu f ((b::r).drop 3)
  else if hasPrefix (b::r) [36,123]=true then (match fO f 1 ((b::r).drop 2) with | none=>none | some none=>some none | some (some r')=>iu f r')
  else iu f r
end
def jG:Bytes→Int⊕(Bytes×Nat)
 | []=>.inl 40
 | b::r=>if b.toNat=92 then (if (dD r).2.2=0 then .inr (encodeRune (dD r).1,(dD r).2.1.toNat+1) else .inl (dD r).2.2)
  else if j4 (decodeL (b::r))∨b.toNat=34 then .inl 2 else .inr ((b::r).take (decodeL (b::r)).2,(decodeL (b::r)).2)
def flS (frm pos:Int)(text:Bytes)(parts:List ac):List ac:=if frm < pos then parts++[yL text frm] else parts
def kW:PE⊕ac→PE⊕ac
 | .inl e=>.inl e
 | .inr e=>if chk e=0 then .inr e else .inl (chk e,e.fAt)
def AO:PE⊕ac→ac×ax
 | .inl e=>(e0,ax.mk e.1 e.2 [])
 | .inr e=>(e,ax.mk 0 0 [])
def ny (at':Int):Int×Int×Bytes×List ac×Bool→ac
 | (frm,pos,text,parts,opn)=>if opn then ac.mk 2 0 [] [] v0 (flS frm pos text parts) at' else yL text at'
mutual
def eC:Nat→Bool→List ad→PR ac
 | 0,_,_=>none
 | f+1,b,l=>pb (kK f 0 b l) λ c l=>if sgB b l [63] then pb (eC f b (tl b l)) λ a l=>pb (fG b [58] l) λ _ l=>pb (eC f b l) λ d l=>pok (ac.mk 8 0 [] [] v0 [c,a,d] c.fAt) l else pok c l
def kK:Nat→Nat→Bool→List ad→PR ac
 | 0,_,_,_=>none
 | f+1,lev,b,l=>if 5 < lev then unS f b l else pb (kK f (lev+1) b l) λ e l=>lx f lev b e l
def lx:Nat→Nat→Bool→ac→List ad→PR ac
 | 0,_,_,_,_=>none
 | f+1,lev,b,e,l=>match qW b l lev with
  | none=>pok e l
  | some p=>pb (kK f (lev+1) b (tl b l)) λ x l=>lx f lev b (ac.mk 7 p.2 [] [] v0 [e,x] e.fAt) l
def unS:Nat→Bool→List ad→PR ac
 | 0,_,_=>none
 | f+1,b,l=>if sgB b l [33] then pb (unS f b (tl b l)) λ e l'=>pok (ac.mk 6 1 [] [] v0 [e] (hd b l).fAt) l'
  else if sgB b l [45] then pb (unS f b (tl b l)) λ e l'=>pok (ac.mk 6 2 [] [] v0 [e] (hd b l).fAt) l'
  else pb (jA f b l) λ e l=>iw f b e l
def iw:Nat→Bool→ac→List ad→PR ac
 | 0,_,_,_=>none
 | f+1,b,e,l=>if sgB b l [46] then (if (hd b (tl b l)).fKind=1 then iw f b (ac.mk 4 0 (hd b (tl b l)).fText [] v0 [e] e.fAt) (tl b (tl b l)) else per 2 (hd b (tl b l)).fAt)
  else if sgB b l [91] then pb (eC f true (tl b l)) λ x l=>pb (fG true [93] l) λ _ l=>iw f b (ac.mk 5 0 [] [] v0 [e,x] e.fAt) l
  else pok e l
def jA:Nat→Bool→List ad→PR ac
 | 0,_,_=>none
 | f+1,b,l=>if (hd b l).fKind=2 then (if (vT (hd b l).fText).2=0 then pok (uO (ah.mk 2 (vT (hd b l).fText).1 [] [] []) (hd b l).fAt) (tl b l) else per (vT (hd b l).fText).2 (hd b l).fAt)
  else if (hd b l).fKind=3 then mf f b l
  else if (hd b l).fKind=1 then jI f b l
  else if sgB b l [40] then pb (eC f true (tl b l)) λ e l=>pb (fG true [41] l) λ _ l=>pok e l
  else if sgB b l [91] then (if wdB true (tl b l) [102,111,114] then iV f (hd b l).fAt 12 (tl true (tl b l)) else pb (fU f [93] (tl b l)) λ ks l'=>pok (ac.mk 10 0 [] [] v0 ks (hd b l).fAt) l')
  else if sgB b l [123] then (if wdB true (tl b l) [102,111,114] then iV f (hd b l).fAt 13 (tl true (tl b l)) else pb (lw f (tl b l)) λ ks l'=>pok (ac.mk 11 0 [] [] v0 ks (hd b l).fAt) l')
  else per 2 (hd b l).fAt
def mf:Nat→Bool→List ad→PR ac
 | 0,_,_=>none
 | f+1,b,l=>match gV f (hd b l).fText ((hd b l).fAt+1) with
  | none=>none
  | some (.inl e)=>some (.inl e)
  | some (.inr e)=>pok (ac.mk e.fKind e.fOp e.fName e.fKey e.fValue e.fKids (hd b l).fAt) (tl b l)
def jI:Nat→Bool→List ad→PR ac
 | 0,_,_=>none
 | f+1,b,l=>if (hd b l).fText=[110,117,108,108] then pok (uO v0 (hd b l).fAt) (tl b l)
  else if (hd b l).fText=[116,114,117,101] then pok (uO (ah.mk 1 1 [] [] []) (hd b l).fAt) (tl b l)
  else if (hd b l).fText=[102,97,108,115,101] then pok (uO (ah.mk 1 0 [] [] []) (hd b l).fAt) (tl b l)
  else if oj (hd b l).fText=true then per 2 (hd b l).fAt
  else if sgB b (tl b l) [40] then pb (fU f [41] (tl b (tl b l))) λ ks l'=>pok (ac.mk 9 0 (hd b l).fText [] v0 ks (hd b l).fAt) l'
  else pok (ac.mk 3 0 (hd b l).fText [] v0 [] (hd b l).fAt) (tl b l)
def fU:Nat→Bytes→List ad→PR (List ac)
 | 0,_,_=>none
 | f+1,e,l=>if sgB true l e then pok [] (tl true l)
  else pb (eC f true l) λ x l=>if sgB true l [44] then pb (fU f e (tl true l)) λ r l=>pok (x::r) l else pb (fG true e l) λ _ l=>pok [x] l
def lw:Nat→List ad→PR (List ac)
 | 0,_=>none
 | f+1,l=>if sgB true l [125] then pok [] (tl true l)
  else pb (jJ f l) λ k l=>pb (fG true [61] l) λ _ l=>pb (eC f true l) λ x l=>if sgB true l [44] then pb (lw f (tl true l)) λ r l=>pok (k::x::r) l else pb (fG true [125] l) λ _ l=>pok [k,x] l
def jJ:Nat→List ad→PR ac
 | 0,_=>none
 | f+1,l=>if (hd true l).fKind=1 then pok (yL (hd true l).fText (hd true l).fAt) (tl true l)
  else if (hd true l).fKind=3 then mf f true l
  else if sgB true l [40] then pb (eC f true (tl true l)) λ e l=>pb (fG true [41] l) λ _ l=>pok e l
  else per 2 (hd true l).fAt
def iV:Nat→Int→Int→List ad→PR ac
 | 0,_,_,_=>none
 | f+1,at',k,l=>pb (rY true l) λ v l =>
  pb (if sgB true l [44] then pb (rY true (tl true l)) λ w l=>pok (w,v) l else pok (v,[]) l) λ nk l =>
  pb (uq true [105,110] l) λ _ l=>pb (eC f true l) λ a l=>pb (fG true [58] l) λ _ l=>pb (eC f true l) λ c l =>
  pb (if k=13 then pb (fG true [61,62] l) λ _ l=>pb (eC f true l) λ d l=>pok [a,c,d] l else pok [a,c] l) λ ks l =>
  pb (if wdB true l [105,102] then pb (eC f true (tl true l)) λ e l=>pok (ks++[e]) l else pok ks l) λ ks l =>
  pb (fG true (if k=13 then [125] else [93]) l) λ _ l=>pok (ac.mk k 0 nk.1 nk.2 v0 ks at') l
def gV:Nat→Bytes→Int→Option (PE⊕ac)
 | 0,_,_=>none
 | f+1,s,at'=>match fo f at' at' [] [] false s with
  | none=>none
  | some (.inl e)=>some (.inl e)
  | some (.inr z)=>some (kW (.inr (ny at' z)))
def fo:Nat→Int→Int→Bytes→List ac→Bool→Bytes→Option (PE⊕(Int×Int×Bytes×List ac×Bool))
 | 0,_,_,_,_,_,_=>none
 | f+1,frm,pos,text,parts,opn,l=>match l with
  | []=>some (.inr (frm,pos,text,parts,opn))
  | c::r=>if hasPrefix (c::r) [36,36,123]=true then (if 4096 < text.length+2 then some (.inl (3,frm)) else fo f frm (pos+3) (text++[36,123]) parts opn ((c::r).drop 3))
   else if hasPrefix (c::r) [36,123]=true then (match fO f 1 ((c::r).drop 2) with
    | none=>none
    | some none=>some (.inl (40,pos))
    | some (some r')=>match dO f (((c::r).drop 2).take (((c::r).drop 2).length - r'.length - 1)) (pos+2) with
     | none=>none
     | some (.inl e)=>some (.inl e)
     | some (.inr e)=>fo f (pos+((c::r).length - r'.length:Nat)) (pos+((c::r).length - r'.length:Nat)) [] (flS frm pos text parts++[e]) true r')
   else match jG (c::r) with
    | .inl k=>some (.inl (k,pos))
    | .inr (t,n)=>if 4096 < text.length+t.length then some (.inl (3,frm)) else fo f frm (pos+(n:Int)) (text++t) parts opn ((c::r).drop n)
def dO:Nat→Bytes→Int→Option (PE⊕ac)
 | 0,_,_=>none
 | f+1,s,base=>if (dQ s).2.fKind≠0 then some (.inl ((dQ s).2.fKind,base+(dQ s).2.fAt))
  else match eC f true ((dQ s).1.map (mvT base)) with
   | none=>none
   | some (.inl e)=>some (.inl e)
   | some (.inr (e,l))=>if (hd true l).fKind=6 then some (.inr e) else some (.inl (2,(hd true l).fAt))
end
theorem rf {P:Int→Prop}{i:Nat}(h:P ((i+1:Nat):Int)):P ((i:Int)+1):=by rwa [Int.natCast_add,Int.natCast_one] at h
def TkB (t:ad):Prop:=0≤t.fAt∧t.fAt+(t.fText.length:Int)≤1000000000∧(t.fKind=3→t.fAt+1+(t.fText.length:Int)≤1000000000)∧(t.fKind=2→t.fText.all eq=true)
def Gd:List ad→Prop
 | []=>False
 | t::r=>TkB t∧((t.fKind=6∧r=[])∨(t.fKind≠6∧Gd r))
theorem C3 {t:ad}:nlT t=true↔t.fKind=5:=by simp [nlT]
theorem uf (b:Bool):nf b []=[]:=by cases b <;> rfl
theorem ko (b:Bool)(t:ad)(r:List ad):nf b (t::r)=if b=true∧t.fKind=5 then nf b r else t::r:=by
 cases b with
 | false=>simp [nf]
 | true=>simp only [nf,if_true,true_and]; rw [List.dropWhile_cons]; simp only [C3]
theorem A3 (b:Bool):∀ (l:List ad),nf b (nf b l)=nf b l
 | []=>by rw [uf,uf]
 | t::r=>by
  rw [ko]
  split
  ·exact A3 b r
  ·rename_i h; rw [ko,if_neg h]
theorem mC {b:Bool}:∀ {l:List ad},Gd l→Gd (nf b l)
 | [],h=>h.elim
 | t::r,h=>by
  rw [ko]
  split
  ·rename_i h1
   rcases h.2 with h2 | h2
   ·omega
   ·exact mC h2.2
  ·exact h
theorem wi (b:Bool):∀ (l:List ad),(nf b l).length≤l.length
 | []=>by rw [uf]; exact Nat.le_refl _
 | t::r=>by
  rw [ko]
  split
  ·exact Nat.le_succ_of_le (wi b r)
  ·exact Nat.le_refl _
theorem tq (b:Bool)(base:Int):∀ (l:List ad),nf b (l.map (mvT base))=(nf b l).map (mvT base)
 | []=>by rw [List.map_nil,uf,List.map_nil]
 | t::r=>by
  rw [List.map_cons,ko,ko,tq b base r]
  show (if b=true∧t.fKind=5 then _ else _)=_
  split <;> rfl
theorem sw {l:List ad}(h:Gd l):l≠[]:=by intro e; subst e; exact h
theorem n0 {b:Bool}{l:List ad}(h:Gd (nf b l)):nf b l=hd b l::tl b l:=by
 unfold hd tl
 cases hn:nf b l with
 | nil=>rw [hn] at h; exact h.elim
 | cons t r=>rfl
theorem rp {b:Bool}{l:List ad}(h:Gd (nf b l)):TkB (hd b l):=by
 have:=h; rw [n0 h] at this; exact this.1
theorem x9 {b:Bool}{l:List ad}(h:Gd (nf b l))(h6:(hd b l).fKind≠6):Gd (tl b l):=by
 have:=h; rw [n0 h] at this
 rcases this.2 with h2 | h2
 ·exact absurd h2.1 h6
 ·exact h2.2
theorem E8 {b:Bool}{l:List ad}(h:Gd (nf b l)):(tl b l).length < l.length:=by
 have h1:=congrArg List.length (n0 h)
 have:=wi b l
 rw [List.length_cons] at h1; omega
theorem nV {b:Bool}{l:List ad}{s:Bytes}:sgB b l s=true↔(hd b l).fKind=4∧(hd b l).fText=s:=by simp [sgB]
theorem ui {b:Bool}{l:List ad}{s:Bytes}:wdB b l s=true↔(hd b l).fKind=1∧(hd b l).fText=s:=by simp [wdB]
theorem tS {base:Int}:∀ {L:List ad} {i:Nat},Gd (L.map (mvT base))→i < L.length→Gd ((L.drop i).map (mvT base))
 | [],_,h,_=>h.elim
 | t::r,0,h,_=>h
 | t::r,i+1,h,hi=>by
  rcases h.2 with h2 | h2
  ·have:r=[]:=List.map_eq_nil_iff.1 h2.2
   subst this; simp at hi
  ·exact tS (L:=r) (i:=i) h2.2 (by simpa using hi)
theorem og {L:List ad}{i:Nat}(h:i < L.length):L.drop i=lat L (i:Int)::L.drop (i+1):=by
 rw [mK L i h]; exact List.drop_eq_getElem_cons h
section
variable {L:List ad} {base:Int}
def Pos (L:List ad)(base:Int)(i:Nat)(nest:Int)(b:Bool)(l:List ad):Prop :=
 i < L.length∧0≤nest∧nest+((L.length - i:Nat):Int)≤1000000000∧b=decide (0 < nest)∧nf b ((L.drop i).map (mvT base))=nf b l
theorem Pos.gd {i:Nat}{nest:Int}{b:Bool}{l:List ad}(hL:Gd (L.map (mvT base)))(h:Pos L base i nest b l):Gd (nf b l):=by
 rw [← h.2.2.2.2]; exact mC (tS hL h.1)
theorem C1 (hL:Gd (L.map (mvT base)))(hlen:L.length≤1000000000){nest:Int}{d:ax}{a:Int}:∀ (k i:Nat),i+k=L.length→0 < k →
  Ev2 (λ _ m=>bU (.mk L a nest base d) m (i:Int)) (λ j=>∃ j':Nat,j=(j':Int)∧i≤j'∧j' < L.length∧L.drop j'=nf (decide (0 < nest)) (L.drop i)):=by
 intro k
 induction k with
 | zero=>intro i _ h; omega
 | succ k ih =>
  intro i hi _
  have hd':=og (L:=L) (i:=i) O
  refine aZ ?_
  simp only [bU]
  refine am (decide (0 < nest∧(lat L (i:Int)).fKind=5)) ?_ ?_
  ·refine aK (λ h=>av ⟨by omega,by show (i:Int) < (L.length:Int); omega⟩ (ab ?_)) (λ h=>ab ?_)
   ·have h:0 < nest:=h
    simp only [h,true_and]
   ·have h:¬ 0 < nest:=h
    simp [h]
  ·by_cases h:0 < nest∧(lat L (i:Int)).fKind=5
   ·refine ai (by simpa using h) (av (aI O O) ?_)
    have hk:0 < k:=by
     have hg:=tS hL (i:=i) O
     rw [hd',List.map_cons] at hg
     rcases hg.2 with h2 | h2
     ·have h2:(lat L (i:Int)).fKind=6:=h2.1
      omega
     ·have:=sw h2.2
      rcases Nat.eq_zero_or_pos k with hk | hk
      ·subst hk; rw [List.drop_eq_nil_of_le O] at this; exact absurd rfl this
      ·exact hk
    refine cn (rf (P:=λ j=>Ev2 (λ _ m=>bU (.mk L a nest base d) m j) _) (ih (i+1) O hk)) ?_
    rintro r ⟨j',h1,h2,h3,h4⟩
    refine ⟨j',h1,by omega,h3,?_⟩
    rw [h4,hd',ko,if_pos ⟨by simp [h.1],h.2⟩]
   ·refine ag (by simpa using h) (ab ⟨i,Z,Nat.le_refl _,by omega,?_⟩)
    rw [hd',ko,if_neg (by simpa using h)]
theorem Pos.ext {i j:Nat}{nest:Int}{b:Bool}{l:List ad}(h:Pos L base i nest b l)(h1:i≤j)(h2:j < L.length)(h3:L.drop j=nf b (L.drop i)):Pos L base j nest b l:=by
 obtain ⟨q1,q2,q3,q4,q5⟩:=h
 refine ⟨h2,q2,by omega,q4,?_⟩
 rw [tq,h3,A3,← tq,q5]
theorem Pos.any {i:Nat}{nest:Int}{b:Bool}{l:List ad}(h:Pos L base i nest b l):Pos L base i nest b ((L.drop i).map (mvT base)):=⟨h.1,h.2.1,h.2.2.1,h.2.2.2.1,Z⟩
theorem eR (hL:Gd (L.map (mvT base)))(hlen:L.length≤1000000000){i:Nat}{nest:Int}{b:Bool}{l:List ad}{d:ax}(h:Pos L base i nest b l) :
  Ev2 (λ n _=>bb n (.mk L (i:Int) nest base d)) (λ z=>z.1=hd b l∧∃ j:Nat,z.2=.mk L (j:Int) nest base d∧Pos L base j nest b l∧(L.drop j).map (mvT base)=nf b l∧i≤j):=by
 simp only [bb]
 have hi:=h.1
 refine af _ (bT (C1 hL hlen (d:=d) (a:=(i:Int)) (L.length - i) i O O)) ?_
 rintro x ⟨j,rfl,h1,h2,h3⟩
 rw [← h.2.2.2.1] at h3
 have hg:Gd (nf b l):=h.gd hL
 have hdr:(L.drop j).map (mvT base)=nf b l:=by rw [h3,← tq,h.2.2.2.2]
 have hhd:mvT base (lat L (j:Int))=hd b l:=by
  have:=hdr
  rw [og h2,List.map_cons,n0 hg] at this
  exact (List.cons.inj this).1
 have hb:=rp hg
 rw [← hhd] at hb
 obtain ⟨b1,b2,-,-⟩:=hb
 have b1:0≤(lat L (j:Int)).fAt+base:=b1
 have b2:(lat L (j:Int)).fAt+base+((lat L (j:Int)).fText.length:Int)≤1000000000:=b2
 refine av ⟨by omega,by show (j:Int) < (L.length:Int); omega⟩ (av (aI (by show _≤(lat L (j:Int)).fAt+base; omega) (by show (lat L (j:Int)).fAt+base≤_; omega)) (ab ⟨hhd,j,Z,h.ext h1 h2 h3,hdr,h1⟩))
theorem Pos.next {j:Nat}{nest:Int}{b:Bool}{l:List ad}(hL:Gd (L.map (mvT base)))(h:Pos L base j nest b l)(hdr:(L.drop j).map (mvT base)=nf b l)(h6:(hd b l).fKind≠6) :
  Pos L base (j+1) nest b (tl b l)∧(L.drop (j+1)).map (mvT base)=tl b l:=by
 have hg:Gd (nf b l):=h.gd hL
 have e:(L.drop (j+1)).map (mvT base)=tl b l:=by
  have:=hdr
  rw [og h.1,List.map_cons,n0 hg] at this
  exact (List.cons.inj this).2
 have hne:=sw (x9 hg h6)
 have:j+1 < L.length:=by
  rw [← e] at hne
  rcases Nat.lt_or_ge (j+1) L.length with q | q
  ·exact q
  ·rw [List.drop_eq_nil_of_le q] at hne; exact absurd rfl hne
 obtain ⟨q1,q2,q3,q4,q5⟩:=h
 exact ⟨⟨this,q2,by omega,q4,by rw [e]⟩,e⟩
theorem C9 (hL:Gd (L.map (mvT base)))(hlen:L.length≤1000000000){i:Nat}{nest:Int}{b:Bool}{l:List ad}{d:ax}(h:Pos L base i nest b l) :
  Ev2 (λ n _=>aH n (.mk L (i:Int) nest base d)) (λ z=>z.1=hd b l∧∃ j:Nat,z.2=.mk L (j:Int) nest base d∧if (hd b l).fKind=6 then Pos L base j nest b l else Pos L base j nest b (tl b l)∧(L.drop j).map (mvT base)=tl b l∧i < j):=by
 simp only [aH]
 refine af _ (eR hL hlen h) ?_
 rintro ⟨z1,z2⟩ ⟨h1,j,h2,h3,h4,h5⟩
 replace h1:z1=_:=h1; subst h1; cases h2
 have hj:=h3.1
 by_cases h6:(hd b l).fKind=6
 ·refine am (j:Int) (ai h6 (ab Z)) (ab ⟨Z,j,Z,?_⟩)
  rw [if_pos h6]; exact h3
 ·refine am ((j:Int)+1) (ag h6 (av (aI (by show _≤(j:Int)+1; omega) (by show (j:Int)+1≤_; omega)) (ab Z))) (ab ⟨Z,j+1,Z,?_⟩)
  rw [if_neg h6]; exact ⟨(h3.next hL h4 h6).1,(h3.next hL h4 h6).2,by omega⟩
theorem dN (hL:Gd (L.map (mvT base)))(hlen:L.length≤1000000000){i:Nat}{nest:Int}{b:Bool}{l:List ad}{d:ax}(h:Pos L base i nest b l)(h6:(hd b l).fKind≠6) :
  Ev2 (λ n _=>aH n (.mk L (i:Int) nest base d)) (λ z=>z.1=hd b l∧∃ j:Nat,z.2=.mk L (j:Int) nest base d∧Pos L base j nest b (tl b l)∧(L.drop j).map (mvT base)=tl b l∧i < j) :=
 cn (C9 hL hlen h) λ z ⟨h1,j,h2,h3⟩=>⟨h1,j,h2,by rw [if_neg h6] at h3; exact h3⟩
theorem Cn (p:ae)(k a:Int):bu p k a=some (e0,if p.fbad.fKind=0 then .mk p.fl p.fat p.fnest p.fbase (.mk k a []) else .mk p.fl p.fat p.fnest p.fbase (.mk p.fbad.fKind p.fbad.fAt p.fbad.fName)):=by
 simp only [bu,aV,Option.bind_some]
 by_cases h:p.fbad.fKind=0
 ·simp only [h]; rfl
 ·simp only [h]; rfl
def dOk:ax:=ax.mk 0 0 []
def eD (e:PE):ax:=ax.mk e.1 e.2 []
def Out {α:Type}(L:List ad)(base:Int)(nest:Int)(b:Bool)(q:PE⊕(α×List ad))(z:α×ae):Prop:=match q with
 | .inl e=>e.1≠0∧∃ (j:Nat) (l':List ad),z.2=.mk L (j:Int) nest base (eD e)∧Pos L base j nest b l'
 | .inr (x,l)=>z.1=x∧∃ j:Nat,z.2=.mk L (j:Int) nest base dOk∧Pos L base j nest b l
def Cp (L:List ad)(base:Int)(nest:Int)(b:Bool)(q:PE⊕(Unit×List ad))(z:ae):Prop:=match q with
 | .inl e=>e.1≠0∧∃ (j:Nat) (l':List ad),z=.mk L (j:Int) nest base (eD e)∧Pos L base j nest b l'
 | .inr (_,l)=>∃ j:Nat,z=.mk L (j:Int) nest base dOk∧Pos L base j nest b l∧(L.drop j).map (mvT base)=l
theorem fk (hL:Gd (L.map (mvT base)))(hlen:L.length≤1000000000){i:Nat}{nest:Int}{b:Bool}{l:List ad}(s:Bytes)(h:Pos L base i nest b l) :
  Ev2 (λ n _=>aP n (.mk L (i:Int) nest base dOk) s) (λ z=>z.1=sgB b l s∧∃ j:Nat,z.2=.mk L (j:Int) nest base dOk∧Pos L base j nest b l):=by
 simp only [aP,aV,Option.bind_some]
 refine af _ (eR hL hlen h) ?_
 rintro ⟨z1,z2⟩ ⟨h1,j,h2,h3,h4,h5⟩
 replace h1:z1=_:=h1; subst h1; cases h2
 refine am (sgB b l s,L,(j:Int),nest,base,0,0,[]) ?_ (ab ⟨Z,j,Z,h3⟩)
 refine ai Z (aK (λ h=>ab ?_) (λ h=>ab ?_))
 ·have h:(hd b l).fKind=4:=h
  simp only [sgB,h,decide_true,Bool.true_and] <;> rfl
 ·have h:¬ (hd b l).fKind=4:=h
  simp only [sgB,h,decide_false,Bool.false_and] <;> rfl
theorem jh (hL:Gd (L.map (mvT base)))(hlen:L.length≤1000000000){i:Nat}{nest:Int}{b:Bool}{l:List ad}{e:PE}(s:Bytes)(he:e.1≠0)(h:Pos L base i nest b l) :
  Ev2 (λ n _=>aP n (.mk L (i:Int) nest base (eD e)) s) (λ z=>∃ j:Nat,z=(false,.mk L (j:Int) nest base (eD e))∧Pos L base j nest b l):=by
 simp only [aP,aV,Option.bind_some]
 refine af _ (eR hL hlen h) ?_
 rintro ⟨z1,z2⟩ ⟨h1,j,h2,h3,h4,h5⟩
 replace h1:z1=_:=h1; subst h1; cases h2
 refine am (false,L,(j:Int),nest,base,e.1,e.2,[]) ?_ (ab ⟨j,Z,h3⟩)
 have:(!(!decide ((eD e).fKind=0)))=false:=by show (!(!decide (e.1=0)))=false; simp [he]
 exact ag (by show ¬ (!(!decide ((eD e).fKind=0)))=true; simp [this]) (ab Z)
theorem oG (hL:Gd (L.map (mvT base)))(hlen:L.length≤1000000000){i:Nat}{nest:Int}{b:Bool}{l:List ad}(s:Bytes)(h:Pos L base i nest b l) :
  Ev2 (λ n _=>bZ n (.mk L (i:Int) nest base dOk) s) (λ z=>z.1=wdB b l s∧∃ j:Nat,z.2=.mk L (j:Int) nest base dOk∧Pos L base j nest b l):=by
 simp only [bZ,aV,Option.bind_some]
 refine af _ (eR hL hlen h) ?_
 rintro ⟨z1,z2⟩ ⟨h1,j,h2,h3,h4,h5⟩
 replace h1:z1=_:=h1; subst h1; cases h2
 refine am (wdB b l s,L,(j:Int),nest,base,0,0,[]) ?_ (ab ⟨Z,j,Z,h3⟩)
 refine ai Z (aK (λ h=>ab ?_) (λ h=>ab ?_))
 ·have h:(hd b l).fKind=1:=h
  simp only [wdB,h,decide_true,Bool.true_and] <;> rfl
 ·have h:¬ (hd b l).fKind=1:=h
  simp only [wdB,h,decide_false,Bool.false_and] <;> rfl
theorem me (hL:Gd (L.map (mvT base)))(hlen:L.length≤1000000000){i:Nat}{nest:Int}{b:Bool}{l:List ad}{e:PE}(s:Bytes)(he:e.1≠0)(h:Pos L base i nest b l) :
  Ev2 (λ n _=>bZ n (.mk L (i:Int) nest base (eD e)) s) (λ z=>∃ j:Nat,z=(false,.mk L (j:Int) nest base (eD e))∧Pos L base j nest b l):=by
 simp only [bZ,aV,Option.bind_some]
 refine af _ (eR hL hlen h) ?_
 rintro ⟨z1,z2⟩ ⟨h1,j,h2,h3,h4,h5⟩
 replace h1:z1=_:=h1; subst h1; cases h2
 refine am (false,L,(j:Int),nest,base,e.1,e.2,[]) ?_ (ab ⟨j,Z,h3⟩)
 have:(!(!decide ((eD e).fKind=0)))=false:=by show (!(!decide (e.1=0)))=false; simp [he]
 exact ag (by show ¬ (!(!decide ((eD e).fKind=0)))=true; simp [this]) (ab Z)
theorem gH (i nest:Int)(k a:Int):bu (.mk L i nest base dOk) k a=some (e0,.mk L i nest base (eD (k,a))):=rfl
theorem tY {e:PE}(he:e.1≠0)(i nest:Int)(k a:Int):bu (.mk L i nest base (eD e)) k a=some (e0,.mk L i nest base (eD e)):=by
 rw [Cn,if_neg (show ¬ (eD e).fKind=0 from he)]
theorem jq (hL:Gd (L.map (mvT base)))(hlen:L.length≤1000000000){i:Nat}{nest:Int}{b:Bool}{l:List ad}(s:Bytes){q:PE⊕(Unit×List ad)}(h:Pos L base i nest b l)(hq:fG b s l=some q) :
  Ev2 (λ n _=>bR n (.mk L (i:Int) nest base dOk) s) (Cp L base nest b q):=by
 simp only [bR]
 refine af _ (fk hL hlen s h) ?_
 rintro ⟨z1,z2⟩ ⟨h1,j,h2,h3⟩
 replace h1:z1=_:=h1; subst h1; cases h2
 unfold fG at hq
 by_cases hs:sgB b l s=true
 ·rw [if_pos hs] at hq; cases hq
  refine ag (by simp [hs]) (af _ (dN hL hlen h3 (by have:=(nV.1 hs).1; omega)) ?_)
  rintro ⟨y1,y2⟩ ⟨g1,k,g2,g3,g4,g5⟩
  cases g2
  exact ab ⟨k,Z,g3,g4⟩
 ·rw [if_neg hs] at hq; cases hq
  refine ai (by simpa using hs) (af _ (eR hL hlen h3) ?_)
  rintro ⟨y1,y2⟩ ⟨g1,k,g2,g3,g4,g5⟩
  replace g1:y1=_:=g1; subst g1; cases g2
  refine am _ (ao (gH _ _ _ _) Z) (ab ⟨(by decide:(2:Int)≠0),k,l,Z,g3⟩)
theorem jd (hL:Gd (L.map (mvT base)))(hlen:L.length≤1000000000){i:Nat}{nest:Int}{b:Bool}{l:List ad}{e:PE}(s:Bytes)(he:e.1≠0)(h:Pos L base i nest b l) :
  Ev2 (λ n _=>bR n (.mk L (i:Int) nest base (eD e)) s) (λ z=>∃ (j:Nat) (l':List ad),z=.mk L (j:Int) nest base (eD e)∧Pos L base j nest b l'):=by
 simp only [bR]
 refine af _ (jh hL hlen s he h) ?_
 rintro _ ⟨j,rfl,h3⟩
 refine ai Z (af _ (eR hL hlen h3) ?_)
 rintro ⟨y1,y2⟩ ⟨g1,k,g2,g3,g4,g5⟩
 replace g1:y1=_:=g1; subst g1; cases g2
 exact am _ (ao (tY he _ _ _ _) Z) (ab ⟨k,l,Z,g3⟩)
theorem rq (hL:Gd (L.map (mvT base)))(hlen:L.length≤1000000000){i:Nat}{nest:Int}{b:Bool}{l:List ad}(s:Bytes){q:PE⊕(Unit×List ad)}(h:Pos L base i nest b l)(hq:uq b s l=some q) :
  Ev2 (λ n _=>ce n (.mk L (i:Int) nest base dOk) s) (Cp L base nest b q):=by
 simp only [ce]
 refine af _ (oG hL hlen s h) ?_
 rintro ⟨z1,z2⟩ ⟨h1,j,h2,h3⟩
 replace h1:z1=_:=h1; subst h1; cases h2
 unfold uq at hq
 by_cases hs:wdB b l s=true
 ·rw [if_pos hs] at hq; cases hq
  refine ag (by simp [hs]) (af _ (dN hL hlen h3 (by have:=(ui.1 hs).1; omega)) ?_)
  rintro ⟨y1,y2⟩ ⟨g1,k,g2,g3,g4,g5⟩
  cases g2
  exact ab ⟨k,Z,g3,g4⟩
 ·rw [if_neg hs] at hq; cases hq
  refine ai (by simpa using hs) (af _ (eR hL hlen h3) ?_)
  rintro ⟨y1,y2⟩ ⟨g1,k,g2,g3,g4,g5⟩
  replace g1:y1=_:=g1; subst g1; cases g2
  refine am _ (ao (gH _ _ _ _) Z) (ab ⟨(by decide:(2:Int)≠0),k,l,Z,g3⟩)
theorem sW (hL:Gd (L.map (mvT base)))(hlen:L.length≤1000000000){i:Nat}{nest:Int}{b:Bool}{l:List ad}{e:PE}(s:Bytes)(he:e.1≠0)(h:Pos L base i nest b l) :
  Ev2 (λ n _=>ce n (.mk L (i:Int) nest base (eD e)) s) (λ z=>∃ (j:Nat) (l':List ad),z=.mk L (j:Int) nest base (eD e)∧Pos L base j nest b l'):=by
 simp only [ce]
 refine af _ (me hL hlen s he h) ?_
 rintro _ ⟨j,rfl,h3⟩
 refine ai Z (af _ (eR hL hlen h3) ?_)
 rintro ⟨y1,y2⟩ ⟨g1,k,g2,g3,g4,g5⟩
 replace g1:y1=_:=g1; subst g1; cases g2
 exact am _ (ao (tY he _ _ _ _) Z) (ab ⟨k,l,Z,g3⟩)
theorem Pos.out {j:Nat}{nest:Int}{l l':List ad}(h:Pos L base j (nest+1) true l)(h0:0≤nest)(he:(L.drop j).map (mvT base)=l'):Pos L base j nest (decide (0 < nest)) l':=by
 obtain ⟨q1,q2,q3,q4,q5⟩:=h
 exact ⟨q1,h0,by omega,Z,by rw [he]⟩
theorem B9 (hL:Gd (L.map (mvT base)))(hlen:L.length≤1000000000){i:Nat}{nest:Int}{l:List ad}(s:Bytes){q:PE⊕(Unit×List ad)}(h0:0≤nest)(h:Pos L base i (nest+1) true l)(hq:fG true s l=some q) :
  Ev2 (λ n _=>bf n (.mk L (i:Int) (nest+1) base dOk) s) (Cp L base nest (decide (0 < nest)) q):=by
 simp only [bf]
 refine af _ (jq hL hlen s h hq) ?_
 intro z hz
 have hb:=h.2.2.1
 rcases q with e | ⟨u,l'⟩
 ·obtain ⟨he,j,l',rfl,hp⟩:=hz
  refine av (aI (by show _≤nest+1 - 1; omega) (by show nest+1 - 1≤_; omega)) (ab ⟨he,j,(L.drop j).map (mvT base),?_,hp.out h0 Z⟩)
  show ae.mk L j (nest+1 - 1) base (eD e)=_
  rw [Int.add_sub_cancel]
 ·obtain ⟨j,rfl,hp,hx⟩:=hz
  refine av (aI (by show _≤nest+1 - 1; omega) (by show nest+1 - 1≤_; omega)) (ab ⟨j,?_,hp.out h0 hx,hx⟩)
  show ae.mk L j (nest+1 - 1) base dOk=_
  rw [Int.add_sub_cancel]
theorem Dn (hL:Gd (L.map (mvT base)))(hlen:L.length≤1000000000){i:Nat}{nest:Int}{l:List ad}{e:PE}(s:Bytes)(he:e.1≠0)(h0:0≤nest)(h:Pos L base i (nest+1) true l) :
  Ev2 (λ n _=>bf n (.mk L (i:Int) (nest+1) base (eD e)) s) (λ z=>∃ (j:Nat) (l':List ad),z=.mk L (j:Int) nest base (eD e)∧Pos L base j nest (decide (0 < nest)) l'):=by
 simp only [bf]
 refine af _ (jd hL hlen s he h) ?_
 rintro _ ⟨j,l',rfl,hp⟩
 have hb:=h.2.2.1
 refine av (aI (by show _≤nest+1 - 1; omega) (by show nest+1 - 1≤_; omega)) (ab ⟨j,(L.drop j).map (mvT base),?_,hp.out h0 Z⟩)
 show ae.mk L j (nest+1 - 1) base (eD e)=_
 rw [Int.add_sub_cancel]
theorem mL (hL:Gd (L.map (mvT base)))(hlen:L.length≤1000000000){i:Nat}{nest:Int}{b:Bool}{l:List ad}(h:Pos L base i nest b l)(h6:(hd b l).fKind≠6) :
  Ev2 (λ n _=>b6 n (.mk L (i:Int) nest base dOk)) (λ z=>∃ j:Nat,z=.mk L (j:Int) (nest+1) base dOk∧Pos L base j (nest+1) true (tl b l)):=by
 simp only [b6]
 refine af _ (dN hL hlen h h6) ?_
 rintro ⟨z1,z2⟩ ⟨h1,j,h2,h3,h4,h5⟩
 cases h2
 have hb:=h.2.2.1
 have hn:=h.2.1
 have hj:=h3.1
 refine av (aI (by show _≤nest+1; omega) (by show nest+1≤_; omega)) (ab ⟨j,Z,h3.1,by omega,by omega,?_,by rw [h4]⟩)
 symm; rw [decide_eq_true_eq]; omega
theorem kq (hL:Gd (L.map (mvT base)))(hlen:L.length≤1000000000){i:Nat}{nest:Int}{b:Bool}{l:List ad}{q:PE⊕(Bytes×List ad)}(h:Pos L base i nest b l)(hq:rY b l=some q) :
  Ev2 (λ n _=>ct n (.mk L (i:Int) nest base dOk)) (Out L base nest b q):=by
 simp only [ct,aV,Option.bind_some]
 refine af _ (eR hL hlen h) ?_
 rintro ⟨z1,z2⟩ ⟨h1,j,h2,h3,h4,h5⟩
 replace h1:z1=_:=h1; subst h1; cases h2
 unfold rY at hq
 by_cases hs:(hd b l).fKind=1∧oj (hd b l).fText=false
 ·rw [if_pos hs] at hq; cases hq
  refine am (false,L,(j:Int),nest,base,0,0,[]) (ag Bool.false_ne_true (ai hs.1 (am _ (ao (rC _) Z) (ab ?_)))) ?_
  ·rw [hs.2]; rfl
  ·refine ag Bool.false_ne_true (af _ (dN hL hlen h3 O) ?_)
   rintro ⟨y1,y2⟩ ⟨g1,k,g2,g3,g4,g5⟩
   cases g2
   exact ab ⟨Z,k,Z,g3⟩
 ·rw [if_neg hs] at hq; cases hq
  refine am (true,L,(j:Int),nest,base,0,0,[]) (ag Bool.false_ne_true (aK (λ h1=>am _ (ao (rC _) Z) (ab ?_)) (λ h1=>ab Z))) ?_
  ·have h1:(hd b l).fKind=1:=h1
   have:oj (hd b l).fText=true:=by
    cases hr:oj (hd b l).fText with
    | true=>rfl
    | false=>exact absurd ⟨h1,hr⟩ hs
   rw [this]; rfl
  ·exact ai Z (am _ (ao (gH _ _ _ _) Z) (ab ⟨(by decide:(2:Int)≠0),j,l,Z,h3⟩))
end
end Go.Ab.R06
end
section
namespace Go.Ab.R06
open Go.Ab Go.Ab.RB Go.Lib
section
variable {L:List ad} {base:Int}
theorem Ca (hL:Gd (L.map (mvT base)))(hlen:L.length≤1000000000){nest:Int}{b:Bool}{l:List ad}(ls:List Bytes)(hls:ls.length≤1000):∀ (k t i:Nat),t+k=ls.length→Pos L base i nest b l →
  Ev2 (λ n m=>a8 n ls m (t:Int) L (i:Int) nest base 0 0 []) (λ r=>match (ls.drop t).find? (λ s=>sgB b l s) with
   | some s=>∃ j:Nat,r=.inr (s,true,.mk L (j:Int) nest base dOk)∧Pos L base j nest b l
   | none=>∃ j:Nat,r=.inl (L,(j:Int),nest,base,0,0,[])∧Pos L base j nest b l):=by
 intro k
 induction k with
 | zero =>
  intro t i ht h
  refine aZ ?_
  simp only [a8]
  refine ag O (ab ?_)
  rw [List.drop_eq_nil_of_le O]
  exact ⟨i,Z,h⟩
 | succ k ih =>
  intro t i ht h
  refine aZ ?_
  simp only [a8]
  have hdr:ls.drop t=lat ls (t:Int)::ls.drop (t+1):=by rw [mK ls t O]; exact List.drop_eq_getElem_cons O
  refine ai O (av ⟨by omega,by omega⟩ (af _ (fk hL hlen _ h) ?_))
  rintro ⟨z1,z2⟩ ⟨h1,j,h2,h3⟩
  replace h1:z1=_:=h1; subst h1; cases h2
  rw [hdr,List.find?_cons]
  cases hs:sgB b l (lat ls (t:Int)) with
  | true=>exact ai Z (ab ⟨j,Z,h3⟩)
  | false=>exact ag Bool.false_ne_true (av (aI O O) (rf (P:=λ x=>Ev2 (λ n m=>a8 n ls m x L (j:Int) nest base 0 0 []) _) (ih (t+1) j O h3)))
theorem zV (hL:Gd (L.map (mvT base)))(hlen:L.length≤1000000000){i:Nat}{nest:Int}{b:Bool}{l:List ad}(ls:List Bytes)(hls:ls.length≤1000)(h:Pos L base i nest b l) :
  Ev2 (λ n _=>cD n (.mk L (i:Int) nest base dOk) ls) (λ r=>match ls.find? (λ s=>sgB b l s) with
   | some s=>∃ j:Nat,r=(s,true,.mk L (j:Int) nest base dOk)∧Pos L base j nest b l
   | none=>∃ j:Nat,r=([],false,.mk L (j:Int) nest base dOk)∧Pos L base j nest b l):=by
 simp only [cD]
 have hl:=Ca hL hlen ls hls ls.length 0 i O h
 rw [List.drop_zero] at hl
 cases hf:ls.find? (λ s=>sgB b l s) with
 | some s =>
  rw [hf] at hl
  refine ee (cn (bT hl) ?_)
  rintro _ ⟨j,rfl,hp⟩
  exact ⟨j,Z,hp⟩
 | none =>
  rw [hf] at hl
  refine ee (cn (bT hl) ?_)
  rintro _ ⟨j,rfl,hp⟩
  exact ab ⟨j,Z,hp⟩
theorem Bw (hL:Gd (L.map (mvT base)))(hlen:L.length≤1000000000){nest:Int}{b:Bool}{l:List ad}{e:PE}(he:e.1≠0)(ls:List Bytes)(hls:ls.length≤1000):∀ (k t i:Nat),t+k=ls.length→Pos L base i nest b l →
  Ev2 (λ n m=>a8 n ls m (t:Int) L (i:Int) nest base e.1 e.2 []) (λ r=>∃ j:Nat,r=.inl (L,(j:Int),nest,base,e.1,e.2,[])∧Pos L base j nest b l):=by
 intro k
 induction k with
 | zero =>
  intro t i ht h
  refine aZ ?_
  simp only [a8]
  exact ag O (ab ⟨i,Z,h⟩)
 | succ k ih =>
  intro t i ht h
  refine aZ ?_
  simp only [a8]
  refine ai O (av ⟨by omega,by omega⟩ (af _ (jh hL hlen _ he h) ?_))
  rintro _ ⟨j,rfl,h3⟩
  exact ag Bool.false_ne_true (av (aI O O) (rf (P:=λ x=>Ev2 (λ n m=>a8 n ls m x L (j:Int) nest base e.1 e.2 []) _) (ih (t+1) j O h3)))
theorem DL (hL:Gd (L.map (mvT base)))(hlen:L.length≤1000000000){i:Nat}{nest:Int}{b:Bool}{l:List ad}{e:PE}(he:e.1≠0)(ls:List Bytes)(hls:ls.length≤1000)(h:Pos L base i nest b l) :
  Ev2 (λ n _=>cD n (.mk L (i:Int) nest base (eD e)) ls) (λ r=>∃ j:Nat,r=([],false,.mk L (j:Int) nest base (eD e))∧Pos L base j nest b l):=by
 simp only [cD]
 have hl:=Bw hL hlen he ls hls ls.length 0 i O h
 refine ee (cn (bT hl) ?_)
 rintro _ ⟨j,rfl,hp⟩
 exact ab ⟨j,Z,hp⟩
theorem uE {lev:Nat}(h:lev≤5):iR (lev:Int)=some ((sa lev).map (·.1)):=by
 rcases lev with _ | _ | _ | _ | _ | _ | k
 ·rfl
 ·rfl
 ·rfl
 ·rfl
 ·rfl
 ·rfl
 ·omega
def oY:List Bytes:=[[124,124],[38,38],[61,61],[33,61],[60],[60,61],[62],[62,61],[43],[45],[42],[47],[37]]
theorem Ge (s:Bytes):∀ (k t:Nat),t+k=13→Ev2 (λ _ m=>eM s m (t:Int)) (·=match (oY.drop t).findIdx? (λ x=>decide (x=s)) with | some i=>.inr ((3+t+i:Nat):Int) | none=>.inl ()):=by
 intro k
 induction k with
 | zero =>
  intro t ht
  refine aZ ?_
  simp only [eM]
  have:t=13:=by omega
  subst this
  exact ag (by decide) (ab Z)
 | succ k ih =>
  intro t ht
  refine aZ ?_
  simp only [eM]
  have hdr:oY.drop t=lat oY (t:Int)::oY.drop (t+1):=by rw [mK oY t (by show t < 13; omega)]; exact List.drop_eq_getElem_cons (by show t < 13; omega)
  refine ai O (av ⟨by omega,by omega⟩ ?_)
  rw [hdr,List.findIdx?_cons]
  by_cases hs:lat oY (t:Int)=s
  ·refine ai hs (av (aI O O) (ab ?_))
   rw [decide_eq_true hs]
   show _=Sum.inr _
   rw [show (3:Int)+(t:Int)=((3+t+0:Nat):Int) by omega]
  ·refine ag hs (av (aI O O) (cn (rf (P:=λ x=>Ev2 (λ _ m=>eM s m x) _) (ih (t+1) O)) ?_))
   rintro r rfl
   rw [decide_eq_false hs]
   cases (oY.drop (t+1)).findIdx? (λ x=>decide (x=s)) with
   | none=>rfl
   | some i =>
    show Sum.inr ((3+(t+1)+i:Nat):Int)=Sum.inr ((3+t+(i+1):Nat):Int)
    congr 2; omega
theorem D6 {lev:Nat}(h:lev≤5){p:Bytes×Int}(hp:p∈sa lev):Ev2 (λ n _=>kx n p.1) (·=p.2):=by
 simp only [kx]
 have hl:=Ge p.1 13 0 Z
 rw [List.drop_zero] at hl
 have:(match oY.findIdx? (λ x=>decide (x=p.1)) with | some i=>Sum.inr ((3+0+i:Nat):Int) | none=>(Sum.inl ():Unit⊕Int))=.inr p.2:=by
  have hall:∀ lev:Fin 6,∀ p∈sa lev.1,(match oY.findIdx? (λ x=>decide (x=p.1)) with | some i=>Sum.inr ((3+0+i:Nat):Int) | none=>(Sum.inl ():Unit⊕Int))=.inr p.2:=by decide
  exact hall ⟨lev,by omega⟩ p hp
 rw [this] at hl
 exact jB p.2 (bT hl) Z
theorem Bc (b:Bool)(l:List ad)(lev:Nat):((sa lev).map (·.1)).find? (λ s=>sgB b l s)=(qW b l lev).map (·.1):=by
 unfold qW
 induction sa lev with
 | nil=>rfl
 | cons p r ih =>
  rw [List.map_cons,List.find?_cons,List.find?_cons]
  cases sgB b l p.1 with
  | true=>rfl
  | false=>exact ih
theorem Dv {b:Bool}{l:List ad}{lev:Nat}{p:Bytes×Int}(h:qW b l lev=some p):p∈sa lev∧sgB b l p.1=true:=⟨List.mem_of_find?_eq_some h,List.find?_some (p:=λ p:Bytes×Int=>sgB b l p.1) h⟩
theorem yf {lev:Nat}:((sa lev).map (·.1)).length≤1000:=by
 rcases lev with _ | _ | _ | _ | _ | k <;> simp [sa]
def qY {α:Type}(L:List ad)(base:Int)(nest:Int)(b:Bool)(e:PE)(z:α×ae):Prop:=∃ (j:Nat) (l':List ad),z.2=.mk L (j:Int) nest base (eD e)∧Pos L base j nest b l'
theorem yF {e:PE}(he:e.1≠0):(!decide ((eD e).fKind=0))=true:=by show (!decide (e.1=0))=true; simp [he]
theorem yz {i:Nat}{nest:Int}{b:Bool}{l:List ad}{e:PE}(he:e.1≠0)(h:Pos L base i nest b l) :
  Ev2 (λ n _=>bV n (.mk L (i:Int) nest base (eD e))) (qY L base nest b e):=by
 refine cq ?_
 simp only [bV,aV,Option.bind_some]
 exact ai (yF he) (ab ⟨i,l,Z,h⟩)
theorem lA (hL:Gd (L.map (mvT base)))(hlen:L.length≤1000000000){i:Nat}{nest:Int}{b:Bool}{l:List ad}{e:PE}(he:e.1≠0)(h:Pos L base i nest b l)(r1:ac×ae)(k op:Int)(nm key:Bytes)(vk vn:Int)(vs:Bytes)(vi:List ah)(vks:List Bytes)(kids:List ac) :
  Ev2 (λ n m=>bg n (ay n) r1 m k op nm key vk vn vs vi vks kids L (i:Int) nest base e.1 e.2 []) (λ s=>∃ z,s=.inr z∧qY L base nest b e z):=by
 refine aZ ?_
 simp only [bg]
 refine ee (af _ (jh hL hlen _ he h) ?_)
 rintro _ ⟨j,rfl,h3⟩
 refine ag Bool.false_ne_true (af _ (jh hL hlen _ he h3) ?_)
 rintro _ ⟨j,rfl,h3⟩
 exact ag Bool.false_ne_true (ab ⟨_,Z,j,l,Z,h3⟩)
theorem yG (hL:Gd (L.map (mvT base)))(hlen:L.length≤1000000000){i:Nat}{nest:Int}{b:Bool}{l:List ad}{e:PE}(he:e.1≠0)(h:Pos L base i nest b l) :
  Ev2 (λ n _=>cj n (.mk L (i:Int) nest base (eD e))) (qY L base nest b e):=by
 refine cq ?_
 simp only [cj]
 refine af _ (yz he h) ?_
 rintro ⟨z1,z2⟩ ⟨j,l',h2,h3⟩
 cases h2
 refine ee (cn (bT (lA hL hlen he h3 (z1,.mk L (j:Int) nest base (eD e)) _ _ _ _ _ _ _ _ _ _)) ?_)
 rintro _ ⟨z,rfl,hz⟩
 exact hz
theorem DI (hL:Gd (L.map (mvT base)))(hlen:L.length≤1000000000){i:Nat}{nest:Int}{b:Bool}{l:List ad}{e:PE}(he:e.1≠0)(h:Pos L base i nest b l) :
  Ev2 (λ n _=>b8 n (.mk L (i:Int) nest base (eD e))) (qY L base nest b e):=by
 refine cq ?_
 simp only [b8]
 refine af (λ t=>∃ j:Nat,t=(0,L,(j:Int),nest,base,e.1,e.2,[])∧Pos L base j nest b l) ?_ ?_
 ·refine af _ (jh hL hlen _ he h) ?_
  rintro _ ⟨j,rfl,h3⟩
  refine ag Bool.false_ne_true (af _ (jh hL hlen _ he h3) ?_)
  rintro _ ⟨j,rfl,h3⟩
  exact ag Bool.false_ne_true (ab ⟨j,Z,h3⟩)
 ·rintro _ ⟨j,rfl,h3⟩
  refine ai Z (af _ (yG hL hlen he h3) ?_)
  rintro ⟨z1,z2⟩ hz
  exact ab hz
theorem pS (hL:Gd (L.map (mvT base)))(hlen:L.length≤1000000000){i:Nat}{nest:Int}{b:Bool}{l:List ad}{e:PE}(he:e.1≠0)(h:Pos L base i nest b l){lev:Nat}(hlev:lev≤5)(r5:ac×ae)(k op:Int)(nm key:Bytes)(vk vn:Int)(vs:Bytes)(vi:List ah)(vks:List Bytes)(kids:List ac) :
  Ev2 (λ n m=>bm n (aO n) (lev:Int) r5 m k op nm key vk vn vs vi vks kids L (i:Int) nest base e.1 e.2 []) (λ s=>∃ z,s=.inr z∧qY L base nest b e z):=by
 refine aZ ?_
 simp only [bm]
 refine am _ (ao (uE hlev) Z) (af _ (DL hL hlen he _ yf h) ?_)
 rintro _ ⟨j,rfl,h3⟩
 exact ai Z (ab ⟨_,Z,j,l,Z,h3⟩)
theorem Ae (hL:Gd (L.map (mvT base)))(hlen:L.length≤1000000000){nest:Int}{b:Bool}{e:PE}(he:e.1≠0):∀ (k lev i:Nat) (l:List ad),lev+k=6→Pos L base i nest b l →
  Ev2 (λ n _=>aO n (.mk L (i:Int) nest base (eD e)) (lev:Int)) (qY L base nest b e):=by
 intro k
 induction k with
 | zero =>
  intro lev i l hk h
  refine cq ?_
  simp only [aO]
  refine ai O (af _ (DI hL hlen he h) ?_)
  rintro ⟨z1,z2⟩ hz
  exact ab hz
 | succ k ih =>
  intro lev i l hk h
  refine cq ?_
  simp only [aO]
  refine ag O (av (aI O O) (af _ (rf (P:=λ x=>Ev2 (λ n _=>aO n (.mk L (i:Int) nest base (eD e)) x) _) (ih (lev+1) i l O h)) ?_))
  rintro ⟨z1,z2⟩ ⟨j,l',h2,h3⟩
  cases h2
  refine ee (cn (bT (pS hL hlen he h3 O (z1,.mk L (j:Int) nest base (eD e)) _ _ _ _ _ _ _ _ _ _)) ?_)
  rintro _ ⟨z,rfl,hz⟩
  exact hz
theorem gj (hL:Gd (L.map (mvT base)))(hlen:L.length≤1000000000){i:Nat}{nest:Int}{b:Bool}{l:List ad}{e:PE}(he:e.1≠0)(h:Pos L base i nest b l) :
  Ev2 (λ n _=>ay n (.mk L (i:Int) nest base (eD e))) (qY L base nest b e):=by
 refine cq ?_
 simp only [ay]
 refine af _ (Ae hL hlen he 6 0 i l Z h) ?_
 rintro ⟨z1,z2⟩ ⟨j,l',h2,h3⟩
 cases h2
 refine af _ (jh hL hlen _ he h3) ?_
 rintro _ ⟨j,rfl,h3⟩
 exact ai Z (ab ⟨j,l',Z,h3⟩)
end
end Go.Ab.R06
end
section
namespace Go.Ab.R06
open Go.Proofs Go.Ab Go.Ab.RB
attribute [local irreducible] awp fT bn bF cv AV.sub M cT
def p9 (n_0:Int):Option Bool :=
 (
   if (-9007199254740992)≤n_0 then
    some (decide (n_0≤9007199254740992))
   else
    some false
  : Option Bool).bind λ t2 =>
 some t2
def eN (s_0:Bytes)(i_1:Int)(lo_2:Int)(hi_3:Int):Option Bool :=
 (
   if i_1 < (s_0.length:Int) then
    ck ((0:Int)≤i_1∧i_1 < (s_0.length:Int)) <|
    if lo_2≤byt s_0 i_1 then
     ck ((0:Int)≤i_1∧i_1 < (s_0.length:Int)) <|
     some (decide (byt s_0 i_1≤hi_3))
    else
     some false
   else
    some false
  : Option Bool).bind λ t5 =>
 some t5
def lM (s_0:Bytes)(i_1:Int):Option (Int×Int) :=
 (
   if i_1 < 0 then
    some true
   else
    some (decide ((s_0.length:Int)≤i_1))
  : Option Bool).bind λ t2 =>
 if t2=true then
  some (0,0)
 else
  ck ((0:Int)≤i_1∧i_1 < (s_0.length:Int)) <|
  if byt s_0 i_1 < 128 then
   ck (inR (byt s_0 i_1)) <|
   some (byt s_0 i_1,1)
  else
   (
     if 194≤byt s_0 i_1 then
      if byt s_0 i_1≤223 then
       ck (inR (i_1+1)) <|
       (eN s_0 (i_1+1) 128 191).bind λ r10 =>
       some r10
      else
       some false
     else
      some false
    : Option Bool).bind λ t12 =>
   if t12=true then
    ck (inR (dx .u8 (byt s_0 i_1) 31)) <|
    ck ((0:Int)≤6) <|
    ck (inR (i_1+1)) <|
    ck ((0:Int)≤i_1+1∧i_1+1 < (s_0.length:Int)) <|
    ck (inR (dx .u8 (byt s_0 (i_1+1)) 63)) <|
    some (iOr .i64 (kj .i64 (dx .u8 (byt s_0 i_1) 31) 6) (dx .u8 (byt s_0 (i_1+1)) 63),2)
   else
    (
      if byt s_0 i_1=224 then
       some 160
      else
       some 128
     : Option Int).bind λ lo20 =>
    (
      if byt s_0 i_1=237 then
       some 159
      else
       some 191
     : Option Int).bind λ hi22 =>
    (
      if 224≤byt s_0 i_1 then
       if byt s_0 i_1≤239 then
        ck (inR (i_1+1)) <|
        (eN s_0 (i_1+1) lo20 hi22).bind λ r26 =>
        if r26=true then
         ck (inR (i_1+2)) <|
         (eN s_0 (i_1+2) 128 191).bind λ r30 =>
         some r30
        else
         some false
       else
        some false
      else
       some false
     : Option Bool).bind λ t32 =>
    if t32=true then
     ck (inR (dx .u8 (byt s_0 i_1) 15)) <|
     ck ((0:Int)≤12) <|
     ck (inR (i_1+1)) <|
     ck ((0:Int)≤i_1+1∧i_1+1 < (s_0.length:Int)) <|
     ck (inR (dx .u8 (byt s_0 (i_1+1)) 63)) <|
     ck ((0:Int)≤6) <|
     ck (inR (i_1+2)) <|
     ck ((0:Int)≤i_1+2∧i_1+2 < (s_0.length:Int)) <|
     ck (inR (dx .u8 (byt s_0 (i_1+2)) 63)) <|
     some (iOr .i64 (iOr .i64 (kj .i64 (dx .u8 (byt s_0 i_1) 15) 12) (kj .i64 (dx .u8 (byt s_0 (i_1+1)) 63) 6)) (dx .u8 (byt s_0 (i_1+2)) 63),3)
    else
     (
       if byt s_0 i_1=240 then
        some 144
       else
        some 128
      : Option Int).bind λ lo44 =>
     (
       if byt s_0 i_1=244 then
        some 143
       else
        some 191
      : Option Int).bind λ hi46 =>
     (
       if 240≤byt s_0 i_1 then
        if byt s_0 i_1≤244 then
         ck (inR (i_1+1)) <|
         (eN s_0 (i_1+1) lo44 hi46).bind λ r50 =>
         if r50=true then
          ck (inR (i_1+2)) <|
          (eN s_0 (i_1+2) 128 191).bind λ r54 =>
          if r54=true then
           ck (inR (i_1+3)) <|
           (eN s_0 (i_1+3) 128 191).bind λ r58 =>
           some r58
          else
           some false
         else
          some false
        else
         some false
       else
        some false
      : Option Bool).bind λ t60 =>
     if t60=true then
      ck (inR (dx .u8 (byt s_0 i_1) 7)) <|
      ck ((0:Int)≤18) <|
      ck (inR (i_1+1)) <|
      ck ((0:Int)≤i_1+1∧i_1+1 < (s_0.length:Int)) <|
      ck (inR (dx .u8 (byt s_0 (i_1+1)) 63)) <|
      ck ((0:Int)≤12) <|
      ck (inR (i_1+2)) <|
      ck ((0:Int)≤i_1+2∧i_1+2 < (s_0.length:Int)) <|
      ck (inR (dx .u8 (byt s_0 (i_1+2)) 63)) <|
      ck ((0:Int)≤6) <|
      ck (inR (i_1+3)) <|
      ck ((0:Int)≤i_1+3∧i_1+3 < (s_0.length:Int)) <|
      ck (inR (dx .u8 (byt s_0 (i_1+3)) 63)) <|
      some (iOr .i64 (iOr .i64 (iOr .i64 (kj .i64 (dx .u8 (byt s_0 i_1) 7) 18) (kj .i64 (dx .u8 (byt s_0 (i_1+1)) 63) 12)) (kj .i64 (dx .u8 (byt s_0 (i_1+2)) 63) 6)) (dx .u8 (byt s_0 (i_1+3)) 63),4)
     else
      some (0,0)
def iD (s_0:Bytes):Nat→Int→Option (Unit⊕Bool)
 | 0,_=>none
 | m+1,i8 =>
 if i8 < (s_0.length:Int) then
  (lM s_0 i8).bind λ r10 =>
  if r10.2=0 then
   some (.inr false)
  else
   ck (inR (i8+r10.2)) <|
   iD s_0 m (i8+r10.2)
 else
  some (.inl ())
def mu (n:Nat)(s_0:Bytes):Option Bool :=
 if 4096 < (s_0.length:Int) then
  some false
 else
  jn (iD s_0 n 0) λ q15 =>
  some true
def lu (v_0:ah):Option Bool :=
 (
   if v_0.fKind=2 then
    some true
   else
    if v_0.fKind=1 then
     if v_0.fNum=0 then
      some true
     else
      if v_0.fNum=1 then
       some true
      else
       some (decide (v_0.fNum=0))
    else
     some (decide (v_0.fNum=0))
  : Option Bool).bind λ num5 =>
 (
   if v_0.fKind=3 then
    some true
   else
    some (decide (v_0.fStr=([]:Bytes)))
  : Option Bool).bind λ str7 =>
 (
   if v_0.fKind=4 then
    some true
   else
    if v_0.fKind=5 then
     some true
    else
     some (decide ((v_0.fItems.length:Int)=0))
  : Option Bool).bind λ items10 =>
 (
   if v_0.fKind=5 then
    if (v_0.fKeys.length:Int)=(v_0.fItems.length:Int) then
     some true
    else
     some false
   else
    some (decide ((v_0.fKeys.length:Int)=0))
  : Option Bool).bind λ keys13 =>
 (
   if 0≤v_0.fKind then
    if v_0.fKind≤6 then
     if num5=true then
      if str7=true then
       if items10=true then
        some keys13
       else
        some false
      else
       some false
     else
      some false
    else
     some false
   else
    some false
  : Option Bool).bind λ t19 =>
 some t19
def ka (n:Nat)(s_0:Bytes):Option Int :=
 if 4096 < (s_0.length:Int) then
  some 3
 else
  (mu n s_0).bind λ r2 =>
  if (!r2)=true then
   some 1
  else
   some 0
def ia (n:Nat)(v_0:ah):Nat→Int→Option (Unit⊕Int)
 | 0,_=>none
 | m+1,i25 =>
 if i25 < (v_0.fKeys.length:Int) then
  ck ((0:Int)≤i25∧i25 < (v_0.fKeys.length:Int)) <|
  (ka n (lat v_0.fKeys i25)).bind λ r28 =>
  if r28=0 then
   (
     if 0 < i25 then
      ck (inR (i25 - 1)) <|
      ck ((0:Int)≤i25 - 1∧i25 - 1 < (v_0.fKeys.length:Int)) <|
      ck ((0:Int)≤i25∧i25 < (v_0.fKeys.length:Int)) <|
      some (!Op.bytesLess (lat v_0.fKeys (i25 - 1)) (lat v_0.fKeys i25))
     else
      some false
    : Option Bool).bind λ t35 =>
   if t35=true then
    some (.inr 1)
   else
    ck (inR (i25+1)) <|
    ia n v_0 m (i25+1)
  else
   some (.inr r28)
 else
  some (.inl ())
def rt (n:Nat)(v_0:ah):Option Int :=
 (lu v_0).bind λ r1 =>
 if (!r1)=true then
  some 1
 else
  (
    if v_0.fKind=2 then
     (p9 v_0.fNum).bind λ r5 =>
     some (!r5)
    else
     some false
   : Option Bool).bind λ t7 =>
  if t7=true then
   some 5
  else
   (ka n v_0.fStr).bind λ r9 =>
   if r9=0 then
    jn (ia n v_0 n 0) λ q40 =>
    some 0
   else
    some r9
def dW (a_0:ah)(b_1:ah):Nat→Int→Option (Unit⊕Bool)
 | 0,_=>none
 | m+1,i13 =>
 if i13 < (a_0.fKeys.length:Int) then
  ck ((0:Int)≤i13∧i13 < (a_0.fKeys.length:Int)) <|
  ck ((0:Int)≤i13∧i13 < (b_1.fKeys.length:Int)) <|
  if lat a_0.fKeys i13=lat b_1.fKeys i13 then
   ck (inR (i13+1)) <|
   dW a_0 b_1 m (i13+1)
  else
   some (.inr false)
 else
  some (.inl ())
def dY (r_ref07_Equal:ah→ah→Option Bool)(a_0:ah)(b_1:ah):Nat→Int→Option (Unit⊕Bool)
 | 0,_=>none
 | m+1,i28 =>
 if i28 < (a_0.fItems.length:Int) then
  ck ((0:Int)≤i28∧i28 < (a_0.fItems.length:Int)) <|
  ck ((0:Int)≤i28∧i28 < (b_1.fItems.length:Int)) <|
  (r_ref07_Equal (lat a_0.fItems i28) (lat b_1.fItems i28)).bind λ r32 =>
  if (!r32)=true then
   some (.inr false)
  else
   ck (inR (i28+1)) <|
   dY r_ref07_Equal a_0 b_1 m (i28+1)
 else
  some (.inl ())
def fc:Nat→ah→ah→Option Bool
 | 0,_,_=>none
 | n+1,a_0,b_1 =>
 (
   if a_0.fKind=b_1.fKind then
    if a_0.fNum=b_1.fNum then
     if a_0.fStr=b_1.fStr then
      if (a_0.fItems.length:Int)=(b_1.fItems.length:Int) then
       some (!decide ((a_0.fKeys.length:Int)=(b_1.fKeys.length:Int)))
      else
       some true
     else
      some true
    else
     some true
   else
    some true
  : Option Bool).bind λ t5 =>
 if t5=true then
  some false
 else
  jn (dW a_0 b_1 n 0) λ q38 =>
  jn (dY (fc n) a_0 b_1 n 0) λ q39 =>
  some true
instance BI (n:Nat):∀ (a_0:ah) (b_1:ah) (r:Bool),HP (fc n a_0 b_1=some r) Tryz.prog 50 [.agg (ah.cs a_0),.agg (ah.cs b_1)] (.p (eB r)):=by
 induction n with
 | zero=>intros; exact ⟨λ h=>by cases h⟩
 | succ n ih =>
 have ih_ref07_Equal_ok:=ih
 refine λ a_0 b_1=>hP good Tryz.func50 Z Z λ r h0 _ w0=>?_
 rw [fc] at h0
 refine nx 8 Z (bd h0 λ o40 h1 h0=>?_)
 refine kN o40 (λ v41=>⟨[(2,.ptr 2 0),(3,.ptr 3 0),(43,.p (eB v41))],[(2,(ah.cs a_0).map .p),(3,(ah.cs b_1).map .p)]⟩) ?_ ?_
 ·refine nx 1 Z (fB [43] h0 Z (λ c6 h0=>?_) λ c6 h0=>?_)
  ·exact A0
  refine nx 8 Z ?_
  obtain ⟨o42,h1,hL0,hR0⟩:=dj h0
  refine kEx 0 (λ v43:Unit=>o42=.inl v43) (λ v43=>⟨[(2,.ptr 2 0),(3,.ptr 3 0)],[(2,(ah.cs a_0).map .p),(3,(ah.cs b_1).map .p)]⟩) (λ v43 hv=>?_) ?_
  ·have h0:=hL0 _ hv
   refine nx 7 Z ?_
   obtain ⟨o44,h1,hL0,hR0⟩:=dj h0
   refine kEx 2 (λ v45:Unit=>o44=.inl v45) (λ v45=>⟨[],[]⟩) (λ v45 hv=>?_) ?_
   ·have h0:=hL0 _ hv
    exact A0
   refine lG (λ (q46:Int)=>⟨[(2,.ptr 2 0),(3,.ptr 3 0),(6,.p (eI q46))],[(2,(ah.cs a_0).map .p),(3,(ah.cs b_1).map .p)]⟩) (λ m (q46:Int)=>dY (fc n) a_0 b_1 m q46) Y 0 h1 (gE Z Z) ?_
   rintro m i28 h1
   replace h1:dY (fc n) a_0 b_1 (m+1) i28=some o44:=h1
   rw [dY] at h1
   refine nx 6 Z (oLl (f:=eO) Z Z ?_)
   refine nx 2 Z (fD [66] h1 Z (λ c29 h1=>?_) λ c29 h1=>?_)
   ·refine nx 5 Z (cc' h1 λ hk30 h1=>?_)
    refine cc' h1 λ hk31 h1=>bd h1 λ r32 e33 h1=>mD [(2,.ptr 2 0),(3,.ptr 3 0),(6,.p (eI i28))] Z ⟨Z,Z,Z,trivial⟩ Z (dR 3 Z ?_)
    refine dq (.rptr (ah.cs (lat a_0.fItems i28))) [70,71] Z (λ _ e _ q=>ap Z (mg (f:=eO) (l:=a_0.fItems) ah.cs Z Z Z Z Z Z (e _ _ Z) Z (e _ _ Z) hk30 ah.cells_eq Y q)) Z (dR 4 Z ?_)
    refine dq (.rptr (ah.cs (lat b_1.fItems i28))) [75,76] Z (λ _ e _ q=>ap Z (mg (f:=eO) (l:=b_1.fItems) ah.cs Z Z Z Z Z Z (e _ _ Z) Z (e _ _ Z) hk31 ah.cells_eq Y q)) Z (dR 1 Z ?_)
    refine dq (.p (eB r32)) [73,78] Z (λ _ e _ q=>ap Z (ed (HP.c e33) Z Z Z (aN (e _ _ Z) (aN (e _ _ Z) cx)) ⟨sr,sr,trivial⟩ Tryz.call50 Z q)) Z (dR 1 Z ?_)
    exact A1
   exact A1
  refine lG (λ (q47:Int)=>⟨[(2,.ptr 2 0),(3,.ptr 3 0),(5,.p (eI q47))],[(2,(ah.cs a_0).map .p),(3,(ah.cs b_1).map .p)]⟩) (λ m (q47:Int)=>dW a_0 b_1 m q47) Y 0 h1 (gE Z Z) ?_
  rintro m i13 h1
  replace h1:dW a_0 b_1 (m+1) i13=some o42:=h1
  rw [dW] at h1
  refine nx 6 Z (oLl (f:=eS) Z Z ?_)
  refine nx 2 Z (fD [48] h1 Z (λ c14 h1=>?_) λ c14 h1=>?_)
  ·refine nx 5 Z (cc' h1 λ hk15 h1=>?_)
   refine cc' h1 λ hk16 h1=>mD [(2,.ptr 2 0),(3,.ptr 3 0),(5,.p (eI i13))] Z ⟨Z,Z,Z,trivial⟩ Z (dR 3 Z ?_)
   refine dq (.rptr [eS (lat a_0.fKeys i13)]) [52,53] Z (λ _ e _ q=>ap Z (mg (f:=eS) (l:=a_0.fKeys) (λ x=>[eS x]) Z Z Z Z Z Z (e _ _ Z) Z (e _ _ Z) hk15 Y Y q)) Z (dR 4 Z ?_)
   refine dq (.rptr [eS (lat b_1.fKeys i13)]) [57,58] Z (λ _ e _ q=>ap Z (mg (f:=eS) (l:=b_1.fKeys) (λ x=>[eS x]) Z Z Z Z Z Z (e _ _ Z) Z (e _ _ Z) hk16 Y Y q)) Z (dR 1 Z ?_)
   refine dq (.p (eB (!decide (lat a_0.fKeys i13=lat b_1.fKeys i13)))) [55,60] Z (λ _ e _ q=>ap Z (qu Z Z Z (e _ _ Z) (e _ _ Z) Z q)) Z (dE Z ?_)
   exact A1
  exact A1
 exact A1
end Go.Ab.R06
end
section
namespace Go.Ab.R06
open Go.Proofs Go.Ab Go.Ab.RB
set_option maxRecDepth 4000
attribute [local irreducible] awp fT bn bF cv AV.sub M cT
end Go.Ab.R06
end
section
namespace Go.Ab.R06
open Go.Ab Go.Ab.RB Go.Lib
end Go.Ab.R06
end
