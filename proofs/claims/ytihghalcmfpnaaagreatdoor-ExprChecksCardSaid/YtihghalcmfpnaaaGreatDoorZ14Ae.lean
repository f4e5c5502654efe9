/- Texts of the proof, one behind the other. No statement is proved here. -/
import Derived.Lib.IndexLaws
import Derived.Lib.Bytes2
import Derived.Test.YtihghalcmfpnaaaGreatDoorCards
import Derived.Test.YtihghalcmfpnaaaGreatDoorTie
import Derived.WalkKit
import Derived.SizedLaws
import Derived.ProofKit
import Derived.OpenShut
import Derived.ShutString
import Derived.LaidMore
import Derived.Stop.Joined
import Derived.Deep.DeepHandedRow
import Derived.Deep.DeepWitnessRowRef
import Derived.Test.YtihghalcmfpnaaaGreatDoorZ14Aa
import Derived.Test.YtihghalcmfpnaaaGreatDoorZ14Ab
import Derived.Test.YtihghalcmfpnaaaGreatDoorZ14Ac
import Derived.Test.YtihghalcmfpnaaaGreatDoorZ14Ad
section
set_option linter.unusedVariables false
set_option linter.unusedSimpArgs false
set_option linter.unnecessarySimpa false
namespace Go.Ab.R06
open Go.Proofs Go.Ab Go.Ab.RB
attribute [local irreducible] awp fk aS au aF AV.sub M cB
abbrev aH:List AV:=[.p (eI 0),.p (eI 0),.p (eS ([]:Bytes)),.p (eS ([]:Bytes)),.p (eI 0),.p (eI 0),.p (eS ([]:Bytes)),.p (.val (.slice none 0 0)),.p (.val (.slice none 0 0)),.p (.val (.slice none 0 0)),.p (eI 0)]
abbrev jQ:List PV:=[eI 0,eI 0,eS ([]:Bytes),eS ([]:Bytes),eI 0,eI 0,eS ([]:Bytes),.val (.slice none 0 0),.val (.slice none 0 0),.val (.slice none 0 0),eI 0]
abbrev bu:List AV:=[.p (eI 0),.p (eI 0),.p (eS ([]:Bytes))]
def bK (n:Nat)(r_expr_template_interpolation:af→Option (ao×af)):Nat→Bytes→Int→Int→Int→Bytes→(List ac)→Bool→Option ((Bytes×Int×Int×Int×Bytes×(List ac)×Bool)⊕(ao×af))
 | 0,_,_,_,_,_,_,_=>none
 | m+1,f35,f36,f37,f38,f39,f40,f41 =>
 if f37 < (f35.length:Int) then
  ck ((0:Int)≤f37∧f37≤(f35.length:Int)∧(f35.length:Int)≤(f35.length:Int)) <|
  (
    (strings_HasPrefix (sub f35 f37 (f35.length:Int)) ([36,36,123]:Bytes)).bind λ r44 =>
    if r44=true then
     ck (f39.length+([36,123]:Bytes).length≤9223372036854775807) <|
     ck (inR (f37+3)) <|
     (fc (af.mk f35 f36 (f37+3) f38 (f39++([36,123]:Bytes)) f40 f41)).bind λ r49 =>
     some (r49.1.fKind,r49.1.fAt,r49.1.fName,r49.2.fs,r49.2.fat,r49.2.fi,r49.2.ffrom,r49.2.ftext,r49.2.fparts,r49.2.fopen)
    else
     (strings_HasPrefix (sub f35 f37 (f35.length:Int)) ([36,123]:Bytes)).bind λ r51 =>
     if r51=true then
      (r_expr_template_interpolation (af.mk f35 f36 f37 f38 f39 f40 f41)).bind λ r54 =>
      some (r54.1.fKind,r54.1.fAt,r54.1.fName,r54.2.fs,r54.2.fat,r54.2.fi,r54.2.ffrom,r54.2.ftext,r54.2.fparts,r54.2.fopen)
     else
      (dC n (af.mk f35 f36 f37 f38 f39 f40 f41)).bind λ r56 =>
      some (r56.1.fKind,r56.1.fAt,r56.1.fName,r56.2.fs,r56.2.fat,r56.2.fi,r56.2.ffrom,r56.2.ftext,r56.2.fparts,r56.2.fopen)
   : Option (Int×Int×Bytes×Bytes×Int×Int×Int×Bytes×(List ac)×Bool)).bind λ q84 =>
  if q84.1=0 then
   bK n r_expr_template_interpolation m q84.2.2.2.1 q84.2.2.2.2.1 q84.2.2.2.2.2.1 q84.2.2.2.2.2.2.1 q84.2.2.2.2.2.2.2.1 q84.2.2.2.2.2.2.2.2.1 q84.2.2.2.2.2.2.2.2.2
  else
   some (.inr ((ao.mk q84.1 q84.2.1 q84.2.2.1),(af.mk q84.2.2.2.1 q84.2.2.2.2.1 q84.2.2.2.2.2.1 q84.2.2.2.2.2.2.1 q84.2.2.2.2.2.2.2.1 q84.2.2.2.2.2.2.2.2.1 q84.2.2.2.2.2.2.2.2.2)))
 else
  some (.inl (f35,f36,f37,f38,f39,f40,f41))
def bM (n:Nat)(r_expr_parser_binary:ab→Int→Option (ac×ab))(level_1:Int)(r5:ac×ab):Nat→Int→Int→Bytes→Bytes→Int→Int→Bytes→(List ad)→(List Bytes)→(List ac)→(List ai)→Int→Int→Int→Int→Int→Bytes→Option (((List ai)×Int×Int×Int×Int×Int×Bytes)⊕(ac×ab))
 | 0,_,_,_,_,_,_,_,_,_,_,_,_,_,_,_,_,_=>none
 | m+1,f36,f37,f38,f39,f40,f41,f42,f43,f44,f45,f46,f47,f48,f49,f50,f51,f52 =>
 (iO level_1).bind λ r53 =>
 (dK n (ab.mk f46 f47 f48 f49 (ao.mk f50 f51 f52)) r53).bind λ r55 =>
 if (!r55.2.1)=true then
  some (.inr ((ac.mk f36 f37 f38 f39 (ad.mk f40 f41 f42 f43 f44) f45 r5.1.fAt),r55.2.2))
 else
  (ay n r55.2.2).bind λ r58 =>
  ck (inR (level_1+1)) <|
  (r_expr_parser_binary r58.2 (level_1+1)).bind λ r61 =>
  (ll n r55.1).bind λ r63 =>
  bM n r_expr_parser_binary level_1 r5 m 7 r63 ([]:Bytes) ([]:Bytes) 0 0 ([]:Bytes) [] [] [(ac.mk f36 f37 f38 f39 (ad.mk f40 f41 f42 f43 f44) f45 r5.1.fAt),r61.1] r61.2.fl r61.2.fat r61.2.fnest r61.2.fbase r61.2.fbad.fKind r61.2.fbad.fAt r61.2.fbad.fName
def bE (n:Nat)(r_expr_parser_expr:ab→Option (ac×ab))(r1:ac×ab):Nat→Int→Int→Bytes→Bytes→Int→Int→Bytes→(List ad)→(List Bytes)→(List ac)→(List ai)→Int→Int→Int→Int→Int→Bytes→Option (((List ai)×Int×Int×Int×Int×Int×Bytes)⊕(ac×ab))
 | 0,_,_,_,_,_,_,_,_,_,_,_,_,_,_,_,_,_=>none
 | m+1,f51,f52,f53,f54,f55,f56,f57,f58,f59,f60,f61,f62,f63,f64,f65,f66,f67 =>
 jn (
   (aJ n (ab.mk f61 f62 f63 f64 (ao.mk f65 f66 f67)) ([46]:Bytes)).bind λ r68 =>
   if r68.1=true then
    (ay n r68.2).bind λ r71 =>
    (aP n r71.2).bind λ r73 =>
    if r73.1.fKind=1 then
     (ay n r73.2).bind λ r78 =>
     some (.inl (4,r73.1.fText,[(ac.mk f51 f52 f53 f54 (ad.mk f55 f56 f57 f58 f59) f60 r1.1.fAt)],r78.2.fl,r78.2.fat,r78.2.fnest,r78.2.fbase,r78.2.fbad.fKind,r78.2.fbad.fAt,r78.2.fbad.fName))
    else
     (bo r73.2 2 r73.1.fAt).bind λ r76 =>
     some (.inr (.inr (r76.1,r76.2)))
   else
    (aJ n r68.2 ([91]:Bytes)).bind λ r80 =>
    if r80.1=true then
     (bQ n r80.2).bind λ r83 =>
     (r_expr_parser_expr r83).bind λ r85 =>
     (bp n r85.2 ([93]:Bytes)).bind λ r87 =>
     some (.inl (5,([]:Bytes),[(ac.mk f51 f52 f53 f54 (ad.mk f55 f56 f57 f58 f59) f60 r1.1.fAt),r85.1],r87.fl,r87.fat,r87.fnest,r87.fbase,r87.fbad.fKind,r87.fbad.fAt,r87.fbad.fName))
    else
     some (.inr (.inr ((ac.mk f51 f52 f53 f54 (ad.mk f55 f56 f57 f58 f59) f60 r1.1.fAt),r80.2)))
  : Option ((Int×Bytes×(List ac)×(List ai)×Int×Int×Int×Int×Int×Bytes)⊕(((List ai)×Int×Int×Int×Int×Int×Bytes)⊕(ac×ab)))) λ q124 =>
 bE n r_expr_parser_expr r1 m q124.1 0 q124.2.1 ([]:Bytes) 0 0 ([]:Bytes) [] [] q124.2.2.1 q124.2.2.2.1 q124.2.2.2.2.1 q124.2.2.2.2.2.1 q124.2.2.2.2.2.2.1 q124.2.2.2.2.2.2.2.1 q124.2.2.2.2.2.2.2.2.1 q124.2.2.2.2.2.2.2.2.2
def cn (n:Nat)(r_expr_parser_expr:ab→Option (ac×ab))(end_1:Bytes):Nat→(List ac)→(List ai)→Int→Int→Int→Int→Int→Bytes→Option ((List ac)×(List ai)×Int×Int×Int×Int×Int×Bytes)
 | 0,_,_,_,_,_,_,_,_=>none
 | m+1,out31,f32,f33,f34,f35,f36,f37,f38 =>
 (
   (bZ (ab.mk f32 f33 f34 f35 (ao.mk f36 f37 f38))).bind λ r39 =>
   if (!r39.1)=true then
    (aJ n r39.2 end_1).bind λ r42 =>
    some (!r42.1,r42.2.fl,r42.2.fat,r42.2.fnest,r42.2.fbase,r42.2.fbad.fKind,r42.2.fbad.fAt,r42.2.fbad.fName)
   else
    some (false,r39.2.fl,r39.2.fat,r39.2.fnest,r39.2.fbase,r39.2.fbad.fKind,r39.2.fbad.fAt,r39.2.fbad.fName)
  : Option (Bool×(List ai)×Int×Int×Int×Int×Int×Bytes)).bind λ q78 =>
 if q78.1=true then
  (r_expr_parser_expr (ab.mk q78.2.1 q78.2.2.1 q78.2.2.2.1 q78.2.2.2.2.1 (ao.mk q78.2.2.2.2.2.1 q78.2.2.2.2.2.2.1 q78.2.2.2.2.2.2.2))).bind λ r53 =>
  ck ((out31.length+[r53.1].length)*160≤140737488355328) <|
  (aJ n r53.2 ([44]:Bytes)).bind λ r56 =>
  if (!r56.1)=true then
   some (out31++[r53.1],r56.2.fl,r56.2.fat,r56.2.fnest,r56.2.fbase,r56.2.fbad.fKind,r56.2.fbad.fAt,r56.2.fbad.fName)
  else
   (ay n r56.2).bind λ r59 =>
   cn n r_expr_parser_expr end_1 m (out31++[r53.1]) r59.2.fl r59.2.fat r59.2.fnest r59.2.fbase r59.2.fbad.fKind r59.2.fbad.fAt r59.2.fbad.fName
 else
  some (out31,q78.2.1,q78.2.2.1,q78.2.2.2.1,q78.2.2.2.2.1,q78.2.2.2.2.2.1,q78.2.2.2.2.2.2.1,q78.2.2.2.2.2.2.2)
def bG (n:Nat)(r_expr_parser_expr:ab→Option (ac×ab))(r_expr_parser_key:ab→Option (ac×ab)):Nat→(List ac)→(List ai)→Int→Int→Int→Int→Int→Bytes→Option ((List ac)×(List ai)×Int×Int×Int×Int×Int×Bytes)
 | 0,_,_,_,_,_,_,_,_=>none
 | m+1,out36,f37,f38,f39,f40,f41,f42,f43 =>
 (
   (bZ (ab.mk f37 f38 f39 f40 (ao.mk f41 f42 f43))).bind λ r44 =>
   if (!r44.1)=true then
    (aJ n r44.2 ([125]:Bytes)).bind λ r47 =>
    some (!r47.1,r47.2.fl,r47.2.fat,r47.2.fnest,r47.2.fbase,r47.2.fbad.fKind,r47.2.fbad.fAt,r47.2.fbad.fName)
   else
    some (false,r44.2.fl,r44.2.fat,r44.2.fnest,r44.2.fbase,r44.2.fbad.fKind,r44.2.fbad.fAt,r44.2.fbad.fName)
  : Option (Bool×(List ai)×Int×Int×Int×Int×Int×Bytes)).bind λ q88 =>
 if q88.1=true then
  (r_expr_parser_key (ab.mk q88.2.1 q88.2.2.1 q88.2.2.2.1 q88.2.2.2.2.1 (ao.mk q88.2.2.2.2.2.1 q88.2.2.2.2.2.2.1 q88.2.2.2.2.2.2.2))).bind λ r58 =>
  ck ((out36.length+[r58.1].length)*160≤140737488355328) <|
  (cb n r58.2 ([61]:Bytes)).bind λ r61 =>
  (r_expr_parser_expr r61).bind λ r63 =>
  ck (((out36++[r58.1]).length+[r63.1].length)*160≤140737488355328) <|
  (aJ n r63.2 ([44]:Bytes)).bind λ r66 =>
  if (!r66.1)=true then
   some ((out36++[r58.1])++[r63.1],r66.2.fl,r66.2.fat,r66.2.fnest,r66.2.fbase,r66.2.fbad.fKind,r66.2.fbad.fAt,r66.2.fbad.fName)
  else
   (ay n r66.2).bind λ r69 =>
   bG n r_expr_parser_expr r_expr_parser_key m ((out36++[r58.1])++[r63.1]) r69.2.fl r69.2.fat r69.2.fnest r69.2.fbase r69.2.fbad.fKind r69.2.fbad.fAt r69.2.fbad.fName
 else
  some (out36,q88.2.1,q88.2.2.1,q88.2.2.2.1,q88.2.2.2.2.1,q88.2.2.2.2.2.1,q88.2.2.2.2.2.2.1,q88.2.2.2.2.2.2.2)
mutual
def fz:Nat→Bytes→Int→Option (ac×ao)
 | 0,_,_=>none
 | n+1,s_0,at_1 =>
 ((dB n) (af.mk s_0 at_1 0 0 ([]:Bytes) [] false)).bind λ r1 =>
 if r1.1.fKind=0 then
  (en (ad.mk 3 0 r1.2.ftext [] []) at_1).bind λ r4 =>
  (
    if r1.2.fopen=true then
     (ez (af.mk r1.2.fs r1.2.fat r1.2.fi r1.2.ffrom r1.2.ftext r1.2.fparts r1.2.fopen)).bind λ r7 =>
     some (2,0,([]:Bytes),([]:Bytes),0,0,([]:Bytes),[],[],r7.fparts,at_1)
    else
     some (r4.fKind,r4.fOp,r4.fName,r4.fKey,r4.fValue.fKind,r4.fValue.fNum,r4.fValue.fStr,r4.fValue.fItems,r4.fValue.fKeys,r4.fKids,r4.fAt)
   : Option (Int×Int×Bytes×Bytes×Int×Int×Bytes×(List ad)×(List Bytes)×(List ac)×Int)).bind λ q22 =>
  (fP n (ac.mk q22.1 q22.2.1 q22.2.2.1 q22.2.2.2.1 (ad.mk q22.2.2.2.2.1 q22.2.2.2.2.2.1 q22.2.2.2.2.2.2.1 q22.2.2.2.2.2.2.2.1 q22.2.2.2.2.2.2.2.2.1) q22.2.2.2.2.2.2.2.2.2.1 q22.2.2.2.2.2.2.2.2.2.2) r1.1).bind λ r20 =>
  some (r20.1,r20.2)
 else
  some ((ac.mk 0 0 ([]:Bytes) ([]:Bytes) (ad.mk 0 0 ([]:Bytes) [] []) [] 0),r1.1)
def eq:Nat→Bytes→Int→Option (ac×ao)
 | 0,_,_=>none
 | n+1,s_0,base_1 =>
 (g5 n s_0).bind λ r1 =>
 if r1.2.fKind=0 then
  ((aB n) (ab.mk r1.1 0 1 base_1 (ao.mk 0 0 ([]:Bytes)))).bind λ r5 =>
  (
    (aP n r5.2).bind λ r7 =>
    if r7.1.fKind=6 then
     some (r7.2.fl,r7.2.fat,r7.2.fnest,r7.2.fbase,r7.2.fbad.fKind,r7.2.fbad.fAt,r7.2.fbad.fName)
    else
     (bo r7.2 2 r7.1.fAt).bind λ r10 =>
     some (r10.2.fl,r10.2.fat,r10.2.fnest,r10.2.fbase,r10.2.fbad.fKind,r10.2.fbad.fAt,r10.2.fbad.fName)
   : Option ((List ai)×Int×Int×Int×Int×Int×Bytes)).bind λ q19 =>
  some (r5.1,(ao.mk q19.2.2.2.2.1 q19.2.2.2.2.2.1 q19.2.2.2.2.2.2))
 else
  ck (inR (base_1+r1.2.fAt)) <|
  some ((ac.mk 0 0 ([]:Bytes) ([]:Bytes) (ad.mk 0 0 ([]:Bytes) [] []) [] 0),(ao.mk r1.2.fKind (base_1+r1.2.fAt) ([]:Bytes)))
def dB:Nat→af→Option (ao×af)
 | 0,_=>none
 | n+1,t_0 =>
 jn (bK n (bb n) n t_0.fs t_0.fat t_0.fi t_0.ffrom t_0.ftext t_0.fparts t_0.fopen) λ q83 =>
 some ((ao.mk 0 0 ([]:Bytes)),(af.mk q83.1 q83.2.1 q83.2.2.1 q83.2.2.2.1 q83.2.2.2.2.1 q83.2.2.2.2.2.1 q83.2.2.2.2.2.2))
def aB:Nat→ab→Option (ac×ab)
 | 0,_=>none
 | n+1,p_0 =>
 ((bH n) p_0 0).bind λ r1 =>
 (aJ n r1.2 ([63]:Bytes)).bind λ r3 =>
 if (!r3.1)=true then
  some (r1.1,r3.2)
 else
  (ay n r3.2).bind λ r6 =>
  ((aB n) r6.2).bind λ r8 =>
  (cb n r8.2 ([58]:Bytes)).bind λ r10 =>
  ((aB n) r10).bind λ r12 =>
  some ((ac.mk 8 0 ([]:Bytes) ([]:Bytes) (ad.mk 0 0 ([]:Bytes) [] []) [r1.1,r8.1,r12.1] r1.1.fAt),r12.2)
def bb:Nat→af→Option (ao×af)
 | 0,_=>none
 | n+1,t_0 =>
 (ez (af.mk t_0.fs t_0.fat t_0.fi t_0.ffrom t_0.ftext t_0.fparts t_0.fopen)).bind λ r1 =>
 ck (inR (r1.fi+2)) <|
 (cM n r1.fs (r1.fi+2)).bind λ r4 =>
 if r4 < 0 then
  ck (inR (r1.fat+r1.fi)) <|
  some ((ao.mk 40 (r1.fat+r1.fi) ([]:Bytes)),(af.mk r1.fs r1.fat r1.fi r1.ffrom r1.ftext r1.fparts true))
 else
  ck (inR (r1.fi+2)) <|
  ck ((0:Int)≤r1.fi+2∧r1.fi+2≤r4∧r4≤(r1.fs.length:Int)) <|
  ck (inR (r1.fat+r1.fi)) <|
  ck (inR ((r1.fat+r1.fi)+2)) <|
  ((eq n) (sub r1.fs (r1.fi+2) r4) ((r1.fat+r1.fi)+2)).bind λ r12 =>
  if r12.2.fKind=0 then
   ck ((r1.fparts.length+1)*160≤140737488355328) <|
   ck (inR (r4+1)) <|
   some ((ao.mk 0 0 ([]:Bytes)),(af.mk r1.fs r1.fat (r4+1) (r4+1) r1.ftext (r1.fparts++[r12.1]) true))
  else
   some (r12.2,(af.mk r1.fs r1.fat r1.fi r1.ffrom r1.ftext r1.fparts true))
def bH:Nat→ab→Int→Option (ac×ab)
 | 0,_,_=>none
 | n+1,p_0,level_1 =>
 if 5 < level_1 then
  ((db n) p_0).bind λ r2 =>
  some (r2.1,r2.2)
 else
  ck (inR (level_1+1)) <|
  ((bH n) p_0 (level_1+1)).bind λ r5 =>
  jn (bM n (bH n) level_1 r5 n r5.1.fKind r5.1.fOp r5.1.fName r5.1.fKey r5.1.fValue.fKind r5.1.fValue.fNum r5.1.fValue.fStr r5.1.fValue.fItems r5.1.fValue.fKeys r5.1.fKids r5.2.fl r5.2.fat r5.2.fnest r5.2.fbase r5.2.fbad.fKind r5.2.fbad.fAt r5.2.fbad.fName) λ q89 =>
  none
def db:Nat→ab→Option (ac×ab)
 | 0,_=>none
 | n+1,p_0 =>
 (
   (aJ n p_0 ([33]:Bytes)).bind λ r1 =>
   if r1.1=true then
    some (1,r1.2.fl,r1.2.fat,r1.2.fnest,r1.2.fbase,r1.2.fbad.fKind,r1.2.fbad.fAt,r1.2.fbad.fName)
   else
    (aJ n r1.2 ([45]:Bytes)).bind λ r4 =>
    if r4.1=true then
     some (2,r4.2.fl,r4.2.fat,r4.2.fnest,r4.2.fbase,r4.2.fbad.fKind,r4.2.fbad.fAt,r4.2.fbad.fName)
    else
     some (0,r4.2.fl,r4.2.fat,r4.2.fnest,r4.2.fbase,r4.2.fbad.fKind,r4.2.fbad.fAt,r4.2.fbad.fName)
  : Option (Int×(List ai)×Int×Int×Int×Int×Int×Bytes)).bind λ q22 =>
 if q22.1=0 then
  ((dl n) (ab.mk q22.2.1 q22.2.2.1 q22.2.2.2.1 q22.2.2.2.2.1 (ao.mk q22.2.2.2.2.2.1 q22.2.2.2.2.2.2.1 q22.2.2.2.2.2.2.2))).bind λ r16 =>
  some (r16.1,r16.2)
 else
  (ay n (ab.mk q22.2.1 q22.2.2.1 q22.2.2.2.1 q22.2.2.2.2.1 (ao.mk q22.2.2.2.2.2.1 q22.2.2.2.2.2.2.1 q22.2.2.2.2.2.2.2))).bind λ r18 =>
  ((db n) r18.2).bind λ r20 =>
  some ((ac.mk 6 q22.1 ([]:Bytes) ([]:Bytes) (ad.mk 0 0 ([]:Bytes) [] []) [r20.1] r18.1.fAt),r20.2)
def dl:Nat→ab→Option (ac×ab)
 | 0,_=>none
 | n+1,p_0 =>
 ((di n) p_0).bind λ r1 =>
 jn (bE n (aB n) r1 n r1.1.fKind r1.1.fOp r1.1.fName r1.1.fKey r1.1.fValue.fKind r1.1.fValue.fNum r1.1.fValue.fStr r1.1.fValue.fItems r1.1.fValue.fKeys r1.1.fKids r1.2.fl r1.2.fat r1.2.fnest r1.2.fbase r1.2.fbad.fKind r1.2.fbad.fAt r1.2.fbad.fName) λ q123 =>
 none
def di:Nat→ab→Option (ac×ab)
 | 0,_=>none
 | n+1,p_0 =>
 (bZ p_0).bind λ r1 =>
 if r1.1=true then
  some ((ac.mk 0 0 ([]:Bytes) ([]:Bytes) (ad.mk 0 0 ([]:Bytes) [] []) [] 0),r1.2)
 else
  (aP n r1.2).bind λ r4 =>
  if r4.1.fKind=2 then
   (fZ n r4.1.fText).bind λ r7 =>
   if r7.2=0 then
    (ay n r4.2).bind λ r12 =>
    (en (ad.mk 2 r7.1 ([]:Bytes) [] []) r4.1.fAt).bind λ r14 =>
    some (r14,r12.2)
   else
    (bo r4.2 r7.2 r4.1.fAt).bind λ r10 =>
    some (r10.1,r10.2)
  else
   if r4.1.fKind=3 then
    ((dv n) r4.2).bind λ r17 =>
    some (r17.1,r17.2)
   else
    if r4.1.fKind=1 then
     ((d6 n) r4.2).bind λ r20 =>
     some (r20.1,r20.2)
    else
     if r4.1.fKind=4 then
      ((cT n) r4.2).bind λ r23 =>
      some (r23.1,r23.2)
     else
      (bo r4.2 2 r4.1.fAt).bind λ r25 =>
      some (r25.1,r25.2)
def dv:Nat→ab→Option (ac×ab)
 | 0,_=>none
 | n+1,p_0 =>
 (aP n p_0).bind λ r1 =>
 ck (inR (r1.1.fAt+1)) <|
 ((fz n) r1.1.fText (r1.1.fAt+1)).bind λ r4 =>
 if r4.2.fKind=0 then
  (ay n r1.2).bind λ r9 =>
  some ((ac.mk r4.1.fKind r4.1.fOp r4.1.fName r4.1.fKey r4.1.fValue r4.1.fKids r1.1.fAt),r9.2)
 else
  (bo r1.2 r4.2.fKind r4.2.fAt).bind λ r7 =>
  some (r7.1,r7.2)
def d6:Nat→ab→Option (ac×ab)
 | 0,_=>none
 | n+1,p_0 =>
 (aP n p_0).bind λ r1 =>
 if r1.1.fText=([110,117,108,108]:Bytes) then
  (ay n r1.2).bind λ r4 =>
  (en (ad.mk 0 0 ([]:Bytes) [] []) r1.1.fAt).bind λ r6 =>
  some (r6,r4.2)
 else
  (
    if r1.1.fText=([116,114,117,101]:Bytes) then
     some true
    else
     some (decide (r1.1.fText=([102,97,108,115,101]:Bytes)))
   : Option Bool).bind λ t9 =>
  if t9=true then
   (ay n r1.2).bind λ r11 =>
   (
     if r1.1.fText=([116,114,117,101]:Bytes) then
      some 1
     else
      some 0
    : Option Int).bind λ f14 =>
   (en (ad.mk 1 f14 ([]:Bytes) [] []) r1.1.fAt).bind λ r15 =>
   some (r15,r11.2)
  else
   (dZ r1.1.fText).bind λ r17 =>
   if r17=true then
    (bo r1.2 2 r1.1.fAt).bind λ r20 =>
    some (r20.1,r20.2)
   else
    (ay n r1.2).bind λ r22 =>
    (aJ n r22.2 ([40]:Bytes)).bind λ r24 =>
    if (!r24.1)=true then
     some ((ac.mk 3 0 r1.1.fText ([]:Bytes) (ad.mk 0 0 ([]:Bytes) [] []) [] r1.1.fAt),r24.2)
    else
     (bQ n r24.2).bind λ r27 =>
     ((dz n) r27 ([41]:Bytes)).bind λ r29 =>
     (bp n r29.2 ([41]:Bytes)).bind λ r31 =>
     some ((ac.mk 9 0 r1.1.fText ([]:Bytes) (ad.mk 0 0 ([]:Bytes) [] []) r29.1 r1.1.fAt),r31)
def cT:Nat→ab→Option (ac×ab)
 | 0,_=>none
 | n+1,p_0 =>
 (aP n p_0).bind λ r1 =>
 if r1.1.fText=([40]:Bytes) then
  (bQ n r1.2).bind λ r4 =>
  ((aB n) r4).bind λ r6 =>
  (bp n r6.2 ([41]:Bytes)).bind λ r8 =>
  some (r6.1,r8)
 else
  if r1.1.fText=([91]:Bytes) then
   (bQ n r1.2).bind λ r11 =>
   (cC n r11 ([102,111,114]:Bytes)).bind λ r13 =>
   if r13.1=true then
    ((dy n) r13.2 r1.1.fAt 12).bind λ r16 =>
    some (r16.1,r16.2)
   else
    ((dz n) r13.2 ([93]:Bytes)).bind λ r18 =>
    (bp n r18.2 ([93]:Bytes)).bind λ r20 =>
    some ((ac.mk 10 0 ([]:Bytes) ([]:Bytes) (ad.mk 0 0 ([]:Bytes) [] []) r18.1 r1.1.fAt),r20)
  else
   if r1.1.fText=([123]:Bytes) then
    (bQ n r1.2).bind λ r23 =>
    (cC n r23 ([102,111,114]:Bytes)).bind λ r25 =>
    if r25.1=true then
     ((dy n) r25.2 r1.1.fAt 13).bind λ r28 =>
     some (r28.1,r28.2)
    else
     ((dk n) r25.2).bind λ r30 =>
     (bp n r30.2 ([125]:Bytes)).bind λ r32 =>
     some ((ac.mk 11 0 ([]:Bytes) ([]:Bytes) (ad.mk 0 0 ([]:Bytes) [] []) r30.1 r1.1.fAt),r32)
   else
    (bo r1.2 2 r1.1.fAt).bind λ r34 =>
    some (r34.1,r34.2)
def dz:Nat→ab→Bytes→Option ((List ac)×ab)
 | 0,_,_=>none
 | n+1,p_0,end_1 =>
 (cn n (aB n) end_1 n [] p_0.fl p_0.fat p_0.fnest p_0.fbase p_0.fbad.fKind p_0.fbad.fAt p_0.fbad.fName).bind λ q77 =>
 some (q77.1,(ab.mk q77.2.1 q77.2.2.1 q77.2.2.2.1 q77.2.2.2.2.1 (ao.mk q77.2.2.2.2.2.1 q77.2.2.2.2.2.2.1 q77.2.2.2.2.2.2.2)))
def dy:Nat→ab→Int→Int→Option (ac×ab)
 | 0,_,_,_=>none
 | n+1,p_0,at_1,k_2 =>
 (ay n p_0).bind λ r1 =>
 (cx n r1.2).bind λ r3 =>
 (
   (aJ n r3.2 ([44]:Bytes)).bind λ r5 =>
   if r5.1=true then
    (ay n r5.2).bind λ r8 =>
    (cx n r8.2).bind λ r10 =>
    some (r10.1,r3.1,r10.2.fl,r10.2.fat,r10.2.fnest,r10.2.fbase,r10.2.fbad.fKind,r10.2.fbad.fAt,r10.2.fbad.fName)
   else
    some (r3.1,([]:Bytes),r5.2.fl,r5.2.fat,r5.2.fnest,r5.2.fbase,r5.2.fbad.fKind,r5.2.fbad.fAt,r5.2.fbad.fName)
  : Option (Bytes×Bytes×(List ai)×Int×Int×Int×Int×Int×Bytes)).bind λ q64 =>
 (dj n (ab.mk q64.2.2.1 q64.2.2.2.1 q64.2.2.2.2.1 q64.2.2.2.2.2.1 (ao.mk q64.2.2.2.2.2.2.1 q64.2.2.2.2.2.2.2.1 q64.2.2.2.2.2.2.2.2)) ([105,110]:Bytes)).bind λ r21 =>
 ((aB n) r21).bind λ r23 =>
 ck ([r23.1].length*160≤140737488355328) <|
 (cb n r23.2 ([58]:Bytes)).bind λ r26 =>
 ((aB n) r26).bind λ r28 =>
 ck (([r23.1].length+[r28.1].length)*160≤140737488355328) <|
 (
   if k_2=13 then
    (cb n r28.2 ([61,62]:Bytes)).bind λ r32 =>
    ((aB n) r32).bind λ r34 =>
    ck ((([r23.1]++[r28.1]).length+[r34.1].length)*160≤140737488355328) <|
    some (([125]:Bytes),([r23.1]++[r28.1])++[r34.1],r34.2.fl,r34.2.fat,r34.2.fnest,r34.2.fbase,r34.2.fbad.fKind,r34.2.fbad.fAt,r34.2.fbad.fName)
   else
    some (([93]:Bytes),[r23.1]++[r28.1],r28.2.fl,r28.2.fat,r28.2.fnest,r28.2.fbase,r28.2.fbad.fKind,r28.2.fbad.fAt,r28.2.fbad.fName)
  : Option (Bytes×(List ac)×(List ai)×Int×Int×Int×Int×Int×Bytes)).bind λ q65 =>
 (
   (cC n (ab.mk q65.2.2.1 q65.2.2.2.1 q65.2.2.2.2.1 q65.2.2.2.2.2.1 (ao.mk q65.2.2.2.2.2.2.1 q65.2.2.2.2.2.2.2.1 q65.2.2.2.2.2.2.2.2)) ([105,102]:Bytes)).bind λ r46 =>
   if r46.1=true then
    (ay n r46.2).bind λ r49 =>
    ((aB n) r49.2).bind λ r51 =>
    ck ((q65.2.1.length+[r51.1].length)*160≤140737488355328) <|
    some (q65.2.1++[r51.1],r51.2.fl,r51.2.fat,r51.2.fnest,r51.2.fbase,r51.2.fbad.fKind,r51.2.fbad.fAt,r51.2.fbad.fName)
   else
    some (q65.2.1,r46.2.fl,r46.2.fat,r46.2.fnest,r46.2.fbase,r46.2.fbad.fKind,r46.2.fbad.fAt,r46.2.fbad.fName)
  : Option ((List ac)×(List ai)×Int×Int×Int×Int×Int×Bytes)).bind λ q66 =>
 (bp n (ab.mk q66.2.1 q66.2.2.1 q66.2.2.2.1 q66.2.2.2.2.1 (ao.mk q66.2.2.2.2.2.1 q66.2.2.2.2.2.2.1 q66.2.2.2.2.2.2.2)) q65.1).bind λ r62 =>
 some ((ac.mk k_2 0 q64.1 q64.2.1 (ad.mk 0 0 ([]:Bytes) [] []) q66.1 at_1),r62)
def dk:Nat→ab→Option ((List ac)×ab)
 | 0,_=>none
 | n+1,p_0 =>
 (bG n (aB n) (dm n) n [] p_0.fl p_0.fat p_0.fnest p_0.fbase p_0.fbad.fKind p_0.fbad.fAt p_0.fbad.fName).bind λ q87 =>
 some (q87.1,(ab.mk q87.2.1 q87.2.2.1 q87.2.2.2.1 q87.2.2.2.2.1 (ao.mk q87.2.2.2.2.2.1 q87.2.2.2.2.2.2.1 q87.2.2.2.2.2.2.2)))
def dm:Nat→ab→Option (ac×ab)
 | 0,_=>none
 | n+1,p_0 =>
 (aP n p_0).bind λ r1 =>
 if r1.1.fKind=1 then
  (ay n r1.2).bind λ r4 =>
  (en (ad.mk 3 0 r1.1.fText [] []) r1.1.fAt).bind λ r6 =>
  some (r6,r4.2)
 else
  if r1.1.fKind=3 then
   ((dv n) r1.2).bind λ r9 =>
   some (r9.1,r9.2)
  else
   (aJ n r1.2 ([40]:Bytes)).bind λ r11 =>
   if r11.1=true then
    (bQ n r11.2).bind λ r14 =>
    ((aB n) r14).bind λ r16 =>
    (bp n r16.2 ([41]:Bytes)).bind λ r18 =>
    some (r16.1,r18)
   else
    (bo r11.2 2 r1.1.fAt).bind λ r20 =>
    some (r20.1,r20.2)
end
set_option maxHeartbeats 4000000 in
theorem mi (n:Nat):(∀ (s_0:Bytes) (at_1:Int) (r:ac×ao),fz n s_0 at_1=some r→au Tryz.prog 19 [eS s_0,eI at_1] (·=.tuple [.p (.agg (ac.cs r.1)),.p (.agg (ao.cs r.2))]))∧(∀ (s_0:Bytes) (base_1:Int) (r:ac×ao),eq n s_0 base_1=some r→au Tryz.prog 33 [eS s_0,eI base_1] (·=.tuple [.p (.agg (ac.cs r.1)),.p (.agg (ao.cs r.2))]))∧(∀ (t_0:af) (r:ao×af),dB n t_0=some r→aF Tryz.prog 38 [.ptr 1000000 0] [(1000000,[.p (eS t_0.fs),.p (eI t_0.fat),.p (eI t_0.fi),.p (eI t_0.ffrom),.p (eS t_0.ftext),.vec 900000 11 0 (t_0.fparts.map ae),.p (eB t_0.fopen)])] (λ x y=>x=.p (.agg (ao.cs r.1))∧y=[(1000000,[.p (eS r.2.fs),.p (eI r.2.fat),.p (eI r.2.fi),.p (eI r.2.ffrom),.p (eS r.2.ftext),.vec 2000000 11 0 (r.2.fparts.map ae),.p (eB r.2.fopen)])]))∧(∀ (p_0:ab) (r:ac×ab),aB n p_0=some r→aF Tryz.prog 65 [.ptr 1000000 0] [(1000000,((ab.cs p_0).map .p))] (λ x y=>x=.p (.agg (ac.cs r.1))∧y=[(1000000,((ab.cs r.2).map .p))]))∧(∀ (t_0:af) (r:ao×af),bb n t_0=some r→aF Tryz.prog 77 [.ptr 1000000 0] [(1000000,[.p (eS t_0.fs),.p (eI t_0.fat),.p (eI t_0.fi),.p (eI t_0.ffrom),.p (eS t_0.ftext),.vec 900000 11 0 (t_0.fparts.map ae),.p (eB t_0.fopen)])] (λ x y=>x=.p (.agg (ao.cs r.1))∧y=[(1000000,[.p (eS r.2.fs),.p (eI r.2.fat),.p (eI r.2.fi),.p (eI r.2.ffrom),.p (eS r.2.ftext),.vec 2000000 11 0 (r.2.fparts.map ae),.p (eB r.2.fopen)])]))∧(∀ (p_0:ab) (level_1:Int) (r:ac×ab),bH n p_0 level_1=some r→aF Tryz.prog 100 [.ptr 1000000 0,.p (eI level_1)] [(1000000,((ab.cs p_0).map .p))] (λ x y=>x=.p (.agg (ac.cs r.1))∧y=[(1000000,((ab.cs r.2).map .p))]))∧(∀ (p_0:ab) (r:ac×ab),db n p_0=some r→aF Tryz.prog 139 [.ptr 1000000 0] [(1000000,((ab.cs p_0).map .p))] (λ x y=>x=.p (.agg (ac.cs r.1))∧y=[(1000000,((ab.cs r.2).map .p))]))∧(∀ (p_0:ab) (r:ac×ab),dl n p_0=some r→aF Tryz.prog 166 [.ptr 1000000 0] [(1000000,((ab.cs p_0).map .p))] (λ x y=>x=.p (.agg (ac.cs r.1))∧y=[(1000000,((ab.cs r.2).map .p))]))∧(∀ (p_0:ab) (r:ac×ab),di n p_0=some r→aF Tryz.prog 184 [.ptr 1000000 0] [(1000000,((ab.cs p_0).map .p))] (λ x y=>x=.p (.agg (ac.cs r.1))∧y=[(1000000,((ab.cs r.2).map .p))]))∧(∀ (p_0:ab) (r:ac×ab),dv n p_0=some r→aF Tryz.prog 197 [.ptr 1000000 0] [(1000000,((ab.cs p_0).map .p))] (λ x y=>x=.p (.agg (ac.cs r.1))∧y=[(1000000,((ab.cs r.2).map .p))]))∧(∀ (p_0:ab) (r:ac×ab),d6 n p_0=some r→aF Tryz.prog 198 [.ptr 1000000 0] [(1000000,((ab.cs p_0).map .p))] (λ x y=>x=.p (.agg (ac.cs r.1))∧y=[(1000000,((ab.cs r.2).map .p))]))∧(∀ (p_0:ab) (r:ac×ab),cT n p_0=some r→aF Tryz.prog 199 [.ptr 1000000 0] [(1000000,((ab.cs p_0).map .p))] (λ x y=>x=.p (.agg (ac.cs r.1))∧y=[(1000000,((ab.cs r.2).map .p))]))∧(∀ (p_0:ab) (end_1:Bytes) (r:(List ac)×ab),dz n p_0 end_1=some r→aF Tryz.prog 210 [.ptr 1000000 0,.p (eS end_1)] [(1000000,((ab.cs p_0).map .p))] (λ x y=>x=.p (eL ae r.1)∧y=[(1000000,((ab.cs r.2).map .p))]))∧(∀ (p_0:ab) (at_1:Int) (k_2:Int) (r:ac×ab),dy n p_0 at_1 k_2=some r→aF Tryz.prog 212 [.ptr 1000000 0,.p (eI at_1),.p (eI k_2)] [(1000000,((ab.cs p_0).map .p))] (λ x y=>x=.p (.agg (ac.cs r.1))∧y=[(1000000,((ab.cs r.2).map .p))]))∧(∀ (p_0:ab) (r:(List ac)×ab),dk n p_0=some r→aF Tryz.prog 213 [.ptr 1000000 0] [(1000000,((ab.cs p_0).map .p))] (λ x y=>x=.p (eL ae r.1)∧y=[(1000000,((ab.cs r.2).map .p))]))∧(∀ (p_0:ab) (r:ac×ab),dm n p_0=some r→aF Tryz.prog 225 [.ptr 1000000 0] [(1000000,((ab.cs p_0).map .p))] (λ x y=>x=.p (.agg (ac.cs r.1))∧y=[(1000000,((ab.cs r.2).map .p))])):=by
 induction n with
 | zero=>exact ⟨(by intro s_0 at_1 r h0; cases h0),(by intro s_0 base_1 r h0; cases h0),(by intro t_0 r h0; cases h0),(by intro p_0 r h0; cases h0),(by intro t_0 r h0; cases h0),(by intro p_0 level_1 r h0; cases h0),(by intro p_0 r h0; cases h0),(by intro p_0 r h0; cases h0),(by intro p_0 r h0; cases h0),(by intro p_0 r h0; cases h0),(by intro p_0 r h0; cases h0),(by intro p_0 r h0; cases h0),(by intro p_0 end_1 r h0; cases h0),(by intro p_0 at_1 k_2 r h0; cases h0),(by intro p_0 r h0; cases h0),(by intro p_0 r h0; cases h0)⟩
 | succ n ih =>
 obtain ⟨ih_expr_Template_ok,ih_expr_whole_ok,ih_expr_template_read_ok,ih_expr_parser_expr_ok,ih_expr_template_interpolation_ok,ih_expr_parser_binary_ok,ih_expr_parser_unary_ok,ih_expr_parser_postfix_ok,ih_expr_parser_primary_ok,ih_expr_parser_text_ok,ih_expr_parser_name_ok,ih_expr_parser_enclosed_ok,ih_expr_parser_list_ok,ih_expr_parser_loop_ok,ih_expr_parser_entries_ok,ih_expr_parser_key_ok⟩:=ih
 refine ⟨?_,?_,?_,?_,?_,?_,?_,?_,?_,?_,?_,?_,?_,?_,?_,?_⟩
 ·skip
  intro s_0 at_1 r h0
  rw [fz] at h0
  refine aW good Tryz.func19 rfl rfl rfl λ w0=>mP (λ v:ac×ao=>.tuple [.p (.agg (ac.cs v.1)),.p (.agg (ao.cs v.2))]) ?_
  refine nx 16 rfl (bd h0 λ r1 e2 h0=>?_)
  refine mO rfl (aZ [12] [890000] 101000 101001 (ih_expr_template_read_ok (af.mk s_0 at_1 0 0 ([]:Bytes) [] false) _ e2) rfl rfl rfl rfl rfl ⟨sr,trivial⟩ rfl rfl ⟨⟨_,rfl,⟨sr,sr,sr,sr,sr,AV.sub_nilvec _ _ _,sr,trivial⟩⟩,trivial⟩ rfl rfl rfl rfl rfl rfl rfl rfl Tryz.call38 rfl rfl ?_)
  refine nx 10 rfl (fN [17] h0 rfl (λ c3 h0=>?_) λ c3 h0=>?_)
  ·refine nx 10 rfl (bd h0 λ r4 e5 h0=>?_)
   refine oK (dN (ad.mk 3 0 r1.2.ftext [] []) at_1 _ e5) rfl ⟨cr ⟨.inl rfl,.inl rfl,.inl rfl,.inr ⟨rfl,rfl⟩,.inr ⟨rfl,rfl⟩,trivial⟩,sr,trivial⟩ Tryz.call39 rfl (nx 4 rfl ?_)
   refine bd h0 λ o23 h1 h0=>kN o23 (λ v24=>⟨[(4,.ptr 4 0),(5,.ptr 5 0),(7,.ptr 7 0),(8,.ptr 8 0)],[(4,aH),(5,bu),(7,(ao.cs r1.1).map .p),(8,[.p (eI v24.1),.p (eI v24.2.1),.p (eS v24.2.2.1),.p (eS v24.2.2.2.1),.p (eI v24.2.2.2.2.1),.p (eI v24.2.2.2.2.2.1),.p (eS v24.2.2.2.2.2.2.1),.p (eL cU v24.2.2.2.2.2.2.2.1),.p (eL eS v24.2.2.2.2.2.2.2.2.1),.p (eL ae v24.2.2.2.2.2.2.2.2.2.1),.p (eI v24.2.2.2.2.2.2.2.2.2.2)])]⟩) ?_ ?_
   ·refine nx 5 rfl (bd h0 λ r20 e21 h0=>?_)
    refine oK (lg _ (ac.mk o23.1 o23.2.1 o23.2.2.1 o23.2.2.2.1 (ad.mk o23.2.2.2.2.1 o23.2.2.2.2.2.1 o23.2.2.2.2.2.2.1 o23.2.2.2.2.2.2.2.1 o23.2.2.2.2.2.2.2.2.1) o23.2.2.2.2.2.2.2.2.2.1 o23.2.2.2.2.2.2.2.2.2.2) r1.1 _ e21) rfl ⟨sr,sr,trivial⟩ Tryz.call34 rfl (nx 6 rfl ?_)
    exact mQ (oi h0) rfl (ap ⟨sr,sr,trivial⟩)
   refine nx 7 rfl (fB [30] h1 rfl (λ c6 h1=>?_) λ c6 h1=>?_)
   ·refine nx 4 rfl (bd h1 λ r7 e8 h1=>?_)
    refine mO rfl (cVq [12] [101000] 102000 102001 (gM (af.mk r1.2.fs r1.2.fat r1.2.fi r1.2.ffrom r1.2.ftext r1.2.fparts r1.2.fopen) _ e8) Tryz.call40 rfl ?_)
    exact nx 10 rfl (eX _ (oi h1).symm (fm (mb ⟨er rfl,er rfl,er rfl,er rfl,trivial⟩ ⟨⟨_,rfl,⟨sr,sr,sr,sr,sr,sr,sr,sr,sr,sr,sr,trivial⟩⟩,⟨_,rfl,⟨sr,sr,sr,trivial⟩⟩,⟨_,rfl,⟨sr,sr,sr,trivial⟩⟩,⟨_,rfl,⟨sr,sr,sr,sr,sr,sr,sr,fp _,fp _,AV.sub_vec _ _ _ _,sr,trivial⟩⟩,trivial⟩)))
   exact nx 2 rfl (eX _ (oi h1).symm (gE rfl rfl))
  refine nx 2 rfl (mG (gE (t:=⟨[(4,.ptr 4 0),(5,.ptr 5 0),(7,.ptr 7 0)],[(4,aH),(5,bu),(7,(ao.cs r1.1).map .p)]⟩) rfl rfl) ?_)
  refine mSq ⟨2,[2,3],(λ _=>.none),(λ _=>[(4,.ptr 4 0),(5,.ptr 5 0),(7,.ptr 7 0)]),(ob3 ([(4,aH),(5,bu),(7,((ao.cs r1.1).map .p))]) (4,aH) (5,((ao.cs r1.1).map .p)))⟩ rfl (dPc (.p (.agg jQ)) rfl ?_)
  refine dPc (.p (.agg (ao.cs r1.1))) rfl (dS rfl ?_)
  refine dS rfl (cP ?_)
  exact nx 2 rfl (mQ (oi h0) rfl (ap ⟨cr ⟨.inl rfl,.inl rfl,.inl rfl,.inl rfl,.inl rfl,.inl rfl,.inl rfl,.inr ⟨rfl,rfl⟩,.inr ⟨rfl,rfl⟩,.inr ⟨rfl,rfl⟩,.inl rfl,trivial⟩,sr,trivial⟩))
 ·skip
  intro s_0 base_1 r h0
  rw [eq] at h0
  refine aW good Tryz.func33 rfl rfl rfl λ w0=>mP (λ v:ac×ao=>.tuple [.p (.agg (ac.cs v.1)),.p (.agg (ao.cs v.2))]) ?_
  refine nx 8 rfl (bd h0 λ r1 e2 h0=>?_)
  refine oK (p7 _ s_0 _ e2) rfl ⟨sr,trivial⟩ Tryz.call25 rfl (nx 14 rfl ?_)
  refine fN [18] h0 rfl (λ c3 h0=>?_) λ c3 h0=>?_
  ·refine nx 13 rfl (bd h0 λ r5 e6 h0=>?_)
   refine mO rfl (cVq [30] [] 101000 101000 (ih_expr_parser_expr_ok (ab.mk r1.1 0 1 base_1 (ao.mk 0 0 ([]:Bytes))) _ e6) Tryz.call65 rfl ?_)
   refine nx 4 rfl (bd h0 λ o20 h1 h0=>?_)
   refine kN o20 (λ v21=>⟨[(4,.ptr 4 0),(5,.ptr 5 0),(8,.ptr 30 0),(9,.ptr 9 0)],[(4,aH),(5,bu),(9,(ac.cs r5.1).map .p),(30,[.p (eL aR v21.1),.p (eI v21.2.1),.p (eI v21.2.2.1),.p (eI v21.2.2.2.1),.p (eI v21.2.2.2.2.1),.p (eI v21.2.2.2.2.2.1),.p (eS v21.2.2.2.2.2.2)])]⟩) ?_ ?_
   ·refine nx 2 rfl (mG (gE (t:=⟨[(4,.ptr 4 0),(5,.ptr 5 0),(8,.ptr 30 0),(9,.ptr 9 0)],[(4,aH),(5,bu),(9,(ac.cs r5.1).map .p),(30,[.p (eL aR o20.1),.p (eI o20.2.1),.p (eI o20.2.2.1),.p (eI o20.2.2.2.1),.p (eI o20.2.2.2.2.1),.p (eI o20.2.2.2.2.2.1),.p (eS o20.2.2.2.2.2.2)])]⟩) rfl rfl) ?_)
    refine mSq ⟨2,[5,6],(λ _=>.none),(λ _=>[(4,.ptr 4 0),(5,.ptr 5 0),(8,.ptr 30 0),(9,.ptr 9 0)]),(ob3 ([(4,aH),(5,bu),(9,((ac.cs r5.1).map .p)),(30,[.p (eL aR o20.1),.p (eI o20.2.1),.p (eI o20.2.2.1),.p (eI o20.2.2.2.1),.p (eI o20.2.2.2.2.1),.p (eI o20.2.2.2.2.2.1),.p (eS o20.2.2.2.2.2.2)])]) (4,((ac.cs r5.1).map .p)) (5,[.p (eI o20.2.2.2.2.1),.p (eI o20.2.2.2.2.2.1),.p (eS o20.2.2.2.2.2.2)]))⟩ rfl (dPc (.p (.agg (ac.cs r5.1))) rfl ?_)
    refine dPc (.ptr 30 0) rfl (dPc (.ptr 30 0) rfl ?_)
    refine dPc (.ptr 30 4) rfl (dPc (.p (.agg [eI o20.2.2.2.2.1,eI o20.2.2.2.2.2.1,eS o20.2.2.2.2.2.2])) rfl ?_)
    refine dS rfl (dS rfl ?_)
    refine cP (nx 2 rfl ?_)
    exact mQ (oi h0) rfl (ap ⟨sr,sr,trivial⟩)
   refine nx 3 rfl (bd h1 λ r7 e8 h1=>?_)
   refine mO rfl (cVq [30] [] 102000 102000 (a6 _ r5.2 _ e8) Tryz.call70 rfl ?_)
   refine nx 9 rfl (fN [37] h1 rfl (λ c9 h1=>?_) λ c9 h1=>?_)
   ·exact nx 2 rfl (eX _ (oi h1).symm (gE rfl rfl))
   refine nx 5 rfl (bd h1 λ r10 e11 h1=>?_)
   refine mO rfl (cVq [30] [] 103000 103000 (bn r7.2 2 r7.1.fAt _ e11) Tryz.call71 rfl ?_)
   exact nx 1 rfl (eX _ (oi h1).symm (gE rfl rfl))
  refine nx 2 rfl (cc' h0 λ hk4 h0=>?_)
  refine mG (gE (t:=⟨[(1,.p (eI base_1)),(4,.ptr 4 0),(5,.ptr 5 0),(7,.ptr 7 0)],[(4,aH),(5,bu),(7,(ao.cs r1.2).map .p)]⟩) rfl rfl) (mSq ⟨2,[8,9],(λ _=>.none),(λ _=>[(1,.p (eI base_1)),(4,.ptr 4 0),(5,.ptr 5 0),(7,.ptr 7 0)]),(ob3 ([(4,aH),(5,bu),(7,((ao.cs r1.2).map .p))]) (4,aH) (5,[.p (eI r1.2.fKind),.p (eI (base_1+r1.2.fAt)),.p (eS ([]:Bytes))]))⟩ rfl ?_)
  refine dPc (.p (.agg jQ)) rfl (dPc (.ptr 7 0) rfl ?_)
  refine dPc (.p (eI r1.2.fKind)) rfl (dPc (.p (eI base_1)) rfl ?_)
  refine dPc (.ptr 7 1) rfl (dPc (.p (eI r1.2.fAt)) rfl ?_)
  refine aD (λ _=>.p (eI (base_1+r1.2.fAt))) rfl rfl rfl (l4 rfl rfl (λ _=>rfl)) (lt2 rfl rfl) (ar rfl (av [(22,_),(24,_)] ⟨.inr ⟨3,_,rfl,rfl,rfl⟩,.inr ⟨5,_,rfl,rfl,rfl⟩,trivial⟩ (λ sl hsl K hK=>ag rfl (de rfl rfl rfl (hsl _ _ rfl) (hsl _ _ rfl) rfl hk4 hK)) (av [(22,_),(24,_)] ⟨.inr ⟨3,_,rfl,rfl,rfl⟩,.inr ⟨5,_,rfl,rfl,rfl⟩,trivial⟩ (λ sl hsl K hK=>ag rfl (de rfl rfl rfl (hsl _ _ rfl) (hsl _ _ rfl) rfl hk4 hK)) aE))) (dPc (.p (.agg [eI r1.2.fKind,eI (base_1+r1.2.fAt),eS ([]:Bytes)])) rfl ?_)
  refine dS rfl (dS rfl ?_)
  refine cP (nx 2 rfl ?_)
  exact mQ (oi h0) rfl (ap ⟨cr ⟨.inl rfl,.inl rfl,.inl rfl,.inl rfl,.inl rfl,.inl rfl,.inl rfl,.inr ⟨rfl,rfl⟩,.inr ⟨rfl,rfl⟩,.inr ⟨rfl,rfl⟩,.inl rfl,trivial⟩,sr,trivial⟩)
 ·skip
  intro t_0 r h0
  rw [dB] at h0
  refine bF good [800000] [1000000] Tryz.func38 rfl rfl rfl rfl rfl λ w0 F=>mPo (λ v:ao×af=>.p (.agg (ao.cs v.1))) (λ v=>[(1000000,[.p (eS v.2.fs),.p (eI v.2.fat),.p (eI v.2.fi),.p (eI v.2.ffrom),.p (eS v.2.ftext),.vec 2000000 11 0 (v.2.fparts.map ae),.p (eB v.2.fopen)])]) ?_
  refine nx 6 rfl ?_
  obtain ⟨o85,h1,hL0,hR0⟩:=cz h0
  refine kEx 0 (λ v86:Bytes×Int×Int×Int×Bytes×(List ac)×Bool=>o85=.inl v86) (λ v86=>⟨[(2,.ptr 2 0)],[(2,bu),(1000000,[.p (eS v86.1),.p (eI v86.2.1),.p (eI v86.2.2.1),.p (eI v86.2.2.2.1),.p (eS v86.2.2.2.2.1),.vec 900000 11 0 (v86.2.2.2.2.2.1.map ae),.p (eB v86.2.2.2.2.2.2)])]⟩) (λ v86 hv=>?_) ?_
  ·have h0:=hL0 _ hv
   exact nx 7 rfl (mQo (oi h0) (aN (bz 900000 800000 rfl rfl rfl rfl rfl) (al _)) rfl rfl rfl rfl (sr) ⟨⟨_,rfl,⟨sr,sr,sr,sr,sr,sr,sr,trivial⟩⟩,trivial⟩)
  refine lG (λ (q87:Bytes×Int×Int×Int×Bytes×(List ac)×Bool)=>⟨[(0,.ptr 1000000 0),(2,.ptr 2 0)],[(2,bu),(1000000,[.p (eS q87.1),.p (eI q87.2.1),.p (eI q87.2.2.1),.p (eI q87.2.2.2.1),.p (eS q87.2.2.2.2.1),.vec 900000 11 0 (q87.2.2.2.2.2.1.map ae),.p (eB q87.2.2.2.2.2.2)])]⟩) (λ m (q87:Bytes×Int×Int×Int×Bytes×(List ac)×Bool)=>bK n (bb n) m q87.1 q87.2.1 q87.2.2.1 q87.2.2.2.1 q87.2.2.2.2.1 q87.2.2.2.2.2.1 q87.2.2.2.2.2.2) (λ _=>rfl) (t_0.fs,t_0.fat,t_0.fi,t_0.ffrom,t_0.ftext,t_0.fparts,t_0.fopen) h1 (gE rfl rfl) ?_
  rintro m ⟨f35,f36,f37,f38,f39,f40,f41⟩ h1
  replace h1:bK n (bb n) (m+1) f35 f36 f37 f38 f39 f40 f41=some o85:=h1
  rw [bK] at h1
  refine nx 2 rfl (mD [(0,.ptr 1000000 0),(2,.ptr 2 0)] rfl ⟨rfl,rfl,trivial⟩ rfl ?_)
  refine dR 8 rfl (dq (.p (eI (f35.length:Int))) [12] rfl (λ _ e _ q=>ag rfl (mq rfl rfl rfl rfl rfl (e _ _ rfl) q)) rfl ?_)
  refine dR 1 rfl (dE rfl ?_)
  refine nx 1 rfl (fD [14] h1 rfl (λ c42 h1=>?_) λ c42 h1=>?_)
  ·refine nx 9 rfl (cc' h1 λ hk43 h1=>?_)
   refine mD [(0,.ptr 1000000 0),(2,.ptr 2 0),(3,.ptr 3 0)] rfl ⟨rfl,rfl,rfl,trivial⟩ rfl (dR 8 rfl ?_)
   refine dq (.p (eS (sub f35 f37 (f35.length:Int)))) [18,22] rfl (λ _ e _ q=>ag rfl (cF (a:=f35) (l:=f37) (h:=(f35.length:Int)) rfl rfl rfl rfl rfl (e _ _ rfl) (ew (e _ _ rfl)) rfl hk43 q)) rfl (dR 1 rfl ?_)
   refine dE rfl (nx 1 rfl ?_)
   refine bd h1 λ o88 h2 h1=>kN o88 (λ v89=>⟨[(0,.ptr 1000000 0),(2,.ptr 2 0),(3,.ptr 3 0)],[(2,bu),(3,[.p (eI v89.1),.p (eI v89.2.1),.p (eS v89.2.2.1)]),(1000000,[.p (eS v89.2.2.2.1),.p (eI v89.2.2.2.2.1),.p (eI v89.2.2.2.2.2.1),.p (eI v89.2.2.2.2.2.2.1),.p (eS v89.2.2.2.2.2.2.2.1),.vec 106000 11 0 (v89.2.2.2.2.2.2.2.2.1.map ae),.p (eB v89.2.2.2.2.2.2.2.2.2)])]⟩) ?_ ?_
   ·refine nx 7 rfl (fN [52] h1 rfl (λ c68 h1=>?_) λ c68 h1=>?_)
    ·exact nx 2 rfl (eX (o88.2.2.2.1,o88.2.2.2.2.1,o88.2.2.2.2.2.1,o88.2.2.2.2.2.2.1,o88.2.2.2.2.2.2.2.1,o88.2.2.2.2.2.2.2.2.1,o88.2.2.2.2.2.2.2.2.2) h1 (aN (bz 106000 900000 rfl rfl rfl rfl rfl) (gE rfl rfl)))
    exact nx 7 rfl (mQo (hR0 _ (oi h1).symm) (aN (bz 106000 800000 rfl rfl rfl rfl rfl) (al _)) rfl rfl rfl rfl (sr) ⟨⟨_,rfl,⟨sr,sr,sr,sr,sr,sr,sr,trivial⟩⟩,trivial⟩)
   refine nx 4 rfl (bd h2 λ r44 e45 h2=>?_)
   refine oK (bU (sub f35 f37 (f35.length:Int)) ([36,36,123]:Bytes) _ e45) rfl ⟨sr,sr,trivial⟩ Tryz.call75 rfl (nx 2 rfl ?_)
   refine fB [26,28] h2 rfl (λ c46 h2=>?_) λ c46 h2=>?_
   ·refine nx 7 rfl (oC h2 rfl λ hk47 h2=>?_)
    refine nx 10 rfl (oA h2 rfl rfl λ hk48 h2=>?_)
    refine nx 4 rfl (mG (gE (t:=⟨[(0,.ptr 1000000 0),(2,.ptr 2 0),(3,.ptr 3 0)],[(2,bu),(3,bu),(1000000,[.p (eS f35),.p (eI f36),.p (eI (f37+3)),.p (eI f38),.p (eS (f39++([36,123]:Bytes))),.vec 900000 11 0 (f40.map ae),.p (eB f41)])]⟩) rfl rfl) ?_)
    refine nx 2 rfl (bd h2 λ r49 e50 h2=>?_)
    refine mO rfl (cVq [1000000] [900000] 104000 104001 (gW (af.mk f35 f36 (f37+3) f38 (f39++([36,123]:Bytes)) f40 f41) _ e50) Tryz.call76 rfl ?_)
    exact nx 2 rfl (eX _ (oi h2).symm (aN (bz 104000 106000 rfl rfl rfl rfl rfl) (gE rfl rfl)))
   refine nx 4 rfl (bd h2 λ r51 e52 h2=>?_)
   refine oK (bU (sub f35 f37 (f35.length:Int)) ([36,123]:Bytes) _ e52) rfl ⟨sr,sr,trivial⟩ Tryz.call75 rfl (nx 2 rfl ?_)
   refine fB [45,47] h2 rfl (λ c53 h2=>?_) λ c53 h2=>?_
   ·refine nx 3 rfl (bd h2 λ r54 e55 h2=>?_)
    refine mO rfl (cVq [1000000] [900000] 105000 105001 (ih_expr_template_interpolation_ok (af.mk f35 f36 f37 f38 f39 f40 f41) _ e55) Tryz.call77 rfl ?_)
    exact nx 2 rfl (eX _ (oi h2).symm (aN (bz 105000 106000 rfl rfl rfl rfl rfl) (gE rfl rfl)))
   refine nx 3 rfl (bd h2 λ r56 e57 h2=>?_)
   refine mO rfl (cVq [1000000] [900000] 106000 106001 (ku _ (af.mk f35 f36 f37 f38 f39 f40 f41) _ e57) Tryz.call78 rfl ?_)
   exact nx 2 rfl (eX _ (oi h2).symm (gE rfl rfl))
  exact nx 2 rfl (eXi _ (oi h1).symm (gE rfl rfl))
 ·skip
  intro p_0 r h0
  rw [aB] at h0
  refine bF good [] [1000000] Tryz.func65 rfl rfl rfl rfl rfl λ w0 F=>mPo (λ v:ac×ab=>.p (.agg (ac.cs v.1))) (λ v=>[(1000000,((ab.cs v.2).map .p))]) ?_
  refine nx 7 rfl (bd h0 λ r1 e2 h0=>?_)
  refine mO rfl (cVq [1000000] [] 101000 101000 (ih_expr_parser_binary_ok p_0 0 _ e2) Tryz.call100 rfl ?_)
  refine nx 7 rfl (bd h0 λ r3 e4 h0=>?_)
  refine mO rfl (cVq [1000000] [] 102000 102000 (aU _ r1.2 ([63]:Bytes) _ e4) Tryz.call101 rfl ?_)
  refine nx 2 rfl (fB [10] h0 rfl (λ c5 h0=>?_) λ c5 h0=>?_)
  ·exact nx 7 rfl (fC h0 rfl)
  refine nx 5 rfl (bd h0 λ r6 e7 h0=>?_)
  refine mO rfl (cVq [1000000] [] 103000 103000 (aA _ r3.2 _ e7) Tryz.call102 rfl ?_)
  refine nx 4 rfl (bd h0 λ r8 e9 h0=>?_)
  refine mO rfl (cVq [1000000] [] 104000 104000 (ih_expr_parser_expr_ok r6.2 _ e9) Tryz.call65 rfl ?_)
  refine nx 6 rfl (bd h0 λ r10 e11 h0=>?_)
  refine mO rfl (cVq [1000000] [] 105000 105000 (dO _ r8.2 ([58]:Bytes) _ e11) Tryz.call103 rfl ?_)
  refine nx 4 rfl (bd h0 λ r12 e13 h0=>?_)
  refine mO rfl (cVq [1000000] [] 106000 106000 (ih_expr_parser_expr_ok r10 _ e13) Tryz.call65 rfl ?_)
  refine nx 8 rfl (mO rfl (bh ae [r1.1,r8.1,r12.1] rfl rfl rfl rfl rfl rfl rfl rfl rfl rfl rfl rfl rfl (by first | rfl | (simp only [List.map_cons,List.map_nil,ac.agg_eq]; done) | (simp only [List.map_cons,List.map_nil,ac.agg_eq]; rfl)) ?_))
  exact nx 6 rfl (mQo (oi h0) (al _) rfl rfl rfl rfl (cr ⟨.inl rfl,.inl rfl,.inl rfl,.inl rfl,.inl rfl,.inl rfl,.inl rfl,.inr ⟨rfl,rfl⟩,.inr ⟨rfl,rfl⟩,.inl rfl,.inl rfl,trivial⟩) ⟨⟨_,rfl,⟨sr,sr,sr,sr,sr,sr,sr,trivial⟩⟩,trivial⟩)
 ·skip
  intro t_0 r h0
  rw [bb] at h0
  refine bF good [800000] [1000000] Tryz.func77 rfl rfl rfl rfl rfl λ w0 F=>mPo (λ v:ao×af=>.p (.agg (ao.cs v.1))) (λ v=>[(1000000,[.p (eS v.2.fs),.p (eI v.2.fat),.p (eI v.2.fi),.p (eI v.2.ffrom),.p (eS v.2.ftext),.vec 2000000 11 0 (v.2.fparts.map ae),.p (eB v.2.fopen)])]) ?_
  refine nx 7 rfl (bd h0 λ r1 e2 h0=>?_)
  refine mO rfl (cVq [1000000] [900000] 101000 101001 (gM (af.mk t_0.fs t_0.fat t_0.fi t_0.ffrom t_0.ftext t_0.fparts t_0.fopen) _ e2) Tryz.call40 rfl ?_)
  refine nx 9 rfl (cc' h0 λ hk3 h0=>?_)
  refine bd h0 λ r4 e5 h0=>mD [(0,.ptr 1000000 0),(2,.ptr 2 0)] rfl ⟨rfl,rfl,trivial⟩ rfl (dR 8 rfl ?_)
  refine dq (.p (eI (r1.fi+2))) [18] rfl (λ _ e _ q=>ag rfl (de rfl rfl rfl (e _ _ rfl) rfl rfl hk3 q)) rfl (dq (.p (eI r4)) [14,19] rfl (λ _ e _ q=>ag rfl (bS (nT _ r1.fs (r1.fi+2) _ e5) rfl rfl rfl (az (e _ _ rfl) (az (e _ _ rfl) bc)) ⟨sr,sr,trivial⟩ Tryz.call124 rfl q)) rfl ?_)
  refine dR 1 rfl (dE rfl ?_)
  refine nx 7 rfl (fD [22] h0 rfl (λ c6 h0=>?_) λ c6 h0=>?_)
  ·refine nx 2 rfl (cc' h0 λ hk7 h0=>?_)
   refine mG (gE (t:=⟨[(0,.ptr 1000000 0),(2,.ptr 2 0)],[(2,bu),(1000000,[.p (eS r1.fs),.p (eI r1.fat),.p (eI r1.fi),.p (eI r1.ffrom),.p (eS r1.ftext),.vec 101000 11 0 (r1.fparts.map ae),.p (eB true)])]⟩) rfl rfl) (mSq ⟨1,[10],(λ _=>.none),(λ _=>[(0,.ptr 1000000 0),(2,.ptr 2 0)]),(ob2 ([(2,bu),(1000000,[.p (eS r1.fs),.p (eI r1.fat),.p (eI r1.fi),.p (eI r1.ffrom),.p (eS r1.ftext),.vec 101000 11 0 (r1.fparts.map ae),.p (eB true)])]) (2,[.p (eI 40),.p (eI (r1.fat+r1.fi)),.p (eS ([]:Bytes))]))⟩ rfl ?_)
   refine dPc (.ptr 1000000 0) rfl (dPc (.ptr 1000000 0) rfl ?_)
   refine dPc (.ptr 1000000 1) rfl (dPc (.p (eI r1.fat)) rfl ?_)
   refine dPc (.ptr 1000000 0) rfl (dPc (.ptr 1000000 0) rfl ?_)
   refine dPc (.ptr 1000000 2) rfl (dPc (.p (eI r1.fi)) rfl ?_)
   refine aD (λ _=>.p (eI (r1.fat+r1.fi))) rfl rfl rfl (fF rfl (λ _=>rfl)) (lt1 rfl) (ar rfl (av [(26,_),(30,_)] ⟨.inr ⟨3,_,rfl,rfl,rfl⟩,.inr ⟨7,_,rfl,rfl,rfl⟩,trivial⟩ (λ sl hsl K hK=>ag rfl (de rfl rfl rfl (hsl _ _ rfl) (hsl _ _ rfl) rfl hk7 hK)) aE)) (dPc (.p (.agg [eI 40,eI (r1.fat+r1.fi),eS ([]:Bytes)])) rfl ?_)
   refine dS rfl (cP ?_)
   exact nx 2 rfl (mQo (oi h0) (aN (bz 101000 800000 rfl rfl rfl rfl rfl) (al _)) rfl rfl rfl rfl (sr) ⟨⟨_,rfl,⟨sr,sr,sr,sr,sr,sr,sr,trivial⟩⟩,trivial⟩)
  refine nx 3 rfl (cc' h0 λ hk8 h0=>?_)
  refine cc' h0 λ hk9 h0=>cc' h0 λ hk10 h0=>cc' h0 λ hk11 h0=>bd h0 λ r12 e13 h0=>mG (gE (t:=⟨[(0,.ptr 1000000 0),(2,.ptr 2 0),(3,.p (eI r4))],[(2,bu),(1000000,[.p (eS r1.fs),.p (eI r1.fat),.p (eI r1.fi),.p (eI r1.ffrom),.p (eS r1.ftext),.vec 101000 11 0 (r1.fparts.map ae),.p (eB true)])]⟩) rfl rfl) (mSS ⟨4,[25,26,27,28],(by5 (.some λ i=>Nat.beq i 4) (.some λ i=>Nat.beq i 5) .none .none .none),(λ _=>[(0,.ptr 1000000 0),(2,.ptr 2 0),(3,.p (eI r4))]),(ob5 ([(2,bu),(1000000,[.p (eS r1.fs),.p (eI r1.fat),.p (eI r1.fi),.p (eI r1.ffrom),.p (eS r1.ftext),.vec 101000 11 0 (r1.fparts.map ae),.p (eB true)])]) (4,aH) (5,bu) (4,((ac.cs r12.1).map .p)) (5,((ao.cs r12.2).map .p)))⟩ ⟨4,[26,25,27,28],(by5 (.some λ i=>Nat.beq i 5) (.some λ i=>Nat.beq i 4) .none .none .none),(λ _=>[(0,.ptr 1000000 0),(2,.ptr 2 0),(3,.p (eI r4))]),(ob5 ([(2,bu),(1000000,[.p (eS r1.fs),.p (eI r1.fat),.p (eI r1.fi),.p (eI r1.ffrom),.p (eS r1.ftext),.vec 101000 11 0 (r1.fparts.map ae),.p (eB true)])]) (5,bu) (4,aH) (4,((ac.cs r12.1).map .p)) (5,((ao.cs r12.2).map .p)))⟩ rfl rfl rfl rfl rfl rfl rfl ⟨rfl,rfl,rfl,trivial⟩ rfl (lt4 ⟨rfl,rfl,rfl,trivial⟩ ⟨rfl,rfl,rfl,trivial⟩ ⟨rfl,rfl,rfl,trivial⟩ ⟨rfl,rfl,rfl,trivial⟩) (lt4 ⟨rfl,rfl,rfl,trivial⟩ ⟨rfl,rfl,rfl,trivial⟩ ⟨rfl,rfl,rfl,trivial⟩ ⟨rfl,rfl,rfl,trivial⟩) rfl rfl rfl rfl rfl ?_)
  refine dPc (.ptr 1000000 0) rfl (dPc (.ptr 1000000 0) rfl ?_)
  refine dPc (.ptr 1000000 0) rfl (dPc (.p (eS r1.fs)) rfl ?_)
  refine dPc (.ptr 1000000 0) rfl (dPc (.ptr 1000000 0) rfl ?_)
  refine dPc (.ptr 1000000 2) rfl (dPc (.p (eI r1.fi)) rfl ?_)
  refine aD (λ _=>.p (eI (r1.fi+2))) rfl rfl rfl (pN rfl rfl rfl rfl (λ _=>rfl)) (lt4 rfl rfl rfl rfl) (ar rfl (ar rfl (av [(41,_)] ⟨.inr ⟨7,_,rfl,rfl,rfl⟩,trivial⟩ (λ sl hsl K hK=>ag rfl (de rfl rfl rfl (hsl _ _ rfl) rfl rfl hk8 hK)) (av [(41,_)] ⟨.inr ⟨7,_,rfl,rfl,rfl⟩,trivial⟩ (λ sl hsl K hK=>ag rfl (de rfl rfl rfl (hsl _ _ rfl) rfl rfl hk8 hK)) (av [(41,_)] ⟨.inr ⟨7,_,rfl,rfl,rfl⟩,trivial⟩ (λ sl hsl K hK=>ag rfl (de rfl rfl rfl (hsl _ _ rfl) rfl rfl hk8 hK)) aE))))) (dPc (.p (eI r4)) rfl ?_)
  refine aD (λ _=>.p (eS (sub r1.fs (r1.fi+2) r4))) rfl rfl rfl (pN rfl rfl rfl rfl (λ _=>rfl)) (lt4 rfl rfl rfl rfl) (ar rfl (ar rfl (av [(37,_),(42,_),(43,_)] ⟨.inr ⟨3,_,rfl,rfl,rfl⟩,.inr ⟨8,_,rfl,rfl,rfl⟩,.inr ⟨9,_,rfl,rfl,rfl⟩,trivial⟩ (λ sl hsl K hK=>ag rfl (cF (a:=r1.fs) (l:=r1.fi+2) (h:=r4) rfl rfl rfl rfl rfl (hsl _ _ rfl) (ew (hsl _ _ rfl)) (iD (hsl _ _ rfl)) hk9 hK)) (av [(37,_),(42,_),(43,_)] ⟨.inr ⟨3,_,rfl,rfl,rfl⟩,.inr ⟨8,_,rfl,rfl,rfl⟩,.inr ⟨9,_,rfl,rfl,rfl⟩,trivial⟩ (λ sl hsl K hK=>ag rfl (cF (a:=r1.fs) (l:=r1.fi+2) (h:=r4) rfl rfl rfl rfl rfl (hsl _ _ rfl) (ew (hsl _ _ rfl)) (iD (hsl _ _ rfl)) hk9 hK)) (av [(37,_),(42,_),(43,_)] ⟨.inr ⟨3,_,rfl,rfl,rfl⟩,.inr ⟨8,_,rfl,rfl,rfl⟩,.inr ⟨9,_,rfl,rfl,rfl⟩,trivial⟩ (λ sl hsl K hK=>ag rfl (cF (a:=r1.fs) (l:=r1.fi+2) (h:=r4) rfl rfl rfl rfl rfl (hsl _ _ rfl) (ew (hsl _ _ rfl)) (iD (hsl _ _ rfl)) hk9 hK)) aE))))) (dPc (.ptr 1000000 0) rfl ?_)
  refine dPc (.ptr 1000000 0) rfl (dPc (.ptr 1000000 1) rfl ?_)
  refine dPc (.p (eI r1.fat)) rfl (dPc (.ptr 1000000 0) rfl ?_)
  refine dPc (.ptr 1000000 0) rfl (dPc (.ptr 1000000 2) rfl ?_)
  refine dPc (.p (eI r1.fi)) rfl (aD (λ _=>.p (eI (r1.fat+r1.fi))) rfl rfl rfl (pN rfl rfl rfl rfl (λ _=>rfl)) (lt4 rfl rfl rfl rfl) (ar rfl (ar rfl (av [(48,_),(52,_)] ⟨.inr ⟨14,_,rfl,rfl,rfl⟩,.inr ⟨18,_,rfl,rfl,rfl⟩,trivial⟩ (λ sl hsl K hK=>ag rfl (de rfl rfl rfl (hsl _ _ rfl) (hsl _ _ rfl) rfl hk10 hK)) (av [(48,_),(52,_)] ⟨.inr ⟨14,_,rfl,rfl,rfl⟩,.inr ⟨18,_,rfl,rfl,rfl⟩,trivial⟩ (λ sl hsl K hK=>ag rfl (de rfl rfl rfl (hsl _ _ rfl) (hsl _ _ rfl) rfl hk10 hK)) (av [(48,_),(52,_)] ⟨.inr ⟨14,_,rfl,rfl,rfl⟩,.inr ⟨18,_,rfl,rfl,rfl⟩,trivial⟩ (λ sl hsl K hK=>ag rfl (de rfl rfl rfl (hsl _ _ rfl) (hsl _ _ rfl) rfl hk10 hK)) aE))))) ?_)
  refine aD (λ _=>.p (eI ((r1.fat+r1.fi)+2))) rfl rfl rfl (pN rfl rfl rfl rfl (λ _=>rfl)) (lt4 rfl rfl rfl rfl) (ar rfl (ar rfl (av [(53,_)] ⟨.inr ⟨19,_,rfl,rfl,rfl⟩,trivial⟩ (λ sl hsl K hK=>ag rfl (de rfl rfl rfl (hsl _ _ rfl) rfl rfl hk11 hK)) (av [(53,_)] ⟨.inr ⟨19,_,rfl,rfl,rfl⟩,trivial⟩ (λ sl hsl K hK=>ag rfl (de rfl rfl rfl (hsl _ _ rfl) rfl rfl hk11 hK)) (av [(53,_)] ⟨.inr ⟨19,_,rfl,rfl,rfl⟩,trivial⟩ (λ sl hsl K hK=>ag rfl (de rfl rfl rfl (hsl _ _ rfl) rfl rfl hk11 hK)) aE))))) (aD (λ _=>.tuple [.p (.agg (ac.cs r12.1)),.p (.agg (ao.cs r12.2))]) rfl rfl rfl (pN rfl rfl rfl rfl (λ _=>rfl)) (lt4 rfl rfl rfl rfl) (ar rfl (ar rfl (av [(44,_),(54,_)] ⟨.inr ⟨10,_,rfl,rfl,rfl⟩,.inr ⟨20,_,rfl,rfl,rfl⟩,trivial⟩ (λ sl hsl K hK=>ag rfl (bS (ih_expr_whole_ok (sub r1.fs (r1.fi+2) r4) ((r1.fat+r1.fi)+2) _ e13) rfl rfl rfl (az (hsl _ _ rfl) (az (hsl _ _ rfl) bc)) ⟨sr,sr,trivial⟩ Tryz.call33 rfl hK)) (av [(44,_),(54,_)] ⟨.inr ⟨10,_,rfl,rfl,rfl⟩,.inr ⟨20,_,rfl,rfl,rfl⟩,trivial⟩ (λ sl hsl K hK=>ag rfl (bS (ih_expr_whole_ok (sub r1.fs (r1.fi+2) r4) ((r1.fat+r1.fi)+2) _ e13) rfl rfl rfl (az (hsl _ _ rfl) (az (hsl _ _ rfl) bc)) ⟨sr,sr,trivial⟩ Tryz.call33 rfl hK)) (av [(44,_),(54,_)] ⟨.inr ⟨10,_,rfl,rfl,rfl⟩,.inr ⟨20,_,rfl,rfl,rfl⟩,trivial⟩ (λ sl hsl K hK=>ag rfl (bS (ih_expr_whole_ok (sub r1.fs (r1.fi+2) r4) ((r1.fat+r1.fi)+2) _ e13) rfl rfl rfl (az (hsl _ _ rfl) (az (hsl _ _ rfl) bc)) ⟨sr,sr,trivial⟩ Tryz.call33 rfl hK)) aE))))) ?_)
  refine dPc (.tuple [.p (.agg (ac.cs r12.1)),.p (.agg (ao.cs r12.2))]) rfl (dPc (.p (.agg (ac.cs r12.1))) rfl ?_)
  refine dPc (.p (.agg (ao.cs r12.2))) rfl (dT (λ _=>.ptr 4 0) [] rfl trivial rfl rfl (ji rfl rfl rfl (λ _=>rfl)) (lt4 (λ h=>absurd h (by decide)) (λ _=>rfl) (λ _=>rfl) (λ _=>rfl)) (λ sl hsl K hK=>ag rfl (fM rfl rfl rfl rfl rfl hK)) ?_)
  refine dT (λ _=>.ptr 5 0) [] rfl trivial rfl rfl (l4 rfl rfl (λ _=>rfl)) (lt4 (λ h=>absurd h (by decide)) (λ h=>absurd h (by decide)) (λ _=>rfl) (λ _=>rfl)) (λ sl hsl K hK=>ag rfl (fM rfl rfl rfl rfl rfl hK)) (dS rfl ?_)
  refine dS rfl (ti (dPc (.ptr 1000000 0) rfl (dPc (.ptr 1000000 0) rfl (dPc (.ptr 1000000 0) rfl (dPc (.p (eS r1.fs)) rfl (dPc (.ptr 1000000 0) rfl (dPc (.ptr 1000000 0) rfl (dPc (.ptr 1000000 2) rfl (dPc (.p (eI r1.fi)) rfl (aD (λ _=>.p (eI (r1.fi+2))) rfl rfl rfl (pN rfl rfl rfl rfl (λ _=>rfl)) (lt4 rfl rfl rfl rfl) (ar rfl (ar rfl (av [(41,_)] ⟨.inr ⟨7,_,rfl,rfl,rfl⟩,trivial⟩ (λ sl hsl K hK=>ag rfl (de rfl rfl rfl (hsl _ _ rfl) rfl rfl hk8 hK)) (av [(41,_)] ⟨.inr ⟨7,_,rfl,rfl,rfl⟩,trivial⟩ (λ sl hsl K hK=>ag rfl (de rfl rfl rfl (hsl _ _ rfl) rfl rfl hk8 hK)) (av [(41,_)] ⟨.inr ⟨7,_,rfl,rfl,rfl⟩,trivial⟩ (λ sl hsl K hK=>ag rfl (de rfl rfl rfl (hsl _ _ rfl) rfl rfl hk8 hK)) aE))))) (dPc (.p (eI r4)) rfl (aD (λ _=>.p (eS (sub r1.fs (r1.fi+2) r4))) rfl rfl rfl (pN rfl rfl rfl rfl (λ _=>rfl)) (lt4 rfl rfl rfl rfl) (ar rfl (ar rfl (av [(37,_),(42,_),(43,_)] ⟨.inr ⟨3,_,rfl,rfl,rfl⟩,.inr ⟨8,_,rfl,rfl,rfl⟩,.inr ⟨9,_,rfl,rfl,rfl⟩,trivial⟩ (λ sl hsl K hK=>ag rfl (cF (a:=r1.fs) (l:=r1.fi+2) (h:=r4) rfl rfl rfl rfl rfl (hsl _ _ rfl) (ew (hsl _ _ rfl)) (iD (hsl _ _ rfl)) hk9 hK)) (av [(37,_),(42,_),(43,_)] ⟨.inr ⟨3,_,rfl,rfl,rfl⟩,.inr ⟨8,_,rfl,rfl,rfl⟩,.inr ⟨9,_,rfl,rfl,rfl⟩,trivial⟩ (λ sl hsl K hK=>ag rfl (cF (a:=r1.fs) (l:=r1.fi+2) (h:=r4) rfl rfl rfl rfl rfl (hsl _ _ rfl) (ew (hsl _ _ rfl)) (iD (hsl _ _ rfl)) hk9 hK)) (av [(37,_),(42,_),(43,_)] ⟨.inr ⟨3,_,rfl,rfl,rfl⟩,.inr ⟨8,_,rfl,rfl,rfl⟩,.inr ⟨9,_,rfl,rfl,rfl⟩,trivial⟩ (λ sl hsl K hK=>ag rfl (cF (a:=r1.fs) (l:=r1.fi+2) (h:=r4) rfl rfl rfl rfl rfl (hsl _ _ rfl) (ew (hsl _ _ rfl)) (iD (hsl _ _ rfl)) hk9 hK)) aE))))) (dPc (.ptr 1000000 0) rfl (dPc (.ptr 1000000 0) rfl (dPc (.ptr 1000000 1) rfl (dPc (.p (eI r1.fat)) rfl (dPc (.ptr 1000000 0) rfl (dPc (.ptr 1000000 0) rfl (dPc (.ptr 1000000 2) rfl (dPc (.p (eI r1.fi)) rfl (aD (λ _=>.p (eI (r1.fat+r1.fi))) rfl rfl rfl (pN rfl rfl rfl rfl (λ _=>rfl)) (lt4 rfl rfl rfl rfl) (ar rfl (ar rfl (av [(48,_),(52,_)] ⟨.inr ⟨14,_,rfl,rfl,rfl⟩,.inr ⟨18,_,rfl,rfl,rfl⟩,trivial⟩ (λ sl hsl K hK=>ag rfl (de rfl rfl rfl (hsl _ _ rfl) (hsl _ _ rfl) rfl hk10 hK)) (av [(48,_),(52,_)] ⟨.inr ⟨14,_,rfl,rfl,rfl⟩,.inr ⟨18,_,rfl,rfl,rfl⟩,trivial⟩ (λ sl hsl K hK=>ag rfl (de rfl rfl rfl (hsl _ _ rfl) (hsl _ _ rfl) rfl hk10 hK)) (av [(48,_),(52,_)] ⟨.inr ⟨14,_,rfl,rfl,rfl⟩,.inr ⟨18,_,rfl,rfl,rfl⟩,trivial⟩ (λ sl hsl K hK=>ag rfl (de rfl rfl rfl (hsl _ _ rfl) (hsl _ _ rfl) rfl hk10 hK)) aE))))) (aD (λ _=>.p (eI ((r1.fat+r1.fi)+2))) rfl rfl rfl (pN rfl rfl rfl rfl (λ _=>rfl)) (lt4 rfl rfl rfl rfl) (ar rfl (ar rfl (av [(53,_)] ⟨.inr ⟨19,_,rfl,rfl,rfl⟩,trivial⟩ (λ sl hsl K hK=>ag rfl (de rfl rfl rfl (hsl _ _ rfl) rfl rfl hk11 hK)) (av [(53,_)] ⟨.inr ⟨19,_,rfl,rfl,rfl⟩,trivial⟩ (λ sl hsl K hK=>ag rfl (de rfl rfl rfl (hsl _ _ rfl) rfl rfl hk11 hK)) (av [(53,_)] ⟨.inr ⟨19,_,rfl,rfl,rfl⟩,trivial⟩ (λ sl hsl K hK=>ag rfl (de rfl rfl rfl (hsl _ _ rfl) rfl rfl hk11 hK)) aE))))) (aD (λ _=>.tuple [.p (.agg (ac.cs r12.1)),.p (.agg (ao.cs r12.2))]) rfl rfl rfl (pN rfl rfl rfl rfl (λ _=>rfl)) (lt4 rfl rfl rfl rfl) (ar rfl (ar rfl (av [(44,_),(54,_)] ⟨.inr ⟨10,_,rfl,rfl,rfl⟩,.inr ⟨20,_,rfl,rfl,rfl⟩,trivial⟩ (λ sl hsl K hK=>ag rfl (bS (ih_expr_whole_ok (sub r1.fs (r1.fi+2) r4) ((r1.fat+r1.fi)+2) _ e13) rfl rfl rfl (az (hsl _ _ rfl) (az (hsl _ _ rfl) bc)) ⟨sr,sr,trivial⟩ Tryz.call33 rfl hK)) (av [(44,_),(54,_)] ⟨.inr ⟨10,_,rfl,rfl,rfl⟩,.inr ⟨20,_,rfl,rfl,rfl⟩,trivial⟩ (λ sl hsl K hK=>ag rfl (bS (ih_expr_whole_ok (sub r1.fs (r1.fi+2) r4) ((r1.fat+r1.fi)+2) _ e13) rfl rfl rfl (az (hsl _ _ rfl) (az (hsl _ _ rfl) bc)) ⟨sr,sr,trivial⟩ Tryz.call33 rfl hK)) (av [(44,_),(54,_)] ⟨.inr ⟨10,_,rfl,rfl,rfl⟩,.inr ⟨20,_,rfl,rfl,rfl⟩,trivial⟩ (λ sl hsl K hK=>ag rfl (bS (ih_expr_whole_ok (sub r1.fs (r1.fi+2) r4) ((r1.fat+r1.fi)+2) _ e13) rfl rfl rfl (az (hsl _ _ rfl) (az (hsl _ _ rfl) bc)) ⟨sr,sr,trivial⟩ Tryz.call33 rfl hK)) aE))))) (dPc (.tuple [.p (.agg (ac.cs r12.1)),.p (.agg (ao.cs r12.2))]) rfl (dPc (.p (.agg (ac.cs r12.1))) rfl (dPc (.p (.agg (ao.cs r12.2))) rfl (dT (λ _=>.ptr 4 0) [] rfl trivial rfl rfl (l4 rfl rfl (λ _=>rfl)) (lt4 (λ h=>absurd h (by decide)) (λ h=>absurd h (by decide)) (λ _=>rfl) (λ _=>rfl)) (λ sl hsl K hK=>ag rfl (fM rfl rfl rfl rfl rfl hK)) (dT (λ _=>.ptr 5 0) [] rfl trivial rfl rfl (ji rfl rfl rfl (λ _=>rfl)) (lt4 (λ h=>absurd h (by decide)) (λ _=>rfl) (λ _=>rfl) (λ _=>rfl)) (λ sl hsl K hK=>ag rfl (fM rfl rfl rfl rfl rfl hK)) (dS rfl (dS rfl (xr rfl ⟨rfl,rfl,rfl,rfl,rfl,rfl,trivial⟩ ⟨⟨rfl,rfl,.inl rfl⟩,⟨⟨rfl,rfl,.inl rfl⟩,⟨⟨rfl,rfl,.inr rfl⟩,⟨⟨rfl,rfl,.inr rfl⟩,⟨⟨rfl,rfl,.inr rfl⟩,⟨⟨rfl,rfl,.inr rfl⟩,⟨⟨rfl,rfl,.inr rfl⟩,⟨⟨rfl,rfl,.inr rfl⟩,⟨⟨rfl,rfl,.inr rfl⟩,⟨⟨rfl,rfl,.inr rfl⟩,⟨⟨rfl,rfl,.inr rfl⟩,⟨⟨rfl,rfl,.inr rfl⟩,⟨⟨rfl,rfl,.inr rfl⟩,⟨⟨rfl,rfl,.inr rfl⟩,⟨⟨rfl,rfl,.inr rfl⟩,⟨⟨rfl,rfl,.inr rfl⟩,⟨⟨rfl,rfl,.inr rfl⟩,⟨⟨rfl,rfl,.inr rfl⟩,⟨⟨rfl,rfl,.inr rfl⟩,⟨⟨rfl,rfl,.inr rfl⟩,⟨⟨rfl,rfl,.inr rfl⟩,⟨⟨rfl,rfl,.inr rfl⟩,⟨⟨rfl,rfl,.inr rfl⟩,⟨⟨rfl,rfl,.inr rfl⟩,⟨⟨rfl,rfl,.inr rfl⟩,⟨⟨rfl,rfl,.inr rfl⟩,⟨⟨rfl,rfl,.inr rfl⟩,trivial⟩⟩⟩⟩⟩⟩⟩⟩⟩⟩⟩⟩⟩⟩⟩⟩⟩⟩⟩⟩⟩⟩⟩⟩⟩⟩⟩)))))))))))))))))))))))))))))) ?_)
  refine nx 1 rfl (mG (gE (t:=⟨[(0,.ptr 1000000 0),(2,.ptr 2 0),(3,.p (eI r4)),(4,.ptr 4 0),(5,.ptr 5 0)],[(2,bu),(4,(ac.cs r12.1).map .p),(5,(ao.cs r12.2).map .p),(1000000,[.p (eS r1.fs),.p (eI r1.fat),.p (eI r1.fi),.p (eI r1.ffrom),.p (eS r1.ftext),.vec 101000 11 0 (r1.fparts.map ae),.p (eB true)])]⟩) rfl rfl) ?_)
  refine nx 7 rfl (fN [60] h0 rfl (λ c14 h0=>?_) λ c14 h0=>?_)
  ·refine nx 3 rfl (cc' h0 λ hk15 h0=>?_)
   refine mG (gE (t:=⟨[(0,.ptr 1000000 0),(2,.ptr 2 0),(3,.p (eI r4)),(4,.ptr 4 0)],[(2,bu),(4,(ac.cs r12.1).map .p),(1000000,[.p (eS r1.fs),.p (eI r1.fat),.p (eI r1.fi),.p (eI r1.ffrom),.p (eS r1.ftext),.vec 101000 11 0 (r1.fparts.map ae),.p (eB true)])]⟩) rfl rfl) (mSP ⟨3,[7,9,12],(by4 (.some λ i=>Nat.beq i 101000||Nat.beq i 69) (.fn (upP 69 11 (.agg (ac.cs r12.1)))) .none .none),(λ _=>[(0,.ptr 1000000 0),(2,.ptr 2 0),(3,.p (eI r4)),(4,.ptr 4 0)]),(by4 ([(2,bu),(4,((ac.cs r12.1).map .p)),(1000000,[.p (eS r1.fs),.p (eI r1.fat),.p (eI r1.fi),.p (eI r1.ffrom),.p (eS r1.ftext),.vec 101000 11 0 (r1.fparts.map ae),.p (eB true)])]) ([(2,bu),(4,((ac.cs r12.1).map .p)),(1000000,[.p (eS r1.fs),.p (eI r1.fat),.p (eI r1.fi),.p (eI r1.ffrom),.p (eS r1.ftext),.p (eL ae r1.fparts),.p (eB true)])]) ([(2,bu),(4,((ac.cs r12.1).map .p)),(1000000,[.p (eS r1.fs),.p (eI r1.fat),.p (eI r1.fi),.p (eI r1.ffrom),.p (eS r1.ftext),.p (eL ae r1.fparts),.p (eB true)])]) ([(1000000,[.p (eS r1.fs),.p (eI r1.fat),.p (eI r1.fi),.p (eI r1.ffrom),.p (eS r1.ftext),.vec 69 11 0 (r1.fparts.map ae++[.agg (ac.cs r12.1)]),.p (eB true)]),(2,bu),(4,((ac.cs r12.1).map .p)),(1000000,[.p (eS r1.fs),.p (eI r1.fat),.p (eI r1.fi),.p (eI r1.ffrom),.p (eS r1.ftext),.p (eL ae r1.fparts),.p (eB true)])]))⟩ ⟨3,[7,12,9],(by4 (.some λ i=>Nat.beq i 101000||Nat.beq i 69) .none (.fn (upP 69 11 (.agg (ac.cs r12.1)))) .none),(λ _=>[(0,.ptr 1000000 0),(2,.ptr 2 0),(3,.p (eI r4)),(4,.ptr 4 0)]),(by4 ([(2,bu),(4,((ac.cs r12.1).map .p)),(1000000,[.p (eS r1.fs),.p (eI r1.fat),.p (eI r1.fi),.p (eI r1.ffrom),.p (eS r1.ftext),.vec 101000 11 0 (r1.fparts.map ae),.p (eB true)])]) ([(2,bu),(4,((ac.cs r12.1).map .p)),(1000000,[.p (eS r1.fs),.p (eI r1.fat),.p (eI r1.fi),.p (eI r1.ffrom),.p (eS r1.ftext),.p (eL ae r1.fparts),.p (eB true)])]) ([(1000000,[.p (eS r1.fs),.p (eI r1.fat),.p (eI r1.fi),.p (eI r1.ffrom),.p (eS r1.ftext),.vecp 69 11 0 (r1.fparts.map ae),.p (eB true)]),(2,bu),(4,((ac.cs r12.1).map .p)),(1000000,[.p (eS r1.fs),.p (eI r1.fat),.p (eI r1.fi),.p (eI r1.ffrom),.p (eS r1.ftext),.p (eL ae r1.fparts),.p (eB true)])]) ([(1000000,[.p (eS r1.fs),.p (eI r1.fat),.p (eI r1.fi),.p (eI r1.ffrom),.p (eS r1.ftext),.vec 69 11 0 (r1.fparts.map ae++[.agg (ac.cs r12.1)]),.p (eB true)]),(2,bu),(4,((ac.cs r12.1).map .p)),(1000000,[.p (eS r1.fs),.p (eI r1.fat),.p (eI r1.fi),.p (eI r1.ffrom),.p (eS r1.ftext),.p (eL ae r1.fparts),.p (eB true)])]))⟩ rfl rfl rfl rfl rfl rfl rfl ⟨rfl,rfl,rfl,rfl,trivial⟩ rfl (lt3 ⟨rfl,rfl,rfl,rfl,trivial⟩ ⟨rfl,rfl,rfl,rfl,trivial⟩ ⟨rfl,rfl,rfl,rfl,trivial⟩) (lt3 ⟨rfl,rfl,rfl,rfl,trivial⟩ ⟨rfl,rfl,rfl,rfl,trivial⟩ ⟨rfl,rfl,rfl,rfl,trivial⟩) rfl rfl rfl rfl rfl ?_)
   refine dPc (.ptr 1000000 0) rfl (dPc (.ptr 1000000 0) rfl ?_)
   refine dPc (.ptr 1000000 5) rfl (dP (by4 (.vec 101000 11 0 (r1.fparts.map ae)) (.p (eL ae r1.fparts)) (.p (eL ae r1.fparts)) (.p (eL ae r1.fparts))) rfl ?_)
   refine dPc (.p (.agg (ac.cs r12.1))) rfl (aD (λ _=>.p (eI (r1.fparts.length:Int))) rfl rfl rfl (ji rfl rfl rfl (λ _=>rfl)) (lt3 rfl rfl rfl) (ar rfl (ar rfl (ar rfl (av [(65,_)] ⟨.inr ⟨3,_,rfl,rfl,rfl⟩,trivial⟩ (λ sl hsl K hK=>ag rfl (md (f:=ae) (l:=r1.fparts) rfl rfl rfl rfl rfl (hsl _ _ rfl) rfl hK)) aE)))) ?_)
   refine aD (λ _=>.p (eL (λ x:PV=>x) [.agg jQ])) rfl rfl rfl (ji rfl rfl rfl (λ _=>rfl)) (lt3 rfl rfl rfl) (ar rfl (ar rfl (ar rfl (av [] trivial (λ sl hsl K hK=>ag rfl (bh (λ x:PV=>x) [.agg jQ] rfl rfl rfl rfl rfl rfl (d7 rfl rfl fw) rfl rfl rfl rfl rfl rfl rfl hK)) aE)))) (dT (by4 (.vecp 69 11 0 (r1.fparts.map ae)) (.vecp 69 11 0 (r1.fparts.map ae)) (.vec 69 11 0 (r1.fparts.map ae++[.agg (ac.cs r12.1)])) (.vec 69 11 0 (r1.fparts.map ae++[.agg (ac.cs r12.1)]))) [(65,_),(68,_)] rfl ⟨.inr ⟨3,_,rfl,rfl,rfl⟩,.inr ⟨6,_,rfl,rfl,rfl⟩,trivial⟩ rfl rfl (l4 rfl rfl (λ _=>rfl)) (lt3 (λ h=>absurd h (by decide)) (λ _=>rfl) (λ _=>rfl)) (λ sl hsl K hK=>ag rfl (mw ae r1.fparts rfl rfl rfl rfl rfl rfl rfl rfl (hsl _ _ rfl) rfl rfl (hsl _ _ rfl) rfl rfl rfl rfl rfl hk15 hK)) ?_)
   refine mr (by4 (.elp 69 11) (.elp 69 11) .undef .undef) rfl rfl rfl (ji rfl rfl rfl (λ _=>rfl)) (lt3 (nl rfl) (λ _=>rfl) (λ _=>rfl)) (ar rfl (ar rfl (av [(67,_),(69,_)] ⟨.inr ⟨5,_,rfl,rfl,rfl⟩,.inr ⟨7,_,rfl,rfl,rfl⟩,trivial⟩ (λ sl hsl K hK=>ag rfl (lm rfl rfl rfl rfl rfl rfl rfl (hsl _ _ rfl) (hsl _ _ rfl) (by rw [List.length_map]) hK)) (ar rfl aE)))) (ik [(66,_),(70,_)] rfl ⟨.inr ⟨4,_,rfl,rfl,rfl⟩,.inr ⟨8,_,rfl,rfl,rfl⟩,trivial⟩ rfl (λ sl hsl K hK=>ag rfl (qO (z:=.agg (ac.cs r12.1)) rfl rfl rfl rfl (hsl _ _ rfl) (hsl _ _ rfl) rfl rfl rfl rfl rfl hK)) ?_)
   refine dPc (.ptr 1000000 0) rfl (dPc (.ptr 1000000 5) rfl ?_)
   refine dS rfl (ti (dPc (.ptr 1000000 0) rfl (dPc (.ptr 1000000 0) rfl (dPc (.ptr 1000000 5) rfl (dP (by4 (.vec 101000 11 0 (r1.fparts.map ae)) (.p (eL ae r1.fparts)) (.p (eL ae r1.fparts)) (.p (eL ae r1.fparts))) rfl (dPc (.p (.agg (ac.cs r12.1))) rfl (aD (λ _=>.p (eI (r1.fparts.length:Int))) rfl rfl rfl (ji rfl rfl rfl (λ _=>rfl)) (lt3 rfl rfl rfl) (ar rfl (ar rfl (ar rfl (av [(65,_)] ⟨.inr ⟨3,_,rfl,rfl,rfl⟩,trivial⟩ (λ sl hsl K hK=>ag rfl (md (f:=ae) (l:=r1.fparts) rfl rfl rfl rfl rfl (hsl _ _ rfl) rfl hK)) aE)))) (aD (λ _=>.p (eL (λ x:PV=>x) [.agg jQ])) rfl rfl rfl (ji rfl rfl rfl (λ _=>rfl)) (lt3 rfl rfl rfl) (ar rfl (ar rfl (ar rfl (av [] trivial (λ sl hsl K hK=>ag rfl (bh (λ x:PV=>x) [.agg jQ] rfl rfl rfl rfl rfl rfl (d7 rfl rfl fw) rfl rfl rfl rfl rfl rfl rfl hK)) aE)))) (dT (by4 (.vecp 69 11 0 (r1.fparts.map ae)) (.vecp 69 11 0 (r1.fparts.map ae)) (.vecp 69 11 0 (r1.fparts.map ae)) (.vec 69 11 0 (r1.fparts.map ae++[.agg (ac.cs r12.1)]))) [(65,_),(68,_)] rfl ⟨.inr ⟨3,_,rfl,rfl,rfl⟩,.inr ⟨6,_,rfl,rfl,rfl⟩,trivial⟩ rfl rfl (l4 rfl rfl (λ _=>rfl)) (lt3 (λ h=>absurd h (by decide)) (λ _=>rfl) (λ _=>rfl)) (λ sl hsl K hK=>ag rfl (mw ae r1.fparts rfl rfl rfl rfl rfl rfl rfl rfl (hsl _ _ rfl) rfl rfl (hsl _ _ rfl) rfl rfl rfl rfl rfl hk15 hK)) (mr (by4 (.elp 69 11) (.elp 69 11) (.elp 69 11) .undef) rfl rfl rfl (ji rfl rfl rfl (λ _=>rfl)) (lt3 (nl rfl) (λ _=>rfl) (λ _=>rfl)) (ar rfl (av [(67,_),(69,_)] ⟨.inr ⟨5,_,rfl,rfl,rfl⟩,.inr ⟨7,_,rfl,rfl,rfl⟩,trivial⟩ (λ sl hsl K hK=>ag rfl (lm rfl rfl rfl rfl rfl rfl rfl (hsl _ _ rfl) (hsl _ _ rfl) (by rw [List.length_map]) hK)) (av [(67,_),(69,_)] ⟨.inr ⟨5,_,rfl,rfl,rfl⟩,.inr ⟨7,_,rfl,rfl,rfl⟩,trivial⟩ (λ sl hsl K hK=>ag rfl (lm rfl rfl rfl rfl rfl rfl rfl (hsl _ _ rfl) (hsl _ _ rfl) (by rw [List.length_map]) hK)) (ar rfl aE)))) (ik [(66,_),(70,_)] rfl ⟨.inr ⟨4,_,rfl,rfl,rfl⟩,.inr ⟨8,_,rfl,rfl,rfl⟩,trivial⟩ rfl (λ sl hsl K hK=>ag rfl (qO (z:=.agg (ac.cs r12.1)) rfl rfl rfl rfl (hsl _ _ rfl) (hsl _ _ rfl) rfl rfl rfl rfl rfl hK)) (dPc (.ptr 1000000 0) rfl (dPc (.ptr 1000000 5) rfl (dS rfl (tG rfl ⟨rfl,rfl,rfl,rfl,trivial⟩ ⟨⟨rfl,rfl,.inr rfl⟩,⟨⟨rfl,rfl,.inr rfl⟩,⟨⟨rfl,rfl,.inr rfl⟩,⟨⟨rfl,rfl,.inr rfl⟩,⟨⟨rfl,rfl,.inr rfl⟩,⟨⟨rfl,rfl,.inr rfl⟩,⟨⟨rfl,rfl,.inr rfl⟩,⟨⟨rfl,rfl,.inr rfl⟩,⟨⟨rfl,rfl,.inr rfl⟩,⟨⟨rfl,rfl,.inr rfl⟩,⟨⟨rfl,rfl,.inr rfl⟩,trivial⟩⟩⟩⟩⟩⟩⟩⟩⟩⟩⟩)))))))))))))) ?_)
   refine mG (fm (t:=⟨[(0,.ptr 1000000 0),(2,.ptr 2 0),(3,.p (eI r4))],[(2,bu),(1000000,[.p (eS r1.fs),.p (eI r1.fat),.p (eI r1.fi),.p (eI r1.ffrom),.p (eS r1.ftext),.vec 69 11 0 ((r1.fparts++[r12.1]).map ae),.p (eB true)])]⟩) (mb ⟨er rfl,er rfl,er rfl,trivial⟩ ⟨⟨_,rfl,⟨sr,sr,sr,trivial⟩⟩,⟨_,rfl,⟨sr,sr,sr,sr,sr,AV.sub_of_eq (by first | (simp only [List.map_append,List.map_cons,List.map_nil,ac.agg_eq]; done) | (simp only [List.map_append,List.map_cons,List.map_nil,ac.agg_eq]; rfl)),sr,trivial⟩⟩,trivial⟩)) (nx 5 rfl ?_)
   exact oA h0 rfl rfl λ hk16 h0=>nx 21 rfl (mQo (oi h0) (aN (bz 69 800000 rfl rfl rfl rfl rfl) (al _)) rfl rfl rfl rfl (sr) ⟨⟨_,rfl,⟨sr,sr,sr,sr,sr,sr,sr,trivial⟩⟩,trivial⟩)
  exact nx 7 rfl (mQo (oi h0) (aN (bz 101000 800000 rfl rfl rfl rfl rfl) (al _)) rfl rfl rfl rfl (sr) ⟨⟨_,rfl,⟨sr,sr,sr,sr,sr,sr,sr,trivial⟩⟩,trivial⟩)
 ·skip
  intro p_0 level_1 r h0
  rw [bH] at h0
  refine bF good [] [1000000] Tryz.func100 rfl rfl rfl rfl rfl λ w0 F=>mPo (λ v:ac×ab=>.p (.agg (ac.cs v.1))) (λ v=>[(1000000,((ab.cs v.2).map .p))]) ?_
  refine nx 10 rfl (fD [10] h0 rfl (λ c1 h0=>?_) λ c1 h0=>?_)
  ·refine nx 4 rfl (bd h0 λ r2 e3 h0=>?_)
   refine mO rfl (cVq [1000000] [] 101000 101000 (ih_expr_parser_unary_ok p_0 _ e3) Tryz.call139 rfl ?_)
   exact nx 3 rfl (fC h0 rfl)
  refine nx 6 rfl (oA h0 rfl rfl λ hk4 h0=>?_)
  refine bd h0 λ r5 e6 h0=>mO rfl (cVq [1000000] [] 102000 102000 (ih_expr_parser_binary_ok p_0 (level_1+1) _ e6) Tryz.call100 rfl ?_)
  refine nx 4 rfl ?_
  obtain ⟨o90,h1,hL0,hR0⟩:=cz h0
  refine kEx 0 (λ v91:(List ai)×Int×Int×Int×Int×Int×Bytes=>o90=.inl v91) (λ v91=>⟨[],[(1000000,[.p (eL aR v91.1),.p (eI v91.2.1),.p (eI v91.2.2.1),.p (eI v91.2.2.2.1),.p (eI v91.2.2.2.2.1),.p (eI v91.2.2.2.2.2.1),.p (eS v91.2.2.2.2.2.2)])]⟩) (λ v91 hv=>?_) ?_
  ·have h0:=hL0 _ hv
   refine nx 1 rfl ?_
   cases h0
  refine lG (λ (q92:Int×Int×Bytes×Bytes×Int×Int×Bytes×(List ad)×(List Bytes)×(List ac)×(List ai)×Int×Int×Int×Int×Int×Bytes)=>⟨[(0,.ptr 1000000 0),(1,.p (eI level_1)),(4,.ptr 4 0),(5,.ptr 5 0)],[(4,aH),(5,[.p (eI q92.1),.p (eI q92.2.1),.p (eS q92.2.2.1),.p (eS q92.2.2.2.1),.p (eI q92.2.2.2.2.1),.p (eI q92.2.2.2.2.2.1),.p (eS q92.2.2.2.2.2.2.1),.p (eL cU q92.2.2.2.2.2.2.2.1),.p (eL eS q92.2.2.2.2.2.2.2.2.1),.p (eL ae q92.2.2.2.2.2.2.2.2.2.1),.p (eI r5.1.fAt)]),(1000000,[.p (eL aR q92.2.2.2.2.2.2.2.2.2.2.1),.p (eI q92.2.2.2.2.2.2.2.2.2.2.2.1),.p (eI q92.2.2.2.2.2.2.2.2.2.2.2.2.1),.p (eI q92.2.2.2.2.2.2.2.2.2.2.2.2.2.1),.p (eI q92.2.2.2.2.2.2.2.2.2.2.2.2.2.2.1),.p (eI q92.2.2.2.2.2.2.2.2.2.2.2.2.2.2.2.1),.p (eS q92.2.2.2.2.2.2.2.2.2.2.2.2.2.2.2.2)])]⟩) (λ m (q92:Int×Int×Bytes×Bytes×Int×Int×Bytes×(List ad)×(List Bytes)×(List ac)×(List ai)×Int×Int×Int×Int×Int×Bytes)=>bM n (bH n) level_1 r5 m q92.1 q92.2.1 q92.2.2.1 q92.2.2.2.1 q92.2.2.2.2.1 q92.2.2.2.2.2.1 q92.2.2.2.2.2.2.1 q92.2.2.2.2.2.2.2.1 q92.2.2.2.2.2.2.2.2.1 q92.2.2.2.2.2.2.2.2.2.1 q92.2.2.2.2.2.2.2.2.2.2.1 q92.2.2.2.2.2.2.2.2.2.2.2.1 q92.2.2.2.2.2.2.2.2.2.2.2.2.1 q92.2.2.2.2.2.2.2.2.2.2.2.2.2.1 q92.2.2.2.2.2.2.2.2.2.2.2.2.2.2.1 q92.2.2.2.2.2.2.2.2.2.2.2.2.2.2.2.1 q92.2.2.2.2.2.2.2.2.2.2.2.2.2.2.2.2) (λ _=>rfl) (r5.1.fKind,r5.1.fOp,r5.1.fName,r5.1.fKey,r5.1.fValue.fKind,r5.1.fValue.fNum,r5.1.fValue.fStr,r5.1.fValue.fItems,r5.1.fValue.fKeys,r5.1.fKids,r5.2.fl,r5.2.fat,r5.2.fnest,r5.2.fbase,r5.2.fbad.fKind,r5.2.fbad.fAt,r5.2.fbad.fName) h1 (gE rfl rfl) ?_
  rintro m ⟨f36,f37,f38,f39,f40,f41,f42,f43,f44,f45,f46,f47,f48,f49,f50,f51,f52⟩ h1
  replace h1:bM n (bH n) level_1 r5 (m+1) f36 f37 f38 f39 f40 f41 f42 f43 f44 f45 f46 f47 f48 f49 f50 f51 f52=some o90:=h1
  rw [bM] at h1
  refine nx 5 rfl (bd h1 λ r53 e54 h1=>?_)
  refine oK (mz level_1 _ e54) rfl ⟨sr,trivial⟩ Tryz.call141 rfl (bd h1 λ r55 e56 h1=>?_)
  refine mO rfl (cVq [1000000] [] 106000 106000 (kG _ (ab.mk f46 f47 f48 f49 (ao.mk f50 f51 f52)) r53 _ e56) Tryz.call140 rfl ?_)
  refine nx 12 rfl (fB [25] h1 rfl (λ c57 h1=>?_) λ c57 h1=>?_)
  ·exact nx 7 rfl (mQo (hR0 _ (oi h1).symm) (al _) rfl rfl rfl rfl (sr) ⟨⟨_,rfl,⟨sr,sr,sr,sr,sr,sr,sr,trivial⟩⟩,trivial⟩)
  refine nx 5 rfl (bd h1 λ r58 e59 h1=>?_)
  refine mO rfl (cVq [1000000] [] 107000 107000 (aA _ r55.2.2 _ e59) Tryz.call102 rfl ?_)
  refine nx 5 rfl (oA h1 rfl rfl λ hk60 h1=>?_)
  refine bd h1 λ r61 e62 h1=>mO rfl (cVq [1000000] [] 108000 108000 (ih_expr_parser_binary_ok r58.2 (level_1+1) _ e62) Tryz.call100 rfl ?_)
  refine nx 3 rfl (bd h1 λ r63 e64 h1=>?_)
  refine mG (gE (t:=⟨[(0,.ptr 1000000 0),(1,.p (eI level_1)),(4,.ptr 4 0),(5,.ptr 5 0),(6,.p (eS r55.1)),(8,.ptr 8 0)],[(4,aH),(5,[.p (eI f36),.p (eI f37),.p (eS f38),.p (eS f39),.p (eI f40),.p (eI f41),.p (eS f42),.p (eL cU f43),.p (eL eS f44),.p (eL ae f45),.p (eI r5.1.fAt)]),(8,(ac.cs r61.1).map .p),(1000000,(ab.cs r61.2).map .p)]⟩) rfl rfl) (mSq ⟨1,[8],(λ _=>.none),(λ _=>[(0,.ptr 1000000 0),(1,.p (eI level_1)),(4,.ptr 4 0),(5,.ptr 5 0),(6,.p (eS r55.1)),(8,.ptr 8 0)]),(ob2 ([(4,aH),(5,[.p (eI f36),.p (eI f37),.p (eS f38),.p (eS f39),.p (eI f40),.p (eI f41),.p (eS f42),.p (eL cU f43),.p (eL eS f44),.p (eL ae f45),.p (eI r5.1.fAt)]),(8,((ac.cs r61.1).map .p)),(1000000,((ab.cs r61.2).map .p))]) (5,[.p (eI 7),.p (eI r63),.p (eS ([]:Bytes)),.p (eS ([]:Bytes)),.p (eI 0),.p (eI 0),.p (eS ([]:Bytes)),.p (.val (.slice none 0 0)),.p (.val (.slice none 0 0)),.p (eL ae [(ac.mk f36 f37 f38 f39 (ad.mk f40 f41 f42 f43 f44) f45 r5.1.fAt),r61.1]),.p (eI r5.1.fAt)]))⟩ rfl ?_)
  refine dPc (.p (eS r55.1)) rfl (aD (λ _=>.p (eI r63)) rfl rfl rfl (fF rfl (λ _=>rfl)) (lt1 rfl) (ar rfl (av [(33,_)] ⟨.inr ⟨0,_,rfl,rfl,rfl⟩,trivial⟩ (λ sl hsl K hK=>ag rfl (bS (sw _ r55.1 _ e64) rfl rfl rfl (az (hsl _ _ rfl) bc) ⟨sr,trivial⟩ Tryz.call142 rfl hK)) aE)) ?_)
  refine dPc (.p (.agg [eI f36,eI f37,eS f38,eS f39,eI f40,eI f41,eS f42,eL cU f43,eL eS f44,eL ae f45,eI r5.1.fAt])) rfl (dPc (.p (.agg (ac.cs r61.1))) rfl ?_)
  refine aD (λ _=>.p (eL ae [(ac.mk f36 f37 f38 f39 (ad.mk f40 f41 f42 f43 f44) f45 r5.1.fAt),r61.1])) rfl rfl rfl (fF rfl (λ _=>rfl)) (lt1 rfl) (ar rfl (av [(35,_),(36,_)] ⟨.inr ⟨2,_,rfl,rfl,rfl⟩,.inr ⟨3,_,rfl,rfl,rfl⟩,trivial⟩ (λ sl hsl K hK=>ag rfl (bh ae [(ac.mk f36 f37 f38 f39 (ad.mk f40 f41 f42 f43 f44) f45 r5.1.fAt),r61.1] rfl rfl rfl rfl rfl rfl (d7 (hsl _ _ rfl) rfl (d7 (hsl _ _ rfl) rfl fw)) rfl rfl rfl rfl rfl rfl (by first | rfl | (simp only [List.map_cons,List.map_nil,ac.agg_eq]; done) | (simp only [List.map_cons,List.map_nil,ac.agg_eq]; rfl)) hK)) aE)) (dPc (.ptr 5 10) rfl ?_)
  refine dPc (.p (eI r5.1.fAt)) rfl (dPc (.p (.agg [eI 7,eI r63,eS ([]:Bytes),eS ([]:Bytes),eI 0,eI 0,eS ([]:Bytes),.val (.slice none 0 0),.val (.slice none 0 0),eL ae [(ac.mk f36 f37 f38 f39 (ad.mk f40 f41 f42 f43 f44) f45 r5.1.fAt),r61.1],eI r5.1.fAt])) rfl ?_)
  refine dS rfl (cP ?_)
  exact nx 1 rfl (eX (7,r63,([]:Bytes),([]:Bytes),0,0,([]:Bytes),[],[],[(ac.mk f36 f37 f38 f39 (ad.mk f40 f41 f42 f43 f44) f45 r5.1.fAt),r61.1],r61.2.fl,r61.2.fat,r61.2.fnest,r61.2.fbase,r61.2.fbad.fKind,r61.2.fbad.fAt,r61.2.fbad.fName) h1 (fm (mb ⟨er rfl,er rfl,er rfl,er rfl,trivial⟩ ⟨⟨_,rfl,⟨sr,sr,sr,sr,sr,sr,sr,sr,sr,sr,sr,trivial⟩⟩,⟨_,rfl,⟨sr,sr,sr,sr,sr,sr,sr,fp _,fp _,sr,sr,trivial⟩⟩,⟨_,rfl,⟨sr,sr,sr,sr,sr,sr,sr,trivial⟩⟩,trivial⟩)))
 ·skip
  intro p_0 r h0
  rw [db] at h0
  refine bF good [] [1000000] Tryz.func139 rfl rfl rfl rfl rfl λ w0 F=>mPo (λ v:ac×ab=>.p (.agg (ac.cs v.1))) (λ v=>[(1000000,((ab.cs v.2).map .p))]) ?_
  refine nx 9 rfl (bd h0 λ o23 h1 h0=>?_)
  refine kN o23 (λ v24=>⟨[(0,.ptr 1000000 0),(2,.ptr 2 0),(3,.p (eI v24.1))],[(2,aH),(1000000,[.p (eL aR v24.2.1),.p (eI v24.2.2.1),.p (eI v24.2.2.2.1),.p (eI v24.2.2.2.2.1),.p (eI v24.2.2.2.2.2.1),.p (eI v24.2.2.2.2.2.2.1),.p (eS v24.2.2.2.2.2.2.2)])]⟩) ?_ ?_
  ·refine nx 7 rfl (fD [10] h0 rfl (λ c15 h0=>?_) λ c15 h0=>?_)
   ·refine nx 4 rfl (bd h0 λ r16 e17 h0=>?_)
    refine mO rfl (cVq [1000000] [] 103000 103000 (ih_expr_parser_postfix_ok (ab.mk o23.2.1 o23.2.2.1 o23.2.2.2.1 o23.2.2.2.2.1 (ao.mk o23.2.2.2.2.2.1 o23.2.2.2.2.2.2.1 o23.2.2.2.2.2.2.2)) _ e17) Tryz.call166 rfl ?_)
    exact nx 3 rfl (fC h0 rfl)
   refine nx 5 rfl (bd h0 λ r18 e19 h0=>?_)
   refine mO rfl (cVq [1000000] [] 104000 104000 (aA _ (ab.mk o23.2.1 o23.2.2.1 o23.2.2.2.1 o23.2.2.2.2.1 (ao.mk o23.2.2.2.2.2.1 o23.2.2.2.2.2.2.1 o23.2.2.2.2.2.2.2)) _ e19) Tryz.call102 rfl ?_)
   refine nx 4 rfl (bd h0 λ r20 e21 h0=>?_)
   refine mG (gE (t:=⟨[(0,.ptr 1000000 0),(2,.ptr 2 0),(3,.p (eI o23.1)),(4,.ptr 4 0)],[(2,aH),(4,(ai.cs r18.1).map .p),(1000000,(ab.cs r18.2).map .p)]⟩) rfl rfl) (mSq ⟨2,[2,7],(by3 (.some (cq [] 105000 105000)) .none .none),(λ _=>[(0,.ptr 1000000 0),(2,.ptr 2 0),(3,.p (eI o23.1)),(4,.ptr 4 0)]),(by3 ([(2,aH),(4,((ai.cs r18.1).map .p)),(1000000,((ab.cs r18.2).map .p))]) ([(1000000,((ab.cs r20.2).map .p)),(2,aH),(4,((ai.cs r18.1).map .p))]) ([(2,[.p (eI 6),.p (eI o23.1),.p (eS ([]:Bytes)),.p (eS ([]:Bytes)),.p (eI 0),.p (eI 0),.p (eS ([]:Bytes)),.p (.val (.slice none 0 0)),.p (.val (.slice none 0 0)),.p (eL ae [r20.1]),.p (eI r18.1.fAt)]),(1000000,((ab.cs r20.2).map .p)),(2,aH),(4,((ai.cs r18.1).map .p))]))⟩ rfl ?_)
   refine dPc (.p (eI o23.1)) rfl (dPc (.ptr 1000000 0) rfl ?_)
   refine dT (λ _=>.p (.agg (ac.cs r20.1))) [(16,_)] rfl ⟨.inr ⟨1,_,rfl,rfl,rfl⟩,trivial⟩ rfl rfl (fF rfl (λ _=>rfl)) (lt2 (λ h=>absurd h (by decide)) (λ _=>rfl)) (λ sl hsl K hK=>ag rfl (aZ [1000000] [] 105000 105000 (ih_expr_parser_unary_ok r18.2 _ e21) rfl rfl rfl (az (hsl _ _ rfl) bc) rfl ⟨sr,trivial⟩ rfl rfl ⟨⟨_,rfl,⟨sr,sr,sr,sr,sr,sr,sr,trivial⟩⟩,trivial⟩ rfl rfl rfl rfl rfl rfl rfl rfl Tryz.call139 rfl rfl hK)) (aD (λ _=>.p (eL ae [r20.1])) rfl rfl rfl (l4 rfl rfl (λ _=>rfl)) (lt2 rfl rfl) (ar rfl (av [(17,_)] ⟨.inr ⟨2,_,rfl,rfl,rfl⟩,trivial⟩ (λ sl hsl K hK=>ag rfl (bh ae [r20.1] rfl rfl rfl rfl rfl rfl (d7 (hsl _ _ rfl) rfl fw) rfl rfl rfl rfl rfl rfl (by first | rfl | (simp only [List.map_cons,List.map_nil,ac.agg_eq]; done) | (simp only [List.map_cons,List.map_nil,ac.agg_eq]; rfl)) hK)) (ar rfl aE))) ?_)
   refine dPc (.ptr 4 2) rfl (dPc (.p (eI r18.1.fAt)) rfl ?_)
   refine dPc (.p (.agg [eI 6,eI o23.1,eS ([]:Bytes),eS ([]:Bytes),eI 0,eI 0,eS ([]:Bytes),.val (.slice none 0 0),.val (.slice none 0 0),eL ae [r20.1],eI r18.1.fAt])) rfl (dS rfl ?_)
   refine cP (nx 2 rfl ?_)
   exact mQo (oi h0) (al _) rfl rfl rfl rfl (cr ⟨.inl rfl,.inl rfl,.inl rfl,.inl rfl,.inl rfl,.inl rfl,.inl rfl,.inr ⟨rfl,rfl⟩,.inr ⟨rfl,rfl⟩,.inl rfl,.inl rfl,trivial⟩) ⟨⟨_,rfl,⟨sr,sr,sr,sr,sr,sr,sr,trivial⟩⟩,trivial⟩
  refine nx 3 rfl (bd h1 λ r1 e2 h1=>?_)
  refine mO rfl (cVq [1000000] [] 101000 101000 (aU _ p_0 ([33]:Bytes) _ e2) Tryz.call101 rfl ?_)
  refine nx 1 rfl (fB [6] h1 rfl (λ c3 h1=>?_) λ c3 h1=>?_)
  ·exact nx 4 rfl (eX _ (oi h1).symm (gE rfl rfl))
  refine nx 4 rfl (bd h1 λ r4 e5 h1=>?_)
  refine mO rfl (cVq [1000000] [] 102000 102000 (aU _ r1.2 ([45]:Bytes) _ e5) Tryz.call101 rfl ?_)
  refine nx 1 rfl (fB [8] h1 rfl (λ c6 h1=>?_) λ c6 h1=>?_)
  ·exact nx 4 rfl (eX _ (oi h1).symm (gE rfl rfl))
  exact nx 2 rfl (eX _ (oi h1).symm (gE rfl rfl))
 ·skip
  intro p_0 r h0
  rw [dl] at h0
  refine bF good [] [1000000] Tryz.func166 rfl rfl rfl rfl rfl λ w0 F=>mPo (λ v:ac×ab=>.p (.agg (ac.cs v.1))) (λ v=>[(1000000,((ab.cs v.2).map .p))]) ?_
  refine nx 7 rfl (bd h0 λ r1 e2 h0=>?_)
  refine mO rfl (cVq [1000000] [] 101000 101000 (ih_expr_parser_primary_ok p_0 _ e2) Tryz.call184 rfl ?_)
  refine nx 4 rfl ?_
  obtain ⟨o125,h1,hL0,hR0⟩:=cz h0
  refine kEx 0 (λ v126:(List ai)×Int×Int×Int×Int×Int×Bytes=>o125=.inl v126) (λ v126=>⟨[],[(1000000,[.p (eL aR v126.1),.p (eI v126.2.1),.p (eI v126.2.2.1),.p (eI v126.2.2.2.1),.p (eI v126.2.2.2.2.1),.p (eI v126.2.2.2.2.2.1),.p (eS v126.2.2.2.2.2.2)])]⟩) (λ v126 hv=>?_) ?_
  ·have h0:=hL0 _ hv
   refine nx 1 rfl ?_
   cases h0
  refine lG (λ (q127:Int×Int×Bytes×Bytes×Int×Int×Bytes×(List ad)×(List Bytes)×(List ac)×(List ai)×Int×Int×Int×Int×Int×Bytes)=>⟨[(0,.ptr 1000000 0),(2,.ptr 2 0),(3,.ptr 3 0)],[(2,aH),(3,[.p (eI q127.1),.p (eI q127.2.1),.p (eS q127.2.2.1),.p (eS q127.2.2.2.1),.p (eI q127.2.2.2.2.1),.p (eI q127.2.2.2.2.2.1),.p (eS q127.2.2.2.2.2.2.1),.p (eL cU q127.2.2.2.2.2.2.2.1),.p (eL eS q127.2.2.2.2.2.2.2.2.1),.p (eL ae q127.2.2.2.2.2.2.2.2.2.1),.p (eI r1.1.fAt)]),(1000000,[.p (eL aR q127.2.2.2.2.2.2.2.2.2.2.1),.p (eI q127.2.2.2.2.2.2.2.2.2.2.2.1),.p (eI q127.2.2.2.2.2.2.2.2.2.2.2.2.1),.p (eI q127.2.2.2.2.2.2.2.2.2.2.2.2.2.1),.p (eI q127.2.2.2.2.2.2.2.2.2.2.2.2.2.2.1),.p (eI q127.2.2.2.2.2.2.2.2.2.2.2.2.2.2.2.1),.p (eS q127.2.2.2.2.2.2.2.2.2.2.2.2.2.2.2.2)])]⟩) (λ m (q127:Int×Int×Bytes×Bytes×Int×Int×Bytes×(List ad)×(List Bytes)×(List ac)×(List ai)×Int×Int×Int×Int×Int×Bytes)=>bE n (aB n) r1 m q127.1 q127.2.1 q127.2.2.1 q127.2.2.2.1 q127.2.2.2.2.1 q127.2.2.2.2.2.1 q127.2.2.2.2.2.2.1 q127.2.2.2.2.2.2.2.1 q127.2.2.2.2.2.2.2.2.1 q127.2.2.2.2.2.2.2.2.2.1 q127.2.2.2.2.2.2.2.2.2.2.1 q127.2.2.2.2.2.2.2.2.2.2.2.1 q127.2.2.2.2.2.2.2.2.2.2.2.2.1 q127.2.2.2.2.2.2.2.2.2.2.2.2.2.1 q127.2.2.2.2.2.2.2.2.2.2.2.2.2.2.1 q127.2.2.2.2.2.2.2.2.2.2.2.2.2.2.2.1 q127.2.2.2.2.2.2.2.2.2.2.2.2.2.2.2.2) (λ _=>rfl) (r1.1.fKind,r1.1.fOp,r1.1.fName,r1.1.fKey,r1.1.fValue.fKind,r1.1.fValue.fNum,r1.1.fValue.fStr,r1.1.fValue.fItems,r1.1.fValue.fKeys,r1.1.fKids,r1.2.fl,r1.2.fat,r1.2.fnest,r1.2.fbase,r1.2.fbad.fKind,r1.2.fbad.fAt,r1.2.fbad.fName) h1 (gE rfl rfl) ?_
  rintro m ⟨f51,f52,f53,f54,f55,f56,f57,f58,f59,f60,f61,f62,f63,f64,f65,f66,f67⟩ h1
  replace h1:bE n (aB n) r1 (m+1) f51 f52 f53 f54 f55 f56 f57 f58 f59 f60 f61 f62 f63 f64 f65 f66 f67=some o125:=h1
  rw [bE] at h1
  refine nx 1 rfl ?_
  obtain ⟨o128,h2,hL1,hR1⟩:=cz h1
  refine kX (λ v129:Int×Bytes×(List ac)×(List ai)×Int×Int×Int×Int×Int×Bytes=>o128=.inl v129) (λ v129=>⟨[(0,.ptr 1000000 0),(2,.ptr 2 0),(3,.ptr 3 0)],[(2,aH),(3,[.p (eI v129.1),.p (eI 0),.p (eS v129.2.1),.p (eS ([]:Bytes)),.p (eI 0),.p (eI 0),.p (eS ([]:Bytes)),.p (.val (.slice none 0 0)),.p (.val (.slice none 0 0)),.p (eL ae v129.2.2.1),.p (eI r1.1.fAt)]),(1000000,[.p (eL aR v129.2.2.2.1),.p (eI v129.2.2.2.2.1),.p (eI v129.2.2.2.2.2.1),.p (eI v129.2.2.2.2.2.2.1),.p (eI v129.2.2.2.2.2.2.2.1),.p (eI v129.2.2.2.2.2.2.2.2.1),.p (eS v129.2.2.2.2.2.2.2.2.2)])]⟩) (λ v129 hv=>?_) ?_
  ·have h1:=hL1 _ hv
   exact nx 1 rfl (eX (v129.1,0,v129.2.1,([]:Bytes),0,0,([]:Bytes),[],[],v129.2.2.1,v129.2.2.2.1,v129.2.2.2.2.1,v129.2.2.2.2.2.1,v129.2.2.2.2.2.2.1,v129.2.2.2.2.2.2.2.1,v129.2.2.2.2.2.2.2.2.1,v129.2.2.2.2.2.2.2.2.2) h1 (fm (mb ⟨er rfl,er rfl,er rfl,trivial⟩ ⟨⟨_,rfl,⟨sr,sr,sr,sr,sr,sr,sr,sr,sr,sr,sr,trivial⟩⟩,⟨_,rfl,⟨sr,sr,sr,sr,sr,sr,sr,fp _,fp _,sr,sr,trivial⟩⟩,⟨_,rfl,⟨sr,sr,sr,sr,sr,sr,sr,trivial⟩⟩,trivial⟩)))
  refine nx 4 rfl (bd h2 λ r68 e69 h2=>?_)
  refine mO rfl (cVq [1000000] [] 111000 111000 (aU _ (ab.mk f61 f62 f63 f64 (ao.mk f65 f66 f67)) ([46]:Bytes) _ e69) Tryz.call101 rfl ?_)
  refine nx 2 rfl (fB [9,11] h2 rfl (λ c70 h2=>?_) λ c70 h2=>?_)
  ·refine nx 4 rfl (bd h2 λ r71 e72 h2=>?_)
   refine mO rfl (cVq [1000000] [] 112000 112000 (aA _ r68.2 _ e72) Tryz.call102 rfl ?_)
   refine nx 4 rfl (bd h2 λ r73 e74 h2=>?_)
   refine mO rfl (cVq [1000000] [] 113000 113000 (a6 _ r71.2 _ e74) Tryz.call70 rfl ?_)
   refine nx 10 rfl (fN [18] h2 rfl (λ c75 h2=>?_) λ c75 h2=>?_)
   ·refine nx 5 rfl (bd h2 λ r78 e79 h2=>?_)
    refine mO rfl (cVq [1000000] [] 115000 115000 (aA _ r73.2 _ e79) Tryz.call102 rfl ?_)
    refine nx 5 rfl (mO rfl (bh ae [(ac.mk f51 f52 f53 f54 (ad.mk f55 f56 f57 f58 f59) f60 r1.1.fAt)] rfl rfl rfl rfl rfl rfl rfl rfl rfl rfl rfl rfl rfl (by first | rfl | (simp only [List.map_cons,List.map_nil,ac.agg_eq]; done) | (simp only [List.map_cons,List.map_nil,ac.agg_eq]; rfl)) ?_))
    exact nx 5 rfl (eX _ (oi h2).symm (gE rfl rfl))
   refine nx 6 rfl (bd h2 λ r76 e77 h2=>?_)
   refine mO rfl (cVq [1000000] [] 114000 114000 (bn r73.2 2 r73.1.fAt _ e77) Tryz.call71 rfl ?_)
   exact nx 3 rfl (mQo (hR0 _ (hR1 _ (oi h2).symm).symm) (al _) rfl rfl rfl rfl (sr) ⟨⟨_,rfl,⟨sr,sr,sr,sr,sr,sr,sr,trivial⟩⟩,trivial⟩)
  refine nx 4 rfl (bd h2 λ r80 e81 h2=>?_)
  refine mO rfl (cVq [1000000] [] 116000 116000 (aU _ r68.2 ([91]:Bytes) _ e81) Tryz.call101 rfl ?_)
  refine nx 2 rfl (fB [32,34] h2 rfl (λ c82 h2=>?_) λ c82 h2=>?_)
  ·refine nx 4 rfl (bd h2 λ r83 e84 h2=>?_)
   refine mO rfl (cVq [1000000] [] 117000 117000 (dh _ r80.2 _ e84) Tryz.call185 rfl ?_)
   refine nx 4 rfl (bd h2 λ r85 e86 h2=>?_)
   refine mO rfl (cVq [1000000] [] 118000 118000 (ih_expr_parser_expr_ok r83 _ e86) Tryz.call65 rfl ?_)
   refine nx 6 rfl (bd h2 λ r87 e88 h2=>?_)
   refine mO rfl (cVq [1000000] [] 119000 119000 (cw _ r85.2 ([93]:Bytes) _ e88) Tryz.call186 rfl ?_)
   refine nx 4 rfl (mO rfl (bh ae [(ac.mk f51 f52 f53 f54 (ad.mk f55 f56 f57 f58 f59) f60 r1.1.fAt),r85.1] rfl rfl rfl rfl rfl rfl rfl rfl rfl rfl rfl rfl rfl (by first | rfl | (simp only [List.map_cons,List.map_nil,ac.agg_eq]; done) | (simp only [List.map_cons,List.map_nil,ac.agg_eq]; rfl)) ?_))
   exact nx 5 rfl (eX _ (oi h2).symm (gE rfl rfl))
  exact nx 7 rfl (mQo (hR0 _ (hR1 _ (oi h2).symm).symm) (al _) rfl rfl rfl rfl (sr) ⟨⟨_,rfl,⟨sr,sr,sr,sr,sr,sr,sr,trivial⟩⟩,trivial⟩)
 ·skip
  intro p_0 r h0
  rw [di] at h0
  refine bF good [] [1000000] Tryz.func184 rfl rfl rfl rfl rfl λ w0 F=>mPo (λ v:ac×ab=>.p (.agg (ac.cs v.1))) (λ v=>[(1000000,((ab.cs v.2).map .p))]) ?_
  refine nx 8 rfl (bd h0 λ r1 e2 h0=>?_)
  refine mO rfl (cVq [1000000] [] 101000 101000 (co p_0 _ e2) Tryz.call121 rfl ?_)
  refine nx 1 rfl (fB [7] h0 rfl (λ c3 h0=>?_) λ c3 h0=>?_)
  ·exact nx 7 rfl (mQo (oi h0) (al _) rfl rfl rfl rfl (cr ⟨.inl rfl,.inl rfl,.inl rfl,.inl rfl,.inl rfl,.inl rfl,.inl rfl,.inr ⟨rfl,rfl⟩,.inr ⟨rfl,rfl⟩,.inr ⟨rfl,rfl⟩,.inl rfl,trivial⟩) ⟨⟨_,rfl,⟨sr,sr,sr,sr,sr,sr,sr,trivial⟩⟩,trivial⟩)
  refine nx 5 rfl (bd h0 λ r4 e5 h0=>?_)
  refine mO rfl (cVq [1000000] [] 102000 102000 (a6 _ r1.2 _ e5) Tryz.call70 rfl ?_)
  refine nx 14 rfl (fD [17,18] h0 rfl (λ c6 h0=>?_) λ c6 h0=>?_)
  ·refine nx 5 rfl (bd h0 λ r7 e8 h0=>?_)
   refine oK (nX _ r4.1.fText _ e8) rfl ⟨sr,trivial⟩ Tryz.call196 rfl (nx 12 rfl ?_)
   refine fN [26] h0 rfl (λ c9 h0=>?_) λ c9 h0=>?_
   ·refine nx 5 rfl (bd h0 λ r12 e13 h0=>?_)
    refine mO rfl (cVq [1000000] [] 104000 104000 (aA _ r4.2 _ e13) Tryz.call102 rfl ?_)
    refine nx 7 rfl (bd h0 λ r14 e15 h0=>?_)
    refine oK (dN (ad.mk 2 r7.1 ([]:Bytes) [] []) r4.1.fAt _ e15) rfl ⟨cr ⟨.inl rfl,.inl rfl,.inl rfl,.inr ⟨rfl,rfl⟩,.inr ⟨rfl,rfl⟩,trivial⟩,sr,trivial⟩ Tryz.call39 rfl (nx 2 rfl ?_)
    refine mG (gE (t:=⟨[(2,.ptr 2 0)],[(2,(ac.cs r14).map .p),(1000000,(ab.cs r12.2).map .p)]⟩) rfl rfl) (nx 1 rfl ?_)
    exact fC h0 rfl
   refine nx 7 rfl (bd h0 λ r10 e11 h0=>?_)
   refine mO rfl (cVq [1000000] [] 103000 103000 (bn r4.2 r7.2 r4.1.fAt _ e11) Tryz.call71 rfl ?_)
   refine nx 2 rfl (mG (gE (t:=⟨[(2,.ptr 2 0)],[(2,(ac.cs r10.1).map .p),(1000000,(ab.cs r10.2).map .p)]⟩) rfl rfl) ?_)
   exact nx 1 rfl (fC h0 rfl)
  refine nx 6 rfl (fD [39,40] h0 rfl (λ c16 h0=>?_) λ c16 h0=>?_)
  ·refine nx 4 rfl (bd h0 λ r17 e18 h0=>?_)
   refine mO rfl (cVq [1000000] [] 105000 105000 (ih_expr_parser_text_ok r4.2 _ e18) Tryz.call197 rfl ?_)
   exact nx 3 rfl (fC h0 rfl)
  refine nx 6 rfl (fD [43,44] h0 rfl (λ c19 h0=>?_) λ c19 h0=>?_)
  ·refine nx 4 rfl (bd h0 λ r20 e21 h0=>?_)
   refine mO rfl (cVq [1000000] [] 106000 106000 (ih_expr_parser_name_ok r4.2 _ e21) Tryz.call198 rfl ?_)
   exact nx 3 rfl (fC h0 rfl)
  refine nx 6 rfl (fD [47,48] h0 rfl (λ c22 h0=>?_) λ c22 h0=>?_)
  ·refine nx 4 rfl (bd h0 λ r23 e24 h0=>?_)
   refine mO rfl (cVq [1000000] [] 107000 107000 (ih_expr_parser_enclosed_ok r4.2 _ e24) Tryz.call199 rfl ?_)
   exact nx 3 rfl (fC h0 rfl)
  refine nx 6 rfl (bd h0 λ r25 e26 h0=>?_)
  refine mO rfl (cVq [1000000] [] 108000 108000 (bn r4.2 2 r4.1.fAt _ e26) Tryz.call71 rfl ?_)
  exact nx 3 rfl (fC h0 rfl)
 ·skip
  intro p_0 r h0
  rw [dv] at h0
  refine bF good [] [1000000] Tryz.func197 rfl rfl rfl rfl rfl λ w0 F=>mPo (λ v:ac×ab=>.p (.agg (ac.cs v.1))) (λ v=>[(1000000,((ab.cs v.2).map .p))]) ?_
  refine nx 7 rfl (bd h0 λ r1 e2 h0=>?_)
  refine mO rfl (cVq [1000000] [] 101000 101000 (a6 _ p_0 _ e2) Tryz.call70 rfl ?_)
  refine nx 9 rfl (oA h0 rfl rfl λ hk3 h0=>?_)
  refine bd h0 λ r4 e5 h0=>oK (ih_expr_Template_ok r1.1.fText (r1.1.fAt+1) _ e5) rfl ⟨sr,sr,trivial⟩ Tryz.call19 rfl (nx 15 rfl ?_)
  refine fN [19] h0 rfl (λ c6 h0=>?_) λ c6 h0=>?_
  ·refine nx 5 rfl (bd h0 λ r9 e10 h0=>?_)
   refine mO rfl (cVq [1000000] [] 103000 103000 (aA _ r1.2 _ e10) Tryz.call102 rfl ?_)
   exact nx 14 rfl (fC h0 rfl)
  refine nx 8 rfl (bd h0 λ r7 e8 h0=>?_)
  refine mO rfl (cVq [1000000] [] 102000 102000 (bn r1.2 r4.2.fKind r4.2.fAt _ e8) Tryz.call71 rfl ?_)
  exact nx 3 rfl (fC h0 rfl)
 ·skip
  intro p_0 r h0
  rw [d6] at h0
  refine bF good [] [1000000] Tryz.func198 rfl rfl rfl rfl rfl λ w0 F=>mPo (λ v:ac×ab=>.p (.agg (ac.cs v.1))) (λ v=>[(1000000,((ab.cs v.2).map .p))]) ?_
  refine nx 7 rfl (bd h0 λ r1 e2 h0=>?_)
  refine mO rfl (cVq [1000000] [] 101000 101000 (a6 _ p_0 _ e2) Tryz.call70 rfl ?_)
  refine nx 12 rfl (oS rfl rfl ?_)
  refine nx 2 rfl (fD [10,11] h0 rfl (λ c3 h0=>?_) λ c3 h0=>?_)
  ·refine nx 4 rfl (bd h0 λ r4 e5 h0=>?_)
   refine mO rfl (cVq [1000000] [] 102000 102000 (aA _ r1.2 _ e5) Tryz.call102 rfl ?_)
   refine nx 6 rfl (bd h0 λ r6 e7 h0=>?_)
   refine oK (dN (ad.mk 0 0 ([]:Bytes) [] []) r1.1.fAt _ e7) rfl ⟨cr ⟨.inl rfl,.inl rfl,.inl rfl,.inr ⟨rfl,rfl⟩,.inr ⟨rfl,rfl⟩,trivial⟩,sr,trivial⟩ Tryz.call39 rfl (nx 3 rfl ?_)
   exact fC h0 rfl
  refine nx 2 rfl (bd h0 λ o35 h1 h0=>?_)
  refine kN o35 (λ v36=>⟨[(0,.ptr 1000000 0),(2,.ptr 2 0),(3,.ptr 3 0),(18,.p (eB v36))],[(2,aH),(3,(ai.cs r1.1).map .p),(1000000,(ab.cs r1.2).map .p)]⟩) ?_ ?_
  ·refine nx 1 rfl (fB [18] h0 rfl (λ c10 h0=>?_) λ c10 h0=>?_)
   ·refine nx 4 rfl (bd h0 λ r11 e12 h0=>?_)
    refine mO rfl (cVq [1000000] [] 103000 103000 (aA _ r1.2 _ e12) Tryz.call102 rfl ?_)
    refine nx 8 rfl (bd h0 λ o37 h1 h0=>?_)
    refine kN o37 (λ v38=>⟨[(2,.ptr 2 0),(3,.ptr 3 0),(4,.ptr 4 0)],[(2,aH),(3,(ai.cs r1.1).map .p),(4,[.p (eI 1),.p (eI v38),.p (eS ([]:Bytes)),.p (.val (.slice none 0 0)),.p (.val (.slice none 0 0))]),(1000000,(ab.cs r11.2).map .p)]⟩) ?_ ?_
    ·refine nx 6 rfl (bd h0 λ r15 e16 h0=>?_)
     refine oK (dN (ad.mk 1 o37 ([]:Bytes) [] []) r1.1.fAt _ e16) rfl ⟨cr ⟨.inl rfl,.inl rfl,.inl rfl,.inr ⟨rfl,rfl⟩,.inr ⟨rfl,rfl⟩,trivial⟩,sr,trivial⟩ Tryz.call39 rfl (nx 3 rfl ?_)
     exact fC h0 rfl
    refine nx 4 rfl (oS rfl rfl ?_)
    refine nx 1 rfl (fD [26] h1 rfl (λ c13 h1=>?_) λ c13 h1=>?_)
    ·exact nx 5 rfl (eX _ (oi h1).symm (gE rfl rfl))
    exact nx 2 rfl (eX _ (oi h1).symm (gE rfl rfl))
   refine nx 7 rfl (bd h0 λ r17 e18 h0=>?_)
   refine oK (f0 r1.1.fText _ e18) rfl ⟨sr,trivial⟩ Tryz.call114 rfl (nx 1 rfl ?_)
   refine fB [34] h0 rfl (λ c19 h0=>?_) λ c19 h0=>?_
   ·refine nx 6 rfl (bd h0 λ r20 e21 h0=>?_)
    refine mO rfl (cVq [1000000] [] 104000 104000 (bn r1.2 2 r1.1.fAt _ e21) Tryz.call71 rfl ?_)
    exact nx 3 rfl (fC h0 rfl)
   refine nx 5 rfl (bd h0 λ r22 e23 h0=>?_)
   refine mO rfl (cVq [1000000] [] 105000 105000 (aA _ r1.2 _ e23) Tryz.call102 rfl ?_)
   refine nx 5 rfl (bd h0 λ r24 e25 h0=>?_)
   refine mO rfl (cVq [1000000] [] 106000 106000 (aU _ r22.2 ([40]:Bytes) _ e25) Tryz.call101 rfl ?_)
   refine nx 2 rfl (fB [43] h0 rfl (λ c26 h0=>?_) λ c26 h0=>?_)
   ·exact nx 11 rfl (mQo (oi h0) (al _) rfl rfl rfl rfl (cr ⟨.inl rfl,.inl rfl,.inl rfl,.inl rfl,.inl rfl,.inl rfl,.inl rfl,.inr ⟨rfl,rfl⟩,.inr ⟨rfl,rfl⟩,.inr ⟨rfl,rfl⟩,.inl rfl,trivial⟩) ⟨⟨_,rfl,⟨sr,sr,sr,sr,sr,sr,sr,trivial⟩⟩,trivial⟩)
   refine nx 5 rfl (bd h0 λ r27 e28 h0=>?_)
   refine mO rfl (cVq [1000000] [] 107000 107000 (dh _ r24.2 _ e28) Tryz.call185 rfl ?_)
   refine nx 4 rfl (bd h0 λ r29 e30 h0=>?_)
   refine mO rfl (cVq [1000000] [] 108000 108000 (ih_expr_parser_list_ok r27 ([41]:Bytes) _ e30) Tryz.call210 rfl ?_)
   refine nx 5 rfl (bd h0 λ r31 e32 h0=>?_)
   refine mO rfl (cVq [1000000] [] 109000 109000 (cw _ r29.2 ([41]:Bytes) _ e32) Tryz.call186 rfl ?_)
   exact nx 12 rfl (mQo (oi h0) (al _) rfl rfl rfl rfl (cr ⟨.inl rfl,.inl rfl,.inl rfl,.inl rfl,.inl rfl,.inl rfl,.inl rfl,.inr ⟨rfl,rfl⟩,.inr ⟨rfl,rfl⟩,.inl rfl,.inl rfl,trivial⟩) ⟨⟨_,rfl,⟨sr,sr,sr,sr,sr,sr,sr,trivial⟩⟩,trivial⟩)
  refine nx 2 rfl (oS rfl rfl ?_)
  refine nx 2 rfl (fD [18,19] h1 rfl (λ c8 h1=>?_) λ c8 h1=>?_)
  ·exact nx 2 rfl (eX _ (oi h1).symm (gE rfl rfl))
  refine nx 2 rfl (oS rfl rfl ?_)
  exact nx 2 rfl (eX _ (oi h1).symm (gE rfl rfl))
 ·skip
  intro p_0 r h0
  rw [cT] at h0
  refine bF good [] [1000000] Tryz.func199 rfl rfl rfl rfl rfl λ w0 F=>mPo (λ v:ac×ab=>.p (.agg (ac.cs v.1))) (λ v=>[(1000000,((ab.cs v.2).map .p))]) ?_
  refine nx 7 rfl (bd h0 λ r1 e2 h0=>?_)
  refine mO rfl (cVq [1000000] [] 101000 101000 (a6 _ p_0 _ e2) Tryz.call70 rfl ?_)
  refine nx 12 rfl (oS rfl rfl ?_)
  refine nx 2 rfl (fD [11,12] h0 rfl (λ c3 h0=>?_) λ c3 h0=>?_)
  ·refine nx 4 rfl (bd h0 λ r4 e5 h0=>?_)
   refine mO rfl (cVq [1000000] [] 102000 102000 (dh _ r1.2 _ e5) Tryz.call185 rfl ?_)
   refine nx 4 rfl (bd h0 λ r6 e7 h0=>?_)
   refine mO rfl (cVq [1000000] [] 103000 103000 (ih_expr_parser_expr_ok r4 _ e7) Tryz.call65 rfl ?_)
   refine nx 6 rfl (bd h0 λ r8 e9 h0=>?_)
   refine mO rfl (cVq [1000000] [] 104000 104000 (cw _ r6.2 ([41]:Bytes) _ e9) Tryz.call186 rfl ?_)
   exact nx 7 rfl (fC h0 rfl)
  refine nx 3 rfl (oS rfl rfl ?_)
  refine nx 2 rfl (fD [20,21] h0 rfl (λ c10 h0=>?_) λ c10 h0=>?_)
  ·refine nx 4 rfl (bd h0 λ r11 e12 h0=>?_)
   refine mO rfl (cVq [1000000] [] 105000 105000 (dh _ r1.2 _ e12) Tryz.call185 rfl ?_)
   refine nx 5 rfl (bd h0 λ r13 e14 h0=>?_)
   refine mO rfl (cVq [1000000] [] 106000 106000 (eu _ r11 ([102,111,114]:Bytes) _ e14) Tryz.call211 rfl ?_)
   refine nx 1 rfl (fB [25] h0 rfl (λ c15 h0=>?_) λ c15 h0=>?_)
   ·refine nx 6 rfl (bd h0 λ r16 e17 h0=>?_)
    refine mO rfl (cVq [1000000] [] 107000 107000 (ih_expr_parser_loop_ok r13.2 r1.1.fAt 12 _ e17) Tryz.call212 rfl ?_)
    exact nx 3 rfl (fC h0 rfl)
   refine nx 5 rfl (bd h0 λ r18 e19 h0=>?_)
   refine mO rfl (cVq [1000000] [] 108000 108000 (ih_expr_parser_list_ok r13.2 ([93]:Bytes) _ e19) Tryz.call210 rfl ?_)
   refine nx 5 rfl (bd h0 λ r20 e21 h0=>?_)
   refine mO rfl (cVq [1000000] [] 109000 109000 (cw _ r18.2 ([93]:Bytes) _ e21) Tryz.call186 rfl ?_)
   exact nx 10 rfl (mQo (oi h0) (al _) rfl rfl rfl rfl (cr ⟨.inl rfl,.inl rfl,.inl rfl,.inl rfl,.inl rfl,.inl rfl,.inl rfl,.inr ⟨rfl,rfl⟩,.inr ⟨rfl,rfl⟩,.inl rfl,.inl rfl,trivial⟩) ⟨⟨_,rfl,⟨sr,sr,sr,sr,sr,sr,sr,trivial⟩⟩,trivial⟩)
  refine nx 3 rfl (oS rfl rfl ?_)
  refine nx 2 rfl (fD [38,39] h0 rfl (λ c22 h0=>?_) λ c22 h0=>?_)
  ·refine nx 4 rfl (bd h0 λ r23 e24 h0=>?_)
   refine mO rfl (cVq [1000000] [] 110000 110000 (dh _ r1.2 _ e24) Tryz.call185 rfl ?_)
   refine nx 5 rfl (bd h0 λ r25 e26 h0=>?_)
   refine mO rfl (cVq [1000000] [] 111000 111000 (eu _ r23 ([102,111,114]:Bytes) _ e26) Tryz.call211 rfl ?_)
   refine nx 1 rfl (fB [43] h0 rfl (λ c27 h0=>?_) λ c27 h0=>?_)
   ·refine nx 6 rfl (bd h0 λ r28 e29 h0=>?_)
    refine mO rfl (cVq [1000000] [] 112000 112000 (ih_expr_parser_loop_ok r25.2 r1.1.fAt 13 _ e29) Tryz.call212 rfl ?_)
    exact nx 3 rfl (fC h0 rfl)
   refine nx 5 rfl (bd h0 λ r30 e31 h0=>?_)
   refine mO rfl (cVq [1000000] [] 113000 113000 (ih_expr_parser_entries_ok r25.2 _ e31) Tryz.call213 rfl ?_)
   refine nx 5 rfl (bd h0 λ r32 e33 h0=>?_)
   refine mO rfl (cVq [1000000] [] 114000 114000 (cw _ r30.2 ([125]:Bytes) _ e33) Tryz.call186 rfl ?_)
   refine nx 9 rfl (mG (gE (t:=⟨[(2,.ptr 2 0)],[(2,[.p (eI 11),.p (eI 0),.p (eS ([]:Bytes)),.p (eS ([]:Bytes)),.p (eI 0),.p (eI 0),.p (eS ([]:Bytes)),.p (.val (.slice none 0 0)),.p (.val (.slice none 0 0)),.p (eL ae r30.1),.p (eI r1.1.fAt)]),(1000000,(ab.cs r32).map .p)]⟩) rfl rfl) ?_)
   exact nx 1 rfl (mQo (oi h0) (al _) rfl rfl rfl rfl (cr ⟨.inl rfl,.inl rfl,.inl rfl,.inl rfl,.inl rfl,.inl rfl,.inl rfl,.inr ⟨rfl,rfl⟩,.inr ⟨rfl,rfl⟩,.inl rfl,.inl rfl,trivial⟩) ⟨⟨_,rfl,⟨sr,sr,sr,sr,sr,sr,sr,trivial⟩⟩,trivial⟩)
  refine nx 7 rfl (bd h0 λ r34 e35 h0=>?_)
  refine mO rfl (cVq [1000000] [] 115000 115000 (bn r1.2 2 r1.1.fAt _ e35) Tryz.call71 rfl ?_)
  exact nx 3 rfl (fC h0 rfl)
 ·skip
  intro p_0 end_1 r h0
  rw [dz] at h0
  refine bF good [] [1000000] Tryz.func210 rfl rfl rfl rfl rfl λ w0 F=>mPo (λ v:(List ac)×ab=>.p (eL ae v.1)) (λ v=>[(1000000,((ab.cs v.2).map .p))]) ?_
  refine nx 10 rfl (bd h0 λ o79 h1 h0=>?_)
  refine kE 0 o79 (λ v80=>⟨[(5,.vec 19 11 0 (v80.1.map ae))],[(1000000,[.p (eL aR v80.2.1),.p (eI v80.2.2.1),.p (eI v80.2.2.2.1),.p (eI v80.2.2.2.2.1),.p (eI v80.2.2.2.2.2.1),.p (eI v80.2.2.2.2.2.2.1),.p (eS v80.2.2.2.2.2.2.2)])]⟩) ?_ ?_
  ·exact nx 7 rfl (fC h0 rfl)
  refine lG (λ (q81:(List ac)×(List ai)×Int×Int×Int×Int×Int×Bytes)=>⟨[(0,.ptr 1000000 0),(1,.p (eS end_1)),(5,.vec 19 11 0 (q81.1.map ae))],[(1000000,[.p (eL aR q81.2.1),.p (eI q81.2.2.1),.p (eI q81.2.2.2.1),.p (eI q81.2.2.2.2.1),.p (eI q81.2.2.2.2.2.1),.p (eI q81.2.2.2.2.2.2.1),.p (eS q81.2.2.2.2.2.2.2)])]⟩) (λ m (q81:(List ac)×(List ai)×Int×Int×Int×Int×Int×Bytes)=>cn n (aB n) end_1 m q81.1 q81.2.1 q81.2.2.1 q81.2.2.2.1 q81.2.2.2.2.1 q81.2.2.2.2.2.1 q81.2.2.2.2.2.2.1 q81.2.2.2.2.2.2.2) (λ _=>rfl) ([],p_0.fl,p_0.fat,p_0.fnest,p_0.fbase,p_0.fbad.fKind,p_0.fbad.fAt,p_0.fbad.fName) h1 (fm (mb ⟨er rfl,er rfl,⟨_,rfl,AV.sub_nilvec _ _ _⟩,trivial⟩ ⟨⟨_,rfl,⟨sr,sr,sr,sr,sr,sr,sr,trivial⟩⟩,trivial⟩)) ?_
  rintro m ⟨out31,f32,f33,f34,f35,f36,f37,f38⟩ h1
  replace h1:cn n (aB n) end_1 (m+1) out31 f32 f33 f34 f35 f36 f37 f38=some o79:=h1
  rw [cn] at h1
  refine nx 2 rfl (bd h1 λ o82 h2 h1=>?_)
  refine kN o82 (λ v83=>⟨[(0,.ptr 1000000 0),(1,.p (eS end_1)),(5,.vec 19 11 0 (out31.map ae)),(14,.p (eB v83.1))],[(1000000,[.p (eL aR v83.2.1),.p (eI v83.2.2.1),.p (eI v83.2.2.2.1),.p (eI v83.2.2.2.2.1),.p (eI v83.2.2.2.2.2.1),.p (eI v83.2.2.2.2.2.2.1),.p (eS v83.2.2.2.2.2.2.2)])]⟩) ?_ ?_
  ·refine nx 1 rfl (fB [14] h1 rfl (λ c52 h1=>?_) λ c52 h1=>?_)
   ·refine nx 7 rfl (bd h1 λ r53 e54 h1=>?_)
    refine mO rfl (cVq [1000000] [] 108000 108000 (ih_expr_parser_expr_ok (ab.mk o82.2.1 o82.2.2.1 o82.2.2.2.1 o82.2.2.2.2.1 (ao.mk o82.2.2.2.2.2.1 o82.2.2.2.2.2.2.1 o82.2.2.2.2.2.2.2)) _ e54) Tryz.call65 rfl ?_)
    refine mO rfl (bh ae [r53.1] rfl rfl rfl rfl rfl rfl rfl rfl rfl rfl rfl rfl rfl (by first | rfl | (simp only [List.map_cons,List.map_nil,ac.agg_eq]; done) | (simp only [List.map_cons,List.map_nil,ac.agg_eq]; rfl)) ?_)
    refine cc' h1 λ hk55 h1=>mO rfl (fW ae out31 [r53.1] rfl rfl rfl rfl rfl rfl rfl rfl rfl rfl rfl rfl rfl (λ x=>congrArg List.length (ac.cells_eq x)) rfl rfl rfl rfl hk55 ?_)
    refine nx 6 rfl (bd h1 λ r56 e57 h1=>?_)
    refine mO rfl (cVq [1000000] [] 109000 109000 (aU _ r53.2 ([44]:Bytes) _ e57) Tryz.call101 rfl ?_)
    refine nx 2 rfl (fB [22] h1 rfl (λ c58 h1=>?_) λ c58 h1=>?_)
    ·exact nx 2 rfl (eXi _ (oi h1).symm (gE rfl rfl))
    refine nx 4 rfl (bd h1 λ r59 e60 h1=>?_)
    refine mO rfl (cVq [1000000] [] 110000 110000 (aA _ r56.2 _ e60) Tryz.call102 rfl ?_)
    exact nx 1 rfl (eX (out31++[r53.1],r59.2.fl,r59.2.fat,r59.2.fnest,r59.2.fbase,r59.2.fbad.fKind,r59.2.fbad.fAt,r59.2.fbad.fName) h1 (gE rfl rfl))
   exact nx 2 rfl (eXi _ (oi h1).symm (gE rfl rfl))
  refine nx 2 rfl (bd h2 λ r39 e40 h2=>?_)
  refine mO rfl (cVq [1000000] [] 106000 106000 (co (ab.mk f32 f33 f34 f35 (ao.mk f36 f37 f38)) _ e40) Tryz.call121 rfl ?_)
  refine nx 2 rfl (fB [8,9] h2 rfl (λ c41 h2=>?_) λ c41 h2=>?_)
  ·refine nx 2 rfl (bd h2 λ r42 e43 h2=>?_)
   refine mO rfl (cVq [1000000] [] 107000 107000 (aU _ r39.2 end_1 _ e43) Tryz.call101 rfl ?_)
   exact nx 3 rfl (eX _ (oi h2).symm (gE rfl rfl))
  exact nx 6 rfl (eX _ (oi h2).symm (gE rfl rfl))
 ·skip
  intro p_0 at_1 k_2 r h0
  rw [dy] at h0
  refine bF good [] [1000000] Tryz.func212 rfl rfl rfl rfl rfl λ w0 F=>mPo (λ v:ac×ab=>.p (.agg (ac.cs v.1))) (λ v=>[(1000000,((ab.cs v.2).map .p))]) ?_
  refine nx 7 rfl (bd h0 λ r1 e2 h0=>?_)
  refine mO rfl (cVq [1000000] [] 101000 101000 (aA _ p_0 _ e2) Tryz.call102 rfl ?_)
  refine nx 6 rfl (bd h0 λ r3 e4 h0=>?_)
  refine mO rfl (cVq [1000000] [] 102000 102000 (gu _ r1.2 _ e4) Tryz.call223 rfl ?_)
  refine nx 5 rfl (bd h0 λ o67 h1 h0=>?_)
  refine kN o67 (λ v68=>⟨[(0,.ptr 1000000 0),(2,.p (eI k_2)),(6,.ptr 6 0),(7,.ptr 7 0)],[(6,aH),(7,[.p (eI k_2),.p (eI 0),.p (eS v68.1),.p (eS v68.2.1),.p (eI 0),.p (eI 0),.p (eS ([]:Bytes)),.p (.val (.slice none 0 0)),.p (.val (.slice none 0 0)),.p (.val (.slice none 0 0)),.p (eI at_1)]),(1000000,[.p (eL aR v68.2.2.1),.p (eI v68.2.2.2.1),.p (eI v68.2.2.2.2.1),.p (eI v68.2.2.2.2.2.1),.p (eI v68.2.2.2.2.2.2.1),.p (eI v68.2.2.2.2.2.2.2.1),.p (eS v68.2.2.2.2.2.2.2.2)])]⟩) ?_ ?_
  ·refine nx 4 rfl (bd h0 λ r21 e22 h0=>?_)
   refine mO rfl (cVq [1000000] [] 106000 106000 (kc _ (ab.mk o67.2.2.1 o67.2.2.2.1 o67.2.2.2.2.1 o67.2.2.2.2.2.1 (ao.mk o67.2.2.2.2.2.2.1 o67.2.2.2.2.2.2.2.1 o67.2.2.2.2.2.2.2.2)) ([105,110]:Bytes) _ e22) Tryz.call224 rfl ?_)
   refine nx 2 rfl (bd h0 λ r23 e24 h0=>?_)
   refine cc' h0 λ hk25 h0=>mG (gE (t:=⟨[(0,.ptr 1000000 0),(2,.p (eI k_2)),(6,.ptr 6 0),(7,.ptr 7 0)],[(6,aH),(7,[.p (eI k_2),.p (eI 0),.p (eS o67.1),.p (eS o67.2.1),.p (eI 0),.p (eI 0),.p (eS ([]:Bytes)),.p (.val (.slice none 0 0)),.p (.val (.slice none 0 0)),.p (.val (.slice none 0 0)),.p (eI at_1)]),(1000000,(ab.cs r21).map .p)]⟩) rfl rfl) (mSq ⟨3,[3,5,7],(by4 (.some (cq [] 107000 107000)) (.some λ i=>Nat.beq i 33) .none .none),(λ _=>[(0,.ptr 1000000 0),(2,.p (eI k_2)),(6,.ptr 6 0),(7,.ptr 7 0)]),(by4 ([(6,aH),(7,[.p (eI k_2),.p (eI 0),.p (eS o67.1),.p (eS o67.2.1),.p (eI 0),.p (eI 0),.p (eS ([]:Bytes)),.p (.val (.slice none 0 0)),.p (.val (.slice none 0 0)),.p (.val (.slice none 0 0)),.p (eI at_1)]),(1000000,((ab.cs r21).map .p))]) ([(1000000,((ab.cs r23.2).map .p)),(6,aH),(7,[.p (eI k_2),.p (eI 0),.p (eS o67.1),.p (eS o67.2.1),.p (eI 0),.p (eI 0),.p (eS ([]:Bytes)),.p (.val (.slice none 0 0)),.p (.val (.slice none 0 0)),.p (.val (.slice none 0 0)),.p (eI at_1)])]) ([(1000000,((ab.cs r23.2).map .p)),(6,aH),(7,[.p (eI k_2),.p (eI 0),.p (eS o67.1),.p (eS o67.2.1),.p (eI 0),.p (eI 0),.p (eS ([]:Bytes)),.p (.val (.slice none 0 0)),.p (.val (.slice none 0 0)),.p (.val (.slice none 0 0)),.p (eI at_1)])]) ([(7,[.p (eI k_2),.p (eI 0),.p (eS o67.1),.p (eS o67.2.1),.p (eI 0),.p (eI 0),.p (eS ([]:Bytes)),.p (.val (.slice none 0 0)),.p (.val (.slice none 0 0)),.vec 33 11 0 ([r23.1].map ae),.p (eI at_1)]),(1000000,((ab.cs r23.2).map .p)),(6,aH),(7,[.p (eI k_2),.p (eI 0),.p (eS o67.1),.p (eS o67.2.1),.p (eI 0),.p (eI 0),.p (eS ([]:Bytes)),.p (.val (.slice none 0 0)),.p (.val (.slice none 0 0)),.p (.val (.slice none 0 0)),.p (eI at_1)])]))⟩ rfl ?_)
   refine dPc (.ptr 7 9) rfl (dPc (.p (.val (.slice none 0 0))) rfl ?_)
   refine dPc (.ptr 1000000 0) rfl (dT (λ _=>.p (.agg (ac.cs r23.1))) [(30,_)] rfl ⟨.inr ⟨2,_,rfl,rfl,rfl⟩,trivial⟩ rfl rfl (l4 rfl rfl (λ _=>rfl)) (lt3 (λ h=>absurd h (by decide)) (λ _=>rfl) (λ _=>rfl)) (λ sl hsl K hK=>ag rfl (aZ [1000000] [] 107000 107000 (ih_expr_parser_expr_ok r21 _ e24) rfl rfl rfl (az (hsl _ _ rfl) bc) rfl ⟨sr,trivial⟩ rfl rfl ⟨⟨_,rfl,⟨sr,sr,sr,sr,sr,sr,sr,trivial⟩⟩,trivial⟩ rfl rfl rfl rfl rfl rfl rfl rfl Tryz.call65 rfl rfl hK)) ?_)
   refine aD (λ _=>.p (eL ae [r23.1])) rfl rfl rfl (ji rfl rfl rfl (λ _=>rfl)) (lt3 rfl rfl rfl) (ar rfl (ar rfl (av [(31,_)] ⟨.inr ⟨3,_,rfl,rfl,rfl⟩,trivial⟩ (λ sl hsl K hK=>ag rfl (bh ae [r23.1] rfl rfl rfl rfl rfl rfl (d7 (hsl _ _ rfl) rfl fw) rfl rfl rfl rfl rfl rfl (by first | rfl | (simp only [List.map_cons,List.map_nil,ac.agg_eq]; done) | (simp only [List.map_cons,List.map_nil,ac.agg_eq]; rfl)) hK)) (ar rfl aE)))) (dT (λ _=>.vec 33 11 0 ([r23.1].map ae)) [(29,_),(32,_)] rfl ⟨.inr ⟨1,_,rfl,rfl,rfl⟩,.inr ⟨4,_,rfl,rfl,rfl⟩,trivial⟩ rfl rfl (fF rfl (λ _=>rfl)) (lt3 (λ h=>absurd h (by decide)) (λ h=>absurd h (by decide)) (λ _=>rfl)) (λ sl hsl K hK=>ag rfl (ww ae [r23.1] 0 rfl rfl rfl rfl rfl rfl rfl rfl (hsl _ _ rfl) (hsl _ _ rfl) rfl (λ x=>congrArg List.length (ac.cells_eq x)) rfl rfl rfl rfl hk25 hK)) ?_)
   refine dPc (.ptr 7 9) rfl (dS rfl ?_)
   refine cP (nx 4 rfl ?_)
   refine bd h0 λ r26 e27 h0=>mO rfl (cVq [1000000] [] 108000 108000 (dO _ r23.2 ([58]:Bytes) _ e27) Tryz.call103 rfl ?_)
   refine nx 2 rfl (bd h0 λ r28 e29 h0=>?_)
   refine cc' h0 λ hk30 h0=>mG (gE (t:=⟨[(0,.ptr 1000000 0),(2,.p (eI k_2)),(6,.ptr 6 0),(7,.ptr 7 0)],[(6,aH),(7,[.p (eI k_2),.p (eI 0),.p (eS o67.1),.p (eS o67.2.1),.p (eI 0),.p (eI 0),.p (eS ([]:Bytes)),.p (.val (.slice none 0 0)),.p (.val (.slice none 0 0)),.vec 33 11 0 ([r23.1].map ae),.p (eI at_1)]),(1000000,(ab.cs r26).map .p)]⟩) rfl rfl) (mSq ⟨3,[3,5,7],(by4 (.some (cq [] 109000 109000)) (.some λ i=>Nat.beq i 33||Nat.beq i 42) .none .none),(λ _=>[(0,.ptr 1000000 0),(2,.p (eI k_2)),(6,.ptr 6 0),(7,.ptr 7 0)]),(by4 ([(6,aH),(7,[.p (eI k_2),.p (eI 0),.p (eS o67.1),.p (eS o67.2.1),.p (eI 0),.p (eI 0),.p (eS ([]:Bytes)),.p (.val (.slice none 0 0)),.p (.val (.slice none 0 0)),.vec 33 11 0 ([r23.1].map ae),.p (eI at_1)]),(1000000,((ab.cs r26).map .p))]) ([(1000000,((ab.cs r28.2).map .p)),(6,aH),(7,[.p (eI k_2),.p (eI 0),.p (eS o67.1),.p (eS o67.2.1),.p (eI 0),.p (eI 0),.p (eS ([]:Bytes)),.p (.val (.slice none 0 0)),.p (.val (.slice none 0 0)),.vec 33 11 0 ([r23.1].map ae),.p (eI at_1)])]) ([(1000000,((ab.cs r28.2).map .p)),(6,aH),(7,[.p (eI k_2),.p (eI 0),.p (eS o67.1),.p (eS o67.2.1),.p (eI 0),.p (eI 0),.p (eS ([]:Bytes)),.p (.val (.slice none 0 0)),.p (.val (.slice none 0 0)),.p (eL ae [r23.1]),.p (eI at_1)])]) ([(7,[.p (eI k_2),.p (eI 0),.p (eS o67.1),.p (eS o67.2.1),.p (eI 0),.p (eI 0),.p (eS ([]:Bytes)),.p (.val (.slice none 0 0)),.p (.val (.slice none 0 0)),.vec 42 11 0 (([r23.1]++[r28.1]).map ae),.p (eI at_1)]),(1000000,((ab.cs r28.2).map .p)),(6,aH),(7,[.p (eI k_2),.p (eI 0),.p (eS o67.1),.p (eS o67.2.1),.p (eI 0),.p (eI 0),.p (eS ([]:Bytes)),.p (.val (.slice none 0 0)),.p (.val (.slice none 0 0)),.p (eL ae [r23.1]),.p (eI at_1)])]))⟩ rfl ?_)
   refine dPc (.ptr 7 9) rfl (dP (by4 (.vec 33 11 0 ([r23.1].map ae)) (.vec 33 11 0 ([r23.1].map ae)) (.p (eL ae [r23.1])) (.p (eL ae [r23.1]))) rfl ?_)
   refine dPc (.ptr 1000000 0) rfl (dT (λ _=>.p (.agg (ac.cs r28.1))) [(39,_)] rfl ⟨.inr ⟨2,_,rfl,rfl,rfl⟩,trivial⟩ rfl rfl (l4 rfl rfl (λ _=>rfl)) (lt3 (λ h=>absurd h (by decide)) (λ _=>rfl) (λ _=>rfl)) (λ sl hsl K hK=>ag rfl (aZ [1000000] [] 109000 109000 (ih_expr_parser_expr_ok r26 _ e29) rfl rfl rfl (az (hsl _ _ rfl) bc) rfl ⟨sr,trivial⟩ rfl rfl ⟨⟨_,rfl,⟨sr,sr,sr,sr,sr,sr,sr,trivial⟩⟩,trivial⟩ rfl rfl rfl rfl rfl rfl rfl rfl Tryz.call65 rfl rfl hK)) ?_)
   refine aD (λ _=>.p (eL ae [r28.1])) rfl rfl rfl (ji rfl rfl rfl (λ _=>rfl)) (lt3 rfl rfl rfl) (ar rfl (ar rfl (av [(40,_)] ⟨.inr ⟨3,_,rfl,rfl,rfl⟩,trivial⟩ (λ sl hsl K hK=>ag rfl (bh ae [r28.1] rfl rfl rfl rfl rfl rfl (d7 (hsl _ _ rfl) rfl fw) rfl rfl rfl rfl rfl rfl (by first | rfl | (simp only [List.map_cons,List.map_nil,ac.agg_eq]; done) | (simp only [List.map_cons,List.map_nil,ac.agg_eq]; rfl)) hK)) (ar rfl aE)))) (dT (λ _=>.vec 42 11 0 (([r23.1]++[r28.1]).map ae)) [(38,_),(41,_)] rfl ⟨.inr ⟨1,_,rfl,rfl,rfl⟩,.inr ⟨4,_,rfl,rfl,rfl⟩,trivial⟩ rfl rfl (fF rfl (λ _=>rfl)) (lt3 (λ h=>absurd h (by decide)) (λ h=>absurd h (by decide)) (λ _=>rfl)) (λ sl hsl K hK=>ag rfl (fW ae [r23.1] [r28.1] rfl rfl rfl rfl rfl rfl rfl rfl (hsl _ _ rfl) rfl rfl (hsl _ _ rfl) rfl (λ x=>congrArg List.length (ac.cells_eq x)) rfl rfl rfl rfl hk30 hK)) ?_)
   refine dPc (.ptr 7 9) rfl (dS rfl ?_)
   refine cP (nx 6 rfl ?_)
   refine bd h0 λ o69 h1 h0=>kN o69 (λ v70=>⟨[(0,.ptr 1000000 0),(6,.ptr 6 0),(7,.ptr 7 0),(8,.p (eS v70.1))],[(6,aH),(7,[.p (eI k_2),.p (eI 0),.p (eS o67.1),.p (eS o67.2.1),.p (eI 0),.p (eI 0),.p (eS ([]:Bytes)),.p (.val (.slice none 0 0)),.p (.val (.slice none 0 0)),.vec 53 11 0 (v70.2.1.map ae),.p (eI at_1)]),(1000000,[.p (eL aR v70.2.2.1),.p (eI v70.2.2.2.1),.p (eI v70.2.2.2.2.1),.p (eI v70.2.2.2.2.2.1),.p (eI v70.2.2.2.2.2.2.1),.p (eI v70.2.2.2.2.2.2.2.1),.p (eS v70.2.2.2.2.2.2.2.2)])]⟩) ?_ ?_
   ·refine nx 2 rfl (bd h0 λ o71 h1 h0=>?_)
    refine kN o71 (λ v72=>⟨[(0,.ptr 1000000 0),(6,.ptr 6 0),(7,.ptr 7 0),(8,.p (eS o69.1))],[(6,aH),(7,[.p (eI k_2),.p (eI 0),.p (eS o67.1),.p (eS o67.2.1),.p (eI 0),.p (eI 0),.p (eS ([]:Bytes)),.p (.val (.slice none 0 0)),.p (.val (.slice none 0 0)),.vec 64 11 0 (v72.1.map ae),.p (eI at_1)]),(1000000,[.p (eL aR v72.2.1),.p (eI v72.2.2.1),.p (eI v72.2.2.2.1),.p (eI v72.2.2.2.2.1),.p (eI v72.2.2.2.2.2.1),.p (eI v72.2.2.2.2.2.2.1),.p (eS v72.2.2.2.2.2.2.2)])]⟩) ?_ ?_
    ·refine nx 5 rfl (bd h0 λ r62 e63 h0=>?_)
     refine mO rfl (cVq [1000000] [] 115000 115000 (cw _ (ab.mk o71.2.1 o71.2.2.1 o71.2.2.2.1 o71.2.2.2.2.1 (ao.mk o71.2.2.2.2.2.1 o71.2.2.2.2.2.2.1 o71.2.2.2.2.2.2.2)) o69.1 _ e63) Tryz.call186 rfl ?_)
     exact nx 7 rfl (mQo (oi h0) (al _) rfl rfl rfl rfl (vB ⟨sr,sr,sr,sr,sr,sr,sr,fp _,fp _,sr,sr,trivial⟩) ⟨⟨_,rfl,⟨sr,sr,sr,sr,sr,sr,sr,trivial⟩⟩,trivial⟩)
    refine nx 3 rfl (bd h1 λ r46 e47 h1=>?_)
    refine mO rfl (cVq [1000000] [] 112000 112000 (eu _ (ab.mk o69.2.2.1 o69.2.2.2.1 o69.2.2.2.2.1 o69.2.2.2.2.2.1 (ao.mk o69.2.2.2.2.2.2.1 o69.2.2.2.2.2.2.2.1 o69.2.2.2.2.2.2.2.2)) ([105,102]:Bytes) _ e47) Tryz.call211 rfl ?_)
    refine nx 1 rfl (fB [56] h1 rfl (λ c48 h1=>?_) λ c48 h1=>?_)
    ·refine nx 4 rfl (bd h1 λ r49 e50 h1=>?_)
     refine mO rfl (cVq [1000000] [] 113000 113000 (aA _ r46.2 _ e50) Tryz.call102 rfl ?_)
     refine nx 1 rfl (bd h1 λ r51 e52 h1=>?_)
     refine cc' h1 λ hk53 h1=>mG (gE (t:=⟨[(0,.ptr 1000000 0),(6,.ptr 6 0),(7,.ptr 7 0),(8,.p (eS o69.1))],[(6,aH),(7,[.p (eI k_2),.p (eI 0),.p (eS o67.1),.p (eS o67.2.1),.p (eI 0),.p (eI 0),.p (eS ([]:Bytes)),.p (.val (.slice none 0 0)),.p (.val (.slice none 0 0)),.vec 53 11 0 (o69.2.1.map ae),.p (eI at_1)]),(1000000,(ab.cs r49.2).map .p)]⟩) rfl rfl) (mSq ⟨3,[3,5,7],(by4 (.some (cq [] 114000 114000)) (.some λ i=>Nat.beq i 53||Nat.beq i 64) .none .none),(λ _=>[(0,.ptr 1000000 0),(6,.ptr 6 0),(7,.ptr 7 0),(8,.p (eS o69.1))]),(by4 ([(6,aH),(7,[.p (eI k_2),.p (eI 0),.p (eS o67.1),.p (eS o67.2.1),.p (eI 0),.p (eI 0),.p (eS ([]:Bytes)),.p (.val (.slice none 0 0)),.p (.val (.slice none 0 0)),.vec 53 11 0 (o69.2.1.map ae),.p (eI at_1)]),(1000000,((ab.cs r49.2).map .p))]) ([(1000000,((ab.cs r51.2).map .p)),(6,aH),(7,[.p (eI k_2),.p (eI 0),.p (eS o67.1),.p (eS o67.2.1),.p (eI 0),.p (eI 0),.p (eS ([]:Bytes)),.p (.val (.slice none 0 0)),.p (.val (.slice none 0 0)),.vec 53 11 0 (o69.2.1.map ae),.p (eI at_1)])]) ([(1000000,((ab.cs r51.2).map .p)),(6,aH),(7,[.p (eI k_2),.p (eI 0),.p (eS o67.1),.p (eS o67.2.1),.p (eI 0),.p (eI 0),.p (eS ([]:Bytes)),.p (.val (.slice none 0 0)),.p (.val (.slice none 0 0)),.p (eL ae o69.2.1),.p (eI at_1)])]) ([(7,[.p (eI k_2),.p (eI 0),.p (eS o67.1),.p (eS o67.2.1),.p (eI 0),.p (eI 0),.p (eS ([]:Bytes)),.p (.val (.slice none 0 0)),.p (.val (.slice none 0 0)),.vec 64 11 0 ((o69.2.1++[r51.1]).map ae),.p (eI at_1)]),(1000000,((ab.cs r51.2).map .p)),(6,aH),(7,[.p (eI k_2),.p (eI 0),.p (eS o67.1),.p (eS o67.2.1),.p (eI 0),.p (eI 0),.p (eS ([]:Bytes)),.p (.val (.slice none 0 0)),.p (.val (.slice none 0 0)),.p (eL ae o69.2.1),.p (eI at_1)])]))⟩ rfl ?_)
     refine dPc (.ptr 7 9) rfl (dP (by4 (.vec 53 11 0 (o69.2.1.map ae)) (.vec 53 11 0 (o69.2.1.map ae)) (.p (eL ae o69.2.1)) (.p (eL ae o69.2.1))) rfl ?_)
     refine dPc (.ptr 1000000 0) rfl (dT (λ _=>.p (.agg (ac.cs r51.1))) [(61,_)] rfl ⟨.inr ⟨2,_,rfl,rfl,rfl⟩,trivial⟩ rfl rfl (l4 rfl rfl (λ _=>rfl)) (lt3 (λ h=>absurd h (by decide)) (λ _=>rfl) (λ _=>rfl)) (λ sl hsl K hK=>ag rfl (aZ [1000000] [] 114000 114000 (ih_expr_parser_expr_ok r49.2 _ e52) rfl rfl rfl (az (hsl _ _ rfl) bc) rfl ⟨sr,trivial⟩ rfl rfl ⟨⟨_,rfl,⟨sr,sr,sr,sr,sr,sr,sr,trivial⟩⟩,trivial⟩ rfl rfl rfl rfl rfl rfl rfl rfl Tryz.call65 rfl rfl hK)) ?_)
     refine aD (λ _=>.p (eL ae [r51.1])) rfl rfl rfl (ji rfl rfl rfl (λ _=>rfl)) (lt3 rfl rfl rfl) (ar rfl (ar rfl (av [(62,_)] ⟨.inr ⟨3,_,rfl,rfl,rfl⟩,trivial⟩ (λ sl hsl K hK=>ag rfl (bh ae [r51.1] rfl rfl rfl rfl rfl rfl (d7 (hsl _ _ rfl) rfl fw) rfl rfl rfl rfl rfl rfl (by first | rfl | (simp only [List.map_cons,List.map_nil,ac.agg_eq]; done) | (simp only [List.map_cons,List.map_nil,ac.agg_eq]; rfl)) hK)) (ar rfl aE)))) (dT (λ _=>.vec 64 11 0 ((o69.2.1++[r51.1]).map ae)) [(60,_),(63,_)] rfl ⟨.inr ⟨1,_,rfl,rfl,rfl⟩,.inr ⟨4,_,rfl,rfl,rfl⟩,trivial⟩ rfl rfl (fF rfl (λ _=>rfl)) (lt3 (λ h=>absurd h (by decide)) (λ h=>absurd h (by decide)) (λ _=>rfl)) (λ sl hsl K hK=>ag rfl (fW ae o69.2.1 [r51.1] rfl rfl rfl rfl rfl rfl rfl rfl (hsl _ _ rfl) rfl rfl (hsl _ _ rfl) rfl (λ x=>congrArg List.length (ac.cells_eq x)) rfl rfl rfl rfl hk53 hK)) ?_)
     refine dPc (.ptr 7 9) rfl (dS rfl ?_)
     refine cP (nx 1 rfl ?_)
     exact eX _ (oi h1).symm (gE rfl rfl)
    exact nx 2 rfl (eX _ (oi h1).symm (aN (bz 53 64 rfl rfl rfl rfl rfl) (gE rfl rfl)))
   refine nx 5 rfl (fD [45] h1 rfl (λ c31 h1=>?_) λ c31 h1=>?_)
   ·refine nx 4 rfl (bd h1 λ r32 e33 h1=>?_)
    refine mO rfl (cVq [1000000] [] 110000 110000 (dO _ r28.2 ([61,62]:Bytes) _ e33) Tryz.call103 rfl ?_)
    refine nx 2 rfl (bd h1 λ r34 e35 h1=>?_)
    refine cc' h1 λ hk36 h1=>mG (gE (t:=⟨[(0,.ptr 1000000 0),(6,.ptr 6 0),(7,.ptr 7 0)],[(6,aH),(7,[.p (eI k_2),.p (eI 0),.p (eS o67.1),.p (eS o67.2.1),.p (eI 0),.p (eI 0),.p (eS ([]:Bytes)),.p (.val (.slice none 0 0)),.p (.val (.slice none 0 0)),.vec 42 11 0 (([r23.1]++[r28.1]).map ae),.p (eI at_1)]),(1000000,(ab.cs r32).map .p)]⟩) rfl rfl) (mSq ⟨3,[3,5,7],(by4 (.some (cq [] 111000 111000)) (.some λ i=>Nat.beq i 42||Nat.beq i 53) .none .none),(λ _=>[(0,.ptr 1000000 0),(6,.ptr 6 0),(7,.ptr 7 0)]),(by4 ([(6,aH),(7,[.p (eI k_2),.p (eI 0),.p (eS o67.1),.p (eS o67.2.1),.p (eI 0),.p (eI 0),.p (eS ([]:Bytes)),.p (.val (.slice none 0 0)),.p (.val (.slice none 0 0)),.vec 42 11 0 (([r23.1]++[r28.1]).map ae),.p (eI at_1)]),(1000000,((ab.cs r32).map .p))]) ([(1000000,((ab.cs r34.2).map .p)),(6,aH),(7,[.p (eI k_2),.p (eI 0),.p (eS o67.1),.p (eS o67.2.1),.p (eI 0),.p (eI 0),.p (eS ([]:Bytes)),.p (.val (.slice none 0 0)),.p (.val (.slice none 0 0)),.vec 42 11 0 (([r23.1]++[r28.1]).map ae),.p (eI at_1)])]) ([(1000000,((ab.cs r34.2).map .p)),(6,aH),(7,[.p (eI k_2),.p (eI 0),.p (eS o67.1),.p (eS o67.2.1),.p (eI 0),.p (eI 0),.p (eS ([]:Bytes)),.p (.val (.slice none 0 0)),.p (.val (.slice none 0 0)),.p (eL ae ([r23.1]++[r28.1])),.p (eI at_1)])]) ([(7,[.p (eI k_2),.p (eI 0),.p (eS o67.1),.p (eS o67.2.1),.p (eI 0),.p (eI 0),.p (eS ([]:Bytes)),.p (.val (.slice none 0 0)),.p (.val (.slice none 0 0)),.vec 53 11 0 ((([r23.1]++[r28.1])++[r34.1]).map ae),.p (eI at_1)]),(1000000,((ab.cs r34.2).map .p)),(6,aH),(7,[.p (eI k_2),.p (eI 0),.p (eS o67.1),.p (eS o67.2.1),.p (eI 0),.p (eI 0),.p (eS ([]:Bytes)),.p (.val (.slice none 0 0)),.p (.val (.slice none 0 0)),.p (eL ae ([r23.1]++[r28.1])),.p (eI at_1)])]))⟩ rfl ?_)
    refine dPc (.ptr 7 9) rfl (dP (by4 (.vec 42 11 0 (([r23.1]++[r28.1]).map ae)) (.vec 42 11 0 (([r23.1]++[r28.1]).map ae)) (.p (eL ae ([r23.1]++[r28.1]))) (.p (eL ae ([r23.1]++[r28.1])))) rfl ?_)
    refine dPc (.ptr 1000000 0) rfl (dT (λ _=>.p (.agg (ac.cs r34.1))) [(50,_)] rfl ⟨.inr ⟨2,_,rfl,rfl,rfl⟩,trivial⟩ rfl rfl (l4 rfl rfl (λ _=>rfl)) (lt3 (λ h=>absurd h (by decide)) (λ _=>rfl) (λ _=>rfl)) (λ sl hsl K hK=>ag rfl (aZ [1000000] [] 111000 111000 (ih_expr_parser_expr_ok r32 _ e35) rfl rfl rfl (az (hsl _ _ rfl) bc) rfl ⟨sr,trivial⟩ rfl rfl ⟨⟨_,rfl,⟨sr,sr,sr,sr,sr,sr,sr,trivial⟩⟩,trivial⟩ rfl rfl rfl rfl rfl rfl rfl rfl Tryz.call65 rfl rfl hK)) ?_)
    refine aD (λ _=>.p (eL ae [r34.1])) rfl rfl rfl (ji rfl rfl rfl (λ _=>rfl)) (lt3 rfl rfl rfl) (ar rfl (ar rfl (av [(51,_)] ⟨.inr ⟨3,_,rfl,rfl,rfl⟩,trivial⟩ (λ sl hsl K hK=>ag rfl (bh ae [r34.1] rfl rfl rfl rfl rfl rfl (d7 (hsl _ _ rfl) rfl fw) rfl rfl rfl rfl rfl rfl (by first | rfl | (simp only [List.map_cons,List.map_nil,ac.agg_eq]; done) | (simp only [List.map_cons,List.map_nil,ac.agg_eq]; rfl)) hK)) (ar rfl aE)))) (dT (λ _=>.vec 53 11 0 ((([r23.1]++[r28.1])++[r34.1]).map ae)) [(49,_),(52,_)] rfl ⟨.inr ⟨1,_,rfl,rfl,rfl⟩,.inr ⟨4,_,rfl,rfl,rfl⟩,trivial⟩ rfl rfl (fF rfl (λ _=>rfl)) (lt3 (λ h=>absurd h (by decide)) (λ h=>absurd h (by decide)) (λ _=>rfl)) (λ sl hsl K hK=>ag rfl (fW ae ([r23.1]++[r28.1]) [r34.1] rfl rfl rfl rfl rfl rfl rfl rfl (hsl _ _ rfl) rfl rfl (hsl _ _ rfl) rfl (λ x=>congrArg List.length (ac.cells_eq x)) rfl rfl rfl rfl hk36 hK)) ?_)
    refine dPc (.ptr 7 9) rfl (dS rfl ?_)
    refine cP (nx 4 rfl ?_)
    exact eX _ (oi h1).symm (gE rfl rfl)
   exact nx 2 rfl (eX _ (oi h1).symm (aN (bz 42 53 rfl rfl rfl rfl rfl) (gE rfl rfl)))
  refine nx 3 rfl (bd h1 λ r5 e6 h1=>?_)
  refine mO rfl (cVq [1000000] [] 103000 103000 (aU _ r3.2 ([44]:Bytes) _ e6) Tryz.call101 rfl ?_)
  refine nx 1 rfl (fB [17] h1 rfl (λ c7 h1=>?_) λ c7 h1=>?_)
  ·refine nx 4 rfl (bd h1 λ r8 e9 h1=>?_)
   refine mO rfl (cVq [1000000] [] 104000 104000 (aA _ r5.2 _ e9) Tryz.call102 rfl ?_)
   refine nx 10 rfl (bd h1 λ r10 e11 h1=>?_)
   refine mO rfl (cVq [1000000] [] 105000 105000 (gu _ r8.2 _ e11) Tryz.call223 rfl ?_)
   exact nx 3 rfl (eX _ (oi h1).symm (gE rfl rfl))
  exact nx 2 rfl (eX _ (oi h1).symm (gE rfl rfl))
 ·skip
  intro p_0 r h0
  rw [dk] at h0
  refine bF good [] [1000000] Tryz.func213 rfl rfl rfl rfl rfl λ w0 F=>mPo (λ v:(List ac)×ab=>.p (eL ae v.1)) (λ v=>[(1000000,((ab.cs v.2).map .p))]) ?_
  refine nx 10 rfl (bd h0 λ o89 h1 h0=>?_)
  refine kE 0 o89 (λ v90=>⟨[(3,.vec 23 11 0 (v90.1.map ae))],[(1000000,[.p (eL aR v90.2.1),.p (eI v90.2.2.1),.p (eI v90.2.2.2.1),.p (eI v90.2.2.2.2.1),.p (eI v90.2.2.2.2.2.1),.p (eI v90.2.2.2.2.2.2.1),.p (eS v90.2.2.2.2.2.2.2)])]⟩) ?_ ?_
  ·exact nx 7 rfl (fC h0 rfl)
  refine lG (λ (q91:(List ac)×(List ai)×Int×Int×Int×Int×Int×Bytes)=>⟨[(0,.ptr 1000000 0),(3,.vec 23 11 0 (q91.1.map ae))],[(1000000,[.p (eL aR q91.2.1),.p (eI q91.2.2.1),.p (eI q91.2.2.2.1),.p (eI q91.2.2.2.2.1),.p (eI q91.2.2.2.2.2.1),.p (eI q91.2.2.2.2.2.2.1),.p (eS q91.2.2.2.2.2.2.2)])]⟩) (λ m (q91:(List ac)×(List ai)×Int×Int×Int×Int×Int×Bytes)=>bG n (aB n) (dm n) m q91.1 q91.2.1 q91.2.2.1 q91.2.2.2.1 q91.2.2.2.2.1 q91.2.2.2.2.2.1 q91.2.2.2.2.2.2.1 q91.2.2.2.2.2.2.2) (λ _=>rfl) ([],p_0.fl,p_0.fat,p_0.fnest,p_0.fbase,p_0.fbad.fKind,p_0.fbad.fAt,p_0.fbad.fName) h1 (fm (mb ⟨er rfl,⟨_,rfl,AV.sub_nilvec _ _ _⟩,trivial⟩ ⟨⟨_,rfl,⟨sr,sr,sr,sr,sr,sr,sr,trivial⟩⟩,trivial⟩)) ?_
  rintro m ⟨out36,f37,f38,f39,f40,f41,f42,f43⟩ h1
  replace h1:bG n (aB n) (dm n) (m+1) out36 f37 f38 f39 f40 f41 f42 f43=some o89:=h1
  rw [bG] at h1
  refine nx 2 rfl (bd h1 λ o92 h2 h1=>?_)
  refine kN o92 (λ v93=>⟨[(0,.ptr 1000000 0),(3,.vec 23 11 0 (out36.map ae)),(11,.p (eB v93.1))],[(1000000,[.p (eL aR v93.2.1),.p (eI v93.2.2.1),.p (eI v93.2.2.2.1),.p (eI v93.2.2.2.2.1),.p (eI v93.2.2.2.2.2.1),.p (eI v93.2.2.2.2.2.2.1),.p (eS v93.2.2.2.2.2.2.2)])]⟩) ?_ ?_
  ·refine nx 1 rfl (fB [11] h1 rfl (λ c57 h1=>?_) λ c57 h1=>?_)
   ·refine nx 7 rfl (bd h1 λ r58 e59 h1=>?_)
    refine mO rfl (cVq [1000000] [] 110000 110000 (ih_expr_parser_key_ok (ab.mk o92.2.1 o92.2.2.1 o92.2.2.2.1 o92.2.2.2.2.1 (ao.mk o92.2.2.2.2.2.1 o92.2.2.2.2.2.2.1 o92.2.2.2.2.2.2.2)) _ e59) Tryz.call225 rfl ?_)
    refine mO rfl (bh ae [r58.1] rfl rfl rfl rfl rfl rfl rfl rfl rfl rfl rfl rfl rfl (by first | rfl | (simp only [List.map_cons,List.map_nil,ac.agg_eq]; done) | (simp only [List.map_cons,List.map_nil,ac.agg_eq]; rfl)) ?_)
    refine cc' h1 λ hk60 h1=>mO rfl (fW ae out36 [r58.1] rfl rfl rfl rfl rfl rfl rfl rfl rfl rfl rfl rfl rfl (λ x=>congrArg List.length (ac.cells_eq x)) rfl rfl rfl rfl hk60 ?_)
    refine nx 5 rfl (bd h1 λ r61 e62 h1=>?_)
    refine mO rfl (cVq [1000000] [] 111000 111000 (dO _ r58.2 ([61]:Bytes) _ e62) Tryz.call103 rfl ?_)
    refine nx 5 rfl (bd h1 λ r63 e64 h1=>?_)
    refine mO rfl (cVq [1000000] [] 112000 112000 (ih_expr_parser_expr_ok r61 _ e64) Tryz.call65 rfl ?_)
    refine mO rfl (bh ae [r63.1] rfl rfl rfl rfl rfl rfl rfl rfl rfl rfl rfl rfl rfl (by first | rfl | (simp only [List.map_cons,List.map_nil,ac.agg_eq]; done) | (simp only [List.map_cons,List.map_nil,ac.agg_eq]; rfl)) ?_)
    refine cc' h1 λ hk65 h1=>mO rfl (fW ae (out36++[r58.1]) [r63.1] rfl rfl rfl rfl rfl rfl rfl rfl rfl rfl rfl rfl rfl (λ x=>congrArg List.length (ac.cells_eq x)) rfl rfl rfl rfl hk65 ?_)
    refine nx 6 rfl (bd h1 λ r66 e67 h1=>?_)
    refine mO rfl (cVq [1000000] [] 113000 113000 (aU _ r63.2 ([44]:Bytes) _ e67) Tryz.call101 rfl ?_)
    refine nx 2 rfl (fB [26] h1 rfl (λ c68 h1=>?_) λ c68 h1=>?_)
    ·exact nx 2 rfl (eXi _ (oi h1).symm (gE rfl rfl))
    refine nx 4 rfl (bd h1 λ r69 e70 h1=>?_)
    refine mO rfl (cVq [1000000] [] 114000 114000 (aA _ r66.2 _ e70) Tryz.call102 rfl ?_)
    exact nx 1 rfl (eX ((out36++[r58.1])++[r63.1],r69.2.fl,r69.2.fat,r69.2.fnest,r69.2.fbase,r69.2.fbad.fKind,r69.2.fbad.fAt,r69.2.fbad.fName) h1 (gE rfl rfl))
   exact nx 2 rfl (eXi _ (oi h1).symm (gE rfl rfl))
  refine nx 2 rfl (bd h2 λ r44 e45 h2=>?_)
  refine mO rfl (cVq [1000000] [] 108000 108000 (co (ab.mk f37 f38 f39 f40 (ao.mk f41 f42 f43)) _ e45) Tryz.call121 rfl ?_)
  refine nx 2 rfl (fB [6,7] h2 rfl (λ c46 h2=>?_) λ c46 h2=>?_)
  ·refine nx 1 rfl (bd h2 λ r47 e48 h2=>?_)
   refine mO rfl (cVq [1000000] [] 109000 109000 (aU _ r44.2 ([125]:Bytes) _ e48) Tryz.call101 rfl ?_)
   exact nx 3 rfl (eX _ (oi h2).symm (gE rfl rfl))
  exact nx 5 rfl (eX _ (oi h2).symm (gE rfl rfl))
 ·skip
  intro p_0 r h0
  rw [dm] at h0
  refine bF good [] [1000000] Tryz.func225 rfl rfl rfl rfl rfl λ w0 F=>mPo (λ v:ac×ab=>.p (.agg (ac.cs v.1))) (λ v=>[(1000000,((ab.cs v.2).map .p))]) ?_
  refine nx 7 rfl (bd h0 λ r1 e2 h0=>?_)
  refine mO rfl (cVq [1000000] [] 101000 101000 (a6 _ p_0 _ e2) Tryz.call70 rfl ?_)
  refine nx 12 rfl (fD [7,10] h0 rfl (λ c3 h0=>?_) λ c3 h0=>?_)
  ·refine nx 4 rfl (bd h0 λ r4 e5 h0=>?_)
   refine mO rfl (cVq [1000000] [] 102000 102000 (aA _ r1.2 _ e5) Tryz.call102 rfl ?_)
   refine nx 8 rfl (bd h0 λ r6 e7 h0=>?_)
   refine oK (dN (ad.mk 3 0 r1.1.fText [] []) r1.1.fAt _ e7) rfl ⟨cr ⟨.inl rfl,.inl rfl,.inl rfl,.inr ⟨rfl,rfl⟩,.inr ⟨rfl,rfl⟩,trivial⟩,sr,trivial⟩ Tryz.call39 rfl (nx 3 rfl ?_)
   exact fC h0 rfl
  refine nx 8 rfl (fD [19,22] h0 rfl (λ c8 h0=>?_) λ c8 h0=>?_)
  ·refine nx 4 rfl (bd h0 λ r9 e10 h0=>?_)
   refine mO rfl (cVq [1000000] [] 103000 103000 (ih_expr_parser_text_ok r1.2 _ e10) Tryz.call197 rfl ?_)
   exact nx 3 rfl (fC h0 rfl)
  refine nx 4 rfl (bd h0 λ r11 e12 h0=>?_)
  refine mO rfl (cVq [1000000] [] 104000 104000 (aU _ r1.2 ([40]:Bytes) _ e12) Tryz.call101 rfl ?_)
  refine nx 2 rfl (fB [25,27] h0 rfl (λ c13 h0=>?_) λ c13 h0=>?_)
  ·refine nx 4 rfl (bd h0 λ r14 e15 h0=>?_)
   refine mO rfl (cVq [1000000] [] 105000 105000 (dh _ r11.2 _ e15) Tryz.call185 rfl ?_)
   refine nx 4 rfl (bd h0 λ r16 e17 h0=>?_)
   refine mO rfl (cVq [1000000] [] 106000 106000 (ih_expr_parser_expr_ok r14 _ e17) Tryz.call65 rfl ?_)
   refine nx 6 rfl (bd h0 λ r18 e19 h0=>?_)
   refine mO rfl (cVq [1000000] [] 107000 107000 (cw _ r16.2 ([41]:Bytes) _ e19) Tryz.call186 rfl ?_)
   exact nx 7 rfl (fC h0 rfl)
  refine nx 7 rfl (bd h0 λ r20 e21 h0=>?_)
  refine mO rfl (cVq [1000000] [] 108000 108000 (bn r11.2 2 r1.1.fAt _ e21) Tryz.call71 rfl ?_)
  exact nx 3 rfl (fC h0 rfl)
theorem pV (n:Nat):∀ (s_0:Bytes) (base_1:Int) (r:ac×ao),eq n s_0 base_1=some r→au Tryz.prog 33 [eS s_0,eI base_1] (·=.tuple [.p (.agg (ac.cs r.1)),.p (.agg (ao.cs r.2))]):=(mi n).2.1
def eY (n:Nat)(s_0:Bytes):Option (ac×ao) :=
 (eq n s_0 0).bind λ r1 =>
 (fP n r1.1 r1.2).bind λ r3 =>
 some (r3.1,r3.2)
set_option maxHeartbeats 4000000 in
theorem hN (n:Nat)(s_0:Bytes)(r:ac×ao)(h0:eY n s_0=some r):au Tryz.prog 16 [eS s_0] (·=.tuple [.p (.agg (ac.cs r.1)),.p (.agg (ao.cs r.2))]):=by
 unfold eY at h0
 refine aW good Tryz.func16 rfl rfl rfl λ w0=>mP (λ v:ac×ao=>.tuple [.p (.agg (ac.cs v.1)),.p (.agg (ao.cs v.2))]) ?_
 refine nx 8 rfl (bd h0 λ r1 e2 h0=>?_)
 refine oK (pV _ s_0 0 _ e2) rfl ⟨sr,sr,trivial⟩ Tryz.call33 rfl (nx 12 rfl ?_)
 refine bd h0 λ r3 e4 h0=>oK (lg _ r1.1 r1.2 _ e4) rfl ⟨sr,sr,trivial⟩ Tryz.call34 rfl (nx 6 rfl ?_)
 exact mQ (oi h0) rfl (ap ⟨sr,sr,trivial⟩)
def ca (r_expr_Nodes:ac→Option Int)(e_0:ac):Nat→Int→Int→Option Int
 | 0,_,_=>none
 | m+1,n9,t10 =>
 if t10 < (e_0.fKids.length:Int) then
  ck ((0:Int)≤t10∧t10 < (e_0.fKids.length:Int)) <|
  (r_expr_Nodes (lat e_0.fKids t10)).bind λ r13 =>
  ck (inR (n9+r13)) <|
  ck (inR (t10+1)) <|
  ca r_expr_Nodes e_0 m (n9+r13) (t10+1)
 else
  some n9
def cu:Nat→ac→Option Int
 | 0,_=>none
 | n+1,e_0 =>
 (ca (cu n) e_0 n 1 0).bind λ n19 =>
 some n19
set_option maxHeartbeats 4000000 in
theorem jv (n:Nat):∀ (e_0:ac) (r:Int),cu n e_0=some r→au Tryz.prog 14 [.agg (ac.cs e_0)] (·=.p (eI r)):=by
 induction n with
 | zero=>intro e_0 r h0; cases h0
 | succ n ih =>
 have ih_expr_Nodes_ok:=ih
 intro e_0 r h0
 rw [cu] at h0
 refine aW good Tryz.func14 rfl rfl rfl λ w0=>mP (λ v:Int=>.p (eI v)) ?_
 refine nx 14 rfl (oLl (f:=ae) rfl rfl ?_)
 refine nx 3 rfl (bd h0 λ o21 h1 h0=>?_)
 refine kE 0 o21 (λ v22=>⟨[(3,.p (eI v22))],[]⟩) ?_ ?_
 ·exact nx 7 rfl (mQ (oi h0) rfl (sr))
 refine lG (λ (q23:Int×Int)=>⟨[(3,.p (eI q23.1)),(7,.p (eL ae e_0.fKids)),(8,.p (eI (e_0.fKids.length:Int))),(9,.p (eI q23.2))],[]⟩) (λ m (q23:Int×Int)=>ca (cu n) e_0 m q23.1 q23.2) (λ _=>rfl) (1,0) h1 (gE rfl rfl) ?_
 rintro m ⟨n9,t10⟩ h1
 replace h1:ca (cu n) e_0 (m+1) n9 t10=some o21:=h1
 rw [ca] at h1
 refine nx 5 rfl (fD [10] h1 rfl (λ c11 h1=>?_) λ c11 h1=>?_)
 ·refine nx 6 rfl (oE h1 ac.cells_eq rfl rfl (λ _=>rfl) λ hk12 h1=>?_)
  refine nx 7 rfl (bd h1 λ r13 e14 h1=>?_)
  refine oK (ih_expr_Nodes_ok (lat e_0.fKids t10) _ e14) rfl ⟨sr,trivial⟩ Tryz.call14 rfl (oA h1 rfl rfl λ hk15 h1=>?_)
  refine nx 3 rfl (oA h1 rfl rfl λ hk16 h1=>?_)
  exact nx 2 rfl (eX (n9+r13,t10+1) h1 (gE rfl rfl))
 exact nx 2 rfl (eXi _ (oi h1).symm (gE rfl rfl))
end Go.Ab.R06
end
section
set_option linter.unusedVariables false
set_option linter.unusedSimpArgs false
set_option linter.unnecessarySimpa false
namespace Go.Ab.R06
open Go.Proofs Go.Ab Go.Ab.RB
attribute [local irreducible] awp fk aS au aF AV.sub M cB
end Go.Ab.R06
end
section
set_option linter.unusedVariables false
set_option linter.unusedSimpArgs false
set_option linter.unnecessarySimpa false
namespace Go.Ab.R06
open Go.Proofs Go.Ab Go.Ab.RB
attribute [local irreducible] awp fk aS au aF AV.sub M cB
def em (n:Nat):Option Bool :=
 (eY n ([49,32,43,32,50,32,42,32,51]:Bytes)).bind λ r1 =>
 (eY n ([34,120,36,123,34,121,34,125,34]:Bytes)).bind λ r3 =>
 (eY n ([97,32,43]:Bytes)).bind λ r5 =>
 (eY n ([91,102,111,114,32,107,44,32,118,32,105,110,32,109,32,58,32,118,32,105,102,32,107,32,33,61,32,34,97,34,93]:Bytes)).bind λ r7 =>
 (
   if r1.2.fKind=0 then
    if r3.2.fKind=0 then
     if r5.2.fKind=2 then
      if r5.2.fAt=3 then
       if r7.2.fKind=0 then
        if (r1.1.fKids.length:Int)=2 then
         some (!decide ((r3.1.fKids.length:Int)=2))
        else
         some true
       else
        some true
      else
       some true
     else
      some true
    else
     some true
   else
    some true
  : Option Bool).bind λ t15 =>
 if t15=true then
  some false
 else
  (
    if r1.1.fOp=11 then
     ck ((0:Int)≤1∧1 < (r1.1.fKids.length:Int)) <|
     if (lat r1.1.fKids 1).fOp=13 then
      if r3.1.fKind=2 then
       if r7.1.fKind=12 then
        if r7.1.fKey=([107]:Bytes) then
         if r7.1.fName=([118]:Bytes) then
          if (r7.1.fKids.length:Int)=3 then
           (cu n r1.1).bind λ r25 =>
           some (decide (r25=5))
          else
           some false
         else
          some false
        else
         some false
       else
        some false
      else
       some false
     else
      some false
    else
     some false
   : Option Bool).bind λ t27 =>
  some t27
set_option maxHeartbeats 4000000 in
theorem kM (n:Nat)(r:Bool)(h0:em n=some r):au Tryz.prog 11 [] (·=.p (eB r)):=by
 unfold em at h0
 refine aW good Tryz.func11 rfl rfl rfl λ w0=>mP (λ v:Bool=>.p (eB v)) ?_
 refine nx 6 rfl (bd h0 λ r1 e2 h0=>?_)
 refine oK (hN _ ([49,32,43,32,50,32,42,32,51]:Bytes) _ e2) rfl ⟨sr,trivial⟩ Tryz.call16 rfl (nx 10 rfl ?_)
 refine bd h0 λ r3 e4 h0=>oK (hN _ ([34,120,36,123,34,121,34,125,34]:Bytes) _ e4) rfl ⟨sr,trivial⟩ Tryz.call16 rfl (nx 10 rfl ?_)
 refine bd h0 λ r5 e6 h0=>oK (hN _ ([97,32,43]:Bytes) _ e6) rfl ⟨sr,trivial⟩ Tryz.call16 rfl (nx 10 rfl ?_)
 refine bd h0 λ r7 e8 h0=>oK (hN _ ([91,102,111,114,32,107,44,32,118,32,105,110,32,109,32,58,32,118,32,105,102,32,107,32,33,61,32,34,97,34,93]:Bytes) _ e8) rfl ⟨sr,trivial⟩ Tryz.call16 rfl (nx 10 rfl ?_)
 refine bd h0 λ o30 h1 h0=>kN o30 (λ v31=>⟨[(1,.ptr 1 0),(3,.ptr 3 0),(7,.ptr 7 0),(59,.p (eB v31))],[(1,(ac.cs r1.1).map .p),(3,(ac.cs r3.1).map .p),(7,(ac.cs r7.1).map .p)]⟩) ?_ ?_
 ·refine nx 1 rfl (fB [59] h0 rfl (λ c16 h0=>?_) λ c16 h0=>?_)
  ·exact nx 6 rfl (mQ (oi h0) rfl (sr))
  refine nx 3 rfl (bd h0 λ o32 h1 h0=>?_)
  refine kN o32 (λ v33=>⟨[(0,.p (eB v33))],[]⟩) ?_ ?_
  ·exact nx 2 rfl (mQ (oi h0) rfl (sr))
  refine nx 5 rfl (fD [62,63] h1 rfl (λ c17 h1=>?_) λ c17 h1=>?_)
  ·refine nx 2 rfl (oE h1 ac.cells_eq rfl rfl (λ _=>rfl) λ hk18 h1=>?_)
   refine nx 5 rfl (fD [69,70,71] h1 rfl (λ c19 h1=>?_) λ c19 h1=>?_)
   ·refine nx 5 rfl (fD [74,75,76] h1 rfl (λ c20 h1=>?_) λ c20 h1=>?_)
    ·refine nx 5 rfl (fD [79,80,81] h1 rfl (λ c21 h1=>?_) λ c21 h1=>?_)
     ·refine nx 2 rfl (oS rfl rfl ?_)
      refine nx 2 rfl (fD [84,85,86] h1 rfl (λ c22 h1=>?_) λ c22 h1=>?_)
      ·refine nx 2 rfl (oS rfl rfl ?_)
       refine nx 2 rfl (fD [89,90,91] h1 rfl (λ c23 h1=>?_) λ c23 h1=>?_)
       ·refine nx 2 rfl (oLl (f:=ae) rfl rfl ?_)
        refine nx 3 rfl (fD [95,96,97] h1 rfl (λ c24 h1=>?_) λ c24 h1=>?_)
        ·refine nx 1 rfl (bd h1 λ r25 e26 h1=>?_)
         refine oK (jv _ r1.1 _ e26) rfl ⟨sr,trivial⟩ Tryz.call14 rfl (nx 4 rfl ?_)
         exact eX _ (oi h1).symm (gE rfl rfl)
        exact nx 6 rfl (eX _ (oi h1).symm (gE rfl rfl))
       exact nx 12 rfl (eX _ (oi h1).symm (gE rfl rfl))
      exact nx 17 rfl (eX _ (oi h1).symm (gE rfl rfl))
     exact nx 22 rfl (eX _ (oi h1).symm (gE rfl rfl))
    exact nx 27 rfl (eX _ (oi h1).symm (gE rfl rfl))
   exact nx 32 rfl (eX _ (oi h1).symm (gE rfl rfl))
  exact nx 40 rfl (eX _ (oi h1).symm (gE rfl rfl))
 refine nx 5 rfl (fN [27,28] h1 rfl (λ c9 h1=>?_) λ c9 h1=>?_)
 ·refine nx 5 rfl (fN [31,32,33] h1 rfl (λ c10 h1=>?_) λ c10 h1=>?_)
  ·refine nx 5 rfl (fN [36,37,38] h1 rfl (λ c11 h1=>?_) λ c11 h1=>?_)
   ·refine nx 5 rfl (fN [41,42,43] h1 rfl (λ c12 h1=>?_) λ c12 h1=>?_)
    ·refine nx 5 rfl (fN [46,47,48] h1 rfl (λ c13 h1=>?_) λ c13 h1=>?_)
     ·refine nx 2 rfl (oLl (f:=ae) rfl rfl ?_)
      refine nx 3 rfl (fN [52,53,54] h1 rfl (λ c14 h1=>?_) λ c14 h1=>?_)
      ·refine nx 2 rfl (oLl (f:=ae) rfl rfl ?_)
       exact nx 3 rfl (eX _ (oi h1).symm (gE rfl rfl))
      exact nx 6 rfl (eX _ (oi h1).symm (gE rfl rfl))
     exact nx 12 rfl (eX _ (oi h1).symm (gE rfl rfl))
    exact nx 17 rfl (eX _ (oi h1).symm (gE rfl rfl))
   exact nx 22 rfl (eX _ (oi h1).symm (gE rfl rfl))
  exact nx 27 rfl (eX _ (oi h1).symm (gE rfl rfl))
 exact nx 32 rfl (eX _ (oi h1).symm (gE rfl rfl))
end Go.Ab.R06
end
section
set_option linter.unusedVariables false
set_option linter.unusedSimpArgs false
set_option linter.unnecessarySimpa false
namespace Go.Ab.R06
open Go.Ab Go.Ab.RB Go.Lib
theorem ckT {α:Type}(x:Option α):ck True x=x:=eh trivial
theorem wX (v:ad)(h:v.fItems.length+v.fKeys.length≤1000000000000000):gw v=gn v:=by
 unfold gw gn
 by_cases h1:v.fKind=0
 ·by_cases h2:v.fNum=0
  ·by_cases h3:v.fStr=[]
   ·simp only [if_pos h1,if_pos h2,if_pos h3]
    rw [eh (dM (by omega) (by omega))]
    by_cases h4:(v.fItems.length:Int)=0
    ·rw [if_pos h4]
     simp only [Option.bind_some,Option.some.injEq,decide_eq_decide]; omega
    ·rw [if_neg h4]
     simp only [Option.bind_some,Option.some.injEq,decide_eq_false_iff_not]; omega
   ·simp only [if_pos h1,if_pos h2,if_neg h3]
  ·simp only [if_pos h1,if_neg h2]
 ·simp only [if_neg h1]
theorem w7 (v:ad):∃ b,gn v=some b:=by
 unfold gn
 repeat' split
 all_goals exact ⟨_,rfl⟩
set_option maxHeartbeats 4000000 in
theorem qC (e:ac)(h:e.fValue.fItems.length+e.fValue.fKeys.length≤1000000000000000):fQ e=dU e:=by
 obtain ⟨z,hz⟩:=w7 e.fValue
 have hz':=(wX e.fValue h).trans hz
 unfold fQ dU hZ
 rw [hz,hz']
 clear hz hz' h
 have hk0:0≤(e.fKids.length:Int):=by omega
 have hp:(e.fKids.length:Int).tmod 2=0∨(e.fKids.length:Int).tmod 2=1:=by
  have:=Int.emod_two_eq (e.fKids.length:Int)
  rwa [Int.tmod_eq_emod_of_nonneg hk0]
 generalize (e.fKids.length:Int)=m at hk0 hp ⊢
 generalize e.fKind=k
 generalize e.fOp=op
 generalize e.fValue.fKind=vk
 generalize e.fValue.fNum=vn
 generalize e.fName=name
 generalize e.fKey=key
 by_cases hr:k < 1∨13 < k
 ·have e2:fb k m=some false:=by
   unfold fb
   simp only [show ¬ k=1 by omega,show ¬ k=2 by omega,show ¬ k=3 by omega,show ¬ k=4 by omega,show ¬ k=5 by omega,show ¬ k=6 by omega,show ¬ k=7 by omega,show ¬ k=8 by omega,show ¬ k=9 by omega,show ¬ k=10 by omega,show ¬ k=11 by omega,show ¬ k=12 by omega,show ¬ k=13 by omega,if_false,decide_false,Option.bind_some,Bool.false_eq_true]
  rw [e2]
  by_cases q:k < 1
  ·rw [if_pos q]; rfl
  ·rw [if_neg q,if_pos (by omega)]; rfl
 ·have hk:k=1∨k=2∨k=3∨k=4∨k=5∨k=6∨k=7∨k=8∨k=9∨k=10∨k=11∨k=12∨k=13:=by omega
  unfold gr gX lh fb fj eV
  unfold fj
  by_cases hn:name=[] <;> by_cases hke:key=[] <;> cases z <;> rcases hp with hp | hp
  all_goals (rcases hk with rfl | rfl | rfl | rfl | rfl | rfl | rfl | rfl | rfl | rfl | rfl | rfl | rfl)
  all_goals (simp [hn,hke,hp,ckT]; try done)
  all_goals (repeat' split)
  all_goals (try (simp_all; done))
  all_goals (try omega)
  all_goals (try simp_all)
  all_goals (repeat' split)
  all_goals (try (simp_all; done))
  all_goals (try omega)
end Go.Ab.R06
end
section
set_option linter.unusedVariables false
set_option linter.unusedSimpArgs false
set_option linter.unnecessarySimpa false
namespace Go.Ab.R06
open Go.Ab Go.Ab.RB
theorem uR (s:Bytes)(hs:s.length≤1000000000000000):∀ (k i:Nat),i+k=s.length→Ev2 (λ _ m=>br s m (i:Int)) (·=if mu (rG s) i k then .inl () else .inr false):=by
 intro k
 induction k with
 | zero =>
  intro i hi
  refine dc ?_
  simp only [br]
  refine cV (by omega) (am rfl)
 | succ k ih =>
  intro i hi
  refine dc ?_
  simp only [br]
  refine fA (by omega) (dQ (by omega) ?_)
  have hb:byt s i=((s.getD i 0).toNat:Int):=mc s i
  rw [hb]
  have hor:=xe (s.getD i 0)
  have hok:=iU s i
  rw [oO,rh] at hok
  refine bT (!rG s i) ?_ ?_
  ·generalize s.getD i 0=b at hor hok ⊢
   generalize rG s i=o at hok ⊢
   generalize iOr .u8 ((b.toNat:Nat):Int) 32=v at hor ⊢
   have hT:(mA b=true)→o=true:=λ h=>hok.2 (.inl ((oO b).1 h))
   have mk:∀ x:Bool,(x=true↔¬ (((97≤b.toNat∧b.toNat≤122)∨(65≤b.toNat∧b.toNat≤90)∨b.toNat=95)∨(i≠0∧48≤b.toNat∧b.toNat≤57)))→x=!o:=λ x hx=>eqB (by rw [hx,← hok]; simp)
   refine dQ (by omega) (bm (λ h=>am (mk _ ?_)) (λ h=>bm (λ h1=>?_) (λ h1=>bm (λ h2=>?_) (λ h2=>am (mk _ ?_)))))
   ·simp; omega
   ·refine bm (λ h3=>am (mk _ ?_)) (λ h3=>dQ (by omega) (bm (λ h4=>am (mk _ ?_)) (λ h4=>dQ (by omega) (am (mk _ ?_)))))
    ·simp; omega
    ·simp; omega
    ·rw [decide_eq_true_eq]; omega
   ·refine bm (λ h3=>am (mk _ ?_)) (λ h3=>dQ (by omega) (bm (λ h4=>am (mk _ ?_)) (λ h4=>dQ (by omega) (am (mk _ ?_)))))
    ·simp; omega
    ·simp; omega
    ·rw [decide_eq_true_eq]; omega
   ·simp; omega
  ·cases hk:rG s i with
   | false=>exact fA (by simp) (am (by simp [mu,hk]))
   | true =>
    refine cV (by simp) (dQ (dM (by omega) (by omega)) ?_)
    have:=ih (i+1) (by omega)
    rw [Int.natCast_add,Int.natCast_one] at this
    simpa [mu,hk] using this
theorem re (s:Bytes)(hs:s.length≤1000000000000000):Ev2 (λ n _=>cK n s) (·=cY s):=by
 simp only [cK]
 have h:=uR s hs s.length 0 (by omega)
 have hi:=oD s
 cases ha:mu (rG s) 0 s.length with
 | false =>
  rw [ha] at h hi
  refine pr false (fh h) (eqB ?_)
  rw [hi]; simp
 | true =>
  rw [ha] at h hi
  refine kP () (fh h) ?_
  refine fJ (·=cY s) (bm (λ h=>am (eqB ?_)) (λ h=>am (eqB ?_))) (λ t ht=>am ht)
  ·rw [hi]; simp [h]
  ·rw [hi,decide_eq_true_eq]; simp [h]; omega
theorem tp (b:UInt8):fX (b.toNat:Int)=some (mA b):=by
 simp only [fX]
 have h:=oO b
 generalize mA b=o at h ⊢
 have mk:∀ x:Bool,(x=true↔(97≤b.toNat∧b.toNat≤122)∨(65≤b.toNat∧b.toNat≤90)∨b.toNat=95)→some x=some o:=λ x hx=>congrArg some (eqB (by rw [hx,h]))
 repeat' split
 all_goals (simp only [Option.bind_some]; apply mk; first | (rw [decide_eq_true_eq]; omega) | (simp; omega))
theorem tX (s:Bytes)(hs:s.length≤1000000000000000):∀ (k i:Nat),i+k=s.length→Ev2 (λ _ m=>ce s m (i:Int)) (·=if mu (λ j=>idB (s.getD j 0)) i k then .inl () else .inr false):=by
 intro k
 induction k with
 | zero =>
  intro i hi
  refine dc ?_
  simp only [ce]
  refine cV (by omega) (am rfl)
 | succ k ih =>
  intro i hi
  refine dc ?_
  simp only [ce]
  refine fA (by omega) ?_
  have hb:byt s i=((s.getD i 0).toNat:Int):=mc s i
  rw [hb]
  refine bT (!idB (s.getD i 0)) ?_ ?_
  ·refine dQ (by omega) (bT _ (dH (tp _) rfl) ?_)
   have h:=rh (s.getD i 0)
   simp only [idB]
   generalize s.getD i 0=b at h ⊢
   cases hl:mA b with
   | true=>exact cV (by simp) (am (by simp))
   | false =>
    refine fA (by simp) (dQ (by omega) (bm (λ h1=>am ?_) (λ h1=>dQ (by omega) (am ?_))))
    ·have:ux b=false:=by rw [← Bool.not_eq_true,h]; omega
     simp [this]
    ·refine eqB ?_
     rw [decide_eq_true_eq,Bool.false_or,Bool.not_eq_true',← Bool.not_eq_true,h]
     omega
  ·cases hk:idB (s.getD i 0) with
   | false=>exact fA rfl (am (by simp only [mu,hk,Bool.false_and]; rfl))
   | true =>
    refine cV (by simp) (dQ (dM (by omega) (by omega)) ?_)
    have:=ih (i+1) (by omega)
    rw [Int.natCast_add,Int.natCast_one] at this
    simp only [mu,hk,Bool.true_and]
    exact this
theorem qj (s:Bytes)(hs:s.length≤1000000000000000):Ev2 (λ n _=>d3 n s) (·=cY s):=by
 simp only [d3]
 have hi:=rP s
 refine bT (decide (s=[])||decide (64 < (s.length:Int))||!mA (s.getD 0 0)) ?_ ?_
 ·refine bm (λ h=>am (by simp [h])) (λ h=>bm (λ h1=>am (by simp [h1])) (λ h1=>dQ ?_ ?_))
  ·have:=List.length_pos_iff.2 h; omega
  ·refine bT (mA (s.getD 0 0)) (dH (tp _) rfl) (am ?_)
   have:decide (64 < (s.length:Int))=false:=decide_eq_false h1
   simp [h,this]
 ·refine bm (λ h=>am (eqB ?_)) (λ h=>?_)
  ·rw [hi]; simp at h ⊢; intro q1 q2 q3
   rcases h with (h | h) | h
   ·exact absurd h q1
   ·omega
   ·rw [h] at q3; cases q3
  ·have l:=tX s hs s.length 0 (by omega)
   simp only [Bool.or_eq_true,decide_eq_true_eq,not_or] at h
   obtain ⟨⟨h1,h2⟩,h3⟩:=h
   have h3:mA (s.getD 0 0)=true:=by simpa using h3
   cases ha:mu (λ j=>idB (s.getD j 0)) 0 s.length with
   | false =>
    rw [ha] at l hi
    refine pr false (fh l) (eqB ?_)
    rw [hi]; simp
   | true =>
    rw [ha] at l hi
    refine kP () (fh l) (am (eqB ?_))
    rw [hi]; simp only [true_iff]
    exact ⟨h1,by omega,h3,trivial⟩
end Go.Ab.R06
end
section
set_option linter.unusedVariables false
set_option linter.unusedSimpArgs false
set_option linter.unnecessarySimpa false
namespace Go.Ab.R06
open Go.Ab
theorem nu {r_expr_Nodes r_expr_Nodes':ac→Option Int}(h_expr_Nodes:∀ x0,Le (r_expr_Nodes x0) (r_expr_Nodes' x0)){e_0:ac}:∀ (m m':Nat),m≤m'→∀ (y0:Int) (y1:Int),Le (ca r_expr_Nodes e_0 m y0 y1) (ca r_expr_Nodes' e_0 m' y0 y1):=by
 intro m
 induction m with
 | zero=>intro m' _ y0 y1; exact aT _
 | succ m ih =>
 intro m' hm y0 y1
 cases m' with
 | zero=>omega
 | succ m' =>
 simp only [ca]
 repeat' (with_reducible (first | exact aj _ | apply ih | apply h_expr_Nodes | refine aX ?_ | refine aC ?_ ?_ | refine ax ?_ (λ _=>?_) | refine aY ?_ (λ _=>?_) | omega | intro _))
theorem pj (n:Nat):∀ n':Nat,n≤n'→(∀ (e_0:ac),Le (cu n e_0) (cu n' e_0)):=by
 induction n with
 | zero=>exact λ n' _=>(by intro e_0; exact aT _)
 | succ n ih =>
 intro n' hn
 cases n' with
 | zero=>omega
 | succ n' =>
 have hn':n≤n':=by omega
 have ih_expr_Nodes_le:=ih n' hn'
 intro e_0
 simp only [cu]
 repeat' (with_reducible (first | exact aj _ | apply ih_expr_Nodes_le | apply nu | refine aX ?_ | refine aC ?_ ?_ | refine ax ?_ (λ _=>?_) | refine aY ?_ (λ _=>?_) | omega | intro _))
theorem pI {n n':Nat}(hn:n≤n'):∀ (e_0:ac),Le (cu n e_0) (cu n' e_0):=(pj n n' hn)
theorem jC:∀ (m m':Nat),m≤m'→∀ (y0:aa),Le (bN m y0) (bN m' y0):=by
 intro m
 induction m with
 | zero=>intro m' _ y0; exact aT _
 | succ m ih =>
 intro m' hm y0
 cases m' with
 | zero=>omega
 | succ m' =>
 simp only [bN]
 repeat' (with_reducible (first | exact aj _ | apply ih | refine aX ?_ | refine aC ?_ ?_ | refine ax ?_ (λ _=>?_) | refine aY ?_ (λ _=>?_) | omega | intro _))
theorem gV {n n':Nat}(hn:n≤n'){x_0:aa}:Le (cQ n x_0) (cQ n' x_0):=by
 simp only [cQ]
 repeat' (with_reducible (first | exact aj _ | apply jC | refine aX ?_ | refine aC ?_ ?_ | refine ax ?_ (λ _=>?_) | refine aY ?_ (λ _=>?_) | omega | intro _))
theorem lU {s_0:Bytes}:∀ (m m':Nat),m≤m'→∀ (y0:Int),Le (dr s_0 m y0) (dr s_0 m' y0):=by
 intro m
 induction m with
 | zero=>intro m' _ y0; exact aT _
 | succ m ih =>
 intro m' hm y0
 cases m' with
 | zero=>omega
 | succ m' =>
 simp only [dr]
 repeat' (with_reducible (first | exact aj _ | apply ih | refine aX ?_ | refine aC ?_ ?_ | refine ax ?_ (λ _=>?_) | refine aY ?_ (λ _=>?_) | omega | intro _))
theorem kr {n n':Nat}(hn:n≤n'){s_0:Bytes}:Le (ff n s_0) (ff n' s_0):=by
 simp only [ff]
 repeat' (with_reducible (first | exact aj _ | apply lU | refine aX ?_ | refine aC ?_ ?_ | refine ax ?_ (λ _=>?_) | refine aY ?_ (λ _=>?_) | omega | intro _))
theorem gv {n n':Nat}(hn:n≤n'){x_0:aa}:Le (cv n x_0) (cv n' x_0):=by
 simp only [cv]
 repeat' (with_reducible (first | exact aj _ | apply kr | refine aX ?_ | refine aC ?_ ?_ | refine ax ?_ (λ _=>?_) | refine aY ?_ (λ _=>?_) | omega | intro _))
theorem jR {a_1:Int}{b_2:Int}:∀ (m m':Nat),m≤m'→∀ (y0:aa),Le (bW a_1 b_2 m y0) (bW a_1 b_2 m' y0):=by
 intro m
 induction m with
 | zero=>intro m' _ y0; exact aT _
 | succ m ih =>
 intro m' hm y0
 cases m' with
 | zero=>omega
 | succ m' =>
 simp only [bW]
 repeat' (with_reducible (first | exact aj _ | apply ih | refine aX ?_ | refine aC ?_ ?_ | refine ax ?_ (λ _=>?_) | refine aY ?_ (λ _=>?_) | omega | intro _))
theorem kW {n n':Nat}(hn:n≤n'){x_0:aa}{a_1:Int}{b_2:Int}:Le (cZ n x_0 a_1 b_2) (cZ n' x_0 a_1 b_2):=by
 simp only [cZ]
 repeat' (with_reducible (first | exact aj _ | apply jR | refine aX ?_ | refine aC ?_ ?_ | refine ax ?_ (λ _=>?_) | refine aY ?_ (λ _=>?_) | omega | intro _))
theorem ir {r_token_scanner_interpolation r_token_scanner_interpolation':aa→Int→Option (Bool×aa)}(h_token_scanner_interpolation:∀ x0 x1,Le (r_token_scanner_interpolation x0 x1) (r_token_scanner_interpolation' x0 x1)){depth_1:Int}:∀ (m m':Nat),m≤m'→∀ (y0:aa),Le (bj r_token_scanner_interpolation depth_1 m y0) (bj r_token_scanner_interpolation' depth_1 m' y0):=by
 intro m
 induction m with
 | zero=>intro m' _ y0; exact aT _
 | succ m ih =>
 intro m' hm y0
 cases m' with
 | zero=>omega
 | succ m' =>
 simp only [bj]
 repeat' (with_reducible (first | exact aj _ | apply ih | apply h_token_scanner_interpolation | refine aX ?_ | refine aC ?_ ?_ | refine ax ?_ (λ _=>?_) | refine aY ?_ (λ _=>?_) | omega | intro _))
theorem gD {n n':Nat}(hn:n≤n'){r_token_scanner_token r_token_scanner_token':aa→Int→Option (ai×Bool×aa)}(h_token_scanner_token:∀ x0 x1,Le (r_token_scanner_token x0 x1) (r_token_scanner_token' x0 x1)){depth_1:Int}:∀ (m m':Nat),m≤m'→∀ (y0:Int) (y1:aa),Le (aV n r_token_scanner_token depth_1 m y0 y1) (aV n' r_token_scanner_token' depth_1 m' y0 y1):=by
 intro m
 induction m with
 | zero=>intro m' _ y0 y1; exact aT _
 | succ m ih =>
 intro m' hm y0 y1
 cases m' with
 | zero=>omega
 | succ m' =>
 simp only [aV]
 repeat' (with_reducible (first | exact aj _ | apply ih | apply h_token_scanner_token | apply gV | apply gv | refine aX ?_ | refine aC ?_ ?_ | refine ax ?_ (λ _=>?_) | refine aY ?_ (λ _=>?_) | omega | intro _))
theorem jV (n:Nat):∀ n':Nat,n≤n'→(∀ (x_0:aa) (depth_1:Int),Le (bf n x_0 depth_1) (bf n' x_0 depth_1))∧(∀ (x_0:aa) (depth_1:Int),Le (bX n x_0 depth_1) (bX n' x_0 depth_1))∧(∀ (x_0:aa) (depth_1:Int),Le (cS n x_0 depth_1) (cS n' x_0 depth_1))∧(∀ (x_0:aa) (depth_1:Int),Le (ba n x_0 depth_1) (ba n' x_0 depth_1)):=by
 induction n with
 | zero=>exact λ n' _=>⟨(by intro x_0 depth_1; exact aT _),(by intro x_0 depth_1; exact aT _),(by intro x_0 depth_1; exact aT _),(by intro x_0 depth_1; exact aT _)⟩
 | succ n ih =>
 intro n' hn
 cases n' with
 | zero=>omega
 | succ n' =>
 have hn':n≤n':=by omega
 obtain ⟨ih_token_scanner_token_le,ih_token_scanner_source_b_le,ih_token_scanner_source_le,ih_token_scanner_interpolation_le⟩:=ih n' hn'
 refine ⟨?_,?_,?_,?_⟩
 ·intro x_0 depth_1
  simp only [bf]
  repeat' (with_reducible (first | exact aj _ | apply ih_token_scanner_token_le | apply ih_token_scanner_source_b_le | apply ih_token_scanner_source_le | apply ih_token_scanner_interpolation_le | apply kW | apply kr | refine aX ?_ | refine aC ?_ ?_ | refine ax ?_ (λ _=>?_) | refine aY ?_ (λ _=>?_) | omega | intro _))
 ·intro x_0 depth_1
  simp only [bX]
  repeat' (with_reducible (first | exact aj _ | apply ih_token_scanner_token_le | apply ih_token_scanner_source_b_le | apply ih_token_scanner_source_le | apply ih_token_scanner_interpolation_le | apply ir | refine aX ?_ | refine aC ?_ ?_ | refine ax ?_ (λ _=>?_) | refine aY ?_ (λ _=>?_) | omega | intro _))
 ·intro x_0 depth_1
  simp only [cS]
  repeat' (with_reducible (first | exact aj _ | apply ih_token_scanner_token_le | apply ih_token_scanner_source_b_le | apply ih_token_scanner_source_le | apply ih_token_scanner_interpolation_le | refine aX ?_ | refine aC ?_ ?_ | refine ax ?_ (λ _=>?_) | refine aY ?_ (λ _=>?_) | omega | intro _))
 ·intro x_0 depth_1
  simp only [ba]
  repeat' (with_reducible (first | exact aj _ | apply ih_token_scanner_token_le | apply ih_token_scanner_source_b_le | apply ih_token_scanner_source_le | apply ih_token_scanner_interpolation_le | apply gD | refine aX ?_ | refine aC ?_ ?_ | refine ax ?_ (λ _=>?_) | refine aY ?_ (λ _=>?_) | omega | intro _))
theorem km {n n':Nat}(hn:n≤n'):∀ (x_0:aa) (depth_1:Int),Le (bf n x_0 depth_1) (bf n' x_0 depth_1):=(jV n n' hn).1
theorem nk {n n':Nat}(hn:n≤n'):∀ (m m':Nat),m≤m'→∀ (y0:List ai) (y1:aa),Le (dY n m y0 y1) (dY n' m' y0 y1):=by
 intro m
 induction m with
 | zero=>intro m' _ y0 y1; exact aT _
 | succ m ih =>
 intro m' hm y0 y1
 cases m' with
 | zero=>omega
 | succ m' =>
 simp only [dY]
 repeat' (with_reducible (first | exact aj _ | apply ih | apply gV | apply gv | apply km | refine aX ?_ | refine aC ?_ ?_ | refine ax ?_ (λ _=>?_) | refine aY ?_ (λ _=>?_) | omega | intro _))
theorem pB {n n':Nat}(hn:n≤n'){s_0:Bytes}:Le (g5 n s_0) (g5 n' s_0):=by
 simp only [g5]
 repeat' (with_reducible (first | exact aj _ | apply nk | refine aX ?_ | refine aC ?_ ?_ | refine ax ?_ (λ _=>?_) | refine aY ?_ (λ _=>?_) | omega | intro _))
theorem j2 {p_0:ab}:∀ (m m':Nat),m≤m'→∀ (y0:Int),Le (cg p_0 m y0) (cg p_0 m' y0):=by
 intro m
 induction m with
 | zero=>intro m' _ y0; exact aT _
 | succ m ih =>
 intro m' hm y0
 cases m' with
 | zero=>omega
 | succ m' =>
 simp only [cg]
 repeat' (with_reducible (first | exact aj _ | apply ih | refine aX ?_ | refine aC ?_ ?_ | refine ax ?_ (λ _=>?_) | refine aY ?_ (λ _=>?_) | omega | intro _))
theorem a8 {n n':Nat}(hn:n≤n'){p_0:ab}:Le (aP n p_0) (aP n' p_0):=by
 simp only [aP]
 repeat' (with_reducible (first | exact aj _ | apply j2 | refine aX ?_ | refine aC ?_ ?_ | refine ax ?_ (λ _=>?_) | refine aY ?_ (λ _=>?_) | omega | intro _))
theorem aM {n n':Nat}(hn:n≤n'){p_0:ab}:Le (ay n p_0) (ay n' p_0):=by
 simp only [ay]
 repeat' (with_reducible (first | exact aj _ | apply a8 | refine aX ?_ | refine aC ?_ ?_ | refine ax ?_ (λ _=>?_) | refine aY ?_ (λ _=>?_) | omega | intro _))
theorem bA {n n':Nat}(hn:n≤n'){p_0:ab}{s_1:Bytes}:Le (aJ n p_0 s_1) (aJ n' p_0 s_1):=by
 simp only [aJ]
 repeat' (with_reducible (first | exact aj _ | apply a8 | refine aX ?_ | refine aC ?_ ?_ | refine ax ?_ (λ _=>?_) | refine aY ?_ (λ _=>?_) | omega | intro _))
theorem ke {s7:Bytes}:∀ (m m':Nat),m≤m'→∀ (y0:Int),Le (cm s7 m y0) (cm s7 m' y0):=by
 intro m
 induction m with
 | zero=>intro m' _ y0; exact aT _
 | succ m ih =>
 intro m' hm y0
 cases m' with
 | zero=>omega
 | succ m' =>
 simp only [cm]
 repeat' (with_reducible (first | exact aj _ | apply ih | refine aX ?_ | refine aC ?_ ?_ | refine ax ?_ (λ _=>?_) | refine aY ?_ (λ _=>?_) | omega | intro _))
theorem lw {n n':Nat}(hn:n≤n'){s_0:Bytes}:Le (d4 n s_0) (d4 n' s_0):=by
 simp only [d4]
 repeat' (with_reducible (first | exact aj _ | apply ke | refine aX ?_ | refine aC ?_ ?_ | refine ax ?_ (λ _=>?_) | refine aY ?_ (λ _=>?_) | omega | intro _))
theorem nW {n n':Nat}(hn:n≤n'){s_0:Bytes}:Le (fZ n s_0) (fZ n' s_0):=by
 simp only [fZ]
 repeat' (with_reducible (first | exact aj _ | apply lw | refine aX ?_ | refine aC ?_ ?_ | refine ax ?_ (λ _=>?_) | refine aY ?_ (λ _=>?_) | omega | intro _))
theorem nn {v_0:ad}:∀ (m m':Nat),m≤m'→∀ (y0:Int),Le (dW v_0 m y0) (dW v_0 m' y0):=by
 intro m
 induction m with
 | zero=>intro m' _ y0; exact aT _
 | succ m ih =>
 intro m' hm y0
 cases m' with
 | zero=>omega
 | succ m' =>
 simp only [dW]
 repeat' (with_reducible (first | exact aj _ | apply ih | refine aX ?_ | refine aC ?_ ?_ | refine ax ?_ (λ _=>?_) | refine aY ?_ (λ _=>?_) | omega | intro _))
theorem pD {n n':Nat}(hn:n≤n'){v_0:ad}:Le (fH n v_0) (fH n' v_0):=by
 simp only [fH]
 repeat' (with_reducible (first | exact aj _ | apply nn | refine aX ?_ | refine aC ?_ ?_ | refine ax ?_ (λ _=>?_) | refine aY ?_ (λ _=>?_) | omega | intro _))
theorem ly {r_value_Check_1 r_value_Check_1':ad→Int→Int→Option (Int×Int)}(h_value_Check_1:∀ x0 x1 x2,Le (r_value_Check_1 x0 x1 x2) (r_value_Check_1' x0 x1 x2)){v_0:ad}{level_1:Int}:∀ (m m':Nat),m≤m'→∀ (y0:Int) (y1:Int),Le (b7 r_value_Check_1 v_0 level_1 m y0 y1) (b7 r_value_Check_1' v_0 level_1 m' y0 y1):=by
 intro m
 induction m with
 | zero=>intro m' _ y0 y1; exact aT _
 | succ m ih =>
 intro m' hm y0 y1
 cases m' with
 | zero=>omega
 | succ m' =>
 simp only [b7]
 repeat' (with_reducible (first | exact aj _ | apply ih | apply h_value_Check_1 | refine aX ?_ | refine aC ?_ ?_ | refine ax ?_ (λ _=>?_) | refine aY ?_ (λ _=>?_) | omega | intro _))
theorem mj (n:Nat):∀ n':Nat,n≤n'→(∀ (v_0:ad) (level_1:Int) (cap_0:Int),Le (b9 n v_0 level_1 cap_0) (b9 n' v_0 level_1 cap_0)):=by
 induction n with
 | zero=>exact λ n' _=>(by intro v_0 level_1 cap_0; exact aT _)
 | succ n ih =>
 intro n' hn
 cases n' with
 | zero=>omega
 | succ n' =>
 have hn':n≤n':=by omega
 have ih_value_Check_1_le:=ih n' hn'
 intro v_0 level_1 cap_0
 simp only [b9]
 repeat' (with_reducible (first | exact aj _ | apply ih_value_Check_1_le | apply pD | apply ly | refine aX ?_ | refine aC ?_ ?_ | refine ax ?_ (λ _=>?_) | refine aY ?_ (λ _=>?_) | omega | intro _))
theorem mL {n n':Nat}(hn:n≤n'):∀ (v_0:ad) (level_1:Int) (cap_0:Int),Le (b9 n v_0 level_1 cap_0) (b9 n' v_0 level_1 cap_0):=(mj n n' hn)
theorem oU {n n':Nat}(hn:n≤n'){v_0:ad}:Le (eW n v_0) (eW n' v_0):=by
 simp only [eW]
 repeat' (with_reducible (first | exact aj _ | apply mL | refine aX ?_ | refine aC ?_ ?_ | refine ax ?_ (λ _=>?_) | refine aY ?_ (λ _=>?_) | omega | intro _))
theorem kw {s_0:Bytes}:∀ (m m':Nat),m≤m'→∀ (y0:Int),Le (br s_0 m y0) (br s_0 m' y0):=by
 intro m
 induction m with
 | zero=>intro m' _ y0; exact aT _
 | succ m ih =>
 intro m' hm y0
 cases m' with
 | zero=>omega
 | succ m' =>
 simp only [br]
 repeat' (with_reducible (first | exact aj _ | apply ih | refine aX ?_ | refine aC ?_ ?_ | refine ax ?_ (λ _=>?_) | refine aY ?_ (λ _=>?_) | omega | intro _))
theorem lY {n n':Nat}(hn:n≤n'){s_0:Bytes}:Le (cK n s_0) (cK n' s_0):=by
 simp only [cK]
 repeat' (with_reducible (first | exact aj _ | apply kw | refine aX ?_ | refine aC ?_ ?_ | refine ax ?_ (λ _=>?_) | refine aY ?_ (λ _=>?_) | omega | intro _))
theorem qU {n n':Nat}(hn:n≤n'){e_0:ac}:Le (gA n e_0) (gA n' e_0):=by
 simp only [gA]
 repeat' (with_reducible (first | exact aj _ | apply oU | apply lY | refine aX ?_ | refine aC ?_ ?_ | refine ax ?_ (λ _=>?_) | refine aY ?_ (λ _=>?_) | omega | intro _))
theorem jt {r_expr_checker_visit r_expr_checker_visit':aI→ac→Int→Option (Int×aI)}(h_expr_checker_visit:∀ x0 x1 x2,Le (r_expr_checker_visit x0 x1 x2) (r_expr_checker_visit' x0 x1 x2)){e_1:ac}{level_2:Int}:∀ (m m':Nat),m≤m'→∀ (y0:Int) (y1:Int),Le (aO r_expr_checker_visit e_1 level_2 m y0 y1) (aO r_expr_checker_visit' e_1 level_2 m' y0 y1):=by
 intro m
 induction m with
 | zero=>intro m' _ y0 y1; exact aT _
 | succ m ih =>
 intro m' hm y0 y1
 cases m' with
 | zero=>omega
 | succ m' =>
 simp only [aO]
 repeat' (with_reducible (first | exact aj _ | apply ih | apply h_expr_checker_visit | refine aX ?_ | refine aC ?_ ?_ | refine ax ?_ (λ _=>?_) | refine aY ?_ (λ _=>?_) | omega | intro _))
theorem j7 (n:Nat):∀ n':Nat,n≤n'→(∀ (c_0:aI) (e_1:ac) (level_2:Int),Le (aK n c_0 e_1 level_2) (aK n' c_0 e_1 level_2)):=by
 induction n with
 | zero=>exact λ n' _=>(by intro c_0 e_1 level_2; exact aT _)
 | succ n ih =>
 intro n' hn
 cases n' with
 | zero=>omega
 | succ n' =>
 have hn':n≤n':=by omega
 have ih_expr_checker_visit_le:=ih n' hn'
 intro c_0 e_1 level_2
 simp only [aK]
 repeat' (with_reducible (first | exact aj _ | apply ih_expr_checker_visit_le | apply qU | apply jt | refine aX ?_ | refine aC ?_ ?_ | refine ax ?_ (λ _=>?_) | refine aY ?_ (λ _=>?_) | omega | intro _))
theorem kA {n n':Nat}(hn:n≤n'):∀ (c_0:aI) (e_1:ac) (level_2:Int),Le (aK n c_0 e_1 level_2) (aK n' c_0 e_1 level_2):=(j7 n n' hn)
theorem pM {n n':Nat}(hn:n≤n'){e_0:ac}:Le (eZ n e_0) (eZ n' e_0):=by
 simp only [eZ]
 repeat' (with_reducible (first | exact aj _ | apply kA | refine aX ?_ | refine aC ?_ ?_ | refine ax ?_ (λ _=>?_) | refine aY ?_ (λ _=>?_) | omega | intro _))
theorem kB {n n':Nat}(hn:n≤n'){e_0:ac}{d_1:ao}:Le (fP n e_0 d_1) (fP n' e_0 d_1):=by
 simp only [fP]
 repeat' (with_reducible (first | exact aj _ | apply pM | refine aX ?_ | refine aC ?_ ?_ | refine ax ?_ (λ _=>?_) | refine aY ?_ (λ _=>?_) | omega | intro _))
theorem lV {r_expr_quoted r_expr_quoted':Bytes→Int→Option Int}(h_expr_quoted:∀ x0 x1,Le (r_expr_quoted x0 x1) (r_expr_quoted' x0 x1)){s_0:Bytes}:∀ (m m':Nat),m≤m'→∀ (y0:Int) (y1:Int),Le (dp r_expr_quoted s_0 m y0 y1) (dp r_expr_quoted' s_0 m' y0 y1):=by
 intro m
 induction m with
 | zero=>intro m' _ y0 y1; exact aT _
 | succ m ih =>
 intro m' hm y0 y1
 cases m' with
 | zero=>omega
 | succ m' =>
 simp only [dp]
 repeat' (with_reducible (first | exact aj _ | apply ih | apply h_expr_quoted | refine aX ?_ | refine aC ?_ ?_ | refine ax ?_ (λ _=>?_) | refine aY ?_ (λ _=>?_) | omega | intro _))
theorem me {r_expr_closing r_expr_closing':Bytes→Int→Option Int}(h_expr_closing:∀ x0 x1,Le (r_expr_closing x0 x1) (r_expr_closing' x0 x1)){s_0:Bytes}:∀ (m m':Nat),m≤m'→∀ (y0:Int),Le (dJ r_expr_closing s_0 m y0) (dJ r_expr_closing' s_0 m' y0):=by
 intro m
 induction m with
 | zero=>intro m' _ y0; exact aT _
 | succ m ih =>
 intro m' hm y0
 cases m' with
 | zero=>omega
 | succ m' =>
 simp only [dJ]
 repeat' (with_reducible (first | exact aj _ | apply ih | apply h_expr_closing | refine aX ?_ | refine aC ?_ ?_ | refine ax ?_ (λ _=>?_) | refine aY ?_ (λ _=>?_) | omega | intro _))
theorem ny (n:Nat):∀ n':Nat,n≤n'→(∀ (s_0:Bytes) (i_1:Int),Le (cM n s_0 i_1) (cM n' s_0 i_1))∧(∀ (s_0:Bytes) (i_1:Int),Le (eT n s_0 i_1) (eT n' s_0 i_1)):=by
 induction n with
 | zero=>exact λ n' _=>⟨(by intro s_0 i_1; exact aT _),(by intro s_0 i_1; exact aT _)⟩
 | succ n ih =>
 intro n' hn
 cases n' with
 | zero=>omega
 | succ n' =>
 have hn':n≤n':=by omega
 obtain ⟨ih_expr_closing_le,ih_expr_quoted_le⟩:=ih n' hn'
 refine ⟨?_,?_⟩
 ·intro s_0 i_1
  simp only [cM]
  repeat' (with_reducible (first | exact aj _ | apply ih_expr_closing_le | apply ih_expr_quoted_le | apply lV | refine aX ?_ | refine aC ?_ ?_ | refine ax ?_ (λ _=>?_) | refine aY ?_ (λ _=>?_) | omega | intro _))
 ·intro s_0 i_1
  simp only [eT]
  repeat' (with_reducible (first | exact aj _ | apply ih_expr_closing_le | apply ih_expr_quoted_le | apply me | refine aX ?_ | refine aC ?_ ?_ | refine ax ?_ (λ _=>?_) | refine aY ?_ (λ _=>?_) | omega | intro _))
theorem oc {n n':Nat}(hn:n≤n'):∀ (s_0:Bytes) (i_1:Int),Le (cM n s_0 i_1) (cM n' s_0 i_1):=(ny n n' hn).1
theorem kf {s_0:Bytes}:∀ (m m':Nat),m≤m'→∀ (y0:Int),Le (cj s_0 m y0) (cj s_0 m' y0):=by
 intro m
 induction m with
 | zero=>intro m' _ y0; exact aT _
 | succ m ih =>
 intro m' hm y0
 cases m' with
 | zero=>omega
 | succ m' =>
 simp only [cj]
 repeat' (with_reducible (first | exact aj _ | apply ih | refine aX ?_ | refine aC ?_ ?_ | refine ax ?_ (λ _=>?_) | refine aY ?_ (λ _=>?_) | omega | intro _))
theorem lz {n n':Nat}(hn:n≤n'){s_0:Bytes}:Le (d5 n s_0) (d5 n' s_0):=by
 simp only [d5]
 repeat' (with_reducible (first | exact aj _ | apply kf | refine aX ?_ | refine aC ?_ ?_ | refine ax ?_ (λ _=>?_) | refine aY ?_ (λ _=>?_) | omega | intro _))
theorem jr {s_0:Bytes}:∀ (m m':Nat),m≤m'→∀ (y0:Int) (y1:Int),Le (bO s_0 m y0 y1) (bO s_0 m' y0 y1):=by
 intro m
 induction m with
 | zero=>intro m' _ y0 y1; exact aT _
 | succ m ih =>
 intro m' hm y0 y1
 cases m' with
 | zero=>omega
 | succ m' =>
 simp only [bO]
 repeat' (with_reducible (first | exact aj _ | apply ih | refine aX ?_ | refine aC ?_ ?_ | refine ax ?_ (λ _=>?_) | refine aY ?_ (λ _=>?_) | omega | intro _))
theorem kx {n n':Nat}(hn:n≤n'){s_0:Bytes}:Le (dw n s_0) (dw n' s_0):=by
 simp only [dw]
 repeat' (with_reducible (first | exact aj _ | apply jr | refine aX ?_ | refine aC ?_ ?_ | refine ax ?_ (λ _=>?_) | refine aY ?_ (λ _=>?_) | omega | intro _))
theorem nj {n n':Nat}(hn:n≤n'){s_0:Bytes}:Le (fx n s_0) (fx n' s_0):=by
 simp only [fx]
 repeat' (with_reducible (first | exact aj _ | apply kx | refine aX ?_ | refine aC ?_ ?_ | refine ax ?_ (λ _=>?_) | refine aY ?_ (λ _=>?_) | omega | intro _))
theorem lf {n n':Nat}(hn:n≤n'){s_0:Bytes}:∀ (m m':Nat),m≤m'→∀ (y0:Int) (y1:List UInt8),Le (cE n s_0 m y0 y1) (cE n' s_0 m' y0 y1):=by
 intro m
 induction m with
 | zero=>intro m' _ y0 y1; exact aT _
 | succ m ih =>
 intro m' hm y0 y1
 cases m' with
 | zero=>omega
 | succ m' =>
 simp only [cE]
 repeat' (with_reducible (first | exact aj _ | apply ih | apply nj | refine aX ?_ | refine aC ?_ ?_ | refine ax ?_ (λ _=>?_) | refine aY ?_ (λ _=>?_) | omega | intro _))
theorem mF {n n':Nat}(hn:n≤n'){s_0:Bytes}:Le (eC n s_0) (eC n' s_0):=by
 simp only [eC]
 repeat' (with_reducible (first | exact aj _ | apply lf | refine aX ?_ | refine aC ?_ ?_ | refine ax ?_ (λ _=>?_) | refine aY ?_ (λ _=>?_) | omega | intro _))
theorem oH {n n':Nat}(hn:n≤n'){s_0:Bytes}:Le (gC n s_0) (gC n' s_0):=by
 simp only [gC]
 repeat' (with_reducible (first | exact aj _ | apply lz | apply mF | refine aX ?_ | refine aC ?_ ?_ | refine ax ?_ (λ _=>?_) | refine aY ?_ (λ _=>?_) | omega | intro _))
theorem kz {n n':Nat}(hn:n≤n'){t_0:af}:Le (dC n t_0) (dC n' t_0):=by
 simp only [dC]
 repeat' (with_reducible (first | exact aj _ | apply oH | refine aX ?_ | refine aC ?_ ?_ | refine ax ?_ (λ _=>?_) | refine aY ?_ (λ _=>?_) | omega | intro _))
theorem eA {n n':Nat}(hn:n≤n'){p_0:ab}:Le (bQ n p_0) (bQ n' p_0):=by
 simp only [bQ]
 repeat' (with_reducible (first | exact aj _ | apply aM | refine aX ?_ | refine aC ?_ ?_ | refine ax ?_ (λ _=>?_) | refine aY ?_ (λ _=>?_) | omega | intro _))
theorem ey {n n':Nat}(hn:n≤n'){p_0:ab}{s_1:Bytes}:Le (cb n p_0 s_1) (cb n' p_0 s_1):=by
 simp only [cb]
 repeat' (with_reducible (first | exact aj _ | apply bA | apply a8 | apply aM | refine aX ?_ | refine aC ?_ ?_ | refine ax ?_ (λ _=>?_) | refine aY ?_ (λ _=>?_) | omega | intro _))
theorem dI {n n':Nat}(hn:n≤n'){p_0:ab}{s_1:Bytes}:Le (bp n p_0 s_1) (bp n' p_0 s_1):=by
 simp only [bp]
 repeat' (with_reducible (first | exact aj _ | apply ey | refine aX ?_ | refine aC ?_ ?_ | refine ax ?_ (λ _=>?_) | refine aY ?_ (λ _=>?_) | omega | intro _))
theorem ge {n n':Nat}(hn:n≤n'){p_0:ab}{s_1:Bytes}:Le (cC n p_0 s_1) (cC n' p_0 s_1):=by
 simp only [cC]
 repeat' (with_reducible (first | exact aj _ | apply a8 | refine aX ?_ | refine aC ?_ ?_ | refine ax ?_ (λ _=>?_) | refine aY ?_ (λ _=>?_) | omega | intro _))
theorem jH {n n':Nat}(hn:n≤n'){p_0:ab}:Le (cx n p_0) (cx n' p_0):=by
 simp only [cx]
 repeat' (with_reducible (first | exact aj _ | apply a8 | apply aM | refine aX ?_ | refine aC ?_ ?_ | refine ax ?_ (λ _=>?_) | refine aY ?_ (λ _=>?_) | omega | intro _))
theorem kh {n n':Nat}(hn:n≤n'){p_0:ab}{s_1:Bytes}:Le (dj n p_0 s_1) (dj n' p_0 s_1):=by
 simp only [dj]
 repeat' (with_reducible (first | exact aj _ | apply ge | apply a8 | apply aM | refine aX ?_ | refine aC ?_ ?_ | refine ax ?_ (λ _=>?_) | refine aY ?_ (λ _=>?_) | omega | intro _))
theorem jZ {n n':Nat}(hn:n≤n'){l_1:List Bytes}:∀ (m m':Nat),m≤m'→∀ (y0:Int) (y1:List ai) (y2:Int) (y3:Int) (y4:Int) (y5:Int) (y6:Int) (y7:Bytes),Le (bV n l_1 m y0 y1 y2 y3 y4 y5 y6 y7) (bV n' l_1 m' y0 y1 y2 y3 y4 y5 y6 y7):=by
 intro m
 induction m with
 | zero=>intro m' _ y0 y1 y2 y3 y4 y5 y6 y7; exact aT _
 | succ m ih =>
 intro m' hm y0 y1 y2 y3 y4 y5 y6 y7
 cases m' with
 | zero=>omega
 | succ m' =>
 simp only [bV]
 repeat' (with_reducible (first | exact aj _ | apply ih | apply bA | refine aX ?_ | refine aC ?_ ?_ | refine ax ?_ (λ _=>?_) | refine aY ?_ (λ _=>?_) | omega | intro _))
theorem kC {n n':Nat}(hn:n≤n'){p_0:ab}{l_1:List Bytes}:Le (dK n p_0 l_1) (dK n' p_0 l_1):=by
 simp only [dK]
 repeat' (with_reducible (first | exact aj _ | apply jZ | refine aX ?_ | refine aC ?_ ?_ | refine ax ?_ (λ _=>?_) | refine aY ?_ (λ _=>?_) | omega | intro _))
theorem pQ {s_0:Bytes}:∀ (m m':Nat),m≤m'→∀ (y0:Int),Le (fO s_0 m y0) (fO s_0 m' y0):=by
 intro m
 induction m with
 | zero=>intro m' _ y0; exact aT _
 | succ m ih =>
 intro m' hm y0
 cases m' with
 | zero=>omega
 | succ m' =>
 simp only [fO]
 repeat' (with_reducible (first | exact aj _ | apply ih | refine aX ?_ | refine aC ?_ ?_ | refine ax ?_ (λ _=>?_) | refine aY ?_ (λ _=>?_) | omega | intro _))
theorem ta {n n':Nat}(hn:n≤n'){s_0:Bytes}:Le (ll n s_0) (ll n' s_0):=by
 simp only [ll]
 repeat' (with_reducible (first | exact aj _ | apply pQ | refine aX ?_ | refine aC ?_ ?_ | refine ax ?_ (λ _=>?_) | refine aY ?_ (λ _=>?_) | omega | intro _))
theorem jy {n n':Nat}(hn:n≤n'){r_expr_template_interpolation r_expr_template_interpolation':af→Option (ao×af)}(h_expr_template_interpolation:∀ x0,Le (r_expr_template_interpolation x0) (r_expr_template_interpolation' x0)):∀ (m m':Nat),m≤m'→∀ (y0:Bytes) (y1:Int) (y2:Int) (y3:Int) (y4:Bytes) (y5:List ac) (y6:Bool),Le (bK n r_expr_template_interpolation m y0 y1 y2 y3 y4 y5 y6) (bK n' r_expr_template_interpolation' m' y0 y1 y2 y3 y4 y5 y6):=by
 intro m
 induction m with
 | zero=>intro m' _ y0 y1 y2 y3 y4 y5 y6; exact aT _
 | succ m ih =>
 intro m' hm y0 y1 y2 y3 y4 y5 y6
 cases m' with
 | zero=>omega
 | succ m' =>
 simp only [bK]
 repeat' (with_reducible (first | exact aj _ | apply ih | apply h_expr_template_interpolation | apply kz | refine aX ?_ | refine aC ?_ ?_ | refine ax ?_ (λ _=>?_) | refine aY ?_ (λ _=>?_) | omega | intro _))
theorem jw {n n':Nat}(hn:n≤n'){r_expr_parser_binary r_expr_parser_binary':ab→Int→Option (ac×ab)}(h_expr_parser_binary:∀ x0 x1,Le (r_expr_parser_binary x0 x1) (r_expr_parser_binary' x0 x1)){level_1:Int}{r5:ac×ab}:∀ (m m':Nat),m≤m'→∀ (y0:Int) (y1:Int) (y2:Bytes) (y3:Bytes) (y4:Int) (y5:Int) (y6:Bytes) (y7:List ad) (y8:List Bytes) (y9:List ac) (y10:List ai) (y11:Int) (y12:Int) (y13:Int) (y14:Int) (y15:Int) (y16:Bytes),Le (bM n r_expr_parser_binary level_1 r5 m y0 y1 y2 y3 y4 y5 y6 y7 y8 y9 y10 y11 y12 y13 y14 y15 y16) (bM n' r_expr_parser_binary' level_1 r5 m' y0 y1 y2 y3 y4 y5 y6 y7 y8 y9 y10 y11 y12 y13 y14 y15 y16):=by
 intro m
 induction m with
 | zero=>intro m' _ y0 y1 y2 y3 y4 y5 y6 y7 y8 y9 y10 y11 y12 y13 y14 y15 y16; exact aT _
 | succ m ih =>
 intro m' hm y0 y1 y2 y3 y4 y5 y6 y7 y8 y9 y10 y11 y12 y13 y14 y15 y16
 cases m' with
 | zero=>omega
 | succ m' =>
 simp only [bM]
 repeat' (with_reducible (first | exact aj _ | apply ih | apply h_expr_parser_binary | apply kC | apply aM | apply ta | refine aX ?_ | refine aC ?_ ?_ | refine ax ?_ (λ _=>?_) | refine aY ?_ (λ _=>?_) | omega | intro _))
theorem jh {n n':Nat}(hn:n≤n'){r_expr_parser_expr r_expr_parser_expr':ab→Option (ac×ab)}(h_expr_parser_expr:∀ x0,Le (r_expr_parser_expr x0) (r_expr_parser_expr' x0)){r1:ac×ab}:∀ (m m':Nat),m≤m'→∀ (y0:Int) (y1:Int) (y2:Bytes) (y3:Bytes) (y4:Int) (y5:Int) (y6:Bytes) (y7:List ad) (y8:List Bytes) (y9:List ac) (y10:List ai) (y11:Int) (y12:Int) (y13:Int) (y14:Int) (y15:Int) (y16:Bytes),Le (bE n r_expr_parser_expr r1 m y0 y1 y2 y3 y4 y5 y6 y7 y8 y9 y10 y11 y12 y13 y14 y15 y16) (bE n' r_expr_parser_expr' r1 m' y0 y1 y2 y3 y4 y5 y6 y7 y8 y9 y10 y11 y12 y13 y14 y15 y16):=by
 intro m
 induction m with
 | zero=>intro m' _ y0 y1 y2 y3 y4 y5 y6 y7 y8 y9 y10 y11 y12 y13 y14 y15 y16; exact aT _
 | succ m ih =>
 intro m' hm y0 y1 y2 y3 y4 y5 y6 y7 y8 y9 y10 y11 y12 y13 y14 y15 y16
 cases m' with
 | zero=>omega
 | succ m' =>
 simp only [bE]
 repeat' (with_reducible (first | exact aj _ | apply ih | apply h_expr_parser_expr | apply bA | apply aM | apply a8 | apply eA | apply dI | refine aX ?_ | refine aC ?_ ?_ | refine ax ?_ (λ _=>?_) | refine aY ?_ (λ _=>?_) | omega | intro _))
theorem j5 {n n':Nat}(hn:n≤n'){r_expr_parser_expr r_expr_parser_expr':ab→Option (ac×ab)}(h_expr_parser_expr:∀ x0,Le (r_expr_parser_expr x0) (r_expr_parser_expr' x0)){end_1:Bytes}:∀ (m m':Nat),m≤m'→∀ (y0:List ac) (y1:List ai) (y2:Int) (y3:Int) (y4:Int) (y5:Int) (y6:Int) (y7:Bytes),Le (cn n r_expr_parser_expr end_1 m y0 y1 y2 y3 y4 y5 y6 y7) (cn n' r_expr_parser_expr' end_1 m' y0 y1 y2 y3 y4 y5 y6 y7):=by
 intro m
 induction m with
 | zero=>intro m' _ y0 y1 y2 y3 y4 y5 y6 y7; exact aT _
 | succ m ih =>
 intro m' hm y0 y1 y2 y3 y4 y5 y6 y7
 cases m' with
 | zero=>omega
 | succ m' =>
 simp only [cn]
 repeat' (with_reducible (first | exact aj _ | apply ih | apply h_expr_parser_expr | apply bA | apply aM | refine aX ?_ | refine aC ?_ ?_ | refine ax ?_ (λ _=>?_) | refine aY ?_ (λ _=>?_) | omega | intro _))
theorem jg {n n':Nat}(hn:n≤n'){r_expr_parser_expr r_expr_parser_expr':ab→Option (ac×ab)}(h_expr_parser_expr:∀ x0,Le (r_expr_parser_expr x0) (r_expr_parser_expr' x0)){r_expr_parser_key r_expr_parser_key':ab→Option (ac×ab)}(h_expr_parser_key:∀ x0,Le (r_expr_parser_key x0) (r_expr_parser_key' x0)):∀ (m m':Nat),m≤m'→∀ (y0:List ac) (y1:List ai) (y2:Int) (y3:Int) (y4:Int) (y5:Int) (y6:Int) (y7:Bytes),Le (bG n r_expr_parser_expr r_expr_parser_key m y0 y1 y2 y3 y4 y5 y6 y7) (bG n' r_expr_parser_expr' r_expr_parser_key' m' y0 y1 y2 y3 y4 y5 y6 y7):=by
 intro m
 induction m with
 | zero=>intro m' _ y0 y1 y2 y3 y4 y5 y6 y7; exact aT _
 | succ m ih =>
 intro m' hm y0 y1 y2 y3 y4 y5 y6 y7
 cases m' with
 | zero=>omega
 | succ m' =>
 simp only [bG]
 repeat' (with_reducible (first | exact aj _ | apply ih | apply h_expr_parser_expr | apply h_expr_parser_key | apply bA | apply ey | apply aM | refine aX ?_ | refine aC ?_ ?_ | refine ax ?_ (λ _=>?_) | refine aY ?_ (λ _=>?_) | omega | intro _))
theorem mH (n:Nat):∀ n':Nat,n≤n'→(∀ (s_0:Bytes) (at_1:Int),Le (fz n s_0 at_1) (fz n' s_0 at_1))∧(∀ (s_0:Bytes) (base_1:Int),Le (eq n s_0 base_1) (eq n' s_0 base_1))∧(∀ (t_0:af),Le (dB n t_0) (dB n' t_0))∧(∀ (p_0:ab),Le (aB n p_0) (aB n' p_0))∧(∀ (t_0:af),Le (bb n t_0) (bb n' t_0))∧(∀ (p_0:ab) (level_1:Int),Le (bH n p_0 level_1) (bH n' p_0 level_1))∧(∀ (p_0:ab),Le (db n p_0) (db n' p_0))∧(∀ (p_0:ab),Le (dl n p_0) (dl n' p_0))∧(∀ (p_0:ab),Le (di n p_0) (di n' p_0))∧(∀ (p_0:ab),Le (dv n p_0) (dv n' p_0))∧(∀ (p_0:ab),Le (d6 n p_0) (d6 n' p_0))∧(∀ (p_0:ab),Le (cT n p_0) (cT n' p_0))∧(∀ (p_0:ab) (end_1:Bytes),Le (dz n p_0 end_1) (dz n' p_0 end_1))∧(∀ (p_0:ab) (at_1:Int) (k_2:Int),Le (dy n p_0 at_1 k_2) (dy n' p_0 at_1 k_2))∧(∀ (p_0:ab),Le (dk n p_0) (dk n' p_0))∧(∀ (p_0:ab),Le (dm n p_0) (dm n' p_0)):=by
 induction n with
 | zero=>exact λ n' _=>⟨(by intro s_0 at_1; exact aT _),(by intro s_0 base_1; exact aT _),(by intro t_0; exact aT _),(by intro p_0; exact aT _),(by intro t_0; exact aT _),(by intro p_0 level_1; exact aT _),(by intro p_0; exact aT _),(by intro p_0; exact aT _),(by intro p_0; exact aT _),(by intro p_0; exact aT _),(by intro p_0; exact aT _),(by intro p_0; exact aT _),(by intro p_0 end_1; exact aT _),(by intro p_0 at_1 k_2; exact aT _),(by intro p_0; exact aT _),(by intro p_0; exact aT _)⟩
 | succ n ih =>
 intro n' hn
 cases n' with
 | zero=>omega
 | succ n' =>
 have hn':n≤n':=by omega
 obtain ⟨ih_expr_Template_le,ih_expr_whole_le,ih_expr_template_read_le,ih_expr_parser_expr_le,ih_expr_template_interpolation_le,ih_expr_parser_binary_le,ih_expr_parser_unary_le,ih_expr_parser_postfix_le,ih_expr_parser_primary_le,ih_expr_parser_text_le,ih_expr_parser_name_le,ih_expr_parser_enclosed_le,ih_expr_parser_list_le,ih_expr_parser_loop_le,ih_expr_parser_entries_le,ih_expr_parser_key_le⟩:=ih n' hn'
 refine ⟨?_,?_,?_,?_,?_,?_,?_,?_,?_,?_,?_,?_,?_,?_,?_,?_⟩
 ·intro s_0 at_1
  simp only [fz]
  repeat' (with_reducible (first | exact aj _ | apply ih_expr_Template_le | apply ih_expr_whole_le | apply ih_expr_template_read_le | apply ih_expr_parser_expr_le | apply ih_expr_template_interpolation_le | apply ih_expr_parser_binary_le | apply ih_expr_parser_unary_le | apply ih_expr_parser_postfix_le | apply ih_expr_parser_primary_le | apply ih_expr_parser_text_le | apply ih_expr_parser_name_le | apply ih_expr_parser_enclosed_le | apply ih_expr_parser_list_le | apply ih_expr_parser_loop_le | apply ih_expr_parser_entries_le | apply ih_expr_parser_key_le | apply kB | refine aX ?_ | refine aC ?_ ?_ | refine ax ?_ (λ _=>?_) | refine aY ?_ (λ _=>?_) | omega | intro _))
 ·intro s_0 base_1
  simp only [eq]
  repeat' (with_reducible (first | exact aj _ | apply ih_expr_Template_le | apply ih_expr_whole_le | apply ih_expr_template_read_le | apply ih_expr_parser_expr_le | apply ih_expr_template_interpolation_le | apply ih_expr_parser_binary_le | apply ih_expr_parser_unary_le | apply ih_expr_parser_postfix_le | apply ih_expr_parser_primary_le | apply ih_expr_parser_text_le | apply ih_expr_parser_name_le | apply ih_expr_parser_enclosed_le | apply ih_expr_parser_list_le | apply ih_expr_parser_loop_le | apply ih_expr_parser_entries_le | apply ih_expr_parser_key_le | apply pB | apply a8 | refine aX ?_ | refine aC ?_ ?_ | refine ax ?_ (λ _=>?_) | refine aY ?_ (λ _=>?_) | omega | intro _))
 ·intro t_0
  simp only [dB]
  repeat' (with_reducible (first | exact aj _ | apply ih_expr_Template_le | apply ih_expr_whole_le | apply ih_expr_template_read_le | apply ih_expr_parser_expr_le | apply ih_expr_template_interpolation_le | apply ih_expr_parser_binary_le | apply ih_expr_parser_unary_le | apply ih_expr_parser_postfix_le | apply ih_expr_parser_primary_le | apply ih_expr_parser_text_le | apply ih_expr_parser_name_le | apply ih_expr_parser_enclosed_le | apply ih_expr_parser_list_le | apply ih_expr_parser_loop_le | apply ih_expr_parser_entries_le | apply ih_expr_parser_key_le | apply jy | refine aX ?_ | refine aC ?_ ?_ | refine ax ?_ (λ _=>?_) | refine aY ?_ (λ _=>?_) | omega | intro _))
 ·intro p_0
  simp only [aB]
  repeat' (with_reducible (first | exact aj _ | apply ih_expr_Template_le | apply ih_expr_whole_le | apply ih_expr_template_read_le | apply ih_expr_parser_expr_le | apply ih_expr_template_interpolation_le | apply ih_expr_parser_binary_le | apply ih_expr_parser_unary_le | apply ih_expr_parser_postfix_le | apply ih_expr_parser_primary_le | apply ih_expr_parser_text_le | apply ih_expr_parser_name_le | apply ih_expr_parser_enclosed_le | apply ih_expr_parser_list_le | apply ih_expr_parser_loop_le | apply ih_expr_parser_entries_le | apply ih_expr_parser_key_le | apply bA | apply aM | apply ey | refine aX ?_ | refine aC ?_ ?_ | refine ax ?_ (λ _=>?_) | refine aY ?_ (λ _=>?_) | omega | intro _))
 ·intro t_0
  simp only [bb]
  repeat' (with_reducible (first | exact aj _ | apply ih_expr_Template_le | apply ih_expr_whole_le | apply ih_expr_template_read_le | apply ih_expr_parser_expr_le | apply ih_expr_template_interpolation_le | apply ih_expr_parser_binary_le | apply ih_expr_parser_unary_le | apply ih_expr_parser_postfix_le | apply ih_expr_parser_primary_le | apply ih_expr_parser_text_le | apply ih_expr_parser_name_le | apply ih_expr_parser_enclosed_le | apply ih_expr_parser_list_le | apply ih_expr_parser_loop_le | apply ih_expr_parser_entries_le | apply ih_expr_parser_key_le | apply oc | refine aX ?_ | refine aC ?_ ?_ | refine ax ?_ (λ _=>?_) | refine aY ?_ (λ _=>?_) | omega | intro _))
 ·intro p_0 level_1
  simp only [bH]
  repeat' (with_reducible (first | exact aj _ | apply ih_expr_Template_le | apply ih_expr_whole_le | apply ih_expr_template_read_le | apply ih_expr_parser_expr_le | apply ih_expr_template_interpolation_le | apply ih_expr_parser_binary_le | apply ih_expr_parser_unary_le | apply ih_expr_parser_postfix_le | apply ih_expr_parser_primary_le | apply ih_expr_parser_text_le | apply ih_expr_parser_name_le | apply ih_expr_parser_enclosed_le | apply ih_expr_parser_list_le | apply ih_expr_parser_loop_le | apply ih_expr_parser_entries_le | apply ih_expr_parser_key_le | apply jw | refine aX ?_ | refine aC ?_ ?_ | refine ax ?_ (λ _=>?_) | refine aY ?_ (λ _=>?_) | omega | intro _))
 ·intro p_0
  simp only [db]
  repeat' (with_reducible (first | exact aj _ | apply ih_expr_Template_le | apply ih_expr_whole_le | apply ih_expr_template_read_le | apply ih_expr_parser_expr_le | apply ih_expr_template_interpolation_le | apply ih_expr_parser_binary_le | apply ih_expr_parser_unary_le | apply ih_expr_parser_postfix_le | apply ih_expr_parser_primary_le | apply ih_expr_parser_text_le | apply ih_expr_parser_name_le | apply ih_expr_parser_enclosed_le | apply ih_expr_parser_list_le | apply ih_expr_parser_loop_le | apply ih_expr_parser_entries_le | apply ih_expr_parser_key_le | apply bA | apply aM | refine aX ?_ | refine aC ?_ ?_ | refine ax ?_ (λ _=>?_) | refine aY ?_ (λ _=>?_) | omega | intro _))
 ·intro p_0
  simp only [dl]
  repeat' (with_reducible (first | exact aj _ | apply ih_expr_Template_le | apply ih_expr_whole_le | apply ih_expr_template_read_le | apply ih_expr_parser_expr_le | apply ih_expr_template_interpolation_le | apply ih_expr_parser_binary_le | apply ih_expr_parser_unary_le | apply ih_expr_parser_postfix_le | apply ih_expr_parser_primary_le | apply ih_expr_parser_text_le | apply ih_expr_parser_name_le | apply ih_expr_parser_enclosed_le | apply ih_expr_parser_list_le | apply ih_expr_parser_loop_le | apply ih_expr_parser_entries_le | apply ih_expr_parser_key_le | apply jh | refine aX ?_ | refine aC ?_ ?_ | refine ax ?_ (λ _=>?_) | refine aY ?_ (λ _=>?_) | omega | intro _))
 ·intro p_0
  simp only [di]
  repeat' (with_reducible (first | exact aj _ | apply ih_expr_Template_le | apply ih_expr_whole_le | apply ih_expr_template_read_le | apply ih_expr_parser_expr_le | apply ih_expr_template_interpolation_le | apply ih_expr_parser_binary_le | apply ih_expr_parser_unary_le | apply ih_expr_parser_postfix_le | apply ih_expr_parser_primary_le | apply ih_expr_parser_text_le | apply ih_expr_parser_name_le | apply ih_expr_parser_enclosed_le | apply ih_expr_parser_list_le | apply ih_expr_parser_loop_le | apply ih_expr_parser_entries_le | apply ih_expr_parser_key_le | apply a8 | apply nW | apply aM | refine aX ?_ | refine aC ?_ ?_ | refine ax ?_ (λ _=>?_) | refine aY ?_ (λ _=>?_) | omega | intro _))
 ·intro p_0
  simp only [dv]
  repeat' (with_reducible (first | exact aj _ | apply ih_expr_Template_le | apply ih_expr_whole_le | apply ih_expr_template_read_le | apply ih_expr_parser_expr_le | apply ih_expr_template_interpolation_le | apply ih_expr_parser_binary_le | apply ih_expr_parser_unary_le | apply ih_expr_parser_postfix_le | apply ih_expr_parser_primary_le | apply ih_expr_parser_text_le | apply ih_expr_parser_name_le | apply ih_expr_parser_enclosed_le | apply ih_expr_parser_list_le | apply ih_expr_parser_loop_le | apply ih_expr_parser_entries_le | apply ih_expr_parser_key_le | apply a8 | apply aM | refine aX ?_ | refine aC ?_ ?_ | refine ax ?_ (λ _=>?_) | refine aY ?_ (λ _=>?_) | omega | intro _))
 ·intro p_0
  simp only [d6]
  repeat' (with_reducible (first | exact aj _ | apply ih_expr_Template_le | apply ih_expr_whole_le | apply ih_expr_template_read_le | apply ih_expr_parser_expr_le | apply ih_expr_template_interpolation_le | apply ih_expr_parser_binary_le | apply ih_expr_parser_unary_le | apply ih_expr_parser_postfix_le | apply ih_expr_parser_primary_le | apply ih_expr_parser_text_le | apply ih_expr_parser_name_le | apply ih_expr_parser_enclosed_le | apply ih_expr_parser_list_le | apply ih_expr_parser_loop_le | apply ih_expr_parser_entries_le | apply ih_expr_parser_key_le | apply a8 | apply aM | apply bA | apply eA | apply dI | refine aX ?_ | refine aC ?_ ?_ | refine ax ?_ (λ _=>?_) | refine aY ?_ (λ _=>?_) | omega | intro _))
 ·intro p_0
  simp only [cT]
  repeat' (with_reducible (first | exact aj _ | apply ih_expr_Template_le | apply ih_expr_whole_le | apply ih_expr_template_read_le | apply ih_expr_parser_expr_le | apply ih_expr_template_interpolation_le | apply ih_expr_parser_binary_le | apply ih_expr_parser_unary_le | apply ih_expr_parser_postfix_le | apply ih_expr_parser_primary_le | apply ih_expr_parser_text_le | apply ih_expr_parser_name_le | apply ih_expr_parser_enclosed_le | apply ih_expr_parser_list_le | apply ih_expr_parser_loop_le | apply ih_expr_parser_entries_le | apply ih_expr_parser_key_le | apply a8 | apply eA | apply dI | apply ge | refine aX ?_ | refine aC ?_ ?_ | refine ax ?_ (λ _=>?_) | refine aY ?_ (λ _=>?_) | omega | intro _))
 ·intro p_0 end_1
  simp only [dz]
  repeat' (with_reducible (first | exact aj _ | apply ih_expr_Template_le | apply ih_expr_whole_le | apply ih_expr_template_read_le | apply ih_expr_parser_expr_le | apply ih_expr_template_interpolation_le | apply ih_expr_parser_binary_le | apply ih_expr_parser_unary_le | apply ih_expr_parser_postfix_le | apply ih_expr_parser_primary_le | apply ih_expr_parser_text_le | apply ih_expr_parser_name_le | apply ih_expr_parser_enclosed_le | apply ih_expr_parser_list_le | apply ih_expr_parser_loop_le | apply ih_expr_parser_entries_le | apply ih_expr_parser_key_le | apply j5 | refine aX ?_ | refine aC ?_ ?_ | refine ax ?_ (λ _=>?_) | refine aY ?_ (λ _=>?_) | omega | intro _))
 ·intro p_0 at_1 k_2
  simp only [dy]
  repeat' (with_reducible (first | exact aj _ | apply ih_expr_Template_le | apply ih_expr_whole_le | apply ih_expr_template_read_le | apply ih_expr_parser_expr_le | apply ih_expr_template_interpolation_le | apply ih_expr_parser_binary_le | apply ih_expr_parser_unary_le | apply ih_expr_parser_postfix_le | apply ih_expr_parser_primary_le | apply ih_expr_parser_text_le | apply ih_expr_parser_name_le | apply ih_expr_parser_enclosed_le | apply ih_expr_parser_list_le | apply ih_expr_parser_loop_le | apply ih_expr_parser_entries_le | apply ih_expr_parser_key_le | apply aM | apply jH | apply bA | apply kh | apply ey | apply ge | apply dI | refine aX ?_ | refine aC ?_ ?_ | refine ax ?_ (λ _=>?_) | refine aY ?_ (λ _=>?_) | omega | intro _))
 ·intro p_0
  simp only [dk]
  repeat' (with_reducible (first | exact aj _ | apply ih_expr_Template_le | apply ih_expr_whole_le | apply ih_expr_template_read_le | apply ih_expr_parser_expr_le | apply ih_expr_template_interpolation_le | apply ih_expr_parser_binary_le | apply ih_expr_parser_unary_le | apply ih_expr_parser_postfix_le | apply ih_expr_parser_primary_le | apply ih_expr_parser_text_le | apply ih_expr_parser_name_le | apply ih_expr_parser_enclosed_le | apply ih_expr_parser_list_le | apply ih_expr_parser_loop_le | apply ih_expr_parser_entries_le | apply ih_expr_parser_key_le | apply jg | refine aX ?_ | refine aC ?_ ?_ | refine ax ?_ (λ _=>?_) | refine aY ?_ (λ _=>?_) | omega | intro _))
 ·intro p_0
  simp only [dm]
  repeat' (with_reducible (first | exact aj _ | apply ih_expr_Template_le | apply ih_expr_whole_le | apply ih_expr_template_read_le | apply ih_expr_parser_expr_le | apply ih_expr_template_interpolation_le | apply ih_expr_parser_binary_le | apply ih_expr_parser_unary_le | apply ih_expr_parser_postfix_le | apply ih_expr_parser_primary_le | apply ih_expr_parser_text_le | apply ih_expr_parser_name_le | apply ih_expr_parser_enclosed_le | apply ih_expr_parser_list_le | apply ih_expr_parser_loop_le | apply ih_expr_parser_entries_le | apply ih_expr_parser_key_le | apply a8 | apply aM | apply bA | apply eA | apply dI | refine aX ?_ | refine aC ?_ ?_ | refine ax ?_ (λ _=>?_) | refine aY ?_ (λ _=>?_) | omega | intro _))
theorem pX {n n':Nat}(hn:n≤n'):∀ (s_0:Bytes) (base_1:Int),Le (eq n s_0 base_1) (eq n' s_0 base_1):=(mH n n' hn).2.1
theorem pR {n n':Nat}(hn:n≤n'){s_0:Bytes}:Le (eY n s_0) (eY n' s_0):=by
 simp only [eY]
 repeat' (with_reducible (first | exact aj _ | apply pX | apply kB | refine aX ?_ | refine aC ?_ ?_ | refine ax ?_ (λ _=>?_) | refine aY ?_ (λ _=>?_) | omega | intro _))
theorem pp {n n':Nat}(hn:n≤n'):Le (em n) (em n'):=by
 simp only [em]
 repeat' (with_reducible (first | exact aj _ | apply pR | apply pI | refine aX ?_ | refine aC ?_ ?_ | refine ax ?_ (λ _=>?_) | refine aY ?_ (λ _=>?_) | omega | intro _))
theorem sR:em 60=some true:=by decide +kernel
theorem rD:Ev2 (λ n _=>em n) (·=true):=wv 60 sR (λ n hn=>pp hn) rfl
end Go.Ab.R06
end
section
set_option linter.unusedVariables false
set_option linter.unusedSimpArgs false
set_option linter.unnecessarySimpa false
namespace Go.Ab.R06
open Go.Ab Go.Ab.RB Go.Lib
end Go.Ab.R06
end
section
set_option linter.unusedVariables false
set_option linter.unusedSimpArgs false
set_option linter.unnecessarySimpa false
namespace Go.Ab.R06
open Go.Ab Go.Ab.RB Go.Lib
end Go.Ab.R06
end
section
set_option linter.unusedVariables false
set_option linter.unusedSimpArgs false
set_option linter.unnecessarySimpa false
namespace Go.Ab.R06
open Go.Ab Go.Ab.RB Go.Lib
def v0:ad:=ad.mk 0 0 [] [] []
def e0:ac:=ac.mk 0 0 [] [] v0 [] 0
def xA:List Bytes:=[[110,117,108,108],[116,114,117,101],[102,97,108,115,101],[102,111,114],[105,110],[105,102]]
def kU (s:Bytes):Bool:=xA.any (λ t=>decide (s=t))
theorem vg (s:Bytes):dZ s=some (kU s):=by
 unfold dZ kU xA
 simp only [List.any_cons,List.any_nil,Bool.or_false]
 by_cases h1:s=[110,117,108,108]
 ·simp [h1]
 by_cases h2:s=[116,114,117,101]
 ·simp [h2]
 by_cases h3:s=[102,97,108,115,101]
 ·simp [h3]
 by_cases h4:s=[102,111,114]
 ·simp [h4]
 by_cases h5:s=[105,110]
 ·simp [h5]
 by_cases h6:s=[105,102]
 ·simp [h6]
 simp [h1,h2,h3,h4,h5,h6]
def pF (v:ad):Int:=if v.fKind=1∧v.fNum≠0∧v.fNum≠1∨v.fKind≠1∧v.fKind≠2∧v.fNum≠0∨v.fKind≠3∧v.fStr≠[]∨v.fItems≠[]∨v.fKeys≠[] then 1
 else if v.fKind=2∧¬ (-lb≤v.fNum∧v.fNum≤lb) then 5
 else if v.fKind=3∧4096 < v.fStr.length then 3
 else if v.fKind=3∧validD v.fStr=false then 1 else 0
def qY (e:ac):Bool:=(fQ e).getD false
def lI (e:ac):Int:=if qY e=false then 1 else if e.fKind=1 then pF e.fValue
 else if (e.fKind=3∨e.fKind=4∨e.fKind=9∨e.fKind=12∨e.fKind=13)∧(cY e.fName=false∨e.fKind≠4∧kU e.fName=true) then 7
 else if e.fKey≠[]∧(cY e.fKey=false∨kU e.fKey=true) then 7 else 0
mutual
def lu:Nat→Nat→ac→Int×Nat
 | c,lv,.mk k op nm key v kids at'=>if 32 < lv then (4,c) else if 4096≤c then (14,c)
  else if lI (.mk k op nm key v kids at')=0 then jN (c+1) (lv+1) kids else (lI (.mk k op nm key v kids at'),c+1)
def jN:Nat→Nat→List ac→Int×Nat
 | c,_,[]=>(0,c)
 | c,lv,x::r=>if (lu c lv x).1=0 then jN (lu c lv x).2 lv r else lu c lv x
end
theorem tR (c lv:Nat)(e:ac):lu c lv e=if 32 < lv then (4,c) else if 4096≤c then (14,c) else if lI e=0 then jN (c+1) (lv+1) e.fKids else (lI e,c+1):=by
 cases e; rw [lu]; rfl
theorem qv (c lv:Nat)(x:ac)(r:List ac):jN c lv (x::r)=if (lu c lv x).1=0 then jN (lu c lv x).2 lv r else lu c lv x:=by rw [jN]
def chk (e:ac):Int:=(lu 0 1 e).1
def nlT (t:ai):Bool:=decide (t.fKind=5)
def nf (b:Bool)(l:List ai):List ai:=if b then l.dropWhile nlT else l
def hd (b:Bool)(l:List ai):ai:=(nf b l).headD (ai.mk 6 [] 0)
end Go.Ab.R06
end
section
set_option linter.unusedVariables false
set_option linter.unusedSimpArgs false
set_option linter.unnecessarySimpa false
namespace Go.Ab.R06
open Go.Ab Go.Ab.RB Go.Lib
theorem t31:(List.range 256).all (λ n=>bR .u8 (n:Int) 31 == ((n % 32:Nat):Int))=true:=by kernel_rfl
theorem t15:(List.range 256).all (λ n=>bR .u8 (n:Int) 15 == ((n % 16:Nat):Int))=true:=by kernel_rfl
theorem t7:(List.range 256).all (λ n=>bR .u8 (n:Int) 7 == ((n % 8:Nat):Int))=true:=by kernel_rfl
theorem or64 (a b:Nat)(ha:a < 4611686018427387904)(hb:b < 4611686018427387904):iOr .i64 (a:Int) (b:Int)=((a ||| b:Nat):Int):=by
 have hlt:a ||| b < 4611686018427387904:=Nat.or_lt_two_pow (n:=62) ha hb
 have e1:(BitVec.ofInt 64 (a:Int)).toNat=a:=by
  rw [BitVec.toNat_ofInt]; omega
 have e2:(BitVec.ofInt 64 (b:Int)).toNat=b:=by
  rw [BitVec.toNat_ofInt]; omega
 show IntKind.wrap .i64 (((BitVec.ofInt 64 (a:Int)) ||| (BitVec.ofInt 64 (b:Int))).toNat:Nat)=_
 rw [BitVec.toNat_or,e1,e2]
 simp [IntKind.wrap,IntKind.bits,IntKind.signed]
 omega
theorem ql (a b k:Nat)(ha:a*2 ^ k < 4611686018427387904)(hb:b < 2 ^ k)(hk:k≤20):iOr .i64 ((a*2 ^ k:Nat):Int) (b:Int)=((a*2 ^ k+b:Nat):Int):=by
 have hp:2 ^ k≤2 ^ 20:=Nat.pow_le_pow_right (by decide) hk
 have h20:(2:Nat) ^ 20=1048576:=rfl
 rw [or64 _ _ ha (by omega)]
 have:=Nat.shiftLeft_add_eq_or_of_lt hb a
 rw [Nat.shiftLeft_eq] at this
 rw [← this]
theorem qi (a k:Nat)(hk:k≤20)(ha:a*2 ^ k < 4611686018427387904):gG .i64 (a:Int) (k:Int)=((a*2 ^ k:Nat):Int):=by
 have:min (k:Int).toNat IntKind.i64.bits=k:=by
  have:IntKind.i64.bits=64:=rfl
  rw [this]; omega
 unfold gG
 rw [this]
 have e:(a:Int)*2 ^ k=((a*2 ^ k:Nat):Int):=by push_cast; rfl
 rw [e]
 generalize a*2 ^ k=v at ha
 simp [IntKind.wrap,IntKind.bits,IntKind.signed]
 omega
def xW (l:Bytes):Int×Int:=if (decodeL l).1=65533∧(decodeL l).2=1 then (0,0) else (((decodeL l).1:Int),((decodeL l).2:Int))
theorem wL (s:Bytes)(j:Nat)(lo hi:Int):dd s (j:Int) lo hi=some (decide (j < s.length∧lo≤((s.getD j 0).toNat:Int)∧((s.getD j 0).toNat:Int)≤hi)):=by
 unfold dd
 have hb:byt s (j:Int)=((s.getD j 0).toNat:Int):=mc s j
 rw [hb]
 by_cases h:j < s.length
 ·rw [if_pos (by omega),eh (by omega)]
  by_cases h2:lo≤((s.getD j 0).toNat:Int)
  ·rw [if_pos h2,eh (by omega)]
   refine congrArg some (eqB ?_)
   rw [decide_eq_true_eq,decide_eq_true_eq]
   exact ⟨λ q=>⟨h,h2,q⟩,λ q=>q.2.2⟩
  ·rw [if_neg h2,Option.bind_some]
   symm; rw [Option.some.injEq,decide_eq_false_iff_not]
   exact λ q=>h2 q.2.1
 ·rw [if_neg (by omega)]; simp [h]
set_option maxHeartbeats 8000000 in
theorem rY (s:Bytes)(i:Nat)(hi:i < s.length)(hs:s.length≤1000000000):gR s (i:Int)=some (xW (s.drop i)):=by
 have hg:∀ k,(s.drop i).getD k 0=s.getD (i+k) 0:=λ k=>by
  rw [List.getD_eq_getElem?_getD,List.getElem?_drop,List.getD_eq_getElem?_getD]
 unfold gR xW
 rw [decodeL_N,hg,hg,hg,hg,Nat.add_zero,List.length_drop]
 have b:∀ k:Nat,byt s ((i:Int)+k)=((s.getD (i+k) 0).toNat:Int):=λ k=>by
  rw [show (i:Int)+(k:Int)=((i+k:Nat):Int) by omega]; exact mc s (i+k)
 have c:∀ (k:Nat) lo hi,dd s ((i:Int)+k) lo hi=some (decide (k < s.length - i∧lo≤((s.getD (i+k) 0).toNat:Int)∧((s.getD (i+k) 0).toNat:Int)≤hi)):=λ k lo hi=>by
  rw [show (i:Int)+(k:Int)=((i+k:Nat):Int) by omega,wL]
  refine congrArg some (eqB ?_)
  rw [decide_eq_true_eq,decide_eq_true_eq]
  constructor
  ·rintro ⟨h1,h2⟩; exact ⟨by omega,h2⟩
  ·rintro ⟨h1,h2⟩; exact ⟨by omega,h2⟩
 have b0:byt s (i:Int)=((s.getD i 0).toNat:Int):=mc s i
 have b1:byt s ((i:Int)+1)=((s.getD (i+1) 0).toNat:Int):=b 1
 have b2:byt s ((i:Int)+2)=((s.getD (i+2) 0).toNat:Int):=b 2
 have b3:byt s ((i:Int)+3)=((s.getD (i+3) 0).toNat:Int):=b 3
 have c1:∀ lo hi,dd s ((i:Int)+1) lo hi=_:=c 1
 have c2:∀ lo hi,dd s ((i:Int)+2) lo hi=_:=c 2
 have c3:∀ lo hi,dd s ((i:Int)+3) lo hi=_:=c 3
 simp only [b0,b1,b2,b3,c1,c2,c3]
 obtain ⟨n,hn⟩:∃ n,s.length=i+n:=⟨s.length - i,by omega⟩
 have hn1:s.length - i=n:=by omega
 have hlen:(s.length:Int)=(i:Int)+n:=by omega
 rw [hn1,hlen]
 have l0:=(s.getD i 0).toNat_lt
 have l1:=(s.getD (i+1) 0).toNat_lt
 have l2:=(s.getD (i+2) 0).toNat_lt
 have l3:=(s.getD (i+3) 0).toNat_lt
 generalize (s.getD i 0).toNat=B0 at l0 ⊢
 generalize (s.getD (i+1) 0).toNat=B1 at l1 ⊢
 generalize (s.getD (i+2) 0).toNat=B2 at l2 ⊢
 generalize (s.getD (i+3) 0).toNat=B3 at l3 ⊢
 have hnp:0 < n:=by omega
 have hnb:n≤1000000000:=by omega
 have hib:i≤1000000000:=by omega
 clear hg b c b0 b1 b2 b3 c1 c2 c3 hn1 hlen hn hi hs
 have a31:bR .u8 (B0:Int) 31=((B0 % 32:Nat):Int):=tab t31 B0 (by omega)
 have a15:bR .u8 (B0:Int) 15=((B0 % 16:Nat):Int):=tab t15 B0 (by omega)
 have a7:bR .u8 (B0:Int) 7=((B0 % 8:Nat):Int):=tab t7 B0 (by omega)
 have a1:bR .u8 (B1:Int) 63=((B1 % 64:Nat):Int):=tab t63 B1 (by omega)
 have a2:bR .u8 (B2:Int) 63=((B2 % 64:Nat):Int):=tab t63 B2 (by omega)
 have a3:bR .u8 (B3:Int) 63=((B3 % 64:Nat):Int):=tab t63 B3 (by omega)
 have two:iOr .i64 (gG .i64 ((B0 % 32:Nat):Int) 6) ((B1 % 64:Nat):Int)=((B0 % 32*64+B1 % 64:Nat):Int):=by
  have h1:gG .i64 ((B0 % 32:Nat):Int) 6=((B0 % 32*2 ^ 6:Nat):Int):=qi _ 6 (by decide) (by omega)
  rw [h1]
  exact ql _ _ 6 (by omega) (by omega) (by decide)
 have three:iOr .i64 (iOr .i64 (gG .i64 ((B0 % 16:Nat):Int) 12) (gG .i64 ((B1 % 64:Nat):Int) 6)) ((B2 % 64:Nat):Int)=((B0 % 16*4096+B1 % 64*64+B2 % 64:Nat):Int):=by
  have h1:gG .i64 ((B0 % 16:Nat):Int) 12=((B0 % 16*2 ^ 12:Nat):Int):=qi _ 12 (by decide) (by omega)
  have h2:gG .i64 ((B1 % 64:Nat):Int) 6=((B1 % 64*2 ^ 6:Nat):Int):=qi _ 6 (by decide) (by omega)
  have h3:=ql (B0 % 16) (B1 % 64*2 ^ 6) 12 (by omega) (by omega) (by decide)
  have h4:=ql (B0 % 16*64+B1 % 64) (B2 % 64) 6 (by omega) (by omega) (by decide)
  rw [h1,h2,h3,show B0 % 16*2 ^ 12+B1 % 64*2 ^ 6=(B0 % 16*64+B1 % 64)*2 ^ 6 by omega,h4]
 have four:iOr .i64 (iOr .i64 (iOr .i64 (gG .i64 ((B0 % 8:Nat):Int) 18) (gG .i64 ((B1 % 64:Nat):Int) 12)) (gG .i64 ((B2 % 64:Nat):Int) 6)) ((B3 % 64:Nat):Int)=((B0 % 8*262144+B1 % 64*4096+B2 % 64*64+B3 % 64:Nat):Int):=by
  have h1:gG .i64 ((B0 % 8:Nat):Int) 18=((B0 % 8*2 ^ 18:Nat):Int):=qi _ 18 (by decide) (by omega)
  have h2:gG .i64 ((B1 % 64:Nat):Int) 12=((B1 % 64*2 ^ 12:Nat):Int):=qi _ 12 (by decide) (by omega)
  have h2':gG .i64 ((B2 % 64:Nat):Int) 6=((B2 % 64*2 ^ 6:Nat):Int):=qi _ 6 (by decide) (by omega)
  have h3:=ql (B0 % 8) (B1 % 64*2 ^ 12) 18 (by omega) (by omega) (by decide)
  have h4:=ql (B0 % 8*64+B1 % 64) (B2 % 64*2 ^ 6) 12 (by omega) (by omega) (by decide)
  have h5:=ql (B0 % 8*4096+B1 % 64*64+B2 % 64) (B3 % 64) 6 (by omega) (by omega) (by decide)
  rw [h1,h2,h2',h3,show B0 % 8*2 ^ 18+B1 % 64*2 ^ 12=(B0 % 8*64+B1 % 64)*2 ^ 12 by omega,h4,show (B0 % 8*64+B1 % 64)*2 ^ 12+B2 % 64*2 ^ 6=(B0 % 8*4096+B1 % 64*64+B2 % 64)*2 ^ 6 by omega,h5]
 rw [a31,a15,a7,a1,a2,a3,two,three,four]
 have i1:inR ((i:Int)+1):=dM (by omega) (by omega)
 have i2:inR ((i:Int)+2):=dM (by omega) (by omega)
 have i3:inR ((i:Int)+3):=dM (by omega) (by omega)
 have e0:((if (i:Int) < 0 then some true else some (decide ((i:Int)+n≤i))):Option Bool)=some false:=by
  rw [if_neg (by omega)]; simp; omega
 rw [e0,Option.bind_some,if_neg (by simp),eh (by omega)]
 unfold decodeN
 by_cases h0:B0 < 128
 ·rw [if_pos (show (B0:Int) < 128 by omega),eh (dM (by omega) (by omega)),if_pos h0]
  simp only
  rw [if_neg (by omega)]; rfl
 rw [if_neg (show ¬ (B0:Int) < 128 by omega),if_neg h0]
 have e12:((if 194≤(B0:Int) then if (B0:Int)≤223 then ck (inR ((i:Int)+1)) <| (some (decide (1 < n∧(128:Int)≤(B1:Int)∧(B1:Int)≤191))).bind λ r10=>some r10 else some false else some false):Option Bool)=some (decide (194≤B0∧B0≤223∧1 < n∧128≤B1∧B1≤191)):=by
  by_cases q1:194≤B0
  ·rw [if_pos (by omega)]
   by_cases q2:B0≤223
   ·rw [if_pos (by omega),eh i1,Option.bind_some]
    refine congrArg some (eqB ?_)
    rw [decide_eq_true_eq,decide_eq_true_eq]; omega
   ·rw [if_neg (by omega)]; simp; omega
  ·rw [if_neg (by omega)]; simp; omega
 rw [e12,Option.bind_some]
 by_cases h12:194≤B0∧B0≤223∧1 < n∧128≤B1∧B1≤191
 ·rw [if_pos (by simp only [decide_eq_true_eq]; exact h12),eh (dM (by omega) (by omega)),eh (by omega),eh i1,eh (by omega),eh (dM (by omega) (by omega))]
  rw [if_pos (show B0 / 32=6∧1 < n∧B1 / 64=2 by omega),if_pos (show B0 % 32*64+B1 % 64 ≥ 128 by omega)]
  show some _=some (if B0 % 32*64+B1 % 64=65533∧_ then _ else _)
  rw [if_neg (by omega)]; rfl
 rw [if_neg (by simp only [decide_eq_true_eq]; exact h12)]
 have hlo:((if (B0:Int)=224 then some 160 else some 128):Option Int)=some (if B0=224 then 160 else 128):=by
  by_cases q:B0=224
  ·rw [if_pos (by omega),if_pos q]
  ·rw [if_neg (by omega),if_neg q]
 have hhi:((if (B0:Int)=237 then some 159 else some 191):Option Int)=some (if B0=237 then 159 else 191):=by
  by_cases q:B0=237
  ·rw [if_pos (by omega),if_pos q]
  ·rw [if_neg (by omega),if_neg q]
 have hlo4:((if (B0:Int)=240 then some 144 else some 128):Option Int)=some (if B0=240 then 144 else 128):=by
  by_cases q:B0=240
  ·rw [if_pos (by omega),if_pos q]
  ·rw [if_neg (by omega),if_neg q]
 have hhi4:((if (B0:Int)=244 then some 143 else some 191):Option Int)=some (if B0=244 then 143 else 191):=by
  by_cases q:B0=244
  ·rw [if_pos (by omega),if_pos q]
  ·rw [if_neg (by omega),if_neg q]
 rw [hlo,Option.bind_some,hhi,Option.bind_some]
 have e32:∀ lo hi:Int,((if 224≤(B0:Int) then if (B0:Int)≤239 then ck (inR ((i:Int)+1)) <| (some (decide (1 < n∧lo≤(B1:Int)∧(B1:Int)≤hi))).bind λ r26=>if r26=true then ck (inR ((i:Int)+2)) <| (some (decide (2 < n∧(128:Int)≤(B2:Int)∧(B2:Int)≤191))).bind λ r30=>some r30 else some false else some false else some false):Option Bool)
   = some (decide (224≤B0∧B0≤239∧(1 < n∧lo≤(B1:Int)∧(B1:Int)≤hi)∧2 < n∧128≤B2∧B2≤191)):=by
  intro lo hi
  by_cases q1:224≤B0
  ·rw [if_pos (by omega)]
   by_cases q2:B0≤239
   ·rw [if_pos (by omega),eh i1,Option.bind_some]
    by_cases q3:1 < n∧lo≤(B1:Int)∧(B1:Int)≤hi
    ·rw [if_pos (by simp only [decide_eq_true_eq]; exact q3),eh i2,Option.bind_some]
     refine congrArg some (eqB ?_)
     rw [decide_eq_true_eq,decide_eq_true_eq]
     constructor
     ·intro q; exact ⟨q1,q2,q3,by omega⟩
     ·intro q; have:=q.2.2.2; omega
    ·rw [if_neg (by simp only [decide_eq_true_eq]; exact q3)]
     symm; rw [Option.some.injEq,decide_eq_false_iff_not]
     intro q; exact q3 q.2.2.1
   ·rw [if_neg (by omega)]
    symm; rw [Option.some.injEq,decide_eq_false_iff_not]
    intro q; exact q2 q.2.1
  ·rw [if_neg (by omega)]
   symm; rw [Option.some.injEq,decide_eq_false_iff_not]
   intro q; exact q1 q.1
 rw [e32,Option.bind_some]
 by_cases h32:224≤B0∧B0≤239∧(1 < n∧(if B0=224 then 160 else 128)≤(B1:Int)∧(B1:Int)≤(if B0=237 then 159 else 191))∧2 < n∧128≤B2∧B2≤191
 ·rw [if_pos (by simp only [decide_eq_true_eq]; exact h32)]
  obtain ⟨k1,k2,⟨k3,k4,k5⟩,k6,k7,k8⟩:=h32
  have k4':128≤B1∧(B0=224→160≤B1):=by split at k4 <;> omega
  have k5':B1≤191∧(B0=237→B1≤159):=by split at k5 <;> omega
  clear k4 k5
  repeat rw [eh (by first | exact i1 | exact i2 | omega | exact dM (by omega) (by omega))]
  rw [if_neg (show ¬ (B0 / 32=6∧1 < n∧B1 / 64=2) by omega),if_pos (show B0 / 16=14∧(1 < n∧B1 / 64=2)∧2 < n∧B2 / 64=2 by omega),if_pos (show B0 % 16*4096+B1 % 64*64+B2 % 64 ≥ 2048∧(B0 % 16*4096+B1 % 64*64+B2 % 64 < 55296∨57344≤B0 % 16*4096+B1 % 64*64+B2 % 64∧B0 % 16*4096+B1 % 64*64+B2 % 64≤1114111) by omega)]
  show some _=some (if B0 % 16*4096+B1 % 64*64+B2 % 64=65533∧(3:Nat)=1 then _ else _)
  rw [if_neg (by omega)]; rfl
 rw [if_neg (by simp only [decide_eq_true_eq]; exact h32)]
 rw [hlo4,Option.bind_some,hhi4,Option.bind_some]
 have h32':¬ (224≤B0∧B0≤239∧1 < n∧(B0=224→160≤B1)∧128≤B1∧B1≤191∧(B0=237→B1≤159)∧2 < n∧128≤B2∧B2≤191):=by
  rintro ⟨k1,k2,k3,k4,k5,k6,k7,k8⟩
  exact h32 ⟨k1,k2,⟨k3,by split <;> omega,by split <;> omega⟩,k8⟩
 clear h32 e32
 have e60:∀ lo hi:Int,((if 240≤(B0:Int) then if (B0:Int)≤244 then ck (inR ((i:Int)+1)) <| (some (decide (1 < n∧lo≤(B1:Int)∧(B1:Int)≤hi))).bind λ r50=>if r50=true then ck (inR ((i:Int)+2)) <| (some (decide (2 < n∧(128:Int)≤(B2:Int)∧(B2:Int)≤191))).bind λ r54=>if r54=true then ck (inR ((i:Int)+3)) <| (some (decide (3 < n∧(128:Int)≤(B3:Int)∧(B3:Int)≤191))).bind λ r58=>some r58 else some false else some false else some false else some false):Option Bool)
   = some (decide (240≤B0∧B0≤244∧(1 < n∧lo≤(B1:Int)∧(B1:Int)≤hi)∧(2 < n∧128≤B2∧B2≤191)∧3 < n∧128≤B3∧B3≤191)):=by
  intro lo hi
  by_cases q1:240≤B0
  ·rw [if_pos (by omega)]
   by_cases q2:B0≤244
   ·rw [if_pos (by omega),eh i1,Option.bind_some]
    by_cases q3:1 < n∧lo≤(B1:Int)∧(B1:Int)≤hi
    ·rw [if_pos (by simp only [decide_eq_true_eq]; exact q3),eh i2,Option.bind_some]
     by_cases q4:2 < n∧128≤B2∧B2≤191
     ·rw [if_pos (by simp only [decide_eq_true_eq]; omega),eh i3,Option.bind_some]
      refine congrArg some (eqB ?_)
      rw [decide_eq_true_eq,decide_eq_true_eq]
      constructor
      ·intro q; exact ⟨q1,q2,q3,q4,by omega⟩
      ·intro q; have:=q.2.2.2.2; omega
     ·rw [if_neg (by simp only [decide_eq_true_eq]; omega)]
      symm; rw [Option.some.injEq,decide_eq_false_iff_not]
      intro q; exact q4 q.2.2.2.1
    ·rw [if_neg (by simp only [decide_eq_true_eq]; exact q3)]
     symm; rw [Option.some.injEq,decide_eq_false_iff_not]
     intro q; exact q3 q.2.2.1
   ·rw [if_neg (by omega)]
    symm; rw [Option.some.injEq,decide_eq_false_iff_not]
    intro q; exact q2 q.2.1
  ·rw [if_neg (by omega)]
   symm; rw [Option.some.injEq,decide_eq_false_iff_not]
   intro q; exact q1 q.1
 rw [e60,Option.bind_some]
 by_cases h60:240≤B0∧B0≤244∧(1 < n∧(if B0=240 then 144 else 128)≤(B1:Int)∧(B1:Int)≤(if B0=244 then 143 else 191))∧(2 < n∧128≤B2∧B2≤191)∧3 < n∧128≤B3∧B3≤191
 ·rw [if_pos (by simp only [decide_eq_true_eq]; exact h60)]
  obtain ⟨k1,k2,⟨k3,k4,k5⟩,⟨k6,k7,k8⟩,k9,k10,k11⟩:=h60
  have k4':128≤B1∧(B0=240→144≤B1):=by split at k4 <;> omega
  have k5':B1≤191∧(B0=244→B1≤143):=by split at k5 <;> omega
  clear k4 k5
  repeat rw [eh (by first | exact i1 | exact i2 | exact i3 | omega | exact dM (by omega) (by omega))]
  rw [if_neg (show ¬ (B0 / 32=6∧1 < n∧B1 / 64=2) by omega),if_neg (show ¬ (B0 / 16=14∧(1 < n∧B1 / 64=2)∧2 < n∧B2 / 64=2) by omega),if_pos (show B0 / 8=30∧(1 < n∧B1 / 64=2)∧(2 < n∧B2 / 64=2)∧3 < n∧B3 / 64=2 by omega)]
  generalize hv:B0 % 8*262144+B1 % 64*4096+B2 % 64*64+B3 % 64=v
  rw [if_pos (show v ≥ 65536∧(v < 55296∨57344≤v∧v≤1114111) by omega)]
  show some _=some (if v=65533∧(4:Nat)=1 then _ else _)
  rw [if_neg (by omega)]; rfl
 rw [if_neg (by simp only [decide_eq_true_eq]; exact h60)]
 have h60':¬ (240≤B0∧B0≤244∧1 < n∧(B0=240→144≤B1)∧128≤B1∧B1≤191∧(B0=244→B1≤143)∧2 < n∧128≤B2∧B2≤191∧3 < n∧128≤B3∧B3≤191):=by
  rintro ⟨k1,k2,k3,k4,k5,k6,k7,k8,k9,k10,k11⟩
  exact h60 ⟨k1,k2,⟨k3,by split <;> omega,by split <;> omega⟩,⟨k8,k9,k10⟩,k11⟩
 clear h60 e60
 symm
 refine congrArg some (if_pos ?_)
 repeat' split
 all_goals first | exact ⟨rfl,rfl⟩ | (exfalso; omega)
theorem t1 (s:Bytes)(hs:s.length≤1000000000):∀ (k i:Nat),s.length - i < k→i≤s.length→Ev2 (λ _ m=>d9 s m (i:Int)) (·=if validD (s.drop i)=true then .inl () else .inr false):=by
 intro k
 induction k with
 | zero=>intro i h; omega
 | succ k ih =>
  intro i hk hi
  refine dc ?_
  simp only [d9]
  by_cases h:i < s.length
  ·have hne:s.drop i≠[]:=by intro q; have:=congrArg List.length q; rw [List.length_drop] at this; simp at this; omega
   refine fA (by omega) (bT _ (dH (rY s i h hs) rfl) ?_)
   have hv:=s4 _ hne
   have hdf:=uA _ hne
   rw [List.length_drop] at hdf
   unfold xW
   by_cases q:(decodeL (s.drop i)).1=65533∧(decodeL (s.drop i)).2=1
   ·rw [if_pos q]
    refine fA rfl (am ?_)
    rw [if_neg (λ z=>((hv.1 z).1 q))]
   ·rw [if_neg q]
    refine cV (by simp only; omega) (dQ (dM (by simp only; omega) (by simp only; omega)) ?_)
    have:=ih (i+(decodeL (s.drop i)).2) (by omega) (by omega)
    rw [Int.natCast_add] at this
    refine iC this λ r hr=>?_
    rw [hr,← List.drop_drop]
    by_cases z:validD ((s.drop i).drop (decodeL (s.drop i)).2)=true
    ·rw [if_pos z,if_pos (hv.2 ⟨q,z⟩)]
    ·rw [if_neg z,if_neg (λ y=>z (hv.1 y).2)]
  ·refine cV (by omega) (am ?_)
   rw [List.drop_of_length_le (by omega),if_pos validD_nil]
theorem uo (s:Bytes)(hs:s.length≤1000000000):Ev2 (λ n _=>ii n s) (·=(decide (s.length≤4096)&&validD s)):=by
 simp only [ii]
 refine bm (λ h=>am ?_) (λ h=>?_)
 ·have:¬ s.length≤4096:=by omega
  simp [this]
 ·have h':s.length≤4096:=by omega
  have l:=t1 s hs (s.length+1) 0 (by omega) (by omega)
  rw [List.drop_zero] at l
  cases hv:validD s with
  | true=>rw [hv] at l; exact kP () (fh l) (am (by simp [h']))
  | false=>rw [hv] at l; exact pr false (fh l) (by simp)
theorem drop_at (s:Bytes){i:Nat}(h:i < s.length):s.drop i=s.getD i 0::s.drop (i+1):=by
 rw [List.getD_eq_getElem?_getD,List.getElem?_eq_getElem h,Option.getD_some]
 exact List.drop_eq_getElem_cons h
end Go.Ab.R06
end
section
set_option linter.unusedVariables false
set_option linter.unusedSimpArgs false
set_option linter.unnecessarySimpa false
namespace Go.Ab
set_option autoImplicit false
theorem iJ {α:Type}{tt:List (Nat×TI)}{n t s b:Nat}{cs:List PV}{z:List Value}(f:α→PV)(Q:α→Prop){e:Nat}(hl:look tt t=some ⟨.slice e,s,b,z⟩)(h:WTf tt n t cs)
  (he:∀ m x,m < n→WTf tt m e x.cells→x=mkE (((look tt e).map (·.k.isAgg)).getD false) x.cells→∃ y,x=f y∧Q y):∃ l:List α,cs=[eL f l]∧l.length*(((look tt e).map (·.bytes)).getD 0)≤et∧∀ y∈l,Q y:=by
 cases n with
 | zero=>exact h.elim
 | succ n =>
  obtain ⟨l,h1,h2,h3⟩:=uO f Q hl h (λ x k1 k2=>he n x (by omega) k1 k2)
  exact ⟨l,h1,h2.2,h3⟩
inductive ad.Bd:ad→Prop where
 | mk {x:ad} (bKind:inR x.fKind) (bNum:inR x.fNum) (bStr:x.fStr.length≤et) (bItems:x.fItems.length*80≤et) (eItems:∀ y∈x.fItems,ad.Bd y) (bKeys:x.fKeys.length*16≤et) (eKeys:∀ y∈x.fKeys,y.length≤et):ad.Bd x
theorem ad.Bd.bKind {x:ad}(h:ad.Bd x):inR x.fKind:=by cases h; assumption
theorem ad.Bd.bNum {x:ad}(h:ad.Bd x):inR x.fNum:=by cases h; assumption
theorem ad.Bd.bStr {x:ad}(h:ad.Bd x):x.fStr.length≤et:=by cases h; assumption
theorem ad.Bd.bItems {x:ad}(h:ad.Bd x):x.fItems.length*80≤et:=by cases h; assumption
theorem ad.Bd.eItems {x:ad}(h:ad.Bd x):∀ y∈x.fItems,ad.Bd y:=by cases h; assumption
theorem ad.Bd.bKeys {x:ad}(h:ad.Bd x):x.fKeys.length*16≤et:=by cases h; assumption
theorem ad.Bd.eKeys {x:ad}(h:ad.Bd x):∀ y∈x.fKeys,y.length≤et:=by cases h; assumption
theorem ad.dec (n:Nat):(∀ cs,WTf tt n 28 cs→∃ x:ad,cs=ad.cs x∧ad.Bd x):=by
 induction n using Nat.strongRecOn with
 | _ n ih =>
 have ih_TValue:∀ m,m < n→(∀ cs,WTf tt m 28 cs→∃ x:ad,cs=ad.cs x∧ad.Bd x):=λ m hm=>(ih m hm)
 intro cs h
 cases n with
 | zero=>exact h.elim
 | succ n =>
 have h0:=fS rfl h
 obtain ⟨c0,q0,rfl,k0,h0⟩:=bg h0
 obtain ⟨c1,q1,rfl,k1,h0⟩:=bg h0
 obtain ⟨c2,q2,rfl,k2,h0⟩:=bg h0
 obtain ⟨c3,q3,rfl,k3,h0⟩:=bg h0
 obtain ⟨c4,q4,rfl,k4,h0⟩:=bg h0
 have e:q4=[]:=h0
 subst e
 obtain ⟨x1,rfl,b2⟩:=ee rfl k0
 obtain ⟨x3,rfl,b4⟩:=ee rfl k1
 obtain ⟨x5,rfl,b6⟩:=iB rfl k2
 obtain ⟨x7,rfl,b8⟩:=iJ cU (λ y=>ad.Bd y) rfl k3 (λ m9 y10 hm11 k12 k13=>by
  obtain ⟨x14,e16,b15⟩:=ih_TValue _ (by omega) _ k12
  exact ⟨x14,(nt e16 k13).trans (ad.agg_eq _).symm,b15⟩
  )
 obtain ⟨x17,rfl,b18⟩:=iJ eS (λ y=>y.length≤et) rfl k4 (λ m19 y20 hm21 k22 k23=>by
  obtain ⟨x24,e26,b25⟩:=iB rfl k22
  exact ⟨x24,xD e26 k23,b25⟩
  )
 exact ⟨ad.mk x1 x3 x5 x7 x17,rfl,.mk b2 b4 b6 b8.1 b8.2 b18.1 b18.2⟩
inductive ac.Bd:ac→Prop where
 | mk {x:ac} (bKind:inR x.fKind) (bOp:inR x.fOp) (bName:x.fName.length≤et) (bKey:x.fKey.length≤et) (bValue:ad.Bd x.fValue) (bKids:x.fKids.length*160≤et) (eKids:∀ y∈x.fKids,ac.Bd y) (bAt:inR x.fAt):ac.Bd x
theorem ac.Bd.bKind {x:ac}(h:ac.Bd x):inR x.fKind:=by cases h; assumption
theorem ac.Bd.bOp {x:ac}(h:ac.Bd x):inR x.fOp:=by cases h; assumption
theorem ac.Bd.bName {x:ac}(h:ac.Bd x):x.fName.length≤et:=by cases h; assumption
theorem ac.Bd.bKey {x:ac}(h:ac.Bd x):x.fKey.length≤et:=by cases h; assumption
theorem ac.Bd.bValue {x:ac}(h:ac.Bd x):ad.Bd x.fValue:=by cases h; assumption
theorem ac.Bd.bKids {x:ac}(h:ac.Bd x):x.fKids.length*160≤et:=by cases h; assumption
theorem ac.Bd.eKids {x:ac}(h:ac.Bd x):∀ y∈x.fKids,ac.Bd y:=by cases h; assumption
theorem ac.Bd.bAt {x:ac}(h:ac.Bd x):inR x.fAt:=by cases h; assumption
theorem ac.dec (n:Nat):(∀ cs,WTf tt n 31 cs→∃ x:ac,cs=ac.cs x∧ac.Bd x):=by
 induction n using Nat.strongRecOn with
 | _ n ih =>
 have ih_TExpr:∀ m,m < n→(∀ cs,WTf tt m 31 cs→∃ x:ac,cs=ac.cs x∧ac.Bd x):=λ m hm=>(ih m hm)
 intro cs h
 cases n with
 | zero=>exact h.elim
 | succ n =>
 have h0:=fS rfl h
 obtain ⟨c0,q0,rfl,k0,h0⟩:=bg h0
 obtain ⟨c1,q1,rfl,k1,h0⟩:=bg h0
 obtain ⟨c2,q2,rfl,k2,h0⟩:=bg h0
 obtain ⟨c3,q3,rfl,k3,h0⟩:=bg h0
 obtain ⟨c4,q4,rfl,k4,h0⟩:=bg h0
 obtain ⟨c5,q5,rfl,k5,h0⟩:=bg h0
 obtain ⟨c6,q6,rfl,k6,h0⟩:=bg h0
 have e:q6=[]:=h0
 subst e
 obtain ⟨x27,rfl,b28⟩:=ee rfl k0
 obtain ⟨x29,rfl,b30⟩:=ee rfl k1
 obtain ⟨x31,rfl,b32⟩:=iB rfl k2
 obtain ⟨x33,rfl,b34⟩:=iB rfl k3
 obtain ⟨x35,rfl,b36⟩:=ad.dec _ _ k4
 obtain ⟨x37,rfl,b38⟩:=iJ ae (λ y=>ac.Bd y) rfl k5 (λ m39 y40 hm41 k42 k43=>by
  obtain ⟨x44,e46,b45⟩:=ih_TExpr _ (by omega) _ k42
  exact ⟨x44,(nt e46 k43).trans (ac.agg_eq _).symm,b45⟩
  )
 obtain ⟨x47,rfl,b48⟩:=ee rfl k6
 exact ⟨ac.mk x27 x29 x31 x33 x35 x37 x47,rfl,.mk b28 b30 b32 b34 b36 b38.1 b38.2 b48⟩
inductive ao.Bd:ao→Prop where
 | mk {x:ao} (bKind:inR x.fKind) (bAt:inR x.fAt) (bName:x.fName.length≤et):ao.Bd x
theorem ao.Bd.bKind {x:ao}(h:ao.Bd x):inR x.fKind:=by cases h; assumption
theorem ao.Bd.bAt {x:ao}(h:ao.Bd x):inR x.fAt:=by cases h; assumption
theorem ao.Bd.bName {x:ao}(h:ao.Bd x):x.fName.length≤et:=by cases h; assumption
theorem ao.dec (n:Nat):(∀ cs,WTf tt n 39 cs→∃ x:ao,cs=ao.cs x∧ao.Bd x):=by
 induction n using Nat.strongRecOn with
 | _ n ih =>
 have ih_TDiag:∀ m,m < n→(∀ cs,WTf tt m 39 cs→∃ x:ao,cs=ao.cs x∧ao.Bd x):=λ m hm=>(ih m hm)
 intro cs h
 cases n with
 | zero=>exact h.elim
 | succ n =>
 have h0:=fS rfl h
 obtain ⟨c0,q0,rfl,k0,h0⟩:=bg h0
 obtain ⟨c1,q1,rfl,k1,h0⟩:=bg h0
 obtain ⟨c2,q2,rfl,k2,h0⟩:=bg h0
 have e:q2=[]:=h0
 subst e
 obtain ⟨x49,rfl,b50⟩:=ee rfl k0
 obtain ⟨x51,rfl,b52⟩:=ee rfl k1
 obtain ⟨x53,rfl,b54⟩:=iB rfl k2
 exact ⟨ao.mk x49 x51 x53,rfl,.mk b50 b52 b54⟩
inductive aI.Bd:aI→Prop where
 | mk {x:aI} (bcount:inR x.fcount):aI.Bd x
theorem aI.Bd.bcount {x:aI}(h:aI.Bd x):inR x.fcount:=by cases h; assumption
theorem aI.dec (n:Nat):(∀ cs,WTf tt n 58 cs→∃ x:aI,cs=aI.cs x∧aI.Bd x):=by
 induction n using Nat.strongRecOn with
 | _ n ih =>
 have ih_Tchecker:∀ m,m < n→(∀ cs,WTf tt m 58 cs→∃ x:aI,cs=aI.cs x∧aI.Bd x):=λ m hm=>(ih m hm)
 intro cs h
 cases n with
 | zero=>exact h.elim
 | succ n =>
 have h0:=fS rfl h
 obtain ⟨c0,q0,rfl,k0,h0⟩:=bg h0
 have e:q0=[]:=h0
 subst e
 obtain ⟨x55,rfl,b56⟩:=ee rfl k0
 exact ⟨aI.mk x55,rfl,.mk b56⟩
inductive ai.Bd:ai→Prop where
 | mk {x:ai} (bKind:inR x.fKind) (bText:x.fText.length≤et) (bAt:inR x.fAt):ai.Bd x
theorem ai.Bd.bKind {x:ai}(h:ai.Bd x):inR x.fKind:=by cases h; assumption
theorem ai.Bd.bText {x:ai}(h:ai.Bd x):x.fText.length≤et:=by cases h; assumption
theorem ai.Bd.bAt {x:ai}(h:ai.Bd x):inR x.fAt:=by cases h; assumption
theorem ai.dec (n:Nat):(∀ cs,WTf tt n 87 cs→∃ x:ai,cs=ai.cs x∧ai.Bd x):=by
 induction n using Nat.strongRecOn with
 | _ n ih =>
 have ih_TToken:∀ m,m < n→(∀ cs,WTf tt m 87 cs→∃ x:ai,cs=ai.cs x∧ai.Bd x):=λ m hm=>(ih m hm)
 intro cs h
 cases n with
 | zero=>exact h.elim
 | succ n =>
 have h0:=fS rfl h
 obtain ⟨c0,q0,rfl,k0,h0⟩:=bg h0
 obtain ⟨c1,q1,rfl,k1,h0⟩:=bg h0
 obtain ⟨c2,q2,rfl,k2,h0⟩:=bg h0
 have e:q2=[]:=h0
 subst e
 obtain ⟨x57,rfl,b58⟩:=ee rfl k0
 obtain ⟨x59,rfl,b60⟩:=iB rfl k1
 obtain ⟨x61,rfl,b62⟩:=ee rfl k2
 exact ⟨ai.mk x57 x59 x61,rfl,.mk b58 b60 b62⟩
inductive bv.Bd:bv→Prop where
 | mk {x:bv} (bL:x.fL.length*32≤et) (eL:∀ y∈x.fL,ai.Bd y) (bI:inR x.fI) (bIn:inR x.fIn) (bD:ao.Bd x.fD):bv.Bd x
theorem bv.Bd.bL {x:bv}(h:bv.Bd x):x.fL.length*32≤et:=by cases h; assumption
theorem bv.Bd.eL {x:bv}(h:bv.Bd x):∀ y∈x.fL,ai.Bd y:=by cases h; assumption
theorem bv.Bd.bI {x:bv}(h:bv.Bd x):inR x.fI:=by cases h; assumption
theorem bv.Bd.bIn {x:bv}(h:bv.Bd x):inR x.fIn:=by cases h; assumption
theorem bv.Bd.bD {x:bv}(h:bv.Bd x):ao.Bd x.fD:=by cases h; assumption
theorem bv.dec (n:Nat):(∀ cs,WTf tt n 65 cs→∃ x:bv,cs=bv.cs x∧bv.Bd x):=by
 induction n using Nat.strongRecOn with
 | _ n ih =>
 have ih_TParser:∀ m,m < n→(∀ cs,WTf tt m 65 cs→∃ x:bv,cs=bv.cs x∧bv.Bd x):=λ m hm=>(ih m hm)
 intro cs h
 cases n with
 | zero=>exact h.elim
 | succ n =>
 have h0:=fS rfl h
 obtain ⟨c0,q0,rfl,k0,h0⟩:=bg h0
 obtain ⟨c1,q1,rfl,k1,h0⟩:=bg h0
 obtain ⟨c2,q2,rfl,k2,h0⟩:=bg h0
 obtain ⟨c3,q3,rfl,k3,h0⟩:=bg h0
 have e:q3=[]:=h0
 subst e
 obtain ⟨x63,rfl,b64⟩:=iJ aR (λ y=>ai.Bd y) rfl k0 (λ m65 y66 hm67 k68 k69=>by
  obtain ⟨x70,e72,b71⟩:=ai.dec _ _ k68
  exact ⟨x70,(nt e72 k69).trans (ai.agg_eq _).symm,b71⟩
  )
 obtain ⟨x73,rfl,b74⟩:=ee rfl k1
 obtain ⟨x75,rfl,b76⟩:=ee rfl k2
 obtain ⟨x77,rfl,b78⟩:=ao.dec _ _ k3
 exact ⟨bv.mk x63 x73 x75 x77,rfl,.mk b64.1 b64.2 b74 b76 b78⟩
inductive af.Bd:af→Prop where
 | mk {x:af} (bs:x.fs.length≤et) (bat:inR x.fat) (bi:inR x.fi) (bfrom:inR x.ffrom) (btext:x.ftext.length≤et) (bparts:x.fparts.length*160≤et) (eparts:∀ y∈x.fparts,ac.Bd y):af.Bd x
theorem af.Bd.bs {x:af}(h:af.Bd x):x.fs.length≤et:=by cases h; assumption
theorem af.Bd.bat {x:af}(h:af.Bd x):inR x.fat:=by cases h; assumption
theorem af.Bd.bi {x:af}(h:af.Bd x):inR x.fi:=by cases h; assumption
theorem af.Bd.bfrom {x:af}(h:af.Bd x):inR x.ffrom:=by cases h; assumption
theorem af.Bd.btext {x:af}(h:af.Bd x):x.ftext.length≤et:=by cases h; assumption
theorem af.Bd.bparts {x:af}(h:af.Bd x):x.fparts.length*160≤et:=by cases h; assumption
theorem af.Bd.eparts {x:af}(h:af.Bd x):∀ y∈x.fparts,ac.Bd y:=by cases h; assumption
theorem af.dec (n:Nat):(∀ cs,WTf tt n 69 cs→∃ x:af,cs=af.cs x∧af.Bd x):=by
 induction n using Nat.strongRecOn with
 | _ n ih =>
 have ih_Ttemplate:∀ m,m < n→(∀ cs,WTf tt m 69 cs→∃ x:af,cs=af.cs x∧af.Bd x):=λ m hm=>(ih m hm)
 intro cs h
 cases n with
 | zero=>exact h.elim
 | succ n =>
 have h0:=fS rfl h
 obtain ⟨c0,q0,rfl,k0,h0⟩:=bg h0
 obtain ⟨c1,q1,rfl,k1,h0⟩:=bg h0
 obtain ⟨c2,q2,rfl,k2,h0⟩:=bg h0
 obtain ⟨c3,q3,rfl,k3,h0⟩:=bg h0
 obtain ⟨c4,q4,rfl,k4,h0⟩:=bg h0
 obtain ⟨c5,q5,rfl,k5,h0⟩:=bg h0
 obtain ⟨c6,q6,rfl,k6,h0⟩:=bg h0
 have e:q6=[]:=h0
 subst e
 obtain ⟨x79,rfl,b80⟩:=iB rfl k0
 obtain ⟨x81,rfl,b82⟩:=ee rfl k1
 obtain ⟨x83,rfl,b84⟩:=ee rfl k2
 obtain ⟨x85,rfl,b86⟩:=ee rfl k3
 obtain ⟨x87,rfl,b88⟩:=iB rfl k4
 obtain ⟨x89,rfl,b90⟩:=iJ ae (λ y=>ac.Bd y) rfl k5 (λ m91 y92 hm93 k94 k95=>by
  obtain ⟨x96,e98,b97⟩:=ac.dec _ _ k94
  exact ⟨x96,(nt e98 k95).trans (ac.agg_eq _).symm,b97⟩
  )
 obtain ⟨x99,rfl⟩:=vt rfl k6
 exact ⟨af.mk x79 x81 x83 x85 x87 x89 x99,rfl,.mk b80 b82 b84 b86 b88 b90.1 b90.2⟩
inductive ab.Bd:ab→Prop where
 | mk {x:ab} (bl:x.fl.length*32≤et) (el:∀ y∈x.fl,ai.Bd y) (bat:inR x.fat) (bnest:inR x.fnest) (bbase:inR x.fbase) (bbad:ao.Bd x.fbad):ab.Bd x
theorem ab.Bd.bl {x:ab}(h:ab.Bd x):x.fl.length*32≤et:=by cases h; assumption
theorem ab.Bd.el {x:ab}(h:ab.Bd x):∀ y∈x.fl,ai.Bd y:=by cases h; assumption
theorem ab.Bd.bat {x:ab}(h:ab.Bd x):inR x.fat:=by cases h; assumption
theorem ab.Bd.bnest {x:ab}(h:ab.Bd x):inR x.fnest:=by cases h; assumption
theorem ab.Bd.bbase {x:ab}(h:ab.Bd x):inR x.fbase:=by cases h; assumption
theorem ab.Bd.bbad {x:ab}(h:ab.Bd x):ao.Bd x.fbad:=by cases h; assumption
theorem ab.dec (n:Nat):(∀ cs,WTf tt n 108 cs→∃ x:ab,cs=ab.cs x∧ab.Bd x):=by
 induction n using Nat.strongRecOn with
 | _ n ih =>
 have ih_Tparser:∀ m,m < n→(∀ cs,WTf tt m 108 cs→∃ x:ab,cs=ab.cs x∧ab.Bd x):=λ m hm=>(ih m hm)
 intro cs h
 cases n with
 | zero=>exact h.elim
 | succ n =>
 have h0:=fS rfl h
 obtain ⟨c0,q0,rfl,k0,h0⟩:=bg h0
 obtain ⟨c1,q1,rfl,k1,h0⟩:=bg h0
 obtain ⟨c2,q2,rfl,k2,h0⟩:=bg h0
 obtain ⟨c3,q3,rfl,k3,h0⟩:=bg h0
 obtain ⟨c4,q4,rfl,k4,h0⟩:=bg h0
 have e:q4=[]:=h0
 subst e
 obtain ⟨x101,rfl,b102⟩:=iJ aR (λ y=>ai.Bd y) rfl k0 (λ m103 y104 hm105 k106 k107=>by
  obtain ⟨x108,e110,b109⟩:=ai.dec _ _ k106
  exact ⟨x108,(nt e110 k107).trans (ai.agg_eq _).symm,b109⟩
  )
 obtain ⟨x111,rfl,b112⟩:=ee rfl k1
 obtain ⟨x113,rfl,b114⟩:=ee rfl k2
 obtain ⟨x115,rfl,b116⟩:=ee rfl k3
 obtain ⟨x117,rfl,b118⟩:=ao.dec _ _ k4
 exact ⟨ab.mk x101 x111 x113 x115 x117,rfl,.mk b102.1 b102.2 b112 b114 b116 b118⟩
end Go.Ab
end
section
set_option linter.unusedVariables false
set_option linter.unusedSimpArgs false
set_option linter.unnecessarySimpa false
namespace Go.Ab.R06
open Go.Ab Go.Ab.RB Go.Lib
theorem kY {P:Int→Prop}{i:Nat}(h:P ((i+1:Nat):Int)):P ((i:Int)+1):=by rwa [Int.natCast_add,Int.natCast_one] at h
theorem kK {α:Type} [Inhabited α] (l:List α){i:Nat}(h:i < l.length):l.drop i=lat l (i:Int)::l.drop (i+1):=by
 rw [tl l i h]; exact List.drop_eq_getElem_cons h
theorem tr (s:Bytes):eG s=some (kU s):=by
 unfold eG kU xA
 simp only [List.any_cons,List.any_nil,Bool.or_false]
 by_cases h1:s=[110,117,108,108]
 ·simp [h1]
 by_cases h2:s=[116,114,117,101]
 ·simp [h2]
 by_cases h3:s=[102,97,108,115,101]
 ·simp [h3]
 by_cases h4:s=[102,111,114]
 ·simp [h4]
 by_cases h5:s=[105,110]
 ·simp [h5]
 by_cases h6:s=[105,102]
 ·simp [h6]
 simp [h1,h2,h3,h4,h5,h6]
def mh (v:ad):Prop:=v.fKind=1∧v.fNum≠0∧v.fNum≠1∨v.fKind≠1∧v.fKind≠2∧v.fNum≠0∨v.fKind≠3∧v.fStr≠[]∨v.fItems≠[]∨v.fKeys≠[]
theorem tw {α:Type}(l:List α):(0 < (l.length:Int))↔l≠[]:=by rw [← List.length_pos_iff]; omega
theorem rL {α:Type}(l:List α):((l.length:Int)=0)↔l=[]:=by rw [← List.length_eq_zero_iff]; omega
set_option maxHeartbeats 4000000 in
theorem uB (v:ad)(h0:0≤v.fKind)(h3:v.fKind≤3):∃ b,gN v=some b∧(b=true↔¬ mh v):=by
 unfold gN mh
 have hk:v.fKind=0∨v.fKind=1∨v.fKind=2∨v.fKind=3:=by omega
 clear h0 h3
 rcases hk with h | h | h | h <;> by_cases a:v.fNum=0 <;> by_cases b:v.fNum=1 <;> by_cases c:v.fStr=[] <;> by_cases d:v.fItems=[] <;> by_cases e:v.fKeys=[] <;> simp [h,a,b,c,d,e,tw,rL,vi,vl]
set_option maxHeartbeats 4000000 in
theorem tY (v:ad)(h0:0≤v.fKind)(h3:v.fKind≤3):∃ b,gP v=some b∧(b=true↔¬ mh v):=by
 unfold gP mh
 have hk:v.fKind=0∨v.fKind=1∨v.fKind=2∨v.fKind=3:=by omega
 clear h0 h3
 rcases hk with h | h | h | h <;> by_cases a:v.fNum=0 <;> by_cases b:v.fNum=1 <;> by_cases c:v.fStr=[] <;> by_cases d:v.fItems=[] <;> by_cases e:v.fKeys=[] <;> simp [h,a,b,c,d,e,tw,rL,vi,vl]
theorem oR {v:ad}(h:mh v):pF v=1:=if_pos h
theorem qp {v:ad}(h:¬ mh v):pF v=if v.fKind=2∧¬ (-lb≤v.fNum∧v.fNum≤lb) then 5 else if v.fKind=3∧4096 < v.fStr.length then 3 else if v.fKind=3∧validD v.fStr=false then 1 else 0:=if_neg h
def q9 (s:Bytes):Int:=if 4096 < s.length then 3 else if validD s=false then 1 else 0
theorem xt (s:Bytes):g6 s=some (q9 s):=by
 unfold g6 q9
 by_cases h:4096 < s.length
 ·rw [if_pos (by omega),if_pos h]
 ·rw [if_neg (by omega),if_neg h,xG,Option.bind_some]
  have:decide (s.length≤4096)=true:=by rw [decide_eq_true_eq]; omega
  rw [this,Bool.true_and]
  cases validD s <;> rfl
theorem xj (s:Bytes):Ev2 (λ n _=>gt n s) (·=q9 s):=by
 simp only [gt]
 unfold q9
 refine bm (λ h=>am (by rw [if_pos (by omega)])) (λ h=>?_)
 rw [if_neg (show ¬ 4096 < s.length by omega)]
 refine bT _ (uo s (by omega)) ?_
 have:decide (s.length≤4096)=true:=by rw [decide_eq_true_eq]; omega
 rw [this,Bool.true_and]
 cases validD s with
 | true=>exact cV (by decide) (am rfl)
 | false=>exact fA (by decide) (am rfl)
theorem tI:q9 []=0:=by unfold q9; rw [if_neg (by decide)]; rfl
theorem we (v:ad)(h0:0≤v.fKind)(h3:v.fKind≤3):Ev2 (λ n _=>fH n v) (·=pF v):=by
 obtain ⟨b,hb,hi⟩:=uB v h0 h3
 simp only [fH]
 refine bT _ (dH hb rfl) (bm (λ h=>am ?_) (λ h=>?_))
 ·have:mh v:=Classical.byContradiction λ k=>by rw [hi.2 k] at h; simp at h
  rw [oR this]
 ·have hg:¬ mh v:=hi.1 (by simpa using h)
  rw [qp hg]
  by_cases h2:v.fKind=2
  ·simp only [h2,if_true,true_and]
   by_cases hv:-lb≤v.fNum∧v.fNum≤lb
   ·refine kP () (bT _ (dH (rZ _) rfl) (cV (by simp [hv]) (am rfl))) (am ?_)
    rw [if_neg (by simpa using hv),if_neg (by omega),if_neg (by omega)]
   ·refine pr 5 (bT _ (dH (rZ _) rfl) (fA (by simp [hv]) (am rfl))) ?_
    rw [if_pos hv]
  ·by_cases h5:v.fKind=3
   ·refine pr (q9 v.fStr) (cV h2 (fA h5 (bT _ (dH (xt _) rfl) (am rfl)))) ?_
    rw [if_neg (by omega)]; unfold q9; simp only [h5,true_and]
   ·refine kP () (cV h2 (cV h5 (cV (by omega) (am rfl)))) (am ?_)
    rw [if_neg (by omega),if_neg (by omega),if_neg (by omega)]
theorem wI (v:ad)(h0:0≤v.fKind)(h3:v.fKind≤3):Ev2 (λ n _=>iQ n v) (·=pF v):=by
 obtain ⟨b,hb,hi⟩:=tY v h0 h3
 simp only [iQ]
 refine bT _ (dH hb rfl) (bm (λ h=>am ?_) (λ h=>?_))
 ·have:mh v:=Classical.byContradiction λ k=>by rw [hi.2 k] at h; simp at h
  rw [oR this]
 ·have hg:¬ mh v:=hi.1 (by simpa using h)
  rw [qp hg]
  have nv:jq v.fNum=some (decide (-lb≤v.fNum∧v.fNum≤lb)):=rZ v.fNum
  have tail:v.fKeys=[]:=by unfold mh at hg; simp only [not_or] at hg; exact Classical.not_not.1 hg.2.2.2.2
  have str:v.fKind≠3→v.fStr=[]:=λ k=>by unfold mh at hg; simp only [not_or] at hg; exact Classical.byContradiction λ q=>hg.2.2.1 ⟨k,q⟩
  have last:Ev2 (λ n _=>(gt n v.fStr).bind λ r9=>if r9=0 then jn (dX n v n 0) λ _=>some 0 else some r9) (·=q9 v.fStr):=by
   refine bT _ (xj _) (bm (λ h=>?_) (λ h=>am rfl))
   refine kP () (fh (f:=λ n m=>dX n v m 0) (dc ?_)) (am h.symm)
   simp only [dX]
   exact cV (by rw [tail]; decide) (am rfl)
  by_cases h2:v.fKind=2
  ·simp only [h2,if_true,true_and]
   refine bT (!decide (-lb≤v.fNum∧v.fNum≤lb)) (bT _ (dH nv rfl) (am rfl)) (bm (λ h=>am ?_) (λ h=>?_))
   ·rw [if_pos (λ k=>by rw [decide_eq_true k] at h; exact absurd h (by decide))]
   ·rw [if_neg (show ¬ ¬ (-lb≤v.fNum∧v.fNum≤lb) from λ k=>h (by rw [decide_eq_false k]; rfl)),if_neg (by omega),if_neg (by omega)]
    rw [str (by omega),tI] at last
    rw [str (by omega)]
    exact last
  ·refine bT false (cV h2 (am rfl)) (cV (by decide) ?_)
   rw [if_neg (by omega)]
   by_cases h5:v.fKind=3
   ·simp only [h5,true_and]; exact last
   ·rw [if_neg (by omega),if_neg (by omega)]
    rw [str h5,tI] at last
    rw [str h5]
    exact last
theorem oQ {v:ad}(h:pF v=0):v.fItems=[]:=by
 have hg:¬ mh v:=λ k=>by rw [oR k] at h; cases h
 unfold mh at hg; simp only [not_or] at hg; exact Classical.not_not.1 hg.2.2.2.1
theorem uZ (v:ad)(h0:0≤v.fKind)(h3:v.fKind≤3):Ev2 (λ n _=>eW n v) (·=pF v):=by
 simp only [eW]
 refine fJ (λ r=>r.1=pF v) (kb ?_) (λ r hr=>am hr)
 simp only [b9]
 refine cV (by decide) (cV (by decide) (dQ (by decide) (bT _ (we v h0 h3) (bm (λ h=>?_) (λ h=>am rfl)))))
 refine kP 1 (fh (f:=λ n m=>b7 (b9 n) v 1 m 0 (0+1)) (dc ?_)) (am h.symm)
 simp only [b7]
 exact cV (by rw [oQ h]; decide) (am rfl)
theorem u7 (v:ad)(h0:0≤v.fKind)(h3:v.fKind≤3):Ev2 (λ n _=>ic n v) (·=pF v):=by
 simp only [ic]
 refine fJ (λ r=>r.1=pF v) (kb ?_) (λ r hr=>am hr)
 simp only [eR]
 refine cV (by decide) (cV (by decide) (bT _ (wI v h0 h3) (bm (λ h=>dQ (by decide) ?_) (λ h=>am rfl))))
 refine kP 1 (fh (f:=λ n m=>ed (eR n) v 1 m (0+1) 0) (dc ?_)) (am h.symm)
 simp only [ed]
 exact cV (by rw [oQ h]; decide) (am rfl)
theorem wU (k:Int):gr k=some (decide (k=3∨k=4∨k=9∨k=12∨k=13)):=by
 unfold gr gX
 by_cases a:k=3
 ·simp [a]
 by_cases b:k=4
 ·simp [b]
 by_cases c:k=9
 ·simp [c]
 by_cases d:k=12
 ·simp [d]
 simp [a,b,c,d]
theorem qS (k:Int):eV k=some (decide (k=3∨k=4∨k=9∨k=12∨k=13)):=by
 unfold eV fj
 by_cases a:k=3
 ·simp [a]
 by_cases b:k=4
 ·simp [b]
 by_cases c:k=9
 ·simp [c]
 by_cases d:k=12
 ·simp [d]
 simp [a,b,c,d]
section
variable {α β:Type}
theorem sd {p:Prop} [Decidable p] {a b:Option α}(h1:p→∃ r,a=some r)(h2:¬p→∃ r,b=some r):∃ r,(if p then a else b)=some r:=by
 by_cases h:p
 ·simpa only [if_pos h] using h1 h
 ·simpa only [if_neg h] using h2 h
theorem qK {g:Option β}{k:β→Option α}(h:∃ r,g=some r)(hk:∀ x,∃ r,k x=some r):∃ r,g.bind k=some r:=by
 obtain ⟨x,rfl⟩:=h
 exact hk x
theorem uN {p:Prop} [Decidable p] {a:Option α}(hp:p)(h:∃ r,a=some r):∃ r,ck p a=some r:=by rw [eh hp]; exact h
end
theorem u0 (k:Int):∃ r,fj k=some r:=by unfold fj; repeat' (first | exact ⟨_,rfl⟩ | refine qK ?_ (λ _=>?_) | refine sd (λ _=>?_) (λ _=>?_) | refine uN (by decide) ?_)
theorem xR (k n:Int):∃ r,fb k n=some r:=by unfold fb; repeat' (first | exact ⟨_,rfl⟩ | exact u0 _ | exact ⟨_,qS _⟩ | refine qK ?_ (λ _=>?_) | refine sd (λ _=>?_) (λ _=>?_) | refine uN (by decide) ?_)
theorem sQ (e:ac):∃ r,dU e=some r:=by unfold dU; repeat' (first | exact ⟨_,rfl⟩ | exact u0 _ | exact ⟨_,qS _⟩ | exact xR _ _ | exact w7 _ | refine qK ?_ (λ _=>?_) | refine sd (λ _=>?_) (λ _=>?_) | refine uN (by decide) ?_)
inductive Sz:ac→Prop where
 | mk {x:ac} (n:x.fName.length≤1000000000000000) (k:x.fKey.length≤1000000000000000) (v:x.fValue.fItems.length+x.fValue.fKeys.length≤1000000000000000) (c:x.fKids.length≤1000000000000000) (kids:∀ y∈x.fKids,Sz y):Sz x
theorem Sz.n {x:ac}(h:Sz x):x.fName.length≤1000000000000000:=by cases h; assumption
theorem Sz.k {x:ac}(h:Sz x):x.fKey.length≤1000000000000000:=by cases h; assumption
theorem Sz.v {x:ac}(h:Sz x):x.fValue.fItems.length+x.fValue.fKeys.length≤1000000000000000:=by cases h; assumption
theorem Sz.kids {x:ac}(h:Sz x):∀ y∈x.fKids,Sz y:=by cases h; assumption
theorem w8 {e:ac}(hb:ac.Bd e):Sz e:=by
 induction hb with
 | @mk x bKind bOp bName bKey bValue bKids eKids bAt ih =>
  have h1:=bValue.bItems
  have h2:=bValue.bKeys
  unfold et at h1 h2 bName bKey bKids
  exact .mk (by omega) (by omega) (by omega) (by omega) ih
theorem o3 {e:ac}(hb:Sz e):dU e=some (qY e):=by
 have h:=qC e hb.v
 obtain ⟨r,hr⟩:=sQ e
 unfold qY
 rw [h,hr]; rfl
theorem vq {e:ac}(hb:Sz e):fQ e=some (qY e):=by
 rw [qC e hb.v,o3 hb]
theorem mt {e:ac}(hb:Sz e)(h:qY e=true)(hk:e.fKind=1):0≤e.fValue.fKind∧e.fValue.fKind≤3:=by
 have h1:=o3 hb
 rw [h] at h1
 unfold dU at h1
 generalize (Option.bind (fb e.fKind (e.fKids.length:Int)) _:Option Bool)=o at h1
 cases o with
 | none=>cases h1
 | some t =>
  cases t with
  | true=>cases h1
  | false =>
   simp only [Option.bind_some,Bool.false_eq_true,if_false,hk,if_true] at h1
   by_cases a:e.fOp=0
   ·by_cases b:e.fValue.fKind=0
    ·omega
    ·by_cases c:e.fValue.fKind=1
     ·omega
     ·by_cases d:e.fValue.fKind=3
      ·omega
      ·by_cases f:e.fValue.fKind=2
       ·omega
       ·simp [a,b,c,d,f] at h1
   ·simp [a] at h1
theorem xf {e:ac}(hb:Sz e):Ev2 (λ n _=>gA n e) (·=lI e):=by
 have b1:=hb.n
 have b2:=hb.k
 simp only [gA]
 unfold lI
 refine bT _ (dH (vq hb) rfl) (bm (λ h=>am (by rw [if_pos (by simpa using h)])) (λ h=>?_))
 have h:qY e=true:=by simpa using h
 rw [if_neg (show ¬ qY e=false by rw [h]; decide)]
 refine bm (λ hk=>?_) (λ hk=>?_)
 ·rw [if_pos hk]
  exact bT _ (uZ _ (mt hb h hk).1 (mt hb h hk).2) (am rfl)
 rw [if_neg hk]
 refine bT (decide ((e.fKind=3∨e.fKind=4∨e.fKind=9∨e.fKind=12∨e.fKind=13)∧(cY e.fName=false∨e.fKind≠4∧kU e.fName=true))) ?_ ?_
 ·refine bT _ (dH (wU _) rfl) (bm (λ hn=>?_) (λ hn=>am ?_))
  ·have hn:=of_decide_eq_true hn
   rw [show decide ((e.fKind=3∨e.fKind=4∨e.fKind=9∨e.fKind=12∨e.fKind=13)∧(cY e.fName=false∨e.fKind≠4∧kU e.fName=true))=decide (cY e.fName=false∨e.fKind≠4∧kU e.fName=true) by simp only [hn,true_and]]
   refine bT _ (re _ (by omega)) (bm (λ hi=>am ?_) (λ hi=>bm (λ h4=>am ?_) (λ h4=>bT _ (dH (vg _) rfl) (am ?_))))
   ·have hi:cY e.fName=false:=by simpa using hi
    simp [hi]
   ·have hi:cY e.fName=true:=by simpa using hi
    simp [hi,h4]
   ·have hi:cY e.fName=true:=by simpa using hi
    simp [hi,h4]
  ·have hn:¬ (e.fKind=3∨e.fKind=4∨e.fKind=9∨e.fKind=12∨e.fKind=13):=λ k=>hn (decide_eq_true k)
   simp only [hn,false_and,decide_false]
 ·refine bm (λ hq=>am (by rw [if_pos (of_decide_eq_true hq)])) (λ hq=>?_)
  rw [if_neg (λ k=>hq (decide_eq_true k))]
  refine bT (decide (e.fKey≠[]∧(cY e.fKey=false∨kU e.fKey=true))) ?_ ?_
  ·refine bm (λ hk=>am (by simp [hk])) (λ hk=>?_)
   refine bT _ (re _ (by omega)) (bm (λ hi=>am ?_) (λ hi=>bT _ (dH (vg _) rfl) (am ?_)))
   ·have hi:cY e.fKey=false:=by simpa using hi
    simp [hi,hk]
   ·have hi:cY e.fKey=true:=by simpa using hi
    simp [hi,hk]
  ·refine bm (λ hq=>am (by rw [if_pos (of_decide_eq_true hq)])) (λ hq=>am ?_)
   rw [if_neg (λ k=>hq (decide_eq_true k))]
theorem xo {e:ac}(hb:Sz e):Ev2 (λ n _=>ja n e) (·=lI e):=by
 have b1:=hb.n
 have b2:=hb.k
 simp only [ja]
 unfold lI
 refine bT _ (dH (o3 hb) rfl) (bm (λ h=>am (by rw [if_pos (by simpa using h)])) (λ h=>?_))
 have h:qY e=true:=by simpa using h
 rw [if_neg (show ¬ qY e=false by rw [h]; decide)]
 refine bm (λ hk=>?_) (λ hk=>?_)
 ·rw [if_pos hk]
  exact bT _ (u7 _ (mt hb h hk).1 (mt hb h hk).2) (am rfl)
 rw [if_neg hk]
 refine bT (decide ((e.fKind=3∨e.fKind=4∨e.fKind=9∨e.fKind=12∨e.fKind=13)∧(cY e.fName=false∨e.fKind≠4∧kU e.fName=true))) ?_ ?_
 ·refine bT _ (dH (qS _) rfl) (bm (λ hn=>?_) (λ hn=>am ?_))
  ·have hn:=of_decide_eq_true hn
   rw [show decide ((e.fKind=3∨e.fKind=4∨e.fKind=9∨e.fKind=12∨e.fKind=13)∧(cY e.fName=false∨e.fKind≠4∧kU e.fName=true))=decide (cY e.fName=false∨e.fKind≠4∧kU e.fName=true) by simp only [hn,true_and]]
   refine bT _ (qj _ (by omega)) (bm (λ hi=>am ?_) (λ hi=>bm (λ h4=>am ?_) (λ h4=>bT _ (dH (tr _) rfl) (am ?_))))
   ·have hi:cY e.fName=false:=by simpa using hi
    simp [hi]
   ·have hi:cY e.fName=true:=by simpa using hi
    simp [hi,h4]
   ·have hi:cY e.fName=true:=by simpa using hi
    simp [hi,h4]
  ·have hn:¬ (e.fKind=3∨e.fKind=4∨e.fKind=9∨e.fKind=12∨e.fKind=13):=λ k=>hn (decide_eq_true k)
   simp only [hn,false_and,decide_false]
 ·refine bm (λ hq=>am (by rw [if_pos (of_decide_eq_true hq)])) (λ hq=>?_)
  rw [if_neg (λ k=>hq (decide_eq_true k))]
  refine bT (decide (e.fKey≠[]∧(cY e.fKey=false∨kU e.fKey=true))) ?_ ?_
  ·refine bm (λ hk=>am (by simp [hk])) (λ hk=>?_)
   simp only [kd]
   refine bT (cY e.fKey&&!kU e.fKey) ?_ (am ?_)
   ·refine bT (cY e.fKey&&!kU e.fKey) (bT _ (qj _ (by omega)) (bm (λ hi=>bT _ (dH (tr _) rfl) (am ?_)) (λ hi=>am ?_))) (am rfl)
    ·rw [hi]; rfl
    ·have hi:cY e.fKey=false:=by simpa using hi
     rw [hi]; rfl
   ·cases cY e.fKey <;> cases kU e.fKey <;> simp [hk]
  ·refine bm (λ hq=>am (by rw [if_pos (of_decide_eq_true hq)])) (λ hq=>am ?_)
   rw [if_neg (λ k=>hq (decide_eq_true k))]
theorem x9 {e:ac}(hb:Sz e):∀ (c lv:Nat) (ci li:Int),ci=c→li=lv→c≤4096→lv≤33 →
  Ev2 (λ n _=>aK n (aI.mk ci) e li) (λ r=>r.1=(lu c lv e).1∧r.2=aI.mk (((lu c lv e).2:Nat):Int)∧(lu c lv e).2≤4096):=by
 induction hb with
 | @mk x sn sk sv hs skids ih =>
  intro c lv ci li hc hl h1 h2
  have hb:Sz x:=.mk sn sk sv hs skids
  refine kb ?_
  simp only [aK]
  rw [tR]
  refine bm (λ h=>?_) (λ h=>?_)
  ·rw [if_pos (by omega)]; exact am ⟨rfl,by rw [hc],h1⟩
  rw [if_neg (show ¬ 32 < lv by omega)]
  refine bm (λ h5=>?_) (λ h5=>?_)
  ·rw [if_pos (by omega)]; exact am ⟨rfl,by rw [hc],h1⟩
  rw [if_neg (show ¬ 4096≤c by omega)]
  refine dQ (dM (by omega) (by omega)) ?_
  refine bT _ (xf hb) ?_
  refine bm (λ h0=>?_) (λ h0=>?_)
  ·rw [if_pos h0]
   have loop:∀ (k i c:Nat) (ci:Int),i+k=x.fKids.length→ci=c→c≤4096→Ev2 (λ n m=>aO (aK n) x li m (i:Int) ci) (λ s=>(jN c (lv+1) (x.fKids.drop i)).2≤4096∧s=if (jN c (lv+1) (x.fKids.drop i)).1=0 then .inl (((jN c (lv+1) (x.fKids.drop i)).2:Nat):Int) else .inr ((jN c (lv+1) (x.fKids.drop i)).1,aI.mk (((jN c (lv+1) (x.fKids.drop i)).2:Nat):Int))):=by
    intro k
    induction k with
    | zero =>
     intro i c ci hi hc h6
     refine dc ?_
     simp only [aO]
     rw [List.drop_eq_nil_of_le (by omega)]
     exact cV (by omega) (am ⟨by rw [jN]; exact h6,by rw [jN,hc]; rfl⟩)
    | succ k ihk =>
     intro i c ci hi hc h6
     refine dc ?_
     simp only [aO]
     rw [kK _ (show i < x.fKids.length by omega),qv]
     refine fA (by omega) (dQ (by omega) (dQ (dM (by omega) (by omega)) ?_))
     refine fJ _ (ih _ (mJ (by omega)) c (lv+1) ci (li+1) hc (by omega) h6 (by omega)) ?_
     rintro ⟨r1,r2⟩ ⟨q1,q2,q3⟩
     simp only at q1 q2
     subst q1 q2
     refine bm (λ h8=>?_) (λ h8=>?_)
     ·simp only [if_pos h8]
      refine dQ (dM (by omega) (by omega)) ?_
      exact kY (P:=λ j=>Ev2 (λ n m=>aO (aK n) x li m j _) _) (ihk (i+1) _ _ (by omega) rfl q3)
     ·simp only [if_neg h8]; exact am ⟨q3,rfl⟩
   refine u1 (iC (fh (f:=λ n m=>aO (aK n) x li m 0 (ci+1)) (loop x.fKids.length 0 (c+1) (ci+1) (by omega) (by omega) (by omega))) ?_)
   rintro s ⟨s1,s2⟩
   simp only [List.drop_zero] at s1 s2
   subst s2
   by_cases h9:(jN (c+1) (lv+1) x.fKids).1=0
   ·simp only [if_pos h9]; exact am ⟨h9.symm,rfl,s1⟩
   ·rw [if_neg h9]; exact ⟨rfl,rfl,s1⟩
  ·rw [if_neg h0]; exact am ⟨rfl,by rw [hc,Int.natCast_add,Int.natCast_one],by omega⟩
theorem wx {e:ac}(hb:Sz e):Ev2 (λ n _=>eZ n e) (·=chk e):=by
 simp only [eZ]
 exact fJ _ (x9 hb 0 1 0 1 rfl rfl (by decide) (by decide)) (λ r hr=>am hr.1)
theorem x8 {e:ac}(hb:Sz e):∀ (c lv:Nat) (ci li:Int),ci=c→li=lv→c≤4096→lv≤33 →
  Ev2 (λ n _=>cR n e li ci) (λ r=>r.1=(lu c lv e).1∧(r.1=0→r.2=(((lu c lv e).2:Nat):Int))∧(lu c lv e).2≤4096):=by
 induction hb with
 | @mk x sn sk sv hs skids ih =>
  intro c lv ci li hc hl h1 h2
  have hb:Sz x:=.mk sn sk sv hs skids
  refine kb ?_
  simp only [cR]
  rw [tR]
  refine bm (λ h=>?_) (λ h=>?_)
  ·rw [if_pos (by omega)]; exact am ⟨rfl,by simp,h1⟩
  rw [if_neg (show ¬ 32 < lv by omega)]
  refine bm (λ h5=>?_) (λ h5=>?_)
  ·rw [if_pos (by omega)]; exact am ⟨rfl,by simp,h1⟩
  rw [if_neg (show ¬ 4096≤c by omega)]
  refine bT _ (xo hb) ?_
  refine dQ (dM (by omega) (by omega)) ?_
  have stop:∀ (i ci kk:Int),kk≠0→Ev2 (λ n m=>bP (cR n) x li m kk ci i) (·=(kk,ci)):=by
   intro i ci kk hk
   refine dc ?_
   simp only [bP]
   refine bT false (bm (λ _=>am (by simpa using hk)) (λ _=>am rfl)) (cV (by decide) (am rfl))
  by_cases h0:lI x=0
  ·rw [if_pos h0,h0]
   have loop:∀ (k i c:Nat) (ci:Int),i+k=x.fKids.length→ci=c→c≤4096→Ev2 (λ n m=>bP (cR n) x li m 0 ci (i:Int)) (λ s=>(jN c (lv+1) (x.fKids.drop i)).2≤4096∧s.1=(jN c (lv+1) (x.fKids.drop i)).1∧(s.1=0→s.2=(((jN c (lv+1) (x.fKids.drop i)).2:Nat):Int))):=by
    intro k
    induction k with
    | zero =>
     intro i c ci hi hc h6
     refine dc ?_
     simp only [bP]
     rw [List.drop_eq_nil_of_le (by omega)]
     refine bT false (cV (by omega) (am rfl)) (cV (by decide) (am ⟨by rw [jN]; exact h6,by rw [jN],λ _=>by rw [jN]; exact hc⟩))
    | succ k ihk =>
     intro i c ci hi hc h6
     refine dc ?_
     simp only [bP]
     rw [kK _ (show i < x.fKids.length by omega),qv]
     refine bT true (fA (by omega) (am rfl)) (fA rfl (dQ (by omega) (dQ (dM (by omega) (by omega)) ?_)))
     refine fJ _ (ih _ (mJ (by omega)) c (lv+1) ci (li+1) hc (by omega) h6 (by omega)) ?_
     rintro ⟨r1,r2⟩ ⟨q1,q2,q3⟩
     simp only at q1 q2
     refine dQ (dM (by omega) (by omega)) ?_
     by_cases h8:r1=0
     ·subst h8
      have q2:=q2 rfl
      simp only [if_pos q1.symm]
      subst q2
      exact kY (P:=λ j=>Ev2 (λ n m=>bP (cR n) x li m 0 _ j) _) (ihk (i+1) _ _ (by omega) rfl q3)
     ·simp only [if_neg (show ¬ (lu c (lv+1) (lat x.fKids (i:Int))).1=0 by rw [← q1]; exact h8)]
      exact iC (stop _ _ _ h8) (λ s hs=>by subst hs; exact ⟨q3,q1,λ k=>absurd k h8⟩)
   refine fJ _ (fh (f:=λ n m=>bP (cR n) x li m 0 (ci+1) 0) (loop x.fKids.length 0 (c+1) (ci+1) (by omega) (by omega) (by omega))) ?_
   rintro s ⟨s1,s2,s3⟩
   simp only [List.drop_zero] at s1 s2 s3
   exact am ⟨s2,s3,s1⟩
  ·rw [if_neg h0]
   exact fJ _ (fh (f:=λ n m=>bP (cR n) x li m (lI x) (ci+1) 0) (stop _ _ _ h0)) (λ s hs=>by subst hs; exact am ⟨rfl,λ k=>absurd k h0,by omega⟩)
theorem wz {e:ac}(hb:Sz e):Ev2 (λ n _=>ip n e) (·=chk e):=by
 simp only [ip]
 exact fJ _ (x8 hb 0 1 0 1 rfl rfl (by decide) (by decide)) (λ r hr=>am hr.1)
mutual
def iS:ac→Nat
 | .mk _ _ _ _ _ kids _=>1+gg kids
def gg:List ac→Nat
 | []=>0
 | x::r=>iS x+gg r
end
theorem jW (e:ac):iS e=1+gg e.fKids:=by cases e; simp only [iS,ac.fKids]
theorem u2 {e:ac}(hb:ac.Bd e):∀ (nodes levels:Int),0≤nodes→nodes≤1000000→-1000000≤levels→levels≤1000000 →
  Ev2 (λ n _=>ea n e nodes levels) (λ r=>-1≤r∧r≤nodes∧(0≤r→r=nodes - (iS e:Int))):=by
 induction hb with
 | @mk x bKind bOp bName bKey bValue bKids eKids bAt ih =>
  intro nodes levels h1 h2 h3 h4
  have hl:=bKids
  unfold et at hl
  refine kb ?_
  simp only [ea]
  refine bm (λ _=>am ⟨by omega,by omega,by omega⟩) (λ h=>?_)
  refine dQ (dM (by omega) (by omega)) ?_
  have loop:∀ (k i:Nat) (c:Int),i+k=x.fKids.length→-1≤c→c≤1000000→Ev2 (λ n m=>cW (ea n) x levels m c (i:Int)) (λ s=>-1≤s∧s≤c∧(0≤s→s=c - (gg (x.fKids.drop i):Int))):=by
   intro k
   induction k with
   | zero =>
    intro i c hi h6 h7
    refine dc ?_
    simp only [cW]
    refine bT false (cV (by omega) (am rfl)) (cV (by simp) (am ⟨h6,by omega,λ _=>?_⟩))
    rw [List.drop_eq_nil_of_le (by omega)]; simp [gg]
   | succ k ihk =>
    intro i c hi h6 h7
    refine dc ?_
    simp only [cW]
    refine bT (decide (0≤c)) (fA (by omega) (am rfl)) (bm (λ h8=>?_) (λ h8=>am ⟨h6,by omega,λ h=>absurd (by simpa using h) h8⟩))
    have h8:0≤c:=by simpa using h8
    refine dQ (by omega) (dQ (dM (by omega) (by omega)) ?_)
    refine fJ _ (ih _ (mJ (by omega)) c (levels - 1) h8 h7 (by omega) (by omega)) (λ q hq=>?_)
    refine dQ (dM (by omega) (by omega)) ?_
    refine iC (kY (P:=λ j=>Ev2 (λ n m=>cW (ea n) x levels m q j) _) (ihk (i+1) q (by omega) hq.1 (by omega))) (λ s hs=>⟨hs.1,by omega,λ h=>?_⟩)
    rw [kK _ (by omega)]
    have a1:=hs.2.2 h
    have a2:=hq.2.2 (by omega)
    simp only [gg]
    omega
  refine fJ _ (fh (f:=λ n m=>cW (ea n) x levels m (nodes - 1) 0) (loop x.fKids.length 0 (nodes - 1) (by omega) (by omega) (by omega))) (λ s hs=>am ⟨hs.1,by omega,λ h=>?_⟩)
  have:=hs.2.2 h
  rw [jW]
  simp only [List.drop_zero] at this
  omega
theorem ul {e:ac}(hb:ac.Bd e)(nodes:Int)(h1:0≤nodes)(h2:nodes≤1000000):Ev2 (λ n _=>il n e nodes) (λ r=>r=true→(iS e:Int)≤nodes):=by
 simp only [il]
 refine fJ _ (u2 hb nodes 40 h1 h2 (by decide) (by decide)) (λ r hr=>am (λ h=>?_))
 have h:0≤r:=by simpa using h
 have:=hr.2.2 h
 omega
theorem uy {e:ac}(hb:ac.Bd e):iS e≤1000000→Ev2 (λ n _=>dG n e) (·=(iS e:Int)):=by
 induction hb with
 | @mk x bKind bOp bName bKey bValue bKids eKids bAt ih =>
  intro h0
  have hl:=bKids
  unfold et at hl
  rw [jW] at h0
  refine kb ?_
  simp only [dG]
  have loop:∀ (k i:Nat) (c:Int),i+k=x.fKids.length→0≤c→c+(gg (x.fKids.drop i):Int)≤2000000→gg (x.fKids.drop i)≤1000000→Ev2 (λ n m=>cJ (dG n) x m c (i:Int)) (·=c+(gg (x.fKids.drop i):Int)):=by
   intro k
   induction k with
   | zero =>
    intro i c hi h6 h7 h8
    refine dc ?_
    simp only [cJ]
    refine cV (by omega) (am ?_)
    rw [List.drop_eq_nil_of_le (by omega)]; simp [gg]
   | succ k ihk =>
    intro i c hi h6 h7 h8
    refine dc ?_
    simp only [cJ]
    rw [kK _ (by omega)] at h7 h8 ⊢
    simp only [gg] at h7 h8 ⊢
    refine fA (by omega) (dQ (by omega) ?_)
    refine bT _ (ih _ (mJ (by omega)) (by omega)) ?_
    refine dQ (dM (by omega) (by omega)) (dQ (dM (by omega) (by omega)) ?_)
    refine iC (kY (P:=λ j=>Ev2 (λ n m=>cJ (dG n) x m (c+(iS (lat x.fKids (i:Int)):Int)) j) _) (ihk (i+1) _ (by omega) (by omega) (by omega) (by omega))) (λ s hs=>?_)
    rw [hs]; omega
  refine bT _ (fh (f:=λ n m=>cJ (dG n) x m 1 0) (loop x.fKids.length 0 1 (by omega) (by omega) (by simp only [List.drop_zero]; omega) (by simp only [List.drop_zero]; omega))) (am ?_)
  rw [jW]; simp
theorem ut {e:ac}(hb:ac.Bd e):iS e≤1000000→Ev2 (λ n _=>cu n e) (·=(iS e:Int)):=by
 induction hb with
 | @mk x bKind bOp bName bKey bValue bKids eKids bAt ih =>
  intro h0
  have hl:=bKids
  unfold et at hl
  rw [jW] at h0
  refine kb ?_
  simp only [cu]
  have loop:∀ (k i:Nat) (c:Int),i+k=x.fKids.length→0≤c→c+(gg (x.fKids.drop i):Int)≤2000000→gg (x.fKids.drop i)≤1000000→Ev2 (λ n m=>ca (cu n) x m c (i:Int)) (·=c+(gg (x.fKids.drop i):Int)):=by
   intro k
   induction k with
   | zero =>
    intro i c hi h6 h7 h8
    refine dc ?_
    simp only [ca]
    refine cV (by omega) (am ?_)
    rw [List.drop_eq_nil_of_le (by omega)]; simp [gg]
   | succ k ihk =>
    intro i c hi h6 h7 h8
    refine dc ?_
    simp only [ca]
    rw [kK _ (by omega)] at h7 h8 ⊢
    simp only [gg] at h7 h8 ⊢
    refine fA (by omega) (dQ (by omega) ?_)
    refine bT _ (ih _ (mJ (by omega)) (by omega)) ?_
    refine dQ (dM (by omega) (by omega)) (dQ (dM (by omega) (by omega)) ?_)
    refine iC (kY (P:=λ j=>Ev2 (λ n m=>ca (cu n) x m (c+(iS (lat x.fKids (i:Int)):Int)) j) _) (ihk (i+1) _ (by omega) (by omega) (by omega) (by omega))) (λ s hs=>?_)
    rw [hs]; omega
  refine bT _ (fh (f:=λ n m=>ca (cu n) x m 1 0) (loop x.fKids.length 0 1 (by omega) (by omega) (by simp only [List.drop_zero]; omega) (by simp only [List.drop_zero]; omega))) (am ?_)
  rw [jW]; simp
end Go.Ab.R06
end
section
set_option linter.unusedVariables false
set_option linter.unusedSimpArgs false
set_option linter.unnecessarySimpa false
namespace Go.Ab.R06
open Go.Proofs Go.Ab Go.Ab.RB
attribute [local irreducible] awp fk aS au aF AV.sub M cB
def fV (n:Nat)(e_0:ac):Option Bool :=
 (il n e_0 400).bind λ r1 =>
 if (!r1)=true then
  (em n).bind λ r4 =>
  some r4
 else
  (
    (eZ n e_0).bind λ r6 =>
    (ip n e_0).bind λ r8 =>
    if r6=r8 then
     (cu n e_0).bind λ r11 =>
     (dG n e_0).bind λ r13 =>
     if r11=r13 then
      (em n).bind λ r16 =>
      some r16
     else
      some false
    else
     some false
   : Option Bool).bind λ t18 =>
  some t18
set_option maxHeartbeats 4000000 in
theorem lB (n:Nat)(e_0:ac)(r:Bool)(h0:fV n e_0=some r):au Tryz.prog 3 [.agg (ac.cs e_0)] (·=.p (eB r)):=by
 unfold fV at h0
 refine aW good Tryz.func3 rfl rfl rfl λ w0=>mP (λ v:Bool=>.p (eB v)) ?_
 refine nx 9 rfl (bd h0 λ r1 e2 h0=>?_)
 refine oK (pi _ e_0 400 _ e2) rfl ⟨sr,sr,trivial⟩ Tryz.call10 rfl (nx 2 rfl ?_)
 refine fB [5] h0 rfl (λ c3 h0=>?_) λ c3 h0=>?_
 ·refine nx 3 rfl (bd h0 λ r4 e5 h0=>?_)
  refine oK (kM _  _ e5) rfl trivial Tryz.call11 rfl (nx 3 rfl ?_)
  exact mQ (oi h0) rfl (sr)
 refine nx 3 rfl (bd h0 λ o20 h1 h0=>?_)
 refine kN o20 (λ v21=>⟨[(2,.p (eB v21))],[]⟩) ?_ ?_
 ·exact nx 2 rfl (mQ (oi h0) rfl (sr))
 refine bd h1 λ r6 e7 h1=>bd h1 λ r8 e9 h1=>fD (p:=r6=r8) [] h1 rfl (λ c10 h1=>?_) λ c10 h1=>?_
 ·refine bd h1 λ r11 e12 h1=>bd h1 λ r13 e14 h1=>fD (p:=r11=r13) [] h1 rfl (λ c15 h1=>?_) λ c15 h1=>?_
  ·refine bd h1 λ r16 e17 h1=>mD [(1,.ptr 1 0)] rfl ⟨rfl,trivial⟩ rfl (dR 1 rfl ?_)
   refine dq (.p (eI r6)) [7] rfl (λ _ e _ q=>ag rfl (bS (hH _ e_0 _ e7) rfl rfl rfl (az (e _ _ rfl) bc) ⟨sr,trivial⟩ Tryz.call12 rfl q)) rfl (dR 1 rfl ?_)
   refine dq (.p (eI r8)) [9] rfl (λ _ e _ q=>ag rfl (bS (i6 _ e_0 _ e9) rfl rfl rfl (az (e _ _ rfl) bc) ⟨sr,trivial⟩ Tryz.call13 rfl q)) rfl (dL (dt c10) rfl ?_)
   refine dR 2 rfl (dq (.p (eI r11)) [12,13] rfl (λ _ e _ q=>cX (bS (jv _ e_0 _ e12) rfl rfl rfl (az (e _ _ rfl) bc) ⟨sr,trivial⟩ Tryz.call14 rfl q) rfl rfl (e _ _ rfl) (rfl)) rfl ?_)
   refine dR 1 rfl (dq (.p (eI r13)) [12,15] rfl (λ _ e _ q=>cX (bS (kO _ e_0 _ e14) rfl rfl rfl (az (e _ _ rfl) bc) ⟨sr,trivial⟩ Tryz.call15 rfl q) rfl rfl (e _ _ rfl) (rfl)) rfl ?_)
   refine dL (dt c15) rfl (dR 2 rfl ?_)
   refine dq (.p (eB r16)) [19] rfl (λ _ e _ q=>cX (bS (kM _  _ e17) rfl rfl rfl bc trivial Tryz.call11 rfl q) rfl rfl (e _ _ rfl) (rfl)) rfl (dR 2 rfl ?_)
   refine dE rfl (nx 1 rfl ?_)
   exact eX _ (oi h1).symm (gE rfl rfl)
  refine mD [(1,.ptr 1 0)] rfl ⟨rfl,trivial⟩ rfl (dR 1 rfl ?_)
  refine dq (.p (eI r6)) [7] rfl (λ _ e _ q=>ag rfl (bS (hH _ e_0 _ e7) rfl rfl rfl (az (e _ _ rfl) bc) ⟨sr,trivial⟩ Tryz.call12 rfl q)) rfl (dR 1 rfl ?_)
  refine dq (.p (eI r8)) [9] rfl (λ _ e _ q=>ag rfl (bS (i6 _ e_0 _ e9) rfl rfl rfl (az (e _ _ rfl) bc) ⟨sr,trivial⟩ Tryz.call13 rfl q)) rfl (dL (dt c10) rfl ?_)
  refine dR 2 rfl (dq (.p (eI r11)) [12,13] rfl (λ _ e _ q=>cX (bS (jv _ e_0 _ e12) rfl rfl rfl (az (e _ _ rfl) bc) ⟨sr,trivial⟩ Tryz.call14 rfl q) rfl rfl (e _ _ rfl) (rfl)) rfl ?_)
  refine dR 1 rfl (dq (.p (eI r13)) [12,15] rfl (λ _ e _ q=>cX (bS (kO _ e_0 _ e14) rfl rfl rfl (az (e _ _ rfl) bc) ⟨sr,trivial⟩ Tryz.call15 rfl q) rfl rfl (e _ _ rfl) (rfl)) rfl ?_)
  refine dL (df c15) rfl (dR 5 rfl ?_)
  refine dE rfl (nx 1 rfl ?_)
  exact eX _ (oi h1).symm (gE rfl rfl)
 refine mD [(1,.ptr 1 0)] rfl ⟨rfl,trivial⟩ rfl (dR 1 rfl ?_)
 refine dq (.p (eI r6)) [7] rfl (λ _ e _ q=>ag rfl (bS (hH _ e_0 _ e7) rfl rfl rfl (az (e _ _ rfl) bc) ⟨sr,trivial⟩ Tryz.call12 rfl q)) rfl (dR 1 rfl ?_)
 refine dq (.p (eI r8)) [9] rfl (λ _ e _ q=>ag rfl (bS (i6 _ e_0 _ e9) rfl rfl rfl (az (e _ _ rfl) bc) ⟨sr,trivial⟩ Tryz.call13 rfl q)) rfl (dL (df c10) rfl ?_)
 refine dR 11 rfl (dE rfl ?_)
 exact nx 1 rfl (eX _ (oi h1).symm (gE rfl rfl))
end Go.Ab.R06
end
section
set_option linter.unusedVariables false
set_option linter.unusedSimpArgs false
set_option linter.unnecessarySimpa false
namespace Go.Ab.R06
open Go.Proofs Go.Ab Go.Ab.RB
theorem sW {e:ac}(hb:ac.Bd e):Ev2 (λ n _=>fV n e) (·=true):=by
 simp only [fV]
 refine fJ _ (ul hb 400 (by decide) (by decide)) (λ r hr=>?_)
 refine bm (λ _=>fJ _ rD (λ t ht=>am ht)) (λ h=>?_)
 have hn:=hr (by simpa using h)
 refine fJ (·=true) ?_ (λ t ht=>am ht)
 refine bT _ (wx (w8 hb)) (bT _ (wz (w8 hb)) (fA rfl ?_))
 refine bT _ (ut hb (by omega)) (bT _ (uy hb (by omega)) (fA rfl ?_))
 exact fJ _ rD (λ t ht=>am ht)
theorem sx (qs:List PV)(h:WTa tt [31] qs):au Tryz.prog 3 qs (·=.p (.val (.bool true))):=by
 match qs,h with
 | [a],⟨⟨n,h1,h2⟩,_⟩ =>
  obtain ⟨x,e1,b1⟩:=ac.dec n _ h1
  obtain rfl:=nt e1 h2
  obtain ⟨n,r,hr,rfl⟩:=xm (sW b1)
  exact lB n x true hr
end Go.Ab.R06
end
