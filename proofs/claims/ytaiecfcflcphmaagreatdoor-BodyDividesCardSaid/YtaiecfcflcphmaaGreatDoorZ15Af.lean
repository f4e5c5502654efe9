/- Texts of the proof, one behind the other. No statement is proved here. -/
import Derived.Test.YtaiecfcflcphmaaGreatDoorZ15Aa
import Derived.Test.YtaiecfcflcphmaaGreatDoorZ15Ab
import Derived.Test.YtaiecfcflcphmaaGreatDoorZ15Ac
import Derived.Test.YtaiecfcflcphmaaGreatDoorZ15Ad
import Derived.Test.YtaiecfcflcphmaaGreatDoorZ15Ae
set_option maxHeartbeats 4000000
section
namespace Go.Ab
set_option autoImplicit false
theorem hH {α:Type}{tt:List (Nat×TI)}{n t s b:Nat}{cs:List PV}{z:List Value}(f:α->PV)(Q:α->Prop){e:Nat}(hl:look tt t=some ⟨.slice e,s,b,z⟩)(h:WTf tt n t cs)
  (he:∀ m x,m<n->WTf tt m e x.cells->x=mkE (((look tt e).map (·.k.isAgg)).getD false) x.cells->∃ y,x=f y/\Q y):∃ l:List α,cs=[eL f l]/\l.length*(((look tt e).map (·.bytes)).getD 0)<=cH/\∀ y∈l,Q y:=by
 cases n with
 | zero=>exact h.elim
 | succ n=>
  obtain ⟨l,h1,h2,h3⟩:=Bq f Q hl h (λ x k1 k2=>he n x O k1 k2);exact ⟨l,h1,h2.2,h3⟩
inductive ar.Bd:ar->Prop where
 | mk {x:ar} (bKind:inR x.AI) (bNum:inR x.Em) (bStr:x.Ep.length<=cH) (bItems:x.Ei.length*80<=cH) (eItems:∀ y∈x.Ei,ar.Bd y) (bKeys:x.El.length*16<=cH) (eKeys:∀ y∈x.El,y.length<=cH):ar.Bd x
theorem ar.Bd.bKind {x:ar}(h:ar.Bd x):inR x.AI:=by cases h; assumption
theorem ar.Bd.bNum {x:ar}(h:ar.Bd x):inR x.Em:=by cases h; assumption
theorem ar.Bd.bStr {x:ar}(h:ar.Bd x):x.Ep.length<=cH:=by cases h; assumption
theorem ar.Bd.bItems {x:ar}(h:ar.Bd x):x.Ei.length*80<=cH:=by cases h; assumption
theorem ar.Bd.eItems {x:ar}(h:ar.Bd x):∀ y∈x.Ei,ar.Bd y:=by cases h; assumption
theorem ar.Bd.bKeys {x:ar}(h:ar.Bd x):x.El.length*16<=cH:=by cases h; assumption
theorem ar.Bd.eKeys {x:ar}(h:ar.Bd x):∀ y∈x.El,y.length<=cH:=by cases h; assumption
theorem ar.dec (n:Nat):(∀ cs,WTf tt n 43 cs->∃ x:ar,cs=ar.cs x/\ar.Bd x):=by
 induction n using Nat.strongRecOn with
 | _ n ih=>
 have JO:∀ m,m<n->(∀ cs,WTf tt m 43 cs->∃ x:ar,cs=ar.cs x/\ar.Bd x):=λ m hm=>(ih m hm)
 intro cs h
 cases n with
 | zero=>exact h.elim
 | succ n=>
 have h0:=fM rfl h;obtain ⟨c0,q0,rfl,k0,h0⟩:=bC h0;obtain ⟨c1,q1,rfl,k1,h0⟩:=bC h0;obtain ⟨c2,q2,rfl,k2,h0⟩:=bC h0;obtain ⟨c3,q3,rfl,k3,h0⟩:=bC h0;obtain ⟨c4,q4,rfl,k4,h0⟩:=bC h0;have e:q4=[]:=h0;subst e;obtain ⟨x1,rfl,b2⟩:=fo rfl k0;obtain ⟨x3,rfl,b4⟩:=fo rfl k1;obtain ⟨x5,rfl,b6⟩:=iG rfl k2
 obtain ⟨x7,rfl,b8⟩:=hH bw (λ y=>ar.Bd y) rfl k3 (λ m9 y10 hm11 k12 k13=>by
  obtain ⟨x14,Jr,b15⟩:=JO _ O _ k12;exact ⟨x14,(lN Jr k13).trans (ar.Ef _).symm,b15⟩
  )
 obtain ⟨x17,rfl,b18⟩:=hH eS (λ y=>y.length<=cH) rfl k4 (λ m19 y20 hm21 k22 k23=>by
  obtain ⟨x24,KE,b25⟩:=iG rfl k22;exact ⟨x24,rI KE k23,b25⟩
  )
 exact ⟨ar.mk x1 x3 x5 x7 x17,Z,.mk b2 b4 b6 b8.1 b8.2 b18.1 b18.2⟩
inductive ag.Bd:ag->Prop where
 | mk {x:ag} (bKind:inR x.AI) (bOp:inR x.fOp) (bName:x.By.length<=cH) (bKey:x.Eo.length<=cH) (bValue:ar.Bd x.C') (bKids:x.B'.length*160<=cH) (eKids:∀ y∈x.B',ag.Bd y) (bAt:inR x.fAt):ag.Bd x
theorem ag.Bd.bKind {x:ag}(h:ag.Bd x):inR x.AI:=by cases h; assumption
theorem ag.Bd.bOp {x:ag}(h:ag.Bd x):inR x.fOp:=by cases h; assumption
theorem ag.Bd.bName {x:ag}(h:ag.Bd x):x.By.length<=cH:=by cases h; assumption
theorem ag.Bd.bKey {x:ag}(h:ag.Bd x):x.Eo.length<=cH:=by cases h; assumption
theorem ag.Bd.bValue {x:ag}(h:ag.Bd x):ar.Bd x.C':=by cases h; assumption
theorem ag.Bd.bKids {x:ag}(h:ag.Bd x):x.B'.length*160<=cH:=by cases h; assumption
theorem ag.Bd.eKids {x:ag}(h:ag.Bd x):∀ y∈x.B',ag.Bd y:=by cases h; assumption
theorem ag.Bd.bAt {x:ag}(h:ag.Bd x):inR x.fAt:=by cases h; assumption
theorem ag.dec (n:Nat):(∀ cs,WTf tt n 46 cs->∃ x:ag,cs=ag.cs x/\ag.Bd x):=by
 induction n using Nat.strongRecOn with
 | _ n ih=>
 have Ky:∀ m,m<n->(∀ cs,WTf tt m 46 cs->∃ x:ag,cs=ag.cs x/\ag.Bd x):=λ m hm=>(ih m hm)
 intro cs h
 cases n with
 | zero=>exact h.elim
 | succ n=>
 have h0:=fM rfl h;obtain ⟨c0,q0,rfl,k0,h0⟩:=bC h0;obtain ⟨c1,q1,rfl,k1,h0⟩:=bC h0;obtain ⟨c2,q2,rfl,k2,h0⟩:=bC h0;obtain ⟨c3,q3,rfl,k3,h0⟩:=bC h0;obtain ⟨c4,q4,rfl,k4,h0⟩:=bC h0;obtain ⟨c5,q5,rfl,k5,h0⟩:=bC h0;obtain ⟨c6,q6,rfl,k6,h0⟩:=bC h0;have e:q6=[]:=h0;subst e;obtain ⟨x27,rfl,b28⟩:=fo rfl k0;obtain ⟨x29,rfl,b30⟩:=fo rfl k1;obtain ⟨x31,rfl,b32⟩:=iG rfl k2;obtain ⟨x33,rfl,b34⟩:=iG rfl k3;obtain ⟨x35,rfl,b36⟩:=ar.dec _ _ k4
 obtain ⟨x37,rfl,b38⟩:=hH aw (λ y=>ag.Bd y) rfl k5 (λ m39 y40 hm41 k42 k43=>by
  obtain ⟨x44,K8,b45⟩:=Ky _ O _ k42;exact ⟨x44,(lN K8 k43).trans (ag.Ef _).symm,b45⟩
  )
 obtain ⟨x47,rfl,b48⟩:=fo rfl k6;exact ⟨ag.mk x27 x29 x31 x33 x35 x37 x47,rfl,.mk b28 b30 b32 b34 b36 b38.1 b38.2 b48⟩
inductive ac.Bd:ac->Prop where
 | mk {x:ac} (bName:x.By.length<=cH) (bExpr:ag.Bd x.Ej) (bAt:inR x.fAt):ac.Bd x
theorem ac.Bd.bName {x:ac}(h:ac.Bd x):x.By.length<=cH:=by cases h; assumption
theorem ac.Bd.bExpr {x:ac}(h:ac.Bd x):ag.Bd x.Ej:=by cases h; assumption
theorem ac.Bd.bAt {x:ac}(h:ac.Bd x):inR x.fAt:=by cases h; assumption
theorem ac.dec (n:Nat):(∀ cs,WTf tt n 48 cs->∃ x:ac,cs=ac.cs x/\ac.Bd x):=by
 induction n using Nat.strongRecOn with
 | _ n ih=>
 have KO:∀ m,m<n->(∀ cs,WTf tt m 48 cs->∃ x:ac,cs=ac.cs x/\ac.Bd x):=λ m hm=>(ih m hm)
 intro cs h
 cases n with
 | zero=>exact h.elim
 | succ n=>
 have h0:=fM rfl h;obtain ⟨c0,q0,rfl,k0,h0⟩:=bC h0;obtain ⟨c1,q1,rfl,k1,h0⟩:=bC h0;obtain ⟨c2,q2,rfl,k2,h0⟩:=bC h0;have e:q2=[]:=h0;subst e;obtain ⟨x49,rfl,b50⟩:=iG rfl k0;obtain ⟨x51,rfl,b52⟩:=ag.dec _ _ k1;obtain ⟨x53,rfl,b54⟩:=fo rfl k2;exact ⟨ac.mk x49 x51 x53,rfl,.mk b50 b52 b54⟩
mutual
inductive av.Bd:av->Prop where
 | mk {x:av} (bAttrs:x.A'.length*184<=cH) (eAttrs:∀ y∈x.A',ac.Bd y) (bBlocks:x.Ar.length*96<=cH) (eBlocks:∀ y∈x.Ar,al.Bd y):av.Bd x
inductive al.Bd:al->Prop where
 | mk {x:al} (bType:x.Eg.length<=cH) (bLabels:x.Df.length*16<=cH) (eLabels:∀ y∈x.Df,y.length<=cH) (bBody:av.Bd x.Es) (bAt:inR x.fAt):al.Bd x
end
theorem av.Bd.bAttrs {x:av}(h:av.Bd x):x.A'.length*184<=cH:=by cases h; assumption
theorem av.Bd.eAttrs {x:av}(h:av.Bd x):∀ y∈x.A',ac.Bd y:=by cases h; assumption
theorem av.Bd.bBlocks {x:av}(h:av.Bd x):x.Ar.length*96<=cH:=by cases h; assumption
theorem av.Bd.eBlocks {x:av}(h:av.Bd x):∀ y∈x.Ar,al.Bd y:=by cases h; assumption
theorem al.Bd.bType {x:al}(h:al.Bd x):x.Eg.length<=cH:=by cases h; assumption
theorem al.Bd.bLabels {x:al}(h:al.Bd x):x.Df.length*16<=cH:=by cases h; assumption
theorem al.Bd.eLabels {x:al}(h:al.Bd x):∀ y∈x.Df,y.length<=cH:=by cases h; assumption
theorem al.Bd.bBody {x:al}(h:al.Bd x):av.Bd x.Es:=by cases h; assumption
theorem al.Bd.bAt {x:al}(h:al.Bd x):inR x.fAt:=by cases h; assumption
theorem av.decs (n:Nat):(∀ cs,WTf tt n 26 cs->∃ x:av,cs=av.cs x/\av.Bd x)/\(∀ cs,WTf tt n 58 cs->∃ x:al,cs=al.cs x/\al.Bd x):=by
 induction n using Nat.strongRecOn with
 | _ n ih=>
 have Kz:∀ m,m<n->(∀ cs,WTf tt m 26 cs->∃ x:av,cs=av.cs x/\av.Bd x):=λ m hm=>(ih m hm).1;have JP:∀ m,m<n->(∀ cs,WTf tt m 58 cs->∃ x:al,cs=al.cs x/\al.Bd x):=λ m hm=>(ih m hm).2;refine ⟨?_,?_⟩
 ·intro cs h
  cases n with
  | zero=>exact h.elim
  | succ n=>
  have h0:=fM rfl h;obtain ⟨c0,q0,rfl,k0,h0⟩:=bC h0;obtain ⟨c1,q1,rfl,k1,h0⟩:=bC h0;have e:q1=[]:=h0;subst e
  obtain ⟨x55,rfl,b56⟩:=hH ae (λ y=>ac.Bd y) rfl k0 (λ m57 y58 hm59 k60 k61=>by
   obtain ⟨x62,Mh,b63⟩:=ac.dec _ _ k60;exact ⟨x62,(lN Mh k61).trans (ac.Ef _).symm,b63⟩
   )
  obtain ⟨x65,rfl,b66⟩:=hH am (λ y=>al.Bd y) rfl k1 (λ m67 y68 hm69 k70 k71=>by
   obtain ⟨x72,Nw,b73⟩:=JP _ O _ k70;exact ⟨x72,(lN Nw k71).trans (al.Ef _).symm,b73⟩
   )
  exact ⟨av.mk x55 x65,Z,.mk b56.1 b56.2 b66.1 b66.2⟩
 ·intro cs h
  cases n with
  | zero=>exact h.elim
  | succ n=>
  have h0:=fM rfl h;obtain ⟨c0,q0,rfl,k0,h0⟩:=bC h0;obtain ⟨c1,q1,rfl,k1,h0⟩:=bC h0;obtain ⟨c2,q2,rfl,k2,h0⟩:=bC h0;obtain ⟨c3,q3,rfl,k3,h0⟩:=bC h0;have e:q3=[]:=h0;subst e;obtain ⟨x75,rfl,b76⟩:=iG rfl k0
  obtain ⟨x77,rfl,b78⟩:=hH eS (λ y=>y.length<=cH) rfl k1 (λ m79 y80 hm81 k82 k83=>by
   obtain ⟨x84,e86,b85⟩:=iG rfl k82;exact ⟨x84,rI e86 k83,b85⟩
   )
  obtain ⟨x87,rfl,b88⟩:=Kz _ O _ k2;obtain ⟨x89,rfl,b90⟩:=fo rfl k3;exact ⟨al.mk x75 x77 x87 x89,rfl,.mk b76 b78.1 b78.2 b88 b90⟩
theorem av.dec (n:Nat):(∀ cs,WTf tt n 26 cs->∃ x:av,cs=av.cs x/\av.Bd x):=(av.decs n).1
theorem al.dec (n:Nat):(∀ cs,WTf tt n 58 cs->∃ x:al,cs=al.cs x/\al.Bd x):=(av.decs n).2
inductive aE.Bd:aE->Prop where
 | mk {x:aE} (bKind:inR x.AI) (bAt:inR x.fAt) (bName:x.By.length<=cH):aE.Bd x
theorem aE.Bd.bKind {x:aE}(h:aE.Bd x):inR x.AI:=by cases h; assumption
theorem aE.Bd.bAt {x:aE}(h:aE.Bd x):inR x.fAt:=by cases h; assumption
theorem aE.Bd.bName {x:aE}(h:aE.Bd x):x.By.length<=cH:=by cases h; assumption
theorem aE.dec (n:Nat):(∀ cs,WTf tt n 29 cs->∃ x:aE,cs=aE.cs x/\aE.Bd x):=by
 induction n using Nat.strongRecOn with
 | _ n ih=>
 have Nk:∀ m,m<n->(∀ cs,WTf tt m 29 cs->∃ x:aE,cs=aE.cs x/\aE.Bd x):=λ m hm=>(ih m hm)
 intro cs h
 cases n with
 | zero=>exact h.elim
 | succ n=>
 have h0:=fM rfl h;obtain ⟨c0,q0,rfl,k0,h0⟩:=bC h0;obtain ⟨c1,q1,rfl,k1,h0⟩:=bC h0;obtain ⟨c2,q2,rfl,k2,h0⟩:=bC h0;have e:q2=[]:=h0;subst e;obtain ⟨x91,rfl,b92⟩:=fo rfl k0;obtain ⟨x93,rfl,b94⟩:=fo rfl k1;obtain ⟨x95,rfl,b96⟩:=iG rfl k2;exact ⟨aE.mk x91 x93 x95,rfl,.mk b92 b94 b96⟩
inductive au.Bd:au->Prop where
 | mk {x:au} (bKind:inR x.AI) (bText:x.Eh.length<=cH) (bAt:inR x.fAt):au.Bd x
theorem au.Bd.bKind {x:au}(h:au.Bd x):inR x.AI:=by cases h; assumption
theorem au.Bd.bText {x:au}(h:au.Bd x):x.Eh.length<=cH:=by cases h; assumption
theorem au.Bd.bAt {x:au}(h:au.Bd x):inR x.fAt:=by cases h; assumption
theorem au.dec (n:Nat):(∀ cs,WTf tt n 72 cs->∃ x:au,cs=au.cs x/\au.Bd x):=by
 induction n using Nat.strongRecOn with
 | _ n ih=>
 have MG:∀ m,m<n->(∀ cs,WTf tt m 72 cs->∃ x:au,cs=au.cs x/\au.Bd x):=λ m hm=>(ih m hm)
 intro cs h
 cases n with
 | zero=>exact h.elim
 | succ n=>
 have h0:=fM rfl h;obtain ⟨c0,q0,rfl,k0,h0⟩:=bC h0;obtain ⟨c1,q1,rfl,k1,h0⟩:=bC h0;obtain ⟨c2,q2,rfl,k2,h0⟩:=bC h0;have e:q2=[]:=h0;subst e;obtain ⟨x97,rfl,b98⟩:=fo rfl k0;obtain ⟨x99,rfl,b100⟩:=iG rfl k1;obtain ⟨x101,rfl,b102⟩:=fo rfl k2;exact ⟨au.mk x97 x99 x101,rfl,.mk b98 b100 b102⟩
inductive aj.Bd:aj->Prop where
 | mk {x:aj} (bl:x.fl.length*32<=cH) (el:∀ y∈x.fl,au.Bd y) (bat:inR x.fat) (bbad:aE.Bd x.AT):aj.Bd x
theorem aj.Bd.bl {x:aj}(h:aj.Bd x):x.fl.length*32<=cH:=by cases h; assumption
theorem aj.Bd.el {x:aj}(h:aj.Bd x):∀ y∈x.fl,au.Bd y:=by cases h; assumption
theorem aj.Bd.bat {x:aj}(h:aj.Bd x):inR x.fat:=by cases h; assumption
theorem aj.Bd.bbad {x:aj}(h:aj.Bd x):aE.Bd x.AT:=by cases h; assumption
theorem aj.dec (n:Nat):(∀ cs,WTf tt n 67 cs->∃ x:aj,cs=aj.cs x/\aj.Bd x):=by
 induction n using Nat.strongRecOn with
 | _ n ih=>
 have J8:∀ m,m<n->(∀ cs,WTf tt m 67 cs->∃ x:aj,cs=aj.cs x/\aj.Bd x):=λ m hm=>(ih m hm)
 intro cs h
 cases n with
 | zero=>exact h.elim
 | succ n=>
 have h0:=fM rfl h;obtain ⟨c0,q0,rfl,k0,h0⟩:=bC h0;obtain ⟨c1,q1,rfl,k1,h0⟩:=bC h0;obtain ⟨c2,q2,rfl,k2,h0⟩:=bC h0;have e:q2=[]:=h0;subst e
 obtain ⟨x103,rfl,b104⟩:=hH ax (λ y=>au.Bd y) rfl k0 (λ m105 y106 hm107 k108 k109=>by
  obtain ⟨x110,e112,b111⟩:=au.dec _ _ k108;exact ⟨x110,(lN e112 k109).trans (au.Ef _).symm,b111⟩
  )
 obtain ⟨x113,rfl,b114⟩:=fo rfl k1;obtain ⟨x115,rfl,b116⟩:=aE.dec _ _ k2;exact ⟨aj.mk x103 x113 x115,rfl,.mk b104.1 b104.2 b114 b116⟩
inductive cy.Bd:cy->Prop where
 | mk {x:cy} (bL:x.fL.length*32<=cH) (eL:∀ y∈x.fL,au.Bd y) (bI:inR x.fI) (bIn:inR x.fIn) (bD:aE.Bd x.fD):cy.Bd x
theorem cy.Bd.bL {x:cy}(h:cy.Bd x):x.fL.length*32<=cH:=by cases h; assumption
theorem cy.Bd.eL {x:cy}(h:cy.Bd x):∀ y∈x.fL,au.Bd y:=by cases h; assumption
theorem cy.Bd.bI {x:cy}(h:cy.Bd x):inR x.fI:=by cases h; assumption
theorem cy.Bd.bIn {x:cy}(h:cy.Bd x):inR x.fIn:=by cases h; assumption
theorem cy.Bd.bD {x:cy}(h:cy.Bd x):aE.Bd x.fD:=by cases h; assumption
theorem cy.dec (n:Nat):(∀ cs,WTf tt n 141 cs->∃ x:cy,cs=cy.cs x/\cy.Bd x):=by
 induction n using Nat.strongRecOn with
 | _ n ih=>
 have L1:∀ m,m<n->(∀ cs,WTf tt m 141 cs->∃ x:cy,cs=cy.cs x/\cy.Bd x):=λ m hm=>(ih m hm)
 intro cs h
 cases n with
 | zero=>exact h.elim
 | succ n=>
 have h0:=fM rfl h;obtain ⟨c0,q0,rfl,k0,h0⟩:=bC h0;obtain ⟨c1,q1,rfl,k1,h0⟩:=bC h0;obtain ⟨c2,q2,rfl,k2,h0⟩:=bC h0;obtain ⟨c3,q3,rfl,k3,h0⟩:=bC h0;have e:q3=[]:=h0;subst e
 obtain ⟨x117,rfl,b118⟩:=hH ax (λ y=>au.Bd y) rfl k0 (λ m119 y120 hm121 k122 k123=>by
  obtain ⟨x124,e126,b125⟩:=au.dec _ _ k122;exact ⟨x124,(lN e126 k123).trans (au.Ef _).symm,b125⟩
  )
 obtain ⟨x127,rfl,b128⟩:=fo rfl k1;obtain ⟨x129,rfl,b130⟩:=fo rfl k2;obtain ⟨x131,rfl,b132⟩:=aE.dec _ _ k3;exact ⟨cy.mk x117 x127 x129 x131,rfl,.mk b118.1 b118.2 b128 b130 b132⟩
inductive bP.Bd:bP->Prop where
 | mk {x:bP} (bcount:inR x.fcount):bP.Bd x
theorem bP.Bd.bcount {x:bP}(h:bP.Bd x):inR x.fcount:=by cases h; assumption
theorem bP.dec (n:Nat):(∀ cs,WTf tt n 167 cs->∃ x:bP,cs=bP.cs x/\bP.Bd x):=by
 induction n using Nat.strongRecOn with
 | _ n ih=>
 have LB:∀ m,m<n->(∀ cs,WTf tt m 167 cs->∃ x:bP,cs=bP.cs x/\bP.Bd x):=λ m hm=>(ih m hm)
 intro cs h
 cases n with
 | zero=>exact h.elim
 | succ n=>
 have h0:=fM rfl h;obtain ⟨c0,q0,rfl,k0,h0⟩:=bC h0;have e:q0=[]:=h0;subst e;obtain ⟨x133,rfl,b134⟩:=fo rfl k0;exact ⟨bP.mk x133,rfl,.mk b134⟩
inductive ah.Bd:ah->Prop where
 | mk {x:ah} (bl:x.fl.length*32<=cH) (el:∀ y∈x.fl,au.Bd y) (bat:inR x.fat) (bnest:inR x.Er) (bbase:inR x.Eq) (bbad:aE.Bd x.AT):ah.Bd x
theorem ah.Bd.bl {x:ah}(h:ah.Bd x):x.fl.length*32<=cH:=by cases h; assumption
theorem ah.Bd.el {x:ah}(h:ah.Bd x):∀ y∈x.fl,au.Bd y:=by cases h; assumption
theorem ah.Bd.bat {x:ah}(h:ah.Bd x):inR x.fat:=by cases h; assumption
theorem ah.Bd.bnest {x:ah}(h:ah.Bd x):inR x.Er:=by cases h; assumption
theorem ah.Bd.bbase {x:ah}(h:ah.Bd x):inR x.Eq:=by cases h; assumption
theorem ah.Bd.bbad {x:ah}(h:ah.Bd x):aE.Bd x.AT:=by cases h; assumption
theorem ah.dec (n:Nat):(∀ cs,WTf tt n 179 cs->∃ x:ah,cs=ah.cs x/\ah.Bd x):=by
 induction n using Nat.strongRecOn with
 | _ n ih=>
 have L0:∀ m,m<n->(∀ cs,WTf tt m 179 cs->∃ x:ah,cs=ah.cs x/\ah.Bd x):=λ m hm=>(ih m hm)
 intro cs h
 cases n with
 | zero=>exact h.elim
 | succ n=>
 have h0:=fM rfl h;obtain ⟨c0,q0,rfl,k0,h0⟩:=bC h0;obtain ⟨c1,q1,rfl,k1,h0⟩:=bC h0;obtain ⟨c2,q2,rfl,k2,h0⟩:=bC h0;obtain ⟨c3,q3,rfl,k3,h0⟩:=bC h0;obtain ⟨c4,q4,rfl,k4,h0⟩:=bC h0;have e:q4=[]:=h0;subst e
 obtain ⟨x135,rfl,b136⟩:=hH ax (λ y=>au.Bd y) rfl k0 (λ m137 y138 hm139 k140 k141=>by
  obtain ⟨x142,e144,b143⟩:=au.dec _ _ k140;exact ⟨x142,(lN e144 k141).trans (au.Ef _).symm,b143⟩
  )
 obtain ⟨x145,rfl,b146⟩:=fo rfl k1;obtain ⟨x147,rfl,b148⟩:=fo rfl k2;obtain ⟨x149,rfl,b150⟩:=fo rfl k3;obtain ⟨x151,rfl,b152⟩:=aE.dec _ _ k4;exact ⟨ah.mk x135 x145 x147 x149 x151,rfl,.mk b136.1 b136.2 b146 b148 b150 b152⟩
inductive aB.Bd:aB->Prop where
 | mk {x:aB} (bs:x.fs.length<=cH) (bat:inR x.fat) (bi:inR x.fi) (bfrom:inR x.Ek) (btext:x.En.length<=cH) (bparts:x.D'.length*160<=cH) (eparts:∀ y∈x.D',ag.Bd y):aB.Bd x
theorem aB.Bd.bs {x:aB}(h:aB.Bd x):x.fs.length<=cH:=by cases h; assumption
theorem aB.Bd.bat {x:aB}(h:aB.Bd x):inR x.fat:=by cases h; assumption
theorem aB.Bd.bi {x:aB}(h:aB.Bd x):inR x.fi:=by cases h; assumption
theorem aB.Bd.bfrom {x:aB}(h:aB.Bd x):inR x.Ek:=by cases h; assumption
theorem aB.Bd.btext {x:aB}(h:aB.Bd x):x.En.length<=cH:=by cases h; assumption
theorem aB.Bd.bparts {x:aB}(h:aB.Bd x):x.D'.length*160<=cH:=by cases h; assumption
theorem aB.Bd.eparts {x:aB}(h:aB.Bd x):∀ y∈x.D',ag.Bd y:=by cases h; assumption
theorem aB.dec (n:Nat):(∀ cs,WTf tt n 243 cs->∃ x:aB,cs=aB.cs x/\aB.Bd x):=by
 induction n using Nat.strongRecOn with
 | _ n ih=>
 have KW:∀ m,m<n->(∀ cs,WTf tt m 243 cs->∃ x:aB,cs=aB.cs x/\aB.Bd x):=λ m hm=>(ih m hm)
 intro cs h
 cases n with
 | zero=>exact h.elim
 | succ n=>
 have h0:=fM rfl h;obtain ⟨c0,q0,rfl,k0,h0⟩:=bC h0;obtain ⟨c1,q1,rfl,k1,h0⟩:=bC h0;obtain ⟨c2,q2,rfl,k2,h0⟩:=bC h0;obtain ⟨c3,q3,rfl,k3,h0⟩:=bC h0;obtain ⟨c4,q4,rfl,k4,h0⟩:=bC h0;obtain ⟨c5,q5,rfl,k5,h0⟩:=bC h0;obtain ⟨c6,q6,rfl,k6,h0⟩:=bC h0;have e:q6=[]:=h0;subst e;obtain ⟨x153,rfl,b154⟩:=iG rfl k0;obtain ⟨x155,rfl,b156⟩:=fo rfl k1;obtain ⟨x157,rfl,b158⟩:=fo rfl k2;obtain ⟨x159,rfl,b160⟩:=fo rfl k3;obtain ⟨x161,rfl,b162⟩:=iG rfl k4
 obtain ⟨x163,rfl,b164⟩:=hH aw (λ y=>ag.Bd y) rfl k5 (λ m165 y166 hm167 k168 k169=>by
  obtain ⟨x170,e172,b171⟩:=ag.dec _ _ k168;exact ⟨x170,(lN e172 k169).trans (ag.Ef _).symm,b171⟩
  )
 obtain ⟨x173,rfl⟩:=Bp rfl k6;exact ⟨aB.mk x153 x155 x157 x159 x161 x163 x173,rfl,.mk b154 b156 b158 b160 b162 b164.1 b164.2⟩
end Go.Ab
end
section
namespace Go.Ab.R06
open Go.Ab Go.Ab.RB Go.Lib
theorem bO {P:Int->Prop}{i:Nat}(h:P ((i+1:Nat):Int)):P ((i:Int)+1):=by rwa [Int.natCast_add,Int.natCast_one] at h
theorem cX {α:Type} [Inhabited α] (l:List α){i:Nat}(h:i<l.length):l.drop i=lat l (i:Int)::l.drop (i+1):=by
 rw [lw l i h]; exact List.drop_eq_getElem_cons h
theorem yM (s:Bk):hC s=some (pq s):=by
 unfold hC pq Dp;simp only [List.any_cons,List.any_nil,Bool.or_false];by_cases h1:s=[110,117,108,108]
 ·simp [h1]
 by_cases h2:s=[116,114,117,101]
 ·simp [h2]
 by_cases h3:s=[102,97,108,115,101]
 ·simp [h3]
 by_cases h4:s=[102,111,114]
 ·simp [h4]
 by_cases h5:s=[105,110]
 ·simp [h5]
 by_cases h6:s=[105,102]
 ·simp [h6]
 simp [h1,h2,h3,h4,h5,h6]
def ra (v:ar):Prop:=v.AI=1/\v.Em≠0/\v.Em≠1\/v.AI≠1/\v.AI≠2/\v.Em≠0\/v.AI≠3/\v.Ep≠[]\/v.Ei≠[]\/v.El≠[]
theorem yI {α:Type}(l:List α):(0<(l.length:Int))↔l≠[]:=by rw [<- List.length_pos_iff]; omega
theorem wV {α:Type}(l:List α):((l.length:Int)=0)↔l=[]:=by rw [<- List.length_eq_zero_iff]; omega
theorem z7 (v:ar)(h0:0<=v.AI)(h3:v.AI<=3):∃ b,kV v=some b/\(b=true↔¬ ra v):=by
 unfold kV ra;have hk:v.AI=0\/v.AI=1\/v.AI=2\/v.AI=3:=by omega
 clear h0 h3
 rcases hk with h|h|h|h <;> by_cases a:v.Em=0 <;> by_cases b:v.Em=1 <;> by_cases c:v.Ep=[] <;> by_cases d:v.Ei=[] <;> by_cases e:v.El=[] <;> simp [h,a,b,c,d,e,Bb,AD]
theorem zq (v:ar)(h0:0<=v.AI)(h3:v.AI<=3):∃ b,kG v=some b/\(b=true↔¬ ra v):=by
 unfold kG ra;have hk:v.AI=0\/v.AI=1\/v.AI=2\/v.AI=3:=by omega
 clear h0 h3
 rcases hk with h|h|h|h <;> by_cases a:v.Em=0 <;> by_cases b:v.Em=1 <;> by_cases c:v.Ep=[] <;> by_cases d:v.Ei=[] <;> by_cases e:v.El=[] <;> simp [h,a,b,c,d,e]
theorem tJ {v:ar}(h:ra v):uD v=1:=if_pos h
theorem u5 {v:ar}(h:¬ ra v):uD v=if v.AI=2/\¬ (-pz<=v.Em/\v.Em<=pz) then 5 else if v.AI=3/\4096<v.Ep.length then 3 else if v.AI=3/\validD v.Ep=false then 1 else 0:=if_neg h
def wi (s:Bk):Int:=if 4096<s.length then 3 else if validD s=false then 1 else 0
theorem Di (s:Bk):ll s=some (wi s):=by
 unfold ll wi;by_cases h:4096<s.length
 ·rw [if_pos O,if_pos h]
 ·rw [if_neg O,if_neg h,BA,Option.bind_some];have:decide (s.length<=4096)=true:=by rw [decide_eq_true_eq]; omega
  rw [this,Bool.true_and]
  cases validD s <;> rfl
theorem Dk (s:Bk):Ev2 (λ n _=>kc n s) (·=wi s):=by
 simp only [kc];unfold wi;refine bv (λ h=>ak (by rw [if_pos O])) (λ h=>?_);rw [if_neg (show ¬ 4096<s.length by omega)];refine aN _ (vE s O) ?_;have:decide (s.length<=4096)=true:=by rw [decide_eq_true_eq]; omega
 rw [this,Bool.true_and]
 cases validD s with
 | true=>exact aR (by decide) (ak Z)
 | false=>exact aS (by decide) (ak Z)
theorem y7:wi []=0:=by unfold wi; rw [if_neg (by decide)]; rfl
theorem Cw (v:ar)(h0:0<=v.AI)(h3:v.AI<=3):Ev2 (λ n _=>me n v) (·=uD v):=by
 obtain ⟨b,hb,hi⟩:=z7 v h0 h3;simp only [me];refine aN _ (fC hb rfl) (bv (λ h=>ak ?_) (λ h=>?_))
 ·have:ra v:=Classical.byContradiction λ k=>by rw [hi.2 k] at h; simp at h
  rw [tJ this]
 ·have hg:¬ ra v:=hi.1 (by simpa using h);rw [u5 hg];by_cases h2:v.AI=2
  ·simp only [h2,if_true,true_and];by_cases hv:-pz<=v.Em/\v.Em<=pz
   ·refine ee () (aN _ (fC (yt _) Z) (aR (by simp [hv]) (ak Z))) (ak ?_);rw [if_neg (by simpa using hv),if_neg O,if_neg O]
   ·refine jh 5 (aN _ (fC (yt _) Z) (aS (by simp [hv]) (ak Z))) ?_;rw [if_pos hv]
  ·by_cases h5:v.AI=3
   ·refine jh (wi v.Ep) (aR h2 (aS h5 (aN _ (fC (Di _) Z) (ak Z)))) ?_;rw [if_neg O]; unfold wi; simp only [h5,true_and]
   ·refine ee () (aR h2 (aR h5 (aR O (ak Z)))) (ak ?_);rw [if_neg O,if_neg O,if_neg O]
theorem BZ (v:ar)(h0:0<=v.AI)(h3:v.AI<=3):Ev2 (λ n _=>my n v) (·=uD v):=by
 obtain ⟨b,hb,hi⟩:=zq v h0 h3;simp only [my];refine aN _ (fC hb rfl) (bv (λ h=>ak ?_) (λ h=>?_))
 ·have:ra v:=Classical.byContradiction λ k=>by rw [hi.2 k] at h; simp at h
  rw [tJ this]
 ·have hg:¬ ra v:=hi.1 (by simpa using h);rw [u5 hg];have nv:nn v.Em=some (decide (-pz<=v.Em/\v.Em<=pz)):=yt v.Em;have tail:v.El=[]:=by unfold ra at hg; simp only [not_or] at hg; exact Classical.not_not.1 hg.2.2.2.2
  have str:v.AI≠3->v.Ep=[]:=λ k=>by unfold ra at hg; simp only [not_or] at hg; exact Classical.byContradiction λ q=>hg.2.2.1 ⟨k,q⟩
  have last:Ev2 (λ n _=>(kc n v.Ep).bind λ r9=>if r9=0 then jn (ga n v n 0) λ _=>some 0 else some r9) (·=wi v.Ep):=by
   refine aN _ (Dk _) (bv (λ h=>?_) (λ h=>ak Z));refine ee () (bN (f:=λ n m=>ga n v m 0) (aJ ?_)) (ak h.symm);simp only [ga];exact aR (by rw [tail]; decide) (ak Z)
  by_cases h2:v.AI=2
  ·simp only [h2,if_true,true_and];refine aN (!decide (-pz<=v.Em/\v.Em<=pz)) (aN _ (fC nv rfl) (ak rfl)) (bv (λ h=>ak ?_) (λ h=>?_))
   ·rw [if_pos (λ k=>by rw [decide_eq_true k] at h; exact absurd h (by decide))]
   ·rw [if_neg (show ¬ ¬ (-pz<=v.Em/\v.Em<=pz) from λ k=>h (by rw [decide_eq_false k]; rfl)),if_neg O,if_neg O];rw [str O,y7] at last;rw [str O];exact last
  ·refine aN false (aR h2 (ak Z)) (aR (by decide) ?_);rw [if_neg O];by_cases h5:v.AI=3
   ·simp only [h5,true_and]; exact last
   ·rw [if_neg O,if_neg O];rw [str h5,y7] at last;rw [str h5];exact last
theorem tp {v:ar}(h:uD v=0):v.Ei=[]:=by
 have hg:¬ ra v:=λ k=>by rw [tJ k] at h; cases h
 unfold ra at hg; simp only [not_or] at hg; exact Classical.not_not.1 hg.2.2.2.1
theorem Bh (v:ar)(h0:0<=v.AI)(h3:v.AI<=3):Ev2 (λ n _=>lL n v) (·=uD v):=by
 simp only [lL];refine d6 (λ r=>r.1=uD v) (fJ ?_) (λ r hr=>ak hr);simp only [gd];refine aR (by decide) (aR (by decide) (aI (by decide) (aN _ (Cw v h0 h3) (bv (λ h=>?_) (λ h=>ak rfl)))));refine ee 1 (bN (f:=λ n m=>fk (gd n) v 1 m 0 (0+1)) (aJ ?_)) (ak h.symm);simp only [fk];exact aR (by rw [tp h]; decide) (ak rfl)
theorem AJ (v:ar)(h0:0<=v.AI)(h3:v.AI<=3):Ev2 (λ n _=>lz n v) (·=uD v):=by
 simp only [lz];refine d6 (λ r=>r.1=uD v) (fJ ?_) (λ r hr=>ak hr);simp only [ir];refine aR (by decide) (aR (by decide) (aN _ (BZ v h0 h3) (bv (λ h=>aI (by decide) ?_) (λ h=>ak rfl))));refine ee 1 (bN (f:=λ n m=>gn (ir n) v 1 m (0+1) 0) (aJ ?_)) (ak h.symm);simp only [gn];exact aR (by rw [tp h]; decide) (ak rfl)
theorem CZ (k:Int):ka k=some (decide (k=3\/k=4\/k=9\/k=12\/k=13)):=by
 unfold ka lf;by_cases a:k=3
 ·simp [a]
 by_cases b:k=4
 ·simp [b]
 by_cases c:k=9
 ·simp [c]
 by_cases d:k=12
 ·simp [d]
 simp [a,b,c,d]
theorem vN (k:Int):io k=some (decide (k=3\/k=4\/k=9\/k=12\/k=13)):=by
 unfold io iz;by_cases a:k=3
 ·simp [a]
 by_cases b:k=4
 ·simp [b]
 by_cases c:k=9
 ·simp [c]
 by_cases d:k=12
 ·simp [d]
 simp [a,b,c,d]
section
variable {α β:Type}
theorem xM {p:Prop} [Decidable p] {a b:Option α}(h1:p->∃ r,a=some r)(h2:¬p->∃ r,b=some r):∃ r,(if p then a else b)=some r:=by
 by_cases h:p
 ·simpa only [if_pos h] using h1 h
 ·simpa only [if_neg h] using h2 h
theorem we {g:Option β}{k:β->Option α}(h:∃ r,g=some r)(hk:∀ x,∃ r,k x=some r):∃ r,g.bind k=some r:=by
 obtain ⟨x,rfl⟩:=h;exact hk x
theorem Aq {p:Prop} [Decidable p] {a:Option α}(hp:p)(h:∃ r,a=some r):∃ r,ck p a=some r:=by rw [gz hp]; exact h
end
theorem Av (k:Int):∃ r,iz k=some r:=by unfold iz; repeat' (first|exact ⟨_,rfl⟩|refine we ?_ (λ _=>?_)|refine xM (λ _=>?_) (λ _=>?_)|refine Aq (by decide) ?_)
theorem DX (k n:Int):∃ r,iE k n=some r:=by unfold iE; repeat' (first|exact ⟨_,rfl⟩|exact Av _|exact ⟨_,vN _⟩|refine we ?_ (λ _=>?_)|refine xM (λ _=>?_) (λ _=>?_)|refine Aq (by decide) ?_)
theorem yE (e:ag):∃ r,fX e=some r:=by unfold fX; repeat' (first|exact ⟨_,rfl⟩|exact Av _|exact ⟨_,vN _⟩|exact DX _ _|exact C7 _|refine we ?_ (λ _=>?_)|refine xM (λ _=>?_) (λ _=>?_)|refine Aq (by decide) ?_)
inductive VSz:ar->Prop where
 | mk {x:ar} (v:x.Ei.length+x.El.length<=1000000000000000) (sub:∀ y∈x.Ei,VSz y):VSz x
theorem VSz.v {x:ar}(h:VSz x):x.Ei.length+x.El.length<=1000000000000000:=by cases h; assumption
theorem DC {v:ar}(hb:ar.Bd v):VSz v:=by
 induction hb with
 | @mk x bKind bNum bStr bItems eItems bKeys eKeys ih=>
  have h1:=bItems;have h2:=bKeys;unfold cH at h1 h2;exact .mk O ih
inductive Sz:ag->Prop where
 | mk {x:ag} (n:x.By.length<=1000000000000000) (k:x.Eo.length<=1000000000000000) (w:VSz x.C') (c:x.B'.length<=1000000000000000) (kids:∀ y∈x.B',Sz y):Sz x
theorem Sz.n {x:ag}(h:Sz x):x.By.length<=1000000000000000:=by cases h; assumption
theorem Sz.k {x:ag}(h:Sz x):x.Eo.length<=1000000000000000:=by cases h; assumption
theorem Sz.w {x:ag}(h:Sz x):VSz x.C':=by cases h; assumption
theorem Sz.v {x:ag}(h:Sz x):x.C'.Ei.length+x.C'.El.length<=1000000000000000:=h.w.v
theorem Sz.kids {x:ag}(h:Sz x):∀ y∈x.B',Sz y:=by cases h; assumption
theorem Ec {e:ag}(hb:ag.Bd e):Sz e:=by
 induction hb with
 | @mk x bKind bOp bName bKey bValue bKids eKids bAt ih=>
  unfold cH at bName bKey bKids;exact .mk O O  (DC bValue) O ih
theorem tK {e:ag}(hb:Sz e):fX e=some (vJ e):=by
 have h:=uT e hb.v;obtain ⟨r,hr⟩:=yE e;unfold vJ;rw [h,hr]; rfl
theorem AG {e:ag}(hb:Sz e):jp e=some (vJ e):=by
 rw [uT e hb.v,tK hb]
theorem q8 {e:ag}(hb:Sz e)(h:vJ e=true)(hk:e.AI=1):0<=e.C'.AI/\e.C'.AI<=3:=by
 have h1:=tK hb;rw [h] at h1;unfold fX at h1;generalize (Option.bind (iE e.AI (e.B'.length:Int)) _:Option Bool)=o at h1
 cases o with
 | none=>cases h1
 | some t=>
  cases t with
  | true=>cases h1
  | false=>
   simp only [Option.bind_some,Bool.false_eq_true,if_false,hk,if_true] at h1;by_cases a:e.fOp=0
   ·by_cases b:e.C'.AI=0
    ·omega
    ·by_cases c:e.C'.AI=1
     ·omega
     ·by_cases d:e.C'.AI=3
      ·omega
      ·by_cases f:e.C'.AI=2
       ·omega
       ·simp [a,b,c,d,f] at h1
   ·simp [a] at h1
theorem DU {e:ag}(hb:Sz e):Ev2 (λ n _=>nS n e) (·=qc e):=by
 have b1:=hb.n;have b2:=hb.k;simp only [nS];unfold qc;refine aN _ (fC (AG hb) Z) (bv (λ h=>ak (by rw [if_pos (by simpa using h)])) (λ h=>?_));have h:vJ e=true:=by simpa using h
 rw [if_neg (show ¬ vJ e=false by rw [h]; decide)];refine bv (λ hk=>?_) (λ hk=>?_)
 ·rw [if_pos hk];exact aN _ (Bh _ (q8 hb h hk).1 (q8 hb h hk).2) (ak rfl)
 rw [if_neg hk];refine aN (decide ((e.AI=3\/e.AI=4\/e.AI=9\/e.AI=12\/e.AI=13)/\(cM e.By=false\/e.AI≠4/\pq e.By=true))) ?_ ?_
 ·refine aN _ (fC (CZ _) Z) (bv (λ hn=>?_) (λ hn=>ak ?_))
  ·have hn:=of_decide_eq_true hn;rw [show decide ((e.AI=3\/e.AI=4\/e.AI=9\/e.AI=12\/e.AI=13)/\(cM e.By=false\/e.AI≠4/\pq e.By=true))=decide (cM e.By=false\/e.AI≠4/\pq e.By=true) by simp only [hn,true_and]];refine aN _ (xn _ O) (bv (λ hi=>ak ?_) (λ hi=>bv (λ h4=>ak ?_) (λ h4=>aN _ (fC (Bt _) Z) (ak ?_))))
   ·have hi:cM e.By=false:=by simpa using hi
    simp [hi]
   ·have hi:cM e.By=true:=by simpa using hi
    simp [hi,h4]
   ·have hi:cM e.By=true:=by simpa using hi
    simp [hi,h4]
  ·have hn:¬ (e.AI=3\/e.AI=4\/e.AI=9\/e.AI=12\/e.AI=13):=λ k=>hn (decide_eq_true k);simp only [hn,false_and,decide_false]
 ·refine bv (λ hq=>ak (by rw [if_pos (of_decide_eq_true hq)])) (λ hq=>?_);rw [if_neg (λ k=>hq (decide_eq_true k))];refine aN (decide (e.Eo≠[]/\(cM e.Eo=false\/pq e.Eo=true))) ?_ ?_
  ·refine bv (λ hk=>ak (by simp [hk])) (λ hk=>?_);refine aN _ (xn _ O) (bv (λ hi=>ak ?_) (λ hi=>aN _ (fC (Bt _) Z) (ak ?_)))
   ·have hi:cM e.Eo=false:=by simpa using hi
    simp [hi,hk]
   ·have hi:cM e.Eo=true:=by simpa using hi
    simp [hi,hk]
  ·refine bv (λ hq=>ak (by rw [if_pos (of_decide_eq_true hq)])) (λ hq=>ak ?_);rw [if_neg (λ k=>hq (decide_eq_true k))]
theorem Dq {e:ag}(hb:Sz e):Ev2 (λ n _=>mM n e) (·=qc e):=by
 have b1:=hb.n;have b2:=hb.k;simp only [mM];unfold qc;refine aN _ (fC (tK hb) Z) (bv (λ h=>ak (by rw [if_pos (by simpa using h)])) (λ h=>?_));have h:vJ e=true:=by simpa using h
 rw [if_neg (show ¬ vJ e=false by rw [h]; decide)];refine bv (λ hk=>?_) (λ hk=>?_)
 ·rw [if_pos hk];exact aN _ (AJ _ (q8 hb h hk).1 (q8 hb h hk).2) (ak rfl)
 rw [if_neg hk];refine aN (decide ((e.AI=3\/e.AI=4\/e.AI=9\/e.AI=12\/e.AI=13)/\(cM e.By=false\/e.AI≠4/\pq e.By=true))) ?_ ?_
 ·refine aN _ (fC (vN _) Z) (bv (λ hn=>?_) (λ hn=>ak ?_))
  ·have hn:=of_decide_eq_true hn;rw [show decide ((e.AI=3\/e.AI=4\/e.AI=9\/e.AI=12\/e.AI=13)/\(cM e.By=false\/e.AI≠4/\pq e.By=true))=decide (cM e.By=false\/e.AI≠4/\pq e.By=true) by simp only [hn,true_and]];refine aN _ (rj _ O) (bv (λ hi=>ak ?_) (λ hi=>bv (λ h4=>ak ?_) (λ h4=>aN _ (fC (yM _) Z) (ak ?_))))
   ·have hi:cM e.By=false:=by simpa using hi
    simp [hi]
   ·have hi:cM e.By=true:=by simpa using hi
    simp [hi,h4]
   ·have hi:cM e.By=true:=by simpa using hi
    simp [hi,h4]
  ·have hn:¬ (e.AI=3\/e.AI=4\/e.AI=9\/e.AI=12\/e.AI=13):=λ k=>hn (decide_eq_true k);simp only [hn,false_and,decide_false]
 ·refine bv (λ hq=>ak (by rw [if_pos (of_decide_eq_true hq)])) (λ hq=>?_);rw [if_neg (λ k=>hq (decide_eq_true k))];refine aN (decide (e.Eo≠[]/\(cM e.Eo=false\/pq e.Eo=true))) ?_ ?_
  ·refine bv (λ hk=>ak (by simp [hk])) (λ hk=>?_);simp only [ot];refine aN (cM e.Eo&&!pq e.Eo) ?_ (ak ?_)
   ·refine aN (cM e.Eo&&!pq e.Eo) (aN _ (rj _ O) (bv (λ hi=>aN _ (fC (yM _) Z) (ak ?_)) (λ hi=>ak ?_))) (ak Z)
    ·rw [hi]; rfl
    ·have hi:cM e.Eo=false:=by simpa using hi
     rw [hi]; rfl
   ·cases cM e.Eo <;> cases pq e.Eo <;> simp [hk]
  ·refine bv (λ hq=>ak (by rw [if_pos (of_decide_eq_true hq)])) (λ hq=>ak ?_);rw [if_neg (λ k=>hq (decide_eq_true k))]
theorem Ed {e:ag}(hb:Sz e):∀ (c lv:Nat) (ci li:Int),ci=c->li=lv->c<=4096->lv<=33 ->
  Ev2 (λ n _=>cx n (bP.mk ci) e li) (λ r=>r.1=(pX c lv e).1/\r.2=bP.mk (((pX c lv e).2:Nat):Int)/\(pX c lv e).2<=4096):=by
 induction hb with
 | @mk x sn sk sv hs skids ih=>
  intro c lv ci li hc hl h1 h2;have hb:Sz x:=.mk sn sk sv hs skids;refine fJ ?_;simp only [cx];rw [yQ];refine bv (λ h=>?_) (λ h=>?_)
  ·rw [if_pos O]; exact ak ⟨rfl,by rw [hc],h1⟩
  rw [if_neg (show ¬ 32<lv by omega)];refine bv (λ h5=>?_) (λ h5=>?_)
  ·rw [if_pos O]; exact ak ⟨rfl,by rw [hc],h1⟩
  rw [if_neg (show ¬ 4096<=c by omega)];refine aI (bb O O) ?_;refine aN _ (DU hb) ?_;refine bv (λ h0=>?_) (λ h0=>?_)
  ·rw [if_pos h0]
   have loop:∀ (k i c:Nat) (ci:Int),i+k=x.B'.length->ci=c->c<=4096->Ev2 (λ n m=>cm (cx n) x li m (i:Int) ci) (λ s=>(nX c (lv+1) (x.B'.drop i)).2<=4096/\s=if (nX c (lv+1) (x.B'.drop i)).1=0 then .inl (((nX c (lv+1) (x.B'.drop i)).2:Nat):Int) else .inr ((nX c (lv+1) (x.B'.drop i)).1,bP.mk (((nX c (lv+1) (x.B'.drop i)).2:Nat):Int))):=by
    intro k
    induction k with
    | zero=>
     intro i c ci hi hc h6;refine aJ ?_;simp only [cm];rw [rg O];exact aR O (ak ⟨by rw [nX]; exact h6,by rw [nX,hc]; rfl⟩)
    | succ k ihk=>
     intro i c ci hi hc h6;refine aJ ?_;simp only [cm];rw [cX _ (show i<x.B'.length by omega),vm];refine aS O (aI O (aI (bb O O) ?_));refine d6 _ (ih _ (dX O) c (lv+1) ci (li+1) hc O h6 O) ?_;rintro ⟨r1,r2⟩ ⟨q1,q2,q3⟩;simp only at q1 q2;subst q1 q2;refine bv (λ h8=>?_) (λ h8=>?_)
     ·simp only [if_pos h8];refine aI (bb O O) ?_;exact bO (P:=λ j=>Ev2 (λ n m=>cm (cx n) x li m j _) _) (ihk (i+1) _ _ O rfl q3)
     ·simp only [if_neg h8]; exact ak ⟨q3,rfl⟩
   refine tC (jy (bN (f:=λ n m=>cm (cx n) x li m 0 (ci+1)) (loop x.B'.length 0 (c+1) (ci+1) O O O)) ?_);rintro s ⟨s1,s2⟩;simp only [List.drop_zero] at s1 s2;subst s2;by_cases h9:(nX (c+1) (lv+1) x.B').1=0
   ·simp only [if_pos h9]; exact ak ⟨h9.symm,rfl,s1⟩
   ·rw [if_neg h9]; exact ⟨rfl,rfl,s1⟩
  ·rw [if_neg h0]; exact ak ⟨rfl,by rw [hc,Int.natCast_add,Int.natCast_one],by omega⟩
theorem CR {e:ag}(hb:Sz e):Ev2 (λ n _=>lq n e) (·=chk e):=by
 simp only [lq];exact d6 _ (Ed hb 0 1 0 1 Z Z (by decide) (by decide)) (λ r hr=>ak hr.1)
theorem D4 {e:ag}(hb:Sz e):∀ (c lv:Nat) (ci li:Int),ci=c->li=lv->c<=4096->lv<=33 ->
  Ev2 (λ n _=>ek n e li ci) (λ r=>r.1=(pX c lv e).1/\(r.1=0->r.2=(((pX c lv e).2:Nat):Int))/\(pX c lv e).2<=4096):=by
 induction hb with
 | @mk x sn sk sv hs skids ih=>
  intro c lv ci li hc hl h1 h2;have hb:Sz x:=.mk sn sk sv hs skids;refine fJ ?_;simp only [ek];rw [yQ];refine bv (λ h=>?_) (λ h=>?_)
  ·rw [if_pos O]; exact ak ⟨rfl,by simp,h1⟩
  rw [if_neg (show ¬ 32<lv by omega)];refine bv (λ h5=>?_) (λ h5=>?_)
  ·rw [if_pos O]; exact ak ⟨rfl,by simp,h1⟩
  rw [if_neg (show ¬ 4096<=c by omega)];refine aN _ (Dq hb) ?_;refine aI (bb O O) ?_
  have stop:∀ (i ci kk:Int),kk≠0->Ev2 (λ n m=>cW (ek n) x li m kk ci i) (·=(kk,ci)):=by
   intro i ci kk hk;refine aJ ?_;simp only [cW];refine aN false (bv (λ _=>ak (by simpa using hk)) (λ _=>ak rfl)) (aR (by decide) (ak rfl))
  by_cases h0:qc x=0
  ·rw [if_pos h0,h0]
   have loop:∀ (k i c:Nat) (ci:Int),i+k=x.B'.length->ci=c->c<=4096->Ev2 (λ n m=>cW (ek n) x li m 0 ci (i:Int)) (λ s=>(nX c (lv+1) (x.B'.drop i)).2<=4096/\s.1=(nX c (lv+1) (x.B'.drop i)).1/\(s.1=0->s.2=(((nX c (lv+1) (x.B'.drop i)).2:Nat):Int))):=by
    intro k
    induction k with
    | zero=>
     intro i c ci hi hc h6;refine aJ ?_;simp only [cW];rw [rg O];refine aN false (aR O (ak rfl)) (aR (by decide) (ak ⟨by rw [nX]; exact h6,by rw [nX],λ _=>by rw [nX]; exact hc⟩))
    | succ k ihk=>
     intro i c ci hi hc h6;refine aJ ?_;simp only [cW];rw [cX _ (show i<x.B'.length by omega),vm];refine aN true (aS O (ak rfl)) (aS rfl (aI O (aI (bb O O) ?_)));refine d6 _ (ih _ (dX O) c (lv+1) ci (li+1) hc O h6 O) ?_;rintro ⟨r1,r2⟩ ⟨q1,q2,q3⟩;simp only at q1 q2;refine aI (bb O O) ?_;by_cases h8:r1=0
     ·subst h8;have q2:=q2 rfl;simp only [if_pos q1.symm];subst q2;exact bO (P:=λ j=>Ev2 (λ n m=>cW (ek n) x li m 0 _ j) _) (ihk (i+1) _ _ O rfl q3)
     ·simp only [if_neg (show ¬ (pX c (lv+1) (lat x.B' (i:Int))).1=0 by rw [<- q1]; exact h8)];exact jy (stop _ _ _ h8) (λ s hs=>by subst hs; exact ⟨q3,q1,λ k=>absurd k h8⟩)
   refine d6 _ (bN (f:=λ n m=>cW (ek n) x li m 0 (ci+1) 0) (loop x.B'.length 0 (c+1) (ci+1) O O O)) ?_;rintro s ⟨s1,s2,s3⟩;simp only [List.drop_zero] at s1 s2 s3;exact ak ⟨s2,s3,s1⟩
  ·rw [if_neg h0];exact d6 _ (bN (f:=λ n m=>cW (ek n) x li m (qc x) (ci+1) 0) (stop _ _ _ h0)) (λ s hs=>by subst hs; exact ak ⟨rfl,λ k=>absurd k h0,by omega⟩)
theorem CU {e:ag}(hb:Sz e):Ev2 (λ n _=>lA n e) (·=chk e):=by
 simp only [lA];exact d6 _ (D4 hb 0 1 0 1 Z Z (by decide) (by decide)) (λ r hr=>ak hr.1)
mutual
def og:ag->Nat|.mk _ _ _ _ _ kids _=>1+mF kids
def mF:List ag->Nat|[]=>0|x::r=>og x+mF r
end
theorem rv (e:ag):og e=1+mF e.B':=by cases e; simp only [og,ag.B']
theorem BF {e:ag}(hb:ag.Bd e):∀ (nodes levels:Int),0<=nodes->nodes<=1000000->-1000000<=levels->levels<=1000000 ->
  Ev2 (λ n _=>gk n e nodes levels) (λ r=>-1<=r/\r<=nodes/\(0<=r->r=nodes-(og e:Int))):=by
 induction hb with
 | @mk x bKind bOp bName bKey bValue bKids eKids bAt ih=>
  intro nodes levels h1 h2 h3 h4;have hl:=bKids;unfold cH at hl;refine fJ ?_;simp only [gk];refine bv (λ _=>ak ⟨by omega,by omega,by omega⟩) (λ h=>?_);refine aI (bb O O) ?_
  have loop:∀ (k i:Nat) (c:Int),i+k=x.B'.length->-1<=c->c<=1000000->Ev2 (λ n m=>ey (gk n) x levels m c (i:Int)) (λ s=>-1<=s/\s<=c/\(0<=s->s=c-(mF (x.B'.drop i):Int))):=by
   intro k
   induction k with
   | zero=>
    intro i c hi h6 h7;refine aJ ?_;simp only [ey];refine aN false (aR O (ak rfl)) (aR G (ak ⟨h6,by omega,λ _=>?_⟩));rw [rg O]; simp [mF]
   | succ k ihk=>
    intro i c hi h6 h7;refine aJ ?_;simp only [ey];refine aN (decide (0<=c)) (aS O (ak rfl)) (bv (λ h8=>?_) (λ h8=>ak ⟨h6,by omega,λ h=>absurd (by simpa using h) h8⟩));have h8:0<=c:=by simpa using h8
    refine aI O (aI (bb O O) ?_);refine d6 _ (ih _ (dX O) c (levels-1) h8 h7 O O) (λ q hq=>?_);refine aI (bb O O) ?_;refine jy (bO (P:=λ j=>Ev2 (λ n m=>ey (gk n) x levels m q j) _) (ihk (i+1) q O hq.1 O)) (λ s hs=>⟨hs.1,by omega,λ h=>?_⟩);rw [cX _ O];have a1:=hs.2.2 h;have a2:=hq.2.2 O;simp only [mF];omega
  refine d6 _ (bN (f:=λ n m=>ey (gk n) x levels m (nodes-1) 0) (loop x.B'.length 0 (nodes-1) O O O)) (λ s hs=>ak ⟨hs.1,by omega,λ h=>?_⟩);have:=hs.2.2 h;rw [rv];simp only [List.drop_zero] at this;omega
theorem zk {e:ag}(hb:ag.Bd e)(nodes:Int)(h1:0<=nodes)(h2:nodes<=1000000):Ev2 (λ n _=>lE n e nodes) (λ r=>r=true->(og e:Int)<=nodes):=by
 simp only [lE];refine d6 _ (BF hb nodes 40 h1 h2 (by decide) (by decide)) (λ r hr=>ak (λ h=>?_));have h:0<=r:=by simpa using h
 have:=hr.2.2 h;omega
theorem zS {e:ag}(hb:ag.Bd e):og e<=1000000->Ev2 (λ n _=>fF n e) (·=(og e:Int)):=by
 induction hb with
 | @mk x bKind bOp bName bKey bValue bKids eKids bAt ih=>
  intro h0;have hl:=bKids;unfold cH at hl;rw [rv] at h0;refine fJ ?_;simp only [fF]
  have loop:∀ (k i:Nat) (c:Int),i+k=x.B'.length->0<=c->c+(mF (x.B'.drop i):Int)<=2000000->mF (x.B'.drop i)<=1000000->Ev2 (λ n m=>ea (fF n) x m c (i:Int)) (·=c+(mF (x.B'.drop i):Int)):=by
   intro k
   induction k with
   | zero=>
    intro i c hi h6 h7 h8;refine aJ ?_;simp only [ea];refine aR O (ak ?_);rw [rg O]; simp [mF]
   | succ k ihk=>
    intro i c hi h6 h7 h8;refine aJ ?_;simp only [ea];rw [cX _ O] at h7 h8 ⊢;simp only [mF] at h7 h8 ⊢;refine aS O (aI O ?_);refine aN _ (ih _ (dX O) O) ?_;refine aI (bb O O) (aI (bb O O) ?_);refine jy (bO (P:=λ j=>Ev2 (λ n m=>ea (fF n) x m (c+(og (lat x.B' (i:Int)):Int)) j) _) (ihk (i+1) _ O O O O)) (λ s hs=>?_);rw [hs]; omega
  refine aN _ (bN (f:=λ n m=>ea (fF n) x m 1 0) (loop x.B'.length 0 1 O O  (by simp only [List.drop_zero]; omega) (by simp only [List.drop_zero]; omega))) (ak ?_);rw [rv]; simp
end Go.Ab.R06
end
section
namespace Go.Ab
open Go.Proofs Go.Ab
attribute [local irreducible] awp gg ba aF aU gv AV.sub
theorem iu (l:List Bk)(EK:l.length*16<=140737488355328):aF Tryz.prog 77 [eL eS l] (·=.p (eL eS l)):=by
 refine aZ good Tryz.func77 Z Z Z λ w0=>?_;refine dl ?_;refine eF ?_;refine bV Z ?_;refine dF Z Z Z Z ?_;refine dT ?_
 (repeat (first|refine bq ?_|refine bH ?_|refine cr ?_|refine bE Z ?_|refine cn ?_|refine bj ?_|refine bp ?_|refine aT ?_|refine a8 ?_|refine aW Z ?_|refine noGoto_ret ?_|refine noGoto_exit ?_|refine noGoto_normal ?_))
 refine dl ?_;refine dl ?_;refine eF ?_;refine bV Z ?_;refine bM Z Z Z Z ?_;refine bV Z ?_;refine nN Z Z Z Z Z Z Z Z (λ b hb=>?_);refine dT ?_
 (repeat (first|refine bq ?_|refine bH ?_|refine cr ?_|refine bE Z ?_|refine cn ?_|refine bj ?_|refine bp ?_|refine aT ?_|refine a8 ?_|refine aW Z ?_|refine noGoto_ret ?_|refine noGoto_exit ?_|refine noGoto_normal ?_))
 refine vf Z (λ hc=>?_) (λ hc=>?_)
 ·have he:l=[]:=by simpa using hb hc
  subst he;refine dl ?_;refine eF ?_;refine bV rfl ?_;refine dF Z Z Z Z ?_;refine dT ?_
  (repeat (first|refine bq ?_|refine bH ?_|refine cr ?_|refine bE Z ?_|refine cn ?_|refine bj ?_|refine bp ?_|refine aT ?_|refine a8 ?_|refine aW Z ?_|refine noGoto_ret ?_|refine noGoto_exit ?_|refine noGoto_normal ?_))
  refine kR ?_
  (repeat (first|refine bq ?_|refine bH ?_|refine cr ?_|refine bE Z ?_|refine cn ?_|refine bj ?_|refine bp ?_|refine aT ?_|refine a8 ?_|refine aW Z ?_|refine noGoto_ret ?_|refine noGoto_exit ?_|refine noGoto_normal ?_))
  refine oG Z ?_;exact ei _
 ·skip
  refine lJ ?_
  (repeat (first|refine bq ?_|refine bH ?_|refine cr ?_|refine bE Z ?_|refine cn ?_|refine bj ?_|refine bp ?_|refine aT ?_|refine a8 ?_|refine aW Z ?_|refine noGoto_ret ?_|refine noGoto_exit ?_|refine noGoto_normal ?_))
  refine dl ?_;refine eF ?_;refine bV Z ?_;refine qJ Z Z Z Z Z Z Z 5 1 ?_;refine bV Z ?_;refine bM Z Z Z Z ?_;refine bV Z ?_;refine eu eS [] l Z Z Z Z Z Z Z Z Z Z Z Z Z Y Z Z Z Z (by simpa using EK) ?_;refine bV Z ?_;refine dF Z Z Z Z ?_;refine dT ?_
  (repeat (first|refine bq ?_|refine bH ?_|refine cr ?_|refine bE Z ?_|refine cn ?_|refine bj ?_|refine bp ?_|refine aT ?_|refine a8 ?_|refine aW Z ?_|refine noGoto_ret ?_|refine noGoto_exit ?_|refine noGoto_normal ?_))
  refine kR ?_
  (repeat (first|refine bq ?_|refine bH ?_|refine cr ?_|refine bE Z ?_|refine cn ?_|refine bj ?_|refine bp ?_|refine aT ?_|refine a8 ?_|refine aW Z ?_|refine noGoto_ret ?_|refine noGoto_exit ?_|refine noGoto_normal ?_))
  refine oG Z ?_;exact AV.sub_vec _ _ _ _
theorem jN (l:List ar)(h:l.isEmpty=true):aF Tryz.prog 108 [eL bw l] (·=.p (eL bw [])):=by
 obtain rfl:l=[]:=by simpa using h
 refine aZ good Tryz.func108 Z Z Z λ w0=>?_;refine dl ?_;refine eF ?_;refine bV Z ?_;refine dF Z Z Z Z ?_;refine dT ?_
 (repeat (first|refine bq ?_|refine bH ?_|refine cr ?_|refine bE Z ?_|refine cn ?_|refine bj ?_|refine bp ?_|refine aT ?_|refine a8 ?_|refine aW Z ?_|refine noGoto_ret ?_|refine noGoto_exit ?_|refine noGoto_normal ?_))
 refine dl ?_;refine dl ?_;refine eF ?_;refine bV Z ?_;refine bM Z Z Z Z ?_;refine bV Z ?_;refine nN Z Z Z Z Z Z Z Z (λ b hb=>?_);refine dT ?_
 (repeat (first|refine bq ?_|refine bH ?_|refine cr ?_|refine bE Z ?_|refine cn ?_|refine bj ?_|refine bp ?_|refine aT ?_|refine a8 ?_|refine aW Z ?_|refine noGoto_ret ?_|refine noGoto_exit ?_|refine noGoto_normal ?_))
 refine vf Z (λ hc=>?_) (λ hc=>?_)
 ·skip
  refine dl ?_;refine eF ?_;refine bV Z ?_;refine dF Z Z Z Z ?_;refine dT ?_
  (repeat (first|refine bq ?_|refine bH ?_|refine cr ?_|refine bE Z ?_|refine cn ?_|refine bj ?_|refine bp ?_|refine aT ?_|refine a8 ?_|refine aW Z ?_|refine noGoto_ret ?_|refine noGoto_exit ?_|refine noGoto_normal ?_))
  refine kR ?_
  (repeat (first|refine bq ?_|refine bH ?_|refine cr ?_|refine bE Z ?_|refine cn ?_|refine bj ?_|refine bp ?_|refine aT ?_|refine a8 ?_|refine aW Z ?_|refine noGoto_ret ?_|refine noGoto_exit ?_|refine noGoto_normal ?_))
  refine oG Z ?_;exact ei _
 ·skip
  refine lJ ?_
  (repeat (first|refine bq ?_|refine bH ?_|refine cr ?_|refine bE Z ?_|refine cn ?_|refine bj ?_|refine bp ?_|refine aT ?_|refine a8 ?_|refine aW Z ?_|refine noGoto_ret ?_|refine noGoto_exit ?_|refine noGoto_normal ?_))
  refine dl ?_;refine eF ?_;refine bV Z ?_;refine qJ Z Z Z Z Z Z Z 5 5 ?_;refine bV Z ?_;refine bM Z Z Z Z ?_;refine bV Z ?_;refine eu bw [] [] Z Z Z Z Z Z Z Z Z Z Z Z Z (λ x=>congrArg List.length (ar.BY x)) Z Z Z Z (by decide) ?_;refine bV Z ?_;refine dF Z Z Z Z ?_;refine dT ?_
  (repeat (first|refine bq ?_|refine bH ?_|refine cr ?_|refine bE Z ?_|refine cn ?_|refine bj ?_|refine bp ?_|refine aT ?_|refine a8 ?_|refine aW Z ?_|refine noGoto_ret ?_|refine noGoto_exit ?_|refine noGoto_normal ?_))
  refine kR ?_
  (repeat (first|refine bq ?_|refine bH ?_|refine cr ?_|refine bE Z ?_|refine cn ?_|refine bj ?_|refine bp ?_|refine aT ?_|refine a8 ?_|refine aW Z ?_|refine noGoto_ret ?_|refine noGoto_exit ?_|refine noGoto_normal ?_))
  refine oG Z ?_;exact AV.sub_vec _ _ _ _
theorem jP (l:List ar)(h:l.isEmpty=false)(EK:l.length*80<=140737488355328):aU Tryz.prog 108 [.p (eL bw l)] [] (λ x y=>x=.arr 2000000 5 0 l.length/\y=[(2000000,j1 bw l)]):=by
 refine bT good [800000] [800000] Tryz.func108 Z Z Z Z Z λ w0 F=>?_;refine dl ?_;refine eF ?_;refine bV Z ?_;refine dF Z Z Z Z ?_;refine dT ?_
 (repeat (first|refine bq ?_|refine bH ?_|refine cr ?_|refine bE Z ?_|refine cn ?_|refine bj ?_|refine bp ?_|refine aT ?_|refine a8 ?_|refine aW Z ?_|refine noGoto_ret ?_|refine noGoto_exit ?_|refine noGoto_normal ?_))
 refine dl ?_;refine dl ?_;refine eF ?_;refine bV Z ?_;refine bM Z Z Z Z ?_;refine bV Z ?_;refine nN Z Z Z Z Z Z Z Z (λ b hb=>?_);refine dT ?_
 (repeat (first|refine bq ?_|refine bH ?_|refine cr ?_|refine bE Z ?_|refine cn ?_|refine bj ?_|refine bp ?_|refine aT ?_|refine a8 ?_|refine aW Z ?_|refine noGoto_ret ?_|refine noGoto_exit ?_|refine noGoto_normal ?_))
 refine vf Z (λ hc=>?_) (λ hc=>?_)
 ·have he:l=[]:=by simpa using hb hc
  subst he
  cases h
 ·skip
  refine lJ ?_
  (repeat (first|refine bq ?_|refine bH ?_|refine cr ?_|refine bE Z ?_|refine cn ?_|refine bj ?_|refine bp ?_|refine aT ?_|refine a8 ?_|refine aW Z ?_|refine noGoto_ret ?_|refine noGoto_exit ?_|refine noGoto_normal ?_))
  refine dl ?_;refine eF ?_;refine bV Z ?_;refine uV Z Z Z Z Z Z 5 ?_;refine bV Z ?_;refine bM Z Z Z Z ?_;refine bV Z ?_;refine yH bw [] l Z Z Z Z Z Z Z Z Z Z Z Z Z Z Z (λ x=>congrArg List.length (ar.BY x)) Z Z Z (by simpa using EK) ?_;refine bV Z ?_;refine dF Z Z Z Z ?_;refine dT ?_
  (repeat (first|refine bq ?_|refine bH ?_|refine cr ?_|refine bE Z ?_|refine cn ?_|refine bj ?_|refine bp ?_|refine aT ?_|refine a8 ?_|refine aW Z ?_|refine noGoto_ret ?_|refine noGoto_exit ?_|refine noGoto_normal ?_))
  refine kR ?_
  (repeat (first|refine bq ?_|refine bH ?_|refine cr ?_|refine bE Z ?_|refine cn ?_|refine bj ?_|refine bp ?_|refine aT ?_|refine a8 ?_|refine aW Z ?_|refine noGoto_ret ?_|refine noGoto_exit ?_|refine noGoto_normal ?_))
  exact qX (aY 7 800000 Z Z Z Z (aA Z (aD _) Z)) Z Z Z (aA Z (aD _) Z) (AV.sub_of_eq (congrArg (AV.arr 2000000 5 0) G)) ⟨⟨_,Z,aM _⟩,trivial⟩
theorem kb (l:List ag)(h:l.isEmpty=true):aF Tryz.prog 76 [eL aw l] (·=.p (eL aw [])):=by
 obtain rfl:l=[]:=by simpa using h
 refine aZ good Tryz.func76 Z Z Z λ w0=>?_;refine dl ?_;refine eF ?_;refine bV Z ?_;refine dF Z Z Z Z ?_;refine dT ?_
 (repeat (first|refine bq ?_|refine bH ?_|refine cr ?_|refine bE Z ?_|refine cn ?_|refine bj ?_|refine bp ?_|refine aT ?_|refine a8 ?_|refine aW Z ?_|refine noGoto_ret ?_|refine noGoto_exit ?_|refine noGoto_normal ?_))
 refine dl ?_;refine dl ?_;refine eF ?_;refine bV Z ?_;refine bM Z Z Z Z ?_;refine bV Z ?_;refine nN Z Z Z Z Z Z Z Z (λ b hb=>?_);refine dT ?_
 (repeat (first|refine bq ?_|refine bH ?_|refine cr ?_|refine bE Z ?_|refine cn ?_|refine bj ?_|refine bp ?_|refine aT ?_|refine a8 ?_|refine aW Z ?_|refine noGoto_ret ?_|refine noGoto_exit ?_|refine noGoto_normal ?_))
 refine vf Z (λ hc=>?_) (λ hc=>?_)
 ·skip
  refine dl ?_;refine eF ?_;refine bV Z ?_;refine dF Z Z Z Z ?_;refine dT ?_
  (repeat (first|refine bq ?_|refine bH ?_|refine cr ?_|refine bE Z ?_|refine cn ?_|refine bj ?_|refine bp ?_|refine aT ?_|refine a8 ?_|refine aW Z ?_|refine noGoto_ret ?_|refine noGoto_exit ?_|refine noGoto_normal ?_))
  refine kR ?_
  (repeat (first|refine bq ?_|refine bH ?_|refine cr ?_|refine bE Z ?_|refine cn ?_|refine bj ?_|refine bp ?_|refine aT ?_|refine a8 ?_|refine aW Z ?_|refine noGoto_ret ?_|refine noGoto_exit ?_|refine noGoto_normal ?_))
  refine oG Z ?_;exact ei _
 ·skip
  refine lJ ?_
  (repeat (first|refine bq ?_|refine bH ?_|refine cr ?_|refine bE Z ?_|refine cn ?_|refine bj ?_|refine bp ?_|refine aT ?_|refine a8 ?_|refine aW Z ?_|refine noGoto_ret ?_|refine noGoto_exit ?_|refine noGoto_normal ?_))
  refine dl ?_;refine eF ?_;refine bV Z ?_;refine qJ Z Z Z Z Z Z Z 5 11 ?_;refine bV Z ?_;refine bM Z Z Z Z ?_;refine bV Z ?_;refine eu aw [] [] Z Z Z Z Z Z Z Z Z Z Z Z Z (λ x=>congrArg List.length (ag.BY x)) Z Z Z Z (by decide) ?_;refine bV Z ?_;refine dF Z Z Z Z ?_;refine dT ?_
  (repeat (first|refine bq ?_|refine bH ?_|refine cr ?_|refine bE Z ?_|refine cn ?_|refine bj ?_|refine bp ?_|refine aT ?_|refine a8 ?_|refine aW Z ?_|refine noGoto_ret ?_|refine noGoto_exit ?_|refine noGoto_normal ?_))
  refine kR ?_
  (repeat (first|refine bq ?_|refine bH ?_|refine cr ?_|refine bE Z ?_|refine cn ?_|refine bj ?_|refine bp ?_|refine aT ?_|refine a8 ?_|refine aW Z ?_|refine noGoto_ret ?_|refine noGoto_exit ?_|refine noGoto_normal ?_))
  refine oG Z ?_;exact AV.sub_vec _ _ _ _
theorem kl (l:List ag)(h:l.isEmpty=false)(EK:l.length*160<=140737488355328):aU Tryz.prog 76 [.p (eL aw l)] [] (λ x y=>x=.arr 2000000 11 0 l.length/\y=[(2000000,j1 aw l)]):=by
 refine bT good [800000] [800000] Tryz.func76 Z Z Z Z Z λ w0 F=>?_;refine dl ?_;refine eF ?_;refine bV Z ?_;refine dF Z Z Z Z ?_;refine dT ?_
 (repeat (first|refine bq ?_|refine bH ?_|refine cr ?_|refine bE Z ?_|refine cn ?_|refine bj ?_|refine bp ?_|refine aT ?_|refine a8 ?_|refine aW Z ?_|refine noGoto_ret ?_|refine noGoto_exit ?_|refine noGoto_normal ?_))
 refine dl ?_;refine dl ?_;refine eF ?_;refine bV Z ?_;refine bM Z Z Z Z ?_;refine bV Z ?_;refine nN Z Z Z Z Z Z Z Z (λ b hb=>?_);refine dT ?_
 (repeat (first|refine bq ?_|refine bH ?_|refine cr ?_|refine bE Z ?_|refine cn ?_|refine bj ?_|refine bp ?_|refine aT ?_|refine a8 ?_|refine aW Z ?_|refine noGoto_ret ?_|refine noGoto_exit ?_|refine noGoto_normal ?_))
 refine vf Z (λ hc=>?_) (λ hc=>?_)
 ·have he:l=[]:=by simpa using hb hc
  subst he
  cases h
 ·skip
  refine lJ ?_
  (repeat (first|refine bq ?_|refine bH ?_|refine cr ?_|refine bE Z ?_|refine cn ?_|refine bj ?_|refine bp ?_|refine aT ?_|refine a8 ?_|refine aW Z ?_|refine noGoto_ret ?_|refine noGoto_exit ?_|refine noGoto_normal ?_))
  refine dl ?_;refine eF ?_;refine bV Z ?_;refine uV Z Z Z Z Z Z 11 ?_;refine bV Z ?_;refine bM Z Z Z Z ?_;refine bV Z ?_;refine yH aw [] l Z Z Z Z Z Z Z Z Z Z Z Z Z Z Z (λ x=>congrArg List.length (ag.BY x)) Z Z Z (by simpa using EK) ?_;refine bV Z ?_;refine dF Z Z Z Z ?_;refine dT ?_
  (repeat (first|refine bq ?_|refine bH ?_|refine cr ?_|refine bE Z ?_|refine cn ?_|refine bj ?_|refine bp ?_|refine aT ?_|refine a8 ?_|refine aW Z ?_|refine noGoto_ret ?_|refine noGoto_exit ?_|refine noGoto_normal ?_))
  refine kR ?_
  (repeat (first|refine bq ?_|refine bH ?_|refine cr ?_|refine bE Z ?_|refine cn ?_|refine bj ?_|refine bp ?_|refine aT ?_|refine a8 ?_|refine aW Z ?_|refine noGoto_ret ?_|refine noGoto_exit ?_|refine noGoto_normal ?_))
  exact qX (aY 7 800000 Z Z Z Z (aA Z (aD _) Z)) Z Z Z (aA Z (aD _) Z) (AV.sub_of_eq (congrArg (AV.arr 2000000 11 0) G)) ⟨⟨_,Z,aM _⟩,trivial⟩
theorem jM (l:List au)(EK:l.length*32<=140737488355328):aU Tryz.prog 115 [.p (eL ax l)] [] (λ x y=>x=.vec 2000000 3 0 (l.map ax)/\y=[]):=by
 refine bT good [800000] [] Tryz.func115 Z Z Z Z Z λ w0 F=>?_;refine dl ?_;refine eF ?_;refine bV Z ?_;refine dF Z Z Z Z ?_;refine dT ?_
 (repeat (first|refine bq ?_|refine bH ?_|refine cr ?_|refine bE Z ?_|refine cn ?_|refine bj ?_|refine bp ?_|refine aT ?_|refine a8 ?_|refine aW Z ?_|refine noGoto_ret ?_|refine noGoto_exit ?_|refine noGoto_normal ?_))
 refine dl ?_;refine dl ?_;refine eF ?_;refine bV Z ?_;refine bM Z Z Z Z ?_;refine bV Z ?_;refine nN Z Z Z Z Z Z Z Z (λ b hb=>?_);refine dT ?_
 (repeat (first|refine bq ?_|refine bH ?_|refine cr ?_|refine bE Z ?_|refine cn ?_|refine bj ?_|refine bp ?_|refine aT ?_|refine a8 ?_|refine aW Z ?_|refine noGoto_ret ?_|refine noGoto_exit ?_|refine noGoto_normal ?_))
 refine vf Z (λ hc=>?_) (λ hc=>?_)
 ·have he:l=[]:=by simpa using hb hc
  subst he;refine dl ?_;refine eF ?_;refine bV rfl ?_;refine dF Z Z Z Z ?_;refine dT ?_
  (repeat (first|refine bq ?_|refine bH ?_|refine cr ?_|refine bE Z ?_|refine cn ?_|refine bj ?_|refine bp ?_|refine aT ?_|refine a8 ?_|refine aW Z ?_|refine noGoto_ret ?_|refine noGoto_exit ?_|refine noGoto_normal ?_))
  refine kR ?_
  (repeat (first|refine bq ?_|refine bH ?_|refine cr ?_|refine bE Z ?_|refine cn ?_|refine bj ?_|refine bp ?_|refine aT ?_|refine a8 ?_|refine aW Z ?_|refine noGoto_ret ?_|refine noGoto_exit ?_|refine noGoto_normal ?_))
  exact qX (ay _) Z Z Z Z (AV.sub_nilvec _ _ _) trivial
 ·skip
  refine lJ ?_
  (repeat (first|refine bq ?_|refine bH ?_|refine cr ?_|refine bE Z ?_|refine cn ?_|refine bj ?_|refine bp ?_|refine aT ?_|refine a8 ?_|refine aW Z ?_|refine noGoto_ret ?_|refine noGoto_exit ?_|refine noGoto_normal ?_))
  refine dl ?_;refine eF ?_;refine bV Z ?_;refine qJ Z Z Z Z Z Z Z 5 3 ?_;refine bV Z ?_;refine bM Z Z Z Z ?_;refine bV Z ?_;refine eu ax [] l Z Z Z Z Z Z Z Z Z Z Z Z Z (λ x=>congrArg List.length (au.BY x)) Z Z Z Z (by simpa using EK) ?_;refine bV Z ?_;refine dF Z Z Z Z ?_;refine dT ?_
  (repeat (first|refine bq ?_|refine bH ?_|refine cr ?_|refine bE Z ?_|refine cn ?_|refine bj ?_|refine bp ?_|refine aT ?_|refine a8 ?_|refine aW Z ?_|refine noGoto_ret ?_|refine noGoto_exit ?_|refine noGoto_normal ?_))
  refine kR ?_
  (repeat (first|refine bq ?_|refine bH ?_|refine cr ?_|refine bE Z ?_|refine cn ?_|refine bj ?_|refine bp ?_|refine aT ?_|refine a8 ?_|refine aW Z ?_|refine noGoto_ret ?_|refine noGoto_exit ?_|refine noGoto_normal ?_))
  exact qX (aY 7 800000 Z Z Z Z Z) Z Z Z Z (AV.sub_refl _) trivial
end Go.Ab
end
section
namespace Go.Ab
theorem pj {i n j sz:Nat}(h:i<n)(hj:j<sz):i*sz+j<n*sz:=by
 have:=ro sz (show i+1<=n from h);rw [Nat.succ_mul] at this; omega
section
variable {C:Cx} {o:Oper} {K:AS->Prop} {sl:List (Nat×AV)} {ob:List (Nat×List AV)} {d:Nat}
theorem tZ {es ys:List PV}{t tx e e':TypeId}{i ie j:TI}{y:Operand}{Y0z:AV}{k sz:Nat}(D:Nat->Bool)(hDl:∀ i,D i=true->i<M1)(hDk:D k=true)
  (hi:look C.tt t=some i) (EP:i.k=.slice e) (hie:look C.tt e=some ie) (hj:look C.tt tx=some j) (hjk:j.k=.slice e')
  (hy:evo sl y=some Y0z) (hY:Y0z.elems? = some ys) (hszy:∀ y∈ys,y.cells.length=sz) (hsze:∀ x∈es,x.cells.length=sz) (ET:∀ x∈es,∀ c∈x.cells,c.one=true)
  (h1s:ie.size=sz) (h0:0<sz) (hzl:ie.zero.length=ie.size)
  (EK:(es.length+ys.length)*ie.bytes<=140737488355328) (hlen':es.length+ys.length<=9223372036854775807)
  {g:Gh} {a:Act} {w:World} (hs:St C.n C.w0 C.F g ⟨sl,ob⟩ a w) (base:Option Addr) (cap:Nat) (olds:List Value)
  (hold:(Builtin.firstCells ie.size es.length (.slice base es.length cap)).run C.P w.drew=.ok olds.toArray w.drew) (hol:olds.length=es.length*sz)
  (hoc:∀ (i:Nat) x (j:Nat) p,es[i]? = some x->x.cells[j]? = some p->∃ u,olds[i*sz+j]? = some u/\PRep w g.st p u)
  (hg:cap<es.length+ys.length) (ty:TypeId) (hn:Nat.blt d C.n=true) :
  ∃ v w' g',(Builtin.append_ #[t,tx] ty #[.slice base es.length cap,a.eval y]).run C.P w=.ok v w' /\
   St C.n C.w0 C.F g' ⟨(d,.stk k sz (es++ys))::(co D ⟨sl,ob⟩).sl,(co D ⟨sl,ob⟩).ob⟩ (a.put (some d) v) w':=by
 subst h1s;obtain ⟨u,h1,h2⟩:=bF C.good hi;have h3:=bJ (h2.trans EP);subst h3;obtain ⟨u',h1',h2'⟩:=bF C.good hj;have h3':=bJ (h2'.trans hjk);subst h3';obtain ⟨info,hf1,hf2,hf3,z,hf4,hf5⟩:=gX C.good hie;have hyv:=iA hY (bu hs hy);obtain ⟨news,hsrc,hnews⟩:=ti (P:=C.P) (sz:=ie.size) h1' hyv hszy h0;have hfit:=growslice_fits (bytes:=ie.bytes) hg EK;have hrun:=run_append_grow_src w t tx ty e info z h1 hf1 hf4 base es.length cap olds (by rw [hf2]; exact hold) (a.eval y) ys.length news (by rw [hf2]; exact hsrc) hg O (by rw [hf3]; exact hfit);obtain ⟨q,hq⟩:∃ q,q=grownCap w (es.length+ys.length) cap e:=⟨_,rfl⟩
 rw [<- hq] at hrun
 have hqn:es.length+ys.length<=q:=by
  rw [hq]; unfold grownCap; simp only [Question.cut]; omega
 have hzs:z.cells.size=ie.size:=by rw [<- hzl,<- hf5,ur]
 have hnl:news.length=ys.length*ie.size:=hsrc.newsLen;obtain ⟨c,hc⟩:∃ c,c=(olds++news).toArray++Builtin.zeroCells z.cells (q-(es.length+ys.length)):=⟨_,rfl⟩
 rw [<- hc] at hrun
 have ER:c.size=q*ie.size:=by
  rw [hc];simp only [Array.size_append,List.size_toArray,qr,hol,hnl,size_zeroCells,hzs];obtain ⟨r,rfl⟩:∃ r,q=es.length+ys.length+r:=⟨q-(es.length+ys.length),by omega⟩
  rw [Nat.add_sub_cancel_left,n7,n7]
 have hf:=hs.drew.fresh D hDl k hDk (λ o=>o=q*ie.size) c e;have EN:=kF (w:=w.drew) (T:=λ o=>o=q*ie.size) (ob:=.cells c e) hs.drew.lt;have hlenA:(es++ys).length=es.length+ys.length:=qr
 have hrep:ARep (w.drew.alloc (.cells c e)) ⟨λ b o=>g.st b o\/(b=w.drew.heap.size/\o=q*ie.size),λ i=>if i=k then some w.drew.heap.size else if D i then none else g.ow i⟩ (.stk k ie.size (es++ys)) (.slice (some ⟨w.drew.heap.size,0,none⟩) (es++ys).length q):=by
  refine .stk G dU ER O (λ x hx=>?_) (λ x hx c hc=>?_) (λ o=>?_) (λ i x j p hx hp=>?_)
  ·rcases List.mem_append.1 hx with hx|hx
   ·exact hsze x hx
   ·exact hszy x hx
  ·rcases List.mem_append.1 hx with hx|hx
   ·exact ET x hx c hc
   ·obtain ⟨i,hi⟩:=List.mem_iff_getElem?.1 hx;obtain ⟨j,hj⟩:=List.mem_iff_getElem?.1 hc;exact (hnews i x j c hi hj).1
  ·constructor
   ·rintro (h|⟨_,h⟩)
    ·exact absurd (hs.lt _ _ h) (Nat.lt_irrefl _)
    ·exact h
   ·intro h; exact .inr ⟨rfl,h⟩
  ·have hjl:j<x.cells.length:=(List.getElem?_eq_some_iff.1 hp).1
   have hget:∀ m,m<olds.length+news.length->c[m]? = if m<olds.length then olds[m]? else news[m-olds.length]?:=by
    intro m hm;rw [hc,Array.getElem?_append];simp only [List.size_toArray,qr];rw [if_pos hm,List.getElem?_toArray,List.getElem?_append]
   rw [List.getElem?_append] at hx;split at hx
   ·rename_i hlt;rw [hsze x (List.mem_of_getElem? hx)] at hjl;have:=pj hlt hjl;obtain ⟨u,hu,hr⟩:=hoc i x j p hx hp;exact ⟨u,by rw [hget _ O,if_pos O]; exact hu,(PRep.mono (w:=w) (w':=w.drew) (st:=g.st) (st':=g.st) (λ b o h=>⟨h,rfl⟩) hr).mono EN⟩
   ·rename_i hge;rw [hszy x (List.mem_of_getElem? hx)] at hjl;have hil:i-es.length<ys.length:=(List.getElem?_eq_some_iff.1 hx).1;have:=pj hil hjl;obtain ⟨k1,u,hu,hr⟩:=hnews (i-es.length) x j p hx hp
    have e1:i*ie.size+j=es.length*ie.size+((i-es.length)*ie.size+j):=by
     rw [<- Nat.add_assoc,<- n7]; congr 2; omega
    exact ⟨u,by rw [hget _ O,if_neg O,e1,hol,Nat.add_sub_cancel_left]; exact hu,(PRep.mono (w:=w) (w':=w.drew) (st:=g.st) (st':=g.st) (λ b o h=>⟨h,Z⟩) hr).mono EN⟩
 rw [hlenA] at hrep;have hp:=hf.put (d:=some d) (λ t ht=>by cases ht; exact dg ▸ hn) hrep;exact ⟨_,_,_,hrun,hp⟩
theorem vP {t tx e e':TypeId}{x y:Operand}{k sz:Nat}{es:List PV}{X Y0z:AV}{ys:List PV}{i ie j:TI}(ho:o.op=.call { callee:=.builtin .append,args:=#[x,y],argTypes:=#[t,tx] })(hd:o.dst=some d)(hn:Nat.blt d C.n=true)
  (hi:look C.tt t=some i) (EP:i.k=.slice e) (hie:look C.tt e=some ie) (hj:look C.tt tx=some j) (hjk:j.k=.slice e') (hx:evo sl x=some X) (hX:X.sub (.stk k sz es)) (hk:Nat.blt k M1=true)
  (hy:evo sl y=some Y0z) (hY:Y0z.elems? = some ys) (hszy:∀ y∈ys,y.cells.length=sz) (hys:0<ys.length) (h1s:ie.size=sz) (h0:Nat.blt 0 sz=true) (hzl:Nat.beq ie.zero.length ie.size=true)
  (EK:(es.length+ys.length)*ie.bytes<=140737488355328) (hlen':es.length+ys.length<=9223372036854775807)
  (hK:K ⟨(d,.stk k sz (es++ys))::(co (λ i=>Nat.beq i k) ⟨sl,ob⟩).sl,(co (λ i=>Nat.beq i k) ⟨sl,ob⟩).ob⟩):ba C o K ⟨sl,ob⟩:=by
 have hzl':=cl hzl;have hk':k<M1:=dg ▸ hk;have h0':0<sz:=dg ▸ h0
 have hDl:∀ i,(Nat.beq i k)=true->i<M1:=by
  intro i hi;have:=cl hi; omega
 intro g a w hs;have hxr:=hX _ _ _ (bu hs hx);generalize hxv:a.eval x=xv at hxr
 have hrun0:∀ v w',(Builtin.append_ #[t,tx] o.type #[xv,a.eval y]).run C.P w=.ok v w'->(execOp a.eval o).run C.P w=.ok (.value v) w':=by
  intro v w' h;rw [fG ho];simp [builtin,hxv,h]
 cases hxr with
 | stkn=>
  obtain ⟨v,w',g',hr',hst'⟩:=tZ (es:=[]) (k:=k) (λ i=>Nat.beq i k) hDl G hi EP hie hj hjk hy hY hszy G G  h1s h0' hzl' EK hlen' hs none 0 [] (run_firstCells_none w.drew ie.size 0 0 0) G (λ i x j p hx=>by simp at hx) (by simpa using hys) o.type hn;unfold Oper.wp;rw [hrun0 _ _ hr'];simp only [Oper.upon,hd];exact ⟨g',_,hst',hK⟩
 | stke=>
  rename_i a0;obtain ⟨v,w',g',hr',hst'⟩:=tZ (es:=[]) (k:=k) (λ i=>Nat.beq i k) hDl G hi EP hie hj hjk hy hY hszy G G  h1s h0' hzl' EK hlen' hs (some a0) 0 [] (run_firstCells_some w.drew ie.size 0 a0 0 0 [] G G) G (λ i x j p hx=>by simp at hx) (by simpa using hys) o.type hn;unfold Oper.wp;rw [hrun0 _ _ hr'];simp only [Oper.upon,hd];exact ⟨g',_,hst',hK⟩
 | stk how hb ER hlenc hszc ET ES hr=>
  rename_i b cap c e0;subst h1s;by_cases hroom:es.length+ys.length<=cap
  ·obtain ⟨u,h1,h2⟩:=bF C.good hi;have h3:=bJ (h2.trans EP);subst h3;obtain ⟨u',h1',h2'⟩:=bF C.good hj;have h3':=bJ (h2'.trans hjk);subst h3';obtain ⟨info,hf1,hf2,hf3,z,hf4,hf5⟩:=gX C.good hie;have hyv:=iA hY (bu hs hy);obtain ⟨news,hsrc,hnews⟩:=ti (P:=C.P) (sz:=ie.size) h1' hyv hszy h0';have hnl:news.length=ys.length*ie.size:=hsrc.newsLen
   have hfit:es.length*ie.size+news.length<=c.size:=by
    rw [hnl,ER,<- n7]; exact ro _ hroom
   have hstc:=run_storeCells_at C.P b (es.length*ie.size) e0 news 0 c w hb (by simpa using hfit) hsrc.one;simp only [Nat.add_zero] at hstc;obtain ⟨c',hc'⟩:∃ c',c'=(c.toList.take (es.length*ie.size)++news++c.toList.drop (es.length*ie.size+news.length)).toArray:=⟨_,rfl⟩
   rw [<- hc'] at hstc;have hrr:=nR t tx o.type e info h1 hf1 b es.length cap (a.eval y) ys.length news (by rw [hf2]; exact hsrc) hroom (by rw [hf2]; exact hstc)
   have hcell':∀ j,c'[j]? = if es.length*ie.size<=j/\j<es.length*ie.size+news.length then news[j-es.length*ie.size]? else c[j]?:=by
    intro j;rw [hc'];have:=iy c.toList news (es.length*ie.size) (by simpa using hfit) j;simpa using this
   have hcs':c'.size=cap*ie.size:=by rw [<- ER,hc']; simp; omega
   have hin:=hs.inplace (λ i=>Nat.beq i k) hDl (k:=k) (d:=k) how G G  hb (c':=c') (hcs'.trans ER.symm) (λ o h=>by
    have:=(ES o).1 h
    rw [Array.getElem?_eq_none O,Array.getElem?_eq_none O]) (λ o=>o=cap*ie.size) (λ o h=>(ES o).1 h)
   have hEv:Ev w g.st (w.setRow b c') (λ b' o=>(b'=b/\o=cap*ie.size)\/(b'≠b/\g.st b' o)):=by
    intro b' o h;by_cases e1:b'=b
    ·subst e1;have ho:=(ES o).1 h;refine ⟨.inl ⟨rfl,ho⟩,?_⟩;simp only [World.cell?,setRow_heap w b' c c' e0 (0,0) hb,hb];rw [Array.getElem?_eq_none O,Array.getElem?_eq_none O]
    ·exact ⟨.inr ⟨e1,h⟩,by simp only [World.cell?,setRow_other w b b' c' e1]⟩
   have hlenA:(es++ys).length=es.length+ys.length:=qr
   have hrep:ARep (w.setRow b c') ⟨λ b' o=>(b'=b/\o=cap*ie.size)\/(b'≠b/\g.st b' o),λ i=>if i=k then some b else if (Nat.beq i k) then none else g.ow i⟩ (.stk k ie.size (es++ys)) (.slice (some ⟨b,0,none⟩) (es++ys).length cap):=by
    refine .stk G (setRow_heap w b c c' e0 (0,0) hb) hcs' O (λ x hx=>?_) (λ x hx c hc=>?_) (λ o=>?_) (λ i x j p hx hp=>?_)
    ·rcases List.mem_append.1 hx with hx|hx
     ·exact hszc x hx
     ·exact hszy x hx
    ·rcases List.mem_append.1 hx with hx|hx
     ·exact ET x hx c hc
     ·obtain ⟨i,hi⟩:=List.mem_iff_getElem?.1 hx;obtain ⟨j,hj⟩:=List.mem_iff_getElem?.1 hc;exact (hnews i x j c hi hj).1
    ·constructor
     ·rintro (⟨_,h⟩|⟨h,_⟩)
      ·exact h
      ·exact absurd Z h
     ·intro h; exact .inl ⟨rfl,h⟩
    ·have hjl:j<x.cells.length:=(List.getElem?_eq_some_iff.1 hp).1;rw [List.getElem?_append] at hx;split at hx
     ·rename_i hlt;rw [hszc x (List.mem_of_getElem? hx)] at hjl;have:=pj hlt hjl;obtain ⟨u,hu,hr⟩:=hr i x j p hx hp;exact ⟨u,by rw [hcell',if_neg O]; exact hu,hr.mono hEv⟩
     ·rename_i hge;rw [hszy x (List.mem_of_getElem? hx)] at hjl;have hil:i-es.length<ys.length:=(List.getElem?_eq_some_iff.1 hx).1;have:=pj hil hjl;obtain ⟨_,u,hu,hr⟩:=hnews (i-es.length) x j p hx hp
      have e1:i*ie.size+j=es.length*ie.size+((i-es.length)*ie.size+j):=by
       rw [<- Nat.add_assoc,<- n7]; congr 2; omega
      exact ⟨u,by rw [hcell',if_pos O,e1,Nat.add_sub_cancel_left]; exact hu,hr.mono hEv⟩
   rw [hlenA] at hrep;have hp:=hin.put (d:=some d) (λ t ht=>by cases ht; exact dg ▸ hn) hrep;unfold Oper.wp;rw [hrun0 _ _ hrr];simp only [Oper.upon,hd];exact ⟨_,_,hp,hK⟩
  ·have hle:es.length*ie.size<=c.toList.length:=by
    have e1:c.toList.length=cap*ie.size:=ur.trans ER;rw [e1]; exact ro _ hlenc
   have hlenT:(c.toList.take (es.length*ie.size)).length=es.length*ie.size:=by
    rw [sm]; omega
   have hold:(Builtin.firstCells ie.size es.length (.slice (some ⟨b,0,none⟩) es.length cap)).run C.P w.drew=.ok (c.toList.take (es.length*ie.size)).toArray w.drew:=by
    refine run_firstCells_some w.drew ie.size es.length ⟨b,0,none⟩ es.length cap _ hlenT (λ j v hv=>?_);rw [List.getElem?_take] at hv;split at hv
    ·rw [add_lit,th,World.cell?_drew];simp only [World.cell?,hb];simpa using hv
    ·cases hv
   obtain ⟨v,w',g',hr',hst'⟩:=tZ (es:=es) (k:=k) (λ i=>Nat.beq i k) hDl G hi EP hie hj hjk hy hY hszy hszc ET rfl h0' hzl' EK hlen' hs (some ⟨b,0,none⟩) cap (c.toList.take (es.length*ie.size))
    hold hlenT (λ i x j p hx hp=>by
     obtain ⟨u,hu,hr⟩:=hr i x j p hx hp;have hjl:j<x.cells.length:=(List.getElem?_eq_some_iff.1 hp).1;rw [hszc x (List.mem_of_getElem? hx)] at hjl;have:=pj (List.getElem?_eq_some_iff.1 hx).1 hjl
     exact ⟨u,by rw [List.getElem?_take,if_pos this]; simpa using hu,hr⟩) O o.type hn
   unfold Oper.wp;rw [hrun0 _ _ hr'];simp only [Oper.upon,hd];exact ⟨g',_,hst',hK⟩
def upK (tok sz n:Nat)(z:PV)(x:AV):AV:=match x with
 | .stk t s es=>bif Nat.beq t tok then (bif Nat.beq s sz then .stk t s (es.set n z) else .undef) else .stk t s es
 | x=>x.dem (Nat.beq · tok)
def BR (tok sz n:Nat)(z:PV):List AV->Option (List AV)
 | []=>some []
 | x::r=>(match frc (upK tok sz n z x) with
  | some y=>(match BR tok sz n z r with|some l=>some (y::l)|none=>none)
  | none=>none)
theorem yF {tok sz n:Nat}{z:PV}:∀ {l l':List AV},BR tok sz n z l=some l'->l'=l.map (upK tok sz n z)
 | [],l',h=>by cases h; rfl
 | x::r,l',h=>by
  unfold BR at h;split at h
  ·rename_i y hy;split at h
   ·rename_i m hm; cases h; rw [qt hy,yF hm]; rfl
   ·cases h
  ·cases h
def yv (tok sz n:Nat)(z:PV):List (Nat×List AV)->Option (List (Nat×List AV))
 | []=>some []
 | (i,cs)::r=>(match Nat.beq i tok with
  | true=>yv tok sz n z r
  | false=>(match BR tok sz n z cs with
   | some ds=>(match yv tok sz n z r with|some l=>some ((i,ds)::l)|none=>none)
   | none=>none))
theorem rz {tok sz n:Nat}{z:PV}:∀ {l l':List (Nat×List AV)},yv tok sz n z l=some l'->∀ id cs,look l' id=some cs->id≠tok/\∃ ds,look l id=some ds/\cs=ds.map (upK tok sz n z)
 | [],l',h,id,cs,hc=>by cases h; cases hc
 | (i,xs)::r,l',h,id,cs,hc=>by
  unfold yv at h;split at h
  ·rename_i hb;obtain ⟨h1,ds,h2,h3⟩:=rz h id cs hc;have hi:=cl hb;refine ⟨h1,ds,?_,h3⟩;rw [a6,if_neg (λ e'=>h1 O)];exact h2
  ·rename_i hb;have hi:i≠tok:=λ e=>by subst e; simp at hb
   split at h
   ·rename_i ds hds;split at h
    ·rename_i m hm
     cases h
     rw [a6] at hc ⊢;by_cases e1:i=id
     ·subst e1;rw [if_pos rfl] at hc ⊢
      cases hc
      exact ⟨hi,xs,Z,yF hds⟩
     ·rw [if_neg e1] at hc ⊢;exact rz hm id cs hc
    ·cases h
   ·cases h
theorem uL {z:PV}(hc:(AV.p z).cellsA=some (z.cells.map .p)){x:PV}(hx:x∈z.cells):x.one=true:=by
 have h9:PV.onesB z.cells=true\/z.one=true:=by
  cases z with
  | agg cs=>
   simp only [AV.cellsA] at hc
   cases ho:PV.onesB cs
   ·rw [ho] at hc; cases hc
   ·exact .inl ho
  | val _=>
   simp only [AV.cellsA] at hc;rename_i v0
   cases ho:v0.oneCell'
   ·rw [ho] at hc; cases hc
   ·exact .inr ho
  | slice _=>exact .inr Z
  | ifc=>exact .inr Z
  | aint _=>exact .inr Z
 rcases h9 with h9|h9
 ·exact ib h9 x hx
 ·have:z.cells=[z]:=by cases z <;> first|rfl|(simp [PV.one] at h9)
  rw [this] at hx;rw [List.mem_singleton.1 hx]; exact h9
theorem wY {t:TypeId}{x v:Operand}{i:TI}{tok sz n off:Nat}{es:List PV}{z:PV}{Y0z:AV}{sl':List (Nat×AV)}{ob':List (Nat×List AV)}(ho:o.op=.store t x v)(hd:o.dst=none)
  (hi:look C.tt t=some i) (hiz:i.size=sz) (hx:evo sl x=some (.ptr tok off)) (hoff:off=n*sz) (hq:∀ {g:Gh} {a:Act} {w:World},St C.n C.w0 C.F g ⟨sl,ob⟩ a w->∃ u,ARep w g (.stk tok sz es) u) (hn:n<es.length)
  (hv:evo sl v=some Y0z) (hY:Y0z.sub (.p z)) (hc:(AV.p z).cellsA=some (z.cells.map .p)) (hcl:Nat.beq z.cells.length sz=true) (htok:Nat.blt tok M1=true)
  (h1:sl'=sl.map λ p=>(p.1,upK tok sz n z p.2)) (h2:yv tok sz n z ob=some ob') (hK:K ⟨sl',ob'⟩):ba C o K ⟨sl,ob⟩:=by
 subst hiz h1 hoff;have htl:tok<M1:=dg ▸ htok;have hcl':=cl hcl;intro g a w hs;have h5:=bu hs hx;have h6:ARep w g (.p z) (a.eval v):=hY _ _ _ (bu hs hv);obtain ⟨vq,h7⟩:=hq hs;obtain ⟨hs1,hs2⟩:=kr hc h6;rw [d3] at hs1;generalize EN:a.eval x=u at h5
 cases h5 with
 | ptr how=>
 rename_i b
 cases h7 with
 | stkn=>simp at hn
 | stke=>simp at hn
 | stk how0 k2 ER EK EH ET ES hr=>
  rename_i b0 cap c e;rw [how] at how0; cases how0;obtain ⟨p,hpd⟩:∃ p,p=n*i.size:=⟨_,rfl⟩
  rw [<- hpd] at EN
  have hp:p+i.size<=c.size:=by
   have:=ro i.size (show n+1<=cap by omega);rw [n7,Nat.one_mul] at this;rw [hpd,ER]; exact this
  have hone1:∀ u∈(a.eval v).cells.toList,u.oneCell'=true:=by
   intro u hu;obtain ⟨j,hj,rfl⟩:=List.getElem_of_mem hu;simp only [ur] at hj;exact (hs2 j ((z.cells.map AV.p)[j]'(by simp; omega)) _ (List.getElem?_eq_getElem (by simp; omega)) (by simp [hj])).2
  have hstc:=run_storeCells_at C.P b p e (a.eval v).cells.toList 0 c w k2 (by simp; omega) hone1;simp only [Nat.add_zero,ur] at hstc;obtain ⟨c',hc'⟩:∃ c',c'=(c.toList.take p++(a.eval v).cells.toList++c.toList.drop (p+(a.eval v).cells.size)).toArray:=⟨_,rfl⟩
  rw [<- hc'] at hstc;have hsz':=run_sizeOf C.good hi w;have E2:(a.eval v).cells.size=i.size:=hs1.trans hcl';unfold Oper.wp
  have hrun:(execOp a.eval o).run C.P w=.ok .skip (w.setRow b c'):=by
   simp [execOp,ho,EN,Instr.storeAt,Instr.sureAddr,storeVar,hsz',E2,hstc]
  rw [hrun];simp only [Oper.upon,hd,Act.put]
  have EM:∀ j,c'[j]? = if p<=j/\j<p+i.size then (a.eval v).cells[j-p]? else c[j]?:=by
   intro j;rw [hc'];have:=iy c.toList (a.eval v).cells.toList p (by simp; omega) j;simp only [ur,Array.getElem?_toList,E2] at this;simpa [E2] using this
  have hsize':c'.size=c.size:=by
   rw [hc']; simp; omega
  have hev':Ev w g.st (w.setRow b c') g.st:=by
   intro b2 o2 h2;by_cases e1:b2=b
   ·subst e1;have:=(ES o2).1 h2;refine ⟨h2,?_⟩;simp only [World.cell?,k2,setRow_heap w b2 c c' e (0,0) k2];have h7:=EM o2;rw [if_neg O] at h7;simpa using h7
   ·exact ⟨h2,by simp only [World.cell?,setRow_other w b b2 c' e1]⟩
  have IT:∀ id b2,Nat.beq id tok=false->g.ow id=some b2->b2≠b:=λ id b2 hD h e=>by
   subst e;have:=hs.inj id tok b2 h how;subst this;simp at hD
  have hE:EvO (Nat.beq · tok) w g (w.setRow b c') g:=by
   refine ⟨hev',λ id b2 _ h=>h,λ id b2 c2 e2 hD h h2=>⟨c2,(setRow_other w b b2 c' (IT id b2 hD h)).trans h2,Z⟩,λ id b2 o2 hD h h3=>h3,λ id b2 es2 k2' hD h h2=>(setRow_other w b b2 c' (IT id b2 hD h)).trans h2,λ i hi=>?_,λ id b2 o2 hD h _=>setRow_other w b b2 c' (IT id b2 hD h)⟩
   cases hq:Nat.beq i tok
   ·rfl
   ·have:=cl hq; have:=si hi; omega
  have hup:∀ {y:AV} {u:Value},ARep w g y u->ARep (w.setRow b c') g (upK tok i.size n z y) u:=by
   intro y u h;unfold upK;split
   ·rename_i t s es1
    cases hq:Nat.beq t tok
    ·have:=h.dem hE;simpa [AV.dem,hq] using this
    ·have e1:=cl hq;subst e1;simp only [cond_true]
     cases hq2:Nat.beq s i.size
     ·exact .undef _
     ·have e2:=cl hq2;subst e2;simp only [cond_true]
      cases h with
      | stkn=>exact .stkn _ _
      | stke=>exact .stke _ _ _
      | stk how2 hb2 hcs2 hlen2 hsz2 hone2 hst2 hr2=>
       rename_i b2 cap2 c2 e2;rw [how] at how2; cases how2;rw [k2] at hb2; cases hb2;have hl:(es1.set n z).length=es1.length:=List.length_set;rw [<- hl];refine .stk how (setRow_heap w b c c' e (0,0) k2) (hsize'.trans hcs2) O (λ x hx=>?_) (λ x hx y hy=>?_) hst2 (λ k x j p1 hx hp1=>?_)
       ·rcases List.mem_or_eq_of_mem_set hx with hx|rfl
        ·exact hsz2 x hx
        ·exact hcl'
       ·rcases List.mem_or_eq_of_mem_set hx with hx|rfl
        ·exact hone2 x hx y hy
        ·exact uL hc hy
       ·rw [List.getElem?_set] at hx;split at hx
        ·rename_i hnk;subst hnk;split at hx
         ·simp only [bt] at hx;subst hx;have hjl:j<z.cells.length:=(List.getElem?_eq_some_iff.1 hp1).1;have hjc:j<(a.eval v).cells.size:=by omega
          have h8:=hs2 j (.p p1) _ (by simp [hp1]) (Array.getElem?_eq_getElem hjc);refine ⟨(a.eval v).cells[j],?_,?_⟩
          ·rw [EM,<- hpd,if_pos ⟨by omega,by omega⟩];rw [show p+j-p=j by omega];exact Array.getElem?_eq_getElem hjc
          ·cases h8.1 with
           | p hr=>exact hr.mono hev'
         ·cases hx
        ·rename_i hnk;obtain ⟨u,hu,hrr⟩:=hr2 k x j p1 hx hp1;have hjl:j<i.size:=by rw [<- hsz2 x (List.mem_of_getElem? hx)]; exact (List.getElem?_eq_some_iff.1 hp1).1
         refine ⟨u,?_,hrr.mono hev'⟩;rw [EM,if_neg ?_]
         ·exact hu
         ·rw [hpd];rcases Nat.lt_or_gt_of_ne hnk with h9|h9
          ·have:=ro i.size (show n+1<=k from h9);rw [n7,Nat.one_mul] at this; omega
          ·have:=ro i.size (show k+1<=n from h9);rw [n7,Nat.one_mul] at this; omega
   ·exact h.dem hE
  refine ⟨g,⟨sl.map λ p=>(p.1,upK tok i.size n z p.2),ob'⟩,?_,hK⟩;refine ⟨hs.nd,hs.sz,λ j=>?_,λ id' cs' h'=>?_,hs.inj,λ j b2 h=>?_,λ b2 o2 h=>?_,hs.fl,λ b2 h=>?_,hs.os,hs.out,hs.tape,?_,hs.stf,hs.owf,hs.shf.next (λ _ b c e _ _ h=>(nM k2 hsize').1 b c e h),hs.nst,hs.ev0.trans hev'⟩
  ·have h:=hs.sl j;simp only [AS.get,gQ];simp only [AS.get] at h
   cases hl:look sl j with
   | none=>simp only [Option.map_none,Option.getD_none]; exact .undef _
   | some x=>rw [hl] at h; simpa using hup h
  ·obtain ⟨hne',ds,m1,rfl⟩:=rz h2 id' cs' h';obtain ⟨b2,c2,e2,n1,n2,n3,n4,n5⟩:=hs.ob id' ds m1
   have hD:Nat.beq id' tok=false:=by
    cases hq:Nat.beq id' tok
    ·rfl
    ·exact absurd (cl hq) hne'
   have hb2:=IT id' b2 hD n1;refine ⟨b2,c2,e2,n1,(setRow_other w b b2 c' hb2).trans n2,by simpa using n3,n4,λ j y hy=>?_⟩;simp only [List.getElem?_map,mv] at hy;obtain ⟨y0,hy0,rfl⟩:=hy;obtain ⟨u,hu,hr⟩:=n5 j y0 hy0;exact ⟨u,hu,hup hr⟩
  ·have:=hs.own j b2 h; exact ⟨by simpa using this.1,this.2⟩
  ·have:=hs.lt b2 o2 h; simpa using this
  ·have E2:b2≠b:=λ e=>(hs.own tok b how).2 (e ▸ h);exact (setRow_other w b b2 c' E2).trans (hs.fr b2 h)
  ·have:=hs.size; simpa using this
theorem A3 {q tok sz:Nat}{es:List PV}(hq:look sl q=some (.stk tok sz es)){g:Gh}{a:Act}{w:World}(hs:St C.n C.w0 C.F g ⟨sl,ob⟩ a w):∃ u,ARep w g (.stk tok sz es) u:=by
 have h7:=hs.sl q;simp only [AS.get,hq,n8] at h7;exact ⟨_,h7⟩
theorem s8 {t e:TypeId}{x y:Operand}{i ie:TI}{k:IntKind}{n:Int}{id sz:Nat}{es:List PV}(ho:o.op=.indexAddr t x y)(hd:o.dst=some d)(hn:Nat.blt d C.n=true)
  (hi:look C.tt t=some i) (EP:i.k=.slice e) (hie:look C.tt e=some ie) (hx:evo sl x=some (.stk id sz es))
  (hy:evo sl y=some (.p (.val (.int k n)))) (EH:ie.size=sz) (hb:0<=n/\n<(es.length:Int))
  (hK:K ⟨(d,.ptr id (n.toNat*sz))::sl,ob⟩):ba C o K ⟨sl,ob⟩:=by
 obtain ⟨u,h1,h2⟩:=bF C.good hi;have h3:=bJ (h2.trans EP);subst h3;refine ok_one hd hn (λ g a w hs=>?_) hK;have h5:=bu hs hx;generalize hv:a.eval x=v at h5
 cases h5 with
 | stkn=>simp at hb; omega
 | stke=>simp at hb; omega
 | stk how hb' ER hlenc hszc ET ES hr=>
  rename_i b cap c e';exact ⟨.pointer (some ⟨b,n.toNat*sz,none⟩),by simp [execOp,ho,hv,ce hs hy,Instr.indexAt,asIntOf,run_underlying h1,hb.1,hb.2,run_sizeOf C.good hie,EH,add_lit],.ptr how⟩
theorem BJ {id sz:Nat}{es:List PV}{q:Nat}{sl':List (Nat×AV)}{ob':List (Nat×List AV)}(hid:id<M1)(hq:look sl q=some (.stk id sz es))(h1:dmS (Nat.beq · id) sl=some sl')(h2:dmO (Nat.beq · id) ob=some ob') :
  cB C ⟨sl,ob⟩ ⟨(q,.p (.slice es))::sl',ob'⟩:=by
 intro g a w hs;have h6:=hs.sl q;simp only [AS.get,hq,n8] at h6
 have drop:∀ (st':Nat->Nat->Prop),(∀ b o,g.st b o->st' b o)->(∀ i b,i≠id->g.ow i=some b->∀ o,st' b o->g.st b o)->(∀ b o,st' b o->b<w.heap.size)->(∀ b,C.F b->∀ o,st' b o↔g.st b o) ->
   St C.n C.w0 C.F ⟨st',λ i=>if i=id then none else g.ow i⟩ (co (Nat.beq · id) ⟨sl,ob⟩) a w:=by
  intro st' k1 k2 k3 k4;refine hs.evolve (Nat.beq · id) (rR hid) (λ b o h=>⟨k1 b o h,rfl⟩) (λ i b hD h=>?_) (λ i j b h1 h2=>?_) (λ i b h=>?_) k3 (λ b h=>rfl) Z Z Z (ld _) k4 (λ i hi=>?_)
  ·have E2:i≠id:=λ e=>by subst e; simp at hD
   exact ⟨by simp only [if_neg E2]; exact h,Z,k2 i b E2 h⟩
  ·dsimp only at h1 h2;split at h1
   ·cases h1
   ·split at h2
    ·cases h2
    ·exact hs.inj i j b h1 h2
  ·dsimp only at h;split at h
   ·cases h
   ·exact hs.own i b h
  ·dsimp only; rw [if_neg O]
 obtain ⟨g',hs',hrep⟩:∃ g',St C.n C.w0 C.F g' (co (Nat.beq · id) ⟨sl,ob⟩) a w/\ARep w g' (.p (.slice es)) (a.tmps.getD q Go.undef):=by
  generalize a.tmps.getD q Go.undef=vq at h6
  cases h6 with
  | stkn=>exact ⟨_,drop g.st (λ _ _ h=>h) (λ _ _ _ _ _ h=>h) hs.lt (λ _ _ _=>Iff.rfl),.p .nils⟩
  | stke=>exact ⟨_,drop g.st (λ _ _ h=>h) (λ _ _ _ _ _ h=>h) hs.lt (λ _ _ _=>Iff.rfl),.p (.nile _)⟩
  | stk how hb ER EK EH ET ES hr=>
   rename_i b cap c e;have hown:=hs.own id b how;refine ⟨_,drop (λ b' o=>g.st b' o\/(b'=b/\o<es.length*sz)) (λ _ _ h=>.inl h) (λ i b' E2 h o h2=>?_) (λ b' o h=>?_) (λ b' hF o=>?_),.p ?_⟩
   ·rcases h2 with h2|⟨h2,_⟩
    ·exact h2
    ·subst h2; exact absurd (hs.inj i id b' h how) E2
   ·rcases h with h|⟨h,_⟩
    ·exact hs.lt b' o h
    ·subst h; exact hown.1
   ·constructor
    ·rintro (h|⟨h,_⟩)
     ·exact h
     ·subst h; exact absurd hF hown.2
    ·exact .inl
   ·refine .slice sz (λ i j=>(c[i*sz+j]?).getD Go.undef) EK EH ET (λ i x j p hx hp=>?_) (λ i x j p hx hp=>?_)
    ·obtain ⟨v,h3,h4⟩:=hr i x j p hx hp;have hil:i<es.length:=(List.getElem?_eq_some_iff.1 hx).1;have hjl:j<sz:=by have:=(List.getElem?_eq_some_iff.1 hp).1; rw [EH x (List.mem_of_getElem? hx)] at this; exact this
     have:=pj hil hjl;refine ⟨.inr ⟨Z,by omega⟩,?_⟩;simp only [World.cell?,hb,th];rw [h3];simp
    ·obtain ⟨v,h3,h4⟩:=hr i x j p hx hp;rw [h3];exact h4.mono λ b o h=>⟨.inl h,rfl⟩
 refine ⟨g',?_⟩;rw [nA h1,mI h2];refine { hs' with sl:=λ i=>?_ };simp only [AS.get,a6];by_cases e:q=i
 ·subst e; rw [if_pos rfl]; exact hrep
 ·rw [if_neg e]; exact hs'.sl i
end
mutual
def AV.stl (tok:Nat):AV->AV|.stk t s es=>bif Nat.beq t tok then .p (.slice es) else .stk t s es|.agg cs=>.agg (AV.stlL tok cs)|x=>x.dem (Nat.beq · tok)
def AV.stlL (tok:Nat):List AV->List AV|[]=>[]|x::r=>x.stl tok::AV.stlL tok r
end
theorem yR (tok:Nat):∀ l:List AV,AV.stlL tok l=l.map (AV.stl tok)
 | []=>by rw [AV.stlL]; rfl
 | x::r=>by rw [AV.stlL,yR tok r]; rfl
theorem ARep.stl {tok:Nat}{w:World}{g g':Gh}(hE:EvO (Nat.beq · tok) w g w g')(hs:∀ b c e,g.ow tok=some b->w.heap[b]? = some (.cells c e (0,0))->∀ o,o<c.size->g'.st b o)
  {x:AV} {v:Value} (h:ARep w g x v):ARep w g' (x.stl tok) v:=by
 induction h with
 | agg hl h ih=>
  simp only [AV.stl,yR];refine .agg (by simpa using hl) λ i c v h1 h2=>?_;rw [List.getElem?_map] at h1;obtain ⟨x,hx,rfl⟩:=mv.1 h1;exact ih i x v hx h2
 | stkn t sz=>
  simp only [AV.stl]
  cases Nat.beq t tok
  ·exact .stkn _ _
  ·exact .p .nils
 | stke t sz a=>
  simp only [AV.stl]
  cases Nat.beq t tok
  ·exact .stke _ _ _
  ·exact .p (.nile _)
 | stk how hb ER EK EH ET ES hr=>
  rename_i t sz es b cap c e;have hd:=(ARep.stk how hb ER EK EH ET ES hr).dem hE;simp only [AV.stl];simp only [AV.dem] at hd
  cases hq:Nat.beq t tok
  ·rw [hq] at hd; exact hd
  ·have:=cl hq;subst this;refine .p (.slice sz (λ i j=>(c[i*sz+j]?).getD Go.undef) EK EH ET (λ i x j p hx hp=>?_) (λ i x j p hx hp=>?_))
   ·obtain ⟨v,h3,h4⟩:=hr i x j p hx hp;refine ⟨hs b c e how hb _ ?_,?_⟩
    ·have:=(Array.getElem?_eq_some_iff.1 h3).1;omega
    ·simp only [World.cell?,hb,th];rw [h3];simp
   ·obtain ⟨v,h3,h4⟩:=hr i x j p hx hp;rw [h3];exact h4.mono hE.ev
 | undef v=>exact (ARep.undef v).dem hE
 | p h=>exact (ARep.p h).dem hE
 | vecn a b c=>exact (ARep.vecn a b c).dem hE
 | vece a b c=>exact (ARep.vece a b c).dem hE
 | vec h1 h2 h3 h4 h5 h6 h7=>exact (ARep.vec h1 h2 h3 h4 h5 h6 h7).dem hE
 | arr h1 h2 h3 h4=>exact (ARep.arr h1 h2 h3 h4).dem hE
 | ptr h1=>exact (ARep.ptr h1).dem hE
 | bptrn h1 h2 h3=>exact (ARep.bptrn h1 h2 h3).dem hE
 | bptr h1 h2 h3=>exact (ARep.bptr h1 h2 h3).dem hE
 | rptr a h1 h2=>exact (ARep.rptr a h1 h2).dem hE
 | tuple hl h _=>exact (ARep.tuple hl h).dem hE
 | func hl h _=>exact (ARep.func hl h).dem hE
 | mp h1 h2 h3 h4 h5 h6=>exact (ARep.mp h1 h2 h3 h4 h5 h6).dem hE
 | mpr h1 h2 h3 h4 h5 h6 _=>exact (ARep.mpr h1 h2 h3 h4 h5 h6).dem hE
 | sem h1 h=>exact (ARep.sem h1 h).dem hE
 | it h1 h2 h3=>exact (ARep.it h1 h2 h3).dem hE
 | vecp h1 h2 h3 h4 h5 h6 h7 h8=>exact (ARep.vecp h1 h2 h3 h4 h5 h6 h7 h8).dem hE
 | elp h1 h2 h3 h4=>exact (ARep.elp h1 h2 h3 h4).dem hE
def B8 (tok:Nat):List AV->Option (List AV)
 | []=>some []
 | x::r=>(match frc (x.stl tok) with
  | some y=>(match B8 tok r with|some l=>some (y::l)|none=>none)
  | none=>none)
theorem y5 {tok:Nat}:∀ {l l':List AV},B8 tok l=some l'->l'=l.map (AV.stl tok)
 | [],l',h=>by cases h; rfl
 | x::r,l',h=>by
  unfold B8 at h;split at h
  ·rename_i y hy;split at h
   ·rename_i m hm; cases h; rw [qt hy,y5 hm]; rfl
   ·cases h
  ·cases h
def Cm (tok:Nat):List (Nat×AV)->Option (List (Nat×AV))
 | []=>some []
 | (i,x)::r=>(match frc (x.stl tok) with
  | some y=>(match Cm tok r with|some l=>some ((i,y)::l)|none=>none)
  | none=>none)
theorem yG {tok:Nat}:∀ {l l':List (Nat×AV)},Cm tok l=some l'->l'=l.map λ p=>(p.1,p.2.stl tok)
 | [],l',h=>by cases h; rfl
 | (i,x)::r,l',h=>by
  unfold Cm at h;split at h
  ·rename_i y hy;split at h
   ·rename_i m hm; cases h; rw [qt hy,yG hm]; rfl
   ·cases h
  ·cases h
def yi (tok:Nat):List (Nat×List AV)->Option (List (Nat×List AV))
 | []=>some []
 | (i,cs)::r=>(match Nat.beq i tok with
  | true=>yi tok r
  | false=>(match B8 tok cs with
   | some ds=>(match yi tok r with|some l=>some ((i,ds)::l)|none=>none)
   | none=>none))
theorem rM {tok:Nat}:∀ {l l':List (Nat×List AV)},yi tok l=some l'->∀ id cs,look l' id=some cs->id≠tok/\∃ ds,look l id=some ds/\cs=ds.map (AV.stl tok)
 | [],l',h,id,cs,hc=>by cases h; cases hc
 | (i,xs)::r,l',h,id,cs,hc=>by
  unfold yi at h;split at h
  ·rename_i hb;obtain ⟨h1,ds,h2,h3⟩:=rM h id cs hc;have hi:=cl hb;refine ⟨h1,ds,?_,h3⟩;rw [a6,if_neg (λ e'=>h1 O)];exact h2
  ·rename_i hb;have hi:i≠tok:=λ e=>by subst e; simp at hb
   split at h
   ·rename_i ds hds;split at h
    ·rename_i m hm
     cases h
     rw [a6] at hc ⊢;by_cases e1:i=id
     ·subst e1;rw [if_pos rfl] at hc ⊢
      cases hc
      exact ⟨hi,xs,Z,y5 hds⟩
     ·rw [if_neg e1] at hc ⊢;exact rM hm id cs hc
    ·cases h
   ·cases h
theorem tN {C:Cx}{sl sl':List (Nat×AV)}{ob ob':List (Nat×List AV)}(tok:Nat)(hid:Nat.blt tok M1=true)(h1:sl'=sl.map λ p=>(p.1,p.2.stl tok))(h2:yi tok ob=some ob') :
  cB C ⟨sl,ob⟩ ⟨sl',ob'⟩:=by
 have hid':tok<M1:=dg ▸ hid;intro g a w hs;obtain ⟨st',hst'⟩:∃ st':Nat->Nat->Prop,∀ b o,st' b o↔g.st b o\/(g.ow tok=some b/\∃ c e,w.heap[b]? = some (.cells c e (0,0))/\o<c.size):=⟨_,λ _ _=>Iff.rfl⟩
 have k1:∀ b o,g.st b o->st' b o:=λ b o h=>(hst' b o).2 (.inl h)
 have k2:∀ i b,i≠tok->g.ow i=some b->∀ o,st' b o->g.st b o:=λ i b E2 h o h2=>by
  rcases (hst' b o).1 h2 with h3|⟨h3,_⟩
  ·exact h3
  ·exact absurd (hs.inj i tok b h h3) E2
 obtain ⟨g',hg',how'⟩:∃ g':Gh,g'.st=st'/\∀ i,g'.ow i=if i=tok then none else g.ow i:=⟨⟨st',λ i=>if i=tok then none else g.ow i⟩,rfl,λ _=>rfl⟩
 have hs':St C.n C.w0 C.F g' (co (Nat.beq · tok) ⟨sl,ob⟩) a w:=by
  refine hs.evolve (Nat.beq · tok) (rR hid') (λ b o h=>⟨by rw [hg']; exact k1 b o h,Z⟩) (λ i b hD h=>?_) (λ i j b h1 h2=>?_) (λ i b h=>?_) (λ b o h=>?_) (λ b h=>rfl) Z Z Z (ld _) (λ b hF o=>?_) (λ i hi=>?_)
  ·have E2:i≠tok:=λ e=>by subst e; simp at hD
   exact ⟨by rw [how',if_neg E2]; exact h,Z,by rw [hg']; exact k2 i b E2 h⟩
  ·rw [how'] at h1 h2;split at h1
   ·cases h1
   ·split at h2
    ·cases h2
    ·exact hs.inj i j b h1 h2
  ·rw [how'] at h;split at h
   ·cases h
   ·exact hs.own i b h
  ·rw [hg'] at h;rcases (hst' b o).1 h with h|⟨h,_⟩
   ·exact hs.lt b o h
   ·exact (hs.own tok b h).1
  ·rw [hg'];refine ⟨λ h=>?_,k1 b o⟩;rcases (hst' b o).1 h with h|⟨h,_⟩
   ·exact h
   ·exact absurd hF (hs.own tok b h).2
  ·rw [how',if_neg O]
 have hE:EvO (Nat.beq · tok) w g w g':=by
  refine ⟨λ b o h=>⟨by rw [hg']; exact k1 b o h,Z⟩,λ id b hD h=>?_,λ id b c e hD h hb=>⟨c,hb,Z⟩,λ id b o hD h h3=>?_,λ id b es k hD h hb=>hb,λ i hi=>?_,λ _ _ _ _ _ _=>rfl⟩
  ·have E2:id≠tok:=λ e=>by subst e; simp at hD
   rw [how',if_neg E2]; exact h
  ·have E2:id≠tok:=λ e=>by subst e; simp at hD
   rw [hg'] at h3;exact k2 id b E2 h o h3
  ·cases hq:Nat.beq i tok
   ·rfl
   ·have:=cl hq; have:=si hi; omega
 have hall:∀ b c e,g.ow tok=some b->w.heap[b]? = some (.cells c e (0,0))->∀ o,o<c.size->g'.st b o:=λ b c e h h2 o h3=>by
  rw [hg']; exact (hst' b o).2 (.inr ⟨h,c,e,h2,h3⟩)
 refine ⟨g',{ hs' with sl:=λ i=>?_,ob:=λ id cs hc=>?_ }⟩
 ·have h:=hs.sl i;rw [h1];simp only [AS.get,gQ];simp only [AS.get] at h
  cases hl:look sl i with
  | none=>simp only [Option.map_none,Option.getD_none]; exact .undef _
  | some x=>rw [hl] at h; simpa using h.stl hE hall
 ·obtain ⟨E2,ds,m1,rfl⟩:=rM h2 id cs hc;obtain ⟨b2,c2,e2,n1,n2,n3,n4,n5⟩:=hs.ob id ds m1;refine ⟨b2,c2,e2,by rw [how',if_neg E2]; exact n1,n2,by simpa using n3,λ o h3=>n4 o (k2 id b2 E2 n1 o (by rw [<- hg']; exact h3)),λ j y hy=>?_⟩;simp only [List.getElem?_map,mv] at hy;obtain ⟨y0,hy0,rfl⟩:=hy;obtain ⟨u,hu,hr⟩:=n5 j y0 hy0;exact ⟨u,hu,hr.stl hE hall⟩
theorem u0 {C:Cx}{sl sl':List (Nat×AV)}{ob ob':List (Nat×List AV)}(tok:Nat)(hid:Nat.blt tok M1=true)(h1:Cm tok sl=some sl')(h2:yi tok ob=some ob') :
  cB C ⟨sl,ob⟩ ⟨sl',ob'⟩:=tN tok hid (yG h1) h2
mutual
theorem rH (D:Nat->Bool)(tok:Nat)(h:D tok=true):∀ x:AV,(x.dem D).dem (Nat.beq · tok)=x.dem D
 | .undef=>by simp only [AV.dem]
 | .p _=>by simp only [AV.dem]
 | .agg cs=>by simp only [AV.dem]; rw [oh D tok h cs]
 | .tuple cs=>by simp only [AV.dem]; rw [oh D tok h cs]
 | .func f cs=>by simp only [AV.dem]; rw [oh D tok h cs]
 | .rptr _=>by simp only [AV.dem]
 | .sem ts R=>by
  cases hd:ts.any D
  ·have:ts.any (Nat.beq · tok)=false:=List.any_eq_false.2 λ t ht=>by
    have h1:=List.any_eq_false.1 hd t ht;intro h2;rw [cl h2] at h1;exact h1 h
   simp only [AV.dem,hd,cond_false,this]
  ·simp only [AV.dem,hd,cond_true]
 | .vec t _ _ _|.arr t _ _ _|.ptr t _|.bptr _ _ t|.mp t _|.mpr t _ _ _ _|.stk t _ _|.it t _ _|.vecp t _ _ _|.elp t _=>by
  cases hd:D t
  ·have:Nat.beq t tok=false:=by
    cases hb:Nat.beq t tok
    ·rfl
    ·rw [cl hb,h] at hd; cases hd
   simp only [AV.dem,hd,cond_false,this]
  ·simp only [AV.dem,hd,cond_true]
theorem oh (D:Nat->Bool)(tok:Nat)(h:D tok=true):∀ l:List AV,jW (Nat.beq · tok) (jW D l)=jW D l
 | []=>by simp only [jW]
 | x::r=>by simp only [jW]; rw [rH D tok h x,oh D tok h r]
end
mutual
theorem y8 (D:Nat->Bool)(tok:Nat)(h:D tok=true):∀ x:AV,(x.dem D).stl tok=x.dem D
 | .agg cs=>by simp only [AV.dem,AV.stl]; rw [wA D tok h cs]
 | .stk t s es=>by
  cases hd:D t
  ·have:Nat.beq t tok=false:=by
    cases hb:Nat.beq t tok
    ·rfl
    ·rw [cl hb,h] at hd; cases hd
   simp only [AV.dem,hd,cond_false,AV.stl,this]
  ·simp only [AV.dem,hd,cond_true,AV.stl]
 | .undef=>by simp only [AV.dem,AV.stl]
 | .p x=>by simp only [AV.dem,AV.stl]
 | .tuple cs=>by have:=rH D tok h (.tuple cs); simp only [AV.dem] at this; simp only [AV.dem,AV.stl]; exact this
 | .func f cs=>by have:=rH D tok h (.func f cs); simp only [AV.dem] at this; simp only [AV.dem,AV.stl]; exact this
 | .rptr _=>by simp only [AV.dem,AV.stl]
 | .sem ts R=>by
  cases hd:ts.any D
  ·have:ts.any (Nat.beq · tok)=false:=List.any_eq_false.2 λ t ht=>by
    have h1:=List.any_eq_false.1 hd t ht;intro h2;rw [cl h2] at h1;exact h1 h
   simp only [AV.dem,hd,cond_false,AV.stl,this]
  ·simp only [AV.dem,hd,cond_true,AV.stl]
 | .vec t _ _ _|.arr t _ _ _|.ptr t _|.bptr _ _ t|.mp t _|.mpr t _ _ _ _|.it t _ _|.vecp t _ _ _|.elp t _=>by
  cases hd:D t
  ·have:Nat.beq t tok=false:=by
    cases hb:Nat.beq t tok
    ·rfl
    ·rw [cl hb,h] at hd; cases hd
   simp only [AV.dem,hd,cond_false,AV.stl,this]
  ·simp only [AV.dem,hd,cond_true,AV.stl]
theorem wA (D:Nat->Bool)(tok:Nat)(h:D tok=true):∀ l:List AV,AV.stlL tok (jW D l)=jW D l
 | []=>by simp only [jW,AV.stlL]
 | x::r=>by simp only [jW,AV.stlL]; rw [y8 D tok h x,wA D tok h r]
end
section
variable {C:Cx} {o:Oper} {K:AS->Prop} {sl:List (Nat×AV)} {ob:List (Nat×List AV)} {d:Nat}
theorem kP {α:Type}(f:α->PV)(l:List α){t e:TypeId}{x y:Operand}{i ie:TI}{k:IntKind}{n:Int}{id sz:Nat}(ho:o.op=.indexAddr t x y)(hd:o.dst=some d)(hn:Nat.blt d C.n=true)
  (hi:look C.tt t=some i) (EP:i.k=.slice e) (hie:look C.tt e=some ie) (hx:evo sl x=some (.stk id sz (l.map f)))
  (hy:evo sl y=some (.p (.val (.int k n)))) (EH:ie.size=sz) (hb:0<=n/\n<(l.length:Int)) (hK:K ⟨(d,.ptr id (n.toNat*sz))::sl,ob⟩):ba C o K ⟨sl,ob⟩ :=
 s8 ho hd hn hi EP hie hx hy EH (by rw [d3]; exact hb) hK
def sy {α:Type}(l:List α)(n:Int)(y:α):List α:=l.set n.toNat y
theorem Cs {α:Type}(f:α->PV)(tok sz:Nat)(l:List α)(n:Int)(y:α):upK tok sz n.toNat (f y) (.stk tok sz (l.map f))=.stk tok sz ((sy l n y).map f):=by
 simp [upK,sy,List.map_set]
theorem xJ {α:Type}(f:α->PV)(l:List α)(y:α)(q:Nat){t:TypeId}{x v:Operand}{i:TI}{tok sz:Nat}{n:Int}{Y0z:AV}{sl':List (Nat×AV)}{ob':List (Nat×List AV)}(ho:o.op=.store t x v)(hd:o.dst=none)
  (hi:look C.tt t=some i) (hiz:i.size=sz) (hx:evo sl x=some (.ptr tok (n.toNat*sz))) (hq:look sl q=some (.stk tok sz (l.map f))) (hb:0<=n/\n<(l.length:Int))
  (hv:evo sl v=some Y0z) (hY:Y0z.sub (.p (f y))) (hc:(AV.p (f y)).cellsA=some ((f y).cells.map .p)) (hcl:Nat.beq (f y).cells.length sz=true) (htok:Nat.blt tok M1=true)
  (h1:sl'=sl.map λ p=>(p.1,upK tok sz n.toNat (f y) p.2)) (h2:yv tok sz n.toNat (f y) ob=some ob') (hK:K ⟨sl',ob'⟩):ba C o K ⟨sl,ob⟩ :=
 wY ho hd hi hiz hx Z (A3 hq) (by rw [d3]; omega) hv hY hc hcl htok h1 h2 hK
theorem tf {s0 s1 s2:AS}(h:∀ K':AS->Prop,K' s1->ba C o K' s0)(hg:cB C s1 s2)(hK:K s2):ba C o K s0:=by
 intro g a w hs;have h1:=h (λ s=>s=s1) rfl g a w hs;unfold Oper.wp at h1 ⊢;refine mc (λ a' w' hn=>?_) (λ _ _ _ h=>h) h1;obtain ⟨g',s',hs',rfl⟩:=hn;obtain ⟨g2,hs2⟩:=hg _ _ _ hs';exact ⟨g2,_,hs2,hK⟩
theorem uY {s s0:AS}{D:Nat->Bool}{x:AV}{ob1:List (Nat×List AV)}(tok:Nat)(h:∀ K':AS->Prop,K' ⟨(d,x)::(co D s).sl,ob1⟩->ba C o K' s0)(hid:Nat.blt tok M1=true)(hD:D tok=true)(hob:yi tok ob1=some ob1)
  (hK:K ⟨(d,x.stl tok)::(co D s).sl,ob1⟩):ba C o K s0:=by
 refine tf h (tN tok hid ?_ hob) hK;simp only [co,aq,List.map_map];congr 1;refine List.map_congr_left λ p _=>?_;simp only [Function.comp,y8 D tok hD]
theorem BU (tok sz n:Nat)(z:PV)(x:AV):upK tok sz n z x=x.dem (Nat.beq · tok)\/x.dem (Nat.beq · tok)=.undef:=by
 unfold upK;split
 ·rename_i t s es
  cases h:Nat.beq t tok
  ·left; simp only [AV.dem,h,cond_false]
  ·right; simp only [AV.dem,h,cond_true]
 ·exact .inl Z
end
def bor:AV->Option AV|.stk _ _ es=>some (.p (.slice es))|x=>x.mapA (λ _=>none)
def vR:List AV->Option (List AV)
 | []=>some []
 | x::r=>match bor x,vR r with
  | some y,some l=>some (y::l)
  | _,_=>none
theorem ze:∀ {l l':List AV},vR l=some l'->l.length=l'.length/\∀ (i:Nat) x y,l[i]? = some x->l'[i]? = some y->bor x=some y
 | [],l',h=>by simp only [vR,bt] at h; subst h; exact ⟨Z,by simp⟩
 | x::r,l',h=>by
  simp only [vR] at h;split at h
  ·rename_i y q hy hq
   cases h
   obtain ⟨h1,h2⟩:=ze hq;refine ⟨by simp [h1],λ i a b ha hb=>?_⟩
   cases i with
   | zero=>simp only [List.getElem?_cons_zero,bt] at ha hb; subst ha hb; exact hy
   | succ i=>simp only [List.getElem?_cons_succ] at ha hb; exact h2 i a b ha hb
  ·cases h
section
variable {C:Cx} {o:Oper} {K:AS->Prop} {sl:List (Nat×AV)} {ob:List (Nat×List AV)} {d:Nat}
def ub (w:World)(g:Gh)(l:List AV)(b o:Nat):Prop :=g.st b o\/((∃ tok sz es,.stk tok sz es∈l/\g.ow tok=some b)/\∃ c e,w.heap[b]? = some (.cells c e (0,0))/\o<c.size)
theorem B6 {w:World}{g:Gh}{l:List AV}{x y:AV}{v:Value}(hx:x∈l)(h:ARep w g x v)(hy:bor x=some y):ARep w ⟨ub w g l,λ _=>none⟩ y v:=by
 have hE:EvO (λ _=>false) w ⟨g.st,λ _=>none⟩ w ⟨ub w g l,λ _=>none⟩ :=
  ⟨λ b o h=>⟨.inl h,rfl⟩,(by intro _ _ _ h; cases h),(by intro _ _ _ _ _ h; cases h),(by intro _ _ _ _ h; cases h),(by intro _ _ _ _ _ h; cases h),λ _ _=>rfl,(by intro _ _ _ _ h; cases h)⟩
 by_cases hs:∃ tok sz es,x=.stk tok sz es
 ·obtain ⟨tok,sz,es,rfl⟩:=hs;simp only [bor,bt] at hy;subst hy
  cases h with
  | stkn=>exact .p .nils
  | stke=>exact .p (.nile _)
  | stk how hb ER EK EH ET ES hr=>
   rename_i b cap c e;refine .p (.slice sz (λ i j=>(c[i*sz+j]?).getD Go.undef) EK EH ET (λ i x j p hx' hp=>?_) (λ i x j p hx' hp=>?_))
   ·obtain ⟨v,h3,h4⟩:=hr i x j p hx' hp;refine ⟨.inr ⟨⟨_,_,_,hx,how⟩,c,e,hb,?_⟩,?_⟩
    ·have:=(Array.getElem?_eq_some_iff.1 h3).1;omega
    ·simp only [World.cell?,hb,th];rw [h3];simp
   ·obtain ⟨v,h3,h4⟩:=hr i x j p hx' hp;rw [h3];exact h4.mono hE.ev
 ·have hm:x.mapA (λ _=>none)=some y:=by
   cases x <;> first|exact hy|exact absurd ⟨_,_,_,rfl⟩ hs
  exact (kT (g:=g) (g':=⟨g.st,λ _=>none⟩) rfl (λ i j b h _=>by cases h) h hm).mono hE
theorem u6 {f:FuncId}{args:Array Operand}{ts:Array TypeId}{l l' q:List AV}{v0:Value}(hc:gv C.P f q (·=.p (.val v0)))(ho:o.op=.call { callee:=.value (.func f),args:=args,argTypes:=ts })
  (hd:o.dst=some d) (hn:Nat.blt d C.n=true) (hl:kx sl args.toList=some l) (hl':vR l=some l') (hq:nb l' q) (henter:∀ vs w,(callFunc f vs).run C.P w=.ok (.enter f vs) w)
  (hK:K ⟨(d,.p (.val v0))::sl,ob⟩):ba C o K ⟨sl,ob⟩:=by
 intro g a w hs;obtain ⟨a1,a2⟩:=jc hs _ l hl;obtain ⟨m1,m2⟩:=ze hl';obtain ⟨b1,b2⟩:=lm hq;have hEv:Ev w g.st w (ub w g l):=λ b o h=>⟨.inl h,rfl⟩
 have hok:Ok0 w (ub w g l):=by
  refine ⟨λ b o h=>?_,hs.ok0.gl.mono hEv⟩;rcases h with h|⟨_,c,e,h,_⟩
  ·exact hs.lt b o h
  ·exact (Array.getElem?_eq_some_iff.1 h).1
 have EK:=a1.symm.trans (m1.trans b1)
 have hcall:=hc w (ub w g l) (args.map a.eval) hok (by simpa using EK) (λ i c v hc hv=>by
  have hi':i<l'.length:=by have:=(List.getElem?_eq_some_iff.1 hc).1; omega
  have hi:i<l.length:=by omega
  have hv':(args.toList.map a.eval)[i]? = some v:=by rw [<- Array.toList_map]; simpa using hv
  have h1:=a2 i _ v (List.getElem?_eq_getElem hi) hv';have h2:=B6 (l:=l) (List.getElem_mem hi) h1 (m2 i _ _ (List.getElem?_eq_getElem hi) (List.getElem?_eq_getElem hi'))
  exact b2 i _ c (List.getElem?_eq_getElem hi') hc w _ v h2)
 unfold Oper.wp;have hrun:(execOp a.eval o).run C.P w=.ok (.enter f (args.map a.eval)) w:=by simp [execOp,ho,resolve,Act.eval,Deferred.ofValue,invoke,henter]
 rw [hrun];simp only [Oper.upon];refine hcall.mono λ e w' ⟨v,r,g',he,hR,hr,hA⟩=>?_;subst he;subst hR
 have hv:v=v0:=by
  cases hr with|p h=>cases h; rfl
 subst hv
 have hs':St C.n C.w0 C.F g ⟨sl,ob⟩ a w':=by
  refine hs.evolve0 (λ b o h=>?_) (λ id b h=>?_) hs.inj (λ i b h=>?_) (λ b o h=>?_) (λ b h=>?_) hA.os hA.out hA.tape hA.size (λ b hb o=>Iff.rfl) (λ _ _=>rfl)
  ·have hlt:=hs.lt b o h;exact ⟨h,by simp only [World.cell?,hA.fr b hlt]⟩
  ·have hlt:=(hs.own id b h).1;exact ⟨h,hA.fr b hlt,λ o ho=>ho⟩
  ·have:=hs.own i b h; have:=hA.size; exact ⟨by omega,(hs.own i b h).2⟩
  ·have:=hs.lt b o h; have:=hA.size; omega
  ·have:=hs.fl b h; have:=hs.size; exact hA.fr b O
 have hp:=hs'.put (d:=o.dst) (x:=.p (.val v)) (v:=v) (λ t ht=>by rw [hd] at ht; cases ht; exact dg ▸ hn) (.p (.val _));rw [hd] at hp;simp only;rw [hd];exact ⟨_,_,hp,hK⟩
theorem z8 {t:TypeId}{x:Operand}{i:TI}{id n off sz q:Nat}{es:List PV}{y:PV}(ho:o.op=.load t x)(hd:o.dst=some d)(hn:Nat.blt d C.n=true)
  (hi:look C.tt t=some i) (hia:i.k.isAgg=true) (hx:evo sl x=some (.ptr id off)) (hoff:off=n*sz) (hq:look sl q=some (.stk id sz es)) (EH:i.size=sz) (hy:es[n]? = some y)
  (hK:K ⟨(d,.p (.agg y.cells))::sl,ob⟩):ba C o K ⟨sl,ob⟩:=by
 subst hoff;refine ok_one hd hn (λ g a w hs=>?_) hK;have h5:=bu hs hx;generalize hv:a.eval x=v at h5
 cases h5 with
 | ptr how=>
  rename_i b;have h6:=hs.sl q;simp only [AS.get,hq,n8] at h6;generalize a.tmps.getD q Go.undef=vq at h6
  cases h6 with
  | stkn=>simp at hy
  | stke=>simp at hy
  | stk how2 hb ER EK hszc ET ES hr=>
   rename_i b2 cap c e;rw [how] at how2; cases how2;have hyl:=hszc y (List.mem_of_getElem? hy)
   have hc:∀ j,j<i.size->w.cell? ⟨b,n*sz+j,none⟩=some (c.getD (n*sz+j) Go.undef):=by
    intro j hj;have hj':j<y.cells.length:=by omega
    obtain ⟨u,hu,_⟩:=hr n y j _ hy (List.getElem?_eq_getElem hj');rw [mV hs hb,Array.getD_eq_getD_getElem?,hu]
    rfl
   have hld:=nu C.good hi hia (f:=λ j=>c.getD (n*sz+j) Go.undef) hc;refine ⟨.agg ((List.range i.size).map λ j=>c.getD (n*sz+j) Go.undef).toArray,by simp only [execOp,ho,hv,Instr.loadAt,Instr.sureAddr,Sem.run_bind,Sem.run_pure,Result.andThen_ok,hld],.p (.agg (by simp; omega) λ j y' v h1 h2=>?_)⟩;have hj:j<i.size:=by have:=(List.getElem?_eq_some_iff.1 h1).1; omega
   simp only [List.getElem?_toArray,List.getElem?_map,List.getElem?_range hj,Option.map_some,bt] at h2;subst h2;obtain ⟨u,hu,hr2⟩:=hr n y j y' hy h1;rw [Array.getD_eq_getD_getElem?,hu];exact hr2
theorem yg {t e:TypeId}{x:Operand}{hi:Option Operand}{id sz:Nat}{es:List PV}{h:Int}{i ie:TI}(ho:o.op=.slice t x none hi none)(hd:o.dst=some d)(hn:Nat.blt d C.n=true)
  (hi':look C.tt t=some i) (EP:i.k=.slice e) (hie:look C.tt e=some ie) (hx:evo sl x=some (.stk id sz es)) (hhi:hiI sl (es.length:Int) hi=some h)
  (hb:0<=h/\h<=es.length) (hK:K ⟨(d,.stk id sz (es.take h.toNat))::sl,ob⟩):ba C o K ⟨sl,ob⟩:=by
 obtain ⟨u,h1,h2⟩:=bF C.good hi';have h3:=bJ (h2.trans EP);subst h3;refine ok_one hd hn (λ g a w hs=>?_) hK;have hv:=bu hs hx;generalize hq:a.eval x=v at hv
 cases hv with
 | stkn=>
  simp only [List.length_nil] at hb hhi;have e2:h=0:=by omega
  subst e2;have e:=gT (P:=C.P) hs true 0 0 none hi (l:=0) rfl hhi O (ld _);refine ⟨.slice none 0 0,?_,by simpa using ARep.stkn _ _⟩;simp at e;simp [execOp,ho,hq,Instr.sliceAt,Instr.slice,run_underlying h1,e,run_sizeOf C.good hie]
 | stke=>
  rename_i a0;simp only [List.length_nil] at hb hhi;have e2:h=0:=by omega
  subst e2;have e:=gT (P:=C.P) hs true 0 0 none hi (l:=0) rfl hhi O (ld _);refine ⟨.slice (some a0) 0 0,?_,by simpa using ARep.stke _ _ a0⟩;simp at e;simp [execOp,ho,hq,Instr.sliceAt,Instr.slice,run_underlying h1,e,run_sizeOf C.good hie]
 | stk how hb2 ER EK hszc ET ES hr=>
  rename_i b cap c e0;have e:=gT (P:=C.P) hs true es.length cap none hi (l:=0) rfl hhi ⟨by omega,hb.1,by omega⟩ EK;have hlt:(es.take h.toNat).length=h.toNat:=by rw [sm]; omega
  refine ⟨.slice (some ⟨b,0,none⟩) (es.take h.toNat).length cap,?_,.stk how hb2 ER O (λ x hx=>hszc x (List.mem_of_mem_take hx)) (λ x hx=>ET x (List.mem_of_mem_take hx)) ES (λ i x j p hx hp=>?_)⟩
  ·simp at e;simp [execOp,ho,hq,Instr.sliceAt,Instr.slice,run_underlying h1,e,run_sizeOf C.good hie,add_lit,hlt]
   try omega
  ·rw [List.getElem?_take] at hx;split at hx
   ·exact hr i x j p hx hp
   ·cases hx
def CI (tok sz len k:Nat):World->Gh->Value->Prop:=λ _ g v=>(len=k/\∃ a c,v=.slice a 0 c)\/(k<len/\∃ b cap,g.ow tok=some b/\v=.slice (some ⟨b,k*sz,none⟩) (len-k) cap)
theorem vW {t e:TypeId}{x:Operand}{lo:Option Operand}{id sz:Nat}{es:List PV}{h:Int}{i ie:TI}(ho:o.op=.slice t x lo none none)(hd:o.dst=some d)(hn:Nat.blt d C.n=true)
  (hi':look C.tt t=some i) (EP:i.k=.slice e) (hie:look C.tt e=some ie) (EH:ie.size=sz) (hx:evo sl x=some (.stk id sz es)) (hlo:loI sl lo=some h)
  (hb:0<=h/\h<=es.length) (hK:K ⟨(d,.sem [id] (CI id sz es.length h.toNat))::sl,ob⟩):ba C o K ⟨sl,ob⟩:=by
 obtain ⟨u,h1,h2⟩:=bF C.good hi';have h3:=bJ (h2.trans EP);subst h3;refine ok_one hd hn (λ g a w hs=>?_) hK;have hv:=bu hs hx;generalize hq:a.eval x=v at hv
 cases hv with
 | stkn=>
  simp only [List.length_nil] at hb;have e2:h=0:=by omega
  subst e2;have e:=gT (P:=C.P) hs true 0 0 lo none (h:=0) hlo rfl O (ld _);refine ⟨.slice none 0 0,?_,.sem rfl λ w' g' _=>.inl ⟨rfl,_,_,rfl⟩⟩;simp at e;simp [execOp,ho,hq,Instr.sliceAt,Instr.slice,run_underlying h1,e,run_sizeOf C.good hie]
 | stke=>
  rename_i a0;simp only [List.length_nil] at hb;have e2:h=0:=by omega
  subst e2;have e:=gT (P:=C.P) hs true 0 0 lo none (h:=0) hlo rfl O (ld _);refine ⟨.slice (some a0) 0 0,?_,.sem rfl λ w' g' _=>.inl ⟨rfl,_,_,rfl⟩⟩;simp at e;simp [execOp,ho,hq,Instr.sliceAt,Instr.slice,run_underlying h1,e,run_sizeOf C.good hie]
 | stk how hb2 ER EK hszc ET ES hr=>
  rename_i b cap c e0;have e:=gT (P:=C.P) hs true es.length cap lo none (h:=(es.length:Int)) hlo rfl ⟨by omega,by omega,by omega⟩ EK;simp at e;by_cases hk:h.toNat=es.length
  ·refine ⟨.slice (if cap=h.toNat then some ⟨b,0,none⟩ else some ⟨b,h.toNat*sz,none⟩) 0 (cap-h.toNat),?_,.sem Z λ w' g' _=>.inl ⟨hk.symm,_,_,Z⟩⟩;simp [execOp,ho,hq,Instr.sliceAt,Instr.slice,run_underlying h1,e,run_sizeOf C.good hie,add_lit,EH,hk]
  ·have Hm:h.toNat<es.length:=by omega
   refine ⟨.slice (some ⟨b,h.toNat*sz,none⟩) (es.length-h.toNat) (cap-h.toNat),?_,.sem Z λ w' g' EN=>.inr ⟨Hm,b,_,EN.ow _ _ (List.mem_singleton.2 Z) how,Z⟩⟩;have hc:¬ (cap=h.toNat):=by omega
   simp [execOp,ho,hq,Instr.sliceAt,Instr.slice,run_underlying h1,e,run_sizeOf C.good hie,add_lit,EH,hc]
theorem vS {z:Array Value}{n i j:Nat}(hi:i<n)(hj:j<z.size):(Builtin.zeroCells z n)[i*z.size+j]? = z[j]?:=by
 have h1:i*z.size+j<n*z.size:=pj hi hj;unfold Builtin.zeroCells;rw [Array.getElem?_map,Array.getElem?_range,if_pos h1];have h2:(i*z.size+j)%z.size=j:=by rw [Nat.mul_comm,Nat.mul_add_mod,Nat.mod_eq_of_lt hj]
 simp only [Option.map_some,h2];rw [getElem!_pos z j hj,Array.getElem?_eq_getElem hj]
theorem oq:∀ {l:List Value},pH l=true->∀ v∈l,v.oneCell'=true
 | [],_,v,h=>by simp at h
 | x::r,h,v,hv=>by
  simp only [pH,ph] at h;rcases List.mem_cons.1 hv with rfl|hv
  ·exact h.1
  ·exact oq h.2 v hv
theorem yc {t e:TypeId}{x:Operand}{i ie:TI}{tok sz k q:Nat}{es:List PV}{sl':List (Nat×AV)}{ob':List (Nat×List AV)}(ho:o.op=.call { callee:=.builtin .clear,args:=#[x],argTypes:=#[t] })(hd:o.dst=none)
  (hi:look C.tt t=some i) (EP:i.k=.slice e) (hie:look C.tt e=some ie) (EH:ie.size=sz) (hzl:Nat.beq ie.zero.length ie.size=true) (hz1:pH ie.zero=true)
  (hx:evo sl x=some (.sem [tok] (CI tok sz es.length k))) (hq:look sl q=some (.stk tok sz es)) (hk:k<=es.length) (htok:Nat.blt tok M1=true)
  (h1:dmS (Nat.beq · tok) sl=some sl') (h2:dmO (Nat.beq · tok) ob=some ob')
  (hK:K ⟨(q,.stk tok sz (es.take k++List.replicate (es.length-k) (.agg (ie.zero.map .val))))::sl',ob'⟩):ba C o K ⟨sl,ob⟩:=by
 subst EH;have htl:tok<M1:=dg ▸ htok;have hzl':=cl hzl;obtain ⟨u1,u2,u3⟩:=bF C.good hi;have u4:=bJ (u3.trans EP);subst u4;intro g a w hs;have h5:=bu hs hx;have h6:=hs.sl q;simp only [AS.get,hq,n8] at h6;obtain ⟨z,hz,hzc⟩:=jX C.good hie w;have hzs:z.cells.size=ie.size:=by rw [<- ur,hzc,hzl']
 generalize EN:a.eval x=u at h5
 cases h5 with
 | sem ho1 hR=>
 have hR0:=hR w g (EvT.refl _ _ _);obtain ⟨vq,hvq⟩:∃ vq,vq=a.tmps.getD q Go.undef:=⟨_,rfl⟩
 rw [<- hvq] at h6
 have key:∀ (w':World) (vr:Value),(Builtin.clear_ #[t] o.type #[u]).run C.P w=.ok vr w'->w'.heap.size=w.heap.size->w'.os=w.os->w'.output=w.output->w'.tape=w.tape ->
   (∀ b2,g.ow tok≠some b2->w'.heap[b2]? = w.heap[b2]?)->Ev w g.st w' g.st->ARep w' g (.stk tok ie.size (es.take k++List.replicate (es.length-k) (.agg (ie.zero.map .val)))) vq ->
   o.wp C.P a w (λ a' w'=>∃ g' s',St C.n C.w0 C.F g' s' a' w'/\K s') (λ _ _ _=>False):=by
  intro w' vr hcl hsz' hos hout htape hoth hev' hrep
  have hrun:(execOp a.eval o).run C.P w=.ok (.value vr) w':=by
   unfold execOp;simp only [ho,resolve,invoke,builtin,Sem.run_bind,Sem.run_pure,Result.andThen_ok,List.map_toArray,aq,bx,EN,hcl]
  have IT:∀ id b2,Nat.beq id tok=false->g.ow id=some b2->g.ow tok≠some b2:=λ id b2 hD h e=>by
   have:=hs.inj id tok b2 h e;subst this;simp at hD
  have hS:=hs.evolve (w':=w') (g':=g) (Nat.beq · tok) (λ i h=>by rw [cl h]; exact htl) hev' (λ id b hD h=>⟨h,hoth b (IT id b hD h),λ o h=>h⟩) hs.inj
   (λ i b h=>by have:=hs.own i b h; exact ⟨by rw [hsz']; exact this.1,this.2⟩) (λ b o h=>by rw [hsz']; exact hs.lt b o h) (λ b h=>hoth b λ e=>(hs.own tok b e).2 h)
   hos hout htape (by rw [hsz']; exact ld _) (λ _ _ _=>Iff.rfl) (λ _ _=>rfl)
  unfold Oper.wp;rw [hrun];simp only [Oper.upon,hd,Act.put];have d1:=nA h1;have d2:=mI h2;subst d1 d2;refine ⟨g,⟨(q,.stk tok ie.size (es.take k++List.replicate (es.length-k) (.agg (ie.zero.map .val))))::(co (Nat.beq · tok) ⟨sl,ob⟩).sl,(co (Nat.beq · tok) ⟨sl,ob⟩).ob⟩,{ hS with sl:=λ j=>?_ },hK⟩;have h:=hS.sl j;simp only [AS.get,a6];by_cases e:q=j
  ·subst e;rw [hvq] at hrep;simpa using hrep
  ·rw [if_neg e];exact h
 rcases hR0 with ⟨Hm,a0,c0,rfl⟩|⟨Hm,b,cap,how,rfl⟩
 ·refine key w (.tuple #[]) ?_ Z Z Z Z (λ _ _=>rfl) (Ev.refl _ _) ?_
  ·cases a0 <;> simp [Builtin.clear_,run_underlying u2]
  ·rw [Hm,List.take_of_length_le O,Nat.sub_self,List.replicate_zero,List.append_nil];exact h6
 ·cases h6 with
  | stkn=>simp at Hm
  | stke=>simp at Hm
  | stk how2 hb ER EK hszc ET ES hr=>
   rename_i b2 cap2 c e2;rw [how] at how2; cases how2
   have hfit:k*ie.size+(es.length-k)*ie.size<=c.size:=by
    rw [<- n7,ER];exact ro _ O
   obtain ⟨zs,hzsd⟩:∃ zs,zs=(Builtin.zeroCells z.cells (es.length-k)).toList:=⟨_,rfl⟩
   have hzsl:zs.length=(es.length-k)*ie.size:=by rw [hzsd,ur,size_zeroCells,hzs]
   have hz1c:∀ v∈zs,v.oneCell'=true:=by
    intro v hv;rw [hzsd] at hv;simp only [Builtin.zeroCells,Array.toList_map,List.mem_map] at hv;obtain ⟨m,hm,rfl⟩:=hv;have hm':m<(es.length-k)*z.cells.size:=by simpa using hm
    have hpos:0<z.cells.size:=by
     rcases Nat.eq_zero_or_pos z.cells.size with h|h
     ·rw [h] at hm'; omega
     ·exact h
    have hml:=Nat.mod_lt m hpos;rw [getElem!_pos z.cells _ hml];exact oq hz1 _ (by rw [<- hzc,Array.mem_toList_iff]; exact Array.getElem_mem hml)
   have hstc:=run_storeCells_at C.P b (k*ie.size) e2 zs 0 c w hb (by rw [Nat.add_zero,hzsl]; exact hfit) hz1c;simp only [Nat.add_zero] at hstc;obtain ⟨c',hc'⟩:∃ c',c'=(c.toList.take (k*ie.size)++zs++c.toList.drop (k*ie.size+zs.length)).toArray:=⟨_,rfl⟩
   rw [<- hc'] at hstc
   have EM:∀ j,c'[j]? = if k*ie.size<=j/\j<k*ie.size+zs.length then zs[j-k*ie.size]? else c[j]?:=by
    intro j;rw [hc'];have:=iy c.toList zs (k*ie.size) (by rw [hzsl]; simpa using hfit) j;simpa using this
   have hsize':c'.size=c.size:=by
    rw [hc']; simp only [List.size_toArray,qr,sm,List.length_drop,ur,hzsl]; omega
   have hev':Ev w g.st (w.setRow b c') g.st:=by
    intro b2 o2 h2;by_cases e1:b2=b
    ·subst e1;have:=(ES o2).1 h2;refine ⟨h2,?_⟩;simp only [World.cell?,hb,setRow_heap w b2 c c' e2 (0,0) hb];have h7:=EM o2;rw [if_neg O] at h7;simpa using h7
    ·exact ⟨h2,by simp only [World.cell?,setRow_other w b b2 c' e1]⟩
   refine key (w.setRow b c') (.tuple #[]) ?_ G rfl Z Z (λ b2 hb2=>setRow_other w b b2 c' λ e=>hb2 (e ▸ how)) hev' ?_
   ·obtain ⟨m,hm⟩:∃ m,es.length-k=m+1:=⟨es.length-k-1,by omega⟩
    rw [hm] at hzsd ⊢;simp [Builtin.clear_,run_underlying u2,hz,<- hzsd,hstc]
   ·have hl:(es.take k++List.replicate (es.length-k) (PV.agg (ie.zero.map .val))).length=es.length:=by
     rw [qr,sm,List.length_replicate]; omega
    obtain ⟨fin,hfin⟩:∃ fin,fin=es.take k++List.replicate (es.length-k) (PV.agg (ie.zero.map .val)):=⟨_,rfl⟩
    rw [<- hfin] at hl ⊢
    have hmem:∀ x∈fin,x∈es\/x=PV.agg (ie.zero.map .val):=λ x hx=>by
     rw [hfin] at hx;rcases List.mem_append.1 hx with hx|hx
     ·exact .inl (List.mem_of_mem_take hx)
     ·exact .inr (List.mem_replicate.1 hx).2
    rw [<- hl];refine .stk how (setRow_heap w b c c' e2 (0,0) hb) (hsize'.trans ER) O (λ x hx=>?_) (λ x hx y hy=>?_) ES (λ m x j p hx hp=>?_)
    ·rcases hmem x hx with hx|rfl
     ·exact hszc x hx
     ·simpa [PV.cells] using hzl'
    ·rcases hmem x hx with hx|rfl
     ·exact ET x hx y hy
     ·simp only [PV.cells,List.mem_map] at hy;obtain ⟨v,hv,rfl⟩:=hy;exact oq hz1 v hv
    ·by_cases hmk:m<k
     ·rw [hfin,List.getElem?_append_left (by rw [sm]; omega),List.getElem?_take,if_pos hmk] at hx;obtain ⟨v,h3,h4⟩:=hr m x j p hx hp;have hjl:j<ie.size:=by rw [<- hszc x (List.mem_of_getElem? hx)]; exact (List.getElem?_eq_some_iff.1 hp).1
      refine ⟨v,?_,h4.mono hev'⟩;rw [EM,if_neg ?_]
      ·exact h3
      ·have:=ro ie.size (show m+1<=k from hmk);rw [n7,Nat.one_mul] at this; omega
     ·have hml:m<es.length:=by rw [<- hl]; exact (List.getElem?_eq_some_iff.1 hx).1
      rw [hfin,List.getElem?_append_right (by rw [sm]; omega)] at hx;have hx':=(List.mem_replicate.1 (List.mem_of_getElem? hx)).2;subst hx';simp only [PV.cells,List.getElem?_map,mv] at hp;obtain ⟨v,hv,rfl⟩:=hp;have hjl:j<ie.size:=by rw [<- hzl']; exact (List.getElem?_eq_some_iff.1 hv).1
      refine ⟨v,?_,.val _⟩;have h8:(m-k)*ie.size+j<(es.length-k)*ie.size:=pj O hjl
      have h9:k*ie.size+((m-k)*ie.size+j)=m*ie.size+j:=by
       rw [<- Nat.add_assoc,<- n7];congr 2;omega
      rw [EM,if_pos ⟨by omega,by rw [hzsl]; omega⟩,hzsd,Array.getElem?_toList,show m*ie.size+j-k*ie.size=(m-k)*ie.size+j by omega,<- hzs,vS O (by rw [hzs]; exact hjl),<- Array.getElem?_toList,hzc];exact hv
theorem vB {α:Type} [Inhabited α] (f:α->PV)(l:List α)(cs:α->List PV)(q:Nat){t:TypeId}{x:Operand}{i:TI}{id sz:Nat}{n:Int}(ho:o.op=.load t x)(hd:o.dst=some d)(hn:Nat.blt d C.n=true)
  (hi:look C.tt t=some i) (hia:i.k.isAgg=true) (hx:evo sl x=some (.ptr id (n.toNat*sz))) (hq:look sl q=some (.stk id sz (l.map f))) (EH:i.size=sz) (hb:0<=n/\n<(l.length:Int)) (ER:∀ x,(f x).cells=cs x)
  (hK:K ⟨(d,.p (.agg (cs (lat l n))))::sl,ob⟩):ba C o K ⟨sl,ob⟩:=by
 have hl:n.toNat<l.length:=by omega
 refine z8 (y:=f (lat l n)) ho hd hn hi hia hx Z hq EH ?_ (by rw [ER]; exact hK);rw [List.getElem?_map,List.getElem?_eq_getElem hl,lat,List.getD_eq_getElem?_getD,List.getElem?_eq_getElem hl]
 rfl
theorem rb {α:Type}(f:α->PV)(l:List α){t e:TypeId}{x:Operand}{lo:Option Operand}{id sz:Nat}{h:Int}{i ie:TI}(ho:o.op=.slice t x lo none none)(hd:o.dst=some d)(hn:Nat.blt d C.n=true)
  (hi':look C.tt t=some i) (EP:i.k=.slice e) (hie:look C.tt e=some ie) (EH:ie.size=sz) (hx:evo sl x=some (.stk id sz (l.map f))) (hlo:loI sl lo=some h)
  (hb:0<=h/\h<=(l.length:Int)) (hK:K ⟨(d,.sem [id] (CI id sz l.length h.toNat))::sl,ob⟩):ba C o K ⟨sl,ob⟩:=by
 refine vW ho hd hn hi' EP hie EH hx hlo (by rw [d3]; exact hb) ?_;rw [d3];exact hK
def zl {α:Type}(f:α->PV)(l:List α)(k:Nat)(z:PV):List PV:=(l.map f).take k++List.replicate (l.length-k) z
theorem uo {α:Type}(f:α->PV)(l:List α)(q:Nat){t e:TypeId}{x:Operand}{i ie:TI}{tok sz:Nat}{h:Int}{sl':List (Nat×AV)}{ob':List (Nat×List AV)}(ho:o.op=.call { callee:=.builtin .clear,args:=#[x],argTypes:=#[t] })(hd:o.dst=none)
  (hi:look C.tt t=some i) (EP:i.k=.slice e) (hie:look C.tt e=some ie) (EH:ie.size=sz) (hzl:Nat.beq ie.zero.length ie.size=true) (hz1:pH ie.zero=true)
  (hx:evo sl x=some (.sem [tok] (CI tok sz l.length h.toNat))) (hq:look sl q=some (.stk tok sz (l.map f))) (hb:0<=h/\h<=(l.length:Int)) (htok:Nat.blt tok M1=true)
  (h1:dmS (Nat.beq · tok) sl=some sl') (h2:dmO (Nat.beq · tok) ob=some ob') (hK:K ⟨(q,.stk tok sz (zl f l h.toNat (.agg (ie.zero.map .val))))::sl',ob'⟩):ba C o K ⟨sl,ob⟩:=by
 refine yc (es:=l.map f) (k:=h.toNat) ho hd hi EP hie EH hzl hz1 (by rw [d3]; exact hx) hq (by rw [d3]; omega) htok h1 h2 ?_;rw [d3];exact hK
theorem su {α:Type}(f:α->PV)(l:List α){z:PV}{t e:TypeId}{x:Operand}{hi:Option Operand}{id sz:Nat}{h:Int}{i ie:TI}(ho:o.op=.slice t x none hi none)(hd:o.dst=some d)(hn:Nat.blt d C.n=true)
  (hi':look C.tt t=some i) (EP:i.k=.slice e) (hie:look C.tt e=some ie) (hx:evo sl x=some (.stk id sz (zl f l h.toNat z))) (hhi:hiI sl (l.length:Int) hi=some h)
  (hb:0<=h/\h<=(l.length:Int)) (hK:K ⟨(d,.stk id sz ((sub l 0 h).map f))::sl,ob⟩):ba C o K ⟨sl,ob⟩:=by
 have hl:(zl f l h.toNat z).length=l.length:=by
  unfold zl;rw [qr,sm,d3,List.length_replicate];omega
 refine yg ho hd hn hi' EP hie hx (by rw [hl]; exact hhi) (by rw [hl]; exact hb) ?_
 have:(zl f l h.toNat z).take h.toNat=(sub l 0 h).map f:=by
  unfold zl;rw [List.take_append_of_le_length (by rw [sm,d3]; omega),List.take_take,Nat.min_self,<- List.map_take]
  rfl
 rw [this];exact hK
theorem rU {α:Type}(f:α->PV)(l:List α)(y:α)(q:Nat){t:TypeId}{x v:Operand}{i:TI}{tok sz:Nat}{n:Int}{Y0z:AV}{sl':List (Nat×AV)}{ob':List (Nat×List AV)}(ho:o.op=.store t x v)(hd:o.dst=none)
  (hi:look C.tt t=some i) (hiz:i.size=sz) (hx:evo sl x=some (.ptr tok (n.toNat*sz))) (hq:look sl q=some (.stk tok sz (l.map f))) (hb:0<=n/\n<(l.length:Int))
  (hv:evo sl v=some Y0z) (hY:Y0z.sub (.p (f y))) (hc:(AV.p (f y)).cellsA=some ((f y).cells.map .p)) (hcl:Nat.beq (f y).cells.length sz=true) (htok:Nat.blt tok M1=true)
  (h1:dmS (Nat.beq · tok) sl=some sl') (h2:yv tok sz n.toNat (f y) ob=some ob') (hK:K ⟨(q,.stk tok sz ((sy l n y).map f))::sl',ob'⟩):ba C o K ⟨sl,ob⟩:=by
 have d1:=nA h1;subst d1;refine tf (s1:=⟨sl.map λ p=>(p.1,upK tok sz n.toNat (f y) p.2),ob'⟩) (s2:=⟨(q,.stk tok sz ((sy l n y).map f))::sl.map λ p=>(p.1,p.2.dem (Nat.beq · tok)),ob'⟩) (λ K' h=>xJ f l y q ho hd hi hiz hx hq hb hv hY hc hcl htok rfl h2 h) (cb ⟨λ j x hx=>?_,λ id cs hc=>⟨cs,hc,ld _,λ i c d h1 h2=>by rw [h1] at h2; cases h2; exact AV.sub_refl _⟩⟩) hK;simp only [a6,gQ] at hx;simp only [AS.get,gQ];by_cases e:q=j
 ·subst e;simp only [if_pos,bt] at hx;subst hx;rw [hq,Option.map_some,n8,Cs];exact AV.sub_refl _
 ·rw [if_neg e] at hx;obtain ⟨z,hz,rfl⟩:=mv.1 hx;rw [hz,Option.map_some,n8];rcases BU tok sz n.toNat (f y) z with h|h
  ·rw [h]; exact AV.sub_refl _
  ·rw [h]; exact AV.sub_undef _
theorem wt:vR []=some []:=rfl
theorem pL {x y:AV}{r l:List AV}(h1:bor x=some y)(h2:vR r=some l):vR (x::r)=some (y::l):=by simp only [vR,h1,h2]
theorem wv {f:Fn}{cs l:List AV}(h:AV.mapA.go (λ _=>none) cs=some l):bor (.func f cs)=some (.func f l):=by simp only [bor,AV.mapA,h]
theorem vb {α:Type}(f:α->PV)(l0 l:List α){t tx e e':TypeId}{x y:Operand}(k:Nat){sz:Nat}{X Y0z:AV}{i ie j:TI}(ho:o.op=.call { callee:=.builtin .append,args:=#[x,y],argTypes:=#[t,tx] })(hd:o.dst=some d)(hn:Nat.blt d C.n=true)
  (hi:look C.tt t=some i) (EP:i.k=.slice e) (hie:look C.tt e=some ie) (hj:look C.tt tx=some j) (hjk:j.k=.slice e') (hx:evo sl x=some X) (hX:X.sub (.stk k sz (l0.map f))) (hk:Nat.blt k M1=true)
  (hy:evo sl y=some Y0z) (hY:Y0z.elems? = some (l.map f)) (EH:∀ x,(f x).cells.length=sz) (hys:0<l.length) (h1s:ie.size=sz) (h0:Nat.blt 0 sz=true) (hzl:Nat.beq ie.zero.length ie.size=true) (hby:Nat.blt 0 ie.bytes=true)
  (EK:(l0.length+l.length)*ie.bytes<=140737488355328)
  (hK:K ⟨(d,.stk k sz ((l0++l).map f))::(co (λ i=>Nat.beq i k) ⟨sl,ob⟩).sl,(co (λ i=>Nat.beq i k) ⟨sl,ob⟩).ob⟩):ba C o K ⟨sl,ob⟩:=by
 have hby':1<=ie.bytes:=Nat.succ_le_of_lt (by simpa using hby);have h3:(l0.length+l.length)*1<=(l0.length+l.length)*ie.bytes:=Nat.mul_le_mul_left _ hby';refine vP ho hd hn hi EP hie hj hjk hx hX hk hy hY (λ y hy=>?_) (by simpa using hys) h1s h0 hzl (by rw [d3,d3]; exact EK) (by rw [d3,d3]; omega) ?_
 ·obtain ⟨x,_,rfl⟩:=List.mem_map.1 hy;exact EH x
 ·rw [<- List.map_append];exact hK
theorem BE {s0:AS}{x y:AV}{rest:List (Nat×AV)}{ob1:List (Nat×List AV)}(h:∀ K':AS->Prop,K' ⟨(d,x)::rest,ob1⟩->ba C o K' s0)(hs:x.sub y)(hK:K ⟨(d,y)::rest,ob1⟩):ba C o K s0:=by
 refine tf (s2:=⟨(d,y)::rest,ob1⟩) h (cb ⟨λ j z hz=>?_,λ id cs hc=>⟨cs,hc,ld _,λ i c d h1 h2=>by rw [h1] at h2; cases h2; exact AV.sub_refl _⟩⟩) hK;simp only [a6] at hz;simp only [AS.get,a6];by_cases e:d=j
 ·rw [if_pos e] at hz ⊢
  cases hz
  exact hs
 ·rw [if_neg e] at hz ⊢;rw [hz];exact AV.sub_refl _
end
end Go.Ab
end
section
namespace Go.Ab.R06
open Go.Proofs Go.Ab Go.Ab.RB
attribute [local irreducible] awp gg ba aF aU AV.sub M cB
def dm (EC:aj):Option (au×aj) :=ck ((0:Int)<=EC.fat/\EC.fat<(EC.fl.length:Int))<|some ((lat EC.fl EC.fat),EC)
theorem dx (EC:aj)(r:au×aj)(h0:dm EC=some r):aU Tryz.prog 28 [.ptr 1000000 0] [(1000000,[.p (eL ax EC.fl),.p (eI EC.fat),.p (eI EC.AT.AI),.p (eI EC.AT.fAt),.p (eS EC.AT.By)])] (λ x y=>x=.p (.agg (au.cs r.1))/\y=[(1000000,[.p (eL ax r.2.fl),.p (eI r.2.fat),.p (eI r.2.AT.AI),.p (eI r.2.AT.fAt),.p (eS r.2.AT.By)])]):=by
 unfold dm at h0;refine bT good [] [1000000] Tryz.func28 Z Z Z Z Z λ w0 F=>mPo (λ v:au×aj=>.p (.agg (au.cs v.1))) (λ v=>[(1000000,[.p (eL ax v.2.fl),.p (eI v.2.fat),.p (eI v.2.AT.AI),.p (eI v.2.AT.fAt),.p (eS v.2.AT.By)])]) ?_;refine nx 5 Z (cc' h0 λ I0 h0=>?_);refine mG (gE (t:=⟨[(0,.ptr 1000000 0),(2,.ptr 2 0)],[(2,[.p (eI 0),.p (eS ([]:Bk)),.p (eI 0)]),(1000000,[.p (eL ax EC.fl),.p (eI EC.fat),.p (eI EC.AT.AI),.p (eI EC.AT.fAt),.p (eS EC.AT.By)])]⟩) Z Z) (mS ⟨1,[10],(λ _=>.none),(λ _=>[(0,.ptr 1000000 0),(2,.ptr 2 0)]),(by2 ([(2,[.p (eI 0),.p (eS ([]:Bk)),.p (eI 0)]),(1000000,[.p (eL ax EC.fl),.p (eI EC.fat),.p (eI EC.AT.AI),.p (eI EC.AT.fAt),.p (eS EC.AT.By)])]) ([(2,[.p (eI ((lat EC.fl EC.fat).AI)),.p (eS ((lat EC.fl EC.fat).Eh)),.p (eI ((lat EC.fl EC.fat).fAt))]),(2,[.p (eI 0),.p (eS ([]:Bk)),.p (eI 0)]),(1000000,[.p (eL ax EC.fl),.p (eI EC.fat),.p (eI EC.AT.AI),.p (eI EC.AT.fAt),.p (eS EC.AT.By)])]))⟩ Z Z Z ⟨Z,Z,trivial⟩ (lt1 ⟨Z,Z,trivial⟩) Z Z Z Z ?_);refine ap (λ _=>.ptr 1000000 0) Z Z Z (cF Z Y) (lt1 Z) (ai Z (af [(0,_)] ⟨.inl Z,trivial⟩ (λ sl Ey K hK=>ab Z (bM Z Z Z (Ey _ _ Z) hK)) ao)) (ap (λ _=>.ptr 1000000 0) Z Z Z (cF Z Y) (lt1 Z) (ai Z (af [(3,_)] ⟨.inr ⟨0,_,Z,Z,Z⟩,trivial⟩ (λ sl Ey K hK=>ab Z (bK Z Z Z (Ey _ _ Z) hK)) ao)) ?_);refine ap (λ _=>.ptr 1000000 0) Z Z Z (cF Z Y) (lt1 Z) (ai Z (af [(4,_)] ⟨.inr ⟨1,_,Z,Z,Z⟩,trivial⟩ (λ sl Ey K hK=>ab Z (aC Z Z Z Z Z Z Z Z (Ey _ _ Z) hK)) ao)) (ap (λ _=>.p (eL ax EC.fl)) Z Z Z (cF Z Y) (lt1 Z) (ai Z (af [(5,_)] ⟨.inr ⟨2,_,Z,Z,Z⟩,trivial⟩ (λ sl Ey K hK=>ab Z (bn Z Z Z Z Z (Ey _ _ Z) Z Z hK)) ao)) ?_);refine ap (λ _=>.ptr 1000000 0) Z Z Z (cF Z Y) (lt1 Z) (ai Z (af [(0,_)] ⟨.inl Z,trivial⟩ (λ sl Ey K hK=>ab Z (bM Z Z Z (Ey _ _ Z) hK)) ao)) (ap (λ _=>.ptr 1000000 0) Z Z Z (cF Z Y) (lt1 Z) (ai Z (af [(7,_)] ⟨.inr ⟨4,_,Z,Z,Z⟩,trivial⟩ (λ sl Ey K hK=>ab Z (bK Z Z Z (Ey _ _ Z) hK)) ao)) ?_);refine ap (λ _=>.ptr 1000000 1) Z Z Z (cF Z Y) (lt1 Z) (ai Z (af [(8,_)] ⟨.inr ⟨5,_,Z,Z,Z⟩,trivial⟩ (λ sl Ey K hK=>ab Z (aC Z Z Z Z Z Z Z Z (Ey _ _ Z) hK)) ao)) (ap (λ _=>.p (eI EC.fat)) Z Z Z (cF Z Y) (lt1 Z) (ai Z (af [(9,_)] ⟨.inr ⟨6,_,Z,Z,Z⟩,trivial⟩ (λ sl Ey K hK=>ab Z (bn Z Z Z Z Z (Ey _ _ Z) Z Z hK)) ao)) ?_);refine ap (λ _=>.rptr (au.cs (lat EC.fl EC.fat))) Z Z Z (cF Z Y) (lt1 Z) (ai Z (af [(6,_),(10,_)] ⟨.inr ⟨3,_,Z,Z,Z⟩,.inr ⟨7,_,Z,Z,Z⟩,trivial⟩ (λ sl Ey K hK=>ab Z (cT (f:=ax) (l:=EC.fl) au.cs Z Z Z Z Z Z (Ey _ _ Z) Z (Ey _ _ Z) I0 au.BY Y hK)) ao)) (ap (λ _=>.p (.agg (au.cs (lat EC.fl EC.fat)))) Z Z Z (cF Z Y) (lt1 Z) (ai Z (af [(11,_)] ⟨.inr ⟨8,_,Z,Z,Z⟩,trivial⟩ (λ sl Ey K hK=>ab Z (lk Z Z Z Z Z (Ey _ _ Z) Z hK)) ao)) ?_);refine dj [(2,_),(12,_)] Z ⟨.inl Z,.inr ⟨9,_,Z,Z,Z⟩,trivial⟩ Z (λ sl Ey K hK=>ab Z (em Z Z Z (Ey _ _ Z) (Ey _ _ Z) Z Z Z (n6 Z) hK)) (cC ?_);exact nx 2 Z (mQo (oi h0) (ay _) Z Z Z Z (sr) ⟨⟨_,Z,⟨sr,sr,sr,sr,sr,trivial⟩⟩,trivial⟩)
def eq:Nat->(List au)->Int->Int->Int->Bk->Option ((List au)×Int×Int×Int×Bk)|0,_,_,_,_,_=>none|m+1,I4,f11,f12,GA,JA=>(dm (aj.mk I4 f11 (aE.mk f12 GA JA))).bind λ EV=>if EV.1.AI=5 then ck (inR (EV.2.fat+1))<|eq m EV.2.fl (EV.2.fat+1) EV.2.AT.AI EV.2.AT.fAt EV.2.AT.By else some (EV.2.fl,EV.2.fat,EV.2.AT.AI,EV.2.AT.fAt,EV.2.AT.By)
def gI (n:Nat)(EC:aj):Option (Bool×aj) :=(eq n EC.fl EC.fat EC.AT.AI EC.AT.fAt EC.AT.By).bind λ Kt=>some (decide (EC.fat<Kt.2.1),(aj.mk Kt.1 Kt.2.1 (aE.mk Kt.2.2.1 Kt.2.2.2.1 Kt.2.2.2.2)))
theorem ks (n:Nat)(EC:aj)(r:Bool×aj)(h0:gI n EC=some r):aU Tryz.prog 51 [.ptr 1000000 0] [(1000000,[.p (eL ax EC.fl),.p (eI EC.fat),.p (eI EC.AT.AI),.p (eI EC.AT.fAt),.p (eS EC.AT.By)])] (λ x y=>x=.p (eB r.1)/\y=[(1000000,[.p (eL ax r.2.fl),.p (eI r.2.fat),.p (eI r.2.AT.AI),.p (eI r.2.AT.fAt),.p (eS r.2.AT.By)])]):=by
 unfold gI at h0;refine bT good [] [1000000] Tryz.func51 Z Z Z Z Z λ w0 F=>mPo (λ v:Bool×aj=>.p (eB v.1)) (λ v=>[(1000000,[.p (eL ax v.2.fl),.p (eI v.2.fat),.p (eI v.2.AT.AI),.p (eI v.2.AT.fAt),.p (eS v.2.AT.By)])]) ?_;refine nx 14 Z (bd h0 λ Kw h1 h0=>?_);refine kE 0 Kw (λ IE=>⟨[(0,.ptr 1000000 0),(3,.p (eI EC.fat))],[(1000000,[.p (eL ax IE.1),.p (eI IE.2.1),.p (eI IE.2.2.1),.p (eI IE.2.2.2.1),.p (eS IE.2.2.2.2)])]⟩) ?_ ?_
 ·exact nx 12 Z (mQo (oi h0) (ay _) Z Z Z Z (sr) ⟨⟨_,Z,⟨sr,sr,sr,sr,sr,trivial⟩⟩,trivial⟩)
 refine lG (λ (JJ:(List au)×Int×Int×Int×Bk)=>⟨[(0,.ptr 1000000 0),(3,.p (eI EC.fat))],[(1000000,[.p (eL ax JJ.1),.p (eI JJ.2.1),.p (eI JJ.2.2.1),.p (eI JJ.2.2.2.1),.p (eS JJ.2.2.2.2)])]⟩) (λ m (JJ:(List au)×Int×Int×Int×Bk)=>eq m JJ.1 JJ.2.1 JJ.2.2.1 JJ.2.2.2.1 JJ.2.2.2.2) Y (EC.fl,EC.fat,EC.AT.AI,EC.AT.fAt,EC.AT.By) h1 (gE rfl rfl) ?_;rintro m ⟨I4,f11,f12,GA,JA⟩ h1;replace h1:eq (m+1) I4 f11 f12 GA JA=some Kw:=h1;rw [eq] at h1;refine nx 4 rfl (bd h1 λ EV Jr h1=>?_);refine mO rfl (aQ [1000000] [] 102000 102000 (dx (aj.mk I4 f11 (aE.mk f12 GA JA)) _ Jr) rfl rfl rfl rfl rfl ⟨sr,trivial⟩ rfl rfl ⟨⟨_,rfl,⟨sr,sr,sr,sr,sr,trivial⟩⟩,trivial⟩ rfl rfl rfl rfl rfl rfl rfl rfl Tryz.call28 rfl rfl ?_);refine nx 3 rfl (fD [11] h1 rfl (λ Fc h1=>?_) λ Fc h1=>?_)
 ·refine nx 8 Z (oA h1 Z Z λ Hg h1=>?_);exact nx 4 Z (eX (EV.2.fl,EV.2.fat+1,EV.2.AT.AI,EV.2.AT.fAt,EV.2.AT.By) h1 (gE Z Z))
 exact nx 2 Z (eXi _ (oi h1).symm (gE Z Z))
def g9 (EC:aj)(s_1:Bk):Option (Bool×aj) :=(dm EC).bind λ r1=>(if r1.1.AI=4 then some (decide (r1.1.Eh=s_1))else some false : Option Bool).bind λ t4=>some (t4,r1.2)
theorem jL (EC:aj)(s_1:Bk)(r:Bool×aj)(h0:g9 EC s_1=some r):aU Tryz.prog 52 [.ptr 1000000 0,.p (eS s_1)] [(1000000,[.p (eL ax EC.fl),.p (eI EC.fat),.p (eI EC.AT.AI),.p (eI EC.AT.fAt),.p (eS EC.AT.By)])] (λ x y=>x=.p (eB r.1)/\y=[(1000000,[.p (eL ax r.2.fl),.p (eI r.2.fat),.p (eI r.2.AT.AI),.p (eI r.2.AT.fAt),.p (eS r.2.AT.By)])]):=by
 unfold g9 at h0;refine bT good [] [1000000] Tryz.func52 Z Z Z Z Z λ w0 F=>mPo (λ v:Bool×aj=>.p (eB v.1)) (λ v=>[(1000000,[.p (eL ax v.2.fl),.p (eI v.2.fat),.p (eI v.2.AT.AI),.p (eI v.2.AT.fAt),.p (eS v.2.AT.By)])]) ?_;refine nx 7 Z (bd h0 λ r1 e2 h0=>?_);refine mO Z (aQ [1000000] [] 101000 101000 (dx EC _ e2) Z Z Z Z Z ⟨sr,trivial⟩ Z Z ⟨⟨_,Z,⟨sr,sr,sr,sr,sr,trivial⟩⟩,trivial⟩ Z Z Z Z Z Z Z Z Tryz.call28 Z Z ?_);refine nx 4 Z (bd h0 λ o6 h1 h0=>?_);refine kN o6 (λ v7=>⟨[(4,.p (eB v7))],[(1000000,(aj.cs r1.2).map .p)]⟩) ?_ ?_
 ·exact nx 2 Z (mQo (oi h0) (ay _) Z Z Z Z (sr) ⟨⟨_,Z,⟨sr,sr,sr,sr,sr,trivial⟩⟩,trivial⟩)
 refine nx 5 Z (fD [10,11] h1 Z (λ c3 h1=>?_) λ c3 h1=>?_)
 ·refine nx 3 Z (oS Z Z ?_);exact nx 3 Z (eX _ (oi h1).symm (gE Z Z))
 exact nx 7 Z (eX _ (oi h1).symm (gE Z Z))
def ff (EC:aj)(k_1:Int)(at_2:Int)(name_3:Bk):Option (Bool×aj) :=some (false,(aj.mk EC.fl EC.fat (aE.mk k_1 at_2 name_3)))
theorem fV (EC:aj)(k_1:Int)(at_2:Int)(name_3:Bk)(r:Bool×aj)(h0:ff EC k_1 at_2 name_3=some r):aU Tryz.prog 55 [.ptr 1000000 0,.p (eI k_1),.p (eI at_2),.p (eS name_3)] [(1000000,[.p (eL ax EC.fl),.p (eI EC.fat),.p (eI EC.AT.AI),.p (eI EC.AT.fAt),.p (eS EC.AT.By)])] (λ x y=>x=.p (eB r.1)/\y=[(1000000,[.p (eL ax r.2.fl),.p (eI r.2.fat),.p (eI r.2.AT.AI),.p (eI r.2.AT.fAt),.p (eS r.2.AT.By)])]):=by
 unfold ff at h0;refine bT good [] [1000000] Tryz.func55 Z Z Z Z Z λ w0 F=>mPo (λ v:Bool×aj=>.p (eB v.1)) (λ v=>[(1000000,[.p (eL ax v.2.fl),.p (eI v.2.fat),.p (eI v.2.AT.AI),.p (eI v.2.AT.fAt),.p (eS v.2.AT.By)])]) ?_;exact nx 20 Z (mQo (oi h0) (ay _) Z Z Z Z (sr) ⟨⟨_,Z,⟨sr,sr,sr,sr,sr,trivial⟩⟩,trivial⟩)
def aO (Ez:List ac)(f_1:ac->Option Bool):Nat->Int->Option (Unit⊕Int)|0,_=>none|m+1,t8=>if t8<(Ez.length:Int) then ck ((0:Int)<=t8/\t8<(Ez.length:Int))<|(f_1 (lat Ez t8)).bind λ Fq=>if Fq=true then some (.inr t8)else ck (inR (t8+1))<|aO Ez f_1 m (t8+1)else some (.inl ())
def bA (n:Nat)(Ez:List ac)(f_1:ac->Option Bool):Option Int :=jn (aO Ez f_1 n 0) λ _q16=>some (-1)
theorem dY (n:Nat)(Ez:List ac)(f_1:ac->Option Bool)(F_f_1:FuncId)(C_f_1:List AV)(K_f_1:AV.mapA.go (λ _=>none) C_f_1=some C_f_1)(E_f_1:∀ vs w,(callFunc F_f_1 vs).run Tryz.prog w=.ok (.enter F_f_1 vs) w)(H_f_1:∀ (x0:ac) r,f_1 x0=some r->gv Tryz.prog F_f_1 ([.p (.agg (ac.cs x0))]++C_f_1) (·=.p (eB r)))(r:Int)(h0:bA n Ez f_1=some r):gv Tryz.prog 78 [.p (eL ae Ez),.func (.func F_f_1) C_f_1] (·=.p (eI r)):=by
 unfold bA at h0;refine rE good Tryz.func78 Z Z Z λ w0=>mP (λ v:Int=>.p (eI v)) ?_;refine nx 8 rfl (oLl (f:=ae) Z Z ?_);refine nx 3 rfl ?_;obtain ⟨LA,h1,E3,hR0⟩:=bR h0;refine kEx 0 (λ Ki:Unit=>LA=.inl Ki) (λ Ki=>⟨[],[]⟩) (λ Ki hv=>?_) ?_
 ·have h0:=E3 _ hv;exact nx 6 Z (mQ (oi h0) Z (sr))
 refine lG (λ (Jg:Int)=>⟨[(0,.p (eL ae Ez)),(1,.func (.func F_f_1) C_f_1),(7,.p (eI (Ez.length:Int))),(8,.p (eI Jg))],[]⟩) (λ m (Jg:Int)=>aO Ez f_1 m Jg) Y 0 h1 (gE rfl rfl) ?_;rintro m t8 h1;replace h1:aO Ez f_1 (m+1) t8=some LA:=h1;rw [aO] at h1;refine nx 5 rfl (fD [9] h1 rfl (λ c9 h1=>?_) λ c9 h1=>?_)
 ·refine nx 14 Z (oE h1 ac.BY Z Z Y λ Gn h1=>?_);refine nx 1 Z (bd h1 λ Fq Gg h1=>?_);refine mG (gFn 1 C_f_1 Z (by simp only [])) (mG (gFn 11 C_f_1 Z (by simp only [])) ?_);refine mO Z (qS (q:=[.p (.agg (ac.cs (lat Ez t8)))]) (H_f_1 (lat Ez t8) _ Gg) Z Z Z Z K_f_1 Z Z ⟨sr,trivial⟩ E_f_1 Z ?_);refine nx 1 Z (fB [16] h1 Z (λ FS h1=>?_) λ FS h1=>?_)
  ·exact nx 7 Z (mQ (hR0 _ (oi h1).symm) Z (sr))
  refine nx 3 Z (oA h1 Z Z λ HU h1=>?_);exact nx 2 Z (eX (t8+1) h1 (gE Z Z))
 exact nx 2 Z (eXi _ (oi h1).symm (gE Z Z))
def cI (n:Nat)(Ez:List ac)(f_1:ac->Option Bool):Option Bool :=(bA n Ez f_1).bind λ r1=>some (decide (0<=r1))
theorem gp (n:Nat)(Ez:List ac)(f_1:ac->Option Bool)(F_f_1:FuncId)(C_f_1:List AV)(K_f_1:AV.mapA.go (λ _=>none) C_f_1=some C_f_1)(E_f_1:∀ vs w,(callFunc F_f_1 vs).run Tryz.prog w=.ok (.enter F_f_1 vs) w)(H_f_1:∀ (x0:ac) r,f_1 x0=some r->gv Tryz.prog F_f_1 ([.p (.agg (ac.cs x0))]++C_f_1) (·=.p (eB r)))(r:Bool)(h0:cI n Ez f_1=some r):gv Tryz.prog 87 [.p (eL ae Ez),.func (.func F_f_1) C_f_1] (·=.p (eB r)):=by
 unfold cI at h0;refine rE good Tryz.func87 Z Z Z λ w0=>mP (λ v:Bool=>.p (eB v)) ?_;refine nx 8 Z (bd h0 λ r1 e2 h0=>?_);refine mO Z (xl (dY _ Ez f_1 F_f_1 C_f_1 K_f_1 E_f_1 H_f_1 _ e2) Z Z Z Z (ni Z (ni (ve K_f_1) uk)) ⟨sr,sr,trivial⟩ Tryz.call78 Z ?_);exact nx 4 Z (mQ (oi h0) Z (sr))
def fH (a_0:ac)(cap_0:au):Option Bool :=some (decide (a_0.By=cap_0.Eh))
theorem mj (a_0:ac)(cap_0:au)(r:Bool)(h0:fH a_0 cap_0=some r):gv Tryz.prog 88 [.p (.agg (ac.cs a_0)),.rptr (au.cs cap_0)] (·=.p (eB r)):=by
 unfold fH at h0;refine rE good Tryz.func88 Z Z Z λ w0=>mP (λ v:Bool=>.p (eB v)) ?_;refine nx 11 Z (oS Z Z ?_);exact nx 3 Z (mQ (oi h0) Z (sr))
def eW (EC:aj):Nat->Int->Int->Option (Unit⊕(Int×aj))|0,_,_=>none|m+1,open23,i24=>jn (ck ((0:Int)<=i24/\i24<(EC.fl.length:Int))<|(if (lat EC.fl i24).AI=6 then some true else if (lat EC.fl i24).AI=5 then some (decide (open23=0))else some false : Option Bool).bind λ GM=>if GM=true then some (.inr (.inr (i24,EC)))else if (lat EC.fl i24).AI=4 then jn ((if (lat EC.fl i24).Eh=([40]:Bk) then some true else if (lat EC.fl i24).Eh=([91]:Bk) then some true else some (decide ((lat EC.fl i24).Eh=([123]:Bk))) : Option Bool).bind λ t33=>if t33=true then ck (inR (open23+1))<|some (.inl (open23+1))else(if (lat EC.fl i24).Eh=([41]:Bk) then some true else if (lat EC.fl i24).Eh=([93]:Bk) then some true else some (decide ((lat EC.fl i24).Eh=([125]:Bk))) : Option Bool).bind λ t38=>if t38=true then if open23=0 then some (.inr (.inr (.inr (i24,EC))))else ck (inR (open23-1))<|some (.inl (open23-1))else some (.inl open23) : Option (Int⊕(Int⊕(Unit⊕(Int×aj))))) λ open42=>some (.inl open42)else some (.inl open23) : Option (Int⊕(Unit⊕(Int×aj)))) λ open43=>ck (inR (i24+1))<|eW EC m open43 (i24+1)
def ke (n:Nat)(EC:aj):Option (Int×aj) :=jn (eW EC n 0 EC.fat) λ _Hj=>none
theorem oU (n:Nat)(EC:aj)(r:Int×aj)(h0:ke n EC=some r):aU Tryz.prog 114 [.ptr 1000000 0] [(1000000,[.p (eL ax EC.fl),.p (eI EC.fat),.p (eI EC.AT.AI),.p (eI EC.AT.fAt),.p (eS EC.AT.By)])] (λ x y=>x=.p (eI r.1)/\y=[(1000000,[.p (eL ax r.2.fl),.p (eI r.2.fat),.p (eI r.2.AT.AI),.p (eI r.2.AT.fAt),.p (eS r.2.AT.By)])]):=by
 unfold ke at h0;refine bT good [] [1000000] Tryz.func114 Z Z Z Z Z λ w0 F=>mPo (λ v:Int×aj=>.p (eI v.1)) (λ v=>[(1000000,[.p (eL ax v.2.fl),.p (eI v.2.fat),.p (eI v.2.AT.AI),.p (eI v.2.AT.fAt),.p (eS v.2.AT.By)])]) ?_;refine nx 17 rfl ?_;obtain ⟨IS,h1,E3,hR0⟩:=bR h0;refine kEx 0 (λ Ll:Unit=>IS=.inl Ll) (λ Ll=>⟨[],[(1000000,[.p (eL ax EC.fl),.p (eI EC.fat),.p (eI EC.AT.AI),.p (eI EC.AT.fAt),.p (eS EC.AT.By)])]⟩) (λ Ll hv=>?_) ?_
 ·have h0:=E3 _ hv;refine nx 1 Z ?_
  cases h0
 refine lG (λ (M8:Int×Int)=>⟨[(0,.ptr 1000000 0),(3,.p (eI M8.1)),(4,.p (eI M8.2))],[(1000000,[.p (eL ax EC.fl),.p (eI EC.fat),.p (eI EC.AT.AI),.p (eI EC.AT.fAt),.p (eS EC.AT.By)])]⟩) (λ m (M8:Int×Int)=>eW EC m M8.1 M8.2) Y (0,EC.fat) h1 (gE rfl rfl) ?_;rintro m ⟨open23,i24⟩ h1;replace h1:eW EC (m+1) open23 i24=some IS:=h1;rw [eW] at h1;refine nx 1 rfl ?_;obtain ⟨o56,h2,hL1,hR1⟩:=bR h1;refine kX (λ MM:Int=>o56=.inl MM) (λ MM=>⟨[(0,.ptr 1000000 0),(3,.p (eI MM)),(4,.p (eI i24))],[(1000000,[.p (eL ax EC.fl),.p (eI EC.fat),.p (eI EC.AT.AI),.p (eI EC.AT.fAt),.p (eS EC.AT.By)])]⟩) (λ MM hv=>?_) ?_
 ·have h1:=hL1 _ hv;refine nx 3 Z (oA h1 Z Z λ Gl h1=>?_);exact nx 2 Z (eX (MM,i24+1) h1 (gE Z Z))
 refine nx 8 Z (oE h2 au.BY Z Z Y λ Gu h2=>?_);refine nx 6 Z (bd h2 λ o58 h3 h2=>?_);refine kN o58 (λ v59=>⟨[(0,.ptr 1000000 0),(3,.p (eI open23)),(4,.p (eI i24)),(5,.ptr 5 0),(30,.p (eB v59))],[(5,(au.cs (lat EC.fl i24)).map .p),(1000000,[.p (eL ax EC.fl),.p (eI EC.fat),.p (eI EC.AT.AI),.p (eI EC.AT.fAt),.p (eS EC.AT.By)])]⟩) ?_ ?_
 ·refine nx 1 Z (fB [30] h2 Z (λ Jt h2=>?_) λ Jt h2=>?_)
  ·exact nx 7 Z (mQo (hR0 _ (hR1 _ (oi h2).symm).symm) (ay _) Z Z Z Z (sr) ⟨⟨_,Z,⟨sr,sr,sr,sr,sr,trivial⟩⟩,trivial⟩)
  refine nx 9 Z (fN [34] h2 Z (λ Ic h2=>?_) λ Ic h2=>?_)
  ·refine nx 7 rfl ?_;obtain ⟨LW,h3,hL2,hR2⟩:=bR h2;refine kX (λ Lk:Int=>LW=.inl Lk) (λ Lk=>⟨[(0,.ptr 1000000 0),(3,.p (eI Lk)),(4,.p (eI i24))],[(1000000,[.p (eL ax EC.fl),.p (eI EC.fat),.p (eI EC.AT.AI),.p (eI EC.AT.fAt),.p (eS EC.AT.By)])]⟩) (λ Lk hv=>?_) ?_
   ·have h2:=hL2 _ hv;exact nx 1 Z (eX _ (oi h2).symm (gE Z Z))
   refine nx 2 Z (bd h3 λ o62 h4 h3=>?_);refine kN o62 (λ v63=>⟨[(0,.ptr 1000000 0),(3,.p (eI open23)),(4,.p (eI i24)),(36,.p (eS ((lat EC.fl i24).Eh))),(37,.p (eB v63))],[(1000000,[.p (eL ax EC.fl),.p (eI EC.fat),.p (eI EC.AT.AI),.p (eI EC.AT.fAt),.p (eS EC.AT.By)])]⟩) ?_ ?_
   ·refine nx 1 Z (fB [37] h3 Z (λ Ms h3=>?_) λ Ms h3=>?_)
    ·refine nx 3 Z (oA h3 Z Z λ IA h3=>?_);exact nx 2 Z (eX _ (oi h3).symm (gE Z Z))
    refine nx 2 Z (bd h3 λ o64 h4 h3=>?_);refine kN o64 (λ v65=>⟨[(0,.ptr 1000000 0),(3,.p (eI open23)),(4,.p (eI i24)),(43,.p (eB v65))],[(1000000,[.p (eL ax EC.fl),.p (eI EC.fat),.p (eI EC.AT.AI),.p (eI EC.AT.fAt),.p (eS EC.AT.By)])]⟩) ?_ ?_
    ·refine nx 1 Z (fB [43] h3 Z (λ J2 h3=>?_) λ J2 h3=>?_)
     ·refine nx 7 Z (fD [48] h3 Z (λ Js h3=>?_) λ Js h3=>?_)
      ·exact nx 7 Z (mQo (hR0 _ (hR1 _ (hR2 _ (oi h3).symm).symm).symm) (ay _) Z Z Z Z (sr) ⟨⟨_,Z,⟨sr,sr,sr,sr,sr,trivial⟩⟩,trivial⟩)
      refine nx 4 Z (oA h3 Z Z λ FO h3=>?_);exact nx 2 Z (eX _ (oi h3).symm (gE Z Z))
     exact nx 2 Z (eX _ (oi h3).symm (gE Z Z))
    refine nx 2 Z (oS Z Z ?_);refine nx 2 Z (fD [43,44] h4 Z (λ J3 h4=>?_) λ J3 h4=>?_)
    ·exact nx 2 Z (eX _ (oi h4).symm (gE Z Z))
    refine nx 3 Z (oS Z Z ?_);refine nx 2 Z (fD [43,45] h4 Z (λ c37 h4=>?_) λ c37 h4=>?_)
    ·exact nx 2 Z (eX _ (oi h4).symm (gE Z Z))
    refine nx 2 Z (oS Z Z ?_);exact nx 2 Z (eX _ (oi h4).symm (gE Z Z))
   refine nx 2 Z (oS Z Z ?_);refine nx 2 Z (fD [37,38] h4 Z (λ J4 h4=>?_) λ J4 h4=>?_)
   ·exact nx 2 Z (eX _ (oi h4).symm (gE Z Z))
   refine nx 3 Z (oS Z Z ?_);refine nx 2 Z (fD [37,39] h4 Z (λ Mu h4=>?_) λ Mu h4=>?_)
   ·exact nx 2 Z (eX _ (oi h4).symm (gE Z Z))
   refine nx 2 Z (oS Z Z ?_);exact nx 2 Z (eX _ (oi h4).symm (gE Z Z))
  exact nx 2 Z (eX _ (oi h2).symm (gE Z Z))
 refine nx 5 Z (fD [21,22] h3 Z (λ Is h3=>?_) λ Is h3=>?_)
 ·exact nx 9 Z (eX _ (oi h3).symm (gE Z Z))
 refine nx 4 Z (fD [25,26] h3 Z (λ HW h3=>?_) λ HW h3=>?_)
 ·exact nx 5 Z (eX _ (oi h3).symm (gE Z Z))
 exact nx 5 Z (eX _ (oi h3).symm (gE Z Z))
def iC (n:Nat)(EC:aj):Option (ag×Bool×aj) :=(ke n EC).bind λ r1=>ck ((0:Int)<=r1.2.fat/\r1.2.fat<=r1.1/\r1.1<=(r1.2.fl.length:Int))<|ck ((sub r1.2.fl r1.2.fat r1.1).length*32<=140737488355328)<|ck ((0:Int)<=r1.1/\r1.1<(r1.2.fl.length:Int))<|ck (((sub r1.2.fl r1.2.fat r1.1).length+([(au.mk 6 ([]:Bk) ((lat r1.2.fl r1.1).fAt))]).length)*32<=140737488355328)<|(rq n ((sub r1.2.fl r1.2.fat r1.1)++([(au.mk 6 ([]:Bk) ((lat r1.2.fl r1.1).fAt))])) 0).bind λ r7=>if r7.2.2.AI=0 then ck (inR (r1.2.fat+r7.2.1))<|some (r7.1,true,(aj.mk r1.2.fl (r1.2.fat+r7.2.1) r1.2.AT))else some (r7.1,false,(aj.mk r1.2.fl r1.2.fat r7.2.2))
theorem mY (n:Nat)(EC:aj)(r:ag×Bool×aj)(h0:iC n EC=some r):aU Tryz.prog 89 [.ptr 1000000 0] [(1000000,[.p (eL ax EC.fl),.p (eI EC.fat),.p (eI EC.AT.AI),.p (eI EC.AT.fAt),.p (eS EC.AT.By)])] (λ x y=>x=.tuple [.p (.agg (ag.cs r.1)),.p (eB r.2.1)]/\y=[(1000000,[.p (eL ax r.2.2.fl),.p (eI r.2.2.fat),.p (eI r.2.2.AT.AI),.p (eI r.2.2.AT.fAt),.p (eS r.2.2.AT.By)])]):=by
 unfold iC at h0;refine bT good [] [1000000] Tryz.func89 Z Z Z Z Z λ w0 F=>mPo (λ v:ag×Bool×aj=>.tuple [.p (.agg (ag.cs v.1)),.p (eB v.2.1)]) (λ v=>[(1000000,[.p (eL ax v.2.2.fl),.p (eI v.2.2.fat),.p (eI v.2.2.AT.AI),.p (eI v.2.2.AT.fAt),.p (eS v.2.2.AT.By)])]) ?_;refine nx 8 Z (bd h0 λ r1 e2 h0=>?_);refine mO Z (aQ [1000000] [] 101000 101000 (oU _ EC _ e2) Z Z Z Z Z ⟨sr,trivial⟩ Z Z ⟨⟨_,Z,⟨sr,sr,sr,sr,sr,trivial⟩⟩,trivial⟩ Z Z Z Z Z Z Z Z Tryz.call114 Z Z ?_);refine nx 3 Z (cc' h0 λ IZ h0=>?_);refine cc' h0 λ IY h0=>cc' h0 λ JV h0=>cc' h0 λ MH h0=>mG (gE (t:=⟨[(0,.ptr 1000000 0),(2,.ptr 2 0),(4,.p (eI r1.1))],[(2,[.p (eI 0),.p (eI 0),.p (eS ([]:Bk)),.p (eS ([]:Bk)),.p (eI 0),.p (eI 0),.p (eS ([]:Bk)),.p (.val (.slice none 0 0)),.p (.val (.slice none 0 0)),.p (.val (.slice none 0 0)),.p (eI 0)]),(1000000,(aj.cs r1.2).map .p)]⟩) Z Z) (mS ⟨2,[10,21],(by3 (.some (du [] 102000 102001)) (.some λ i=>Nat.beq i 102000||Nat.beq i 32) .none),(λ _=>[(0,.ptr 1000000 0),(2,.ptr 2 0),(4,.p (eI r1.1))]),(λ _=>[(2,[.p (eI 0),.p (eI 0),.p (eS ([]:Bk)),.p (eS ([]:Bk)),.p (eI 0),.p (eI 0),.p (eS ([]:Bk)),.p (.val (.slice none 0 0)),.p (.val (.slice none 0 0)),.p (.val (.slice none 0 0)),.p (eI 0)]),(1000000,[.p (eL ax r1.2.fl),.p (eI r1.2.fat),.p (eI r1.2.AT.AI),.p (eI r1.2.AT.fAt),.p (eS r1.2.AT.By)])])⟩ Z Z Z ⟨Z,Z,Z,trivial⟩ (lt2 ⟨Z,Z,Z,trivial⟩ ⟨Z,Z,Z,trivial⟩) Z Z Z Z ?_);refine ap (λ _=>.ptr 1000000 0) Z Z Z (b9 Z Z Y) (lt2 Z Z) (af [(0,_)] ⟨.inl Z,trivial⟩ (λ sl Ey K hK=>ab Z (bM Z Z Z (Ey _ _ Z) hK)) (af [(0,_)] ⟨.inl Z,trivial⟩ (λ sl Ey K hK=>ab Z (bM Z Z Z (Ey _ _ Z) hK)) (af [(0,_)] ⟨.inl Z,trivial⟩ (λ sl Ey K hK=>ab Z (bM Z Z Z (Ey _ _ Z) hK)) ao))) (ap (λ _=>.ptr 1000000 0) Z Z Z (b9 Z Z Y) (lt2 Z Z) (af [(11,_)] ⟨.inr ⟨0,_,Z,Z,Z⟩,trivial⟩ (λ sl Ey K hK=>ab Z (bK Z Z Z (Ey _ _ Z) hK)) (af [(11,_)] ⟨.inr ⟨0,_,Z,Z,Z⟩,trivial⟩ (λ sl Ey K hK=>ab Z (bK Z Z Z (Ey _ _ Z) hK)) (af [(11,_)] ⟨.inr ⟨0,_,Z,Z,Z⟩,trivial⟩ (λ sl Ey K hK=>ab Z (bK Z Z Z (Ey _ _ Z) hK)) ao))) ?_);refine ap (λ _=>.ptr 1000000 0) Z Z Z (b9 Z Z Y) (lt2 Z Z) (af [(12,_)] ⟨.inr ⟨1,_,Z,Z,Z⟩,trivial⟩ (λ sl Ey K hK=>ab Z (aC Z Z Z Z Z Z Z Z (Ey _ _ Z) hK)) (af [(12,_)] ⟨.inr ⟨1,_,Z,Z,Z⟩,trivial⟩ (λ sl Ey K hK=>ab Z (aC Z Z Z Z Z Z Z Z (Ey _ _ Z) hK)) (af [(12,_)] ⟨.inr ⟨1,_,Z,Z,Z⟩,trivial⟩ (λ sl Ey K hK=>ab Z (aC Z Z Z Z Z Z Z Z (Ey _ _ Z) hK)) ao))) (ap (λ _=>.p (eL ax r1.2.fl)) Z Z Z (b9 Z Z Y) (lt2 Z Z) (af [(13,_)] ⟨.inr ⟨2,_,Z,Z,Z⟩,trivial⟩ (λ sl Ey K hK=>ab Z (bn Z Z Z Z Z (Ey _ _ Z) Z Z hK)) (af [(13,_)] ⟨.inr ⟨2,_,Z,Z,Z⟩,trivial⟩ (λ sl Ey K hK=>ab Z (bn Z Z Z Z Z (Ey _ _ Z) Z Z hK)) (af [(13,_)] ⟨.inr ⟨2,_,Z,Z,Z⟩,trivial⟩ (λ sl Ey K hK=>ab Z (bn Z Z Z Z Z (Ey _ _ Z) Z Z hK)) ao))) ?_);refine ap (λ _=>.ptr 1000000 0) Z Z Z (b9 Z Z Y) (lt2 Z Z) (af [(0,_)] ⟨.inl Z,trivial⟩ (λ sl Ey K hK=>ab Z (bM Z Z Z (Ey _ _ Z) hK)) (af [(0,_)] ⟨.inl Z,trivial⟩ (λ sl Ey K hK=>ab Z (bM Z Z Z (Ey _ _ Z) hK)) (af [(0,_)] ⟨.inl Z,trivial⟩ (λ sl Ey K hK=>ab Z (bM Z Z Z (Ey _ _ Z) hK)) ao))) (ap (λ _=>.ptr 1000000 0) Z Z Z (b9 Z Z Y) (lt2 Z Z) (af [(15,_)] ⟨.inr ⟨4,_,Z,Z,Z⟩,trivial⟩ (λ sl Ey K hK=>ab Z (bK Z Z Z (Ey _ _ Z) hK)) (af [(15,_)] ⟨.inr ⟨4,_,Z,Z,Z⟩,trivial⟩ (λ sl Ey K hK=>ab Z (bK Z Z Z (Ey _ _ Z) hK)) (af [(15,_)] ⟨.inr ⟨4,_,Z,Z,Z⟩,trivial⟩ (λ sl Ey K hK=>ab Z (bK Z Z Z (Ey _ _ Z) hK)) ao))) ?_);refine ap (λ _=>.ptr 1000000 1) Z Z Z (b9 Z Z Y) (lt2 Z Z) (af [(16,_)] ⟨.inr ⟨5,_,Z,Z,Z⟩,trivial⟩ (λ sl Ey K hK=>ab Z (aC Z Z Z Z Z Z Z Z (Ey _ _ Z) hK)) (af [(16,_)] ⟨.inr ⟨5,_,Z,Z,Z⟩,trivial⟩ (λ sl Ey K hK=>ab Z (aC Z Z Z Z Z Z Z Z (Ey _ _ Z) hK)) (af [(16,_)] ⟨.inr ⟨5,_,Z,Z,Z⟩,trivial⟩ (λ sl Ey K hK=>ab Z (aC Z Z Z Z Z Z Z Z (Ey _ _ Z) hK)) ao))) (ap (λ _=>.p (eI r1.2.fat)) Z Z Z (b9 Z Z Y) (lt2 Z Z) (af [(17,_)] ⟨.inr ⟨6,_,Z,Z,Z⟩,trivial⟩ (λ sl Ey K hK=>ab Z (bn Z Z Z Z Z (Ey _ _ Z) Z Z hK)) (af [(17,_)] ⟨.inr ⟨6,_,Z,Z,Z⟩,trivial⟩ (λ sl Ey K hK=>ab Z (bn Z Z Z Z Z (Ey _ _ Z) Z Z hK)) (af [(17,_)] ⟨.inr ⟨6,_,Z,Z,Z⟩,trivial⟩ (λ sl Ey K hK=>ab Z (bn Z Z Z Z Z (Ey _ _ Z) Z Z hK)) ao))) ?_);refine ap (λ _=>.p (eI r1.1)) Z Z Z (b9 Z Z Y) (lt2 Z Z) (af [(4,_)] ⟨.inl Z,trivial⟩ (λ sl Ey K hK=>ab Z (bM Z Z Z (Ey _ _ Z) hK)) (af [(4,_)] ⟨.inl Z,trivial⟩ (λ sl Ey K hK=>ab Z (bM Z Z Z (Ey _ _ Z) hK)) (af [(4,_)] ⟨.inl Z,trivial⟩ (λ sl Ey K hK=>ab Z (bM Z Z Z (Ey _ _ Z) hK)) ao))) (ap (λ _=>.p (eL ax (sub r1.2.fl r1.2.fat r1.1))) Z Z Z (b9 Z Z Y) (lt2 Z Z) (ai Z (ai Z (af [(14,_),(18,_),(19,_)] ⟨.inr ⟨3,_,Z,Z,Z⟩,.inr ⟨7,_,Z,Z,Z⟩,.inr ⟨8,_,Z,Z,Z⟩,trivial⟩ (λ sl Ey K hK=>ab Z (nW (f:=ax) (l:=r1.2.fl) Z Z Z Z Z Z (Ey _ _ Z) Z (gR (Ey _ _ Z)) (lr (Ey _ _ Z)) IZ (λ x=>congrArg List.length (au.BY x)) hK)) ao))) ?_);refine dh (by3 (.vec 102000 3 0 ((sub r1.2.fl r1.2.fat r1.1).map ax)) (.vec 102000 3 0 ((sub r1.2.fl r1.2.fat r1.1).map ax)) (.p (eL ax (sub r1.2.fl r1.2.fat r1.1)))) [(20,_)] Z ⟨.inr ⟨9,_,Z,Z,Z⟩,trivial⟩ Z Z (cF Z Y) (lt2 (λ h=>absurd h (by decide)) Y) (λ sl Ey K hK=>ab Z (aQ [] [] 102000 102001 (jM (sub r1.2.fl r1.2.fat r1.1) IY) Z Z Z (az (Ey _ _ Z) aV) Z ⟨sr,trivial⟩ Z Z trivial Z Z Z Z Z Z Z Z Tryz.call115 Z Z hK)) (ap (λ _=>.ptr 1000000 0) Z Z Z (b9 Z Z Y) (lt2 Z Z) (af [(0,_)] ⟨.inl Z,trivial⟩ (λ sl Ey K hK=>ab Z (bM Z Z Z (Ey _ _ Z) hK)) (af [(0,_)] ⟨.inl Z,trivial⟩ (λ sl Ey K hK=>ab Z (bM Z Z Z (Ey _ _ Z) hK)) (af [(0,_)] ⟨.inl Z,trivial⟩ (λ sl Ey K hK=>ab Z (bM Z Z Z (Ey _ _ Z) hK)) ao))) ?_);refine ap (λ _=>.ptr 1000000 0) Z Z Z (b9 Z Z Y) (lt2 Z Z) (af [(22,_)] ⟨.inr ⟨11,_,Z,Z,Z⟩,trivial⟩ (λ sl Ey K hK=>ab Z (bK Z Z Z (Ey _ _ Z) hK)) (af [(22,_)] ⟨.inr ⟨11,_,Z,Z,Z⟩,trivial⟩ (λ sl Ey K hK=>ab Z (bK Z Z Z (Ey _ _ Z) hK)) (af [(22,_)] ⟨.inr ⟨11,_,Z,Z,Z⟩,trivial⟩ (λ sl Ey K hK=>ab Z (bK Z Z Z (Ey _ _ Z) hK)) ao))) (ap (λ _=>.ptr 1000000 0) Z Z Z (b9 Z Z Y) (lt2 Z Z) (af [(23,_)] ⟨.inr ⟨12,_,Z,Z,Z⟩,trivial⟩ (λ sl Ey K hK=>ab Z (aC Z Z Z Z Z Z Z Z (Ey _ _ Z) hK)) (af [(23,_)] ⟨.inr ⟨12,_,Z,Z,Z⟩,trivial⟩ (λ sl Ey K hK=>ab Z (aC Z Z Z Z Z Z Z Z (Ey _ _ Z) hK)) (af [(23,_)] ⟨.inr ⟨12,_,Z,Z,Z⟩,trivial⟩ (λ sl Ey K hK=>ab Z (aC Z Z Z Z Z Z Z Z (Ey _ _ Z) hK)) ao))) ?_);refine ap (λ _=>.p (eL ax r1.2.fl)) Z Z Z (b9 Z Z Y) (lt2 Z Z) (af [(24,_)] ⟨.inr ⟨13,_,Z,Z,Z⟩,trivial⟩ (λ sl Ey K hK=>ab Z (bn Z Z Z Z Z (Ey _ _ Z) Z Z hK)) (af [(24,_)] ⟨.inr ⟨13,_,Z,Z,Z⟩,trivial⟩ (λ sl Ey K hK=>ab Z (bn Z Z Z Z Z (Ey _ _ Z) Z Z hK)) (af [(24,_)] ⟨.inr ⟨13,_,Z,Z,Z⟩,trivial⟩ (λ sl Ey K hK=>ab Z (bn Z Z Z Z Z (Ey _ _ Z) Z Z hK)) ao))) (ap (λ _=>.p (eI r1.1)) Z Z Z (b9 Z Z Y) (lt2 Z Z) (af [(4,_)] ⟨.inl Z,trivial⟩ (λ sl Ey K hK=>ab Z (bM Z Z Z (Ey _ _ Z) hK)) (af [(4,_)] ⟨.inl Z,trivial⟩ (λ sl Ey K hK=>ab Z (bM Z Z Z (Ey _ _ Z) hK)) (af [(4,_)] ⟨.inl Z,trivial⟩ (λ sl Ey K hK=>ab Z (bM Z Z Z (Ey _ _ Z) hK)) ao))) ?_);refine ap (λ _=>.rptr (au.cs (lat r1.2.fl r1.1))) Z Z Z (b9 Z Z Y) (lt2 Z Z) (af [(25,_),(26,_)] ⟨.inr ⟨14,_,Z,Z,Z⟩,.inr ⟨15,_,Z,Z,Z⟩,trivial⟩ (λ sl Ey K hK=>ab Z (cT (f:=ax) (l:=r1.2.fl) au.cs Z Z Z Z Z Z (Ey _ _ Z) Z (Ey _ _ Z) JV au.BY Y hK)) (af [(25,_),(26,_)] ⟨.inr ⟨14,_,Z,Z,Z⟩,.inr ⟨15,_,Z,Z,Z⟩,trivial⟩ (λ sl Ey K hK=>ab Z (cT (f:=ax) (l:=r1.2.fl) au.cs Z Z Z Z Z Z (Ey _ _ Z) Z (Ey _ _ Z) JV au.BY Y hK)) (af [(25,_),(26,_)] ⟨.inr ⟨14,_,Z,Z,Z⟩,.inr ⟨15,_,Z,Z,Z⟩,trivial⟩ (λ sl Ey K hK=>ab Z (cT (f:=ax) (l:=r1.2.fl) au.cs Z Z Z Z Z Z (Ey _ _ Z) Z (Ey _ _ Z) JV au.BY Y hK)) ao))) (ap (λ _=>.rptr (List.drop 2 (au.cs (lat r1.2.fl r1.1)))) Z Z Z (b9 Z Z Y) (lt2 Z Z) (af [(27,_)] ⟨.inr ⟨16,_,Z,Z,Z⟩,trivial⟩ (λ sl Ey K hK=>ab Z (ew Z Z Z Z Z Z Z Z (Ey _ _ Z) hK)) (af [(27,_)] ⟨.inr ⟨16,_,Z,Z,Z⟩,trivial⟩ (λ sl Ey K hK=>ab Z (ew Z Z Z Z Z Z Z Z (Ey _ _ Z) hK)) (af [(27,_)] ⟨.inr ⟨16,_,Z,Z,Z⟩,trivial⟩ (λ sl Ey K hK=>ab Z (ew Z Z Z Z Z Z Z Z (Ey _ _ Z) hK)) ao))) ?_);refine ap (λ _=>.p (eI ((lat r1.2.fl r1.1).fAt))) Z Z Z (b9 Z Z Y) (lt2 Z Z) (af [(28,_)] ⟨.inr ⟨17,_,Z,Z,Z⟩,trivial⟩ (λ sl Ey K hK=>ab Z (jw Z Z Z Z Z (Ey _ _ Z) Z hK)) (af [(28,_)] ⟨.inr ⟨17,_,Z,Z,Z⟩,trivial⟩ (λ sl Ey K hK=>ab Z (jw Z Z Z Z Z (Ey _ _ Z) Z hK)) (af [(28,_)] ⟨.inr ⟨17,_,Z,Z,Z⟩,trivial⟩ (λ sl Ey K hK=>ab Z (jw Z Z Z Z Z (Ey _ _ Z) Z hK)) ao))) (ap (λ _=>.p (.agg [eI 6,eS ([]:Bk),eI ((lat r1.2.fl r1.1).fAt)])) Z Z Z (b9 Z Z Y) (lt2 Z Z) (af [(29,_)] ⟨.inr ⟨18,_,Z,Z,Z⟩,trivial⟩ (λ sl Ey K hK=>ab Z (gH Z Z Z Z Z Z (bU Z (bU (Ey _ _ Z) gB)) Z Z hK)) (af [(29,_)] ⟨.inr ⟨18,_,Z,Z,Z⟩,trivial⟩ (λ sl Ey K hK=>ab Z (gH Z Z Z Z Z Z (bU Z (bU (Ey _ _ Z) gB)) Z Z hK)) (af [(29,_)] ⟨.inr ⟨18,_,Z,Z,Z⟩,trivial⟩ (λ sl Ey K hK=>ab Z (gH Z Z Z Z Z Z (bU Z (bU (Ey _ _ Z) gB)) Z Z hK)) ao))) ?_);refine ap (λ _=>.p (eL ax ([(au.mk 6 ([]:Bk) ((lat r1.2.fl r1.1).fAt))]))) Z Z Z (b9 Z Z Y) (lt2 Z Z) (ai Z (af [(30,_)] ⟨.inr ⟨19,_,Z,Z,Z⟩,trivial⟩ (λ sl Ey K hK=>ab Z (bg ax [(au.mk 6 ([]:Bk) ((lat r1.2.fl r1.1).fAt))] Z Z Z Z Z Z (b7 (Ey _ _ Z) Z cG) Z Z Z Z Z Z (by first|rfl|(simp only [aq,bx,au.Ef]; done)|(simp only [aq,bx,au.Ef]; rfl)) hK)) (af [(30,_)] ⟨.inr ⟨19,_,Z,Z,Z⟩,trivial⟩ (λ sl Ey K hK=>ab Z (bg ax [(au.mk 6 ([]:Bk) ((lat r1.2.fl r1.1).fAt))] Z Z Z Z Z Z (b7 (Ey _ _ Z) Z cG) Z Z Z Z Z Z (by first|rfl|(simp only [aq,bx,au.Ef]; done)|(simp only [aq,bx,au.Ef]; rfl)) hK)) ao))) (dh (λ _=>.vec 32 3 0 (((sub r1.2.fl r1.2.fat r1.1)++([(au.mk 6 ([]:Bk) ((lat r1.2.fl r1.1).fAt))])).map ax)) [(21,_),(31,_)] Z ⟨.inr ⟨10,_,Z,Z,Z⟩,.inr ⟨20,_,Z,Z,Z⟩,trivial⟩ Z Z Y (lt2 (λ h=>absurd h (by decide)) (λ h=>absurd h (by decide))) (λ sl Ey K hK=>ab Z (eu ax (sub r1.2.fl r1.2.fat r1.1) ([(au.mk 6 ([]:Bk) ((lat r1.2.fl r1.1).fAt))]) Z Z Z Z Z Z Z Z (Ey _ _ Z) Z Z (Ey _ _ Z) Z (λ x=>congrArg List.length (au.BY x)) Z Z Z Z MH hK)) ?_);refine mz (λ _=>.vec 32 3 0 (((sub r1.2.fl r1.2.fat r1.1)++([(au.mk 6 ([]:Bk) ((lat r1.2.fl r1.1).fAt))])).map ax)) Z Z Z (b9 Z Z Y) (lt2 Y (nl Z)) (af [(32,_)] ⟨.inr ⟨21,_,Z,Z,Z⟩,trivial⟩ (λ sl Ey K hK=>ab Z (dF Z Z Z (Ey _ _ Z) hK)) (ai Z (ai Z ao))) (cC ?_);refine nx 4 Z (bd h0 λ r7 e8 h0=>?_);refine oK (wd _ ((sub r1.2.fl r1.2.fat r1.1)++([(au.mk 6 ([]:Bk) ((lat r1.2.fl r1.1).fAt))])) 0 _ e8) Z ⟨AV.sub_vec _ _ _ _,sr,trivial⟩ Tryz.call116 Z (nx 10 Z ?_);refine mG (gE (t:=⟨[(0,.ptr 1000000 0),(2,.ptr 2 0),(6,.ptr 6 0),(7,.p (eI r7.2.1)),(8,.ptr 8 0)],[(2,[.p (eI 0),.p (eI 0),.p (eS ([]:Bk)),.p (eS ([]:Bk)),.p (eI 0),.p (eI 0),.p (eS ([]:Bk)),.p (.val (.slice none 0 0)),.p (.val (.slice none 0 0)),.p (.val (.slice none 0 0)),.p (eI 0)]),(6,(ag.cs r7.1).map .p),(8,(aE.cs r7.2.2).map .p),(1000000,(aj.cs r1.2).map .p)]⟩) Z Z) (nx 7 Z ?_);refine fN [41] h0 Z (λ c9 h0=>?_) λ c9 h0=>?_
 ·refine nx 9 Z (oA h0 Z Z λ Gn h0=>?_);exact nx 11 Z (mQo (oi h0) (ay _) Z Z Z Z (aG ⟨sr,sr,trivial⟩) ⟨⟨_,Z,⟨sr,sr,sr,sr,sr,trivial⟩⟩,trivial⟩)
 exact nx 16 Z (mQo (oi h0) (ay _) Z Z Z Z (aG ⟨sr,sr,trivial⟩) ⟨⟨_,Z,⟨sr,sr,sr,sr,sr,trivial⟩⟩,trivial⟩)
def iS (n:Nat)(EC:aj)(EB:av)(name_2:au):Option (Bool×aj×av) :=ck (inR (EC.fat+1))<|(cI n EB.A' (λ x0=>fH x0 name_2)).bind λ r3=>if r3=true then(ff (aj.mk EC.fl (EC.fat+1) EC.AT) 8 name_2.fAt name_2.Eh).bind λ r6=>some (r6.1,r6.2,(av.mk EB.A' EB.Ar))else(iC n (aj.mk EC.fl (EC.fat+1) EC.AT)).bind λ r8=>ck ((EB.A'.length+[(ac.mk name_2.Eh r8.1 name_2.fAt)].length)*184<=140737488355328)<|some (r8.2.1,r8.2.2,(av.mk (EB.A'++[(ac.mk name_2.Eh r8.1 name_2.fAt)]) EB.Ar))
theorem nJ (n:Nat)(EC:aj)(EB:av)(name_2:au)(r:Bool×aj×av)(h0:iS n EC EB name_2=some r):aU Tryz.prog 53 [.ptr 1000000 0,.ptr 1000001 0,.p (.agg (au.cs name_2))] [(1000000,[.p (eL ax EC.fl),.p (eI EC.fat),.p (eI EC.AT.AI),.p (eI EC.AT.fAt),.p (eS EC.AT.By)]),(1000001,[.vec 900000 13 0 (EB.A'.map ae),.vec 900001 5 0 (EB.Ar.map am)])] (λ x y=>x=.p (eB r.1)/\y=[(1000000,[.p (eL ax r.2.1.fl),.p (eI r.2.1.fat),.p (eI r.2.1.AT.AI),.p (eI r.2.1.AT.fAt),.p (eS r.2.1.AT.By)]),(1000001,[.vec 2000000 13 0 (r.2.2.A'.map ae),.vec 2000001 5 0 (r.2.2.Ar.map am)])]):=by
 unfold iS at h0;refine bT good [800000,800001] [1000000,1000001] Tryz.func53 Z Z Z Z Z λ w0 F=>mPo (λ v:Bool×aj×av=>.p (eB v.1)) (λ v=>[(1000000,[.p (eL ax v.2.1.fl),.p (eI v.2.1.fat),.p (eI v.2.1.AT.AI),.p (eI v.2.1.AT.fAt),.p (eS v.2.1.AT.By)]),(1000001,[.vec 2000000 13 0 (v.2.2.A'.map ae),.vec 2000001 5 0 (v.2.2.Ar.map am)])]) ?_;refine nx 11 Z (oA h0 Z Z λ I0 h0=>?_);refine nx 11 Z (mG (nI 5 (cs:=au.cs name_2) Z Z Z) ?_);refine mO Z (nq Z Z Z Z ?_);refine bd h0 λ r3 e4 h0=>mO Z (xl (gp _ EB.A' (λ x0=>fH x0 name_2) 88 [.rptr (au.cs name_2)] Z Tryz.call88 (λ x0 r h=>mj x0 name_2 r h) _ e4) Z Z Z Z (ni Z (ni (ve Z) uk)) ⟨sr,sr,trivial⟩ Tryz.call87 Z ?_);refine nx 1 Z (fB [21] h0 Z (λ c5 h0=>?_) λ c5 h0=>?_)
 ·refine nx 8 Z (bd h0 λ r6 e7 h0=>?_);refine mO Z (aQ [1000000] [] 101000 101000 (fV (aj.mk EC.fl (EC.fat+1) EC.AT) 8 name_2.fAt name_2.Eh _ e7) Z Z Z Z Z ⟨sr,sr,sr,sr,trivial⟩ Z Z ⟨⟨_,Z,⟨sr,sr,sr,sr,sr,trivial⟩⟩,trivial⟩ Z Z Z Z Z Z Z Z Tryz.call55 Z Z ?_);exact nx 3 Z (mQo (oi h0) (aK (aY 900000 800000 Z Z Z Z Z) (aK (aY 900001 800001 Z Z Z Z Z) (ay _))) Z Z Z Z (sr) ⟨⟨_,Z,⟨sr,sr,sr,sr,sr,trivial⟩⟩,⟨_,Z,⟨sr,sr,trivial⟩⟩,trivial⟩)
 refine nx 5 Z (bd h0 λ r8 e9 h0=>?_);refine mO Z (aQ [1000000] [] 102000 102000 (mY _ (aj.mk EC.fl (EC.fat+1) EC.AT) _ e9) Z Z Z Z Z ⟨sr,trivial⟩ Z Z ⟨⟨_,Z,⟨sr,sr,sr,sr,sr,trivial⟩⟩,trivial⟩ Z Z Z Z Z Z Z Z Tryz.call89 Z Z ?_);refine nx 8 Z (cc' h0 λ Gn h0=>?_);refine mG (gE (t:=⟨[(1,.ptr 1000001 0),(5,.rptr (au.cs name_2)),(7,.ptr 7 0),(8,.p (eB r8.2.1))],[(7,(ag.cs r8.1).map .p),(1000000,(aj.cs r8.2.2).map .p),(1000001,[.vec 900000 13 0 (EB.A'.map ae),.vec 900001 5 0 (EB.Ar.map am)])]⟩) Z Z) (mS ⟨2,[12,15],(by3 (.some λ i=>Nat.beq i 900000||Nat.beq i 45) .none .none),(λ _=>[(1,.ptr 1000001 0),(5,.rptr (au.cs name_2)),(7,.ptr 7 0),(8,.p (eB r8.2.1))]),(by3 ([(7,[.p (eI r8.1.AI),.p (eI r8.1.fOp),.p (eS r8.1.By),.p (eS r8.1.Eo),.p (eI r8.1.C'.AI),.p (eI r8.1.C'.Em),.p (eS r8.1.C'.Ep),.p (eL bw r8.1.C'.Ei),.p (eL eS r8.1.C'.El),.p (eL aw r8.1.B'),.p (eI r8.1.fAt)]),(1000000,[.p (eL ax r8.2.2.fl),.p (eI r8.2.2.fat),.p (eI r8.2.2.AT.AI),.p (eI r8.2.2.AT.fAt),.p (eS r8.2.2.AT.By)]),(1000001,[.vec 900000 13 0 (EB.A'.map ae),.vec 900001 5 0 (EB.Ar.map am)])]) ([(7,[.p (eI r8.1.AI),.p (eI r8.1.fOp),.p (eS r8.1.By),.p (eS r8.1.Eo),.p (eI r8.1.C'.AI),.p (eI r8.1.C'.Em),.p (eS r8.1.C'.Ep),.p (eL bw r8.1.C'.Ei),.p (eL eS r8.1.C'.El),.p (eL aw r8.1.B'),.p (eI r8.1.fAt)]),(1000000,[.p (eL ax r8.2.2.fl),.p (eI r8.2.2.fat),.p (eI r8.2.2.AT.AI),.p (eI r8.2.2.AT.fAt),.p (eS r8.2.2.AT.By)]),(1000001,[.p (eL ae EB.A'),.vec 900001 5 0 (EB.Ar.map am)])]) ([(1000001,[.vec 45 13 0 ((EB.A'++[(ac.mk name_2.Eh r8.1 name_2.fAt)]).map ae),.vec 900001 5 0 (EB.Ar.map am)]),(7,[.p (eI r8.1.AI),.p (eI r8.1.fOp),.p (eS r8.1.By),.p (eS r8.1.Eo),.p (eI r8.1.C'.AI),.p (eI r8.1.C'.Em),.p (eS r8.1.C'.Ep),.p (eL bw r8.1.C'.Ei),.p (eL eS r8.1.C'.El),.p (eL aw r8.1.B'),.p (eI r8.1.fAt)]),(1000000,[.p (eL ax r8.2.2.fl),.p (eI r8.2.2.fat),.p (eI r8.2.2.AT.AI),.p (eI r8.2.2.AT.fAt),.p (eS r8.2.2.AT.By)]),(1000001,[.p (eL ae EB.A'),.vec 900001 5 0 (EB.Ar.map am)])]))⟩ Z Z Z ⟨Z,Z,Z,Z,trivial⟩ (lt2 ⟨Z,Z,Z,Z,trivial⟩ ⟨Z,Z,Z,Z,trivial⟩) Z Z Z Z ?_);refine ap (λ _=>.ptr 1000001 0) Z Z Z (b9 Z Z Y) (lt2 Z Z) (ai Z (af [(1,_)] ⟨.inl Z,trivial⟩ (λ sl Ey K hK=>ab Z (bM Z Z Z (Ey _ _ Z) hK)) (af [(1,_)] ⟨.inl Z,trivial⟩ (λ sl Ey K hK=>ab Z (bM Z Z Z (Ey _ _ Z) hK)) ao))) (ap (λ _=>.ptr 1000001 0) Z Z Z (b9 Z Z Y) (lt2 Z Z) (ai Z (af [(1,_)] ⟨.inl Z,trivial⟩ (λ sl Ey K hK=>ab Z (bM Z Z Z (Ey _ _ Z) hK)) (af [(1,_)] ⟨.inl Z,trivial⟩ (λ sl Ey K hK=>ab Z (bM Z Z Z (Ey _ _ Z) hK)) ao))) ?_);refine ap (λ _=>.ptr 1000001 0) Z Z Z (b9 Z Z Y) (lt2 Z Z) (ai Z (af [(34,_)] ⟨.inr ⟨1,_,Z,Z,Z⟩,trivial⟩ (λ sl Ey K hK=>ab Z (bK Z Z Z (Ey _ _ Z) hK)) (af [(34,_)] ⟨.inr ⟨1,_,Z,Z,Z⟩,trivial⟩ (λ sl Ey K hK=>ab Z (bK Z Z Z (Ey _ _ Z) hK)) ao))) (ap (λ _=>.ptr 1000001 0) Z Z Z (b9 Z Z Y) (lt2 Z Z) (ai Z (af [(35,_)] ⟨.inr ⟨2,_,Z,Z,Z⟩,trivial⟩ (λ sl Ey K hK=>ab Z (aC Z Z Z Z Z Z Z Z (Ey _ _ Z) hK)) (af [(35,_)] ⟨.inr ⟨2,_,Z,Z,Z⟩,trivial⟩ (λ sl Ey K hK=>ab Z (aC Z Z Z Z Z Z Z Z (Ey _ _ Z) hK)) ao))) ?_);refine ap (by3 (.vec 900000 13 0 (EB.A'.map ae)) (.p (eL ae EB.A')) (.p (eL ae EB.A'))) Z Z Z (b9 Z Z Y) (lt2 Z Z) (ai Z (ai Z (af [(36,_)] ⟨.inr ⟨3,_,Z,Z,Z⟩,trivial⟩ (λ sl Ey K hK=>ab Z (bn Z Z Z Z Z (Ey _ _ Z) Z Z hK)) ao))) (ap (λ _=>.rptr (List.drop 1 (au.cs name_2))) Z Z Z (b9 Z Z Y) (lt2 Z Z) (ai Z (af [(5,_)] ⟨.inl Z,trivial⟩ (λ sl Ey K hK=>ab Z (ew Z Z Z Z Z Z Z Z (Ey _ _ Z) hK)) (af [(5,_)] ⟨.inl Z,trivial⟩ (λ sl Ey K hK=>ab Z (ew Z Z Z Z Z Z Z Z (Ey _ _ Z) hK)) ao))) ?_);refine ap (λ _=>.p (eS name_2.Eh)) Z Z Z (b9 Z Z Y) (lt2 Z Z) (ai Z (af [(38,_)] ⟨.inr ⟨5,_,Z,Z,Z⟩,trivial⟩ (λ sl Ey K hK=>ab Z (jw Z Z Z Z Z (Ey _ _ Z) Z hK)) (af [(38,_)] ⟨.inr ⟨5,_,Z,Z,Z⟩,trivial⟩ (λ sl Ey K hK=>ab Z (jw Z Z Z Z Z (Ey _ _ Z) Z hK)) ao))) (ap (λ _=>.p (.agg (ag.cs r8.1))) Z Z Z (b9 Z Z Y) (lt2 Z Z) (ai Z (af [(7,_)] ⟨.inl Z,trivial⟩ (λ sl Ey K hK=>ab Z (d5 Z Z Z Z Z (Ey _ _ Z) Z Z Z hK)) (af [(7,_)] ⟨.inl Z,trivial⟩ (λ sl Ey K hK=>ab Z (d5 Z Z Z Z Z (Ey _ _ Z) Z Z Z hK)) ao))) ?_);refine ap (λ _=>.rptr (List.drop 2 (au.cs name_2))) Z Z Z (b9 Z Z Y) (lt2 Z Z) (ai Z (af [(5,_)] ⟨.inl Z,trivial⟩ (λ sl Ey K hK=>ab Z (ew Z Z Z Z Z Z Z Z (Ey _ _ Z) hK)) (af [(5,_)] ⟨.inl Z,trivial⟩ (λ sl Ey K hK=>ab Z (ew Z Z Z Z Z Z Z Z (Ey _ _ Z) hK)) ao))) (ap (λ _=>.p (eI name_2.fAt)) Z Z Z (b9 Z Z Y) (lt2 Z Z) (ai Z (af [(41,_)] ⟨.inr ⟨8,_,Z,Z,Z⟩,trivial⟩ (λ sl Ey K hK=>ab Z (jw Z Z Z Z Z (Ey _ _ Z) Z hK)) (af [(41,_)] ⟨.inr ⟨8,_,Z,Z,Z⟩,trivial⟩ (λ sl Ey K hK=>ab Z (jw Z Z Z Z Z (Ey _ _ Z) Z hK)) ao))) ?_);refine ap (λ _=>.p (.agg [eS name_2.Eh,eI r8.1.AI,eI r8.1.fOp,eS r8.1.By,eS r8.1.Eo,eI r8.1.C'.AI,eI r8.1.C'.Em,eS r8.1.C'.Ep,eL bw r8.1.C'.Ei,eL eS r8.1.C'.El,eL aw r8.1.B',eI r8.1.fAt,eI name_2.fAt])) Z Z Z (b9 Z Z Y) (lt2 Z Z) (ai Z (af [(39,_),(40,_),(42,_)] ⟨.inr ⟨6,_,Z,Z,Z⟩,.inr ⟨7,_,Z,Z,Z⟩,.inr ⟨9,_,Z,Z,Z⟩,trivial⟩ (λ sl Ey K hK=>ab Z (gH Z Z Z Z Z Z (bU (Ey _ _ Z) (bU (Ey _ _ Z) (bU (Ey _ _ Z) gB))) Z Z hK)) (af [(39,_),(40,_),(42,_)] ⟨.inr ⟨6,_,Z,Z,Z⟩,.inr ⟨7,_,Z,Z,Z⟩,.inr ⟨9,_,Z,Z,Z⟩,trivial⟩ (λ sl Ey K hK=>ab Z (gH Z Z Z Z Z Z (bU (Ey _ _ Z) (bU (Ey _ _ Z) (bU (Ey _ _ Z) gB))) Z Z hK)) ao))) (ap (λ _=>.p (eL ae [(ac.mk name_2.Eh r8.1 name_2.fAt)])) Z Z Z (b9 Z Z Y) (lt2 Z Z) (ai Z (ai Z (af [(43,_)] ⟨.inr ⟨10,_,Z,Z,Z⟩,trivial⟩ (λ sl Ey K hK=>ab Z (bg ae [(ac.mk name_2.Eh r8.1 name_2.fAt)] Z Z Z Z Z Z (b7 (Ey _ _ Z) Z cG) Z Z Z Z Z Z (by first|rfl|(simp only [aq,bx,ac.Ef]; done)|(simp only [aq,bx,ac.Ef]; rfl)) hK)) ao))) ?_);refine dh (λ _=>.vec 45 13 0 ((EB.A'++[(ac.mk name_2.Eh r8.1 name_2.fAt)]).map ae)) [(37,_),(44,_)] Z ⟨.inr ⟨4,_,Z,Z,Z⟩,.inr ⟨11,_,Z,Z,Z⟩,trivial⟩ Z Z (cF Z Y) (lt2 (λ h=>absurd h (by decide)) Y) (λ sl Ey K hK=>ab Z (eu ae EB.A' [(ac.mk name_2.Eh r8.1 name_2.fAt)] Z Z Z Z Z Z Z Z (Ey _ _ Z) Z Z (Ey _ _ Z) Z (λ x=>congrArg List.length (ac.BY x)) Z Z Z Z Gn hK)) (ap (λ _=>.ptr 1000001 0) Z Z Z (b9 Z Z Y) (lt2 Z Z) (af [(33,_)] ⟨.inr ⟨0,_,Z,Z,Z⟩,trivial⟩ (λ sl Ey K hK=>ab Z (bK Z Z Z (Ey _ _ Z) hK)) (af [(33,_)] ⟨.inr ⟨0,_,Z,Z,Z⟩,trivial⟩ (λ sl Ey K hK=>ab Z (bK Z Z Z (Ey _ _ Z) hK)) (ai Z ao))) ?_);refine ap (λ _=>.ptr 1000001 0) Z Z Z (b9 Z Z Y) (lt2 Z Z) (ai Z (af [(46,_)] ⟨.inr ⟨13,_,Z,Z,Z⟩,trivial⟩ (λ sl Ey K hK=>ab Z (aC Z Z Z Z Z Z Z Z (Ey _ _ Z) hK)) (ai Z ao))) (dj [(45,_),(47,_)] Z ⟨.inr ⟨12,_,Z,Z,Z⟩,.inr ⟨14,_,Z,Z,Z⟩,trivial⟩ Z (λ sl Ey K hK=>ab Z (em Z Z Z (Ey _ _ Z) (Ey _ _ Z) Z Z Z (n6 Z) hK)) ?_);refine cC (nx 7 Z ?_);exact mQo (oi h0) (aK (aY 45 800000 Z Z Z Z Z) (aK (aY 900001 800001 Z Z Z Z Z) (ay _))) Z Z Z Z (sr) ⟨⟨_,Z,⟨sr,sr,sr,sr,sr,trivial⟩⟩,⟨_,Z,⟨sr,sr,trivial⟩⟩,trivial⟩
def eN (EC:aj):Option (Bool×aj) :=(dm EC).bind λ r1=>if r1.1.AI=6 then(ff r1.2 40 r1.1.fAt ([]:Bk)).bind λ r4=>some (r4.1,r4.2)else(ff r1.2 2 r1.1.fAt ([]:Bk)).bind λ r6=>some (r6.1,r6.2)
theorem fA (EC:aj)(r:Bool×aj)(h0:eN EC=some r):aU Tryz.prog 29 [.ptr 1000000 0] [(1000000,[.p (eL ax EC.fl),.p (eI EC.fat),.p (eI EC.AT.AI),.p (eI EC.AT.fAt),.p (eS EC.AT.By)])] (λ x y=>x=.p (eB r.1)/\y=[(1000000,[.p (eL ax r.2.fl),.p (eI r.2.fat),.p (eI r.2.AT.AI),.p (eI r.2.AT.fAt),.p (eS r.2.AT.By)])]):=by
 unfold eN at h0;refine bT good [] [1000000] Tryz.func29 Z Z Z Z Z λ w0 F=>mPo (λ v:Bool×aj=>.p (eB v.1)) (λ v=>[(1000000,[.p (eL ax v.2.fl),.p (eI v.2.fat),.p (eI v.2.AT.AI),.p (eI v.2.AT.fAt),.p (eS v.2.AT.By)])]) ?_;refine nx 7 Z (bd h0 λ r1 e2 h0=>?_);refine mO Z (aQ [1000000] [] 101000 101000 (dx EC _ e2) Z Z Z Z Z ⟨sr,trivial⟩ Z Z ⟨⟨_,Z,⟨sr,sr,sr,sr,sr,trivial⟩⟩,trivial⟩ Z Z Z Z Z Z Z Z Tryz.call28 Z Z ?_);refine nx 10 Z (fD [8] h0 Z (λ c3 h0=>?_) λ c3 h0=>?_)
 ·refine nx 6 Z (bd h0 λ r4 e5 h0=>?_);refine mO Z (aQ [1000000] [] 102000 102000 (fV r1.2 40 r1.1.fAt ([]:Bk) _ e5) Z Z Z Z Z ⟨sr,sr,sr,sr,trivial⟩ Z Z ⟨⟨_,Z,⟨sr,sr,sr,sr,sr,trivial⟩⟩,trivial⟩ Z Z Z Z Z Z Z Z Tryz.call55 Z Z ?_);exact nx 3 Z (mQo (oi h0) (ay _) Z Z Z Z (sr) ⟨⟨_,Z,⟨sr,sr,sr,sr,sr,trivial⟩⟩,trivial⟩)
 refine nx 7 Z (bd h0 λ r6 e7 h0=>?_);refine mO Z (aQ [1000000] [] 103000 103000 (fV r1.2 2 r1.1.fAt ([]:Bk) _ e7) Z Z Z Z Z ⟨sr,sr,sr,sr,trivial⟩ Z Z ⟨⟨_,Z,⟨sr,sr,sr,sr,sr,trivial⟩⟩,trivial⟩ Z Z Z Z Z Z Z Z Tryz.call55 Z Z ?_);exact nx 3 Z (mQo (oi h0) (ay _) Z Z Z Z (sr) ⟨⟨_,Z,⟨sr,sr,sr,sr,sr,trivial⟩⟩,trivial⟩)
def eV (n:Nat):Nat->(List Bk)->(List au)->Int->Int->Int->Bk->Option (((List Bk)×(List au)×Int×Int×Int×Bk)⊕((List Bk)×Bool×aj))|0,_,_,_,_,_,_=>none|m+1,FJ,IH,K5,K4,Gb,Gp=>(dm (aj.mk IH K5 (aE.mk K4 Gb Gp))).bind λ KS=>if KS.1.AI=3 then(dm KS.2).bind λ Gi=>(strings_Contains Gi.1.Eh ([36,123]:Bk)).bind λ Gq=>if Gq=true then(eN Gi.2).bind λ HH=>some (.inr ([],HH.1,HH.2))else ck (([34]:Bk).length+Gi.1.Eh.length<=9223372036854775807)<|ck ((([34]:Bk)++Gi.1.Eh).length+([34]:Bk).length<=9223372036854775807)<|(kU n ((([34]:Bk)++Gi.1.Eh)++([34]:Bk))).bind λ Hi=>if Hi.2.2=0 then(strings_Contains Hi.1 ([36,123]:Bk)).bind λ Ix=>if Ix=true then(eN Gi.2).bind λ M4=>some (.inr ([],M4.1,M4.2))else ck ((FJ.length+[Hi.1].length)*16<=140737488355328)<|ck (inR (Gi.2.fat+1))<|eV n m (FJ++[Hi.1]) Gi.2.fl (Gi.2.fat+1) Gi.2.AT.AI Gi.2.AT.fAt Gi.2.AT.By else(ff Gi.2 Hi.2.2 Gi.1.fAt ([]:Bk)).bind λ IL=>some (.inr ([],IL.1,IL.2))else some (.inl (FJ,KS.2.fl,KS.2.fat,KS.2.AT.AI,KS.2.AT.fAt,KS.2.AT.By))
def kh (n:Nat)(EC:aj):Option ((List Bk)×Bool×aj) :=jn (eV n n [] EC.fl EC.fat EC.AT.AI EC.AT.fAt EC.AT.By) λ I7=>some (I7.1,true,(aj.mk I7.2.1 I7.2.2.1 (aE.mk I7.2.2.2.1 I7.2.2.2.2.1 I7.2.2.2.2.2)))
theorem oT (n:Nat)(EC:aj)(r:(List Bk)×Bool×aj)(h0:kh n EC=some r):aU Tryz.prog 90 [.ptr 1000000 0] [(1000000,[.p (eL ax EC.fl),.p (eI EC.fat),.p (eI EC.AT.AI),.p (eI EC.AT.fAt),.p (eS EC.AT.By)])] (λ x y=>x=.tuple [.p (eL eS r.1),.p (eB r.2.1)]/\y=[(1000000,[.p (eL ax r.2.2.fl),.p (eI r.2.2.fat),.p (eI r.2.2.AT.AI),.p (eI r.2.2.AT.fAt),.p (eS r.2.2.AT.By)])]):=by
 unfold kh at h0;refine bT good [] [1000000] Tryz.func90 Z Z Z Z Z λ w0 F=>mPo (λ v:(List Bk)×Bool×aj=>.tuple [.p (eL eS v.1),.p (eB v.2.1)]) (λ v=>[(1000000,[.p (eL ax v.2.2.fl),.p (eI v.2.2.fat),.p (eI v.2.2.AT.AI),.p (eI v.2.2.AT.fAt),.p (eS v.2.2.AT.By)])]) ?_;refine nx 11 rfl ?_;obtain ⟨o74,h1,E3,hR0⟩:=bR h0;refine kEx 0 (λ v75:(List Bk)×(List au)×Int×Int×Int×Bk=>o74=.inl v75) (λ v75=>⟨[(4,.vec 43 1 0 (v75.1.map eS))],[(1000000,[.p (eL ax v75.2.1),.p (eI v75.2.2.1),.p (eI v75.2.2.2.1),.p (eI v75.2.2.2.2.1),.p (eS v75.2.2.2.2.2)])]⟩) (λ v75 hv=>?_) ?_
 ·have h0:=E3 _ hv;exact nx 8 Z (mQo (oi h0) (ay _) Z Z Z Z (aG ⟨sr,sr,trivial⟩) ⟨⟨_,Z,⟨sr,sr,sr,sr,sr,trivial⟩⟩,trivial⟩)
 refine lG (λ (Jf:(List Bk)×(List au)×Int×Int×Int×Bk)=>⟨[(0,.ptr 1000000 0),(4,.vec 43 1 0 (Jf.1.map eS))],[(1000000,[.p (eL ax Jf.2.1),.p (eI Jf.2.2.1),.p (eI Jf.2.2.2.1),.p (eI Jf.2.2.2.2.1),.p (eS Jf.2.2.2.2.2)])]⟩) (λ m (Jf:(List Bk)×(List au)×Int×Int×Int×Bk)=>eV n m Jf.1 Jf.2.1 Jf.2.2.1 Jf.2.2.2.1 Jf.2.2.2.2.1 Jf.2.2.2.2.2) Y ([],EC.fl,EC.fat,EC.AT.AI,EC.AT.fAt,EC.AT.By) h1 (cb (gU ⟨er rfl,⟨_,rfl,AV.sub_nilvec _ _ _⟩,trivial⟩ ⟨⟨_,rfl,⟨sr,sr,sr,sr,sr,trivial⟩⟩,trivial⟩)) ?_;rintro m ⟨FJ,IH,K5,K4,Gb,Gp⟩ h1;replace h1:eV n (m+1) FJ IH K5 K4 Gb Gp=some o74:=h1;rw [eV] at h1;refine nx 4 rfl (bd h1 λ KS e38 h1=>?_);refine mO rfl (aQ [1000000] [] 106000 106000 (dx (aj.mk IH K5 (aE.mk K4 Gb Gp)) _ e38) rfl rfl rfl rfl rfl ⟨sr,trivial⟩ rfl rfl ⟨⟨_,rfl,⟨sr,sr,sr,sr,sr,trivial⟩⟩,trivial⟩ rfl rfl rfl rfl rfl rfl rfl rfl Tryz.call28 rfl rfl ?_);refine nx 3 rfl (fD [12] h1 rfl (λ J2 h1=>?_) λ J2 h1=>?_)
 ·refine nx 6 Z (bd h1 λ Gi NH h1=>?_);refine mO Z (aQ [1000000] [] 107000 107000 (dx KS.2 _ NH) Z Z Z Z Z ⟨sr,trivial⟩ Z Z ⟨⟨_,Z,⟨sr,sr,sr,sr,sr,trivial⟩⟩,trivial⟩ Z Z Z Z Z Z Z Z Tryz.call28 Z Z ?_);refine nx 8 Z (bd h1 λ Gq K9 h1=>?_);refine oK (gW Gi.1.Eh ([36,123]:Bk) _ K9) Z ⟨sr,sr,trivial⟩ Tryz.call70 Z (nx 1 Z ?_);refine fB [17] h1 Z (λ Lg h1=>?_) λ Lg h1=>?_
  ·refine nx 4 Z (bd h1 λ HH K8 h1=>?_);refine mO Z (aQ [1000000] [] 108000 108000 (fA Gi.2 _ K8) Z Z Z Z Z ⟨sr,trivial⟩ Z Z ⟨⟨_,Z,⟨sr,sr,sr,sr,sr,trivial⟩⟩,trivial⟩ Z Z Z Z Z Z Z Z Tryz.call29 Z Z ?_);exact nx 4 Z (mQo (hR0 _ (oi h1).symm) (ay _) Z Z Z Z (aG ⟨ei _,sr,trivial⟩) ⟨⟨_,Z,⟨sr,sr,sr,sr,sr,trivial⟩⟩,trivial⟩)
  refine nx 6 Z (oC h1 Z λ G2 h1=>?_);refine oC h1 Z λ Hf h1=>bd h1 λ Hi ND h1=>oK (nh _ ((([34]:Bk)++Gi.1.Eh)++([34]:Bk)) _ ND) Z ⟨sr,trivial⟩ Tryz.call117 Z (nx 14 Z ?_);refine fN [30] h1 Z (λ c51 h1=>?_) λ c51 h1=>?_
  ·refine nx 6 Z (bd h1 λ Ix NA h1=>?_);refine oK (gW Hi.1 ([36,123]:Bk) _ NA) Z ⟨sr,sr,trivial⟩ Tryz.call70 Z (nx 1 Z ?_);refine fB [37] h1 Z (λ NO h1=>?_) λ NO h1=>?_
   ·refine nx 4 Z (bd h1 λ M4 e58 h1=>?_);refine mO Z (aQ [1000000] [] 110000 110000 (fA Gi.2 _ e58) Z Z Z Z Z ⟨sr,trivial⟩ Z Z ⟨⟨_,Z,⟨sr,sr,sr,sr,sr,trivial⟩⟩,trivial⟩ Z Z Z Z Z Z Z Z Tryz.call29 Z Z ?_);refine nx 3 Z (mG (gE (t:=⟨[(2,.p (.val (.slice none 0 0))),(3,.p (eB M4.1))],[(1000000,(aj.cs M4.2).map .p)]⟩) Z Z) ?_);exact nx 1 Z (mQo (hR0 _ (oi h1).symm) (ay _) Z Z Z Z (aG ⟨ei _,sr,trivial⟩) ⟨⟨_,Z,⟨sr,sr,sr,sr,sr,trivial⟩⟩,trivial⟩)
   refine nx 2 Z (mG (gE (t:=⟨[(0,.ptr 1000000 0),(4,.vec 43 1 0 (FJ.map eS)),(6,.p (eS Hi.1))],[(1000000,(aj.cs Gi.2).map .p)]⟩) Z Z) ?_);refine nx 4 Z (mO Z (bg eS [Hi.1] Z Z Z Z Z Z Z Z Z Z Z Z Z Z ?_));refine cc' h1 λ L3 h1=>mO Z (eu eS FJ [Hi.1] Z Z Z Z Z Z Z Z Z Z Z Z Z Y Z Z Z Z L3 ?_);refine nx 7 Z (oA h1 Z Z λ IV h1=>?_);exact nx 4 Z (eX (FJ++[Hi.1],Gi.2.fl,Gi.2.fat+1,Gi.2.AT.AI,Gi.2.AT.fAt,Gi.2.AT.By) h1 (gE Z Z))
  refine nx 7 Z (bd h1 λ IL Mj h1=>?_);refine mO Z (aQ [1000000] [] 109000 109000 (fV Gi.2 Hi.2.2 Gi.1.fAt ([]:Bk) _ Mj) Z Z Z Z Z ⟨sr,sr,sr,sr,trivial⟩ Z Z ⟨⟨_,Z,⟨sr,sr,sr,sr,sr,trivial⟩⟩,trivial⟩ Z Z Z Z Z Z Z Z Tryz.call55 Z Z ?_);refine nx 3 Z (mG (gE (t:=⟨[(2,.p (.val (.slice none 0 0))),(3,.p (eB IL.1))],[(1000000,(aj.cs IL.2).map .p)]⟩) Z Z) ?_);exact nx 1 Z (mQo (hR0 _ (oi h1).symm) (ay _) Z Z Z Z (aG ⟨ei _,sr,trivial⟩) ⟨⟨_,Z,⟨sr,sr,sr,sr,sr,trivial⟩⟩,trivial⟩)
 exact nx 2 Z (eXi _ (oi h1).symm (gE Z Z))
def fx (n:Nat)(FQ:aj->av->au->Int->Option (Bool×aj×av))(EA:Int):Nat->(List ac)->(List al)->(List au)->Int->Int->Int->Bk->Option (((List ac)×(List al)×(List au)×Int×Int×Int×Bk)⊕(av×Bool×aj))|0,_,_,_,_,_,_,_=>none|m+1,Gb,Gp,FY,Fp,GU,G5,G4=>(dm (aj.mk FY Fp (aE.mk GU G5 G4))).bind λ Gq=>if Gq.1.AI=1 then(dm Gq.2).bind λ HH=>ck (inR (HH.2.fat+1))<|((g9 (aj.mk HH.2.fl (HH.2.fat+1) HH.2.AT) ([61]:Bk)).bind λ I6=>if I6.1=true then(iS n I6.2 (av.mk Gb Gp) HH.1).bind λ F1=>some (F1.1,F1.2.2.A',F1.2.2.Ar,F1.2.1.fl,F1.2.1.fat,F1.2.1.AT.AI,F1.2.1.AT.fAt,F1.2.1.AT.By)else(FQ I6.2 (av.mk Gb Gp) HH.1 EA).bind λ H5=>some (H5.1,H5.2.2.A',H5.2.2.Ar,H5.2.1.fl,H5.2.1.fat,H5.2.1.AT.AI,H5.2.1.AT.fAt,H5.2.1.AT.By) : Option (Bool×(List ac)×(List al)×(List au)×Int×Int×Int×Bk)).bind λ Hs=>if (!Hs.1)=true then some (.inr ((av.mk Hs.2.1 Hs.2.2.1),false,(aj.mk Hs.2.2.2.1 Hs.2.2.2.2.1 (aE.mk Hs.2.2.2.2.2.1 Hs.2.2.2.2.2.2.1 Hs.2.2.2.2.2.2.2))))else(gI n (aj.mk Hs.2.2.2.1 Hs.2.2.2.2.1 (aE.mk Hs.2.2.2.2.2.1 Hs.2.2.2.2.2.2.1 Hs.2.2.2.2.2.2.2))).bind λ IK=>if (!IK.1)=true then some (.inl (Hs.2.1,Hs.2.2.1,IK.2.fl,IK.2.fat,IK.2.AT.AI,IK.2.AT.fAt,IK.2.AT.By))else fx n FQ EA m Hs.2.1 Hs.2.2.1 IK.2.fl IK.2.fat IK.2.AT.AI IK.2.AT.fAt IK.2.AT.By else some (.inl (Gb,Gp,Gq.2.fl,Gq.2.fat,Gq.2.AT.AI,Gq.2.AT.fAt,Gq.2.AT.By))
mutual
def gK:Nat->aj->Int->Option (av×Bool×aj)|0,_,_=>none|n+1,EC,EA=>(gI n EC).bind λ r1=>jn (fx n (gG n) EA n [] [] r1.2.fl r1.2.fat r1.2.AT.AI r1.2.AT.fAt r1.2.AT.By) λ HT=>some ((av.mk HT.1 HT.2.1),true,(aj.mk HT.2.2.1 HT.2.2.2.1 (aE.mk HT.2.2.2.2.1 HT.2.2.2.2.2.1 HT.2.2.2.2.2.2)))
def gG:Nat->aj->av->au->Int->Option (Bool×aj×av)|0,_,_,_,_=>none|n+1,EC,EB,name_2,FW=>(kh n EC).bind λ r1=>if (!r1.2.1)=true then some (false,r1.2.2,(av.mk EB.A' EB.Ar))else(g9 r1.2.2 ([123]:Bk)).bind λ r4=>if (!r4.1)=true then(eN r4.2).bind λ r7=>some (r7.1,r7.2,(av.mk EB.A' EB.Ar))else if 32<=FW then(ff r4.2 4 name_2.fAt ([]:Bk)).bind λ Fb=>some (Fb.1,Fb.2,(av.mk EB.A' EB.Ar))else ck (inR (r4.2.fat+1))<|ck (inR (FW+1))<|((gK n) (aj.mk r4.2.fl (r4.2.fat+1) r4.2.AT) (FW+1)).bind λ E6=>if (!E6.2.1)=true then some (false,E6.2.2,(av.mk EB.A' EB.Ar))else(g9 E6.2.2 ([125]:Bk)).bind λ Fj=>if (!Fj.1)=true then(eN Fj.2).bind λ Gr=>some (Gr.1,Gr.2,(av.mk EB.A' EB.Ar))else ck (inR (Fj.2.fat+1))<|ck ((EB.Ar.length+1)*96<=140737488355328)<|some (true,(aj.mk Fj.2.fl (Fj.2.fat+1) Fj.2.AT),(av.mk EB.A' (EB.Ar++[(al.mk name_2.Eh r1.1 E6.1 name_2.fAt)])))
end
theorem oW (n:Nat):(∀ (EC:aj) (EA:Int) (r:av×Bool×aj),gK n EC EA=some r->aU Tryz.prog 27 [.ptr 1000000 0,.p (eI EA)] [(1000000,[.p (eL ax EC.fl),.p (eI EC.fat),.p (eI EC.AT.AI),.p (eI EC.AT.fAt),.p (eS EC.AT.By)])] (λ x y=>x=.tuple [.p (.agg (av.cs r.1)),.p (eB r.2.1)]/\y=[(1000000,[.p (eL ax r.2.2.fl),.p (eI r.2.2.fat),.p (eI r.2.2.AT.AI),.p (eI r.2.2.AT.fAt),.p (eS r.2.2.AT.By)])]))/\(∀ (EC:aj) (EB:av) (name_2:au) (FW:Int) (r:Bool×aj×av),gG n EC EB name_2 FW=some r->aU Tryz.prog 54 [.ptr 1000000 0,.ptr 1000001 0,.p (.agg (au.cs name_2)),.p (eI FW)] [(1000000,[.p (eL ax EC.fl),.p (eI EC.fat),.p (eI EC.AT.AI),.p (eI EC.AT.fAt),.p (eS EC.AT.By)]),(1000001,[.vec 900000 13 0 (EB.A'.map ae),.vec 900001 5 0 (EB.Ar.map am)])] (λ x y=>x=.p (eB r.1)/\y=[(1000000,[.p (eL ax r.2.1.fl),.p (eI r.2.1.fat),.p (eI r.2.1.AT.AI),.p (eI r.2.1.AT.fAt),.p (eS r.2.1.AT.By)]),(1000001,[.vec 2000000 13 0 (r.2.2.A'.map ae),.vec 2000001 5 0 (r.2.2.Ar.map am)])])):=by
 induction n with
 | zero=>exact ⟨(by intro EC EA r h0; cases h0),(by intro EC EB name_2 FW r h0; cases h0)⟩
 | succ n ih=>
 obtain ⟨Gj,Gk⟩:=ih;refine ⟨?_,?_⟩
 ·skip
  intro EC EA r h0;rw [gK] at h0;refine bT good [] [1000000] Tryz.func27 Z Z Z Z Z λ w0 F=>mPo (λ v:av×Bool×aj=>.tuple [.p (.agg (av.cs v.1)),.p (eB v.2.1)]) (λ v=>[(1000000,[.p (eL ax v.2.2.fl),.p (eI v.2.2.fat),.p (eI v.2.2.AT.AI),.p (eI v.2.2.AT.fAt),.p (eS v.2.2.AT.By)])]) ?_;refine nx 12 rfl (bd h0 λ r1 e2 h0=>?_);refine mO rfl (aQ [1000000] [] 101000 101000 (ks _ EC _ e2) Z Z Z Z Z ⟨sr,trivial⟩ Z Z ⟨⟨_,rfl,⟨sr,sr,sr,sr,sr,trivial⟩⟩,trivial⟩ Z Z Z Z Z Z Z Z Tryz.call51 Z Z ?_);refine nx 3 rfl ?_;obtain ⟨KL,h1,E3,hR0⟩:=bR h0;refine kEx 0 (λ IC:(List ac)×(List al)×(List au)×Int×Int×Int×Bk=>KL=.inl IC) (λ IC=>⟨[(4,.ptr 4 0),(6,.ptr 6 0)],[(4,[.p (.val (.slice none 0 0)),.p (.val (.slice none 0 0))]),(6,[.vec 112000 13 0 (IC.1.map ae),.vec 112001 5 0 (IC.2.1.map am)]),(1000000,[.p (eL ax IC.2.2.1),.p (eI IC.2.2.2.1),.p (eI IC.2.2.2.2.1),.p (eI IC.2.2.2.2.2.1),.p (eS IC.2.2.2.2.2.2)])]⟩) (λ IC hv=>?_) ?_
  ·have h0:=E3 _ hv;exact nx 8 Z (mQo (oi h0) (ay _) Z Z Z Z (aG ⟨pB ⟨sr,sr,trivial⟩,sr,trivial⟩) ⟨⟨_,Z,⟨sr,sr,sr,sr,sr,trivial⟩⟩,trivial⟩)
  refine lG (λ (Jd:(List ac)×(List al)×(List au)×Int×Int×Int×Bk)=>⟨[(0,.ptr 1000000 0),(1,.p (eI EA)),(4,.ptr 4 0),(6,.ptr 6 0)],[(4,[.p (.val (.slice none 0 0)),.p (.val (.slice none 0 0))]),(6,[.vec 106000 13 0 (Jd.1.map ae),.vec 106001 5 0 (Jd.2.1.map am)]),(1000000,[.p (eL ax Jd.2.2.1),.p (eI Jd.2.2.2.1),.p (eI Jd.2.2.2.2.1),.p (eI Jd.2.2.2.2.2.1),.p (eS Jd.2.2.2.2.2.2)])]⟩) (λ m (Jd:(List ac)×(List al)×(List au)×Int×Int×Int×Bk)=>fx n (gG n) EA m Jd.1 Jd.2.1 Jd.2.2.1 Jd.2.2.2.1 Jd.2.2.2.2.1 Jd.2.2.2.2.2.1 Jd.2.2.2.2.2.2) Y ([],[],r1.2.fl,r1.2.fat,r1.2.AT.AI,r1.2.AT.fAt,r1.2.AT.By) h1 (cb (gU ⟨er rfl,er rfl,er rfl,er rfl,trivial⟩ ⟨⟨_,rfl,⟨sr,sr,trivial⟩⟩,⟨_,rfl,⟨AV.sub_nilvec _ _ _,AV.sub_nilvec _ _ _,trivial⟩⟩,⟨_,rfl,⟨sr,sr,sr,sr,sr,trivial⟩⟩,trivial⟩)) ?_;rintro m ⟨Gb,Gp,FY,Fp,GU,G5,G4⟩ h1;replace h1:fx n (gG n) EA (m+1) Gb Gp FY Fp GU G5 G4=some KL:=h1;rw [fx] at h1;refine nx 4 rfl (bd h1 λ Gq K9 h1=>?_);refine mO rfl (aQ [1000000] [] 108000 108000 (dx (aj.mk FY Fp (aE.mk GU G5 G4)) _ K9) rfl rfl rfl rfl rfl ⟨sr,trivial⟩ rfl rfl ⟨⟨_,rfl,⟨sr,sr,sr,sr,sr,trivial⟩⟩,trivial⟩ rfl rfl rfl rfl rfl rfl rfl rfl Tryz.call28 rfl rfl ?_);refine nx 3 rfl (fD [14] h1 rfl (λ Lg h1=>?_) λ Lg h1=>?_)
  ·refine nx 6 Z (bd h1 λ HH K8 h1=>?_);refine mO Z (aQ [1000000] [] 109000 109000 (dx Gq.2 _ K8) Z Z Z Z Z ⟨sr,trivial⟩ Z Z ⟨⟨_,Z,⟨sr,sr,sr,sr,sr,trivial⟩⟩,trivial⟩ Z Z Z Z Z Z Z Z Tryz.call28 Z Z ?_);refine nx 9 Z (oA h1 Z Z λ G2 h1=>?_);refine nx 9 Z (bd h1 λ Lv h2 h1=>?_);refine kN Lv (λ Lj=>⟨[(0,.ptr 1000000 0),(1,.p (eI EA)),(4,.ptr 4 0),(6,.ptr 6 0),(8,.p (eB Lj.1))],[(4,[.p (.val (.slice none 0 0)),.p (.val (.slice none 0 0))]),(6,[.vec 112000 13 0 (Lj.2.1.map ae),.vec 112001 5 0 (Lj.2.2.1.map am)]),(1000000,[.p (eL ax Lj.2.2.2.1),.p (eI Lj.2.2.2.2.1),.p (eI Lj.2.2.2.2.2.1),.p (eI Lj.2.2.2.2.2.2.1),.p (eS Lj.2.2.2.2.2.2.2)])]⟩) ?_ ?_
   ·refine nx 7 Z (fB [34] h1 Z (λ c63 h1=>?_) λ c63 h1=>?_)
    ·exact nx 8 Z (mQo (hR0 _ (oi h1).symm) (ay _) Z Z Z Z (aG ⟨pB ⟨sr,sr,trivial⟩,sr,trivial⟩) ⟨⟨_,Z,⟨sr,sr,sr,sr,sr,trivial⟩⟩,trivial⟩)
    refine nx 5 Z (bd h1 λ IK e65 h1=>?_);refine mO Z (aQ [1000000] [] 113000 113000 (ks _ (aj.mk Lv.2.2.2.1 Lv.2.2.2.2.1 (aE.mk Lv.2.2.2.2.2.1 Lv.2.2.2.2.2.2.1 Lv.2.2.2.2.2.2.2)) _ e65) Z Z Z Z Z ⟨sr,trivial⟩ Z Z ⟨⟨_,Z,⟨sr,sr,sr,sr,sr,trivial⟩⟩,trivial⟩ Z Z Z Z Z Z Z Z Tryz.call51 Z Z ?_);refine nx 2 Z (fB [38] h1 Z (λ c66 h1=>?_) λ c66 h1=>?_)
    ·exact nx 2 Z (eXi _ (oi h1).symm (gE Z Z))
    exact nx 2 Z (eX (Lv.2.1,Lv.2.2.1,IK.2.fl,IK.2.fat,IK.2.AT.AI,IK.2.AT.fAt,IK.2.AT.By) h1 (aK (aY 112000 106000 Z Z Z Z Z) (aK (aY 112001 106001 Z Z Z Z Z) (gE Z Z))))
   refine nx 3 Z (bd h2 λ I6 NF h2=>?_);refine mO Z (aQ [1000000] [] 110000 110000 (jL (aj.mk HH.2.fl (HH.2.fat+1) HH.2.AT) ([61]:Bk) _ NF) Z Z Z Z Z ⟨sr,sr,trivial⟩ Z Z ⟨⟨_,Z,⟨sr,sr,sr,sr,sr,trivial⟩⟩,trivial⟩ Z Z Z Z Z Z Z Z Tryz.call52 Z Z ?_);refine nx 1 Z (fB [25] h2 Z (λ Ld h2=>?_) λ Ld h2=>?_)
   ·refine nx 4 Z (bd h2 λ F1 Mk h2=>?_);refine mO Z (aQ [1000000,6] [106000,106001] 111000 111002 (nJ _ I6.2 (av.mk Gb Gp) HH.1 _ Mk) Z Z Z Z Z ⟨sr,sr,sr,trivial⟩ Z Z ⟨⟨_,Z,⟨sr,sr,sr,sr,sr,trivial⟩⟩,⟨_,Z,⟨sr,sr,trivial⟩⟩,trivial⟩ Z Z Z Z Z Z Z Z Tryz.call53 Z Z ?_);exact nx 2 Z (eX _ (oi h2).symm (aK (aY 111000 112000 Z Z Z Z Z) (aK (aY 111001 112001 Z Z Z Z Z) (gE Z Z))))
   refine nx 5 Z (bd h2 λ H5 NC h2=>?_);refine mO Z (aQ [1000000,6] [106000,106001] 112000 112002 (Gk I6.2 (av.mk Gb Gp) HH.1 EA _ NC) Z Z Z Z Z ⟨sr,sr,sr,sr,trivial⟩ Z Z ⟨⟨_,Z,⟨sr,sr,sr,sr,sr,trivial⟩⟩,⟨_,Z,⟨sr,sr,trivial⟩⟩,trivial⟩ Z Z Z Z Z Z Z Z Tryz.call54 Z Z ?_);exact nx 2 Z (eX _ (oi h2).symm (gE Z Z))
  exact nx 2 Z (eXi _ (oi h1).symm (aK (aY 106000 112000 Z Z Z Z Z) (aK (aY 106001 112001 Z Z Z Z Z) (gE Z Z))))
 ·skip
  intro EC EB name_2 FW r h0;rw [gG] at h0;refine bT good [800000,800001] [1000000,1000001] Tryz.func54 Z Z Z Z Z λ w0 F=>mPo (λ v:Bool×aj×av=>.p (eB v.1)) (λ v=>[(1000000,[.p (eL ax v.2.1.fl),.p (eI v.2.1.fat),.p (eI v.2.1.AT.AI),.p (eI v.2.1.AT.fAt),.p (eS v.2.1.AT.By)]),(1000001,[.vec 2000000 13 0 (v.2.2.A'.map ae),.vec 2000001 5 0 (v.2.2.Ar.map am)])]) ?_;refine nx 8 rfl (bd h0 λ r1 e2 h0=>?_);refine mO rfl (aQ [1000000] [] 101000 101000 (oT _ EC _ e2) Z Z Z Z Z ⟨sr,trivial⟩ Z Z ⟨⟨_,rfl,⟨sr,sr,sr,sr,sr,trivial⟩⟩,trivial⟩ Z Z Z Z Z Z Z Z Tryz.call90 Z Z ?_);refine nx 12 rfl (fB [18] h0 rfl (λ c3 h0=>?_) λ c3 h0=>?_)
  ·exact nx 6 Z (mQo (oi h0) (aK (aY 900000 800000 Z Z Z Z Z) (aK (aY 900001 800001 Z Z Z Z Z) (ay _))) Z Z Z Z (sr) ⟨⟨_,Z,⟨sr,sr,sr,sr,sr,trivial⟩⟩,⟨_,Z,⟨sr,sr,trivial⟩⟩,trivial⟩)
  refine nx 6 Z (bd h0 λ r4 e5 h0=>?_);refine mO Z (aQ [1000000] [] 102000 102000 (jL r1.2.2 ([123]:Bk) _ e5) Z Z Z Z Z ⟨sr,sr,trivial⟩ Z Z ⟨⟨_,Z,⟨sr,sr,sr,sr,sr,trivial⟩⟩,trivial⟩ Z Z Z Z Z Z Z Z Tryz.call52 Z Z ?_);refine nx 2 Z (fB [21] h0 Z (λ c6 h0=>?_) λ c6 h0=>?_)
  ·refine nx 4 Z (bd h0 λ r7 e8 h0=>?_);refine mO Z (aQ [1000000] [] 103000 103000 (fA r4.2 _ e8) Z Z Z Z Z ⟨sr,trivial⟩ Z Z ⟨⟨_,Z,⟨sr,sr,sr,sr,sr,trivial⟩⟩,trivial⟩ Z Z Z Z Z Z Z Z Tryz.call29 Z Z ?_);exact nx 3 Z (mQo (oi h0) (aK (aY 900000 800000 Z Z Z Z Z) (aK (aY 900001 800001 Z Z Z Z Z) (ay _))) Z Z Z Z (sr) ⟨⟨_,Z,⟨sr,sr,sr,sr,sr,trivial⟩⟩,⟨_,Z,⟨sr,sr,trivial⟩⟩,trivial⟩)
  refine nx 8 Z (fD [25] h0 Z (λ c9 h0=>?_) λ c9 h0=>?_)
  ·refine nx 6 Z (bd h0 λ Fb G6 h0=>?_);refine mO Z (aQ [1000000] [] 104000 104000 (fV r4.2 4 name_2.fAt ([]:Bk) _ G6) Z Z Z Z Z ⟨sr,sr,sr,sr,trivial⟩ Z Z ⟨⟨_,Z,⟨sr,sr,sr,sr,sr,trivial⟩⟩,trivial⟩ Z Z Z Z Z Z Z Z Tryz.call55 Z Z ?_);exact nx 3 Z (mQo (oi h0) (aK (aY 900000 800000 Z Z Z Z Z) (aK (aY 900001 800001 Z Z Z Z Z) (ay _))) Z Z Z Z (sr) ⟨⟨_,Z,⟨sr,sr,sr,sr,sr,trivial⟩⟩,⟨_,Z,⟨sr,sr,trivial⟩⟩,trivial⟩)
  refine nx 8 Z (oA h0 Z Z λ HC h0=>?_);refine nx 8 Z (oA h0 Z Z λ HV h0=>?_);refine bd h0 λ E6 H0 h0=>mO Z (aQ [1000000] [] 105000 105000 (Gj (aj.mk r4.2.fl (r4.2.fat+1) r4.2.AT) (FW+1) _ H0) Z Z Z Z Z ⟨sr,sr,trivial⟩ Z Z ⟨⟨_,Z,⟨sr,sr,sr,sr,sr,trivial⟩⟩,trivial⟩ Z Z Z Z Z Z Z Z Tryz.call27 Z Z ?_);refine nx 7 Z (mG (gE (t:=⟨[(0,.ptr 1000000 0),(1,.ptr 1000001 0),(6,.ptr 6 0),(9,.p (eL eS r1.1)),(10,.p (eB E6.2.1)),(11,.ptr 11 0)],[(6,(au.cs name_2).map .p),(11,(av.cs E6.1).map .p),(1000000,(aj.cs E6.2.2).map .p),(1000001,[.vec 900000 13 0 (EB.A'.map ae),.vec 900001 5 0 (EB.Ar.map am)])]⟩) Z Z) ?_);refine nx 6 Z (fB [45] h0 Z (λ Ju h0=>?_) λ Ju h0=>?_)
  ·exact nx 6 Z (mQo (oi h0) (aK (aY 900000 800000 Z Z Z Z Z) (aK (aY 900001 800001 Z Z Z Z Z) (ay _))) Z Z Z Z (sr) ⟨⟨_,Z,⟨sr,sr,sr,sr,sr,trivial⟩⟩,⟨_,Z,⟨sr,sr,trivial⟩⟩,trivial⟩)
  refine nx 6 Z (bd h0 λ Fj JZ h0=>?_);refine mO Z (aQ [1000000] [] 106000 106000 (jL E6.2.2 ([125]:Bk) _ JZ) Z Z Z Z Z ⟨sr,sr,trivial⟩ Z Z ⟨⟨_,Z,⟨sr,sr,sr,sr,sr,trivial⟩⟩,trivial⟩ Z Z Z Z Z Z Z Z Tryz.call52 Z Z ?_);refine nx 2 Z (fB [48] h0 Z (λ HE h0=>?_) λ HE h0=>?_)
  ·refine nx 4 Z (bd h0 λ Gr I5 h0=>?_);refine mO Z (aQ [1000000] [] 107000 107000 (fA Fj.2 _ I5) Z Z Z Z Z ⟨sr,trivial⟩ Z Z ⟨⟨_,Z,⟨sr,sr,sr,sr,sr,trivial⟩⟩,trivial⟩ Z Z Z Z Z Z Z Z Tryz.call29 Z Z ?_);exact nx 3 Z (mQo (oi h0) (aK (aY 900000 800000 Z Z Z Z Z) (aK (aY 900001 800001 Z Z Z Z Z) (ay _))) Z Z Z Z (sr) ⟨⟨_,Z,⟨sr,sr,sr,sr,sr,trivial⟩⟩,⟨_,Z,⟨sr,sr,trivial⟩⟩,trivial⟩)
  refine nx 8 Z (oA h0 Z Z λ Fl h0=>?_);refine nx 5 Z (cc' h0 λ FK h0=>?_);refine mG (gE (t:=⟨[(1,.ptr 1000001 0),(6,.ptr 6 0),(9,.p (eL eS r1.1)),(11,.ptr 11 0)],[(6,(au.cs name_2).map .p),(11,(av.cs E6.1).map .p),(1000000,[.p (eL ax Fj.2.fl),.p (eI (Fj.2.fat+1)),.p (eI Fj.2.AT.AI),.p (eI Fj.2.AT.fAt),.p (eS Fj.2.AT.By)]),(1000001,[.vec 900000 13 0 (EB.A'.map ae),.vec 900001 5 0 (EB.Ar.map am)])]⟩) Z Z) (mSP ⟨3,[13,15,18],(by4 (.some λ i=>Nat.beq i 900001||Nat.beq i 71) (.fn (upP 71 5 (.agg [eS name_2.Eh,eL eS r1.1,eL ae E6.1.A',eL am E6.1.Ar,eI name_2.fAt]))) .none .none),(λ _=>[(1,.ptr 1000001 0),(6,.ptr 6 0),(9,.p (eL eS r1.1)),(11,.ptr 11 0)]),(by4 ([(6,[.p (eI name_2.AI),.p (eS name_2.Eh),.p (eI name_2.fAt)]),(11,[.p (eL ae E6.1.A'),.p (eL am E6.1.Ar)]),(1000000,[.p (eL ax Fj.2.fl),.p (eI (Fj.2.fat+1)),.p (eI Fj.2.AT.AI),.p (eI Fj.2.AT.fAt),.p (eS Fj.2.AT.By)]),(1000001,[.vec 900000 13 0 (EB.A'.map ae),.vec 900001 5 0 (EB.Ar.map am)])]) ([(6,[.p (eI name_2.AI),.p (eS name_2.Eh),.p (eI name_2.fAt)]),(11,[.p (eL ae E6.1.A'),.p (eL am E6.1.Ar)]),(1000000,[.p (eL ax Fj.2.fl),.p (eI (Fj.2.fat+1)),.p (eI Fj.2.AT.AI),.p (eI Fj.2.AT.fAt),.p (eS Fj.2.AT.By)]),(1000001,[.vec 900000 13 0 (EB.A'.map ae),.p (eL am EB.Ar)])]) ([(6,[.p (eI name_2.AI),.p (eS name_2.Eh),.p (eI name_2.fAt)]),(11,[.p (eL ae E6.1.A'),.p (eL am E6.1.Ar)]),(1000000,[.p (eL ax Fj.2.fl),.p (eI (Fj.2.fat+1)),.p (eI Fj.2.AT.AI),.p (eI Fj.2.AT.fAt),.p (eS Fj.2.AT.By)]),(1000001,[.vec 900000 13 0 (EB.A'.map ae),.p (eL am EB.Ar)])]) ([(1000001,[.vec 900000 13 0 (EB.A'.map ae),.vec 71 5 0 (EB.Ar.map am++[.agg [eS name_2.Eh,eL eS r1.1,eL ae E6.1.A',eL am E6.1.Ar,eI name_2.fAt]])]),(6,[.p (eI name_2.AI),.p (eS name_2.Eh),.p (eI name_2.fAt)]),(11,[.p (eL ae E6.1.A'),.p (eL am E6.1.Ar)]),(1000000,[.p (eL ax Fj.2.fl),.p (eI (Fj.2.fat+1)),.p (eI Fj.2.AT.AI),.p (eI Fj.2.AT.fAt),.p (eS Fj.2.AT.By)]),(1000001,[.vec 900000 13 0 (EB.A'.map ae),.p (eL am EB.Ar)])]))⟩ ⟨3,[13,18,15],(by4 (.some λ i=>Nat.beq i 900001||Nat.beq i 71) .none (.fn (upP 71 5 (.agg [eS name_2.Eh,eL eS r1.1,eL ae E6.1.A',eL am E6.1.Ar,eI name_2.fAt]))) .none),(λ _=>[(1,.ptr 1000001 0),(6,.ptr 6 0),(9,.p (eL eS r1.1)),(11,.ptr 11 0)]),(by4 ([(6,[.p (eI name_2.AI),.p (eS name_2.Eh),.p (eI name_2.fAt)]),(11,[.p (eL ae E6.1.A'),.p (eL am E6.1.Ar)]),(1000000,[.p (eL ax Fj.2.fl),.p (eI (Fj.2.fat+1)),.p (eI Fj.2.AT.AI),.p (eI Fj.2.AT.fAt),.p (eS Fj.2.AT.By)]),(1000001,[.vec 900000 13 0 (EB.A'.map ae),.vec 900001 5 0 (EB.Ar.map am)])]) ([(6,[.p (eI name_2.AI),.p (eS name_2.Eh),.p (eI name_2.fAt)]),(11,[.p (eL ae E6.1.A'),.p (eL am E6.1.Ar)]),(1000000,[.p (eL ax Fj.2.fl),.p (eI (Fj.2.fat+1)),.p (eI Fj.2.AT.AI),.p (eI Fj.2.AT.fAt),.p (eS Fj.2.AT.By)]),(1000001,[.vec 900000 13 0 (EB.A'.map ae),.p (eL am EB.Ar)])]) ([(1000001,[.vec 900000 13 0 (EB.A'.map ae),.vecp 71 5 0 (EB.Ar.map am)]),(6,[.p (eI name_2.AI),.p (eS name_2.Eh),.p (eI name_2.fAt)]),(11,[.p (eL ae E6.1.A'),.p (eL am E6.1.Ar)]),(1000000,[.p (eL ax Fj.2.fl),.p (eI (Fj.2.fat+1)),.p (eI Fj.2.AT.AI),.p (eI Fj.2.AT.fAt),.p (eS Fj.2.AT.By)]),(1000001,[.vec 900000 13 0 (EB.A'.map ae),.p (eL am EB.Ar)])]) ([(1000001,[.vec 900000 13 0 (EB.A'.map ae),.vec 71 5 0 (EB.Ar.map am++[.agg [eS name_2.Eh,eL eS r1.1,eL ae E6.1.A',eL am E6.1.Ar,eI name_2.fAt]])]),(6,[.p (eI name_2.AI),.p (eS name_2.Eh),.p (eI name_2.fAt)]),(11,[.p (eL ae E6.1.A'),.p (eL am E6.1.Ar)]),(1000000,[.p (eL ax Fj.2.fl),.p (eI (Fj.2.fat+1)),.p (eI Fj.2.AT.AI),.p (eI Fj.2.AT.fAt),.p (eS Fj.2.AT.By)]),(1000001,[.vec 900000 13 0 (EB.A'.map ae),.p (eL am EB.Ar)])]))⟩ Z Z Z Z Z Z Z ⟨Z,Z,Z,Z,trivial⟩ Z (lt3 ⟨Z,Z,Z,Z,trivial⟩ ⟨Z,Z,Z,Z,trivial⟩ ⟨Z,Z,Z,Z,trivial⟩) (lt3 ⟨Z,Z,Z,Z,trivial⟩ ⟨Z,Z,Z,Z,trivial⟩ ⟨Z,Z,Z,Z,trivial⟩) Z Z Z Z Z ?_);refine ap (λ _=>.ptr 1000001 0) Z Z Z (eR Z Z Z Y) (lt3 Z Z Z) (ai Z (ai Z (ai Z (af [(1,_)] ⟨.inl Z,trivial⟩ (λ sl Ey K hK=>ab Z (bM Z Z Z (Ey _ _ Z) hK)) ao)))) (ap (λ _=>.ptr 1000001 0) Z Z Z (eR Z Z Z Y) (lt3 Z Z Z) (ai Z (ai Z (ai Z (af [(58,_)] ⟨.inr ⟨0,_,Z,Z,Z⟩,trivial⟩ (λ sl Ey K hK=>ab Z (bK Z Z Z (Ey _ _ Z) hK)) ao)))) ?_);refine ap (λ _=>.ptr 1000001 1) Z Z Z (eR Z Z Z Y) (lt3 Z Z Z) (ai Z (ai Z (ai Z (af [(59,_)] ⟨.inr ⟨1,_,Z,Z,Z⟩,trivial⟩ (λ sl Ey K hK=>ab Z (aC Z Z Z Z Z Z Z Z (Ey _ _ Z) hK)) ao)))) (ap (by4 (.vec 900001 5 0 (EB.Ar.map am)) (.p (eL am EB.Ar)) (.p (eL am EB.Ar)) (.p (eL am EB.Ar))) Z Z Z (eR Z Z Z Y) (lt3 Z Z Z) (ai Z (ai Z (ai Z (af [(60,_)] ⟨.inr ⟨2,_,Z,Z,Z⟩,trivial⟩ (λ sl Ey K hK=>ab Z (bn Z Z Z Z Z (Ey _ _ Z) Z Z hK)) ao)))) ?_);refine ap (λ _=>.ptr 6 1) Z Z Z (eR Z Z Z Y) (lt3 Z Z Z) (ai Z (ai Z (ai Z (af [(6,_)] ⟨.inl Z,trivial⟩ (λ sl Ey K hK=>ab Z (aC Z Z Z Z Z Z Z Z (Ey _ _ Z) hK)) ao)))) (ap (λ _=>.p (eS name_2.Eh)) Z Z Z (eR Z Z Z Y) (lt3 Z Z Z) (ai Z (ai Z (ai Z (af [(62,_)] ⟨.inr ⟨4,_,Z,Z,Z⟩,trivial⟩ (λ sl Ey K hK=>ab Z (bn Z Z Z Z Z (Ey _ _ Z) Z Z hK)) ao)))) ?_);refine ap (λ _=>.p (eL eS r1.1)) Z Z Z (eR Z Z Z Y) (lt3 Z Z Z) (ai Z (ai Z (ai Z (af [(9,_)] ⟨.inl Z,trivial⟩ (λ sl Ey K hK=>ab Z (bM Z Z Z (Ey _ _ Z) hK)) ao)))) (ap (λ _=>.p (.agg (av.cs E6.1))) Z Z Z (eR Z Z Z Y) (lt3 Z Z Z) (ai Z (ai Z (ai Z (af [(11,_)] ⟨.inl Z,trivial⟩ (λ sl Ey K hK=>ab Z (d5 Z Z Z Z Z (Ey _ _ Z) Z Z Z hK)) ao)))) ?_);refine ap (λ _=>.ptr 6 2) Z Z Z (eR Z Z Z Y) (lt3 Z Z Z) (ai Z (ai Z (ai Z (af [(6,_)] ⟨.inl Z,trivial⟩ (λ sl Ey K hK=>ab Z (aC Z Z Z Z Z Z Z Z (Ey _ _ Z) hK)) ao)))) (ap (λ _=>.p (eI name_2.fAt)) Z Z Z (eR Z Z Z Y) (lt3 Z Z Z) (ai Z (ai Z (ai Z (af [(66,_)] ⟨.inr ⟨8,_,Z,Z,Z⟩,trivial⟩ (λ sl Ey K hK=>ab Z (bn Z Z Z Z Z (Ey _ _ Z) Z Z hK)) ao)))) ?_);refine ap (λ _=>.p (.agg [eS name_2.Eh,eL eS r1.1,eL ae E6.1.A',eL am E6.1.Ar,eI name_2.fAt])) Z Z Z (eR Z Z Z Y) (lt3 Z Z Z) (ai Z (ai Z (ai Z (af [(63,_),(64,_),(65,_),(67,_)] ⟨.inr ⟨5,_,Z,Z,Z⟩,.inr ⟨6,_,Z,Z,Z⟩,.inr ⟨7,_,Z,Z,Z⟩,.inr ⟨9,_,Z,Z,Z⟩,trivial⟩ (λ sl Ey K hK=>ab Z (gH Z Z Z Z Z Z (bU (Ey _ _ Z) (bU (Ey _ _ Z) (bU (Ey _ _ Z) (bU (Ey _ _ Z) gB)))) Z Z hK)) ao)))) (ap (λ _=>.p (eI (EB.Ar.length:Int))) Z Z Z (eR Z Z Z Y) (lt3 Z Z Z) (ai Z (ai Z (ai Z (af [(61,_)] ⟨.inr ⟨3,_,Z,Z,Z⟩,trivial⟩ (λ sl Ey K hK=>ab Z (j7 (f:=am) (l:=EB.Ar) Z Z Z Z Z (Ey _ _ Z) Z hK)) ao)))) ?_);refine ap (λ _=>.p (eL (λ x:PV=>x) [.agg [eS ([]:Bk),.val (.slice none 0 0),.val (.slice none 0 0),.val (.slice none 0 0),eI 0]])) Z Z Z (eR Z Z Z Y) (lt3 Z Z Z) (ai Z (ai Z (ai Z (af [] trivial (λ sl Ey K hK=>ab Z (bg (λ x:PV=>x) [.agg [eS ([]:Bk),.val (.slice none 0 0),.val (.slice none 0 0),.val (.slice none 0 0),eI 0]] Z Z Z Z Z Z (b7 Z Z cG) Z Z Z Z Z Z Z hK)) ao)))) (dh (by4 (.vecp 71 5 0 (EB.Ar.map am)) (.vecp 71 5 0 (EB.Ar.map am)) (.vec 71 5 0 (EB.Ar.map am++[.agg [eS name_2.Eh,eL eS r1.1,eL ae E6.1.A',eL am E6.1.Ar,eI name_2.fAt]])) (.vec 71 5 0 (EB.Ar.map am++[.agg [eS name_2.Eh,eL eS r1.1,eL ae E6.1.A',eL am E6.1.Ar,eI name_2.fAt]]))) [(61,_),(70,_)] Z ⟨.inr ⟨3,_,Z,Z,Z⟩,.inr ⟨12,_,Z,Z,Z⟩,trivial⟩ Z Z (b9 Z Z Y) (lt3 (λ h=>absurd h (by decide)) Y Y) (λ sl Ey K hK=>ab Z (nP am EB.Ar Z Z Z Z Z Z Z Z (Ey _ _ Z) Z Z (Ey _ _ Z) Z Z Z Z Z FK hK)) ?_);refine mz (by4 (.elp 71 5) (.elp 71 5) .undef .undef) Z Z Z (eR Z Z Z Y) (lt3 (nl Z) Y Y) (ai Z (ai Z (af [(69,_),(71,_)] ⟨.inr ⟨11,_,Z,Z,Z⟩,.inr ⟨13,_,Z,Z,Z⟩,trivial⟩ (λ sl Ey K hK=>ab Z (l4 Z Z Z Z Z Z Z (Ey _ _ Z) (Ey _ _ Z) (by rw [d3]) hK)) (ai Z ao)))) (dj [(68,_),(72,_)] Z ⟨.inr ⟨10,_,Z,Z,Z⟩,.inr ⟨14,_,Z,Z,Z⟩,trivial⟩ Z (λ sl Ey K hK=>ab Z (rK (z:=.agg [eS name_2.Eh,eL eS r1.1,eL ae E6.1.A',eL am E6.1.Ar,eI name_2.fAt]) Z Z Z Z (Ey _ _ Z) (Ey _ _ Z) Z Z Z Z Z hK)) ?_);refine ap (λ _=>.ptr 1000001 0) Z Z Z (eR Z Z Z Y) (lt3 Z Z Z) (af [(58,_)] ⟨.inr ⟨0,_,Z,Z,Z⟩,trivial⟩ (λ sl Ey K hK=>ab Z (bK Z Z Z (Ey _ _ Z) hK)) (af [(58,_)] ⟨.inr ⟨0,_,Z,Z,Z⟩,trivial⟩ (λ sl Ey K hK=>ab Z (bK Z Z Z (Ey _ _ Z) hK)) (af [(58,_)] ⟨.inr ⟨0,_,Z,Z,Z⟩,trivial⟩ (λ sl Ey K hK=>ab Z (bK Z Z Z (Ey _ _ Z) hK)) (ai Z ao)))) (ap (λ _=>.ptr 1000001 1) Z Z Z (eR Z Z Z Y) (lt3 Z Z Z) (ai Z (af [(73,_)] ⟨.inr ⟨16,_,Z,Z,Z⟩,trivial⟩ (λ sl Ey K hK=>ab Z (aC Z Z Z Z Z Z Z Z (Ey _ _ Z) hK)) (af [(73,_)] ⟨.inr ⟨16,_,Z,Z,Z⟩,trivial⟩ (λ sl Ey K hK=>ab Z (aC Z Z Z Z Z Z Z Z (Ey _ _ Z) hK)) (ai Z ao)))) ?_);refine dj [(71,_),(74,_)] Z ⟨.inr ⟨13,_,Z,Z,Z⟩,.inr ⟨17,_,Z,Z,Z⟩,trivial⟩ Z (λ sl Ey K hK=>ab Z (em Z Z Z (Ey _ _ Z) (Ey _ _ Z) Z Z Z (n6 Z) hK)) (tB (ap (λ _=>.ptr 1000001 0) Z Z Z (eR Z Z Z Y) (lt3 Z Z Z) (ai Z (ai Z (ai Z (af [(1,_)] ⟨.inl Z,trivial⟩ (λ sl Ey K hK=>ab Z (bM Z Z Z (Ey _ _ Z) hK)) ao)))) (ap (λ _=>.ptr 1000001 0) Z Z Z (eR Z Z Z Y) (lt3 Z Z Z) (ai Z (ai Z (ai Z (af [(58,_)] ⟨.inr ⟨0,_,Z,Z,Z⟩,trivial⟩ (λ sl Ey K hK=>ab Z (bK Z Z Z (Ey _ _ Z) hK)) ao)))) (ap (λ _=>.ptr 1000001 1) Z Z Z (eR Z Z Z Y) (lt3 Z Z Z) (ai Z (ai Z (ai Z (af [(59,_)] ⟨.inr ⟨1,_,Z,Z,Z⟩,trivial⟩ (λ sl Ey K hK=>ab Z (aC Z Z Z Z Z Z Z Z (Ey _ _ Z) hK)) ao)))) (ap (by4 (.vec 900001 5 0 (EB.Ar.map am)) (.p (eL am EB.Ar)) (.p (eL am EB.Ar)) (.p (eL am EB.Ar))) Z Z Z (eR Z Z Z Y) (lt3 Z Z Z) (ai Z (ai Z (ai Z (af [(60,_)] ⟨.inr ⟨2,_,Z,Z,Z⟩,trivial⟩ (λ sl Ey K hK=>ab Z (bn Z Z Z Z Z (Ey _ _ Z) Z Z hK)) ao)))) (ap (λ _=>.ptr 6 1) Z Z Z (eR Z Z Z Y) (lt3 Z Z Z) (ai Z (ai Z (ai Z (af [(6,_)] ⟨.inl Z,trivial⟩ (λ sl Ey K hK=>ab Z (aC Z Z Z Z Z Z Z Z (Ey _ _ Z) hK)) ao)))) (ap (λ _=>.p (eS name_2.Eh)) Z Z Z (eR Z Z Z Y) (lt3 Z Z Z) (ai Z (ai Z (ai Z (af [(62,_)] ⟨.inr ⟨4,_,Z,Z,Z⟩,trivial⟩ (λ sl Ey K hK=>ab Z (bn Z Z Z Z Z (Ey _ _ Z) Z Z hK)) ao)))) (ap (λ _=>.p (eL eS r1.1)) Z Z Z (eR Z Z Z Y) (lt3 Z Z Z) (ai Z (ai Z (ai Z (af [(9,_)] ⟨.inl Z,trivial⟩ (λ sl Ey K hK=>ab Z (bM Z Z Z (Ey _ _ Z) hK)) ao)))) (ap (λ _=>.p (.agg (av.cs E6.1))) Z Z Z (eR Z Z Z Y) (lt3 Z Z Z) (ai Z (ai Z (ai Z (af [(11,_)] ⟨.inl Z,trivial⟩ (λ sl Ey K hK=>ab Z (d5 Z Z Z Z Z (Ey _ _ Z) Z Z Z hK)) ao)))) (ap (λ _=>.ptr 6 2) Z Z Z (eR Z Z Z Y) (lt3 Z Z Z) (ai Z (ai Z (ai Z (af [(6,_)] ⟨.inl Z,trivial⟩ (λ sl Ey K hK=>ab Z (aC Z Z Z Z Z Z Z Z (Ey _ _ Z) hK)) ao)))) (ap (λ _=>.p (eI name_2.fAt)) Z Z Z (eR Z Z Z Y) (lt3 Z Z Z) (ai Z (ai Z (ai Z (af [(66,_)] ⟨.inr ⟨8,_,Z,Z,Z⟩,trivial⟩ (λ sl Ey K hK=>ab Z (bn Z Z Z Z Z (Ey _ _ Z) Z Z hK)) ao)))) (ap (λ _=>.p (.agg [eS name_2.Eh,eL eS r1.1,eL ae E6.1.A',eL am E6.1.Ar,eI name_2.fAt])) Z Z Z (eR Z Z Z Y) (lt3 Z Z Z) (ai Z (ai Z (ai Z (af [(63,_),(64,_),(65,_),(67,_)] ⟨.inr ⟨5,_,Z,Z,Z⟩,.inr ⟨6,_,Z,Z,Z⟩,.inr ⟨7,_,Z,Z,Z⟩,.inr ⟨9,_,Z,Z,Z⟩,trivial⟩ (λ sl Ey K hK=>ab Z (gH Z Z Z Z Z Z (bU (Ey _ _ Z) (bU (Ey _ _ Z) (bU (Ey _ _ Z) (bU (Ey _ _ Z) gB)))) Z Z hK)) ao)))) (ap (λ _=>.p (eI (EB.Ar.length:Int))) Z Z Z (eR Z Z Z Y) (lt3 Z Z Z) (ai Z (ai Z (ai Z (af [(61,_)] ⟨.inr ⟨3,_,Z,Z,Z⟩,trivial⟩ (λ sl Ey K hK=>ab Z (j7 (f:=am) (l:=EB.Ar) Z Z Z Z Z (Ey _ _ Z) Z hK)) ao)))) (ap (λ _=>.p (eL (λ x:PV=>x) [.agg [eS ([]:Bk),.val (.slice none 0 0),.val (.slice none 0 0),.val (.slice none 0 0),eI 0]])) Z Z Z (eR Z Z Z Y) (lt3 Z Z Z) (ai Z (ai Z (ai Z (af [] trivial (λ sl Ey K hK=>ab Z (bg (λ x:PV=>x) [.agg [eS ([]:Bk),.val (.slice none 0 0),.val (.slice none 0 0),.val (.slice none 0 0),eI 0]] Z Z Z Z Z Z (b7 Z Z cG) Z Z Z Z Z Z Z hK)) ao)))) (dh (by4 (.vecp 71 5 0 (EB.Ar.map am)) (.vecp 71 5 0 (EB.Ar.map am)) (.vecp 71 5 0 (EB.Ar.map am)) (.vec 71 5 0 (EB.Ar.map am++[.agg [eS name_2.Eh,eL eS r1.1,eL ae E6.1.A',eL am E6.1.Ar,eI name_2.fAt]]))) [(61,_),(70,_)] Z ⟨.inr ⟨3,_,Z,Z,Z⟩,.inr ⟨12,_,Z,Z,Z⟩,trivial⟩ Z Z (b9 Z Z Y) (lt3 (λ h=>absurd h (by decide)) Y Y) (λ sl Ey K hK=>ab Z (nP am EB.Ar Z Z Z Z Z Z Z Z (Ey _ _ Z) Z Z (Ey _ _ Z) Z Z Z Z Z FK hK)) (mz (by4 (.elp 71 5) (.elp 71 5) (.elp 71 5) .undef) Z Z Z (eR Z Z Z Y) (lt3 (nl Z) Y Y) (ai Z (af [(69,_),(71,_)] ⟨.inr ⟨11,_,Z,Z,Z⟩,.inr ⟨13,_,Z,Z,Z⟩,trivial⟩ (λ sl Ey K hK=>ab Z (l4 Z Z Z Z Z Z Z (Ey _ _ Z) (Ey _ _ Z) (by rw [d3]) hK)) (af [(69,_),(71,_)] ⟨.inr ⟨11,_,Z,Z,Z⟩,.inr ⟨13,_,Z,Z,Z⟩,trivial⟩ (λ sl Ey K hK=>ab Z (l4 Z Z Z Z Z Z Z (Ey _ _ Z) (Ey _ _ Z) (by rw [d3]) hK)) (ai Z ao)))) (dj [(68,_),(72,_)] Z ⟨.inr ⟨10,_,Z,Z,Z⟩,.inr ⟨14,_,Z,Z,Z⟩,trivial⟩ Z (λ sl Ey K hK=>ab Z (rK (z:=.agg [eS name_2.Eh,eL eS r1.1,eL ae E6.1.A',eL am E6.1.Ar,eI name_2.fAt]) Z Z Z Z (Ey _ _ Z) (Ey _ _ Z) Z Z Z Z Z hK)) (ap (λ _=>.ptr 1000001 0) Z Z Z (eR Z Z Z Y) (lt3 Z Z Z) (af [(58,_)] ⟨.inr ⟨0,_,Z,Z,Z⟩,trivial⟩ (λ sl Ey K hK=>ab Z (bK Z Z Z (Ey _ _ Z) hK)) (af [(58,_)] ⟨.inr ⟨0,_,Z,Z,Z⟩,trivial⟩ (λ sl Ey K hK=>ab Z (bK Z Z Z (Ey _ _ Z) hK)) (af [(58,_)] ⟨.inr ⟨0,_,Z,Z,Z⟩,trivial⟩ (λ sl Ey K hK=>ab Z (bK Z Z Z (Ey _ _ Z) hK)) (ai Z ao)))) (ap (λ _=>.ptr 1000001 1) Z Z Z (eR Z Z Z Y) (lt3 Z Z Z) (ai Z (ai Z (af [(73,_)] ⟨.inr ⟨16,_,Z,Z,Z⟩,trivial⟩ (λ sl Ey K hK=>ab Z (aC Z Z Z Z Z Z Z Z (Ey _ _ Z) hK)) (ai Z ao)))) (dj [(71,_),(74,_)] Z ⟨.inr ⟨13,_,Z,Z,Z⟩,.inr ⟨17,_,Z,Z,Z⟩,trivial⟩ Z (λ sl Ey K hK=>ab Z (em Z Z Z (Ey _ _ Z) (Ey _ _ Z) Z Z Z (n6 Z) hK)) (vM Z ⟨Z,Z,Z,Z,Z,trivial⟩ ⟨⟨Z,Z,.inr Z⟩,⟨⟨Z,Z,.inr Z⟩,⟨⟨Z,Z,.inr Z⟩,⟨⟨Z,Z,.inr Z⟩,⟨⟨Z,Z,.inr Z⟩,⟨⟨Z,Z,.inr Z⟩,⟨⟨Z,Z,.inr Z⟩,⟨⟨Z,Z,.inr Z⟩,⟨⟨Z,Z,.inr Z⟩,⟨⟨Z,Z,.inr Z⟩,⟨⟨Z,Z,.inr Z⟩,⟨⟨Z,Z,.inr Z⟩,⟨⟨Z,Z,.inr Z⟩,⟨⟨Z,Z,.inr Z⟩,⟨⟨Z,Z,.inr Z⟩,⟨⟨Z,Z,.inr Z⟩,⟨⟨Z,Z,.inr Z⟩,trivial⟩⟩⟩⟩⟩⟩⟩⟩⟩⟩⟩⟩⟩⟩⟩⟩⟩)))))))))))))))))))) ?_);refine mG (cb (t:=⟨[],[(1000000,[.p (eL ax Fj.2.fl),.p (eI (Fj.2.fat+1)),.p (eI Fj.2.AT.AI),.p (eI Fj.2.AT.fAt),.p (eS Fj.2.AT.By)]),(1000001,[.vec 900000 13 0 (EB.A'.map ae),.vec 71 5 0 ((EB.Ar++[(al.mk name_2.Eh r1.1 E6.1 name_2.fAt)]).map am)])]⟩) (gU trivial ⟨⟨_,Z,⟨sr,sr,sr,sr,sr,trivial⟩⟩,⟨_,Z,⟨sr,AV.sub_of_eq (by first|(simp only [List.map_append,aq,bx,al.Ef]; done)|(simp only [List.map_append,aq,bx,al.Ef]; rfl)),trivial⟩⟩,trivial⟩)) (nx 6 Z ?_);exact mQo (oi h0) (aK (aY 900000 800000 Z Z Z Z Z) (aK (aY 71 800001 Z Z Z Z Z) (ay _))) Z Z Z Z (sr) ⟨⟨_,Z,⟨sr,sr,sr,sr,sr,trivial⟩⟩,⟨_,Z,⟨sr,sr,trivial⟩⟩,trivial⟩
theorem px (n:Nat):∀ (EC:aj) (EA:Int) (r:av×Bool×aj),gK n EC EA=some r->aU Tryz.prog 27 [.ptr 1000000 0,.p (eI EA)] [(1000000,[.p (eL ax EC.fl),.p (eI EC.fat),.p (eI EC.AT.AI),.p (eI EC.AT.fAt),.p (eS EC.AT.By)])] (λ x y=>x=.tuple [.p (.agg (av.cs r.1)),.p (eB r.2.1)]/\y=[(1000000,[.p (eL ax r.2.2.fl),.p (eI r.2.2.fat),.p (eI r.2.2.AT.AI),.p (eI r.2.2.AT.fAt),.p (eS r.2.2.AT.By)])]):=(oW n).1
def mf (n:Nat)(Ez:Bk):Option (av×aE) :=(oz n Ez).bind λ r1=>if r1.2.AI=0 then(gK n (aj.mk r1.1 0 (aE.mk 0 0 ([]:Bk))) 0).bind λ r4=>((if r4.2.1=true then(dm r4.2.2).bind λ r7=>some (!decide (r7.1.AI=6),r7.2.fl,r7.2.fat,r7.2.AT.AI,r7.2.AT.fAt,r7.2.AT.By)else some (false,r4.2.2.fl,r4.2.2.fat,r4.2.2.AT.AI,r4.2.2.AT.fAt,r4.2.2.AT.By) : Option (Bool×(List au)×Int×Int×Int×Bk)).bind λ GZ=>if GZ.1=true then(eN (aj.mk GZ.2.1 GZ.2.2.1 (aE.mk GZ.2.2.2.1 GZ.2.2.2.2.1 GZ.2.2.2.2.2))).bind λ Fs=>some (Fs.1,Fs.2.fl,Fs.2.fat,Fs.2.AT.AI,Fs.2.AT.fAt,Fs.2.AT.By)else some (r4.2.1,GZ.2.1,GZ.2.2.1,GZ.2.2.2.1,GZ.2.2.2.2.1,GZ.2.2.2.2.2) : Option (Bool×(List au)×Int×Int×Int×Bk)).bind λ Ls=>if (!Ls.1)=true then some ((av.mk [] []),(aE.mk Ls.2.2.2.1 Ls.2.2.2.2.1 Ls.2.2.2.2.2))else some (r4.1,(aE.mk 0 0 ([]:Bk)))else some ((av.mk [] []),r1.2)
theorem nD (n:Nat)(Ez:Bk)(r:av×aE)(h0:mf n Ez=some r):aF Tryz.prog 10 [eS Ez] (·=.tuple [.p (.agg (av.cs r.1)),.p (.agg (aE.cs r.2))]):=by
 unfold mf at h0;refine aZ good Tryz.func10 Z Z Z λ w0=>mP (λ v:av×aE=>.tuple [.p (.agg (av.cs v.1)),.p (.agg (aE.cs v.2))]) ?_;refine nx 8 Z (bd h0 λ r1 e2 h0=>?_);refine oK (qh _ Ez _ e2) Z ⟨sr,trivial⟩ Tryz.call26 Z (nx 14 Z ?_);refine fN [16] h0 Z (λ c3 h0=>?_) λ c3 h0=>?_
 ·refine nx 12 Z (bd h0 λ r4 e5 h0=>?_);refine mO Z (aQ [21] [] 101000 101000 (px _ (aj.mk r1.1 0 (aE.mk 0 0 ([]:Bk))) 0 _ e5) Z Z Z Z Z ⟨sr,sr,trivial⟩ Z Z ⟨⟨_,Z,⟨sr,sr,sr,sr,sr,trivial⟩⟩,trivial⟩ Z Z Z Z Z Z Z Z Tryz.call27 Z Z ?_);refine nx 8 Z (bd h0 λ FR h1 h0=>?_);refine kN FR (λ HZ=>⟨[(2,.ptr 2 0),(3,.ptr 3 0),(6,.ptr 21 0),(7,.ptr 7 0),(8,.p (eB HZ.1))],[(2,[.p (.val (.slice none 0 0)),.p (.val (.slice none 0 0))]),(3,[.p (eI 0),.p (eI 0),.p (eS ([]:Bk))]),(7,(av.cs r4.1).map .p),(21,[.p (eL ax HZ.2.1),.p (eI HZ.2.2.1),.p (eI HZ.2.2.2.1),.p (eI HZ.2.2.2.2.1),.p (eS HZ.2.2.2.2.2)])]⟩) ?_ ?_
  ·refine nx 7 Z (fB [37] h0 Z (λ HD h0=>?_) λ HD h0=>?_)
   ·refine nx 2 Z (mG (gE (t:=⟨[(2,.ptr 2 0),(3,.ptr 3 0),(6,.ptr 21 0)],[(2,[.p (.val (.slice none 0 0)),.p (.val (.slice none 0 0))]),(3,[.p (eI 0),.p (eI 0),.p (eS ([]:Bk))]),(21,[.p (eL ax FR.2.1),.p (eI FR.2.2.1),.p (eI FR.2.2.2.1),.p (eI FR.2.2.2.2.1),.p (eS FR.2.2.2.2.2)])]⟩) Z Z) ?_);refine mS ⟨2,[5,6],(λ _=>.none),(λ _=>[(2,.ptr 2 0),(3,.ptr 3 0),(6,.ptr 21 0)]),(by3 ([(2,[.p (.val (.slice none 0 0)),.p (.val (.slice none 0 0))]),(3,[.p (eI 0),.p (eI 0),.p (eS ([]:Bk))]),(21,[.p (eL ax FR.2.1),.p (eI FR.2.2.1),.p (eI FR.2.2.2.1),.p (eI FR.2.2.2.2.1),.p (eS FR.2.2.2.2.2)])]) ([(2,[.p (.val (.slice none 0 0)),.p (.val (.slice none 0 0))]),(2,[.p (.val (.slice none 0 0)),.p (.val (.slice none 0 0))]),(3,[.p (eI 0),.p (eI 0),.p (eS ([]:Bk))]),(21,[.p (eL ax FR.2.1),.p (eI FR.2.2.1),.p (eI FR.2.2.2.1),.p (eI FR.2.2.2.2.1),.p (eS FR.2.2.2.2.2)])]) ([(3,[.p (eI FR.2.2.2.1),.p (eI FR.2.2.2.2.1),.p (eS FR.2.2.2.2.2)]),(2,[.p (.val (.slice none 0 0)),.p (.val (.slice none 0 0))]),(2,[.p (.val (.slice none 0 0)),.p (.val (.slice none 0 0))]),(3,[.p (eI 0),.p (eI 0),.p (eS ([]:Bk))]),(21,[.p (eL ax FR.2.1),.p (eI FR.2.2.1),.p (eI FR.2.2.2.1),.p (eI FR.2.2.2.2.1),.p (eS FR.2.2.2.2.2)])]))⟩ Z Z Z ⟨Z,Z,Z,trivial⟩ (lt2 ⟨Z,Z,Z,trivial⟩ ⟨Z,Z,Z,trivial⟩) Z Z Z Z (ap (λ _=>.p (.agg [.val (.slice none 0 0),.val (.slice none 0 0)])) Z Z Z (b9 Z Z Y) (lt2 Z Z) (ai Z (ai Z (af [] trivial (λ sl Ey K hK=>ab Z (gH Z Z Z Z Z Z gB Z Z hK)) ao))) ?_);refine ap (λ _=>.ptr 21 0) Z Z Z (b9 Z Z Y) (lt2 Z Z) (ai Z (af [(6,_)] ⟨.inl Z,trivial⟩ (λ sl Ey K hK=>ab Z (bM Z Z Z (Ey _ _ Z) hK)) (af [(6,_)] ⟨.inl Z,trivial⟩ (λ sl Ey K hK=>ab Z (bM Z Z Z (Ey _ _ Z) hK)) ao))) (ap (λ _=>.ptr 21 0) Z Z Z (b9 Z Z Y) (lt2 Z Z) (ai Z (af [(39,_)] ⟨.inr ⟨1,_,Z,Z,Z⟩,trivial⟩ (λ sl Ey K hK=>ab Z (bK Z Z Z (Ey _ _ Z) hK)) (af [(39,_)] ⟨.inr ⟨1,_,Z,Z,Z⟩,trivial⟩ (λ sl Ey K hK=>ab Z (bK Z Z Z (Ey _ _ Z) hK)) ao))) ?_);refine ap (λ _=>.ptr 21 2) Z Z Z (b9 Z Z Y) (lt2 Z Z) (ai Z (af [(40,_)] ⟨.inr ⟨2,_,Z,Z,Z⟩,trivial⟩ (λ sl Ey K hK=>ab Z (aC Z Z Z Z Z Z Z Z (Ey _ _ Z) hK)) (af [(40,_)] ⟨.inr ⟨2,_,Z,Z,Z⟩,trivial⟩ (λ sl Ey K hK=>ab Z (aC Z Z Z Z Z Z Z Z (Ey _ _ Z) hK)) ao))) (ap (λ _=>.p (.agg [eI FR.2.2.2.1,eI FR.2.2.2.2.1,eS FR.2.2.2.2.2])) Z Z Z (b9 Z Z Y) (lt2 Z Z) (ai Z (af [(41,_)] ⟨.inr ⟨3,_,Z,Z,Z⟩,trivial⟩ (λ sl Ey K hK=>ab Z (d5 Z Z Z Z Z (Ey _ _ Z) Z Z Z hK)) (af [(41,_)] ⟨.inr ⟨3,_,Z,Z,Z⟩,trivial⟩ (λ sl Ey K hK=>ab Z (d5 Z Z Z Z Z (Ey _ _ Z) Z Z Z hK)) ao))) ?_);refine dj [(2,_),(38,_)] Z ⟨.inl Z,.inr ⟨0,_,Z,Z,Z⟩,trivial⟩ Z (λ sl Ey K hK=>ab Z (em Z Z Z (Ey _ _ Z) (Ey _ _ Z) Z Z Z (n6 Z) hK)) (dj [(3,_),(42,_)] Z ⟨.inl Z,.inr ⟨4,_,Z,Z,Z⟩,trivial⟩ Z (λ sl Ey K hK=>ab Z (em Z Z Z (Ey _ _ Z) (Ey _ _ Z) Z Z Z (n6 Z) hK)) ?_);refine cC (nx 2 Z ?_);exact mQ (oi h0) Z (aG ⟨cA ⟨.inr ⟨Z,Z⟩,.inr ⟨Z,Z⟩,trivial⟩,sr,trivial⟩)
   exact nx 10 Z (mQ (oi h0) Z (aG ⟨sr,sr,trivial⟩))
  refine nx 1 Z (bd h1 λ Ht h2 h1=>?_);refine kN Ht (λ Gx=>⟨[(2,.ptr 2 0),(3,.ptr 3 0),(6,.ptr 21 0),(7,.ptr 7 0),(8,.p (eB r4.2.1)),(33,.p (eB Gx.1))],[(2,[.p (.val (.slice none 0 0)),.p (.val (.slice none 0 0))]),(3,[.p (eI 0),.p (eI 0),.p (eS ([]:Bk))]),(7,(av.cs r4.1).map .p),(21,[.p (eL ax Gx.2.1),.p (eI Gx.2.2.1),.p (eI Gx.2.2.2.1),.p (eI Gx.2.2.2.2.1),.p (eS Gx.2.2.2.2.2)])]⟩) ?_ ?_
  ·refine nx 1 Z (fB [33] h1 Z (λ Gw h1=>?_) λ Gw h1=>?_)
   ·refine nx 3 Z (bd h1 λ Fs GV h1=>?_);refine mO Z (aQ [21] [] 103000 103000 (fA (aj.mk Ht.2.1 Ht.2.2.1 (aE.mk Ht.2.2.2.1 Ht.2.2.2.2.1 Ht.2.2.2.2.2)) _ GV) Z Z Z Z Z ⟨sr,trivial⟩ Z Z ⟨⟨_,Z,⟨sr,sr,sr,sr,sr,trivial⟩⟩,trivial⟩ Z Z Z Z Z Z Z Z Tryz.call29 Z Z ?_);exact nx 2 Z (eX _ (oi h1).symm (gE Z Z))
   exact nx 2 Z (eX _ (oi h1).symm (gE Z Z))
  refine nx 3 Z (fB [8,26,27,28] h2 Z (λ c6 h2=>?_) λ c6 h2=>?_)
  ·refine nx 1 Z (bd h2 λ r7 e8 h2=>?_);refine mO Z (aQ [21] [] 102000 102000 (dx r4.2.2 _ e8) Z Z Z Z Z ⟨sr,trivial⟩ Z Z ⟨⟨_,Z,⟨sr,sr,sr,sr,sr,trivial⟩⟩,trivial⟩ Z Z Z Z Z Z Z Z Tryz.call28 Z Z ?_);exact nx 4 Z (eX _ (oi h2).symm (cb (gU ⟨er Z,er Z,er Z,er Z,⟨_,Z,w8 c6.symm⟩,er Z,trivial⟩ ⟨⟨_,Z,⟨sr,sr,trivial⟩⟩,⟨_,Z,⟨sr,sr,sr,trivial⟩⟩,⟨_,Z,⟨sr,sr,trivial⟩⟩,⟨_,Z,⟨sr,sr,sr,sr,sr,trivial⟩⟩,trivial⟩)))
  exact nx 6 Z (eX _ (oi h2).symm (cb (gU ⟨er Z,er Z,er Z,er Z,⟨_,Z,w8 c6.symm⟩,er Z,trivial⟩ ⟨⟨_,Z,⟨sr,sr,trivial⟩⟩,⟨_,Z,⟨sr,sr,sr,trivial⟩⟩,⟨_,Z,⟨sr,sr,trivial⟩⟩,⟨_,Z,⟨sr,sr,sr,sr,sr,trivial⟩⟩,trivial⟩)))
 refine nx 2 Z (mG (gE (t:=⟨[(2,.ptr 2 0),(3,.ptr 3 0),(5,.ptr 5 0)],[(2,[.p (.val (.slice none 0 0)),.p (.val (.slice none 0 0))]),(3,[.p (eI 0),.p (eI 0),.p (eS ([]:Bk))]),(5,(aE.cs r1.2).map .p)]⟩) Z Z) ?_);refine mS ⟨2,[2,3],(λ _=>.none),(λ _=>[(2,.ptr 2 0),(3,.ptr 3 0),(5,.ptr 5 0)]),(by3 ([(2,[.p (.val (.slice none 0 0)),.p (.val (.slice none 0 0))]),(3,[.p (eI 0),.p (eI 0),.p (eS ([]:Bk))]),(5,[.p (eI r1.2.AI),.p (eI r1.2.fAt),.p (eS r1.2.By)])]) ([(2,[.p (.val (.slice none 0 0)),.p (.val (.slice none 0 0))]),(2,[.p (.val (.slice none 0 0)),.p (.val (.slice none 0 0))]),(3,[.p (eI 0),.p (eI 0),.p (eS ([]:Bk))]),(5,[.p (eI r1.2.AI),.p (eI r1.2.fAt),.p (eS r1.2.By)])]) ([(3,[.p (eI r1.2.AI),.p (eI r1.2.fAt),.p (eS r1.2.By)]),(2,[.p (.val (.slice none 0 0)),.p (.val (.slice none 0 0))]),(2,[.p (.val (.slice none 0 0)),.p (.val (.slice none 0 0))]),(3,[.p (eI 0),.p (eI 0),.p (eS ([]:Bk))]),(5,[.p (eI r1.2.AI),.p (eI r1.2.fAt),.p (eS r1.2.By)])]))⟩ Z Z Z ⟨Z,Z,Z,trivial⟩ (lt2 ⟨Z,Z,Z,trivial⟩ ⟨Z,Z,Z,trivial⟩) Z Z Z Z (ap (λ _=>.p (.agg [.val (.slice none 0 0),.val (.slice none 0 0)])) Z Z Z (b9 Z Z Y) (lt2 Z Z) (ai Z (ai Z (af [] trivial (λ sl Ey K hK=>ab Z (gH Z Z Z Z Z Z gB Z Z hK)) ao))) ?_);refine ap (λ _=>.p (.agg (aE.cs r1.2))) Z Z Z (b9 Z Z Y) (lt2 Z Z) (ai Z (af [(5,_)] ⟨.inl Z,trivial⟩ (λ sl Ey K hK=>ab Z (d5 Z Z Z Z Z (Ey _ _ Z) Z Z Z hK)) (af [(5,_)] ⟨.inl Z,trivial⟩ (λ sl Ey K hK=>ab Z (d5 Z Z Z Z Z (Ey _ _ Z) Z Z Z hK)) ao))) (dj [(2,_),(17,_)] Z ⟨.inl Z,.inr ⟨0,_,Z,Z,Z⟩,trivial⟩ Z (λ sl Ey K hK=>ab Z (em Z Z Z (Ey _ _ Z) (Ey _ _ Z) Z Z Z (n6 Z) hK)) ?_);refine dj [(3,_),(18,_)] Z ⟨.inl Z,.inr ⟨1,_,Z,Z,Z⟩,trivial⟩ Z (λ sl Ey K hK=>ab Z (em Z Z Z (Ey _ _ Z) (Ey _ _ Z) Z Z Z (n6 Z) hK)) (cC ?_);exact nx 2 Z (mQ (oi h0) Z (aG ⟨cA ⟨.inr ⟨Z,Z⟩,.inr ⟨Z,Z⟩,trivial⟩,sr,trivial⟩))
end Go.Ab.R06
end
