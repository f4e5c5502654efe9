/- Texts of the proof, one behind the other. No statement is proved here. -/
import Derived.Test.YtaiecfcflcphmaaGreatDoorChecked
import Derived.Laws.StructEq
import Derived.Laws.IdiomStrings
import Derived.WalkKit
import Derived.Lib.Builder
import Derived.Lib.UnsafeStr
import Derived.Laws.Externs
import Derived.Shelf.RegionOpenPlain
import Derived.Test.YtaiecfcflcphmaaGreatDoorZ15Sa
set_option maxHeartbeats 4000000
section
namespace Go.Ab
variable {p:Prop}
theorem Mx (h:p:=by exact ⟨_,Z,aV _⟩):p:=h
theorem Hp (h:p:=by exact ⟨⟨_,Z,aV _⟩,trivial⟩):p:=h
theorem BK (h:p:=by exact aF Z (aG _) Z):p:=h
set_option autoImplicit false
inductive aw where
 | mk (Ar:Int) (It:Int) (IS:Bk) (H':List aw) (E':List Bk)
def aw.Ar:aw->Int|.mk x _ _ _ _=>x
def aw.It:aw->Int|.mk _ x _ _ _=>x
def aw.IS:aw->Bk|.mk _ _ x _ _=>x
def aw.H':aw->List aw|.mk _ _ _ x _=>x
def aw.E':aw->List Bk|.mk _ _ _ _ x=>x
instance:Inhabited aw:=⟨.mk 0 0 [] [] []⟩
mutual
def aw.ccs:aw->List PV|.mk Ar It IS H' E'=>[eI Ar]++[eI It]++[eS IS]++[.slice (aw.els H')]++[eL eS E']
def aw.els:List aw->List PV|[]=>[]|x::r=>.agg (aw.ccs x)::aw.els r
end
def bw (x:aw):PV:=.agg (aw.ccs x)
theorem aw.els_eq:∀ l,aw.els l=l.map bw
 | []=>by simp only [aw.els,th]
 | x::r=>by simp only [aw.els,dg,aw.els_eq r,bw]
def aw.cs (x:aw):List PV:=[eI x.Ar,eI x.It,eS x.IS,eL bw x.H',eL eS x.E']
theorem aw.NH (x:aw):aw.ccs x=aw.cs x:=by
 cases x
 simp only [aw.ccs,aw.cs,eL,List.cons_append,List.nil_append,aw.els_eq,aw.Ar,aw.It,aw.IS,aw.H',aw.E']
theorem aw.F' (x:aw):(bw x).cells=aw.cs x:=aw.NH x
theorem aw.Mr (x:aw):bw x=.agg (aw.cs x):=congrArg PV.agg (aw.NH x)
theorem aw.eta (x:aw):aw.mk x.Ar x.It x.IS x.H' x.E'=x:=by cases x; rfl
inductive ag where
 | mk (Ar:Int) (fOp:Int) (AT:Bk) (I':Bk) (B':aw) (If:List ag) (fAt:Int)
def ag.Ar:ag->Int|.mk x _ _ _ _ _ _=>x
def ag.fOp:ag->Int|.mk _ x _ _ _ _ _=>x
def ag.AT:ag->Bk|.mk _ _ x _ _ _ _=>x
def ag.I':ag->Bk|.mk _ _ _ x _ _ _=>x
def ag.B':ag->aw|.mk _ _ _ _ x _ _=>x
def ag.If:ag->List ag|.mk _ _ _ _ _ x _=>x
def ag.fAt:ag->Int|.mk _ _ _ _ _ _ x=>x
instance:Inhabited ag:=⟨.mk 0 0 [] [] default [] 0⟩
mutual
def ag.ccs:ag->List PV|.mk Ar fOp AT I' B' If fAt=>[eI Ar]++[eI fOp]++[eS AT]++[eS I']++[eI B'.Ar,eI B'.It,eS B'.IS,eL bw B'.H',eL eS B'.E']++[.slice (ag.els If)]++[eI fAt]
def ag.els:List ag->List PV|[]=>[]|x::r=>.agg (ag.ccs x)::ag.els r
end
def av (x:ag):PV:=.agg (ag.ccs x)
theorem ag.els_eq:∀ l,ag.els l=l.map av
 | []=>by simp only [ag.els,th]
 | x::r=>by simp only [ag.els,dg,ag.els_eq r,av]
def ag.cs (x:ag):List PV:=[eI x.Ar,eI x.fOp,eS x.AT,eS x.I',eI x.B'.Ar,eI x.B'.It,eS x.B'.IS,eL bw x.B'.H',eL eS x.B'.E',eL av x.If,eI x.fAt]
theorem ag.NH (x:ag):ag.ccs x=ag.cs x:=by
 cases x
 simp only [ag.ccs,ag.cs,eL,List.cons_append,List.nil_append,ag.els_eq,ag.Ar,ag.fOp,ag.AT,ag.I',ag.B',ag.If,ag.fAt]
theorem ag.F' (x:ag):(av x).cells=ag.cs x:=ag.NH x
theorem ag.Mr (x:ag):av x=.agg (ag.cs x):=congrArg PV.agg (ag.NH x)
theorem ag.eta (x:ag):ag.mk x.Ar x.fOp x.AT x.I' x.B' x.If x.fAt=x:=by cases x; rfl
structure al where
 AT:Bk
 IT:ag
 fAt:Int
 deriving Inhabited
def al.cs (x:al):List PV:=[eS x.AT,eI x.IT.Ar,eI x.IT.fOp,eS x.IT.AT,eS x.IT.I',eI x.IT.B'.Ar,eI x.IT.B'.It,eS x.IT.B'.IS,eL bw x.IT.B'.H',eL eS x.IT.B'.E',eL av x.IT.If,eI x.IT.fAt,eI x.fAt]
def ao (x:al):PV:=.agg (al.cs x)
theorem al.F' (x:al):(ao x).cells=al.cs x:=rfl
theorem al.Mr (x:al):ao x=.agg (al.cs x):=rfl
mutual
inductive aH where
 | mk (By:List al) (A':List aB)
inductive aB where
 | mk (M':Bk) (L':List Bk) (J':aH) (fAt:Int)
end
def aH.By:aH->List al|.mk x _=>x
def aH.A':aH->List aB|.mk _ x=>x
def aB.M':aB->Bk|.mk x _ _ _=>x
def aB.L':aB->List Bk|.mk _ x _ _=>x
def aB.J':aB->aH|.mk _ _ x _=>x
def aB.fAt:aB->Int|.mk _ _ _ x=>x
instance:Inhabited aH:=⟨.mk [] []⟩
instance:Inhabited aB:=⟨.mk [] [] default 0⟩
mutual
def aH.ccs:aH->List PV|.mk By A'=>[eL ao By]++[.slice (aB.els A')]
def aB.ccs:aB->List PV|.mk M' L' J' fAt=>[eS M']++[eL eS L']++aH.ccs J'++[eI fAt]
def aB.els:List aB->List PV|[]=>[]|x::r=>.agg (aB.ccs x)::aB.els r
end
def Gt (x:aH):PV:=.agg (aH.ccs x)
def aD (x:aB):PV:=.agg (aB.ccs x)
theorem aB.els_eq:∀ l,aB.els l=l.map aD
 | []=>by simp only [aB.els,th]
 | x::r=>by simp only [aB.els,dg,aB.els_eq r,aD]
def aH.cs (x:aH):List PV:=[eL ao x.By,eL aD x.A']
theorem aH.NH (x:aH):aH.ccs x=aH.cs x:=by
 cases x
 simp only [aH.ccs,aH.cs,eL,List.cons_append,List.nil_append,aB.els_eq,aH.By,aH.A']
def aB.cs (x:aB):List PV:=[eS x.M',eL eS x.L',eL ao x.J'.By,eL aD x.J'.A',eI x.fAt]
theorem aB.NH (x:aB):aB.ccs x=aB.cs x:=by
 cases x
 simp only [aB.ccs,aB.cs,eL,List.cons_append,List.nil_append,aH.NH,aH.cs,aB.M',aB.L',aB.J',aB.fAt]
theorem aH.F' (x:aH):(Gt x).cells=aH.cs x:=aH.NH x
theorem aH.Mr (x:aH):Gt x=.agg (aH.cs x):=congrArg PV.agg (aH.NH x)
theorem aH.eta (x:aH):aH.mk x.By x.A'=x:=by cases x; rfl
theorem aB.F' (x:aB):(aD x).cells=aB.cs x:=aB.NH x
theorem aB.Mr (x:aB):aD x=.agg (aB.cs x):=congrArg PV.agg (aB.NH x)
theorem aB.eta (x:aB):aB.mk x.M' x.L' x.J' x.fAt=x:=by cases x; rfl
structure au where
 Ar:Int
 fAt:Int
 AT:Bk
 deriving Inhabited,DecidableEq
def au.cs (x:au):List PV:=[eI x.Ar,eI x.fAt,eS x.AT]
def Gg (x:au):PV:=.agg (au.cs x)
theorem au.F' (x:au):(Gg x).cells=au.cs x:=rfl
theorem au.Mr (x:au):Gg x=.agg (au.cs x):=rfl
structure ac where
 Ar:Int
 BY:Bk
 fAt:Int
 deriving Inhabited,DecidableEq
def ac.cs (x:ac):List PV:=[eI x.Ar,eS x.BY,eI x.fAt]
def az (x:ac):PV:=.agg (ac.cs x)
theorem ac.F' (x:ac):(az x).cells=ac.cs x:=rfl
theorem ac.Mr (x:ac):az x=.agg (ac.cs x):=rfl
structure aj where
 fl:List ac
 fat:Int
 AI:au
 deriving Inhabited,DecidableEq
def aj.cs (x:aj):List PV:=[eL az x.fl,eI x.fat,eI x.AI.Ar,eI x.AI.fAt,eS x.AI.AT]
def qN (x:aj):PV:=.agg (aj.cs x)
theorem aj.F' (x:aj):(qN x).cells=aj.cs x:=rfl
theorem aj.Mr (x:aj):qN x=.agg (aj.cs x):=rfl
structure dx where
 fL:List ac
 fI:Int
 fIn:Int
 fD:au
 deriving Inhabited,DecidableEq
def dx.cs (x:dx):List PV:=[eL az x.fL,eI x.fI,eI x.fIn,eI x.fD.Ar,eI x.fD.fAt,eS x.fD.AT]
def zE (x:dx):PV:=.agg (dx.cs x)
theorem dx.F' (x:dx):(zE x).cells=dx.cs x:=rfl
theorem dx.Mr (x:dx):zE x=.agg (dx.cs x):=rfl
structure ct where
 fcount:Int
 deriving Inhabited,DecidableEq
def ct.cs (x:ct):List PV:=[eI x.fcount]
def xu (x:ct):PV:=.agg (ct.cs x)
theorem ct.F' (x:ct):(xu x).cells=ct.cs x:=rfl
theorem ct.Mr (x:ct):xu x=.agg (ct.cs x):=rfl
structure af where
 fl:List ac
 fat:Int
 G':Int
 Gw:Int
 AI:au
 deriving Inhabited,DecidableEq
def af.cs (x:af):List PV:=[eL az x.fl,eI x.fat,eI x.G',eI x.Gw,eI x.AI.Ar,eI x.AI.fAt,eS x.AI.AT]
def Ae (x:af):PV:=.agg (af.cs x)
theorem af.F' (x:af):(Ae x).cells=af.cs x:=rfl
theorem af.Mr (x:af):Ae x=.agg (af.cs x):=rfl
structure aA where
 fs:Bk
 fat:Int
 fi:Int
 Df:Int
 D':Bk
 C':List ag
 IN:Bool
 deriving Inhabited
def aA.cs (x:aA):List PV:=[eS x.fs,eI x.fat,eI x.fi,eI x.Df,eS x.D',eL av x.C',eB x.IN]
def wz (x:aA):PV:=.agg (aA.cs x)
theorem aA.F' (x:aA):(wz x).cells=aA.cs x:=rfl
theorem aA.Mr (x:aA):wz x=.agg (aA.cs x):=rfl
theorem BV (h:p:=by
 split at h
 ·cases h
 ·exact hs.own i b h):p:=h
theorem Fo (h:p:=by
 refine wp_mono (h ⟨w,st,λ _=>none,h0.gl,(λ _ _ h=>nomatch h),[]⟩ _ _ w hs) ?_;rintro e a' w' ⟨g',s',h3,he,l,hl,hR⟩;obtain ⟨v,hv,hr⟩:=om good h3 fn l hl
 have fin:∃ v,(results fn a'.tmps).run P w'=.ok v w'/\∃ v1 r1 g',Ending.returned v=.returned v1/\r1.sub r/\ARep w' g' r1 v1/\After w st w' g':=by
  refine ⟨v,hv,v,_,g',Z,hR,hr,⟨h3.os,h3.out,h3.tape,h3.size,λ b hb=>h3.fr b hb,λ i b hi=>?_,h3.inj,h3.lt,h3.stf⟩⟩;have:=h3.own i b hi;exact ⟨Nat.le_of_not_lt this.2,this.1⟩
 rcases he with rfl|rfl
 ·exact ⟨h3.nd,fin⟩
 ·exact ⟨h3.nd,fin⟩):p:=h
theorem yH (h:p:=by
 simp only [Array.size_append,Array.size_replicate]; omega):p:=h
theorem Cr (h:p:=by
 split at h1
 ·cases h1
 ·split at h2
  ·cases h2
  ·exact hs.inj i j b h1 h2):p:=h
theorem C0 (h:p:=by rw [n6,n6]; omega):p:=h
theorem zb (h:p:=by rw [n6]; omega):p:=h
theorem vj (h:p:=by simpa using hby):p:=h
theorem BO (h:p:=by rw [n6,n6]; exact NK):p:=h
theorem aJ {C:Cx}(s:AS):cv C s s:=λ g _ _ hs=>⟨g,hs⟩
theorem aU {C:Cx}{s t u:AS}(h:cv C s t)(k:cv C t u):cv C s u:=λ g a w hs=>by
 obtain ⟨g',hs'⟩:=h g a w hs;exact k g' a w hs'
theorem EW {C:Cx}{c:Code}{Q:Exit->AS->Prop}{s:AS}{σ O0z:Type}(mk:σ->AS)(lp:Nat->σ->Option O0z)(hz:∀ q,lp 0 q=none){o:O0z}{n:Nat}(q0:σ)(h0:lp n q0=some o)(hle:cv C s (mk q0))
  (round:∀ m q,lp (m+1) q=some o->awp C c (rX (λ s'=>∃ q',lp m q'=some o/\cv C s' (mk q')) Q) (mk q)):awp C (.loop c) Q s:=by
 refine tr hle ?_;intro g a w hs
 let J:Act->World->Nat->Prop:=λ a w m=>∃ g q,St C.n C.w0 C.F g (mk q) a w/\lp m q=some o
 have hJ:∀ a w m,J a w m->∃ m0,J a w m0/\∀ m',J a w m'->m0<=m':=by
  intro a w m
  induction m using Nat.strongRecOn with
  | _ m ih=>
   intro hm;by_cases h:∃ m',m'<m/\J a w m'
   ·obtain ⟨m',h1,h2⟩:=h; exact ih m' h1 h2
   ·exact ⟨m,hm,λ m' h'=>Nat.le_of_not_lt λ hlt=>h ⟨m',hlt,h'⟩⟩
 let M:Act->World->Nat:=λ a w=>by
  classical
  exact if h:∃ m0,J a w m0/\∀ m',J a w m'->m0<=m' then Classical.choose h else 0
 have hM:∀ a w m,J a w m->J a w (M a w)/\M a w<=m:=by
  intro a w m hm;have h:=hJ a w m hm;have e:M a w=Classical.choose h:=by simp only [M]; rw [dif_pos h]
  rw [e];exact ⟨(Classical.choose_spec h).1,(Classical.choose_spec h).2 m hm⟩
 refine wp_loop (λ a w=>∃ m,J a w m) M ⟨n,g,q0,hs,h0⟩ ?_;rintro a w ⟨m,hm⟩;obtain ⟨⟨g1,q1,hs1,hI1⟩,_⟩:=hM a w m hm;generalize hMm:M a w=mm at hI1
 cases mm with
 | zero=>rw [hz] at hI1; cases hI1
 | succ mm=>
  refine wp_mono (round mm q1 hI1 g1 a w hs1) ?_;rintro e a' w' ⟨g',s',h1,h2⟩
  cases e with
  | normal=>
   obtain ⟨q',hI',hgh⟩:=h2;obtain ⟨g2,hs2⟩:=hgh g' a' w' h1;have hj:J a' w' mm:=⟨g2,q',hs2,hI'⟩
   refine ⟨⟨_,hj⟩,?_⟩;have:=(hM a' w' _ hj).2;omega
  | exit id=>exact ⟨g',s',h1,h2⟩
  | goto l=>exact ⟨g',s',h1,h2⟩
  | ret=>exact ⟨g',s',h1,h2⟩
  | panic ch=>exact ⟨g',s',h1,h2⟩
  | outgrown=>exact ⟨g',s',h1,h2⟩
def nB (tt:List (Nat×TI)):List ResultVar->AS->Option (List AV)
 | [],_=>some []
 | .tmp t::r,s=>match look s.sl t,nB tt r s with
  | some x,some l=>some (x::l)
  | _,_=>none
 | .cell c t::r,s=>match look s.sl c with
  | some (.ptr id k)=>match look s.ob id,look tt t,nB tt r s with
   | some cs,some i,some l=>bif i.k.isAgg then (bif Nat.ble (k+i.size) cs.length then some (lq ((cs.drop k).take i.size)::l) else none) else (match cs[k]? with
    | some y=>some (y::l)
    | none=>none)
   | _,_,_=>none
  | _=>none
def Ff (tt:List (Nat×TI))(fn:Func)(R:AV->Prop)(e:Exit)(s:AS):Prop:=(e=.normal\/e=.ret)/\∃ l,nB tt fn.results.toList s=some l/\R (sy l)
theorem xM {tt:List (Nat×TI)}{fn:Func}{R:AV->Prop}{s:AS}{l:List AV}(h:nB tt fn.results.toList s=some l)(hR:R (sy l)):Ff tt fn R .ret s:=⟨.inr Z,l,h,hR⟩
theorem xk {P:Program}{tt:List (Nat×TI)}(good:dA P tt){n:Nat}{w0:Base}{w:World}{F:Nat->Prop}{g:Gh}{s:AS}{a:Act}(hs:St n w0 F g s a w){c id k t:Nat}{cs:List AV}{i:TI}{y:AV}
  (hc:look s.sl c=some (.ptr id k)) (hob:look s.ob id=some cs) (hi:look tt t=some i)
  (hy:(i.k.isAgg=true/\k+i.size<=cs.length/\y=lq ((cs.drop k).take i.size))\/(i.k.isAgg=false/\cs[k]? = some y)) :
  ∃ v,(yU a.tmps (.cell c t)).run P w=.ok v w/\ARep w g y v:=by
 have h5:=hs.sl c;simp only [AS.get,hc,n9] at h5;generalize hv:a.tmps.getD c Go.undef=v at h5
 cases h5 with
 | ptr how=>
  rename_i b;obtain ⟨b',cc,e,k1,k2,k3,k4,k5⟩:=hs.ob id cs hob;rw [how] at k1; cases k1;rcases hy with ⟨hia,hl,rfl⟩|⟨hia,hy⟩
  ·have NY:∀ j,j<i.size->w.cell? ⟨b,k+j,none⟩=some (cc.getD (k+j) Go.undef):=by
    intro j hj;rw [mL hs k2];have:k+j<cc.size:=by omega
    simp [Array.getD,this]
   have hld:=na good hi hia (f:=λ j=>cc.getD (k+j) Go.undef) NY;refine ⟨.agg ((List.range i.size).map λ j=>cc.getD (k+j) Go.undef).toArray,by simp only [yU,hv,asAddr,Sem.run_bind,Sem.run_pure,Result.andThen_ok,hld],qe hC λ j y v h1 h2=>?_⟩;rw [List.getElem?_take] at h1;split at h1
   ·rename_i hj;rw [List.getElem?_drop] at h1;obtain ⟨u,hu,hr⟩:=k5 (k+j) y h1;simp only [List.getElem?_toArray,List.getElem?_map,List.getElem?_range hj,Option.map_some,aq] at h2;rw [<- h2,Array.getD_eq_getD_getElem?,hu];exact hr
   ·cases h1
  ·obtain ⟨u,hu,hr⟩:=k5 k y hy;have hcc:=(mL hs k2 k).trans hu;exact ⟨u,by simp only [yU,hv,asAddr,Sem.run_bind,Sem.run_pure,Result.andThen_ok,pY good hi hia hcc],hr⟩
theorem IV {P:Program}{tt:List (Nat×TI)}(good:dA P tt){n:Nat}{w0:Base}{w:World}{F:Nat->Prop}{g:Gh}{s:AS}{a:Act}(hs:St n w0 F g s a w)(rs:List ResultVar) :
  ∀ l,nB tt rs s=some l->∃ vs:List Value,
   (rs.mapM (yU a.tmps)).run P w=.ok vs w/\vs.length=l.length /\
    ∀ (i:Nat) c v,l[i]? = some c->vs[i]? = some v->ARep w g c v:=by
 induction rs with
 | nil=>intro l h; simp only [nB,aq] at h; subst h; exact ⟨[],by simp,rfl,by simp⟩
 | cons r rs ih=>
  intro l h
  have fin:∀ (y:AV) (l':List AV) (v:Value),l=y::l'->nB tt rs s=some l'->(yU a.tmps r).run P w=.ok v w->ARep w g y v->∃ vs:List Value,
    ((r::rs).mapM (yU a.tmps)).run P w=.ok vs w/\vs.length=l.length/\∀ (i:Nat) c v,l[i]? = some c->vs[i]? = some v->ARep w g c v:=by
   intro y l' v e h1 h2 h3;subst e;obtain ⟨vs,k1,k2,k3⟩:=ih l' h1;refine ⟨v::vs,by simp only [List.mapM_cons,Sem.run_bind,h2,Sem.run_pure,Result.andThen_ok,k1],by simp [k2],λ i c u h5 h6=>?_⟩
   cases i with
   | zero=>simp only [List.getElem?_cons_zero,aq] at h5 h6; subst h5 h6; exact h3
   | succ i=>simp only [List.getElem?_cons_succ] at h5 h6; exact k3 i c u h5 h6
  cases r with
  | tmp t=>
   have ht:=hs.sl t;simp only [nB] at h;split at h
   case h_2=>cases h
   rename_i x l' hx h1
   cases h
   simp only [AS.get,hx,n9] at ht;exact fin x l' _ rfl h1 (by simp only [yU,Sem.run_pure]) ht
  | cell c t=>
   simp only [nB] at h;split at h
   case h_2=>cases h
   rename_i id k hc;split at h
   case h_2=>cases h
   rename_i cs i l' hob hi h1
   cases hia:i.k.isAgg
   ·rw [hia,cond_false] at h;split at h
    ·rename_i y hy
     cases h
     obtain ⟨v,h2,h3⟩:=xk good hs hc hob hi (.inr ⟨hia,hy⟩);exact fin y l' v rfl h1 h2 h3
    ·cases h
   ·rw [hia,cond_true] at h
    cases hb:Nat.ble (k+i.size) cs.length
    ·rw [hb,cond_false] at h; cases h
    ·rw [hb,cond_true] at h
     cases h
     obtain ⟨v,h2,h3⟩:=xk good hs hc hob hi (.inl ⟨hia,ld hb,rfl⟩);exact fin _ l' v rfl h1 h2 h3
theorem om {P:Program}{tt:List (Nat×TI)}(good:dA P tt){n:Nat}{w0:Base}{w:World}{F:Nat->Prop}{g:Gh}{s:AS}{a:Act}(hs:St n w0 F g s a w)(fn:Func)(l:List AV)(h:nB tt fn.results.toList s=some l) :
  ∃ v,(results fn a.tmps).run P w=.ok v w/\ARep w g (sy l) v:=by
 obtain ⟨vs,h2,h3,h4⟩:=IV good hs _ l h;refine ⟨if h:vs.length=1 then vs[0] else .tuple vs.toArray,?_,?_⟩
 ·rw [u7,Array.mapM_eq_mapM_toList];simp only [Sem.run_bind,Sem.run_map,h2,Result.andThen_ok,Sem.run_pure,List.size_toArray];congr 1
 ·by_cases e:vs.length=1
  ·rw [dif_pos e];obtain ⟨v,rfl⟩:=List.length_eq_one_iff.1 e;obtain ⟨x,rfl⟩:=List.length_eq_one_iff.1 (h3.symm.trans e);exact h4 0 x v Z Z
  ·rw [dif_neg e]
   have e2:sy l=.tuple l:=by
    match l,h3 with
    | [],_=>rfl
    | [x],h3=>exact absurd h3 e
    | x::y::r,_=>rfl
   rw [e2];exact .tuple (by simpa using h3) (λ i c v h5 h6=>h4 i c v h5 (by simpa using h6))
theorem bV {P:Program}{tt:List (Nat×TI)}(good:dA P tt){f:FuncId}{fn:Func}{c:Code}{args:List PV}{r:AV}(hf:P.funcs[f]? = some fn)(hb:fn.body=some c)(hn:Nat.ble args.length fn.ntmps=true)(hnl:Nat.ble fn.ntmps M1=true)
  (h:∀ w0,awp ⟨P,tt,good,fn.ntmps,hnl,w0,λ b=>b<w0.w.heap.size⟩ c (Ff tt fn (λ x=>x.sub r)) ⟨wb args,[]⟩):aK P f args (·=r):=by
 refine aK.of_sub ?_;intro w st vs h0 h1 h2;refine calls_of_wp hf hb ?_;have hn:=ld hn
 have hs:St fn.ntmps ⟨w,st,λ _=>none,h0.gl,(λ _ _ h=>nomatch h),[]⟩ (λ b=>b<w.heap.size) ⟨st,λ _=>none⟩ ⟨wb args,[]⟩ { tmps:=vs++Array.replicate (fn.ntmps-vs.size) Go.undef,defers:=[] } w:=by
  refine ⟨rfl,?_,?_,?_,?_,?_,?_,?_,?_,rfl,rfl,rfl,bt _,λ b _ o=>Iff.rfl,λ _ _ _=>rfl,jP.refl _ _,λ i b _ h=>(by cases h),Ev.refl _ _⟩
  ·exact yH
  ·intro i;have:=wN args 0 i;simp only [AS.get,wb,this,qr,if_true,Nat.sub_zero]
   cases ha:args[i]? with
   | none=>exact .undef _
   | some x=>
    have hi:i<args.length:=(List.getElem?_eq_some_iff.1 ha).1;have hi2:i<vs.size:=by omega
    have e:(vs++Array.replicate (fn.ntmps-vs.size) Go.undef).getD i Go.undef=vs[i]:=by
     simp [Array.getD_eq_getD_getElem?,Array.getElem?_append,hi2]
    simp only [Option.map_some,n9];rw [e];exact .p (h2 i x _ ha (Array.getElem?_eq_getElem hi2))
  ·intro id cs h; simp [look] at h
  ·intro i j b h; simp at h
  ·intro i b h; simp at h
  ·intro b o h; exact h0.lt b o h
  ·intro b h; exact h
  ·intro b h; rfl
 exact Fo
def yT (k d i:Nat):Option Nat:=bif Nat.beq i k then some d else bif Nat.beq i d then none else some i
def IK (k d:Nat):List (Nat×AV)->Option (List (Nat×AV))
 | []=>some []
 | (i,x)::r=>match x.mapA (yT k d),IK k d r with
  | some y,some q=>some ((i,y)::q)
  | _,_=>none
theorem w9 {k d:Nat}:∀ {sl q:List (Nat×AV)},IK k d sl=some q->∀ i,match look sl i,look q i with
  | some x,some y=>x.mapA (yT k d)=some y
  | none,none=>True
  | _,_=>False
 | [],q,h,i=>by simp only [IK,aq] at h; subst h; simp [look]
 | (j,x)::r,q,h,i=>by
  simp only [IK] at h;split at h
  ·rename_i y q' hy hq
   cases h
   have ih:=w9 hq i;simp only [a6];by_cases e:j=i
   ·simp [e,hy]
   ·simp only [if_neg e]; exact ih
  ·cases h
theorem Ie {k d:Nat}(_Ob:k≠d):∀ i j x,yT k d i=some x->yT k d j=some x->i=j:=by
 intro i j x h1 h2;unfold yT at h1 h2;have hb:∀ {a b:Nat},Nat.beq a b=true->a=b:=bx;have hf:∀ {a b:Nat},Nat.beq a b=false->a≠b:=λ h e=>by subst e; simp at h
 cases a1:Nat.beq i k <;> cases b1:Nat.beq j k <;> simp only [a1,b1,cond_true,cond_false] at h1 h2
 ·cases a2:Nat.beq i d <;> cases b2:Nat.beq j d <;> simp only [a2,b2,cond_true,cond_false,reduceCtorEq,aq] at h1 h2
  rw [h1,h2]
 ·cases a2:Nat.beq i d <;> simp only [a2,cond_true,cond_false,reduceCtorEq,aq] at h1 h2
  exact absurd (h1.trans h2.symm) (hf a2)
 ·cases b2:Nat.beq j d <;> simp only [b2,cond_true,cond_false,reduceCtorEq,aq] at h1 h2
  exact absurd (h2.trans h1.symm) (hf b2)
 ·rw [hb a1,hb b1]
theorem w8 {m:Nat->Option Nat}(hinj:∀ i j x,m i=some x->m j=some x->i=j):∀ {l l':List (Nat×List AV)},iK m l=some l'->∀ {j:Nat} {cs':List AV},look l' j=some cs'->∃ i cs,look l i=some cs/\m i=some j/\AV.mapA.go m cs=some cs'
 | [],l',h,j,cs',hc=>by simp only [iK,aq] at h; subst h; simp [look] at hc
 | (i,ds)::r,l',h,j,cs',hc=>by
  simp only [iK] at h;split at h
  ·rename_i j0 l0 q hj hgo hq
   cases h
   rw [a6] at hc;by_cases e:j0=j
   ·rw [if_pos e] at hc
    cases hc; subst e
    exact ⟨i,ds,by simp [a6],hj,hgo⟩
   ·rw [if_neg e] at hc;obtain ⟨i',cs,h1,h2,h3⟩:=w8 hinj hq hc;refine ⟨i',cs,?_,h2,h3⟩;rw [a6,if_neg]
    ·exact h1
    ·intro e2; subst e2;rw [hj] at h2; cases h2; exact e rfl
  ·cases h
theorem bn {C:Cx}{sl sl':List (Nat×AV)}{ob ob':List (Nat×List AV)}(k d:Nat)(hkd:Nat.beq k d=false)(hk:Nat.blt k M1=true)(hd:Nat.blt d M1=true)(hs':IK k d sl=some sl')(ho':iK (yT k d) ob=some ob'):cv C ⟨sl,ob⟩ ⟨sl',ob'⟩:=by
 intro g a w hs;have hk':k<M1:=d3 ▸ hk;have hd':d<M1:=d3 ▸ hd;have Ob:k≠d:=λ e=>by subst e; simp at hkd
 let g':Gh:=⟨g.st,λ i=>if i=d then g.ow k else if i=k then none else g.ow i⟩
 have hm:∀ i j b,yT k d i=some j->g.ow i=some b->g'.ow j=some b:=by
  intro i j b h hb;unfold yT at h
  cases h1:Nat.beq i k
  ·rw [h1,cond_false] at h
   cases h2:Nat.beq i d
   ·rw [h2,cond_false] at h; cases h;have e1:i≠k:=λ e=>by subst e; simp at h1
    have e2:i≠d:=λ e=>by subst e; simp at h2
    simp only [g',if_neg e2,if_neg e1]; exact hb
   ·rw [h2,cond_true] at h; cases h
  ·rw [h1,cond_true] at h; cases h;have:=bx h1;subst this;simp only [g',if_true]; exact hb
 refine ⟨g',hs.nd,hs.sz,λ i=>?_,λ id cs hc=>?_,λ i j b h1 h2=>?_,λ i b h=>?_,hs.lt,hs.fl,hs.fr,hs.os,hs.out,hs.tape,hs.size,hs.stf,λ i hi hz=>?_,hs.shf,hs.nst,hs.ev0⟩
 ·have h1:=w9 hs' i;have h2:=hs.sl i;simp only [AS.get] at h2 ⊢
  cases e1:look sl i with
  | none=>
   rw [e1] at h1
   cases e2:look sl' i with
   | none=>exact .undef _
   | some y=>rw [e2] at h1; exact h1.elim
  | some x=>
   rw [e1] at h1 h2
   cases e2:look sl' i with
   | none=>exact .undef _
   | some y=>
    rw [e2] at h1;exact kj (g:=g) (g':=g') rfl hm (by simpa using h2) h1
 ·obtain ⟨i,ds,h1,h2,h3⟩:=w8 (Ie Ob) ho' hc
  exact pO (g:=g) (g':=g') Z hm (show iK (yT k d) [(i,ds)]=some [(id,cs)] by simp only [iK,h2,h3]) (λ p hp=>by
   simp only [List.mem_singleton] at hp;subst hp
   exact hs.ob i ds h1) (id,cs) G
 ·simp only [g'] at h1 h2;by_cases a1:i=d <;> by_cases b1:j=d
  ·rw [a1,b1]
  ·rw [if_pos a1] at h1;rw [if_neg b1] at h2;split at h2
   ·cases h2
   ·rename_i b2; exact absurd (hs.inj k j b h1 h2).symm b2
  ·rw [if_pos b1] at h2;rw [if_neg a1] at h1;split at h1
   ·cases h1
   ·rename_i b2; exact absurd (hs.inj i k b h1 h2) b2
  ·rw [if_neg a1] at h1; rw [if_neg b1] at h2;exact Cr
 ·simp only [g'] at h;split at h
  ·exact hs.own k b h
  ·exact BV
 ·simp only [g'];rw [if_neg O,if_neg O]; exact hs.owf i hi hz
theorem Ba {C:Cx}{sl:List (Nat×AV)}{ob:List (Nat×List AV)}(j:Nat){x y:AV}(hj:look sl j=some x)(h:x.sub y):cv C ⟨sl,ob⟩ ⟨(j,y)::sl,ob⟩:=by
 refine cG ⟨λ i z hz=>?_,λ id cs hc=>Gf⟩;simp only [a6] at hz;by_cases e:j=i
 ·rw [if_pos e] at hz; cases hz; subst e;simp only [AS.get,hj,n9]; exact h
 ·rw [if_neg e] at hz;simp only [AS.get,hz,n9]; exact AV.sub_refl _
theorem Ad {C:Cx}{sl sl0:List (Nat×AV)}{D:Nat->Bool}{ob ob':List (Nat×List AV)}(h:lk D ob=ob'):cv C ⟨sl,(cq D ⟨sl0,ob⟩).ob⟩ ⟨sl,ob'⟩:=by
 have:(cq D ⟨sl0,ob⟩).ob=ob':=h;rw [this]; exact aJ _
theorem mh {C:Cx}{sl sl0:List (Nat×AV)}{D:Nat->Bool}{ob ob':List (Nat×List AV)}{x:Nat×List AV}(h:lk D ob=ob'):cv C ⟨sl,x::(cq D ⟨sl0,ob⟩).ob⟩ ⟨sl,x::ob'⟩:=by
 have:(cq D ⟨sl0,ob⟩).ob=ob':=h;rw [this]; exact aJ _
def vU:List PV->List PV->Prop|[],[]=>True|c::cs,d::ds=>(c=d\/(c=.val (.slice none 0 0)/\d=.slice []))/\vU cs ds|_,_=>False
theorem qK {w:World}{st:Nat->Nat->Prop}:∀ {cs ds:List PV},vU cs ds->cs.length=ds.length/\∀ (i:Nat) c d v,cs[i]? = some c->ds[i]? = some d->PRep w st c v->PRep w st d v
 | [],[],_=>⟨Z,by simp⟩
 | [],_::_,h=>h.elim
 | _::_,[],h=>h.elim
 | c::cs,d::ds,h=>by
  obtain ⟨h1,h2⟩:=qK (w:=w) (st:=st) h.2;refine ⟨by simp [h1],λ i c' d' v hc hd hv=>?_⟩
  cases i with
  | zero=>
   simp only [List.getElem?_cons_zero,aq] at hc hd;subst hc hd;rcases h.1 with e|⟨e1,e2⟩
   ·rw [<- e]; exact hv
   ·rw [e1] at hv; rw [e2]; cases hv; exact .nils
  | succ i=>simp only [List.getElem?_cons_succ] at hc hd; exact h2 i c' d' v hc hd hv
theorem dW {cs ds:List PV}(h:vU cs ds):(AV.p (.agg cs)).sub (.p (.agg ds)):=by
 intro w g v hv;obtain ⟨h1,h2⟩:=qK (w:=w) (st:=g.st) h
 cases hv with
 | p hv=>
  cases hv with
  | agg hl hh=>
   refine .p (.agg (hl.trans h1) λ i d u hd hu=>?_);have hi:i<cs.length:=by have:=(List.getElem?_eq_some_iff.1 hd).1; omega
   exact h2 i cs[i] d u (List.getElem?_eq_getElem hi) hd (hh i _ u (List.getElem?_eq_getElem hi) hu)
theorem rD {cs:List AV}{ds:List PV}(h:nj cs (ds.map .p)):(AV.agg cs).sub (.p (.agg ds)):=by
 intro w g v hv;obtain ⟨h1,h2⟩:=kT h
 cases hv with
 | agg hl hh=>
  refine .p (.agg (by rw [hl,h1,n6]) λ i d u hd hu=>?_);have hi:i<cs.length:=by have:=(List.getElem?_eq_some_iff.1 hd).1; simp at h1; omega
  have:=h2 i cs[i] (.p d) (List.getElem?_eq_getElem hi) (by simp [hd]) w g u (hh i _ u (List.getElem?_eq_getElem hi) hu);exact yC
section
variable {C:Cx} {o:Oper} {K:AS->Prop} {sl:List (Nat×AV)} {ob:List (Nat×List AV)} {d:Nat}
theorem bz {α:Type}(f:α->PV)(l:List α){t e len:Nat}{parts:Array (Nat×Operand)}{i ie:TI}{es:List PV}(ho:o.op=.buildSlice t len parts)(hd:o.dst=some d)(hn:Nat.blt d C.n=true)
  (hi:look C.tt t=some i) (N4:i.k=.slice e) (hie:look C.tt e=some ie) (hes:nC sl 0 parts.toList=some es) (NK:Nat.beq es.length len=true) (hpos:Nat.blt 0 len=true)
  (hk:Nat.blt 0 ie.size=true) (hsm:Nat.ble (len*ie.size) 16777216=true) (NR:sO ie.size es=true) (hzl:Nat.beq ie.zero.length ie.size=true) (he:es=l.map f)
  (hK:K ⟨(d,.p (eL f l))::sl,ob⟩):aX C o K ⟨sl,ob⟩ :=
 wQ ho hd hn hi N4 hie hes NK hpos hk hsm NR hzl (by rw [he]; exact hK)
theorem Ld {α:Type}(f:α->PV)(l:List α)(ty:Nat){t tx e e':TypeId}{x y:Operand}{Y0z:AV}{i ie j:TI}(ho:o.op=.call { callee:=.builtin .append,args:=#[x,y],argTypes:=#[t,tx] })(hd:o.dst=some d)(hn:Nat.blt d C.n=true)
  (hi:look C.tt t=some i) (N4:i.k=.slice e) (hie:look C.tt e=some ie) (hj:look C.tt tx=some j) (hjk:j.k=.slice e') (hx:evo sl x=some (.p (.val (.slice none 0 0))))
  (hy:evo sl y=some Y0z) (hY:Y0z.elems? = some (l.map f)) (NR:∀ x,(f x).cells.length=ie.size) (h0:Nat.blt 0 ie.size=true) (hzl:Nat.beq ie.zero.length ie.size=true) (hby:Nat.blt 0 ie.bytes=true)
  (hty:(Nat.beq ty 0||Nat.beq ty (e+1))=true) (NK:l.length*ie.bytes<=140737488355328)
  (hK:K ⟨(d,.vec d ie.size ty (l.map f))::(cq (λ i=>Nat.beq i d) ⟨sl,ob⟩).sl,(cq (λ i=>Nat.beq i d) ⟨sl,ob⟩).ob⟩):aX C o K ⟨sl,ob⟩:=by
 have hby':1<=ie.bytes:=Nat.succ_le_of_lt vj;have h1:l.length*1<=l.length*ie.bytes:=Nat.mul_le_mul_left _ hby';exact A3 ty ho hd hn hi N4 hie hj hjk hx hy hY (λ y hy=>by obtain ⟨x,_,rfl⟩:=List.mem_map.1 hy; exact NR x) h0 hzl (by rw [n6]; exact NK) zb hty hK
theorem fF {α:Type}(f:α->PV)(l0 l:List α){t tx e e':TypeId}{x y:Operand}{k sz ty:Nat}{Y0z:AV}{i ie j:TI}(ho:o.op=.call { callee:=.builtin .append,args:=#[x,y],argTypes:=#[t,tx] })(hd:o.dst=some d)(hn:Nat.blt d C.n=true)
  (hi:look C.tt t=some i) (N4:i.k=.slice e) (hie:look C.tt e=some ie) (hj:look C.tt tx=some j) (hjk:j.k=.slice e') (hx:evo sl x=some (.vec k sz ty (l0.map f))) (hk:Nat.blt k M1=true) (hiz:ie.size=sz)
  (hy:evo sl y=some Y0z) (hY:Y0z.elems? = some (l.map f)) (NR:∀ x,(f x).cells.length=ie.size) (h0:Nat.blt 0 ie.size=true) (hzl:Nat.beq ie.zero.length ie.size=true) (hby:Nat.blt 0 ie.bytes=true)
  (hty:(Nat.beq ty 0||Nat.beq ty (e+1))=true) (NK:(l0.length+l.length)*ie.bytes<=140737488355328)
  (hK:K ⟨(d,.vec d sz ty ((l0++l).map f))::(cq (λ i=>Nat.beq i k||Nat.beq i d) ⟨sl,ob⟩).sl,(cq (λ i=>Nat.beq i k||Nat.beq i d) ⟨sl,ob⟩).ob⟩):aX C o K ⟨sl,ob⟩:=by
 have hby':1<=ie.bytes:=Nat.succ_le_of_lt vj;have h1:(l0.length+l.length)*1<=(l0.length+l.length)*ie.bytes:=Nat.mul_le_mul_left _ hby'
 exact CF ho hd hn hi N4 hie hj hjk hx hk hiz hy hY (λ y hy=>by obtain ⟨x,_,rfl⟩:=List.mem_map.1 hy; exact NR x) h0 hzl BO C0 hty
  (by rw [<- List.map_append]; exact hK)
end
theorem yo (h:p:=by
 subst this;have h5:=(hsplit _ hq).2
 rw [hvD _ _ p1] at h5; cases h5):p:=h
theorem I4 (h:p:=by
 intro i;have:=pS args 0 i;simp only [AS.get,gK,this,qr,if_true,Nat.sub_zero]
 cases ha:args[i]? with
 | none=>exact .undef _
 | some x=>
  have hi:i<args.length:=(List.getElem?_eq_some_iff.1 ha).1;have hi2:i<vs.size:=by omega
  have e:(vs++Array.replicate (fn.ntmps-vs.size) Go.undef).getD i Go.undef=vs[i]:=by
   simp [Array.getD_eq_getD_getElem?,Array.getElem?_append,hi2]
  simp only [n9];rw [e]
  exact h2 i x _ ha (Array.getElem?_eq_getElem hi2)):p:=h
theorem CY (h:p:=by rw [<- Array.toList_map]; simpa using hv):p:=h
def V1:Nat:=900000
def xl (tt:List (Nat×TI))(fn:Func)(ts ids:List Nat)(R:AV->List (Nat×List AV)->Prop)(e:Exit)(s:AS):Prop :=(e=.normal\/e=.ret)/\∃ l r Of obs',nB tt fn.results.toList s=some l/\(sy l).mapA (mH ts)=some r/\iQ s.ob ids=some Of/\iK (mH ts) Of=some obs'/\R r obs'
theorem GX {tt:List (Nat×TI)}{fn:Func}{ts ids:List Nat}{R:AV->List (Nat×List AV)->Prop}{s:AS}{l:List AV}{r:AV}{Of obs':List (Nat×List AV)}(h1:nB tt fn.results.toList s=some l)(h2:(sy l).mapA (mH ts)=some r)
  (h3:iQ s.ob ids=some Of) (h4:iK (mH ts) Of=some obs') (h5:R r obs'):xl tt fn ts ids R .ret s:=⟨.inr Z,l,r,Of,obs',h1,h2,h3,h4,h5⟩
theorem HL {tt:List (Nat×TI)}{fn:Func}{ts ids:List Nat}{R:AV->List (Nat×List AV)->Prop}{s:AS}{l:List AV}{r:AV}{Of obs':List (Nat×List AV)}(h1:nB tt fn.results.toList s=some l)(h2:(sy l).mapA (mH ts)=some r)
  (h3:iQ s.ob ids=some Of) (h4:iK (mH ts) Of=some obs') (h5:R r obs'):xl tt fn ts ids R .normal s:=⟨.inl Z,l,r,Of,obs',h1,h2,h3,h4,h5⟩
theorem yO (ts ids:List Nat)(hts:ts.all (λ i=>Nat.blt i M1)=true)(hnd:nodupB ts=true){n:Nat}{w w':World}{g g1:Gh}{df:List Deferred}{gl:lN w g.st}{lo:∀ i b,g.ow i=some b->i<MZ}{s':AS}{a':Act}
  (hown:∀ i b,g.ow i=some b->b<w.heap.size/\i<2*M1) (h3:St n ⟨w,g.st,g.ow,gl,lo,df⟩ (λ b=>b<w.heap.size/\∀ i,g.ow i≠some b) g1 s' a' w') {x r:AV} {v:Value} {obs1 obs':List (Nat×List AV)}
  (hvr:ARep w' g1 x v) (hr:x.mapA (mH ts)=some r) (hp:iQ s'.ob ids=some obs1) (hm:iK (mH ts) obs1=some obs'):∃ g',ARep w' g' r v/\(∀ p∈obs',iX w' g' p.1 p.2)/\nv w g w' g':=by
 have hown3:∀ i b,M1<=i->i<MZ->g1.ow i=some b->i<2*M1:=by
  intro i b hi hz hb;rw [h3.owf i hi hz] at hb
  grind
 have hmap:∀ i j b,mH ts i=some j->g1.ow i=some b->(if 2*M1<=j then (ts[j-2*M1]?).bind g1.ow else if M1<=j then g1.ow j else none)=some b:=by
  intro i j b hij hb;unfold mH at hij
  cases hle:Nat.ble M1 i
  ·rw [hle] at hij;simp only [cond_false] at hij;split at hij
   ·rename_i k hk
    cases hij
    rw [if_pos O,Nat.add_sub_cancel_left,kk hk];exact hb
   grind
  grind [Nat.le_of_ble_eq_true,Nat.blt_eq]
 have hts':∀ (k t:Nat),ts[k]? = some t->t<M1:=by
  intro k t hk;have:=rd.1 hts t (List.mem_of_getElem? hk)
  simp_all
 have inv:∀ j b,(if 2*M1<=j then (ts[j-2*M1]?).bind g1.ow else if M1<=j then g1.ow j else none)=some b ->
   (∃ t,ts[j-2*M1]? = some t/\2*M1<=j/\g1.ow t=some b)\/(M1<=j/\j<2*M1/\g1.ow j=some b):=by
  grind
 have hst0:(⟨g1.st,λ j=>if 2*M1<=j then (ts[j-2*M1]?).bind g1.ow else if M1<=j then g1.ow j else none⟩:Gh).st=g1.st:=rfl;refine ⟨⟨g1.st,λ j=>if 2*M1<=j then (ts[j-2*M1]?).bind g1.ow else if M1<=j then g1.ow j else none⟩,kj hst0 hmap hvr hr,pO hst0 hmap hm (λ p hp'=>h3.ob p.1 p.2 (tw hp p hp')),?_⟩;refine ⟨h3.os,h3.out,h3.tape,h3.size,λ b hb hno=>h3.fr b ⟨hb,hno⟩,λ i b hi=>?_,λ i j b hi hj=>?_,h3.lt,λ b hb hno=>h3.stf b ⟨hb,hno⟩,λ i h1 h2=>?_,h3.shf,h3.nst,h3.ev0⟩
 ·have key:∀ t,g1.ow t=some b->b<w'.heap.size/\(w.heap.size<=b\/∃ j,g.ow j=some b):=by
   intro t ht;obtain ⟨k1,k2⟩:=h3.own t b ht
   grind
  grind
 ·rcases inv i b hi with ⟨t,a1,a2,a3⟩|⟨a1,a2,a3⟩ <;> rcases inv j b hj with ⟨u,b1,b2,b3⟩|⟨b1,b2,b3⟩
  ·have:=h3.inj t u b a3 b3
   grind [ji]
  ·have:=h3.inj t j b a3 b3
   grind
  ·have:=h3.inj i u b a3 b3
   grind
  ·exact h3.inj i j b a3 b3
 ·dsimp only;rw [if_neg O,if_pos h1];exact h3.owf i h1 (Nat.lt_of_lt_of_le h2 xb)
theorem rM {P:Program}{tt:List (Nat×TI)}(good:dA P tt){fn:Func}{c:Code}{args:List AV}{Of:List (Nat×List AV)}{R:AV->List (Nat×List AV)->Prop}(ts ids:List Nat)(hn:args.length<=fn.ntmps)(hnl:Nat.ble fn.ntmps M1=true)(hts:ts.all (λ i=>Nat.blt i M1)=true)(hnd:nodupB ts=true)
  (h:∀ w0 F,awp ⟨P,tt,good,fn.ntmps,hnl,w0,F⟩ c (xl tt fn ts ids R) ⟨gK args,Of⟩) {w:World} {g:Gh} {vs:Array Value} (hlt:Ok0 w g.st) (hown:∀ i b,g.ow i=some b->b<w.heap.size/\i<2*M1)
  (hinj:∀ i j b,g.ow i=some b->g.ow j=some b->i=j) (hnst:∀ i b,M1<=i->g.ow i=some b->∀ o,¬ g.st b o) (h1:vs.size=args.length)
  (h2:∀ (i:Nat) c v,args[i]? = some c->vs[i]? = some v->ARep w g c v) (hobs:∀ id cs,look Of id=some cs->iX w g id cs) :
  c.wp P (bodyPost P fn λ e w'=>∃ v r obs' g',e=.returned v/\R r obs'/\ARep w' g' r v/\(∀ p∈obs',iX w' g' p.1 p.2)/\nv w g w' g') { tmps:=vs++Array.replicate (fn.ntmps-vs.size) Go.undef,defers:=[] } w:=by
 have hs:St fn.ntmps ⟨w,g.st,g.ow,hlt.gl,(λ i b h=>Nat.lt_of_lt_of_le (hown i b h).2 xb),[]⟩ (λ b=>b<w.heap.size/\∀ i,g.ow i≠some b) g ⟨gK args,Of⟩ { tmps:=vs++Array.replicate (fn.ntmps-vs.size) Go.undef,defers:=[] } w:=by
  refine ⟨Z,?_,?_,hobs,hinj,?_,hlt.lt,?_,?_,Z,Z,Z,bt _,λ b _ o=>Iff.rfl,λ _ _ _=>rfl,jP.refl _ _,λ i b hi h=>hnst i b hi h,Ev.refl _ _⟩
  ·exact yH
  ·exact I4
  ·intro i b hi; exact ⟨(hown i b hi).1,λ h=>h.2 i hi⟩
  ·intro b h; exact h.1
  ·intro b h; rfl
 refine wp_mono (h ⟨w,g.st,g.ow,hlt.gl,(λ i b h=>Nat.lt_of_lt_of_le (hown i b h).2 xb),[]⟩ _ g _ w hs) ?_;rintro e a' w' ⟨g1,s',h3,he,l,r,obs1,obs',hl,hr,hp,hm,hR⟩;obtain ⟨v,hv,hvr⟩:=om good h3 fn l hl;obtain ⟨g',e1,e2,e3⟩:=yO ts ids hts hnd hown h3 hvr hr hp hm;rcases he with rfl|rfl
 ·exact ⟨h3.nd,v,hv,v,r,obs',g',Z,hR,e1,e2,e3⟩
 ·exact ⟨h3.nd,v,hv,v,r,obs',g',Z,hR,e1,e2,e3⟩
theorem uw {P:Program}{tt:List (Nat×TI)}(good:dA P tt){f:FuncId}{fn:Func}{c:Code}{args:List AV}{Of:List (Nat×List AV)}{R:AV->List (Nat×List AV)->Prop}(ts ids:List Nat)(hf:P.funcs[f]? = some fn)(hb:fn.body=some c)
  (hn:args.length<=fn.ntmps) (hnl:Nat.ble fn.ntmps M1=true) (hts:ts.all (λ i=>Nat.blt i M1)=true) (hnd:nodupB ts=true)
  (h:∀ w0 F,awp ⟨P,tt,good,fn.ntmps,hnl,w0,F⟩ c (xl tt fn ts ids R) ⟨gK args,Of⟩):aS P f args Of R:=λ _ _ _ k1 k2 k3 k4 k5 k6 k7=>calls_of_wp hf hb (rM good ts ids hn hnl hts hnd h k1 k2 k3 k4 k5 k6 k7)
theorem qd {w:World}{g:Gh}{id:Nat}{cs ds:List AV}(h:iX w g id ds)(hs:A5 cs ds):iX w g id cs:=by
 obtain ⟨k1,k2⟩:=mf hs;obtain ⟨b,c,e,n1,n2,n3,n4,n5⟩:=h;refine ⟨b,c,e,n1,n2,by omega,n4,λ i x hx=>?_⟩;have hi:i<ds.length:=by grind
 obtain ⟨v,hv,hr⟩:=n5 i ds[i] (List.getElem?_eq_getElem hi);exact ⟨v,hv,k2 i x _ hx (List.getElem?_eq_getElem hi) _ _ _ hr⟩
theorem uI {s:List (Nat×List AV)}:∀ {t:List (Nat×List AV)},leO s t->∀ p∈t,∃ ds,look s p.1=some ds/\A5 p.2 ds
 | [],_,p,hp=>by simp at hp
 | (j,cs)::r,h,p,hp=>by
  rcases wr.1 hp with rfl|hp
  ·exact h.1
  ·exact uI h.2 p hp
theorem aS.of_sub {P:Program}{f:FuncId}{args:List AV}{Of rob:List (Nat×List AV)}{r:AV}(h:aS P f args Of (λ x y=>x.sub r/\leO y rob)):aS P f args Of (λ x y=>x=r/\y=rob) :=
 λ w g vs h1 h2 h3 h4 h5 h6 h7=>(h w g vs h1 h2 h3 h4 h5 h6 h7).mono λ e w' ⟨v,x,obs',g',k1,⟨k2,k3⟩,k4,k5,k6⟩=>
  ⟨v,r,rob,g',k1,⟨Z,Z⟩,k2 _ _ _ k4,λ p hp=>by
   obtain ⟨ds,m1,m2⟩:=uI k3 p hp
   exact qd (k5 (p.1,ds) (ii m1)) m2,k6⟩
theorem ML {P:Program}{tt:List (Nat×TI)}(good:dA P tt){f:FuncId}{fn:Func}{c:Code}{args:List AV}{Of rob:List (Nat×List AV)}{r:AV}(ts ids:List Nat)(hf:P.funcs[f]? = some fn)(hb:fn.body=some c)
  (hn:Nat.ble args.length fn.ntmps=true) (hnl:Nat.ble fn.ntmps M1=true) (hts:ts.all (λ i=>Nat.blt i M1)=true) (hnd:nodupB ts=true)
  (h:∀ w0 F,awp ⟨P,tt,good,fn.ntmps,hnl,w0,F⟩ c (xl tt fn ts ids (λ x y=>x.sub r/\leO y rob)) ⟨gK args,Of⟩):aS P f args Of (λ x y=>x=r/\y=rob) :=
 aS.of_sub (uw good ts ids hf hb (ld hn) hnl hts hnd h)
def lO (ids NS:List Nat)(i:Nat):Option Nat:=match ids.findIdx? (Nat.beq i) with
 | some k=>some (M1+k)
 | none=>match NS.findIdx? (Nat.beq i) with
  | some k=>some (V1+k)
  | none=>none
def wJ (NB NE i:Nat):Bool:=Nat.ble NB i&&Nat.blt i NE
def dp (NS:List Nat)(NB NE i:Nat):Bool:=wJ NB NE i||NS.any (Nat.beq i)
section
variable {C:Cx} {o:Oper} {K:AS->Prop} {sl:List (Nat×AV)} {ob:List (Nat×List AV)} {d:Nat}
theorem q9 (ids NS:List Nat)(NB NE:Nat){l l' q:List AV}{Of obs0 qo:List (Nat×List AV)}(hl':AV.mapA.go (lO ids NS) l=some l')(hq:nj l' q)(hpk:iQ ob ids=some Of)(hmo:iK (lO ids NS) Of=some obs0)(hqo:leO obs0 qo)
  (hnd:nodupB ids=true) (hids:ids.all (λ i=>Nat.blt i (2*M1))=true) (hil:Nat.ble ids.length M1=true) (hdl:Nat.ble NE M1=true) (hdis:ids.all (λ i=>!(dp NS NB NE i))=true)
  (hvd:nodupB NS=true) (hvl:NS.all (λ i=>Nat.blt i M1)=true) (hvn:Nat.ble NS.length 100000=true)
  {g:Gh} {a:Act} {w:World} (hs:St C.n C.w0 C.F g ⟨sl,ob⟩ a w) {avs:Array Value} (a1:avs.size=l.length) (a2:∀ (i:Nat) c v,l[i]? = some c->avs[i]? = some v->ARep w g c v) :
  ∃ gc:Gh,(Ok0 w gc.st/\(∀ i b,gc.ow i=some b->b<w.heap.size/\i<2*M1)/\(∀ i j b,gc.ow i=some b->gc.ow j=some b->i=j)/\(∀ i b,M1<=i->gc.ow i=some b->∀ o,¬ gc.st b o)/\avs.size=q.length /\
   (∀ (i:Nat) c v,q[i]? = some c->avs[i]? = some v->ARep w gc c v)/\(∀ id cs,look qo id=some cs->iX w gc id cs)) /\
   ∀ (w':World) (v:Value) (r r':AV) (obs' ob':List (Nat×List AV)) (g':Gh),ARep w' g' r v->(∀ p∈obs',iX w' g' p.1 p.2)->nv w gc w' g'->r.mapA (lD ids NB NE)=some r'->iK (lD ids NB NE) obs'=some ob' ->
    ∃ g2,St C.n C.w0 C.F g2 ⟨(cq (dp NS NB NE) ⟨sl,ob⟩).sl,ob'++(cq (dp NS NB NE) ⟨sl,ob.filter λ p=>!(ids.any (Nat.beq p.1))⟩).ob⟩ a w'/\ARep w' g2 r' v:=by
 have hidl:∀ (k i:Nat),ids[k]? = some i->i<2*M1:=λ k i h=>by
  have:=rd.1 hids i (List.mem_of_getElem? h);exact d3 ▸ this
 have hvll:∀ (k i:Nat),NS[k]? = some i->i<M1:=λ k i h=>by
  have:=rd.1 hvl i (List.mem_of_getElem? h);exact d3 ▸ this
 have hidD:∀ (k i:Nat),ids[k]? = some i->dp NS NB NE i=false:=λ k i h=>by
  have:=rd.1 hdis i (List.mem_of_getElem? h);simpa only [Bool.not_eq_true'] using this
 have hDn:∀ i,wJ NB NE i=true->NB<=i/\i<NE:=λ i h=>by
  unfold wJ at h;simp only [n8] at h;exact ⟨ld h.1,d3 ▸ h.2⟩
 have hDv:∀ i,NS.any (Nat.beq i)=true->∃ k,NS[k]? = some i:=λ i h=>by
  obtain ⟨x,hx,he⟩:=List.any_eq_true.1 h;have:=bx he;subst this;exact List.mem_iff_getElem?.1 hx
 have hvD:∀ (k i:Nat),NS[k]? = some i->NS.any (Nat.beq i)=true:=λ k i h=>List.any_eq_true.2 ⟨i,List.mem_of_getElem? h,by simp⟩
 have hsplit:∀ i,dp NS NB NE i=false->wJ NB NE i=false/\NS.any (Nat.beq i)=false:=λ i h=>by
  unfold dp at h;simpa only [Bool.or_eq_false_iff] using h
 have hdl':=ld hdl;have hil':=ld hil;have hvn':=ld hvn;have hV1:V1+100000=M1:=rfl;obtain ⟨gc,hgc⟩:∃ gc:Gh,gc=⟨g.st,λ j=>if M1<=j then (ids[j-M1]?).bind g.ow else if V1<=j then (NS[j-V1]?).bind g.ow else none⟩:=⟨_,rfl⟩
 have hgst:gc.st=g.st:=by rw [hgc]
 have gcinv:∀ j b,gc.ow j=some b->∃ i,g.ow i=some b/\((ids[j-M1]? = some i/\M1<=j/\j<2*M1)\/(NS[j-V1]? = some i/\V1<=j/\j<M1)):=by
  intro j b h;rw [hgc] at h;dsimp only at h;by_cases e:M1<=j
  ·rw [if_pos e] at h;obtain ⟨i,h1,h2⟩:=Option.bind_eq_some_iff.1 h;have:=(List.getElem?_eq_some_iff.1 h1).1;exact ⟨i,h2,.inl ⟨h1,e,by omega⟩⟩
  ·rw [if_neg e] at h;by_cases e2:V1<=j
   ·rw [if_pos e2] at h;obtain ⟨i,h1,h2⟩:=Option.bind_eq_some_iff.1 h;exact ⟨i,h2,.inr ⟨h1,e2,by omega⟩⟩
   ·rw [if_neg e2] at h; cases h
 have hpm:∀ i j b,lO ids NS i=some j->g.ow i=some b->gc.ow j=some b:=by
  intro i j b h hb;unfold lO at h;split at h
  ·rename_i k hk
   cases h
   rw [hgc];dsimp only;rw [if_pos O,Nat.add_sub_cancel_left,kk hk];exact hb
  ·split at h
   ·rename_i k hk
    cases h
    have hkl:=(List.getElem?_eq_some_iff.1 (kk hk)).1;rw [hgc];dsimp only;rw [if_neg O,if_pos O,Nat.add_sub_cancel_left,kk hk];exact hb
   ·cases h
 have hidob:∀ (k i:Nat),ids[k]? = some i->∃ cs,look ob i=some cs:=by
  have:∀ (ids:List Nat) (Of:List (Nat×List AV)),iQ ob ids=some Of->∀ (k i:Nat),ids[k]? = some i->∃ cs,look ob i=some cs:=by
   intro ids
   induction ids with
   | nil=>intro Of _ k i h; simp at h
   | cons x r ih=>
    intro Of h k i hk;simp only [iQ] at h;split at h
    ·rename_i cs l0 h1 h2
     cases k with
     | zero=>simp only [List.getElem?_cons_zero,aq] at hk; subst hk; exact ⟨cs,h1⟩
     | succ k=>simp only [List.getElem?_cons_succ] at hk; exact ih l0 h2 k i hk
    ·cases h
  exact this ids Of hpk
 have hnst:∀ j b,M1<=j->gc.ow j=some b->∀ o,¬ g.st b o:=by
  intro j b hj h o ho;obtain ⟨i,h4,⟨h1,_,_⟩|⟨_,_,h3⟩⟩:=gcinv j b h
  ·obtain ⟨cs,N0⟩:=hidob _ i h1;obtain ⟨b',c,e,k1,_,_,k4,_⟩:=hs.ob i cs N0;rw [h4] at k1; cases k1;exact k4 o ho
  ·omega
 obtain ⟨m1,m2⟩:=qf hl';obtain ⟨b1,b2⟩:=kT hq
 have hargs:∀ (i:Nat) c v,q[i]? = some c->avs[i]? = some v->ARep w gc c v:=by
  intro i c v hc hv;have hi':i<l'.length:=by have:=(List.getElem?_eq_some_iff.1 hc).1; omega
  have hi:i<l.length:=by omega
  have h1:=a2 i _ v (List.getElem?_eq_getElem hi) hv;have h2:=kj hgst hpm h1 (m2 i _ _ (List.getElem?_eq_getElem hi) (List.getElem?_eq_getElem hi'));exact b2 i _ c (List.getElem?_eq_getElem hi') hc w gc v h2
 have hobs0:=pO hgst hpm hmo (λ p hp=>hs.ob p.1 p.2 (tw hpk p hp))
 have hqo':∀ id cs,look qo id=some cs->iX w gc id cs:=by
  intro id cs h;obtain ⟨ds,h1,h2⟩:=vN hqo id cs h;exact qd (hobs0 (id,ds) (ii h1)) h2
 have hpre:∀ {Z0z:Prop},(Ok0 w gc.st->(∀ i b,gc.ow i=some b->b<w.heap.size/\i<2*M1)->(∀ i j b,gc.ow i=some b->gc.ow j=some b->i=j)->(∀ i b,M1<=i->gc.ow i=some b->∀ o,¬ gc.st b o)->avs.size=q.length->(∀ (i:Nat) c v,q[i]? = some c->avs[i]? = some v->ARep w gc c v)->(∀ id cs,look qo id=some cs->iX w gc id cs)->Z0z)->Z0z:=λ k=>k (by rw [hgst]; exact hs.ok0) (λ j b h=>by
   obtain ⟨i,h4,⟨_,_,h3⟩|⟨_,_,h3⟩⟩:=gcinv j b h
   ·exact ⟨(hs.own i b h4).1,h3⟩
   ·exact ⟨(hs.own i b h4).1,by omega⟩) (λ i j b h1 h2=>by
   obtain ⟨i',p3,p⟩:=gcinv i b h1;obtain ⟨j',q3,q⟩:=gcinv j b h2;have:=hs.inj i' j' b p3 q3;subst this;rcases p with ⟨p1,p2,_⟩|⟨p1,p2,p4⟩ <;> rcases q with ⟨q1,q2,_⟩|⟨q1,q2,q4⟩
   ·have:=ji hnd _ _ _ p1 q1; omega
   ·have h5:=(hsplit _ (hidD _ _ p1)).2;rw [hvD _ _ q1] at h5; cases h5
   ·have h5:=(hsplit _ (hidD _ _ q1)).2;rw [hvD _ _ p1] at h5; cases h5
   ·have:=ji hvd _ _ _ p1 q1; omega) (λ j b hj h=>by rw [hgst]; exact hnst j b hj h) (a1.trans (m1.trans b1)) hargs hqo'
 refine ⟨gc,hpre λ k1 k2 k3 k4 k5 k6 k7=>⟨k1,k2,k3,k4,k5,k6,k7⟩,λ w' v r r' obs' ob' g' hr hob' hA hr' hmo'=>?_⟩
 have nogc:∀ i b,(∀ (k:Nat),ids[k]?≠some i)->(∀ (k:Nat),NS[k]?≠some i)->g.ow i=some b->∀ j,gc.ow j≠some b:=by
  intro i b hi hv hb j hj;obtain ⟨i',p3,p⟩:=gcinv j b hj;have:=hs.inj i i' b hb p3;subst this;rcases p with ⟨p1,_⟩|⟨p1,_⟩
  ·exact hi _ p1
  ·exact hv _ p1
 obtain ⟨g2,hg2⟩:∃ g2:Gh,g2=⟨g'.st,λ i=>if wJ NB NE i=true then g'.ow (2*M1+(i-NB)) else if NS.any (Nat.beq i)=true then none else g.ow i⟩:=⟨_,rfl⟩
 have hg2st:g2.st=g'.st:=by rw [hg2]
 have g2old:∀ i,dp NS NB NE i=false->g2.ow i=g.ow i:=λ i h=>by
  obtain ⟨h1,h2⟩:=hsplit i h;rw [hg2]; simp only [h1,h2,Bool.false_eq_true,if_false]
 have g2new:∀ i,wJ NB NE i=true->g2.ow i=g'.ow (2*M1+(i-NB)):=λ i h=>by rw [hg2]; simp only [h,if_true]
 have g2cases:∀ i b,g2.ow i=some b->(wJ NB NE i=true/\g'.ow (2*M1+(i-NB))=some b)\/(dp NS NB NE i=false/\g.ow i=some b):=by
  intro i b h
  cases h1:wJ NB NE i
  ·cases h2:NS.any (Nat.beq i)
   ·have h3:dp NS NB NE i=false:=by unfold dp; rw [h1,h2]; rfl
    exact .inr ⟨h3,by rw [<- g2old i h3]; exact h⟩
   ·rw [hg2] at h; simp only [h1,h2,Bool.false_eq_true,if_false,if_true] at h; cases h
  ·exact .inl ⟨Z,by rw [<- g2new i h1]; exact h⟩
 have hDM:∀ i,M1<=i->dp NS NB NE i=false:=λ i hi=>by
  cases hq:dp NS NB NE i
  ·rfl
  ·unfold dp at hq;simp only [Bool.or_eq_true] at hq;rcases hq with hq|hq
   ·exact absurd (Nat.lt_of_lt_of_le (Nat.lt_of_lt_of_le (hDn i hq).2 hdl') hi) (Nat.lt_irrefl _)
   ·obtain ⟨k,hk⟩:=hDv i hq;exact absurd (Nat.lt_of_lt_of_le (hvll k i hk) hi) (Nat.lt_irrefl _)
 have hbm:∀ j i b,lD ids NB NE j=some i->g'.ow j=some b->g2.ow i=some b:=by
  intro j i b h hb;rcases Br h with ⟨k,rfl,rfl,h4⟩|⟨h3,h4,h5⟩
  ·rw [g2new (NB+k) (by
    unfold wJ;simp only [n8]
    exact ⟨Nat.ble_eq_true_of_le (Nat.le_add_right _ _),by rw [d3]; exact h4⟩),Nat.add_sub_cancel_left]
   exact hb
  ·rw [g2old i (hidD _ i h5)];rw [hA.owf j h3 h4] at hb;obtain ⟨i',p3,⟨p1,_,_⟩|⟨_,_,p5⟩⟩:=gcinv j b hb
   ·rw [h5] at p1; cases p1;exact p3
   ·omega
 have hE:EvO (dp NS NB NE) w g w' g2:=by
  refine ⟨by rw [hg2st]; have:=hA.ev; rw [hgst] at this; exact this,λ id b hq h=>by rw [g2old id hq]; exact h,λ id b c e hq h0 h=>?shape,λ id b o hq h ho=>?_,λ id b es k hq h0 h=>?mpc,λ i hi=>hDM i (zX hi),λ id b o hq h0 ho=>?stb⟩
  case stb=>
   have hlt:=(hs.own id b h0).1;by_cases hno:∃ j,gc.ow j=some b
   ·obtain ⟨j,hj⟩:=hno;obtain ⟨i',p3,⟨p1,_,_⟩|⟨p1,_,_⟩⟩:=gcinv j b hj
    ·obtain ⟨cs,N0⟩:=hidob _ i' p1;obtain ⟨b',c,e,k1,k2,_,k4,_⟩:=hs.ob i' cs N0;rw [p3] at k1; cases k1;exact absurd ho (k4 o)
    ·have:=hs.inj id i' b h0 p3;exact yo
   ·exact hA.fr b hlt (λ j hj=>hno ⟨j,hj⟩)
  case mpc=>
   have hlt:=(hs.own id b h0).1;by_cases hno:∃ j,gc.ow j=some b
   ·obtain ⟨j,hj⟩:=hno;obtain ⟨i',p3,⟨p1,_,_⟩|⟨p1,_,_⟩⟩:=gcinv j b hj
    ·obtain ⟨cs,N0⟩:=hidob _ i' p1;obtain ⟨b',c,e,k1,k2,_⟩:=hs.ob i' cs N0;rw [p3] at k1; cases k1;rw [k2] at h; cases h
    ·have:=hs.inj id i' b h0 p3;exact yo
   ·exact (hA.fr b hlt (λ j hj=>hno ⟨j,hj⟩)).trans h
  case shape=>
   have hlt:=(hs.own id b h0).1;by_cases hno:∃ j,gc.ow j=some b
   ·obtain ⟨j,hj⟩:=hno;obtain ⟨i',p3,⟨_,p2,_⟩|⟨p1,_,_⟩⟩:=gcinv j b hj
    ·exact hA.sh j b c e p2 hj h
    ·have:=hs.inj id i' b h0 p3;exact yo
   ·exact ⟨c,(hA.fr b hlt (λ j hj=>hno ⟨j,hj⟩)).trans h,Z⟩
  rw [hg2st] at ho;have hlt:=(hs.own id b h).1;by_cases hno:∃ j,gc.ow j=some b
  ·obtain ⟨j,hj⟩:=hno;obtain ⟨i',p3,⟨_,p2,_⟩|⟨p1,_,_⟩⟩:=gcinv j b hj
   ·exact absurd ho (hA.nst j b p2 hj o)
   ·have:=hs.inj id i' b h p3;exact yo
  ·have:=(hA.stf b hlt (λ j hj=>hno ⟨j,hj⟩) o).1 ho;rw [hgst] at this; exact this
 have hs':St C.n C.w0 C.F g2 ⟨(cq (dp NS NB NE) ⟨sl,ob⟩).sl,ob'++(cq (dp NS NB NE) ⟨sl,ob.filter λ p=>!(ids.any (Nat.beq p.1))⟩).ob⟩ a w':=by
  refine ⟨hs.nd,hs.sz,λ i=>?_,λ id cs h=>?_,λ i j b h1 h2=>?_,λ i b h=>?_,by rw [hg2st]; exact hA.lt,hs.fl,λ b h=>?_,hA.os.trans hs.os,hA.out.trans hs.out,hA.tape.trans hs.tape,Nat.le_trans hs.size hA.size,λ b h o=>?_,λ i h hz=>?_,hs.shf.next (λ i b c e hi hb h=>hE.shape i b c e (hDM i hi) ((hs.owf i hi (C.w0.lo i b hb)).trans hb) h),λ i b h1 h2 o h3=>?_,hs.ev0.trans hE.ev⟩
  ·have h:=(hs.sl i).dem hE;simp only [AS.get,cq,iy];simp only [AS.get] at h
   cases hl:look sl i with
   | none=>simp only [Option.map_none,Option.getD_none]; exact .undef _
   | some x=>rw [hl] at h; simpa using h
  ·dsimp only at h;rw [jd] at h;split at h
   ·rename_i x hx
    cases h
    exact pO hg2st hbm hmo' hob' (id,cs) (ii hx)
   ·have hf1:=j6 (dp NS NB NE) (ob.filter λ p=>!(ids.any (Nat.beq p.1))) id;simp only [cq,iy] at h;rw [hf1] at h
    cases hDi:dp NS NB NE id
    ·simp only [hDi,Bool.false_eq_true,if_false,mv] at h;have hf:=j6 (λ i=>ids.any (Nat.beq i)) ob id;rw [hf] at h
     cases hany:ids.any (Nat.beq id)
     ·rw [hany] at h;simp only [Bool.false_eq_true,if_false] at h;obtain ⟨ds,h1,rfl⟩:=h
      have hni:∀ (k:Nat),ids[k]?≠some id:=λ k hk=>by
       rw [List.any_eq_false] at hany;exact hany id (List.mem_of_getElem? hk) G
      have hnv:∀ (k:Nat),NS[k]?≠some id:=λ k hk=>by
       have h5:=(hsplit _ hDi).2;rw [hvD _ _ hk] at h5; cases h5
      obtain ⟨b,c,e,k1,k2,k3,k4,k5⟩:=hs.ob id ds h1;have hlt:=(hs.own id b k1).1;have hno:=nogc id b hni hnv k1;refine ⟨b,c,e,by rw [g2old id hDi]; exact k1,(hA.fr b hlt hno).trans k2,by simpa [kA] using k3,λ o ho=>?_,λ i x hx=>?_⟩
      ·rw [hg2st] at ho;have:=(hA.stf b hlt hno o).1 ho;rw [hgst] at this; exact k4 o this
      ·exact FE
     ·rw [hany] at h; simp at h
    ·simp [hDi] at h
  ·have cross:∀ i j b,wJ NB NE i=true->g'.ow (2*M1+(i-NB))=some b->dp NS NB NE j=false->g.ow j=some b->False:=by
    intro i j b hi h1 hj h2;have hlt:=(hs.own j b h2).1;rcases (hA.own _ b h1).2 with h3|⟨j',hj'⟩
    ·omega
    ·obtain ⟨i',p3,⟨p1,p2,p4⟩|⟨p1,_,_⟩⟩:=gcinv j' b hj'
     ·have h4:=hA.owf j' p2 p4;rw [hj'] at h4;have:=hA.inj _ _ b h1 h4;omega
     ·have:=hs.inj j i' b h2 p3;subst this;have h5:=(hsplit _ hj).2;rw [hvD _ _ p1] at h5; cases h5
   rcases g2cases i b h1 with ⟨x1,x2⟩|⟨x1,x2⟩ <;> rcases g2cases j b h2 with ⟨y1,y2⟩|⟨y1,y2⟩
   ·have:=hA.inj _ _ b x2 y2;have:=hDn i x1;have:=hDn j y1;omega
   ·exact (cross i j b x1 x2 y1 y2).elim
   ·exact (cross j i b y1 y2 x1 x2).elim
   ·exact hs.inj i j b x2 y2
  ·rcases g2cases i b h with ⟨x1,x2⟩|⟨x1,x2⟩
   ·obtain ⟨k1,k2⟩:=hA.own _ b x2;refine ⟨k1,λ hF=>?_⟩;rcases k2 with k2|⟨j,hj⟩
    ·have:=hs.fl b hF; have:=hs.size; omega
    ·obtain ⟨i',p3,_⟩:=gcinv j b hj;exact (hs.own i' b p3).2 hF
   ·have:=hs.own i b x2;have:=hA.size;exact ⟨by omega,(hs.own i b x2).2⟩
  ·have hlt:b<w.heap.size:=by have:=hs.fl b h; have:=hs.size; omega
   exact (hA.fr b hlt λ j hj=>by
    obtain ⟨i',p3,_⟩:=gcinv j b hj
    exact (hs.own i' b p3).2 h).trans (hs.fr b h)
  ·have hlt:b<w.heap.size:=by have:=hs.fl b h; have:=hs.size; omega
   rw [hg2st]
   have:=hA.stf b hlt (λ j hj=>by
    obtain ⟨i',p3,_⟩:=gcinv j b hj
    exact (hs.own i' b p3).2 h) o
   rw [hgst] at this;exact this.trans (hs.stf b h o)
  ·rw [g2old i (hDM i h)]; exact hs.owf i h hz
  ·rw [hg2st] at h3;have h4:g.ow i=some b:=(hs.owf i h1 (C.w0.lo i b h2)).trans h2;have hlt:=(hs.own i b h4).1;by_cases hin:∃ k:Nat,ids[k]? = some i
   ·obtain ⟨k,hk⟩:=hin
    have hj:gc.ow (M1+k)=some b:=by
     rw [hgc]; dsimp only; rw [if_pos O,Nat.add_sub_cancel_left,hk]; exact h4
    exact hA.nst (M1+k) b O hj o h3
   have hno:=nogc i b (λ k hk=>hin ⟨k,hk⟩) (λ k hk=>by have:=hvll k i hk; omega) h4;have:=(hA.stf b hlt hno o).1 h3;rw [hgst] at this;exact hs.nst i b h1 h2 o this
 exact ⟨g2,hs',kj hg2st hbm hr hr'⟩
theorem xq (ids NS:List Nat)(NB NE:Nat){f:FuncId}{l l' q:List AV}{Of obs0 qo:List (Nat×List AV)}{R:AV->List (Nat×List AV)->Prop}(hc:aS C.P f q qo R)
  (hen:∀ g a w,St C.n C.w0 C.F g ⟨sl,ob⟩ a w->∃ vs:Array Value,(execOp a.eval o).run C.P w=.ok (.enter f vs) w/\vs.size=l.length/\∀ (i:Nat) c v,l[i]? = some c->vs[i]? = some v->ARep w g c v)
  (hd:o.dst=some d) (hn:Nat.blt d C.n=true) (hl':AV.mapA.go (lO ids NS) l=some l') (hq:nj l' q) (hpk:iQ ob ids=some Of) (hmo:iK (lO ids NS) Of=some obs0) (hqo:leO obs0 qo)
  (hnd:nodupB ids=true) (hids:ids.all (λ i=>Nat.blt i (2*M1))=true) (hil:Nat.ble ids.length M1=true) (hdl:Nat.ble NE M1=true) (hdis:ids.all (λ i=>!(dp NS NB NE i))=true)
  (hvd:nodupB NS=true) (hvl:NS.all (λ i=>Nat.blt i M1)=true) (hvn:Nat.ble NS.length 100000=true)
  (hK:∀ r obs',R r obs'->∃ r' ob',r.mapA (lD ids NB NE)=some r'/\iK (lD ids NB NE) obs'=some ob' /\
   K ⟨(d,r')::(cq (dp NS NB NE) ⟨sl,ob⟩).sl,ob'++(cq (dp NS NB NE) ⟨sl,ob.filter λ p=>!(ids.any (Nat.beq p.1))⟩).ob⟩):aX C o K ⟨sl,ob⟩:=by
 intro g a w hs;obtain ⟨avs,hrun,a1,a2⟩:=hen g a w hs;obtain ⟨gc,⟨k1,k2,k3,k4,k5,k6,k7⟩,hpost⟩:=q9 ids NS NB NE hl' hq hpk hmo hqo hnd hids hil hdl hdis hvd hvl hvn hs a1 a2;unfold Oper.wp;rw [hrun];simp only [Oper.upon];refine (hc w gc avs k1 k2 k3 k4 k5 k6 k7).mono λ e w' ⟨v,r,obs',g',he,hR,hr,hob',hA⟩=>?_;subst he;obtain ⟨r',ob',hr',hmo',hK'⟩:=hK r obs' hR;obtain ⟨g2,hs',hrep⟩:=hpost w' v r r' obs' ob' g' hr hob' hA hr' hmo';have hp:=hs'.put (d:=o.dst) (λ t ht=>by rw [hd] at ht; cases ht; exact d3 ▸ hn) hrep;rw [hd] at hp;simp only;rw [hd];exact ⟨_,_,hp,hK'⟩
theorem aN (ids NS:List Nat)(NB NE:Nat){f:FuncId}{args:Array Operand}{ts:Array TypeId}{l l' q:List AV}{Of obs0 qo rob ob':List (Nat×List AV)}{r r':AV}(hc:aS C.P f q qo (λ x y=>x=r/\y=rob))(ho:o.op=.call { callee:=.value (.func f),args:=args,argTypes:=ts })
  (hd:o.dst=some d) (hn:Nat.blt d C.n=true) (hl:j8 sl args.toList=some l) (hl':AV.mapA.go (lO ids NS) l=some l') (hq:nj l' q) (hpk:iQ ob ids=some Of) (hmo:iK (lO ids NS) Of=some obs0) (hqo:leO obs0 qo)
  (hnd:nodupB ids=true) (hids:ids.all (λ i=>Nat.blt i (2*M1))=true) (hil:Nat.ble ids.length M1=true) (hdl:Nat.ble NE M1=true) (hdis:ids.all (λ i=>!(dp NS NB NE i))=true)
  (hvd:nodupB NS=true) (hvl:NS.all (λ i=>Nat.blt i M1)=true) (hvn:Nat.ble NS.length 100000=true)
  (henter:∀ vs w,(callFunc f vs).run C.P w=.ok (.enter f vs) w) (hr:r.mapA (lD ids NB NE)=some r') (hob:iK (lD ids NB NE) rob=some ob')
  (hK:K ⟨(d,r')::(cq (dp NS NB NE) ⟨sl,ob⟩).sl,ob'++(cq (dp NS NB NE) ⟨sl,ob.filter λ p=>!(ids.any (Nat.beq p.1))⟩).ob⟩):aX C o K ⟨sl,ob⟩ :=
 xq ids NS NB NE hc (λ g a w hs=>by
  obtain ⟨a1,a2⟩:=jk hs _ l hl
  exact ⟨args.map a.eval,by simp [execOp,ho,resolve,Act.eval,Deferred.ofValue,invoke,henter],by have:=a1.symm; simpa using this,λ i c v hc hv=>a2 i c v hc CY⟩)
  hd hn hl' hq hpk hmo hqo hnd hids hil hdl hdis hvd hvl hvn λ x y ⟨e1,e2⟩=>by
  subst e1 e2;exact ⟨r',ob',hr,hob,hK⟩
theorem xB (ids NS:List Nat)(NB NE:Nat){f:FuncId}{caps:List AV}{t:Nat}{args:Array Operand}{ts:Array TypeId}{l l' q:List AV}{Of obs0 qo rob ob':List (Nat×List AV)}{r r':AV}(hc:aS C.P f q qo (λ x y=>x=r/\y=rob))(ho:o.op=.call { callee:=.value (.tmp t),args:=args,argTypes:=ts })
  (hd:o.dst=some d) (hn:Nat.blt d C.n=true) (hf:evo sl (.tmp t)=some (.func (.func f) caps)) (hl:j8 sl args.toList=some l) (hl':AV.mapA.go (lO ids NS) (l++caps)=some l') (hq:nj l' q) (hpk:iQ ob ids=some Of) (hmo:iK (lO ids NS) Of=some obs0) (hqo:leO obs0 qo)
  (hnd:nodupB ids=true) (hids:ids.all (λ i=>Nat.blt i (2*M1))=true) (hil:Nat.ble ids.length M1=true) (hdl:Nat.ble NE M1=true) (hdis:ids.all (λ i=>!(dp NS NB NE i))=true)
  (hvd:nodupB NS=true) (hvl:NS.all (λ i=>Nat.blt i M1)=true) (hvn:Nat.ble NS.length 100000=true)
  (henter:∀ vs w,(callFunc f vs).run C.P w=.ok (.enter f vs) w) (hr:r.mapA (lD ids NB NE)=some r') (hob:iK (lD ids NB NE) rob=some ob')
  (hK:K ⟨(d,r')::(cq (dp NS NB NE) ⟨sl,ob⟩).sl,ob'++(cq (dp NS NB NE) ⟨sl,ob.filter λ p=>!(ids.any (Nat.beq p.1))⟩).ob⟩):aX C o K ⟨sl,ob⟩ :=
 xq ids NS NB NE hc (λ g a w hs=>by
  obtain ⟨a1,a2⟩:=jk hs _ l hl;have hfr:=bv hs hf;generalize hv:a.eval (.tmp t)=v at hfr
  cases hfr with
  | func N0 hcr=>
   rename_i vs;have a1':(args.map a.eval).size=l.length:=by have:=a1.symm; simpa using this
   refine ⟨args.map a.eval++vs,by simp [execOp,ho,resolve,hv,Deferred.ofValue,invoke,henter],by rw [Array.size_append,la,a1',N0],λ i c v hc hv=>?_⟩;rw [List.getElem?_append] at hc;rw [Array.getElem?_append] at hv;split at hc
   ·rename_i hlt;rw [if_pos O] at hv;exact a2 i c v hc CY
   ·rename_i hge;rw [if_neg O,a1'] at hv
    exact hcr _ c v hc hv)
  hd hn hl' hq hpk hmo hqo hnd hids hil hdl hdis hvd hvl hvn λ x y ⟨e1,e2⟩=>by
  subst e1 e2;exact ⟨r',ob',hr,hob,hK⟩
end
theorem Gr (h:p:=by
 cases hq:(k1::i::r).any (Nat.beq k) with
 | false=>rfl
 | true=>rw [hno k hq] at hk; cases hk):p:=h
theorem HW (h:p:=by
 exact hbnext (trL (S.D q) sl') (λ z x h=>by rw [rG,h]; rfl) z x hx):p:=h
theorem FS (h:p:=by
 intro z zi hz hb
 exact (hI.2.1 z zi hz).1 (lb hI.2.2 4 o zi hb hafter)):p:=h
theorem GL (h:p:=by
 simp only [wr] at this ⊢;rcases this with h|h|h
 ·exact .inr (.inl h)
 ·exact .inl h
 ·exact .inr (.inr h)):p:=h
theorem Jc (h:p:=by
 cases hl:listed.getD k false with
 | false=>rfl
 | true=>have:=this.1 hl; omega):p:=h
theorem FG (h:p:=by
 intro e;have:=hsame i k _ _ hRk hp e;subst this
 rw [h1'] at hk; cases hk):p:=h
theorem GI (h:p:=by
 rw [hb,cond_true] at h
 cases h
 rw [cond_true];have:=bx hb;subst this
 exact ⟨v1,rfl,e3.resolve_left (by rw [hk]; exact λ h=>by cases h)⟩):p:=h
theorem F7 (h:p:=by
 exfalso;rw [Array.getD_eq_getD_getElem?,Array.getElem?_replicate] at hk
 split at hk <;> simp at hk):p:=h
theorem Gc (h:p:=by
 cases hq:Nat.beq k2 k1
 ·rfl
 ·rw [bx hq] at a1; rw [Nat.beq_refl] at a1; cases a1):p:=h
theorem rh (h:p:=by simpa using hq):p:=h
def iW (o:Oper)(k:Nat):Bool:=o.after.toList.any λ e=>Nat.beq e.on k&&Region.binds .any e
def mK (ops:Array Oper):Nat->Oper->Nat->Bool|0,o,a=>iW o a|n+1,o,a=>iW o a||ops.toList.zipIdx.any λ p=>iW o p.2&&mK ops n p.1 a
def oh (ops:Array Oper)(imp:List Nat)(o:Oper)(k j:Nat):Bool :=
 (imp.zipIdx.all λ p=>!(mK ops 4 o p.1)||Nat.blt p.2 j)&&(imp.zipIdx.all λ p=>match ops.toList[p.1]? with
  | some oi=>!(iW oi k)||Nat.ble j p.2
  | none=>true)
def chainB (ops:Array Oper):List Nat->Bool
 | a::b::r=>(match ops.toList[b]? with|some o=>mK ops 4 o a|none=>false)&&chainB ops (b::r)
 | _=>true
def loB (ops:Array Oper)(imp:List Nat)(o:Oper)(j:Nat):Bool:=imp.zipIdx.all λ p=>!(mK ops 4 o p.1)||Nat.blt p.2 j
theorem lb {ops:Array Oper}{listed:Array Bool}(hcl:∀ (k:Nat) o,ops[k]? = some o->listed.getD k false=true->∀ e∈o.after,Region.binds .any e=true->listed.getD e.on false=true) :
  ∀ (n:Nat) (o:Oper) (a:Nat),mK ops n o a=true->(∀ e∈o.after,Region.binds .any e=true->listed.getD e.on false=true)->listed.getD a false=true:=by
 have one:∀ (o:Oper) (a:Nat),iW o a=true->(∀ e∈o.after,Region.binds .any e=true->listed.getD e.on false=true)->listed.getD a false=true:=by
  intro o a h ha;obtain ⟨e,he,hbe⟩:=List.any_eq_true.1 h
  grind [Nat.eq_of_beq_eq_true]
 intro n
 induction n with
 | zero=>exact one
 | succ n ih=>
  grind [mK]
inductive Tr where
 | none
 | some (D:Nat->Bool)
 | fn (f:AV->AV)
def trA:Tr->AV->AV|.none,x=>x|.some D,x=>x.dem D|.fn f,x=>f x
def trL:Tr->List (Nat×AV)->List (Nat×AV)|.none,l=>l|.some D,l=>l.map λ p=>(p.1,p.2.dem D)|.fn f,l=>l.map λ p=>(p.1,f p.2)
theorem rG {D:Tr}{l:List (Nat×AV)}{i:Nat}:look (trL D l) i=(look l i).map (trA D):=by
 cases D with
 | none=>simp only [trL]; cases look l i <;> rfl
 | some D=>simp only [trL,iy]; rfl
 | fn f=>simp only [trL,iy]; rfl
abbrev gD:=List (Nat×Nat×(Nat->AV))
def dK:gD->Nat->Option (Nat×(Nat->AV))|[],_=>none|(j,p)::r,k=>bif Nat.beq j k then some p else dK r k
def ef:gD->Nat->List (Nat×AV)|[],_=>[]|(_,d,v)::r,j=>(d,v j)::ef r j
def KnS (bas:List (Nat×AV))(o:Oper)(rev:gD)(j:Nat):List (Nat×AV)->Prop|[]=>True|(i,x)::r=>(look bas i=some x\/∃ k v,iW o k=true/\dK rev k=some (i,v)/\v j=x)/\KnS bas o rev j r
structure fX where
 m:Nat
 imp:List Nat
 D:Nat->Tr
 bas:Nat->List (Nat×AV)
 obj:Nat->List (Nat×List AV)
def DS (C:Cx)(ops:Array Oper)(S:fX)(K:gD->Prop):List Oper->Nat->gD->Prop
 | [],_,rev=>K rev
 | o::rest,k,rev=>
  match S.imp.findIdx? (Nat.beq k) with
  | none=>∃ d v,o.dst=some d/\(rev.all λ p=>!(Nat.beq p.2.1 d))=true/\(∀ j,look (S.bas j) d=none)/\(∀ j,j<S.m->loB ops S.imp o j=true->v (j+1)=trA (S.D j) (v j)) /\
    (∀ j,j<=S.m->oh ops S.imp o k j=true->∃ kn,KnS (S.bas j) o rev j kn/\ug C ops (S.obj j) o kn d (v j))/\DS C ops S K rest (k+1) ((k,d,v)::rev)
  | some i=>∃ kn,KnS (S.bas i) o rev i kn/\((∃ d v,o.dst=some d/\(rev.all λ p=>!(Nat.beq p.2.1 d))=true/\(∀ j,i<j->look (S.bas j) d=none)/\(∀ j,i<j->j<S.m->v (j+1)=trA (S.D j) (v j)) /\
     (∀ sl,(∀ i x,look kn i=some x->look sl i=some x)->∀ K:AS->Prop,K ⟨(d,v (i+1))::trL (S.D i) sl,S.obj (i+1)⟩->One C ops o K ⟨sl,S.obj i⟩)/\DS C ops S K rest (k+1) ((k,d,v)::rev)) \/
    (o.dst=none/\(∀ sl,(∀ i x,look kn i=some x->look sl i=some x)->∀ K:AS->Prop,K ⟨trL (S.D i) sl,S.obj (i+1)⟩->One C ops o K ⟨sl,S.obj i⟩)/\DS C ops S K rest (k+1) rev))
def pN (C:Cx)(ops:Array Oper)(S:fX)(R:Nat->Option (Nat×(Nat->AV)))(o:Oper)(k:Nat):Prop :=
 match S.imp.findIdx? (Nat.beq k) with
 | none=>∃ d v,R k=some (d,v)/\o.dst=some d/\(∀ j,look (S.bas j) d=none)/\(∀ j,j<S.m->loB ops S.imp o j=true->v (j+1)=trA (S.D j) (v j)) /\
   (∀ j,j<=S.m->oh ops S.imp o k j=true->∀ sl,(∀ i x,look (S.bas j) i=some x->look sl i=some x)->(∀ k' p,iW o k'=true->R k'=some p->look sl p.1=some (p.2 j))->∀ K:AS->Prop,K ⟨(d,v j)::sl,S.obj j⟩->One C ops o K ⟨sl,S.obj j⟩)
 | some i=>(∃ d v,R k=some (d,v)/\o.dst=some d/\(∀ j,i<j->look (S.bas j) d=none)/\(∀ j,i<j->j<S.m->v (j+1)=trA (S.D j) (v j)) /\
    (∀ sl,(∀ q x,look (S.bas i) q=some x->look sl q=some x)->(∀ k' p,iW o k'=true->R k'=some p->look sl p.1=some (p.2 i))->∀ K:AS->Prop,K ⟨(d,v (i+1))::trL (S.D i) sl,S.obj (i+1)⟩->One C ops o K ⟨sl,S.obj i⟩)) \/
   (R k=none/\o.dst=none/\(∀ sl,(∀ q x,look (S.bas i) q=some x->look sl q=some x)->(∀ k' p,iW o k'=true->R k'=some p->look sl p.1=some (p.2 i))->∀ K:AS->Prop,K ⟨trL (S.D i) sl,S.obj (i+1)⟩->One C ops o K ⟨sl,S.obj i⟩))
theorem sa {bas:List (Nat×AV)}{o:Oper}{rev:gD}{j:Nat}{R:Nat->Option (Nat×(Nat->AV))}(hR:∀ k p,dK rev k=some p->R k=some p){sl:List (Nat×AV)}(h1:∀ i x,look bas i=some x->look sl i=some x)
  (h2:∀ k' p,iW o k'=true->R k'=some p->look sl p.1=some (p.2 j)):∀ {kn:List (Nat×AV)},KnS bas o rev j kn->∀ i x,look kn i=some x->look sl i=some x
 | [],_,i,x,h=>by simp [look] at h
 | (q,y)::r,hk,i,x,h=>by
  rw [a6] at h;by_cases e:q=i
  ·rw [if_pos e] at h; cases h; subst e;rcases hk.1 with h3|⟨k,v,h3,h4,h5⟩
   ·grind
   grind
  ·rw [if_neg e] at h;exact sa hR h1 h2 hk.2 i x h
theorem vC {rev:gD}{k:Nat}(h:∀ p∈rev,p.1<k):dK rev k=none:=by
 induction rev with
 | nil=>rfl
 | cons p r ih=>
  grind [dK,Nat.eq_of_beq_eq_true]
theorem xU {C:Cx}{ops:Array Oper}{S:fX}{K:gD->Prop}:∀ {l:List Oper} {k:Nat} {rev:gD},DS C ops S K l k rev->(∀ p∈rev,p.1<k) ->
  ∃ fin:gD,K fin/\(∀ i,i<k->dK fin i=dK rev i)/\(∀ p∈fin,p.1<k+l.length) /\
   (∀ (i:Nat) o,l[i]? = some o->pN C ops S (dK fin) o (k+i)) /\
   (∃ pre:gD,fin=pre++rev/\(∀ p∈pre,∀ q∈rev,p.2.1≠q.2.1)/\(∀ (i j:Nat) p q,pre[i]? = some p->pre[j]? = some q->p.2.1=q.2.1->i=j)/\(∀ p∈pre,k<=p.1)/\∀ (i j:Nat) p q,pre[i]? = some p->pre[j]? = some q->p.1=q.1->i=j)
 | [],k,rev,h,hlt=>⟨rev,h,λ _ _=>rfl,hlt,λ i o h=>by simp at h,[],Z,by simp,by simp,by simp,by simp⟩
 | o::rest,k,rev,h,hlt=>by
  -- one more result
  have more:∀ (d:Nat) (v:Nat->AV),(rev.all λ p=>!(Nat.beq p.2.1 d))=true->DS C ops S K rest (k+1) ((k,d,v)::rev) ->
    (∀ fin:gD,(∀ q p,dK rev q=some p->dK fin q=some p)->dK fin k=some (d,v)->pN C ops S (dK fin) o k)->∃ fin:gD,K fin/\(∀ i,i<k->dK fin i=dK rev i)/\(∀ p∈fin,p.1<k+(rest.length+1)) /\
     (∀ (i:Nat) o',(o::rest)[i]? = some o'->pN C ops S (dK fin) o' (k+i)) /\
     (∃ pre:gD,fin=pre++rev/\(∀ p∈pre,∀ q∈rev,p.2.1≠q.2.1)/\(∀ (i j:Nat) p q,pre[i]? = some p->pre[j]? = some q->p.2.1=q.2.1->i=j)/\(∀ p∈pre,k<=p.1)/\∀ (i j:Nat) p q,pre[i]? = some p->pre[j]? = some q->p.1=q.1->i=j):=by
   intro d v hf hrest howes
   obtain ⟨fin,f1,f2,f3,f4,pre,f5,f6,f7,f8,f9⟩:=xU hrest (λ p hp=>by
    grind)
   have hkk:dK fin k=some (d,v):=by
    rw [f2 k (Nat.lt_succ_self k)];simp [dK]
   have hsub:∀ q,q<k->dK fin q=dK rev q:=by
    grind [dK,Nat.eq_of_beq_eq_true]
   have hfrd:∀ q∈rev,q.2.1≠d:=λ q hq e=>by
    have:=rd.1 hf q hq;simp [e] at this
   refine ⟨fin,f1,hsub,λ p hp=>by grind,λ i o' ho'=>?_,pre++[(k,d,v)],by grind,λ p hp q hq=>?_,λ i j p q hi hj e=>?_,λ p hp=>?_,λ i j p q hi hj e=>?_⟩
   ·cases i with
    | zero=>
     grind [vC]
    | succ i=>
     grind
   ·grind
   ·grind
   ·grind
   grind
  unfold DS at h
  cases hi:S.imp.findIdx? (Nat.beq k) with
  | none=>
   rw [hi] at h;obtain ⟨d,v,hd,hf,hb,hv,hs,hrest⟩:=h;refine more d v hf hrest λ fin hR hk=>?_;unfold pN;rw [hi];refine ⟨d,v,hk,hd,hb,hv,λ j hj hal sl h1 h2 K hK=>?_⟩;obtain ⟨kn,hkn,N7⟩:=hs j hj hal;exact N7 sl (sa hR h1 h2 hkn) K hK
  | some i=>
   rw [hi] at h;obtain ⟨kn,hkn,⟨d,v,hd,hf,hb,hv,N7,hrest⟩|⟨hd,N7,hrest⟩⟩:=h
   ·refine more d v hf hrest λ fin hR hk=>?_;unfold pN;rw [hi];exact .inl ⟨d,v,hk,hd,hb,hv,λ sl h1 h2 K hK=>N7 sl (sa hR h1 h2 hkn) K hK⟩
   ·obtain ⟨fin,f1,f2,f3,f4,pre,f5,f6,f7,f8,f9⟩:=xU hrest (by grind);refine ⟨fin,f1,λ q hq=>f2 q (Nat.lt_succ_of_lt hq),λ p hp=>by grind,λ q o' ho'=>?_,pre,f5,f6,f7,λ p hp=>by grind,f9⟩
    cases q with
    | zero=>
     simp only [List.getElem?_cons_zero,aq] at ho';subst ho'
     have hkn':dK fin k=none:=by
      grind [vC]
     unfold pN;rw [Nat.add_zero,hi];refine .inr ⟨hkn',hd,λ sl h1 h2 K hK=>N7 sl (sa (λ q p hq=>?_) h1 h2 hkn) K hK⟩
     grind [vC]
    | succ q=>
     grind
theorem nZ:∀ {rev:gD} {k:Nat} {p:Nat×(Nat->AV)},dK rev k=some p->(k,p)∈rev
 | [],k,p,h=>by simp [dK] at h
 | (j,q)::r,k,p,h=>by
  simp only [dK] at h
  cases hb:Nat.beq j k
  ·rw [hb,cond_false] at h;exact List.mem_cons_of_mem _ (nZ h)
  simp_all
theorem vK:∀ {rev:gD} {j i:Nat} {x:AV},(i,x)∈ef rev j->∃ k v,(k,i,v)∈rev/\v j=x
 | [],j,i,x,h=>by simp [ef] at h
 | (k,d,v)::r,j,i,x,h=>by
  simp only [ef] at h;rcases wr.1 h with e|h
  ·grind
  ·obtain ⟨k',v',h1,h2⟩:=vK h
   grind
theorem kf {ops:Array Oper}:∀ {imp:List Nat},chainB ops imp=true->∀ (i a b:Nat) o,imp[i]? = some a->imp[i+1]? = some b->ops[b]? = some o->mK ops 4 o a=true
 | [],_,i,a,b,o,h,_,_=>by simp at h
 | [x],_,i,a,b,o,h1,h2,_=>by
  grind
 | x::y::r,hc,i,a,b,o,h1,h2,h3=>by
  simp only [chainB,n8] at hc
  cases i with
  | zero=>
   grind
  | succ i=>
   simp only [List.getElem?_cons_succ] at h1 h2;exact kf hc.2 i a b o h1 (by grind) h3
theorem zK {ops:Array Oper}{listed:Array Bool}(hs:listed.size=ops.size)(hord:∀ (j:Nat) o,ops[j]? = some o->∀ e∈o.after,Region.binds .any e=true->e.on<j)(h:Region.ready .any ops listed=[]) :
  ∀ j,j<ops.size->listed.getD j false=true:=by
 intro j
 induction j using Nat.strongRecOn with
 | ind j ih=>
  intro hj
  cases hv:listed.getD j false with
  | true=>rfl
  | false=>
   have hjl:j<listed.size:=by omega
   have:j∈Region.ready .any ops listed:=by
    rw [mem_ready];refine ⟨?_,ops[j],Array.getElem?_eq_getElem hj,λ e he hb=>?_⟩
    ·grind
    grind
   grind
structure Aj (C:Cx)(ops:Array Oper)(S:fX)(fin:gD):Prop where
 owes:∀ (k:Nat) o,ops[k]? = some o->pN C ops S (dK fin) o k
 lt:∀ k p,dK fin k=some p->k<ops.size
 same:∀ k k' p p',dK fin k=some p->dK fin k'=some p'->p.1=p'.1->k=k'
 num:∀ (i j:Nat) p q,fin[i]? = some p->fin[j]? = some q->p.1=q.1->i=j
 len:S.imp.length=S.m
 bas:∀ j,j<S.m->fG (trL (S.D j) (S.bas j)) (S.bas (j+1))
 nd:nodupB S.imp=true
 inn:S.imp.all (λ i=>Nat.blt i ops.size)=true
 ord:∀ (j:Nat) o,ops[j]? = some o->∀ e∈o.after,Region.binds .any e=true->e.on<j
theorem Aj.mk' {C:Cx}{ops:Array Oper}{S:fX}{K:gD->Prop}(NK:S.imp.length=S.m)
  (hbas:∀ j,j<S.m->fG (trL (S.D j) (S.bas j)) (S.bas (j+1))) (hnd:nodupB S.imp=true) (hin:S.imp.all (λ i=>Nat.blt i ops.size)=true)
  (hord:(ops.toList.zipIdx.all λ p=>p.1.after.toList.all λ e=>!(Region.binds .any e)||Nat.blt e.on p.2)=true) (h:DS C ops S K ops.toList 0 []):∃ fin,K fin/\Aj C ops S fin:=by
 obtain ⟨fin,hfin,_,hfl,howes,pre,hpre,_,hdst,_,hnum⟩:=xU h G;rw [List.append_nil] at hpre;subst hpre;simp only [sm,Array.length_toList] at hfl howes;have howes':∀ (k:Nat) o,ops[k]? = some o->pN C ops S (dK fin) o k:=λ k o ho=>howes k o (by rw [Array.getElem?_toList]; exact ho)
 have hord':∀ (j:Nat) o,ops[j]? = some o->∀ e∈o.after,Region.binds .any e=true->e.on<j:=by
  exact IY
 have hlt:∀ k p,dK fin k=some p->k<ops.size:=λ k p h=>hfl _ (nZ h)
 have hsame:∀ k k' p p',dK fin k=some p->dK fin k'=some p'->p.1=p'.1->k=k':=by
  intro k k' p p' h1 h2 e;obtain ⟨i,hi⟩:=List.mem_iff_getElem?.1 (nZ h1);obtain ⟨i',hi'⟩:=List.mem_iff_getElem?.1 (nZ h2);have:=hdst i i' _ _ hi hi' e;subst this;rw [hi] at hi'; cases hi'; rfl
 have hdstOf:∀ k o p,ops[k]? = some o->dK fin k=some p->o.dst=some p.1:=by
  intro k o p ho hk;have h:=howes' k o ho;unfold pN at h;split at h
  ·obtain ⟨d,v,h1,h2,_⟩:=h;rw [hk] at h1; cases h1; exact h2
  ·rcases h with ⟨d,v,h1,h2,_⟩|⟨h1,_⟩
   ·rw [hk] at h1; cases h1; exact h2
   ·rw [hk] at h1; cases h1
 exact ⟨fin,hfin,howes',hlt,hsame,hnum,NK,hbas,hnd,hin,hord'⟩
def EJ (ops:Array Oper)(S:fX)(listed:Array Bool)(j:Nat):Prop:=j<=S.m/\(∀ (i k:Nat),S.imp[i]? = some k->(listed.getD k false=true↔i<j))/\(∀ (k:Nat) o,ops[k]? = some o->listed.getD k false=true->∀ e∈o.after,Region.binds .any e=true->listed.getD e.on false=true)
def PKn (S:fX)(fin:gD)(listed:Array Bool)(j:Nat)(sl':List (Nat×AV)):Prop:=(∀ i x,look (S.bas j) i=some x->look sl' i=some x)/\(∀ k p,listed.getD k false=true->dK fin k=some p->look sl' p.1=some (p.2 j))
structure PAt (C:Cx)(ops:Array Oper)(S:fX)(fin:gD)(fuel:Nat)(listed:Array Bool)(g:Gh)(a:Act)(w:World)(sl':List (Nat×AV))(j:Nat):Prop where
 sz:listed.size=ops.size
 un:unl ops.size listed=fuel
 inv:EJ ops S listed j
 kn:PKn S fin listed j sl'
 st:St C.n C.w0 C.F g ⟨sl',S.obj j⟩ a w
theorem AS.le_refl (s:AS):s.le s:=⟨λ j x h=>by grind [AS.get,AV.sub_refl],λ id cs h=>⟨cs,h,bt _,λ i c d h1 h2=>by grind [AV.sub_refl]⟩⟩
theorem nY {C:Cx}{ops:Array Oper}{Q:Exit->AS->Prop}{S:fX}{fin:gD}(hP:Aj C ops S fin){t:AS}(hle:(⟨ef fin S.m++S.bas S.m,S.obj S.m⟩:AS).le t)(hfin:Q .normal t)(j0:Nat)
  (hsw:∀ (fuel:Nat) (listed:Array Bool) (g:Gh) (a:Act) (w:World) (sl':List (Nat×AV)) (j:Nat),j0<=j->PAt C ops S fin (fuel+1) listed g a w sl' j->∀ i q,i∈Region.ready .any ops listed->S.imp[q]? = some i->j<q ->
   wpOp C.P ops (λ e a' w'=>∃ g' s',St C.n C.w0 C.F g' s' a' w'/\Q e s') i (wpAny C.P .any ops (λ e a' w'=>∃ g' s',St C.n C.w0 C.F g' s' a' w'/\Q e s') fuel (listed.setIfInBounds i true)) a w) :
  (∀ (fuel:Nat) (listed:Array Bool) (g:Gh) (a:Act) (w:World) (sl':List (Nat×AV)) (j:Nat),j0<=j->PAt C ops S fin fuel listed g a w sl' j->wpAny C.P .any ops (λ e a' w'=>∃ g' s',St C.n C.w0 C.F g' s' a' w'/\Q e s') fuel listed a w) /\
  (∀ (fuel:Nat) (listed:Array Bool) (g:Gh) (a:Act) (w:World) (sl':List (Nat×AV)) (j i:Nat),(j0<=j\/(j0<=j+1/\S.imp[j]? = some i))->i∈Region.ready .any ops listed->PAt C ops S fin (fuel+1) listed g a w sl' j ->
   wpOp C.P ops (λ e a' w'=>∃ g' s',St C.n C.w0 C.F g' s' a' w'/\Q e s') i (wpAny C.P .any ops (λ e a' w'=>∃ g' s',St C.n C.w0 C.F g' s' a' w'/\Q e s') fuel (listed.setIfInBounds i true)) a w):=by
 obtain ⟨howes',hlt,hsame,hnum,NK,hbas,hnd,hin,hord'⟩:=hP;have himp:∀ {k i:Nat},S.imp.findIdx? (Nat.beq k)=some i->S.imp[i]? = some k:=λ h=>kk h
 have himp2:∀ {k i:Nat},S.imp[i]? = some k->S.imp.findIdx? (Nat.beq k)=some i:=by
  intro k i h
  cases hf:S.imp.findIdx? (Nat.beq k) with
  | none=>
   have:=List.findIdx?_eq_none_iff.1 hf k (List.mem_of_getElem? h);simp at this
  | some i'=>
   have:=ji hnd _ _ _ (himp hf) h;rw [this]
 have done:∀ (listed:Array Bool) (g:Gh) (a:Act) (w:World) (sl':List (Nat×AV)) (j:Nat),(∀ k,k<ops.size->listed.getD k false=true)->EJ ops S listed j->PKn S fin listed j sl'->St C.n C.w0 C.F g ⟨sl',S.obj j⟩ a w ->
   ∃ g' s',St C.n C.w0 C.F g' s' a w/\Q .normal s':=by
  intro listed g a w sl' j hall hI hK hs
  have hj:j=S.m:=by
   rcases Nat.lt_or_ge j S.m with hlt|hge
   ·exfalso;have hjl:j<S.imp.length:=by omega
    have h1:=(hI.2.1 j S.imp[j] (List.getElem?_eq_getElem hjl)).1 (hall _ (by
     have:=rd.1 hin S.imp[j] (List.getElem_mem hjl)
     exact d3 ▸ this))
    omega
   ·exact Nat.le_antisymm hI.1 hge
  subst hj;refine ⟨g,t,(hs.weaken (t:=⟨ef fin S.m++S.bas S.m,S.obj S.m⟩) ?_).weaken hle,hfin⟩;refine Fs λ i x hx=>?_;rw [jd] at hx
  cases hq:look (ef fin S.m) i with
  | none=>rw [hq] at hx; exact hK.1 i x (by simpa using hx)
  | some y=>
   rw [hq] at hx;simp only [aq] at hx;subst hx;obtain ⟨k,v,h1,h2⟩:=vK (ii hq)
   have hk:dK fin k=some (i,v):=by
    obtain ⟨q,hq'⟩:=List.mem_iff_getElem?.1 h1
    cases hl:dK fin k with
    | none=>
     exfalso
     have hno:∀ {rev:gD} {k:Nat} {p:Nat×(Nat->AV)},(k,p)∈rev->dK rev k≠none:=by
      intro rev
      induction rev with
      | nil=>intro k p h; simp at h
      | cons z r ih=>
       intro k p h;obtain ⟨j,q⟩:=z;simp only [dK]
       cases hb:Nat.beq j k
       ·rw [cond_false];rcases wr.1 h with e|h
        ·cases e; simp at hb
        ·exact ih h
       ·rw [cond_true]; simp
     exact hno h1 hl
    | some p=>
     obtain ⟨q2,hq2⟩:=List.mem_iff_getElem?.1 (nZ hl);have:=hnum q q2 _ _ hq' hq2 rfl;subst this;rw [hq'] at hq2; cases hq2; rfl
   have:=hK.2 k _ (hall k (hlt k _ hk)) hk;rw [<- h2]; exact this
 have step:∀ (fuel:Nat),(∀ (listed:Array Bool) (g:Gh) (a:Act) (w:World) (sl':List (Nat×AV)) (j:Nat),j0<=j->PAt C ops S fin fuel listed g a w sl' j->wpAny C.P .any ops (λ e a' w'=>∃ g' s',St C.n C.w0 C.F g' s' a' w'/\Q e s') fuel listed a w) ->
   ∀ (listed:Array Bool) (g:Gh) (a:Act) (w:World) (sl':List (Nat×AV)) (j i:Nat),(j0<=j\/(j0<=j+1/\S.imp[j]? = some i))->i∈Region.ready .any ops listed->PAt C ops S fin (fuel+1) listed g a w sl' j ->
    wpOp C.P ops (λ e a' w'=>∃ g' s',St C.n C.w0 C.F g' s' a' w'/\Q e s') i (wpAny C.P .any ops (λ e a' w'=>∃ g' s',St C.n C.w0 C.F g' s' a' w'/\Q e s') fuel (listed.setIfInBounds i true)) a w:=by
   intro fuel ih' listed g a w sl' j i hwhen hi OA;have hi0:=hi;obtain ⟨NR,hu,hI,hK,hs⟩:=OA
   have ih:∀ (listed:Array Bool) (g:Gh) (a:Act) (w:World) (sl':List (Nat×AV)) (j:Nat),listed.size=ops.size->unl ops.size listed=fuel->EJ ops S listed j->PKn S fin listed j sl'->St C.n C.w0 C.F g ⟨sl',S.obj j⟩ a w->j0<=j ->
     wpAny C.P .any ops (λ e a' w'=>∃ g' s',St C.n C.w0 C.F g' s' a' w'/\Q e s') fuel listed a w:=λ listed g a w sl' j h1 h2 h3 h4 h5 h6=>ih' listed g a w sl' j h6 ⟨h1,h2,h3,h4,h5⟩
   obtain ⟨h1,o,ho,hafter⟩:=mem_ready.1 hi;have hil:i<ops.size:=(Array.getElem?_eq_some_iff.1 ho).1
   have h1':listed.getD i false=false:=by
    have hil2:i<listed.size:=by omega
    simp only [Array.getD_eq_getD_getElem?,Array.getElem?_eq_getElem hil2,n9] at h1 ⊢;exact h1
   have hbo:∀ k,iW o k=true->listed.getD k false=true:=by
    intro k hk;obtain ⟨e,he,hbe⟩:=List.any_eq_true.1 hk;simp only [n8] at hbe;have:=bx hbe.1;subst this;exact hafter e (Array.mem_toList_iff.1 he) hbe.2
   have hget:∀ q,(listed.setIfInBounds i true).getD q false=true->q=i\/listed.getD q false=true:=by
    intro q hq;by_cases e:q=i
    ·exact .inl e
    ·rw [getD_set_ne false (λ h=>e h.symm)] at hq; exact .inr hq
   have hget2:∀ q,listed.getD q false=true->(listed.setIfInBounds i true).getD q false=true:=by
    intro q hq;have Ob:q≠i:=λ e=>by subst e; rw [h1'] at hq; cases hq
    rw [getD_set_ne false (λ h=>Ob h.symm)]; exact hq
   have hgeti:(listed.setIfInBounds i true).getD i false=true:=by
    have hil2:i<listed.size:=by omega
    simp [Array.getD_eq_getD_getElem?,hil2]
   have hclosed:∀ k o',ops[k]? = some o'->(listed.setIfInBounds i true).getD k false=true->∀ e∈o'.after,Region.binds .any e=true->(listed.setIfInBounds i true).getD e.on false=true:=by
    intro k o' ho' hk e he hbe;rcases hget k hk with rfl|hk
    ·rw [ho] at ho'; cases ho';exact hget2 _ (hafter e he hbe)
    ·exact hget2 _ (hI.2.2 k o' ho' hk e he hbe)
   have howe:=howes' i o ho;unfold pN at howe
   cases hfi:S.imp.findIdx? (Nat.beq i) with
   | none=>
    rw [hfi] at howe;obtain ⟨d,v,hRk,hd,Rp,hv,N7⟩:=howe
    have hj0:j0<=j:=by
     rcases hwhen with h|⟨_,h⟩
     ·exact h
     ·rw [himp2 h] at hfi; cases hfi
    have hal:oh ops S.imp o i j=true:=by
     unfold oh;simp only [n8,rd];refine ⟨λ p hp=>?_,λ p hp=>?_⟩
     ·obtain ⟨q,hq⟩:=List.mem_iff_getElem?.1 hp;rw [List.getElem?_zipIdx] at hq;simp only [mv,sm] at hq;obtain ⟨x,hx,rfl⟩:=hq
      cases hbx:mK ops 4 o x
      ·simp
      ·have:=(hI.2.1 q x hx).1 (lb hI.2.2 4 o x hbx hafter);simp only [Bool.not_true,Bool.false_or];rw [d3]; exact this
     ·obtain ⟨q,hq⟩:=List.mem_iff_getElem?.1 hp;rw [List.getElem?_zipIdx] at hq;simp only [mv,sm] at hq;obtain ⟨x,hx,rfl⟩:=hq;simp only [Array.getElem?_toList]
      cases hox:ops[x]? with
      | none=>rfl
      | some ox=>
       simp only
       cases hbx:iW ox i
       ·simp
       ·simp only [Bool.not_true,Bool.false_or];refine Nat.ble_eq_true_of_le (Nat.le_of_not_lt λ hlt=>?_);have hl:=(hI.2.1 q x hx).2 hlt;obtain ⟨e,he,hbe⟩:=List.any_eq_true.1 hbx;simp only [n8] at hbe;have:=bx hbe.1;subst this;have:=hI.2.2 x ox hox hl e (Array.mem_toList_iff.1 he) hbe.2;rw [h1'] at this; cases this
    have N6:=N7 j hI.1 hal sl' hK.1 (λ k' p hb hk'=>hK.2 k' p (hbo k' hb) hk') (λ s=>s=⟨(d,v j)::sl',S.obj j⟩) rfl i ho;refine uE (N6 g a w hs) ?_;rintro a' w' ⟨g',s',hs',rfl⟩;refine ih _ g' a' w' ((d,v j)::sl') j (by simpa using NR) ?_ ⟨hI.1,λ q k hq=>?_,hclosed⟩ ⟨λ q x hx=>?_,λ k p hk hp=>?_⟩ hs' hj0
    ·exact yL
    ·have Ob:k≠i:=λ e=>by subst e; rw [himp2 hq] at hfi; cases hfi
     rw [getD_set_ne false (λ h=>Ob h.symm)]; exact hI.2.1 q k hq
    ·rw [a6,if_neg]
     ·exact hK.1 q x hx
     ·intro e; subst e; rw [Rp j] at hx; cases hx
    ·rw [a6];rcases hget k hk with rfl|hk
     ·rw [hRk] at hp; cases hp; rw [if_pos rfl]
     ·rw [if_neg]
      ·exact hK.2 k p hk hp
      ·exact FG
   | some q=>
    rw [hfi] at howe;have hq:=himp hfi
    -- its stage
    have h2:¬ q<j:=λ h=>by have:=(hI.2.1 q i hq).2 h; rw [h1'] at this; cases this
    by_cases hqj:j<q
    ·rcases hwhen with hj0|⟨_,hji⟩
     ·exact hsw fuel listed g a w sl' j hj0 ⟨NR,hu,hI,hK,hs⟩ i q hi0 hq hqj
     ·have:=ji hnd _ _ _ hji hq; omega
    have hqj:q=j:=by omega
    have hj1:j0<=j+1:=by
     rcases hwhen with h|⟨h,_⟩ <;> omega
    subst hqj;have hqm:q<S.m:=by have:=(List.getElem?_eq_some_iff.1 hq).1; omega
    have hbnext:∀ (sl'':List (Nat×AV)),(∀ z x,look sl' z=some x->look sl'' z=some (trA (S.D q) x))->∀ z x,look (S.bas (q+1)) z=some x->look sl'' z=some x:=by
     intro sl'' NI z x hx;have hx:=ni (hbas q hqm) z x hx;rw [rG,mv] at hx;obtain ⟨y,hy,rfl⟩:=hx;exact NI z y (hK.1 z y hy)
    have hInext:EJ ops S (listed.setIfInBounds i true) (q+1):=by
     refine ⟨hqm,λ z k hz=>?_,hclosed⟩;by_cases e:k=i
     ·subst e;have:=ji hnd _ _ _ hz hq;subst this;exact ⟨λ _=>Nat.lt_succ_self _,λ _=>hgeti⟩
     ·rw [getD_set_ne false (λ h=>e h.symm),hI.2.1 z k hz];constructor
      ·intro h; omega
      ·intro h;rcases Nat.lt_or_ge z q with h5|h5
       ·exact h5
       ·have:z=q:=by omega
        subst this;rw [hq] at hz; cases hz; exact absurd rfl e
    have hvnext:∀ k p,listed.getD k false=true->dK fin k=some p->p.2 (q+1)=trA (S.D q) (p.2 q):=by
     intro k p hk hp;have hkl:=hlt k p hp;have hok:=howes' k ops[k] (Array.getElem?_eq_getElem hkl);unfold pN at hok;split at hok
     ·obtain ⟨d,v,e1,_,_,e2,_⟩:=hok;rw [hp] at e1; cases e1;refine e2 q hqm (rd.2 λ p hp'=>?_);obtain ⟨z,hz⟩:=List.mem_iff_getElem?.1 hp';rw [List.getElem?_zipIdx] at hz;simp only [mv,sm] at hz;obtain ⟨x,hx,rfl⟩:=hz
      cases hbx:mK ops 4 ops[k] x
      ·rfl
      ·have:=(hI.2.1 z x hx).1 (lb hI.2.2 4 _ x hbx (hI.2.2 k _ (Array.getElem?_eq_getElem hkl) hk));simp only [Bool.not_true,Bool.false_or];rw [d3]; exact this
     ·rename_i z hz;have hzq:z<q:=(hI.2.1 z k (himp hz)).1 hk;rcases hok with ⟨d,v,e1,_,_,e2,_⟩|⟨e1,_⟩
      ·rw [hp] at e1; cases e1; exact e2 q hzq hqm
      ·rw [hp] at e1; cases e1
    rcases howe with ⟨d,v,hRk,hd,Rp,hv,N7⟩|⟨hRk,hd,N7⟩
    ·have N6:=N7 sl' hK.1 (λ k' p hb hk'=>hK.2 k' p (hbo k' hb) hk') (λ s=>s=⟨(d,v (q+1))::trL (S.D q) sl',S.obj (q+1)⟩) rfl i ho;refine uE (N6 g a w hs) ?_;rintro a' w' ⟨g',s',hs',rfl⟩;refine ih _ g' a' w' ((d,v (q+1))::trL (S.D q) sl') (q+1) (by simpa using NR) ?_ hInext ⟨λ z x hx=>?_,λ k p hk hp=>?_⟩ hs' hj1
     ·exact yL
     ·rw [a6,if_neg]
      ·exact HW
      ·intro e; subst e; rw [Rp (q+1) (Nat.lt_succ_self q)] at hx; cases hx
     ·rw [a6];rcases hget k hk with rfl|hk
      ·rw [hRk] at hp; cases hp; rw [if_pos rfl]
      ·rw [if_neg]
       ·rw [rG,hK.2 k p hk hp,hvnext k p hk hp]; rfl
       ·exact FG
    ·have N6:=N7 sl' hK.1 (λ k' p hb hk'=>hK.2 k' p (hbo k' hb) hk') (λ s=>s=⟨trL (S.D q) sl',S.obj (q+1)⟩) rfl i ho;refine uE (N6 g a w hs) ?_;rintro a' w' ⟨g',s',hs',rfl⟩;refine ih _ g' a' w' (trL (S.D q) sl') (q+1) (by simpa using NR) ?_ hInext ⟨λ z x hx=>?_,λ k p hk hp=>?_⟩ hs' hj1
     ·exact yL
     ·exact HW
     ·rcases hget k hk with rfl|hk
      ·rw [hRk] at hp; cases hp
      ·rw [rG,hK.2 k p hk hp,hvnext k p hk hp]; rfl
 have main:∀ (fuel:Nat) (listed:Array Bool) (g:Gh) (a:Act) (w:World) (sl':List (Nat×AV)) (j:Nat),j0<=j->PAt C ops S fin fuel listed g a w sl' j->wpAny C.P .any ops (λ e a' w'=>∃ g' s',St C.n C.w0 C.F g' s' a' w'/\Q e s') fuel listed a w:=by
  intro fuel
  induction fuel with
  | zero=>
   intro listed g a w sl' j hj0 ⟨NR,hu,hI,hK,hs⟩;have hall:=Am hu;refine ⟨?_,done listed g a w sl' j hall hI hK hs⟩;exact F3
  | succ fuel ih=>
   intro listed g a w sl' j hj0 OA;exact ⟨λ hr=>done listed g a w sl' j (zK OA.sz hord' hr) OA.inv OA.kn OA.st,λ i hi=>step fuel (λ listed g a w sl' j h1 h2=>ih listed g a w sl' j h1 h2) listed g a w sl' j i (.inl hj0) hi OA⟩
 exact ⟨main,λ fuel listed g a w sl' j i=>step fuel (main fuel) listed g a w sl' j i⟩
theorem PAt.start {C:Cx}{ops:Array Oper}{S:fX}{fin:gD}{sl:List (Nat×AV)}{g:Gh}{a:Act}{w:World}(hb:fG sl (S.bas 0))(hs:St C.n C.w0 C.F g ⟨sl,S.obj 0⟩ a w) :
  PAt C ops S fin ops.size (Array.replicate ops.size false) g a w sl 0:=by
 refine ⟨by simp,?_,⟨qr _,λ i k hk=>?_,λ k o ho hk=>?_⟩,⟨λ i x hx=>ni hb i x hx,λ k p hk _=>?_⟩,hs⟩
 ·exact I8
 ·constructor
  ·intro h;exfalso;rw [Array.getD_eq_getD_getElem?,Array.getElem?_replicate] at h;split at h <;> simp at h
  ·intro h; omega
 ·exact F7
 ·exact F7
theorem EB {C:Cx}{id:Nat}{ops:Array Oper}{Q:Exit->AS->Prop}{sl:List (Nat×AV)}{ob:List (Nat×List AV)}(S:fX)(hm:C.P.follows .mixedOrders=true)(NK:S.imp.length=S.m)(hob:S.obj 0=ob)(hb:fG sl (S.bas 0))
  (hbas:∀ j,j<S.m->fG (trL (S.D j) (S.bas j)) (S.bas (j+1))) (hnd:nodupB S.imp=true) (hin:S.imp.all (λ i=>Nat.blt i ops.size)=true) (hch:chainB ops S.imp=true)
  (hord:(ops.toList.zipIdx.all λ p=>p.1.after.toList.all λ e=>!(Region.binds .any e)||Nat.blt e.on p.2)=true) (h:DS C ops S (λ rev=>Q .normal ⟨ef rev S.m++S.bas S.m,S.obj S.m⟩) ops.toList 0 []):awp C (.region id ops true) Q ⟨sl,ob⟩:=by
 subst hob;intro g a w hs;obtain ⟨fin,hfin,hP⟩:=Aj.mk' NK hbas hnd hin hord h;refine wp_region_any hm ?_;refine (nY hP (AS.le_refl _) hfin 0 ?_).1 _ _ g a _ sl 0 (qr _) (PAt.start hb hs.drew);intro fuel listed g a w sl' j _ OA i q hi hq hjq;exfalso;obtain ⟨h1,o,ho,hafter⟩:=mem_ready.1 hi
 cases q with
 | zero=>omega
 | succ q=>
  have hql:q<S.imp.length:=by have:=(List.getElem?_eq_some_iff.1 hq).1; omega
  have hb:=kf hch q S.imp[q] i o (List.getElem?_eq_getElem hql) hq ho;have h3:=lb OA.inv.2.2 4 o S.imp[q] hb hafter;have:=(OA.inv.2.1 q S.imp[q] (List.getElem?_eq_getElem hql)).1 h3;omega
def td (imp:List Nat):gD->gD->Prop|(k,d,v)::r,(k',d',v')::r'=>(k=k'/\d=d'/\(imp.any (Nat.beq k)=true\/v 0=v' 0))/\td imp r r'|[],[]=>True|_,_=>False
theorem um {imp:List Nat}:∀ {r1 r2:gD},td imp r1 r2->∀ k p,imp.any (Nat.beq k)=false->dK r2 k=some p->∃ v,dK r1 k=some (p.1,v)/\v 0=p.2 0
 | [],[],_,k,p,_,h=>by cases h
 | (k1,d1,v1)::r,(k2,d2,v2)::r',⟨⟨e1,e2,e3⟩,hr⟩,k,p,hk,h=>by
  subst e1 e2;simp only [dK] at h ⊢
  cases hb:Nat.beq k1 k
  ·rw [hb,cond_false] at h;rw [cond_false];exact um hr k p hk h
  ·exact GI
 | [],_::_,h,_,_,_,_=>h.elim
 | _::_,[],h,_,_,_,_=>h.elim
theorem B1 {C:Cx}{id:Nat}{ops:Array Oper}{Q:Exit->AS->Prop}{sl:List (Nat×AV)}{ob:List (Nat×List AV)}(S1 S2:fX){k1 k2:Nat}{r:List Nat}(hm:C.P.follows .mixedOrders=true)
  (hi1:S1.imp=k1::k2::r) (hi2:S2.imp=k2::k1::r) (hlen1:S1.imp.length=S1.m) (hlen2:S2.imp.length=S2.m) (hob1:S1.obj 0=ob) (hob2:S2.obj 0=ob) (hb:fG sl (S1.bas 0)) (hb2:S2.bas 0=S1.bas 0)
  (hbas1:∀ j,j<S1.m->fG (trL (S1.D j) (S1.bas j)) (S1.bas (j+1))) (hbas2:∀ j,j<S2.m->fG (trL (S2.D j) (S2.bas j)) (S2.bas (j+1)))
  (hnd:nodupB (k1::k2::r)=true) (hin:(k1::k2::r).all (λ i=>Nat.blt i ops.size)=true) (hch1:chainB ops (k1::r)=true) (hch2:chainB ops (k2::r)=true)
  (hord:(ops.toList.zipIdx.all λ p=>p.1.after.toList.all λ e=>!(Region.binds .any e)||Nat.blt e.on p.2)=true)
  (h:DS C ops S1 (λ rev1=>Q .normal ⟨ef rev1 S1.m++S1.bas S1.m,S1.obj S1.m⟩/\DS C ops S2 (λ rev2=>(⟨ef rev2 S2.m++S2.bas S2.m,S2.obj S2.m⟩:AS).le ⟨ef rev1 S1.m++S1.bas S1.m,S1.obj S1.m⟩/\td (k1::k2::r) rev1 rev2) ops.toList 0 []) ops.toList 0 []):awp C (.region id ops true) Q ⟨sl,ob⟩:=by
 intro g a w hs
 have hnd2:nodupB S2.imp=true:=by
  rw [hi2];simp only [nodupB,List.any_cons,Bool.not_or,n8,Bool.not_eq_true'] at hnd ⊢;obtain ⟨⟨a1,a2⟩,a3,a4⟩:=hnd;refine ⟨⟨?_,a3⟩,a2,a4⟩;exact Gc
 have hin2:S2.imp.all (λ i=>Nat.blt i ops.size)=true:=by
  rw [hi2];simp only [List.all_cons,n8] at hin ⊢;exact ⟨hin.2.1,hin.1,hin.2.2⟩
 obtain ⟨fin1,⟨hf1,h2⟩,hP1⟩:=Aj.mk' hlen1 hbas1 (by rw [hi1]; exact hnd) (by rw [hi1]; exact hin) hord h;obtain ⟨fin2,⟨hf2,hag⟩,hP2⟩:=Aj.mk' hlen2 hbas2 hnd2 hin2 hord h2
 -- behind the first change the others come in order
 have chain:∀ (x y:Nat) (S:fX),S.imp=x::y::r->chainB ops (y::r)=true->chainB ops (x::r)=true->∀ (listed:Array Bool) (j i q:Nat),EJ ops S listed j->i∈Region.ready .any ops listed->S.imp[q]? = some i->j<q->q=1/\j=0:=by
  intro x y S hS hcy hcx listed j i q hI hi hq hjq;obtain ⟨h1,o,ho,hafter⟩:=mem_ready.1 hi
  have use:∀ z zi,S.imp[z]? = some zi->mK ops 4 o zi=true->z<j:=by
   exact FS
  match q,hq,hjq with
  | 0,_,hjq=>omega
  | 1,_,hjq=>exact ⟨Z,by omega⟩
  | q+2,hq,hjq=>
   exfalso;rw [hS] at hq;simp only [List.getElem?_cons_succ] at hq;have hql:q<r.length:=(List.getElem?_eq_some_iff.1 hq).1
   cases q with
   | zero=>
    have b1:=kf hcy 0 y i o Z rh ho;have:=use 1 y (by rw [hS]; rfl) b1;have b2:=kf hcx 0 x i o Z rh ho;omega
   | succ q=>
    have b1:=kf hcy (q+1) r[q] i o (by simp [List.getElem?_eq_getElem (show q<r.length by omega)]) rh ho;have:=use (q+2) r[q] (by rw [hS]; simp [List.getElem?_eq_getElem (show q<r.length by omega)]) b1;omega
 have two:=nY hP2 hf2 hf1 1 (λ fuel listed g a w sl' j hj OA i q hi hq hjq=>by
  have:=chain k2 k1 S2 hi2 hch1 hch2 listed j i q OA.inv hi hq hjq; omega)
 refine wp_region_any hm ?_;refine (nY hP1 (AS.le_refl _) hf1 0 ?_).1 _ _ g a _ sl 0 (qr _) (PAt.start hb (by rw [hob1]; exact hs.drew));intro fuel listed g a w sl' j _ OA i q hi hq hjq;obtain ⟨rfl,rfl⟩:=chain k1 k2 S1 hi1 hch2 hch1 listed j i q OA.inv hi hq hjq;have N4:i=k2:=by rw [hi1] at hq; simpa using hq.symm
 subst N4
 have hno:∀ k,(k1::i::r).any (Nat.beq k)=true->listed.getD k false=false:=by
  intro k hk;obtain ⟨x,hx,hkx⟩:=List.any_eq_true.1 hk;have:=bx hkx;subst this;obtain ⟨z,hz⟩:=List.mem_iff_getElem?.1 hx;have:=OA.inv.2.1 z k (by rw [hi1]; exact hz);exact Jc
 refine two.2 fuel listed g a w sl' 0 i (.inr ⟨bt _,by rw [hi2]; rfl⟩) hi ⟨OA.sz,OA.un,⟨qr _,λ z k hz=>?_,OA.inv.2.2⟩,⟨λ z x hx=>OA.kn.1 z x (by rw [<- hb2]; exact hx),λ k p hk hp=>?_⟩,by rw [hob2,<- hob1]; exact OA.st⟩
 ·constructor
  ·intro hl
   have hmem:k∈(k1::i::r):=by
    have:=List.mem_of_getElem? hz;rw [hi2] at this;exact GL
   rw [hno k (List.any_eq_true.2 ⟨k,hmem,by simp⟩)] at hl
   cases hl
  ·intro h; omega
 ·have hk':(k1::i::r).any (Nat.beq k)=false:=by
   exact Gr
  obtain ⟨v,hv1,hv2⟩:=um hag k p hk' hp;have:=OA.kn.2 k _ hk hv1;rw [<- hv2]; exact this
theorem wd (h:p:=by
 unfold Oper.wp;rw [hrun0 _ _ hr'];simp only [Oper.upon,hd]
 exact ⟨g',_,hst',hK⟩):p:=h
theorem GG (h:p:=by
 refine run_firstCells_some w.drew ie.size es.length ⟨b,0,none⟩ es.length cap _ hlenT (λ j v hv=>?_);rw [List.getElem?_take] at hv;split at hv
 ·rw [add_lit,sm,World.cell?_drew];simp only [World.cell?,hb];simpa using hv
 ·cases hv):p:=h
theorem Ho (h:p:=by
 rw [hc];simp only [Array.size_append,List.size_toArray,la,hol,hsrc.newsLen,size_zeroCells,hzs]
 rw [<- ph,<- ph]; congr 1; omega):p:=h
theorem FQ (h:p:=by
 intro i hi;simp only [Bool.or_eq_true] at hi
 rcases hi with hi|hi <;> (have:=bx hi; omega)):p:=h
theorem C4 (h:p:=by
 rw [hq]; unfold grownCap; simp only [Question.cut]; omega):p:=h
theorem Jv (h:p:=by
 rw [k1] at how; cases how;rw [k2] at hb; cases hb;refine .p (.slice sz (λ i j=>c.getD (i*sz+j) Go.undef) hn NR N6 (λ i x j y hx hy=>?_) (λ i x j y hx hy=>?_))
 ·have hg:=mc NR i x j y hx hy;have hi:=(List.getElem?_eq_some_iff.1 hg).1;have hci:i*sz+j<c.size:=by simp only [n6] at k3; omega
  refine ⟨.inr ⟨Z,by omega⟩,?_⟩;simp only [World.cell?,k2,sm];simp [Array.getD,hci]
 ·have hg:=mc NR i x j y hx hy;obtain ⟨u,hu,hr⟩:=k5 (i*sz+j) (.p y) (by simp [hg]);rw [Array.getD_eq_getD_getElem?,hu]
  cases hr with|p hr=>exact hr.mono NZ):p:=h
def gq:List PV->List PV|[]=>[]|e::r=>e.cells++gq r
theorem lT:∀ (l q:List PV),gq (l++q)=gq l++gq q
 | [],q=>rfl
 | e::r,q=>by simp [gq,lT r q]
theorem iS {sz:Nat}:∀ {es:List PV},(∀ e∈es,e.cells.length=sz)->(gq es).length=es.length*sz
 | [],_=>by simp [gq]
 | e::r,h=>by
  have ih:=iS (sz:=sz) (es:=r) (λ x hx=>h x (by simp [hx]));simp only [gq,la,cl,h e G,ih,ph]; omega
theorem mc {sz:Nat}:∀ {es:List PV},(∀ e∈es,e.cells.length=sz)->∀ (i:Nat) e (j:Nat) c,es[i]? = some e->e.cells[j]? = some c->(gq es)[i*sz+j]? = some c
 | [],_,i,e,j,c,h,_=>by simp at h
 | x::r,NR,i,e,j,c,h,hc=>by
  have hx:=NR x G
  cases i with
  | zero=>
   simp only [List.getElem?_cons_zero,aq] at h;subst h;have:=(List.getElem?_eq_some_iff.1 hc).1;simp only [gq,Nat.zero_mul,sm];rw [List.getElem?_append_left this]; exact hc
  | succ i=>
   simp only [List.getElem?_cons_succ] at h;have ih:=mc (λ x hx=>NR x (by simp [hx])) i e j c h hc;simp only [gq];rw [List.getElem?_append_right (by rw [hx,ph]; omega),hx];rw [show (i+1)*sz+j-sz=i*sz+j by rw [ph]; omega];exact ih
theorem Er {sz:Nat}(h0:0<sz){es:List PV}(NR:∀ e∈es,e.cells.length=sz){k:Nat}{c:PV}(h:(gq es)[k]? = some c) :
  ∃ e,es[k / sz]? = some e/\e.cells[k%sz]? = some c/\k / sz*sz+k%sz=k:=by
 have hk:k<es.length*sz:=by rw [<- iS NR]; exact (List.getElem?_eq_some_iff.1 h).1
 have h1:k / sz<es.length:=(Nat.div_lt_iff_lt_mul h0).2 hk;have h2:k%sz<sz:=Nat.mod_lt _ h0;have h3:k / sz*sz+k%sz=k:=by rw [Nat.mul_comm]; exact Nat.div_add_mod k sz
 have h4:=NR es[k / sz] (List.getElem_mem h1);have h5:=mc NR (k / sz) es[k / sz] (k%sz) ((es[k / sz]).cells[k%sz]' O) (List.getElem?_eq_getElem h1) (List.getElem?_eq_getElem O);rw [h3,h] at h5;exact ⟨_,List.getElem?_eq_getElem h1,by rw [Option.some.inj h5]; exact List.getElem?_eq_getElem O,h3⟩
def jJ {α:Type}(f:α->PV)(l:List α):List AV:=(gq (l.map f)).map .p
section
variable {C:Cx} {o:Oper} {K:AS->Prop} {sl:List (Nat×AV)} {ob:List (Nat×List AV)} {d:Nat}
theorem xn {w:World}{st:Nat->Nat->Prop}{sz:Nat}(h0:0<sz){ys:List PV}{news:List Value}(NR:∀ y∈ys,y.cells.length=sz)
  (hnews:∀ (i:Nat) y (j:Nat) c,ys[i]? = some y->y.cells[j]? = some c->c.one=true/\∃ u,news[i*sz+j]? = some u/\PRep w st c u) :
  ∀ (k:Nat) c,(gq ys)[k]? = some c->∃ u,news[k]? = some u/\PRep w st c u:=by
 intro k c h;obtain ⟨e,h1,h2,h3⟩:=Er h0 NR h;obtain ⟨_,u,hu,hr⟩:=hnews _ e _ c h1 h2;rw [h3] at hu;exact ⟨u,hu,hr⟩
theorem Fb {es ys:List PV}{t tx e e':TypeId}{i ie j:TI}{y:Operand}{Y0z:AV}(D:Nat->Bool)(hDl:∀ i,D i=true->i<M1)(hDd:D d=true)
  (hi:look C.tt t=some i) (N4:i.k=.slice e) (hie:look C.tt e=some ie) (hj:look C.tt tx=some j) (hjk:j.k=.slice e')
  (hy:evo sl y=some Y0z) (hY:Y0z.elems? = some ys) (NR:∀ y∈ys,y.cells.length=ie.size) (hse:∀ y∈es,y.cells.length=ie.size) (h0:0<ie.size) (hzl:ie.zero.length=ie.size)
  (NK:(es.length+ys.length)*ie.bytes<=140737488355328) (hlen':es.length+ys.length<=9223372036854775807)
  {g:Gh} {a:Act} {w:World} (hs:St C.n C.w0 C.F g ⟨sl,ob⟩ a w) (base:Option Addr) (cap:Nat) (olds:List Value)
  (hold:(Builtin.firstCells ie.size es.length (.slice base es.length cap)).run C.P w.drew=.ok olds.toArray w.drew) (hol:olds.length=es.length*ie.size)
  (hoc:∀ (i:Nat) x,(gq es)[i]? = some x->∃ u,olds[i]? = some u/\PRep w g.st x u)
  (hg:cap<es.length+ys.length) (ty:TypeId) (hn:Nat.blt d C.n=true) :
  ∃ v w' g',(Builtin.append_ #[t,tx] ty #[.slice base es.length cap,a.eval y]).run C.P w=.ok v w' /\
   St C.n C.w0 C.F g' ⟨(d,.arr d ie.size 0 (es.length+ys.length))::(cq D ⟨sl,ob⟩).sl,(d,(gq (es++ys)).map .p)::(cq D ⟨sl,ob⟩).ob⟩ (a.put (some d) v) w':=by
 obtain ⟨u,h1,h2⟩:=bA C.good hi;have h3:=bC (h2.trans N4);subst h3;obtain ⟨u',h1',h2'⟩:=bA C.good hj;have h3':=bC (h2'.trans hjk);subst h3';obtain ⟨info,hf1,hf2,hf3,z,hf4,hf5⟩:=ib C.good hie;have hyv:=iN hY (bv hs hy);obtain ⟨news,hsrc,hnews⟩:=wn (P:=C.P) (sz:=ie.size) h1' hyv NR h0;have hnf:=xn h0 NR hnews;have hfit:=growslice_fits (bytes:=ie.bytes) hg NK;have hrun:=run_append_grow_src w t tx ty e info z h1 hf1 hf4 base es.length cap olds (by rw [hf2]; exact hold) (a.eval y) ys.length news rk hg O (by rw [hf3]; exact hfit);obtain ⟨q,hq⟩:∃ q,q=grownCap w (es.length+ys.length) cap e:=⟨_,rfl⟩
 rw [<- hq] at hrun
 have hqn:es.length+ys.length<=q:=by
  exact C4
 have hzs:z.cells.size=ie.size:=by rw [<- hzl,<- hf5,Array.length_toList]
 have hnl:news.length=ys.length*ie.size:=hsrc.newsLen;obtain ⟨c,hc⟩:∃ c,c=(olds++news).toArray++Builtin.zeroCells z.cells (q-(es.length+ys.length)):=⟨_,rfl⟩
 rw [<- hc] at hrun
 have N0:c.size=q*ie.size:=by
  exact Ho
 have hfl:(gq (es++ys)).length=(es.length+ys.length)*ie.size:=by
  rw [iS (sz:=ie.size),la];intro e he;rcases List.mem_append.1 he with h|h
  ·exact hse e h
  ·exact NR e h
 have hqm:(es.length+ys.length)*ie.size<=q*ie.size:=py _ hqn;have hf:=hs.drew.fresh D hDl d hDd (λ _=>False) c e
 have hp:=hf.put (d:=some d) (λ t ht=>by cases ht; exact d3 ▸ hn) (x:=.arr d ie.size 0 (es.length+ys.length)) (v:=.slice (some ⟨w.drew.heap.size,0,none⟩) (es.length+ys.length) q)
  (.arr G dO O hqn)
 have NZ:=ly (w:=w.drew) (T:=λ _=>False) (ob:=.cells c e) hs.drew.lt
 have hob:=hp.addOb (d:=d) (cs:=(gq (es++ys)).map .p) (by
  refine ⟨w.drew.heap.size,c,e,by simp,dO,by simp only [n6]; omega,λ o ho=>?_,λ i x hx=>?_⟩
  ·rcases ho with ho|⟨_,ho⟩
   ·exact absurd (hs.lt _ _ ho) (Nat.lt_irrefl _)
   ·exact ho
  ·simp only [List.getElem?_map,mv] at hx;obtain ⟨y,hy,rfl⟩:=hx;have hil:i<(gq (es++ys)).length:=(List.getElem?_eq_some_iff.1 hy).1;rw [hfl,ph] at hil
   have hget:c[i]? = if i<es.length*ie.size then olds[i]? else news[i-es.length*ie.size]?:=by
    rw [hc,Array.getElem?_append];simp only [List.size_toArray,la,hol,hnl];rw [if_pos hil,List.getElem?_toArray,List.getElem?_append,hol]
   rw [lT,List.getElem?_append,iS hse] at hy;split at hy
   ·rename_i hlt;obtain ⟨u,hu,hr⟩:=hoc i y hy;exact ⟨u,by rw [hget,if_pos hlt]; exact hu,.p ((PRep.mono (w:=w) (w':=w.drew) (st:=g.st) (st':=g.st) (λ b o h=>⟨h,rfl⟩) hr).mono NZ)⟩
   ·rename_i hge;obtain ⟨u,hu,hr⟩:=hnf (i-es.length*ie.size) y hy
    exact ⟨u,by rw [hget,if_neg hge]; exact hu,.p ((PRep.mono (w:=w) (w':=w.drew) (st:=g.st) (st':=g.st) (λ b o h=>⟨h,Z⟩) hr).mono NZ)⟩)
 exact ⟨_,_,_,hrun,hob⟩
theorem Bq {t tx e e':TypeId}{x y:Operand}{k sz:Nat}{es:List PV}{n:Nat}{Y0z:AV}{ys:List PV}{i ie j:TI}(ho:o.op=.call { callee:=.builtin .append,args:=#[x,y],argTypes:=#[t,tx] })(hd:o.dst=some d)(hn:Nat.blt d C.n=true)
  (hi:look C.tt t=some i) (N4:i.k=.slice e) (hie:look C.tt e=some ie) (hj:look C.tt tx=some j) (hjk:j.k=.slice e') (hx:evo sl x=some (.arr k sz 0 n)) (hk:Nat.blt k M1=true) (hob:look ob k=some ((gq es).map .p)) (hnl:n=es.length)
  (hy:evo sl y=some Y0z) (hY:Y0z.elems? = some ys) (NR:∀ y∈ys,y.cells.length=ie.size) (hse:∀ y∈es,y.cells.length=ie.size) (h1s:ie.size=sz) (h0:Nat.blt 0 ie.size=true) (hzl:Nat.beq ie.zero.length ie.size=true)
  (NK:(es.length+ys.length)*ie.bytes<=140737488355328) (hlen':es.length+ys.length<=9223372036854775807)
  (hK:K ⟨(d,.arr d sz 0 (es.length+ys.length))::(cq (λ i=>Nat.beq i k||Nat.beq i d) ⟨sl,ob⟩).sl,(d,(gq (es++ys)).map .p)::(cq (λ i=>Nat.beq i k||Nat.beq i d) ⟨sl,ob⟩).ob⟩):aX C o K ⟨sl,ob⟩:=by
 subst hnl h1s;have h0':0<ie.size:=by simpa using h0
 have hzl':=bx hzl;have hk':k<M1:=d3 ▸ hk;have hdl:d<M1:=by have h1:=ld C.nl; have h2:d<C.n:=d3 ▸ hn; omega
 have hDl:∀ i,(Nat.beq i k||Nat.beq i d)=true->i<M1:=by
  exact FQ
 have hfl0:(gq es).length=es.length*ie.size:=iS hse
 have hfl:(gq (es++ys)).length=es.length*ie.size+ys.length*ie.size:=by
  rw [lT,la,iS hse,iS NR]
 intro g a w hs;have hxr:=bv hs hx;generalize hxv:a.eval x=xv at hxr
 have hrun0:∀ v w',(Builtin.append_ #[t,tx] o.type #[xv,a.eval y]).run C.P w=.ok v w'->(execOp a.eval o).run C.P w=.ok (.value v) w':=by
  exact y9
 cases hxr with
 | arr how hb N0 hn'=>
  rename_i b cap c e0;obtain ⟨b',c1,e1,k1,k2,k3,k4,k5⟩:=hs.ob k _ hob;rw [how] at k1; cases k1;rw [hb] at k2; cases k2;simp only [sm] at N0
  have NY:∀ (i:Nat) x,(gq es)[i]? = some x->∃ u,c[i]? = some u/\PRep w g.st x u:=by
   intro i x hx;obtain ⟨u,hu,hr⟩:=k5 i (.p x) (by simp [hx])
   cases hr with|p hr=>exact ⟨u,hu,hr⟩
  by_cases hroom:es.length+ys.length<=cap
  ·obtain ⟨u,h1,h2⟩:=bA C.good hi;have h3:=bC (h2.trans N4);subst h3;obtain ⟨u',h1',h2'⟩:=bA C.good hj;have h3':=bC (h2'.trans hjk);subst h3';obtain ⟨info,hf1,hf2,hf3,z,hf4,hf5⟩:=ib C.good hie;have hyv:=iN hY (bv hs hy);obtain ⟨news,hsrc,hnews⟩:=wn (P:=C.P) (sz:=ie.size) h1' hyv NR h0';have hnf:=xn h0' NR hnews;have hnl:news.length=ys.length*ie.size:=hsrc.newsLen;have hrm:es.length*ie.size+ys.length*ie.size<=cap*ie.size:=by rw [<- ph]; exact py _ hroom
   have hstc:=run_storeCells_at C.P b (es.length*ie.size) e0 news 0 c w hb hC hsrc.one;simp only [Nat.add_zero] at hstc;obtain ⟨c',hc'⟩:∃ c',c'=(c.toList.take (es.length*ie.size)++news++c.toList.drop (es.length*ie.size+news.length)).toArray:=⟨_,rfl⟩
   rw [<- hc'] at hstc;have hrr:=oe t tx o.type e info h1 hf1 b es.length cap (a.eval y) ys.length news rk hroom xZ
   have hcell':∀ j,c'[j]? = if es.length*ie.size<=j/\j<es.length*ie.size+news.length then news[j-es.length*ie.size]? else c[j]?:=by
    intro j;rw [hc'];have:=jg c.toList news (es.length*ie.size) hC j;simpa using this
   have hcs':c'.size=cap*ie.size:=by rw [<- N0,hc']; simp; omega
   have hin:=hs.inplace (λ i=>Nat.beq i k||Nat.beq i d) hDl (k:=k) (d:=d) how G G  hb (c':=c') (hcs'.trans N0.symm) (λ o h=>absurd h (k4 o)) (λ _=>False) (λ o h=>k4 o h)
   have hp:=hin.put (d:=some d) (λ t ht=>by cases ht; exact d3 ▸ hn) (x:=.arr d ie.size 0 (es.length+ys.length)) (v:=.slice (some ⟨b,0,none⟩) (es.length+ys.length) cap)
    (.arr G (setRow_heap w b c c' e0 (0,0) hb) O hroom)
   have hEv:Ev w g.st (w.setRow b c') (λ b' o=>(b'=b/\False)\/(b'≠b/\g.st b' o)):=by
    intro b' o h;have Ob:b'≠b:=λ e=>k4 o (e ▸ h);exact ⟨.inr ⟨Ob,h⟩,by simp only [World.cell?,setRow_other w b b' c' Ob]⟩
   have hfin:=hp.addOb (d:=d) (cs:=(gq (es++ys)).map .p) (by
    refine ⟨b,c',e0,by simp,setRow_heap w b c c' e0 (0,0) hb,by simp only [n6]; omega,λ o ho=>?_,λ i x hx=>?_⟩
    ·rcases ho with ⟨_,ho⟩|⟨ho,_⟩
     ·exact ho
     ·exact ho Z
    ·simp only [List.getElem?_map,mv] at hx;obtain ⟨y,hy,rfl⟩:=hx;have hil:i<(gq (es++ys)).length:=(List.getElem?_eq_some_iff.1 hy).1;rw [lT,List.getElem?_append,hfl0] at hy;split at hy
     ·rename_i hlt;obtain ⟨u,hu,hr⟩:=NY i y hy;exact ⟨u,by rw [hcell',if_neg O]; exact hu,.p (hr.mono hEv)⟩
     ·rename_i hge;obtain ⟨u,hu,hr⟩:=hnf (i-es.length*ie.size) y hy
      exact ⟨u,by rw [hcell',if_pos O]; exact hu,.p (hr.mono hEv)⟩)
   unfold Oper.wp;rw [hrun0 _ _ hrr];simp only [Oper.upon,hd];exact ⟨_,_,hfin,hK⟩
  ·have hlenT:(c.toList.take (es.length*ie.size)).length=es.length*ie.size:=by
    have hr1:es.length*ie.size<=cap*ie.size:=py _ hn';rw [List.length_take,show c.toList.length=cap*ie.size from Array.length_toList.trans N0]; omega
   have hold:(Builtin.firstCells ie.size es.length (.slice (some ⟨b,0,none⟩) es.length cap)).run C.P w.drew=.ok (c.toList.take (es.length*ie.size)).toArray w.drew:=by
    exact GG
   obtain ⟨v,w',g',hr',hst'⟩:=Fb (es:=es) (λ i=>Nat.beq i k||Nat.beq i d) hDl G hi N4 hie hj hjk hy hY NR hse h0' hzl' NK hlen' hs (some ⟨b,0,none⟩) cap (c.toList.take (es.length*ie.size))
    hold hlenT (λ i x hx=>by
     obtain ⟨u,hu,hr⟩:=NY i x hx;have:=(List.getElem?_eq_some_iff.1 hx).1
     exact ⟨u,by rw [List.getElem?_take,if_pos O]; simpa using hu,hr⟩) O o.type hn
   exact wd
end
theorem St.freezeM {n:Nat}{w0:Base}{w:World}{F:Nat->Prop}{g:Gh}{sl:List (Nat×AV)}{ob:List (Nat×List AV)}{a:Act}(hs:St n w0 F g ⟨sl,ob⟩ a w){k sz:Nat}{es:List PV}{j:Nat}
  (hk:k<M1) (_h0:0<sz) (hob:look ob k=some ((gq es).map .p)) (hj:look sl j=some (.arr k sz 0 es.length)) (NR:∀ x∈es,x.cells.length=sz) (N6:∀ x∈es,∀ c∈x.cells,c.one=true) :
  ∃ g',St n w0 F g' ⟨(j,.p (.slice es))::(cq (λ i=>Nat.beq i k) ⟨sl,ob⟩).sl,(cq (λ i=>Nat.beq i k) ⟨sl,ob⟩).ob⟩ a w:=by
 obtain ⟨b,c,e,k1,k2,k3,k4,k5⟩:=hs.ob k _ hob;have hfl:(gq es).length=es.length*sz:=iS NR;have hlt:b<w.heap.size:=(hs.own k b k1).1
 have keyD:∀ i b',Nat.beq i k=false->g.ow i=some b'->b'≠b:=λ i b' hD hi e=>by
  exact yd
 have NZ:Ev w g.st w (λ b' o=>g.st b' o\/(b'=b/\o<es.length*sz)):=λ b' o h=>⟨.inl h,Z⟩
 have hs':=hs.evolve (λ i=>Nat.beq i k) (λ i hi=>by have:=bx hi; omega) (g':=⟨λ b' o=>g.st b' o\/(b'=b/\o<es.length*sz),λ i=>if Nat.beq i k then none else g.ow i⟩) NZ (λ id b' hD h=>⟨by simp only [hD]; exact h,Z,λ o ho=>ho.resolve_right λ h'=>keyD id b' hD h h'.1⟩)
  (λ i j b h1 h2=>by
   dsimp only at h1 h2;split at h1
   ·cases h1
   ·split at h2
    ·cases h2
    ·exact hs.inj i j b h1 h2) (λ i b h=>by
   dsimp only at h;split at h
   ·cases h
   ·exact hs.own i b h) (λ b' o h=>by
   rcases h with h|⟨rfl,_⟩
   ·exact hs.lt b' o h
   ·exact hlt) (λ b h=>rfl) Z Z Z (bt _) (λ b' hb' o=>yn) (λ i hi=>by
    have Ob:Nat.beq i k=false:=by
     exact yr
    simp only [Ob]; rfl)
 refine ⟨_,{ hs' with sl:=λ i=>?_,ob:=hs'.ob }⟩;simp only [AS.get,a6];by_cases e1:j=i
 ·subst e1;simp only [if_true,n9];have h0':=hs.sl j;simp only [AS.get,hj,n9] at h0';generalize a.tmps.getD j Go.undef=v at h0'
  cases h0' with
  | arr how hb N0 hn=>
   exact Jv
 ·rw [if_neg e1];exact hs'.sl i
theorem St.freezeA {n:Nat}{w0:Base}{w:World}{F:Nat->Prop}{g:Gh}{sl:List (Nat×AV)}{ob:List (Nat×List AV)}{a:Act}(hs:St n w0 F g ⟨sl,ob⟩ a w){k sz:Nat}{es:List PV}
  (hk:k<M1) (_h0:0<sz) (hob:look ob k=some ((gq es).map .p)) (NR:∀ x∈es,x.cells.length=sz) (N6:∀ x∈es,∀ c∈x.cells,c.one=true) :
  ∃ g',EvO (λ i=>Nat.beq i k) w g w g'/\St n w0 F g' (cq (λ i=>Nat.beq i k) ⟨sl,ob⟩) a w/\∀ v,ARep w g (.arr k sz 0 es.length) v->ARep w g' (.p (.slice es)) v:=by
 obtain ⟨b,c,e,k1,k2,k3,k4,k5⟩:=hs.ob k _ hob;have hfl:(gq es).length=es.length*sz:=iS NR;have hlt:b<w.heap.size:=(hs.own k b k1).1
 have keyD:∀ i b',Nat.beq i k=false->g.ow i=some b'->b'≠b:=λ i b' hD hi e=>by
  exact yd
 have NZ:Ev w g.st w (λ b' o=>g.st b' o\/(b'=b/\o<es.length*sz)):=λ b' o h=>⟨.inl h,Z⟩
 have hs':=hs.evolve (λ i=>Nat.beq i k) (λ i hi=>by have:=bx hi; omega) (g':=⟨λ b' o=>g.st b' o\/(b'=b/\o<es.length*sz),λ i=>if Nat.beq i k then none else g.ow i⟩) NZ (λ id b' hD h=>⟨by simp only [hD]; exact h,Z,λ o ho=>ho.resolve_right λ h'=>keyD id b' hD h h'.1⟩)
  (λ i j b h1 h2=>by
   dsimp only at h1 h2;split at h1
   ·cases h1
   ·split at h2
    ·cases h2
    ·exact hs.inj i j b h1 h2) (λ i b h=>by
   dsimp only at h;split at h
   ·cases h
   ·exact hs.own i b h) (λ b' o h=>by
   rcases h with h|⟨rfl,_⟩
   ·exact hs.lt b' o h
   ·exact hlt) (λ b h=>rfl) Z Z Z (bt _) (λ b' hb' o=>yn) (λ i hi=>by
    have Ob:Nat.beq i k=false:=by
     exact yr
    simp only [Ob]; rfl)
 refine ⟨⟨λ b' o=>g.st b' o\/(b'=b/\o<es.length*sz),λ i=>if Nat.beq i k then none else g.ow i⟩,⟨NZ,λ id b' hD h=>by simp only [hD]; exact h,λ id b' c' e' hD h hb'=>⟨c',hb',Z⟩,λ id b' o hD h ho=>ho.resolve_right λ h'=>keyD id b' hD h h'.1,λ id b' es' k' hD h hb'=>hb',λ i hi=>Bool.eq_false_iff.2 λ hq=>by have:=bx hq; have:=zX hi; omega,λ id b' o hD h _=>rfl⟩,hs',λ v h0'=>?_⟩
 cases h0' with
 | arr how hb N0 hn=>
  exact Jv
def frz (k sz:Nat)(es:List PV)(x y:AV):Prop:=y=x.dem (λ i=>Nat.beq i k)\/(x=.arr k sz 0 es.length/\y=.p (.slice es))
def J7 (k sz:Nat)(es:List PV):List AV->List AV->Prop|[],[]=>True|x::r,y::q=>frz k sz es x y/\J7 k sz es r q|_,_=>False
def MM (k sz:Nat)(es:List PV)(sl:List (Nat×AV)):List (Nat×AV)->Prop|[]=>True|p::r=>(∃ x,look sl p.1=some x/\frz k sz es x p.2)/\MM k sz es sl r
def MC (k sz:Nat)(es:List PV)(ob:List (Nat×List AV)):List (Nat×List AV)->Prop|[]=>True|p::r=>(Nat.beq p.1 k=false/\∃ cs,look ob p.1=some cs/\J7 k sz es cs p.2)/\MC k sz es ob r
theorem xD {k sz:Nat}{es:List PV}:∀ {l q:List AV},J7 k sz es l q->l.length=q.length/\∀ (i:Nat) x y,l[i]? = some x->q[i]? = some y->frz k sz es x y
 | [],[],_=>⟨Z,by simp⟩
 | [],_::_,h=>h.elim
 | _::_,[],h=>h.elim
 | x::r,y::q,h=>by
  obtain ⟨h1,h2⟩:=xD h.2;refine ⟨by simp [h1],λ i a b ha hb=>?_⟩
  cases i with
  | zero=>simp only [List.getElem?_cons_zero,aq] at ha hb; subst ha hb; exact h.1
  | succ i=>simp only [List.getElem?_cons_succ] at ha hb; exact h2 i a b ha hb
theorem wX {k sz:Nat}{es:List PV}{sl:List (Nat×AV)}:∀ {q:List (Nat×AV)},MM k sz es sl q->∀ i y,look q i=some y->∃ x,look sl i=some x/\frz k sz es x y
 | [],_,i,y,h=>by cases h
 | p::r,hq,i,y,h=>by
  obtain ⟨p1,p2⟩:=p;rw [a6] at h;split at h
  ·cases h; subst_vars; exact hq.1
  ·exact wX hq.2 i y h
theorem xg {k sz:Nat}{es:List PV}{ob:List (Nat×List AV)}:∀ {q:List (Nat×List AV)},MC k sz es ob q->∀ i y,look q i=some y->Nat.beq i k=false/\∃ x,look ob i=some x/\J7 k sz es x y
 | [],_,i,y,h=>by cases h
 | p::r,hq,i,y,h=>by
  obtain ⟨p1,p2⟩:=p;rw [a6] at h;split at h
  ·cases h; subst_vars; exact hq.1
  ·exact xg hq.2 i y h
theorem qT {α:Type}{C:Cx}{sl sl':List (Nat×AV)}{ob ob':List (Nat×List AV)}(k sz:Nat)(f:α->PV)(l:List α)(hk:Nat.blt k M1=true)(h0:Nat.blt 0 sz=true)(hob:look ob k=some (jJ f l))
  (N6:∀ x,(f x).cells.length=sz/\PV.onesB (f x).cells=true) (hS:MM k sz (l.map f) sl sl') (hO:MC k sz (l.map f) ob ob'):cv C ⟨sl,ob⟩ ⟨sl',ob'⟩:=by
 intro g a w hs
 obtain ⟨g',hE,hs',hfr⟩:=hs.freezeA (es:=l.map f) (sz:=sz) (d3 ▸ hk) (by simpa using h0) hob (λ x hx=>by obtain ⟨y,_,rfl⟩:=List.mem_map.1 hx; exact (N6 y).1)
  (λ x hx=>by obtain ⟨y,_,rfl⟩:=List.mem_map.1 hx; exact ig (N6 y).2)
 have val:∀ x y v,frz k sz (l.map f) x y->ARep w g x v->ARep w g' y v:=by
  rintro x y v (rfl|⟨rfl,rfl⟩) h
  ·exact h.dem hE
  ·exact hfr v h
 refine ⟨g',{ hs' with sl:=λ i=>?_,ob:=λ id cs hc=>?_ }⟩
 ·simp only [AS.get]
  cases hl:look sl' i with
  | none=>exact .undef _
  | some y=>
   obtain ⟨x,hx,hf⟩:=wX hS i y hl;have h1:=hs.sl i;simp only [AS.get,hx,n9] at h1;exact val x y _ hf h1
 ·obtain ⟨Ob,ds,hds,hfL⟩:=xg hO id cs hc;obtain ⟨b,c,e,k1,k2,k3,k4,k5⟩:=hs.ob id ds hds;obtain ⟨q1,q2⟩:=xD hfL
  obtain ⟨b2,c2,e2,m1,m2,m3,m4,m5⟩:=hs'.ob id (jH (λ i=>Nat.beq i k) ds) (by
   have hf:=j6 (λ i=>Nat.beq i k) ob id;simp only [cq,iy];rw [hf]
   simp only [Ob,Bool.false_eq_true,if_false,hds,Option.map_some])
  have e1:=hE.ow id b Ob k1;rw [e1] at m1; cases m1;rw [k2] at m2; cases m2;refine ⟨b,c,e,e1,k2,by omega,m4,λ i y hy=>?_⟩;have hi:i<ds.length:=by have:=(List.getElem?_eq_some_iff.1 hy).1; omega
  obtain ⟨v,hv,hr⟩:=k5 i ds[i] (List.getElem?_eq_getElem hi);exact ⟨v,hv,val _ y v (q2 i _ y (List.getElem?_eq_getElem hi) hy) hr⟩
theorem St.settleO {n:Nat}{w0:Base}{w:World}{F:Nat->Prop}{g:Gh}{sl:List (Nat×AV)}{ob:List (Nat×List AV)}{a:Act}(hs:St n w0 F g ⟨sl,ob⟩ a w){k:Nat}{cs:List PV}{j:Nat}
  (hk:k<M1) (hob:look ob k=some (cs.map .p)) (hj:look sl j=some (.ptr k 0)) :
  ∃ g',St n w0 F g' ⟨(j,.rptr cs)::(cq (λ i=>Nat.beq i k) ⟨sl,ob⟩).sl,(cq (λ i=>Nat.beq i k) ⟨sl,ob⟩).ob⟩ a w:=by
 obtain ⟨b,c,e,k1,k2,k3,k4,k5⟩:=hs.ob k _ hob;have hlt:b<w.heap.size:=(hs.own k b k1).1
 have keyD:∀ i b',Nat.beq i k=false->g.ow i=some b'->b'≠b:=λ i b' hD hi e=>by
  exact yd
 have NZ:Ev w g.st w (λ b' o=>g.st b' o\/(b'=b/\o<cs.length)):=λ b' o h=>⟨.inl h,Z⟩
 have hs':=hs.evolve (λ i=>Nat.beq i k) (λ i hi=>by have:=bx hi; omega) (g':=⟨λ b' o=>g.st b' o\/(b'=b/\o<cs.length),λ i=>if Nat.beq i k then none else g.ow i⟩) NZ (λ id b' hD h=>⟨by simp only [hD]; exact h,Z,λ o ho=>ho.resolve_right λ h'=>keyD id b' hD h h'.1⟩)
  (λ i j b h1 h2=>by
   dsimp only at h1 h2;split at h1
   ·cases h1
   ·split at h2
    ·cases h2
    ·exact hs.inj i j b h1 h2) (λ i b h=>by
   dsimp only at h;split at h
   ·cases h
   ·exact hs.own i b h) (λ b' o h=>by
   rcases h with h|⟨rfl,_⟩
   ·exact hs.lt b' o h
   ·exact hlt) (λ b h=>rfl) Z Z Z (bt _) (λ b' hb' o=>yn) (λ i hi=>by
    have Ob:Nat.beq i k=false:=by
     exact yr
    simp only [Ob]; rfl)
 refine ⟨_,{ hs' with sl:=λ i=>?_,ob:=hs'.ob }⟩;simp only [AS.get,a6];by_cases e1:j=i
 ·subst e1;simp only [if_true,n9];have h0':=hs.sl j;simp only [AS.get,hj,n9] at h0';generalize a.tmps.getD j Go.undef=v at h0'
  cases h0' with
  | ptr how=>
   rw [k1] at how; cases how;refine .rptr (λ j=>c.getD j Go.undef) (λ j y hy=>?_) (λ j y hy=>?_)
   ·have hi:=(List.getElem?_eq_some_iff.1 hy).1;have hci:j<c.size:=by simp only [n6] at k3; omega
    refine ⟨.inr qV,?_⟩;simp only [World.cell?,k2,sm];simp [Array.getD,hci]
   ·obtain ⟨u,hu,hr⟩:=k5 j (.p y) (by simp [hy]);exact Jw
 ·rw [if_neg e1];exact hs'.sl i
theorem nJ {C:Cx}{sl:List (Nat×AV)}{ob:List (Nat×List AV)}(j:Nat){k:Nat}{cs:List PV}(hj:look sl j=some (.ptr k 0))(hk:Nat.blt k M1=true)(hob:look ob k=some (cs.map .p)) :
  cv C ⟨sl,ob⟩ ⟨(j,.rptr cs)::(cq (λ i=>Nat.beq i k) ⟨sl,ob⟩).sl,(cq (λ i=>Nat.beq i k) ⟨sl,ob⟩).ob⟩ :=
 λ _ _ _ hs=>hs.settleO (d3 ▸ hk) hob hj
def gG (P:Program)(f:FuncId)(args:List AV)(R:AV->Prop):Prop :=∀ (w:World) (st:Nat->Nat->Prop) (vs:Array Value),Ok0 w st->vs.size=args.length -> (∀ (i:Nat) c v,args[i]? = some c->vs[i]? = some v->ARep w ⟨st,λ _=>none⟩ c v) -> Calls P f vs w λ e w'=>∃ v r g',e=.returned v/\R r/\ARep w' g' r v/\After w st w' g'
theorem gG.of_sub {P:Program}{f:FuncId}{args:List AV}{r:AV}(h:gG P f args (λ x=>x.sub r)):gG P f args (·=r) :=
 λ w st vs h0 h1 h2=>(h w st vs h0 h1 h2).mono λ _e _w' ⟨v,_,g',h3,h4,h5,h6⟩=>⟨v,r,g',h3,Z,h4 _ _ _ h5,h6⟩
theorem aK.q {P:Program}{f:FuncId}{args:List PV}{R:AV->Prop}(h:aK P f args R):gG P f (args.map .p) R:=by
 intro w st vs h0 h1 h2;refine h w st vs h0 (by simpa using h1) λ i c v hc hv=>?_;have:=h2 i (.p c) v (by simp [hc]) hv;exact yC
theorem sP {P:Program}{tt:List (Nat×TI)}(good:dA P tt){f:FuncId}{fn:Func}{c:Code}{args:List AV}{r:AV}(hf:P.funcs[f]? = some fn)(hb:fn.body=some c)(hn:Nat.ble args.length fn.ntmps=true)(hnl:Nat.ble fn.ntmps M1=true)
  (h:∀ w0,awp ⟨P,tt,good,fn.ntmps,hnl,w0,λ b=>b<w0.w.heap.size⟩ c (Ff tt fn (λ x=>x.sub r)) ⟨gK args,[]⟩):gG P f args (·=r):=by
 refine gG.of_sub ?_;intro w st vs h0 h1 h2;refine calls_of_wp hf hb ?_;have hn:=ld hn
 have hs:St fn.ntmps ⟨w,st,λ _=>none,h0.gl,(λ _ _ h=>nomatch h),[]⟩ (λ b=>b<w.heap.size) ⟨st,λ _=>none⟩ ⟨gK args,[]⟩ { tmps:=vs++Array.replicate (fn.ntmps-vs.size) Go.undef,defers:=[] } w:=by
  refine ⟨rfl,?_,?_,?_,?_,?_,?_,?_,?_,rfl,rfl,rfl,bt _,λ b _ o=>Iff.rfl,λ _ _ _=>rfl,jP.refl _ _,λ i b _ h=>(by cases h),Ev.refl _ _⟩
  ·exact yH
  ·exact I4
  ·intro id cs h; simp [look] at h
  ·intro i j b h; simp at h
  ·intro i b h; simp at h
  ·intro b o h; exact h0.lt b o h
  ·intro b h; exact h
  ·intro b h; rfl
 exact Fo
section
variable {C:Cx} {o:Oper} {K:AS->Prop} {sl:List (Nat×AV)} {ob:List (Nat×List AV)} {d:Nat}
theorem uk {f:FuncId}{q:List AV}{vs:Array Value}{R:AV->Prop}{g:Gh}{a:Act}{w:World}(hs:St C.n C.w0 C.F g ⟨sl,ob⟩ a w)(hc:gG C.P f q R)(hd:o.dst=some d)(hn:Nat.blt d C.n=true)
  (NR:vs.size=q.length) (hargs:∀ (i:Nat) c v,q[i]? = some c->vs[i]? = some v->ARep w ⟨g.st,λ _=>none⟩ c v) (hrun:(execOp a.eval o).run C.P w=.ok (.enter f vs) w)
  (hK:∀ r,R r->∃ r',r.settle=some r'/\K ⟨(d,r')::sl,ob⟩):o.wp C.P a w (λ a' w'=>∃ g' s',St C.n C.w0 C.F g' s' a' w'/\K s') (λ _ _ _=>False):=by
 have hcall:=hc w g.st vs hs.ok0 NR hargs;unfold Oper.wp;rw [hrun];simp only [Oper.upon];refine hcall.mono λ e w' ⟨v,r,g',he,hR,hr,hA⟩=>?_;subst he;obtain ⟨r',hr',hK'⟩:=hK r hR;exact GY
theorem Lw {n:Nat}{w0:Base}{w:World}{F:Nat->Prop}{g:Gh}{a:Act}(hs:St n w0 F g ⟨sl,ob⟩ a w){args:Array Operand}{l l' q:List AV}(hl:j8 sl args.toList=some l)(hl':AV.mapA.go (λ _=>none) l=some l')(hq:nj l' q) :
  (args.map a.eval).size=q.length/\∀ (i:Nat) c v,q[i]? = some c->(args.map a.eval)[i]? = some v->ARep w ⟨g.st,λ _=>none⟩ c v:=by
 obtain ⟨a1,a2⟩:=jk hs _ l hl;obtain ⟨m1,m2⟩:=qf hl';obtain ⟨b1,b2⟩:=kT hq;refine ⟨by have NK:=a1.symm.trans (m1.trans b1); simpa using NK,λ i c v hc hv=>?_⟩;have hi':i<l'.length:=by have:=(List.getElem?_eq_some_iff.1 hc).1; omega
 have hi:i<l.length:=by omega
 have hv':(args.toList.map a.eval)[i]? = some v:=by rw [<- Array.toList_map]; simpa using hv
 have h1:=a2 i _ v (List.getElem?_eq_getElem hi) hv';have h2:=kj (g:=g) (g':=⟨g.st,λ _=>none⟩) rfl (λ i j b h _=>by cases h) h1 (m2 i _ _ (List.getElem?_eq_getElem hi) (List.getElem?_eq_getElem hi'));exact b2 i _ c (List.getElem?_eq_getElem hi') hc w _ v h2
theorem zo {f:FuncId}{args:Array Operand}{ts:Array TypeId}{l l' q:List AV}{r r':AV}(hc:gG C.P f q (·=r))(ho:o.op=.call { callee:=.value (.func f),args:=args,argTypes:=ts })
  (hd:o.dst=some d) (hn:Nat.blt d C.n=true) (hl:j8 sl args.toList=some l) (hl':AV.mapA.go (λ _=>none) l=some l') (hq:nj l' q) (henter:∀ vs w,(callFunc f vs).run C.P w=.ok (.enter f vs) w)
  (hr:r.settle=some r') (hK:K ⟨(d,r')::sl,ob⟩):aX C o K ⟨sl,ob⟩:=by
 intro g a w hs;obtain ⟨h1,h2⟩:=Lw hs hl hl' hq;exact uk hs hc hd hn h1 h2 (by simp [execOp,ho,resolve,Act.eval,Deferred.ofValue,invoke,henter]) λ _ e=>e ▸ ⟨r',hr,hK⟩
theorem rF {F:FuncId}{caps:List AV}{t:Nat}{args:Array Operand}{ts:Array TypeId}{l l' q:List AV}{r r':AV}(hc:gG C.P F (q++caps) (·=r))(ho:o.op=.call { callee:=.value (.tmp t),args:=args,argTypes:=ts })
  (hd:o.dst=some d) (hn:Nat.blt d C.n=true) (hf:evo sl (.tmp t)=some (.func (.func F) caps)) (hcl:AV.mapA.go (λ _=>none) caps=some caps) (hl:j8 sl args.toList=some l) (hl':AV.mapA.go (λ _=>none) l=some l') (hq:nj l' q)
  (henter:∀ vs w,(callFunc F vs).run C.P w=.ok (.enter F vs) w)
  (hr:r.settle=some r') (hK:K ⟨(d,r')::sl,ob⟩):aX C o K ⟨sl,ob⟩:=by
 intro g a w hs;obtain ⟨h1,h2⟩:=Lw hs hl hl' hq;have hfr:=bv hs hf;generalize hv:a.eval (.tmp t)=v at hfr
 cases hfr with
 | func N0 hcr=>
  rename_i vs;obtain ⟨m1,m2⟩:=qf hcl;refine uk hs (vs:=args.map a.eval++vs) hc hd hn (by rw [Array.size_append,la,h1,N0]) (λ i c v hc hv=>?_) (by simp [execOp,ho,resolve,hv,Deferred.ofValue,invoke,henter]) λ _ e=>e ▸ ⟨r',hr,hK⟩;rw [List.getElem?_append] at hc;rw [Array.getElem?_append] at hv;split at hc
  ·rename_i hlt;rw [if_pos O] at hv;exact h2 i c v hc hv
  ·rename_i hge;rw [if_neg O,h1] at hv;have h3:=hcr _ c v hc hv;exact kj (g:=g) (g':=⟨g.st,λ _=>none⟩) rfl (λ i j b h _=>by cases h) h3 (m2 _ _ _ hc hc)
theorem nt {F:FuncId}{caps:Array Operand}{l:List AV}(ho:o.op=.makeFunc (.func F) #[] caps)(hd:o.dst=some d)(hn:Nat.blt d C.n=true)(hl:j8 sl caps.toList=some l)
  (hK:K ⟨(d,.func (.func F) l)::sl,ob⟩):aX C o K ⟨sl,ob⟩:=by
 refine ok_one hd hn (λ g a w hs=>?_) hK;obtain ⟨a1,a2⟩:=jk hs _ l hl;refine ⟨.func (.func F) #[] (caps.map a.eval),by simp [execOp,ho,Instr.makeFunc],.func (by have:=a1.symm; simpa using this) λ i c v hc hv=>a2 i c v hc CY⟩
end
end Go.Ab
namespace Go.Ab
def by2 {α:Type}(a b:α):Nat->α|0=>a|_+1=>b
def by3 {α:Type}(a b c:α):Nat->α|0=>a|1=>b|_+2=>c
def by4 {α:Type}(a b c e:α):Nat->α|0=>a|1=>b|2=>c|_+3=>e
def by5 {α:Type}(a0 a1 a2 a3 a4:α):Nat->α|0=>a0|1=>a1|2=>a2|3=>a3|_+4=>a4
theorem dG {p:Nat->Prop}(h0:p 0)(h1:∀ j,p (j+1)):∀ j,p j
 | 0=>h0
 | j+1=>h1 j
theorem cM {p:Nat->Prop}(h0:p 0)(h1:p 1)(h2:∀ j,p (j+2)):∀ j,p j
 | 0=>h0
 | 1=>h1
 | j+2=>h2 j
theorem fh {p:Nat->Prop}(h0:p 0)(h1:p 1)(h2:p 2)(h3:∀ j,p (j+3)):∀ j,p j
 | 0=>h0
 | 1=>h1
 | 2=>h2
 | j+3=>h3 j
theorem uu {p:Nat->Prop}(h0:p 0)(h1:p 1)(h2:p 2)(h3:p 3)(h4:∀ j,p (j+4)):∀ j,p j
 | 0=>h0
 | 1=>h1
 | 2=>h2
 | 3=>h3
 | j+4=>h4 j
theorem lt1 {p:Nat->Prop}(h0:p 0):∀ j,j<1->p j
 | 0,_=>h0
 | j+1,h=>absurd h O
theorem lt2 {p:Nat->Prop}(h0:p 0)(h1:p 1):∀ j,j<2->p j
 | 0,_=>h0
 | 1,_=>h1
 | j+2,h=>absurd h O
theorem lt3 {p:Nat->Prop}(h0:p 0)(h1:p 1)(h2:p 2):∀ j,j<3->p j
 | 0,_=>h0
 | 1,_=>h1
 | 2,_=>h2
 | j+3,h=>absurd h O
theorem lt4 {p:Nat->Prop}(h0:p 0)(h1:p 1)(h2:p 2)(h3:p 3):∀ j,j<4->p j
 | 0,_=>h0
 | 1,_=>h1
 | 2,_=>h2
 | 3,_=>h3
 | j+4,h=>absurd h O
def Stg (C:Cx)(ops:Array Oper)(S:fX)(o:Oper)(k:Nat)(rev:gD)(d:Nat)(v:Nat->AV):Nat->Prop|0=>True|j+1=>(oh ops S.imp o k j=true->∃ kn,KnS (S.bas j) o rev j kn/\ug C ops (S.obj j) o kn d (v j))/\Stg C ops S o k rev d v j
section
variable {C:Cx} {ops:Array Oper} {S:fX} {K:gD->Prop} {o:Oper} {k:Nat} {rev:gD} {d:Nat} {v:Nat->AV}
theorem ap:Stg C ops S o k rev d v 0:=trivial
theorem ak {j:Nat}(h:oh ops S.imp o k j=false)(r:Stg C ops S o k rev d v j):Stg C ops S o k rev d v (j+1):=⟨λ h'=>(Bool.noConfusion (h.symm.trans h')),r⟩
theorem ai {j:Nat}(kn:List (Nat×AV))(h1:KnS (S.bas j) o rev j kn)(h2:ug C ops (S.obj j) o kn d (v j))(r:Stg C ops S o k rev d v j):Stg C ops S o k rev d v (j+1):=⟨λ _=>⟨kn,h1,h2⟩,r⟩
theorem Cu:∀ {m:Nat},Stg C ops S o k rev d v m->∀ j,j<m->oh ops S.imp o k j=true->∃ kn,KnS (S.bas j) o rev j kn/\ug C ops (S.obj j) o kn d (v j)
 | 0,_,j,h,_=>absurd h (Nat.not_lt_zero _)
 | m+1,hm,j,h,ha=>by
  by_cases e:j=m
  ·subst e; exact hm.1 ha
  ·exact Cu hm.2 j O ha
theorem ar {rest:List Oper}(v:Nat->AV)(hk:S.imp.findIdx? (Nat.beq k)=none)(hd:o.dst=some d)(hf:(rev.all λ p=>!(Nat.beq p.2.1 d))=true)(hb:∀ j,look (S.bas j) d=none)(hv:∀ j,j<S.m->v (j+1)=trA (S.D j) (v j))
  (hs:Stg C ops S o k rev d v (S.m+1)) (h:DS C ops S K rest (k+1) ((k,d,v)::rev)):DS C ops S K (o::rest) k rev:=by
 unfold DS;rw [hk];exact ⟨d,v,hd,hf,hb,λ j hj _=>hv j hj,λ j hj ha=>Cu hs j O ha,h⟩
theorem mj {rest:List Oper}(v:Nat->AV)(hk:S.imp.findIdx? (Nat.beq k)=none)(hd:o.dst=some d)(hf:(rev.all λ p=>!(Nat.beq p.2.1 d))=true)(hb:∀ j,look (S.bas j) d=none)(hv:∀ j,j<S.m->loB ops S.imp o j=true->v (j+1)=trA (S.D j) (v j))
  (hs:Stg C ops S o k rev d v (S.m+1)) (h:DS C ops S K rest (k+1) ((k,d,v)::rev)):DS C ops S K (o::rest) k rev:=by
 unfold DS;rw [hk];exact ⟨d,v,hd,hf,hb,hv,λ j hj ha=>Cu hs j O ha,h⟩
theorem nl {b:Bool}{p:Prop}(hb:b=false)(h:b=true):p:=Bool.noConfusion (hb.symm.trans h)
theorem dB {rest:List Oper}{i:Nat}(v:Nat->AV)(kn:List (Nat×AV))(hk:S.imp.findIdx? (Nat.beq k)=some i)(hkn:KnS (S.bas i) o rev i kn)(hd:o.dst=some d)(hf:(rev.all λ p=>!(Nat.beq p.2.1 d))=true)(hb:∀ j,look (S.bas (j+(i+1))) d=none)
  (hv:∀ j,j<S.m->i<j->v (j+1)=trA (S.D j) (v j))
  (N7:∀ sl,(∀ i x,look kn i=some x->look sl i=some x)->∀ K:AS->Prop,K ⟨(d,v (i+1))::trL (S.D i) sl,S.obj (i+1)⟩->One C ops o K ⟨sl,S.obj i⟩) (h:DS C ops S K rest (k+1) ((k,d,v)::rev)):DS C ops S K (o::rest) k rev:=by
 unfold DS;rw [hk];exact ⟨kn,hkn,.inl ⟨d,v,hd,hf,λ j hj=>by have:=hb (j-(i+1)); rwa [show j-(i+1)+(i+1)=j by omega] at this,λ j h1 h2=>hv j h2 h1,N7,h⟩⟩
theorem dI {rest:List Oper}{i:Nat}(kn:List (Nat×AV))(hk:S.imp.findIdx? (Nat.beq k)=some i)(hkn:KnS (S.bas i) o rev i kn)(hd:o.dst=none)
  (N7:∀ sl,(∀ i x,look kn i=some x->look sl i=some x)->∀ K:AS->Prop,K ⟨trL (S.D i) sl,S.obj (i+1)⟩->One C ops o K ⟨sl,S.obj i⟩) (h:DS C ops S K rest (k+1) rev):DS C ops S K (o::rest) k rev:=by
 unfold DS;rw [hk];exact ⟨kn,hkn,.inr ⟨hd,N7,h⟩⟩
theorem cV (h:K rev):DS C ops S K [] k rev:=h
theorem wl {K1 K2:gD->Prop}(h2:K2 rev)(h:K1 rev):DS C ops S (λ rev=>K1 rev/\K2 rev) [] k rev:=⟨h,h2⟩
end
theorem vQ {m:Nat->Option Nat}:AV.mapA.go m []=some []:=rfl
theorem mZ {m:Nat->Option Nat}{x y:AV}{r l:List AV}(h1:x.mapA m=some y)(h2:AV.mapA.go m r=some l):AV.mapA.go m (x::r)=some (y::l):=by
 simp only [AV.mapA.go,h1,h2]
theorem xx {m:Nat->Option Nat}{f:Fn}{cs l:List AV}(h:AV.mapA.go m cs=some l):(AV.func f cs).mapA m=some (.func f l):=by
 simp only [AV.mapA,h]
theorem eA {sl:List (Nat×AV)}{k:Nat}:nC sl k []=some []:=rfl
theorem du {sl:List (Nat×AV)}{k:Nat}{x:Operand}{r:List (Nat×Operand)}{y:AV}{z:PV}{l:List PV}(h1:evo sl x=some y)(h2:y.toPV=some z)(h3:nC sl (k+1) r=some l):nC sl k ((k,x)::r)=some (z::l):=by
 have hb:Nat.beq k k=true:=by simp
 simp only [nC,hb,cond_true,h1,h3,h2]
theorem nX {sl:List (Nat×AV)}:fU sl []=some []:=rfl
theorem iH {sl:List (Nat×AV)}{i:Nat}{x:Operand}{r:List (Nat×Operand)}{y:AV}{l:List (Nat×AV)}(h1:evo sl x=some y)(h2:fU sl r=some l):fU sl ((i,x)::r)=some ((i,y)::l):=by
 simp only [fU,h1,h2]
theorem tz {C:Cx}{c:Code}{Q:Exit->AS->Prop}{s:AS}(h:awp C c (λ e s=>∃ t,cv C s t/\Q e t) s):awp C c Q s:=by
 intro g a w hs;refine wp_mono (h g a w hs) ?_;rintro e a' w' ⟨g',s',h3,t,hg,hq⟩;obtain ⟨g2,h4⟩:=hg g' a' w' h3;exact ⟨g2,t,h4,hq⟩
def wT (C:Cx)(tt:List (Nat×TI))(fn:Func)(ts ids:List Nat)(r:AV)(rob:List (Nat×List AV))(e:Exit)(s:AS):Prop :=∃ t,cv C s t/\xl tt fn ts ids (λ x y=>x.sub r/\leO y rob) e t
theorem bT {P:Program}{tt:List (Nat×TI)}(good:dA P tt){f:FuncId}{fn:Func}{c:Code}{args:List AV}{Of rob:List (Nat×List AV)}{r:AV}(ts ids:List Nat)(hf:P.funcs[f]? = some fn)(hb:fn.body=some c)
  (hn:Nat.ble args.length fn.ntmps=true) (hnl:Nat.ble fn.ntmps M1=true) (hts:ts.all (λ i=>Nat.blt i M1)=true) (hnd:nodupB ts=true)
  (h:∀ w0 F,awp ⟨P,tt,good,fn.ntmps,hnl,w0,F⟩ c (wT ⟨P,tt,good,fn.ntmps,hnl,w0,F⟩ tt fn ts ids r rob) ⟨gK args,Of⟩):aS P f args Of (λ x y=>x=r/\y=rob) :=
 ML good ts ids hf hb hn hnl hts hnd λ w0 F=>tz (h w0 F)
theorem rN {C:Cx}{tt:List (Nat×TI)}{fn:Func}{ts ids:List Nat}{r r1:AV}{rob Of obs':List (Nat×List AV)}{s t:AS}{l:List AV}(hg:cv C s t)(h1:nB tt fn.results.toList t=some l)(h2:(sy l).mapA (mH ts)=some r1)
  (h3:iQ t.ob ids=some Of) (h4:iK (mH ts) Of=some obs') (h5:r1.sub r) (h6:leO obs' rob):wT C tt fn ts ids r rob .ret s:=⟨t,hg,GX h1 h2 h3 h4 ⟨h5,h6⟩⟩
theorem KT {C:Cx}{tt:List (Nat×TI)}{fn:Func}{ts ids:List Nat}{r r1:AV}{rob Of obs':List (Nat×List AV)}{s t:AS}{l:List AV}(hg:cv C s t)(h1:nB tt fn.results.toList t=some l)(h2:(sy l).mapA (mH ts)=some r1)
  (h3:iQ t.ob ids=some Of) (h4:iK (mH ts) Of=some obs') (h5:r1.sub r) (h6:leO obs' rob):wT C tt fn ts ids r rob .normal s:=⟨t,hg,HL h1 h2 h3 h4 ⟨h5,h6⟩⟩
variable {p:Prop}
theorem Hq (h:p:=by
 simp [execOp,ho,Instr.buildSlice,run_underlying h1,sizeOf,typeInfo,hj,Instr.fill,newRow];congr 2
 apply Array.ext <;> simp):p:=h
theorem pq {P:Program}(w:World)(d:Nat)(t e:TypeId)(a:Option Addr)(l c:Nat)(h:P.underlying t=some (.slice e)):(Op.equalIn (d+1) t (.slice a l c) (.slice none 0 0)).run P w=.ok a.isNone w:=by
 cases a <;> simp [Op.equalIn,run_underlying h]
theorem rp {P:Program}(w:World)(t e:TypeId)(a:Option Addr)(l c:Nat)(h:P.underlying t=some (.slice e)):(Op.equal t (.slice a l c) (.slice none 0 0)).run P w=.ok a.isNone w:=pq w 9999 t e a l c h
section
variable {C:Cx} {o:Oper} {K:AS->Prop} {sl:List (Nat×AV)} {ob:List (Nat×List AV)} {d:Nat}
theorem oa {t t':TypeId}{x y:Operand}{Y0z:AV}{es:List PV}{i:TI}{e:Nat}(ho:o.op=.binOp .eql t x y t')(hd:o.dst=some d)(hn:Nat.blt d C.n=true)
  (hi:look C.tt t=some i) (N4:i.k=.slice e) (hx:evo sl x=some Y0z) (hY:Y0z.elems? = some es) (hy:evo sl y=some (.p (.val (.slice none 0 0))))
  (hK:∀ b:Bool,(b=true->es=[])->K ⟨(d,.p (.val (.bool b)))::sl,ob⟩):aX C o K ⟨sl,ob⟩:=by
 obtain ⟨u,h1,h2⟩:=bA C.good hi;have h3:=bC (h2.trans N4);subst h3;intro g a w hs;have hp:=iN hY rt;have hyv:=co hs hy;generalize hxv:a.eval x=v at hp
 have key:∃ (b:Bool) (ad:Option Addr) (l c:Nat),v=.slice ad l c/\b=ad.isNone/\(b=true->es=[]):=by
  cases hp with
  | nils=>exact ⟨true,none,0,0,Z,Z,λ _=>rfl⟩
  | nile ad=>exact ⟨false,some ad,0,0,Z,Z,λ _=>rfl⟩
  | slice sz cf hcap NR N6 hc hr=>exact ⟨false,_,_,_,rfl,rfl,λ h=>by cases h⟩
 obtain ⟨b,ad,l,c,rfl,rfl,hb⟩:=key
 have hrun:(execOp a.eval o).run C.P w=.ok (.value (.bool ad.isNone)) w:=by
  simp [execOp,ho,hxv,hyv,eqGuard,binOp,rp _ _ _ _ _ _ h1]
 unfold Oper.wp;rw [hrun];simp only [Oper.upon,hd];exact ⟨g,_,hs.put (d:=some d) (λ t ht=>by cases ht; exact d3 ▸ hn) (.p (.val _)),hK _ hb⟩
theorem rI {t e:TypeId}{i ie:TI}(ho:o.op=.buildSlice t 0 #[])(hd:o.dst=some d)(hn:Nat.blt d C.n=true)
  (hi:look C.tt t=some i) (N4:i.k=.slice e) (hie:look C.tt e=some ie) (_hzl:Nat.beq ie.zero.length ie.size=true) (tok sz:Nat)
  (hK:K ⟨(d,.vec tok sz 0 [])::sl,ob⟩):aX C o K ⟨sl,ob⟩:=by
 obtain ⟨u,h1,h2⟩:=bA C.good hi;have h3:=bC (h2.trans N4);subst h3;obtain ⟨j,hj,hj1,hj2,z,hz1,hz2⟩:=ib C.good hie;intro g a w hs
 have hrun:(execOp a.eval o).run C.P w=.ok (.value (.slice (some ⟨w.heap.size,0,none⟩) 0 0)) (w.alloc (.cells #[] e)):=by
  exact Hq
 unfold Oper.wp;rw [hrun];have N7:=(hs.settled (λ _=>False) #[] e).put (d:=some d) (λ t ht=>by cases ht; exact d3 ▸ hn) (.vece tok sz ⟨w.heap.size,0,none⟩);simp only [Oper.upon,hd];exact ⟨_,_,N7,hK⟩
theorem w4 {t e:TypeId}{i ie:TI}(ho:o.op=.buildSlice t 0 #[])(hd:o.dst=some d)(hn:Nat.blt d C.n=true)
  (hi:look C.tt t=some i) (N4:i.k=.slice e) (hie:look C.tt e=some ie) (sz:Nat)
  (hK:K ⟨(d,.arr d sz 0 0)::(cq (λ i=>Nat.beq i d) ⟨sl,ob⟩).sl,(d,[])::(cq (λ i=>Nat.beq i d) ⟨sl,ob⟩).ob⟩):aX C o K ⟨sl,ob⟩:=by
 obtain ⟨u,h1,h2⟩:=bA C.good hi;have h3:=bC (h2.trans N4);subst h3;obtain ⟨j,hj,hj1,hj2,z,hz1,hz2⟩:=ib C.good hie;intro g a w hs
 have hrun:(execOp a.eval o).run C.P w=.ok (.value (.slice (some ⟨w.heap.size,0,none⟩) 0 0)) (w.alloc (.cells #[] e)):=by
  exact Hq
 unfold Oper.wp;rw [hrun];have hdl:d<M1:=by have h1:=ld C.nl; have h2:d<C.n:=d3 ▸ hn; omega
 have hf:=hs.fresh (λ i=>Nat.beq i d) (λ i hi=>by have:=bx hi; omega) d G (λ _=>False) #[] e;have hp:=hf.put (d:=some d) (λ t ht=>by cases ht; exact d3 ▸ hn) (x:=.arr d sz 0 0) (v:=.slice (some ⟨w.heap.size,0,none⟩) 0 0) (.arr (cap:=0) G dO G (bt _));simp only [Oper.upon,hd];refine ⟨_,⟨(d,.arr d sz 0 0)::(cq (λ i=>Nat.beq i d) ⟨sl,ob⟩).sl,(d,[])::(cq (λ i=>Nat.beq i d) ⟨sl,ob⟩).ob⟩,{ hp with ob:=λ id cs' hc=>?_ },hK⟩;simp only [a6] at hc;by_cases e1:d=id
 ·subst e1;simp only [if_true,aq] at hc;subst hc;refine ⟨w.heap.size,#[],e,by simp,dO,by simp,λ o ho=>?_,λ i y hy=>by simp at hy⟩;exact CW
 ·exact B2
theorem pw {α:Type}{f:α->PV}{sz:Nat}(NR:∀ x,(f x).cells.length=sz)(l:List α):(jJ f l).length=l.length*sz:=by
 unfold jJ;rw [n6,iS (sz:=sz),n6];intro e he;obtain ⟨x,_,rfl⟩:=List.mem_map.1 he;exact NR x
theorem Al {α:Type}(f:α->PV)(l q:List α):(gq (l.map f++q.map f)).map AV.p=jJ f (l++q):=by
 unfold jJ; rw [List.map_append]
theorem En {α:Type}(f:α->PV)(l0 l:List α){t tx e e':TypeId}{x y:Operand}{k sz n:Nat}{Y0z:AV}{i ie j:TI}(ho:o.op=.call { callee:=.builtin .append,args:=#[x,y],argTypes:=#[t,tx] })(hd:o.dst=some d)(hn:Nat.blt d C.n=true)
  (hi:look C.tt t=some i) (N4:i.k=.slice e) (hie:look C.tt e=some ie) (hj:look C.tt tx=some j) (hjk:j.k=.slice e') (hx:evo sl x=some (.arr k sz 0 n)) (hk:Nat.blt k M1=true) (hob:look ob k=some (jJ f l0)) (hnl:n=l0.length)
  (hy:evo sl y=some Y0z) (hY:Y0z.elems? = some (l.map f)) (hiz:ie.size=sz) (NR:∀ x,(f x).cells.length=ie.size) (h0:Nat.blt 0 ie.size=true) (hzl:Nat.beq ie.zero.length ie.size=true) (hby:Nat.blt 0 ie.bytes=true)
  (NK:(l0.length+l.length)*ie.bytes<=140737488355328)
  (hK:K ⟨(d,.arr d sz 0 (l0.length+l.length))::(cq (λ i=>Nat.beq i k||Nat.beq i d) ⟨sl,ob⟩).sl,(d,jJ f (l0++l))::(cq (λ i=>Nat.beq i k||Nat.beq i d) ⟨sl,ob⟩).ob⟩):aX C o K ⟨sl,ob⟩:=by
 have hby':1<=ie.bytes:=Nat.succ_le_of_lt vj;have h1:(l0.length+l.length)*1<=(l0.length+l.length)*ie.bytes:=Nat.mul_le_mul_left _ hby';have hs:∀ (l:List α),∀ y∈l.map f,y.cells.length=ie.size:=λ l y hy=>by obtain ⟨x,_,rfl⟩:=List.mem_map.1 hy; exact NR x
 exact Bq ho hd hn hi N4 hie hj hjk hx hk hob (by rw [n6]; exact hnl) hy hY (hs l) (hs l0) hiz h0 hzl BO C0
  (by rw [n6,n6,Al]; exact hK)
theorem FK {α:Type} [Inhabited α] {f:α->PV}{sz:Nat}(_h0:0<sz)(NR:∀ x,(f x).cells.length=sz)(l:List α){n:Nat}(hn:n<l.length):((jJ f l).drop (n*sz)).take sz=(f (l.getD n default)).cells.map .p:=by
 have hs:∀ e∈l.map f,e.cells.length=sz:=λ y hy=>by obtain ⟨x,_,rfl⟩:=List.mem_map.1 hy; exact NR x
 have hm:n*sz+sz<=l.length*sz:=by rw [<- Nat.succ_mul]; exact py _ hn
 have NK:(jJ f l).length=l.length*sz:=pw NR l;apply List.ext_getElem?;intro j;rw [List.getElem?_take,List.getElem?_map];by_cases hj:j<sz
 ·rw [if_pos hj,List.getElem?_drop];have hcj:j<(f (l.getD n default)).cells.length:=by rw [NR]; exact hj
  have hg:=mc hs n (f (l.getD n default)) j _ (Ls f l n default hn) (List.getElem?_eq_getElem hcj);rw [jJ,List.getElem?_map,hg,List.getElem?_eq_getElem hcj]
 ·rw [if_neg hj,List.getElem?_eq_none (by rw [NR]; omega)]; rfl
theorem Kj:∀ (l:List PV),lq (l.map .p)=.p (.agg l):=by
 have h:∀ (l:List PV),wx (l.map .p)=some l:=by
  intro l
  induction l with
  | nil=>rfl
  | cons x r ih=>simp only [dg,wx,ih]
 intro l;unfold lq;rw [h]
theorem wm {α:Type} [Inhabited α] (f:α->PV)(cs:α->List PV)(l:List α){t:TypeId}{x:Operand}{i:TI}{id sz:Nat}{n:Int}(ho:o.op=.load t x)(hd:o.dst=some d)(hn:Nat.blt d C.n=true)
  (hi:look C.tt t=some i) (hia:i.k.isAgg=true) (hx:evo sl x=some (.ptr id (0+n.toNat*sz))) (hob:look ob id=some (jJ f l)) (hiz:i.size=sz) (h0:Nat.blt 0 sz=true) (hb:0<=n/\n<(l.length:Int)) (N0:∀ x,(f x).cells=cs x) (NR:∀ x,(cs x).length=sz)
  (hK:K ⟨(d,.p (.agg (cs (lat l n))))::sl,ob⟩):aX C o K ⟨sl,ob⟩:=by
 subst hiz;have h0':0<i.size:=by simpa using h0
 have hsz':∀ x,(f x).cells.length=i.size:=λ x=>by rw [N0]; exact NR x
 have hnl:n.toNat<l.length:=by omega
 have hm:n.toNat*i.size+i.size<=l.length*i.size:=by rw [<- Nat.succ_mul]; exact py _ hnl
 refine eH ho hd hn hi hia hx hob (Nat.ble_eq_true_of_le (by rw [pw hsz']; omega)) (y:=.p (.agg (cs (lat l n)))) ?_ hK;rw [sm,FK h0' hsz' l hnl,Kj,N0]
 rfl
theorem GH {α:Type}{f:α->PV}{sz:Nat}(h0:0<sz)(NR:∀ x,(f x).cells.length=sz)(l:List α){n:Nat}(hn:n<l.length)(y:α):mV (jJ f l) (n*sz) ((f y).cells.map .p)=jJ f (l.set n y):=by
 have hs:∀ (l:List α),∀ e∈l.map f,e.cells.length=sz:=λ l y hy=>by obtain ⟨x,_,rfl⟩:=List.mem_map.1 hy; exact NR x
 have hm:n*sz+sz<=l.length*sz:=by rw [<- Nat.succ_mul]; exact py _ hn
 have hl1:((f y).cells.map AV.p).length=sz:=by rw [n6]; exact NR y
 have NK:(jJ f l).length=l.length*sz:=pw NR l;apply List.ext_getElem?;intro k;rw [vu _ _ _ (by rw [hl1,NK]; exact hm),hl1];by_cases hk:k<l.length*sz
 ·have hd:k / sz<l.length:=(Nat.div_lt_iff_lt_mul h0).2 hk;have hr:k%sz<sz:=Nat.mod_lt _ h0;have he:k / sz*sz+k%sz=k:=by rw [Nat.mul_comm]; exact Nat.div_add_mod k sz
  have get:∀ (q:List α) (x:α),q[k / sz]? = some x->(jJ f q)[k]? = ((f x).cells[k%sz]?).map .p:=by
   intro q x hq;have hc:k%sz<(f x).cells.length:=by rw [NR]; exact hr
   have:=mc (hs q) (k / sz) (f x) (k%sz) _ (by rw [List.getElem?_map,hq]; rfl) (List.getElem?_eq_getElem hc);rw [he] at this;rw [jJ,List.getElem?_map,this,List.getElem?_eq_getElem hc]
  by_cases h:n*sz<=k/\k<n*sz+sz
  ·rw [if_pos h]
   have hkn:k / sz=n:=by
    apply Nat.div_eq_of_lt_le
    ·exact h.1
    ·rw [Nat.succ_mul]; exact h.2
   rw [get (l.set n y) y (by rw [hkn,List.getElem?_set_self hn]),List.getElem?_map];have:k-n*sz=k%sz:=by rw [hkn] at he; omega
   rw [this]
  ·rw [if_neg h]
   have hkn:¬ n=k / sz:=by
    intro e; apply h; rw [e]; omega
   rw [get l l[k / sz] (List.getElem?_eq_getElem hd),get (l.set n y) l[k / sz] (by rw [List.getElem?_set_ne hkn]; exact List.getElem?_eq_getElem hd)]
 ·rw [if_neg O,List.getElem?_eq_none O,List.getElem?_eq_none (by rw [pw NR,List.length_set]; omega)]
theorem Cz (l:List PV)(h:PV.onesB l=true):(AV.p (.agg l)).cellsA=some (l.map .p):=by
 first|rfl|simp [AV.cellsA,h]
theorem tW {α:Type} [Inhabited α] (f:α->PV)(cs:α->List PV)(l:List α)(y:α){t:TypeId}{x v:Operand}{i:TI}{id sz:Nat}{n:Int}(ho:o.op=.store t x v)(hd:o.dst=none)
  (hi:look C.tt t=some i) (hx:evo sl x=some (.ptr id (0+n.toNat*sz))) (hv:evo sl v=some (.p (.agg (cs y)))) (hob:look ob id=some (jJ f l)) (hiz:i.size=sz) (h0:Nat.blt 0 sz=true) (hb:0<=n/\n<(l.length:Int)) (N0:∀ x,(f x).cells=cs x) (NR:∀ x,(cs x).length=sz) (N6:∀ x,PV.onesB (cs x)=true)
  (hK:K ⟨sl,(id,jJ f (l.set n.toNat y))::ob⟩):aX C o K ⟨sl,ob⟩:=by
 subst hiz;have h0':0<i.size:=by simpa using h0
 have hsz':∀ x,(f x).cells.length=i.size:=λ x=>by rw [N0]; exact NR x
 have hnl:n.toNat<l.length:=by omega
 have hm:n.toNat*i.size+i.size<=l.length*i.size:=by rw [<- Nat.succ_mul]; exact py _ hnl
 refine fe (xs:=(cs y).map .p) ho hd hi hx hv (Cz _ (N6 y)) (by rw [n6]; exact NR y) hob (by rw [n6,NR,pw hsz']; omega) ?_;rw [sm,<- N0,GH h0' hsz' l hnl];exact hK
def dvI:BinOp->Int->Int->Option Int|.rem,a,b=>some (a.tmod b)|.quo,a,b=>some (IntKind.wrap .i64 (a.tdiv b))|_,_,_=>none
theorem GR {P:Program}{w:World}{op:BinOp}{t:TypeId}{a b c:Int}(hb:b≠0)(h:dvI op a b=some c) :
  (binOp op t (.int .i64 a) (.int .i64 b)).run P w=.ok (.int .i64 c) w:=by
 cases op <;> simp only [dvI,aq,reduceCtorEq] at h <;> subst h <;> simp [binOp,Op.intDiv,hb]
theorem LG {op:BinOp}{t t':TypeId}{x y:Operand}{a b c:Int}(ho:o.op=.binOp op t x y t')(hd:o.dst=some d)(hn:Nat.blt d C.n=true)
  (hx:evo sl x=some (.p (.val (.int .i64 a)))) (hy:evo sl y=some (.p (.val (.int .i64 b)))) (hc:dvI op a b=some c) (hb:b≠0)
  (hK:K ⟨(d,.p (.val (.int .i64 c)))::sl,ob⟩):aX C o K ⟨sl,ob⟩ :=
 ok_one hd hn (λ g a w hs=>⟨_,by
  simp only [execOp,ho,co hs hx,co hs hy,Sem.run_bind,lA,Result.andThen_ok,GR hb hc,Sem.run_pure],.p (.val _)⟩) hK
end
open Go.Proofs
def tt:List (Nat×TI):=[(2,⟨.int .i64,1,8,[.int .i64 0]⟩),(3,⟨.int .i64,1,8,[.int .i64 0]⟩),(4,⟨.bool,1,1,[.bool false]⟩),(5,⟨.int .u8,1,1,[.int .u8 0]⟩),(6,⟨.int .u8,1,1,[.int .u8 0]⟩),(7,⟨.struct [(0,2),(1,3),(2,4),(3,6)],4,24,[.int .i64 0,.int .i64 0,.bool false,.int .u8 0]⟩),(8,⟨.struct [(0,2),(1,3),(2,4),(3,6)],4,24,[.int .i64 0,.int .i64 0,.bool false,.int .u8 0]⟩),(9,⟨.string,1,16,[.string ⟨#[]⟩]⟩),(10,⟨.string,1,16,[.string ⟨#[]⟩]⟩),(11,⟨.string,1,16,[.string ⟨#[]⟩]⟩),(12,⟨.int .u64,1,8,[.int .u64 0]⟩),(13,⟨.struct [(0,9),(1,12)],2,24,[.string ⟨#[]⟩,.int .u64 0]⟩),(14,⟨.struct [(0,9),(1,12)],2,24,[.string ⟨#[]⟩,.int .u64 0]⟩),(15,⟨.ptr 273,1,8,[.pointer none]⟩),(16,⟨.ptr 276,1,8,[.pointer none]⟩),(17,⟨.ptr 283,1,8,[.pointer none]⟩),(18,⟨.struct [(0,17)],1,8,[.pointer none]⟩),(19,⟨.struct [(0,17)],1,8,[.pointer none]⟩),(20,⟨.iface,1,16,[.nilIface]⟩),(21,⟨.int .i32,1,4,[.int .i32 0]⟩),(23,⟨.slice 48,1,24,[.slice none 0 0]⟩),(24,⟨.slice 58,1,24,[.slice none 0 0]⟩),(25,⟨.struct [(0,23),(1,24)],2,48,[.slice none 0 0,.slice none 0 0]⟩),(26,⟨.struct [(0,23),(1,24)],2,48,[.slice none 0 0,.slice none 0 0]⟩),(27,⟨.int .i64,1,8,[.int .i64 0]⟩),(28,⟨.struct [(0,27),(1,3),(2,9)],3,32,[.int .i64 0,.int .i64 0,.string ⟨#[]⟩]⟩),(29,⟨.struct [(0,27),(1,3),(2,9)],3,32,[.int .i64 0,.int .i64 0,.string ⟨#[]⟩]⟩),(37,⟨.int .i64,1,8,[.int .i64 0]⟩),(38,⟨.int .i64,1,8,[.int .i64 0]⟩),(39,⟨.int .i64,1,8,[.int .i64 0]⟩),(40,⟨.slice 43,1,24,[.slice none 0 0]⟩),(41,⟨.slice 9,1,24,[.slice none 0 0]⟩),(42,⟨.struct [(0,39),(1,3),(2,9),(3,40),(4,41)],5,80,[.int .i64 0,.int .i64 0,.string ⟨#[]⟩,.slice none 0 0,.slice none 0 0]⟩),(43,⟨.struct [(0,39),(1,3),(2,9),(3,40),(4,41)],5,80,[.int .i64 0,.int .i64 0,.string ⟨#[]⟩,.slice none 0 0,.slice none 0 0]⟩),(44,⟨.slice 46,1,24,[.slice none 0 0]⟩),(45,⟨.struct [(0,37),(1,38),(2,9),(3,9),(4,43),(9,44),(10,3)],11,160,[.int .i64 0,.int .i64 0,.string ⟨#[]⟩,.string ⟨#[]⟩,.int .i64 0,.int .i64 0,.string ⟨#[]⟩,.slice none 0 0,.slice none 0 0,.slice none 0 0,.int .i64 0]⟩),(46,⟨.struct [(0,37),(1,38),(2,9),(3,9),(4,43),(9,44),(10,3)],11,160,[.int .i64 0,.int .i64 0,.string ⟨#[]⟩,.string ⟨#[]⟩,.int .i64 0,.int .i64 0,.string ⟨#[]⟩,.slice none 0 0,.slice none 0 0,.slice none 0 0,.int .i64 0]⟩),(47,⟨.struct [(0,9),(1,46),(12,3)],13,184,[.string ⟨#[]⟩,.int .i64 0,.int .i64 0,.string ⟨#[]⟩,.string ⟨#[]⟩,.int .i64 0,.int .i64 0,.string ⟨#[]⟩,.slice none 0 0,.slice none 0 0,.slice none 0 0,.int .i64 0,.int .i64 0]⟩),(48,⟨.struct [(0,9),(1,46),(12,3)],13,184,[.string ⟨#[]⟩,.int .i64 0,.int .i64 0,.string ⟨#[]⟩,.string ⟨#[]⟩,.int .i64 0,.int .i64 0,.string ⟨#[]⟩,.slice none 0 0,.slice none 0 0,.slice none 0 0,.int .i64 0,.int .i64 0]⟩),(57,⟨.struct [(0,9),(1,41),(2,26),(4,3)],5,96,[.string ⟨#[]⟩,.slice none 0 0,.slice none 0 0,.slice none 0 0,.int .i64 0]⟩),(58,⟨.struct [(0,9),(1,41),(2,26),(4,3)],5,96,[.string ⟨#[]⟩,.slice none 0 0,.slice none 0 0,.slice none 0 0,.int .i64 0]⟩),(62,⟨.slice 72,1,24,[.slice none 0 0]⟩),(65,⟨.ptr 67,1,8,[.pointer none]⟩),(66,⟨.struct [(0,62),(1,3),(2,29)],5,64,[.slice none 0 0,.int .i64 0,.int .i64 0,.int .i64 0,.string ⟨#[]⟩]⟩),(67,⟨.struct [(0,62),(1,3),(2,29)],5,64,[.slice none 0 0,.int .i64 0,.int .i64 0,.int .i64 0,.string ⟨#[]⟩]⟩),(70,⟨.int .i64,1,8,[.int .i64 0]⟩),(71,⟨.struct [(0,70),(1,9),(2,3)],3,32,[.int .i64 0,.string ⟨#[]⟩,.int .i64 0]⟩),(72,⟨.struct [(0,70),(1,9),(2,3)],3,32,[.int .i64 0,.string ⟨#[]⟩,.int .i64 0]⟩),(88,⟨.ptr 92,1,8,[.pointer none]⟩),(90,⟨.array 256 5,256,256,List.replicate 256 (.int .u8 0)⟩),(92,⟨.struct [(0,9),(1,3),(2,90),(258,3),(259,29)],262,320,[.string ⟨#[]⟩,.int .i64 0]++List.replicate 256 (.int .u8 0)++[.int .i64 0,.int .i64 0,.int .i64 0,.string ⟨#[]⟩]⟩),(96,⟨.ptr 26,1,8,[.pointer none]⟩),(139,⟨.ptr 141,1,8,[.pointer none]⟩),(140,⟨.struct [(0,62),(1,3),(2,3),(3,29)],6,72,[.slice none 0 0,.int .i64 0,.int .i64 0,.int .i64 0,.int .i64 0,.string ⟨#[]⟩]⟩),(141,⟨.struct [(0,62),(1,3),(2,3),(3,29)],6,72,[.slice none 0 0,.int .i64 0,.int .i64 0,.int .i64 0,.int .i64 0,.string ⟨#[]⟩]⟩),(148,⟨.map 9 4,1,8,[.map none]⟩),(155,⟨.array 7 9,7,112,[.string ⟨#[]⟩,.string ⟨#[]⟩,.string ⟨#[]⟩,.string ⟨#[]⟩,.string ⟨#[]⟩,.string ⟨#[]⟩,.string ⟨#[]⟩]⟩),(165,⟨.ptr 167,1,8,[.pointer none]⟩),(166,⟨.struct [(0,3)],1,8,[.int .i64 0]⟩),(167,⟨.struct [(0,3)],1,8,[.int .i64 0]⟩),(170,⟨.struct [(0,5),(1,5)],2,2,[.int .u8 0,.int .u8 0]⟩),(171,⟨.struct [(0,5),(1,5)],2,2,[.int .u8 0,.int .u8 0]⟩),(172,⟨.array 16 171,32,32,[.int .u8 0,.int .u8 0,.int .u8 0,.int .u8 0,.int .u8 0,.int .u8 0,.int .u8 0,.int .u8 0,.int .u8 0,.int .u8 0,.int .u8 0,.int .u8 0,.int .u8 0,.int .u8 0,.int .u8 0,.int .u8 0,.int .u8 0,.int .u8 0,.int .u8 0,.int .u8 0,.int .u8 0,.int .u8 0,.int .u8 0,.int .u8 0,.int .u8 0,.int .u8 0,.int .u8 0,.int .u8 0,.int .u8 0,.int .u8 0,.int .u8 0,.int .u8 0]⟩),(173,⟨.int .u64,1,8,[.int .u64 0]⟩),(177,⟨.ptr 179,1,8,[.pointer none]⟩),(178,⟨.struct [(0,62),(1,3),(2,3),(3,3),(4,29)],7,80,[.slice none 0 0,.int .i64 0,.int .i64 0,.int .i64 0,.int .i64 0,.int .i64 0,.string ⟨#[]⟩]⟩),(179,⟨.struct [(0,62),(1,3),(2,3),(3,3),(4,29)],7,80,[.slice none 0 0,.int .i64 0,.int .i64 0,.int .i64 0,.int .i64 0,.int .i64 0,.string ⟨#[]⟩]⟩),(181,⟨.ptr 184,1,8,[.pointer none]⟩),(182,⟨.slice 5,1,24,[.slice none 0 0]⟩),(183,⟨.struct [(0,181),(1,182)],2,32,[.pointer none,.slice none 0 0]⟩),(184,⟨.struct [(0,181),(1,182)],2,32,[.pointer none,.slice none 0 0]⟩),(187,⟨.iface,1,16,[.nilIface]⟩),(188,⟨.iface,1,16,[.nilIface]⟩),(194,⟨.int .u64,1,8,[.int .u64 0]⟩),(201,⟨.ptr 5,1,8,[.pointer none]⟩),(204,⟨.int .u32,1,4,[.int .u32 0]⟩),(222,⟨.other,1,8,[.nilFunc]⟩),(223,⟨.array 13 9,13,208,[.string ⟨#[]⟩,.string ⟨#[]⟩,.string ⟨#[]⟩,.string ⟨#[]⟩,.string ⟨#[]⟩,.string ⟨#[]⟩,.string ⟨#[]⟩,.string ⟨#[]⟩,.string ⟨#[]⟩,.string ⟨#[]⟩,.string ⟨#[]⟩,.string ⟨#[]⟩,.string ⟨#[]⟩]⟩),(241,⟨.ptr 243,1,8,[.pointer none]⟩),(242,⟨.struct [(0,9),(1,3),(2,3),(3,3),(4,9),(5,44),(6,4)],7,88,[.string ⟨#[]⟩,.int .i64 0,.int .i64 0,.int .i64 0,.string ⟨#[]⟩,.slice none 0 0,.bool false]⟩),(243,⟨.struct [(0,9),(1,3),(2,3),(3,3),(4,9),(5,44),(6,4)],7,88,[.string ⟨#[]⟩,.int .i64 0,.int .i64 0,.int .i64 0,.string ⟨#[]⟩,.slice none 0 0,.bool false]⟩),(245,⟨.int .i64,1,8,[.int .i64 0]⟩),(248,⟨.ptr 253,1,8,[.pointer none]⟩),(252,⟨.struct [(0,9),(1,9),(2,188)],3,48,[.string ⟨#[]⟩,.string ⟨#[]⟩,.nilIface]⟩),(253,⟨.struct [(0,9),(1,9),(2,188)],3,48,[.string ⟨#[]⟩,.string ⟨#[]⟩,.nilIface]⟩),(255,⟨.ptr 257,1,8,[.pointer none]⟩),(256,⟨.struct [(0,9)],1,16,[.string ⟨#[]⟩]⟩),(257,⟨.struct [(0,9)],1,16,[.string ⟨#[]⟩]⟩),(260,⟨.array 24 5,24,24,[.int .u8 0,.int .u8 0,.int .u8 0,.int .u8 0,.int .u8 0,.int .u8 0,.int .u8 0,.int .u8 0,.int .u8 0,.int .u8 0,.int .u8 0,.int .u8 0,.int .u8 0,.int .u8 0,.int .u8 0,.int .u8 0,.int .u8 0,.int .u8 0,.int .u8 0,.int .u8 0,.int .u8 0,.int .u8 0,.int .u8 0,.int .u8 0]⟩),(266,⟨.array 20 194,20,160,[.int .u64 0,.int .u64 0,.int .u64 0,.int .u64 0,.int .u64 0,.int .u64 0,.int .u64 0,.int .u64 0,.int .u64 0,.int .u64 0,.int .u64 0,.int .u64 0,.int .u64 0,.int .u64 0,.int .u64 0,.int .u64 0,.int .u64 0,.int .u64 0,.int .u64 0,.int .u64 0]⟩),(270,⟨.array 32 5,32,32,[.int .u8 0,.int .u8 0,.int .u8 0,.int .u8 0,.int .u8 0,.int .u8 0,.int .u8 0,.int .u8 0,.int .u8 0,.int .u8 0,.int .u8 0,.int .u8 0,.int .u8 0,.int .u8 0,.int .u8 0,.int .u8 0,.int .u8 0,.int .u8 0,.int .u8 0,.int .u8 0,.int .u8 0,.int .u8 0,.int .u8 0,.int .u8 0,.int .u8 0,.int .u8 0,.int .u8 0,.int .u8 0,.int .u8 0,.int .u8 0,.int .u8 0,.int .u8 0]⟩),(272,⟨.struct [(0,17),(1,17),(2,17),(3,9)],4,40,[.pointer none,.pointer none,.pointer none,.string ⟨#[]⟩]⟩),(273,⟨.struct [(0,17),(1,17),(2,17),(3,9)],4,40,[.pointer none,.pointer none,.pointer none,.string ⟨#[]⟩]⟩),(274,⟨.array 0 16,0,0,[]⟩),(275,⟨.struct [(0,274)],0,0,[]⟩),(276,⟨.struct [(0,274)],0,0,[]⟩),(277,⟨.int .u8,1,1,[.int .u8 0]⟩),(278,⟨.int .u8,1,1,[.int .u8 0]⟩),(280,⟨.int .i32,1,4,[.int .i32 0]⟩),(281,⟨.int .i32,1,4,[.int .i32 0]⟩),(282,⟨.struct [(0,12),(1,12),(2,204),(3,277),(4,5),(5,5),(6,278),(7,279),(8,201),(9,280),(10,281)],11,48,[.int .u64 0,.int .u64 0,.int .u32 0,.int .u8 0,.int .u8 0,.int .u8 0,.int .u8 0,.nilFunc,.pointer none,.int .i32 0,.int .i32 0]⟩),(283,⟨.struct [(0,12),(1,12),(2,204),(3,277),(4,5),(5,5),(6,278),(7,279),(8,201),(9,280),(10,281)],11,48,[.int .u64 0,.int .u64 0,.int .u32 0,.int .u8 0,.int .u8 0,.int .u8 0,.int .u8 0,.nilFunc,.pointer none,.int .i32 0,.int .i32 0]⟩)]
theorem good:dA Tryz.prog tt:=by
 unfold tt;simp only [dA];refine ⟨?_,?_,?_,?_,?_,?_,?_,?_,?_,?_,?_,?_,?_,?_,?_,?_,?_,?_,?_,?_,?_,?_,?_,?_,?_,?_,?_,?_,?_,?_,?_,?_,?_,?_,?_,?_,?_,?_,?_,?_,?_,?_,?_,?_,?_,?_,?_,?_,?_,?_,?_,?_,?_,?_,?_,?_,?_,?_,?_,?_,?_,?_,?_,?_,?_,?_,?_,?_,?_,?_,?_,?_,?_,?_,?_,?_,?_,?_,?_,?_,?_,?_,?_,?_,?_,?_,?_,?_,?_,?_,?_,?_,?_,?_,?_,?_,?_,?_,?_,?_,?_,?_,trivial⟩
 all_goals exact ⟨by kernel_rfl,by kernel_rfl⟩
end Go.Ab
end
section
namespace Go.Ab
variable {p:Prop}
theorem Fu (h:p:=by
 cases r with
 | nil=>simpa [eqF] using this
 | cons g r=>simp [eqF,this]):p:=h
def iz (k:IntKind)(a b:Int):Int:=k.wrap ((BitVec.ofInt k.bits a &&& BitVec.ofInt k.bits b).toNat:Nat)
def iOr (k:IntKind)(a b:Int):Int:=k.wrap ((BitVec.ofInt k.bits a ||| BitVec.ofInt k.bits b).toNat:Nat)
def iXor (k:IntKind)(a b:Int):Int:=k.wrap ((BitVec.ofInt k.bits a ^^^ BitVec.ofInt k.bits b).toNat:Nat)
def DT (k:IntKind)(a b:Int):Int:=k.wrap ((BitVec.ofInt k.bits a &&& ~~~(BitVec.ofInt k.bits b)).toNat:Nat)
def K0 (k:IntKind):BinOp->Int->Int->Option Int|.and,a,b=>some (iz k a b)|.or,a,b=>some (iOr k a b)|.xor,a,b=>some (iXor k a b)|.andNot,a,b=>some (DT k a b)|_,_,_=>none
def iShl (k:IntKind)(a b:Int):Int:=k.wrap (a*2^(min b.toNat k.bits))
def ij (k:IntKind)(a b:Int):Int:=a.fdiv (2^(min b.toNat k.bits))
def shI (k:IntKind):BinOp->Int->Int->Option Int|.shl,a,b=>some (iShl k a b)|.shr,a,b=>some (ij k a b)|_,_,_=>none
theorem Fj {P:Program}{w:World}{op:BinOp}{t:TypeId}{k:IntKind}{a b c:Int}(h:K0 k op a b=some c) :
  (binOp op t (.int k a) (.int k b)).run P w=.ok (.int k c) w:=by
 cases op <;> simp only [K0,aq,reduceCtorEq] at h <;> subst h <;> simp [binOp,Op.intBits,iz,iOr,iXor,DT]
theorem GO {P:Program}{w:World}{op:BinOp}{t:TypeId}{k k':IntKind}{a b c:Int}(hb:0<=b)(h:shI k op a b=some c) :
  (binOp op t (.int k a) (.int k' b)).run P w=.ok (.int k c) w:=by
 have hb':¬ b<0:=by omega
 cases op <;> simp only [shI,aq,reduceCtorEq] at h <;> subst h <;> simp [binOp,Op.shift,hb',iShl,ij]
section
variable {C:Cx} {o:Oper} {K:AS->Prop} {sl:List (Nat×AV)} {ob:List (Nat×List AV)} {d:Nat}
theorem LW {op:BinOp}{t t':TypeId}{x y:Operand}{k:IntKind}{a b c:Int}(ho:o.op=.binOp op t x y t')(hd:o.dst=some d)(hn:Nat.blt d C.n=true)
  (hx:evo sl x=some (.p (.val (.int k a)))) (hy:evo sl y=some (.p (.val (.int k b)))) (hc:K0 k op a b=some c)
  (hK:K ⟨(d,.p (.val (.int k c)))::sl,ob⟩):aX C o K ⟨sl,ob⟩ :=
 ok_one hd hn (λ g a w hs=>⟨_,by
  simp only [execOp,ho,co hs hx,co hs hy,Sem.run_bind,lA,Result.andThen_ok,Fj hc,Sem.run_pure],.p (.val _)⟩) hK
theorem xE {op:BinOp}{t t':TypeId}{x y:Operand}{k k':IntKind}{a b c:Int}(ho:o.op=.binOp op t x y t')(hd:o.dst=some d)(hn:Nat.blt d C.n=true)
  (hx:evo sl x=some (.p (.val (.int k a)))) (hy:evo sl y=some (.p (.val (.int k' b)))) (hc:shI k op a b=some c) (hb:0<=b)
  (hK:K ⟨(d,.p (.val (.int k c)))::sl,ob⟩):aX C o K ⟨sl,ob⟩ :=
 ok_one hd hn (λ g a w hs=>⟨_,by
  simp only [execOp,ho,co hs hx,co hs hy,Sem.run_bind,lA,Result.andThen_ok,GO hb hc,Sem.run_pure],.p (.val _)⟩) hK
end
def eqC:Option PV->Option PV->Prop|some (.val (.int _ a)),some (.val (.int _ b))=>a=b|some (.val (.bool a)),some (.val (.bool b))=>a=b|some (.val (.string a)),some (.val (.string b))=>a.data.toList=b.data.toList|_,_=>False
def eqF (cs ds:List PV):List (Nat×Nat)->Prop|[]=>True|[f]=>eqC cs[f.1]? ds[f.1]?|f::g::r=>eqC cs[f.1]? ds[f.1]?/\eqF cs ds (g::r)
def C7 (k:Option TI)(x y:Option PV):Bool:=match k,x,y with
 | some ⟨.int q,_,_,_⟩,some (.val (.int k _)),some (.val (.int k' _))=>(q==k)&&(q==k')
 | some ⟨.bool,_,_,_⟩,some (.val (.bool _)),some (.val (.bool _))=>true
 | some ⟨.string,_,_,_⟩,some (.val (.string _)),some (.val (.string _))=>true
 | _,_,_=>false
def yu (tt:List (Nat×TI))(cs ds:List PV):List (Nat×Nat)->Bool|[]=>true|f::r=>C7 (look tt f.2) cs[f.1]? ds[f.1]?&&yu tt cs ds r
def uO:List Field->Bool
 | []=>true
 | f::r=>f.name != "_" && uO r
def eqOk (P:Program)(t:TypeId):Bool:=uO (P.fieldsOf t).toList&&!P.stoodInHeld t&&!P.eqGuardType P.depth t
theorem nS {P:Program}{tt:List (Nat×TI)}(good:dA P tt){t:Nat}{i:TI}(h:look tt t=some i)(ha:i.k.isAgg=false){cs:Array Value}{off:Nat}{v:Value}(hv:cs[off]? = some v)(w:World) :
  (part t cs off).run P w=.ok v w:=by
 simp [part,mg good h,ha,hv]
theorem mb {w:World}{st:Nat->Nat->Prop}{cs:List PV}{vs:Array Value}(h:PRep w st (.agg cs) (.agg vs)){j:Nat}{u:Value}(hc:cs[j]? = some (.val u)):vs[j]? = some u:=by
 cases h with
 | agg hl h=>
  have hj:j<vs.size:=by
   rw [hl];exact (List.getElem?_eq_some_iff.1 hc).1
  have h1:=h j _ _ hc (Array.getElem?_eq_getElem hj)
  cases h1
  exact Array.getElem?_eq_getElem hj
theorem zL {P:Program}{tt:List (Nat×TI)}(good:dA P tt){w:World}{st:Nat->Nat->Prop}{cs ds:List PV}{xs ys:Array Value}(hx:PRep w st (.agg cs) (.agg xs))(hy:PRep w st (.agg ds) (.agg ys)){t off:Nat}
  (h:C7 (look tt t) cs[off]? ds[off]? = true) (d:Nat):∃ a b r,(part t xs off).run P w=.ok a w/\(part t ys off).run P w=.ok b w/\(Op.equalIn (d+1) t a b).run P w=.ok r w/\(r=true↔eqC cs[off]? ds[off]?):=by
 unfold C7 at h;split at h
 ·rename_i q s z l k u k' u' hl hc hd;simp only [n8,beq_iff_eq] at h;obtain ⟨rfl,rfl⟩:=h;obtain ⟨ud,h1,h2⟩:=bA good hl;have h3:=pF h2;subst h3;refine ⟨_,_,_,nS good hl rfl (mb hx hc) w,nS good hl rfl (mb hy hd) w,run_equalIn_int w d t _ _ u u' h1,?_⟩;rw [hc,hd];exact beq_iff_eq
 ·rename_i s z l u u' hl hc hd;obtain ⟨ud,h1,h2⟩:=bA good hl;have h3:=qz h2;subst h3;refine ⟨_,_,_,nS good hl rfl (mb hx hc) w,nS good hl rfl (mb hy hd) w,run_equalIn_bool' w d t u u' h1,?_⟩;rw [hc,hd];exact beq_iff_eq
 ·rename_i s z l u u' hl hc hd;obtain ⟨ud,h1,h2⟩:=bA good hl;have h3:=gW h2;subst h3;refine ⟨_,_,_,nS good hl rfl (mb hx hc) w,nS good hl rfl (mb hy hd) w,run_equalIn_string w d t u u' h1,?_⟩;rw [hc,hd];simp only [eqC,beq_iff_eq,ByteArray.toList_eq]
 ·cases h
theorem Ek {P:Program}{tt:List (Nat×TI)}(good:dA P tt){w:World}{st:Nat->Nat->Prop}{cs ds:List PV}{xs ys:Array Value}(hx:PRep w st (.agg cs) (.agg xs))(hy:PRep w st (.agg ds) (.agg ys))(d:Nat) :
  ∀ fs:List Field,uO fs=true->yu tt cs ds (fs.map λ f=>(f.offset,f.type))=true ->
   ∃ r,(Op.eqFields (d+1) xs ys fs).run P w=.ok r w/\(r=true↔eqF cs ds (fs.map λ f=>(f.offset,f.type)))
 | [],_,_=>⟨true,Z,by simp [eqF]⟩
 | f::r,hn,hp=>by
  simp only [uO,n8,bne_iff_ne,ne_eq] at hn;simp only [dg,yu,n8] at hp;obtain ⟨a,b,r1,e1,e2,e3,e4⟩:=zL good hx hy hp.1 d;obtain ⟨r2,e5,e6⟩:=Ek good hx hy d r hn.2 hp.2
  cases r1 with
  | false=>
   refine ⟨false,by simp [Op.eqFields,hn.1,e1,e2,e3],?_⟩;have:¬ eqC cs[f.offset]? ds[f.offset]?:=λ h=>by cases e4.2 h
   exact Fu
  | true=>
   refine ⟨r2,by simp [Op.eqFields,hn.1,e1,e2,e3,e5],?_⟩;rw [e6];have:=e4.1 rfl;exact Fu
theorem BI {C:Cx}{o:Oper}{K:AS->Prop}{sl:List (Nat×AV)}{ob:List (Nat×List AV)}{d:Nat}{op:BinOp}{t t':TypeId}{x y:Operand}{cs ds:List PV}{i:TI}{fs:List (Nat×Nat)}{r:Bool}(p:Prop) [Decidable p]
  (ho:o.op=.binOp op t x y t') (hd:o.dst=some d) (hn:Nat.blt d C.n=true) (hi:look C.tt t=some i) (N4:i.k=.struct fs) (hx:evo sl x=some (.p (.agg cs))) (hy:evo sl y=some (.p (.agg ds)))
  (hok:eqOk C.P t=true) (hpl:yu C.tt cs ds fs=true) (hp:p=eqF cs ds fs) (hop:op=.eql/\r=decide p\/op=.neq/\r=!decide p)
  (hK:K ⟨(d,.p (.val (.bool r)))::sl,ob⟩):aX C o K ⟨sl,ob⟩:=by
 subst hp;obtain ⟨u,h1,h2⟩:=bA C.good hi;obtain ⟨fa,rfl,h3⟩:=iA (h2.trans N4);have hfo:C.P.fieldsOf t=fa:=by unfold Program.fieldsOf; rw [h1]
 simp only [eqOk,n8,Bool.not_eq_true',hfo] at hok;refine ok_one hd hn (λ g a w hs=>?_) hK;have hxr:=bv hs hx;have hyr:=bv hs hy
 cases hxr with
 | p hxr=>
  cases hyr with
  | p hyr=>
   generalize hxv:a.eval x=vx at hxr;generalize hyv:a.eval y=vy at hyr
   cases hxr with
   | @agg _ xs hl1 hh1=>
    cases hyr with
    | @agg _ ys hl2 hh2=>
     obtain ⟨rr,e1,e2⟩:=Ek C.good (.agg hl1 hh1) (.agg hl2 hh2) 9998 fa.toList hok.1.1 (by rw [h3]; exact hpl);rw [h3] at e2;have e3:=run_equalIn_struct w 9999 t xs ys (by rw [hfo]; exact h1) hok.1.2;rw [hfo] at e3
     have hrr:rr=decide (eqF cs ds fs):=by
      cases rr with
      | true=>exact (decide_eq_true (e2.1 Z)).symm
      | false=>exact (decide_eq_false (λ h=>by cases e2.2 h)).symm
     rcases hop with ⟨rfl,rfl⟩|⟨rfl,rfl⟩
     ·refine ⟨_,?_,.p (.val _)⟩;simp only [execOp,ho,hxv,hyv,Sem.run_bind,run_eqGuard_agg w _ t x y xs ys hok.2,Result.andThen_ok,run_eql_struct,e3,e1,Sem.run_pure,hrr]
     ·refine ⟨_,?_,.p (.val _)⟩;simp only [execOp,ho,hxv,hyv,Sem.run_bind,run_eqGuard_agg w _ t x y xs ys hok.2,Result.andThen_ok,run_neq_struct,e3,e1,Sem.run_pure,hrr]
theorem Dt {q:Prop}{b:Bool}(h1:b=true->q)(h2:b=false->q):q:=by cases b with|true=>exact h1 rfl|false=>exact h2 rfl
def eU (b:UInt8):PV:=.val (.int .u8 (b.toNat:Int))
def u8 (n:Int):UInt8:=UInt8.ofNat n.toNat
theorem qO {n:Int}(h:(0:Int)<=n/\n<256):eK .u8 n=eU (u8 n):=by
 unfold eK eU u8
 have:(((UInt8.ofNat n.toNat).toNat:Nat):Int)=n:=by
  rw [UInt8.toNat_ofNat',Nat.mod_eq_of_lt O]; omega
 rw [this]
section
variable {C:Cx} {o:Oper} {K:AS->Prop} {sl:List (Nat×AV)} {ob:List (Nat×List AV)} {d:Nat}
def eE (b:Bool):PV:=bif b then .ifc else .val .nilIface
theorem Mw (b:Bool):AV.toPV (.p (eE b))=some (eE b):=by cases b <;> rfl
theorem BM:AV.settle.go []=some []:=rfl
theorem tX {x:AV}{y:PV}{r l:List AV}(h:x.toPV=some y)(h':AV.settle.go r=some l):AV.settle.go (x::r)=some (.p y::l):=by simp only [AV.settle.go,h,h']
theorem ES {l l':List AV}(h:AV.settle.go l=some l'):AV.settle (.tuple l)=some (.tuple l'):=by simp only [AV.settle,h]
theorem Be {u:TypeDesc}(h:kindOf u=.iface):∃ ms,u=.interface ms:=by cases u <;> simp [kindOf] at h; exact ⟨_,rfl⟩
theorem sw {P:Program}{t:TypeId}{ms:Array (String×TypeId)}(h:P.underlying t=some (.interface ms))(w:World):(Op.equal t .nilIface .nilIface).run P w=.ok true w:=by
 have:∀ d,(Op.equalIn (d+1) t .nilIface .nilIface).run P w=.ok true w:=λ d=>by simp [Op.equalIn,run_underlying h]
 exact this 9999
theorem tu {P:Program}{t:TypeId}{ms:Array (String×TypeId)}(h:P.underlying t=some (.interface ms))(w:World)(t':TypeId)(v:Value):(Op.equal t (.iface t' v) .nilIface).run P w=.ok false w:=by
 have:∀ d,(Op.equalIn (d+1) t (.iface t' v) .nilIface).run P w=.ok false w:=λ d=>by simp [Op.equalIn,run_underlying h]
 exact this 9999
theorem Mo {op:BinOp}{t t':TypeId}{x:Operand}{b c:Bool}{i:TI}(ho:o.op=.binOp op t x (.const .nilIface) t')(hd:o.dst=some d)(hn:Nat.blt d C.n=true)
  (hi:look C.tt t=some i) (N4:i.k=.iface)
  (hx:evo sl x=some (.p (eE b))) (hc:(op=.eql/\c=!b)\/(op=.neq/\c=b))
  (hK:K ⟨(d,.p (eB c))::sl,ob⟩):aX C o K ⟨sl,ob⟩:=by
 obtain ⟨u,h1,h2⟩:=bA C.good hi;obtain ⟨ms,rfl⟩:=Be (h2.trans N4);refine ok_one hd hn (λ g a w hs=>⟨.bool c,?_,.p (.val _)⟩) hK;have hr:=bv hs hx;generalize hv:a.eval x=v at hr;have hcn:a.eval (.const .nilIface)=.nilIface:=rfl
 cases b with
 | true=>
  cases hr with
  | p h=>
   cases h with
   | ifc t2 v2=>rcases hc with ⟨rfl,rfl⟩|⟨rfl,rfl⟩ <;> simp [execOp,ho,hv,hcn,eqGuard,binOp,tu h1]
 | false=>
  cases hr with
  | p h=>
   cases h with
   | val=>rcases hc with ⟨rfl,rfl⟩|⟨rfl,rfl⟩ <;> simp [execOp,ho,hv,hcn,eqGuard,binOp,sw h1]
theorem JW {st dt:TypeId}{x:Operand}{k k':IntKind}{a:Int}{i j:TI}(ho:o.op=.convert st dt x)(hd:o.dst=some d)(hn:Nat.blt d C.n=true)
  (hi:look C.tt st=some i) (N4:i.k=.int k') (hj:look C.tt dt=some j) (hjk:j.k=.int k) (hx:evo sl x=some (.p (.val (.int k' a))))
  (hK:K ⟨(d,.p (.val (.int k (k.wrap a))))::sl,ob⟩):aX C o K ⟨sl,ob⟩:=by
 obtain ⟨u,h1,h2⟩:=bA C.good hj;have h3:=pF (h2.trans hjk);obtain ⟨u',h1',h2'⟩:=bA C.good hi;have h3':=pF (h2'.trans N4);subst h3 h3';exact ok_one hd hn (λ g b w hs=>⟨_,by simp [execOp,ho,co hs hx,convert,run_underlying h1,run_underlying h1',Conv.intToInt],.p (.val _)⟩) hK
end
theorem rl {u:TypeDesc}{n e:Nat}(h:kindOf u=.array n e):u=.array n e:=by cases u <;> simp [kindOf] at h; obtain ⟨rfl,rfl⟩:=h; rfl
section
variable {C:Cx} {o:Oper} {K:AS->Prop} {sl:List (Nat×AV)} {ob:List (Nat×List AV)} {d:Nat}
theorem AL {t m e:Nat}{parts:Array (Nat×Operand)}{i ie:TI}{ps:List (Nat×AV)}{cs:List AV}{y:AV}(ho:o.op=.build t parts)(hd:o.dst=some d)(hn:Nat.blt d C.n=true)
  (hi:look C.tt t=some i) (N4:i.k=.array m e) (hie:look C.tt e=some ie) (hps:fU sl parts.toList=some ps) (hf:tV (λ (k:Nat)=>some (k*ie.size,ie.size)) (fT i) ps=some cs) (hy:some (lq cs)=some y)
  (hK:K ⟨(d,y)::sl,ob⟩):aX C o K ⟨sl,ob⟩:=by
 cases hy
 obtain ⟨u,h1,h2⟩:=bA C.good hi;have h3:=rl (h2.trans N4);subst h3;refine ok_one hd hn (λ g a w hs=>?_) hK;obtain ⟨z,hz1,hz2⟩:=jI C.good hi w;obtain ⟨q1,q2⟩:=pG hs _ ps hps
 obtain ⟨c',f1,f2,f3⟩:=sN (place:=λ (k:Nat)=>some (k*ie.size,ie.size)) ps (parts.toList.map λ p=>(p.1,a.eval p.2)) (fT i) cs z.cells q1 q2 (by simp [fT,<- hz2]) (λ k x v hx hv=>by
  simp only [fT,List.getElem?_map,mv,<- hz2,Array.getElem?_toList] at hx;obtain ⟨u,hu,rfl⟩:=hx;rw [hv] at hu; cases hu
  exact .p (.val _)) hf
 refine ⟨.agg c',?_,qe f2 f3⟩;have e1:(parts.map λ (i,x)=>(i,a.eval x)).toList=parts.toList.map λ p=>(p.1,a.eval p.2):=by rw [Array.toList_map]
 simp only [execOp,ho,Instr.build,Sem.run_bind,hz1,Result.andThen_ok,run_underlying h1,run_sizeOf C.good hie,e1,f1,Sem.run_pure]
theorem gp {t m e:Nat}{x y:Operand}{i ie:TI}{k:IntKind}{n:Int}{id q:Nat}(ho:o.op=.indexAddr t x y)(hd:o.dst=some d)(hn:Nat.blt d C.n=true)
  (hi:look C.tt t=some i) (N4:i.k=.array m e) (hie:look C.tt e=some ie) (hx:evo sl x=some (.ptr id q))
  (hy:evo sl y=some (.p (.val (.int k n)))) (hb:0<=n/\n<m)
  (hK:K ⟨(d,.ptr id (q+n.toNat*ie.size))::sl,ob⟩):aX C o K ⟨sl,ob⟩:=by
 obtain ⟨u,h1,h2⟩:=bA C.good hi;have h3:=rl (h2.trans N4);subst h3;refine ok_one hd hn (λ g a w hs=>?_) hK;have h5:=bv hs hx;generalize hv:a.eval x=v at h5
 cases h5 with
 | ptr how=>
  rename_i b;exact ⟨.pointer (some ⟨b,q+n.toNat*ie.size,none⟩),by simp [execOp,ho,hv,co hs hy,Instr.indexAt,Instr.sureAddr,asIntOf,run_underlying h1,hb.1,hb.2,run_sizeOf C.good hie,add_lit],.ptr how⟩
theorem dd {t m e:Nat}{x y:Operand}{i ie:TI}{k:IntKind}{n:Int}{id:Nat}(ho:o.op=.indexAddr t x y)(hd:o.dst=some d)(hn:Nat.blt d C.n=true)
  (hi:look C.tt t=some i) (N4:i.k=.array m e) (hie:look C.tt e=some ie) (hs1:ie.size=1) (hx:evo sl x=some (.ptr id 0))
  (hy:evo sl y=some (.p (.val (.int k n)))) (hb:0<=n/\n<m)
  (hK:K ⟨(d,.ptr id n.toNat)::sl,ob⟩):aX C o K ⟨sl,ob⟩ :=
 gp ho hd hn hi N4 hie hx hy hb (by rw [hs1,Nat.mul_one,sm]; exact hK)
end
theorem I5 (h:p:=by
 by_cases h:p
 ·simpa only [if_pos h] using h1 h
 ·simpa only [if_neg h] using h2 h):p:=h
theorem eM {c:Int}(h1:-9223372036854775808<=c)(h2:c<=9223372036854775807):inR c:=⟨h1,h2⟩
theorem jO (l:Bk)(k:Nat):byt l (k:Int)=((l.getD k 0).toNat:Int):=rfl
theorem zl {α:Type} [Inhabited α] (l:List α)(k:Nat):lat l (k:Int)=l.getD k default:=rfl
theorem sf {α:Type}(l:List α)(i j:Nat):sub l (i:Int) (j:Int)=(l.take j).drop i:=rfl
theorem kG {α:Type}(l:List α)(i:Int):sub l i (l.length:Int)=l.drop i.toNat:=by
 show (l.take (l.length:Int).toNat).drop i.toNat=_;rw [Int.toNat_natCast,List.take_length]
theorem D5 {α β:Type}(v:α)(k:α->Option β):(some v).bind k=k v:=rfl
end Go.Ab
namespace Go.Ab
def Ev2 {α:Type}(f:Nat->Nat->Option α)(P:α->Prop):Prop:=∃ r,P r/\∃ N,∀ n m,N<=n->N<=m->f n m=some r
section
variable {α β γ:Type} {P:α->Prop} {Q:β->Prop}
theorem ae {r:α}(h:P r):Ev2 (λ _ _=>some r) P:=⟨r,h,0,λ _ _ _ _=>rfl⟩
theorem aE {p:Prop} [Decidable p] {f:Nat->Nat->Option α}(hp:p)(h:Ev2 f P):Ev2 (λ n m=>ck p (f n m)) P:=by
 obtain ⟨r,h1,N,h2⟩:=h;exact ⟨r,h1,N,λ n m hn hm=>(jW hp).trans (h2 n m hn hm)⟩
theorem aR {p:Prop} [Decidable p] {f g:Nat->Nat->Option α}(h1:p->Ev2 f P)(h2:¬p->Ev2 g P):Ev2 (λ n m=>if p then f n m else g n m) P:=by
 exact I5
theorem ay {p:Prop} [Decidable p] {f g:Nat->Nat->Option α}(hp:p)(h:Ev2 f P):Ev2 (λ n m=>if p then f n m else g n m) P:=aR (λ _=>h) (λ k=>absurd hp k)
theorem ax {p:Prop} [Decidable p] {f g:Nat->Nat->Option α}(hp:¬p)(h:Ev2 g P):Ev2 (λ n m=>if p then f n m else g n m) P:=aR (λ k=>absurd k hp) (λ _=>h)
theorem bZ {f:Nat->Nat->Option α}{P':α->Prop}(h:Ev2 f P)(hp:∀ r,P r->P' r):Ev2 f P':=by
 obtain ⟨r,h1,h2⟩:=h;exact ⟨r,hp r h1,h2⟩
theorem Ku {g:Nat->Nat->Option β}{k:Nat->Nat->β->Option α}(h:Ev2 g (λ x=>Ev2 (λ n m=>k n m x) P)):Ev2 (λ n m=>(g n m).bind (k n m)) P:=by
 obtain ⟨x,⟨r,h1,N,h2⟩,M,h3⟩:=h;exact ⟨r,h1,N+M,λ n m hn hm=>(congrArg (λ o=>Option.bind o (k n m)) (h3 n m O O)).trans (h2 n m O O)⟩
theorem am {g:Nat->Nat->Option β}{k:Nat->Nat->β->Option α}(Q:β->Prop)(h:Ev2 g Q)(hk:∀ x,Q x->Ev2 (λ n m=>k n m x) P):Ev2 (λ n m=>(g n m).bind (k n m)) P :=
 Ku (bZ h hk)
theorem dH {g:Nat->Nat->Option (β⊕α)}{k:Nat->Nat->β->Option α}(h:Ev2 g (λ s=>match s with|.inl x=>Ev2 (λ n m=>k n m x) P|.inr y=>P y)):Ev2 (λ n m=>jn (g n m) (k n m)) P:=by
 obtain ⟨s,h1,M,h3⟩:=h
 cases s with
 | inl x=>
  obtain ⟨r,h1,N,h2⟩:=h1;exact ⟨r,h1,N+M,λ n m hn hm=>(congrArg (λ o=>jn o (k n m)) (h3 n m O O)).trans (h2 n m O O)⟩
 | inr y=>exact ⟨y,h1,M,λ n m hn hm=>(congrArg (λ o=>jn o (k n m)) (h3 n m hn hm)).trans Z⟩
theorem ik {g:Nat->Nat->Option (β⊕α)}{k:Nat->Nat->β->Option α}(x:β)(h:Ev2 g (·=.inl x))(hk:Ev2 (λ n m=>k n m x) P):Ev2 (λ n m=>jn (g n m) (k n m)) P :=
 dH (bZ h λ r hr=>by subst hr; exact hk)
theorem kF {g:Nat->Nat->Option (β⊕α)}{k:Nat->Nat->β->Option α}(y:α)(h:Ev2 g (·=.inr y))(hy:P y):Ev2 (λ n m=>jn (g n m) (k n m)) P :=
 dH (bZ h λ r hr=>by subst hr; exact hy)
theorem cz {f:Nat->Option α}(h:Ev2 (λ n _=>f (n+1)) P):Ev2 (λ n _=>f n) P:=by
 obtain ⟨r,h1,N,h2⟩:=h;refine ⟨r,h1,N+1,λ n m hn hm=>?_⟩;obtain ⟨n,rfl⟩:∃ k,n=k+1:=⟨n-1,by omega⟩
 exact h2 n n O O
theorem bc {f:Nat->Nat->Option α}(h:Ev2 (λ n m=>f n (m+1)) P):Ev2 f P:=by
 obtain ⟨r,h1,N,h2⟩:=h;refine ⟨r,h1,N+1,λ n m hn hm=>?_⟩;obtain ⟨m,rfl⟩:∃ k,m=k+1:=⟨m-1,by omega⟩
 exact h2 n m O O
theorem cp {f:Nat->Nat->Option α}(h:Ev2 f P):Ev2 (λ n _=>f n n) P:=by
 obtain ⟨r,h1,N,h2⟩:=h;exact ⟨r,h1,N,λ n _ hn _=>h2 n n hn hn⟩
theorem Mf {f:Nat->Option α}(h:Ev2 (λ n _=>f n) P):∃ n r,f n=some r/\P r:=by
 obtain ⟨r,h1,N,h2⟩:=h;exact ⟨N,r,h2 N N (bt _) (bt _),h1⟩
theorem aT {o:Option α}{r:α}(h:o=some r)(hp:P r):Ev2 (λ _ _=>o) P:=⟨r,hp,0,λ _ _ _ _=>h⟩
theorem Nz {f:Nat->Nat->Option α}{r:α}(h:Ev2 f (·=r))(hp:P r):Ev2 f P:=bZ h λ _ e=>e ▸ hp
theorem JB {f:Nat->Nat->Option α}(h:Ev2 f P):∃ r,P r/\Ev2 f (·=r):=by
 obtain ⟨r,h1,N,h2⟩:=h;exact ⟨r,h1,r,rfl,N,h2⟩
end
theorem LX {i:Int}{l:Nat}(h:0<=i/\i<(l:Int)):∃ k:Nat,i=k/\k<l:=⟨i.toNat,by omega,by omega⟩
theorem qq {α:Type} [Inhabited α] (l:List α)(k:Nat)(h:k<l.length):lat l (k:Int)=l[k]:=by
 rw [zl,List.getD_eq_getElem?_getD,List.getElem?_eq_getElem h]; rfl
theorem zg {α:Type} [Inhabited α] {l:List α}{i:Int}(h:0<=i/\i<(l.length:Int)):lat l i∈l:=by
 obtain ⟨k,rfl,hk⟩:=LX h;rw [qq l k hk]; exact List.getElem_mem hk
variable {p:Prop}
theorem Bz (h:p:=by
 subst e;simp only [AV.mapA] at h
 cases hl:AV.mapA.go (λ _=>none) cs with
 | none=>rw [hl] at h; cases h
 | some l=>rw [hl] at h; cases h; simp only [AV.dem]; exact congrArg _ (tg hl rfl)):p:=h
theorem oJ (h:p:=by
 exact pV (k:=k) h hM):p:=h
theorem FN (h:p:=by
 by_cases hp:p
 ·rw [decide_eq_true hp] at hT; exact mG (y6 hT) (h1 hp (KD hp h))
 ·rw [decide_eq_false hp] at hT; exact mG (y6 hT) (h2 hp (if_f hp h))):p:=h
theorem uP (h:p:=by exact pV (k:=k) h hM):p:=h
class UW (p:Prop) (q:outParam Prop):Prop where
 go:q->p
class UO (p:Prop) (b:outParam Bool) (q:outParam Prop):Prop where
 go:b=false->q->p
section
variable {K P:AS->Prop} {Q:Exit->AS->Prop} {s:AS} {id id':Nat}
instance:UW (rX K Q .ret s) (Q .ret s):=⟨ca⟩
instance:UW (rX K Q (.exit id) s) (Q (.exit id) s):=⟨bK⟩
instance:UW (kH id Q .ret s) (Q .ret s):=⟨bM⟩
instance:UW (kH id Q .normal s) (Q .normal s):=⟨a7⟩
instance:UW (kH id Q (.exit id) s) (Q .normal s):=⟨bo⟩
instance:UO (kH id Q (.exit id') s) (Nat.beq id' id) (Q (.exit id') s):=⟨bg⟩
instance:UW (noGoto Q .ret s) (Q .ret s):=⟨noGoto_ret⟩
instance:UW (noGoto Q (.exit id) s) (Q (.exit id) s):=⟨noGoto_exit⟩
instance:UW (noGoto Q .normal s) (Q .normal s):=⟨noGoto_normal⟩
instance:UW (exQ id P Q (.exit id) s) (P s):=⟨da⟩
instance:UO (exQ id P Q (.exit id') s) (Nat.beq id' id) (Q (.exit id') s):=⟨bY⟩
instance:UW (exQ id P Q .ret s) (Q .ret s):=⟨cU⟩
instance:UW (exQ id P Q .normal s) (Q .normal s):=⟨bJ⟩
end
theorem oi {α:Type}{a b:α}(h:some a=some b):a=b:=Option.some.inj h
theorem dt {p:Prop} [Decidable p] (h:p):decide p=true:=decide_eq_true h
theorem df {p:Prop} [Decidable p] (h:¬p):decide p=false:=decide_eq_false h
theorem sr {x:AV}:x.sub x:=AV.sub_refl x
theorem er {s:List (Nat×AV)}{j:Nat}{x:AV}(h:look s j=some x):∃ y,look s j=some y/\y.sub x:=⟨x,h,sr⟩
end Go.Ab
namespace Go.Ab
def Le {α:Type}(o o':Option α):Prop:=∀ r,o=some r->o'=some r
section
variable {α β:Type}
theorem aP (o:Option α):Le o o:=λ _ h=>h
end
end Go.Ab
namespace Go.Ab
open Go.RowKit
end Go.Ab
namespace Go.Ab
/- The steps that occur most,their closed facts by themselves. -/
end Go.Ab
namespace Go.Ab
section
variable {C:Cx} {ops:Array Oper} {K:AS->Prop} {sl base:List (Nat×AV)} {ob:List (Nat×List AV)} {r:List Oper} {o:Oper} {d k:Nat} {rev:Rev}
def mvX:Op->Option Operand|.move x=>some x|.assign x=>some x|_=>none
def mvF (n:Nat)(o:Oper)(sl:List (Nat×AV)):Option (Nat×AV) :=
 match mvX o.op with
 | some x=>(match o.dst with
  | some d=>bif Nat.blt d n then (match evo sl x with|some y=>some (d,y)|none=>none) else none
  | none=>none)
 | none=>none
def gdF (ops:Array Oper)(o:Oper)(sl:List (Nat×AV)):Option (Bool×AV) :=
 match o.guard with
 | some (j,w)=>(match (ops.toList[j]?).bind (·.dst) with
  | some t=>(match look sl t with|some x=>some (w,x)|none=>none)
  | none=>none)
 | none=>none
theorem yG {w:Bool}{x:AV}(h:gdF ops o sl=some (w,x)):∃ j t,o.guard=some (j,w)/\(ops.toList[j]?).bind (·.dst)=some t/\look sl t=some x:=by
 grind [gdF]
theorem gy {w b:Bool}(hb:b=w)(h:gdF ops o sl=some (w,.p (.val (.bool b))))(h1:aX C o (fV C ops r K) ⟨sl,ob⟩):fV C ops (o::r) K ⟨sl,ob⟩:=by
 grind [yG,wC]
def dsF (n:Nat)(o:Oper):Option Nat:=match o.dst with
 | some d=>bif Nat.blt d n then some d else none
 | none=>none
theorem oR {n:Nat}(h:dsF n o=some d):o.dst=some d/\Nat.blt d n=true:=by
 grind [dsF]
def knK:Rev->Nat->Option Nat|[],_=>none|(k,i,_)::r,j=>bif Nat.beq i j then some k else knK r j
def knX (base:List (Nat×AV))(o:Oper)(rev:Rev)(i:Nat):Option AV :=
 match look base i with
 | some x=>some x
 | none=>(match knK rev i with
  | some k=>bif (o.after.toList.any λ e=>Nat.beq e.on k&&Region.binds .any e) then (match wa rev k with
    | some (j,x)=>bif Nat.beq j i then some x else none
    | none=>none) else none
  | none=>none)
def Jf (base:List (Nat×AV))(o:Oper)(rev:Rev):List Nat->Option (List (Nat×AV))
 | []=>some []
 | i::r=>match knX base o rev i with
  | some x=>(match Jf base o rev r with|some l=>some ((i,x)::l)|none=>none)
  | none=>none
theorem Gs {i:Nat}{x:AV}(h:knX base o rev i=some x):look base i=some x\/∃ k,(o.after.toList.any λ e=>Nat.beq e.on k&&Region.binds .any e)=true/\wa rev k=some (i,x):=by
 grind [knX,Nat.eq_of_beq_eq_true]
theorem DZ:∀ {l:List Nat} {kn:List (Nat×AV)},Jf base o rev l=some kn->Fa base o rev kn
 | [],kn,h=>by cases h; trivial
 | i::l,kn,h=>by
  unfold Jf at h
  cases hx:knX base o rev i with
  | none=>grind
  | some x=>
   rw [hx] at h;simp only at h
   cases hr:Jf base o rev l with
   | none=>grind
   | some m=>rw [hr] at h; cases h; exact ⟨Gs hx,DZ hr⟩
def nwF (base:List (Nat×AV))(rev:Rev)(o:Oper):Option Nat:=match o.dst with
 | some d=>bif (rev.all λ p=>!(Nat.beq p.2.1 d)) then (match look base d with|none=>some d|some _=>none) else none
 | none=>none
theorem re (h:nwF base rev o=some d):o.dst=some d/\(rev.all λ p=>!(Nat.beq p.2.1 d))=true/\look base d=none:=by
 grind [nwF]
theorem dq {rest:List Oper}{kn:List (Nat×AV)}(x:AV)(l:List Nat)(hk:Jf base o rev l=some kn)(hs:ug C ops ob o kn d x)(hn:nwF base rev o=some d)(h:DQ C ops base ob K rest (k+1) ((k,d,x)::rev)):DQ C ops base ob K (o::rest) k rev :=
 Dn x kn (DZ hk) hs (re hn).1 (re hn).2.1 (re hn).2.2 h
theorem jV {kn:List (Nat×AV)}(hs:∀ i x,look kn i=some x->look sl i=some x){x:Operand}{y:AV}(h:evo kn x=some y):evo sl x=some y:=by
 cases x with
 | tmp t=>exact hs _ _ h
 | const v=>exact h
 | func f=>exact h
 | global g=>exact h
end
abbrev fa:=@aI
abbrev l1:=@bH
abbrev st:=@fe
abbrev cs:=@yq
abbrev cc:=@sY
abbrev sq:=@dC
abbrev gl:=@cG
end Go.Ab
namespace Go.Ab
inductive Fr where
 | sq (y:Code)
 | bk (id:Nat)
 | ng
 | jo (P:AS->Prop)
 | je (id:Nat) (P:AS->Prop)
inductive Ct where
 | cd (c:Code)
 | op (ops:Array Oper) (r:List Oper)
 | ex (e:Exit)
structure Cf where
 c:Ct
 k:List Fr
 s:AS
def dn (C:Cx)(Q:Exit->AS->Prop):List Fr->Exit->AS->Prop|[]=>λ e s=>∃ t,cv C s t/\Q e t|.sq y::k=>rX (awp C y (dn C Q k)) (dn C Q k)|.bk id::k=>kH id (dn C Q k)|.ng::k=>noGoto (dn C Q k)|.jo P::k=>rX (λ s=>∃ t,cv C s t/\P t) (dn C Q k)|.je id P::k=>exQ id (λ s=>∃ t,cv C s t/\P t) (dn C Q k)
def M (C:Cx)(Q:Exit->AS->Prop):Cf->Prop|⟨.cd c,k,s⟩=>awp C c (dn C Q k) s|⟨.op ops r,k,s⟩=>fV C ops r (dn C Q k .normal) s|⟨.ex e,k,s⟩=>dn C Q k e s
def pop:List Fr->Exit->AS->Option Cf
 | [],e,s=>some ⟨.ex e,[],s⟩
 | .sq y::k,.normal,s=>some ⟨.cd y,k,s⟩
 | .sq _::k,.exit i,s=>pop k (.exit i) s
 | .sq _::k,.ret,s=>pop k .ret s
 | .bk _::k,.normal,s=>pop k .normal s
 | .bk id::k,.exit i,s=>(match Nat.beq i id with|true=>pop k .normal s|false=>pop k (.exit i) s)
 | .bk _::k,.ret,s=>pop k .ret s
 | .ng::k,.normal,s=>pop k .normal s
 | .ng::k,.exit i,s=>pop k (.exit i) s
 | .ng::k,.ret,s=>pop k .ret s
 | .jo P::k,.normal,s=>some ⟨.ex .normal,.jo P::k,s⟩
 | .jo _::k,.exit i,s=>pop k (.exit i) s
 | .jo _::k,.ret,s=>pop k .ret s
 | .je _ _::k,.normal,s=>pop k .normal s
 | .je id P::k,.exit i,s=>(match Nat.beq i id with|true=>some ⟨.ex (.exit i),.je id P::k,s⟩|false=>pop k (.exit i) s)
 | .je _ _::k,.ret,s=>pop k .ret s
 | _,_,_=>none
section
variable {C:Cx} {Q:Exit->AS->Prop} {ops:Array Oper} {K:AS->Prop} {sl:List (Nat×AV)} {ob:List (Nat×List AV)} {r:List Oper} {o:Oper} {d:Nat} {s s':AS} {k:List Fr}
theorem pV:∀ {k:List Fr} {e:Exit} {c:Cf},pop k e s=some c->M C Q c->dn C Q k e s
 | [],e,c,h,hM=>by simp only [pop,aq] at h; subst h; exact hM
 | .sq y::k,e,c,h,hM=>by
  cases e <;> simp only [pop,aq,reduceCtorEq] at h
  ·subst h; exact hM
  ·exact oJ
  ·exact oJ
 | .bk id::k,e,c,h,hM=>by
  cases e <;> simp only [pop,reduceCtorEq] at h
  ·exact oJ
  ·rename_i i;split at h
   ·rename_i hb;rw [bx hb];exact bo uP
   ·rename_i hb; exact bg hb uP
  ·exact oJ
 | .ng::k,e,c,h,hM=>by
  cases e <;> simp only [pop,reduceCtorEq] at h
  ·exact oJ
  ·exact oJ
  ·exact oJ
 | .jo P::k,e,c,h,hM=>by
  cases e <;> simp only [pop,aq,reduceCtorEq] at h
  ·subst h; exact hM
  ·exact oJ
  ·exact oJ
 | .je id P::k,e,c,h,hM=>by
  cases e <;> simp only [pop,reduceCtorEq] at h
  ·exact bJ uP
  ·rename_i i;split at h
   ·rename_i hb
    cases h; exact hM
   ·rename_i hb; exact bY hb uP
  ·exact cU uP
def zH (C:Cx)(o:Oper):AS->AV->Option AS
 | ⟨sl,ob⟩,y=>match o.dst with
  | some d=>(match Nat.blt d C.n with|true=>some ⟨(d,y)::sl,ob⟩|false=>none)
  | none=>none
theorem zj {y:AV}(h:zH C o ⟨sl,ob⟩ y=some s'):∃ d,o.dst=some d/\Nat.blt d C.n=true/\s'=⟨(d,y)::sl,ob⟩:=by
 grind [zH]
def ikE (a b:IntKind):Bool:=Nat.beq a.ctorIdx b.ctorIdx
theorem FR {a b:IntKind}(h:ikE a b=true):a=b:=by cases a <;> cases b <;> first|rfl|cases h
def pkP (sl:List (Nat×AV))(x y:Operand):Option AV->Option AV|some (.p (.val (.bool true)))=>evo sl x|some (.p (.val (.bool false)))=>evo sl y|_=>none
def bnP (C:Cx)(op:BinOp)(t:TypeId):Option AV->Option AV->Option AV
 | some (.p (.val (.int k a))),some (.p (.val (.int k' b)))=>(match ikE k' k with
  | true=>(match Lq op a b with
   | some c=>some (.p (.val (.bool c)))
   | none=>(match K0 k op a b with
    | some c=>some (.p (.val (.int k c)))
    | none=>(match ikE k .i64 with
     | true=>none
     | false=>(match arI op a b with
      | some c=>some (.p (.val (.int k (k.wrap c))))
      | none=>none))))
  | false=>none)
 | some (.p (.val (.bool a))),some (.p (.val (.bool b)))=>(match look C.tt t with
  | some i=>(match i.k with
   | .bool=>(match MJ op a b with|some c=>some (.p (.val (.bool c)))|none=>none)
   | _=>none)
  | none=>none)
 | _,_=>none
def faP (C:Cx)(t f:Nat)(X:Option AV):Option AV:=match look C.tt t with
 | some i=>(match i.k with
  | .struct fs=>(match fs[f]? with
   | some (off,ft)=>(match look C.tt ft with
    | some j=>(match Nat.beq j.size 0 with
     | false=>(match X with
      | some (.ptr id k)=>some (.ptr id (k+off))
      | some (.rptr cs)=>some (.rptr (cs.drop off))
      | _=>none)
     | true=>none)
    | none=>none)
   | none=>none)
  | _=>none)
 | none=>none
def ldP (C:Cx)(ob:List (Nat×List AV))(t:Nat)(X:Option AV):Option AV:=match look C.tt t with
 | some i=>(match X with
  | some (.ptr id k)=>(match look ob id with
   | some cs=>(match i.k.isAgg with
    | false=>cs[k]?
    | true=>(match Nat.ble (k+i.size) cs.length with
     | true=>(match lq ((cs.drop k).take i.size) with
      | .p y=>some (.p y)
      | .agg l=>some (.agg l)
      | _=>none)
     | false=>none))
   | none=>none)
  | some (.rptr cs)=>(match i.k.isAgg with
   | false=>(match cs.head? with|some y=>some (.p y)|none=>none)
   | true=>(match Nat.ble i.size cs.length with
    | true=>some (.p (.agg (cs.take i.size)))
    | false=>none))
  | _=>none)
 | none=>none
def nrm {α:Type}:List α->Option (List α)
 | []=>some []
 | x::r=>(match nrm r with|some l=>some (x::l)|none=>none)
theorem ti {α:Type}:∀ {l l':List α},nrm l=some l'->l'=l
 | [],l',h=>by cases h; rfl
 | x::r,l',h=>by
  unfold nrm at h;split at h
  ·rename_i m hm; cases h; rw [ti hm]
  ·cases h
def stP (C:Cx)(o:Oper)(sl:List (Nat×AV))(ob:List (Nat×List AV))(t:Nat)(x v:Operand):Option AS:=match o.dst with
 | none=>(match look C.tt t with
  | some i=>(match evo sl x with
   | some (.ptr id k)=>(match evo sl v with
    | some y=>(match y.cellsA with
     | some xs=>(match Nat.beq xs.length i.size with
      | true=>(match look ob id with
       | some cs=>(match Nat.ble (k+xs.length) cs.length with
        | true=>(match nrm (mV cs k xs) with
         | some ds=>some ⟨sl,(id,ds)::ob⟩
         | none=>none)
        | false=>none)
       | none=>none)
      | false=>none)
     | none=>none)
    | none=>none)
   | _=>none)
  | none=>none)
 | some _=>none
def frc:AV->Option AV|.undef=>some .undef|.p x=>some (.p x)|.agg cs=>some (.agg cs)|.vec a b c e=>some (.vec a b c e)|.arr a b c e=>some (.arr a b c e)|.ptr a b=>some (.ptr a b)|.bptr a b c=>some (.bptr a b c)|.rptr cs=>some (.rptr cs)|.tuple vs=>some (.tuple vs)|.func f cs=>some (.func f cs)|.mp a b=>some (.mp a b)|.mpr a b c d e=>some (.mpr a b c d e)|.stk a b c=>some (.stk a b c)|.sem ts R=>some (.sem ts R)|.it a b c=>some (.it a b c)|.vecp a b c e=>some (.vecp a b c e)|.elp a b=>some (.elp a b)
theorem qZ {x y:AV}(h:frc x=some y):y=x:=by cases x <;> (cases h; rfl)
def dmS (D:Nat->Bool):List (Nat×AV)->Option (List (Nat×AV))
 | []=>some []
 | (i,x)::r=>(match frc (x.dem D) with
  | some y=>(match dmS D r with|some l=>some ((i,y)::l)|none=>none)
  | none=>none)
theorem oU {D:Nat->Bool}:∀ {l l':List (Nat×AV)},dmS D l=some l'->l'=l.map λ p=>(p.1,p.2.dem D)
 | [],l',h=>by cases h; rfl
 | (i,x)::r,l',h=>by
  unfold dmS at h;split at h
  ·rename_i y hy;split at h
   ·rename_i m hm; cases h; rw [qZ hy,oU hm]; rfl
   ·cases h
  ·cases h
def dmC (D:Nat->Bool):List AV->Option (List AV)
 | []=>some []
 | x::r=>(match frc (x.dem D) with
  | some y=>(match dmC D r with|some l=>some (y::l)|none=>none)
  | none=>none)
theorem CX {D:Nat->Bool}:∀ {l l':List AV},dmC D l=some l'->l'=jH D l
 | [],l',h=>by cases h; rfl
 | x::r,l',h=>by
  unfold dmC at h;split at h
  ·rename_i y hy;split at h
   ·rename_i m hm; cases h; rw [qZ hy,CX hm]; rfl
   ·cases h
  ·cases h
def dmO (D:Nat->Bool):List (Nat×List AV)->Option (List (Nat×List AV))
 | []=>some []
 | (i,cs)::r=>(match D i with
  | true=>dmO D r
  | false=>(match dmC D cs with
   | some ds=>(match dmO D r with|some l=>some ((i,ds)::l)|none=>none)
   | none=>none))
theorem ny {D:Nat->Bool}:∀ {l l':List (Nat×List AV)},dmO D l=some l'->l'=(l.filter λ p=>!D p.1).map λ p=>(p.1,jH D p.2)
 | [],l',h=>by cases h; rfl
 | (i,cs)::r,l',h=>by
  unfold dmO at h;split at h
  ·rename_i hD; rw [ny h]; grind
  ·rename_i hD;split at h
   ·rename_i ds hds;split at h
    ·rename_i m hm; cases h; rw [CX hds,ny hm]; grind
    ·cases h
   ·cases h
def nwP (C:Cx)(o:Oper)(sl0:List (Nat×AV))(ob0:List (Nat×List AV))(cs:List AV):Option AS:=match o.dst with
 | some d=>(match Nat.blt d C.n with
  | true=>(match dmS (λ i=>Nat.beq i d) sl0 with
   | some sl=>(match dmC (λ i=>Nat.beq i d) cs with
    | some ds=>(match dmO (λ i=>Nat.beq i d) ob0 with
     | some ob=>some ⟨(d,.ptr d 0)::sl,(d,ds)::ob⟩
     | none=>none)
    | none=>none)
   | none=>none)
  | false=>none)
 | none=>none
theorem JY {cs:List AV}(h:nwP C o sl ob cs=some s'):∃ d,o.dst=some d/\Nat.blt d C.n=true/\s'=⟨(d,.ptr d 0)::(cq (λ i=>Nat.beq i d) ⟨sl,ob⟩).sl,(d,jH (λ i=>Nat.beq i d) cs)::(cq (λ i=>Nat.beq i d) ⟨sl,ob⟩).ob⟩:=by
 unfold nwP at h;split at h
 ·rename_i d hd;split at h
  ·rename_i hn;split at h
   ·rename_i a ha;split at h
    ·rename_i b hb;split at h
     ·rename_i c hc
      cases h
      exact ⟨d,hd,hn,by rw [oU ha,CX hb,ny hc]; rfl⟩
     ·cases h
    ·cases h
   ·cases h
  ·cases h
 ·cases h
def ncP:Option AV->Option AV|some (.ptr id k)=>some (.ptr id k)|_=>none
def xtP (k:Nat):Option AV->Option AV|some (.tuple l)=>l[k]?|_=>none
def ntP:Option AV->Option AV|some (.p (.val (.bool b)))=>some (.p (.val (.bool (!b))))|_=>none
def flP (C:Cx)(t f:Nat)(X:Option AV):Option AV:=match look C.tt t with
 | some i=>(match i.k with
  | .struct fs=>(match fs[f]? with
   | some (off,ft)=>(match look C.tt ft with
    | some j=>(match X with
     | some (.p (.agg cs))=>(match j.k.isAgg with
      | false=>(match cs[off]? with|some c=>some (.p c)|none=>none)
      | true=>(match Nat.ble (off+j.size) cs.length with
       | true=>(match nrm ((cs.drop off).take j.size) with
        | some ds=>some (.p (.agg ds))
        | none=>none)
       | false=>none))
     | _=>none)
    | none=>none)
   | none=>none)
  | _=>none)
 | none=>none
def cvP (C:Cx)(st dt:Nat)(X:Option AV):Option AV:=match look C.tt st with
 | some i=>(match i.k with
  | .int k'=>(match look C.tt dt with
   | some j=>(match j.k with
    | .int k=>(match X with
     | some (.p (.val (.int k2 a)))=>(match ikE k2 k' with
      | true=>(match ikE k .i64 with
       | true=>none
       | false=>some (.p (.val (.int k (k.wrap a)))))
      | false=>none)
     | _=>none)
    | _=>none)
   | none=>none)
  | _=>none)
 | none=>none
def agP (cs:List AV):Option AV:=match nrm cs with
 | some ds=>(match lq ds with
  | .p y=>some (.p y)
  | .agg l=>some (.agg l)
  | _=>none)
 | none=>none
def buP (C:Cx)(t:Nat)(X:Option (List (Nat×AV))):Option AV:=match look C.tt t with
 | some i=>(match i.k with
  | .struct fs=>(match qt C.tt fs with
   | some pl=>(match X with
    | some ps=>(match tV (λ (i:Nat)=>pl[i]?) (fT i) ps with
     | some cs=>agP cs
     | none=>none)
    | none=>none)
   | none=>none)
  | .array _ e=>(match look C.tt e with
   | some ie=>(match X with
    | some ps=>(match tV (λ (k:Nat)=>some (k*ie.size,ie.size)) (fT i) ps with
     | some cs=>agP cs
     | none=>none)
    | none=>none)
   | none=>none)
  | _=>none)
 | none=>none
def laP (C:Cx)(c:Call)(sl:List (Nat×AV)):Option AV:=match c with
 | ⟨.builtin .len,⟨[x]⟩,⟨[t]⟩⟩=>(match look C.tt t with
  | some i=>(match i.k with
   | .slice _=>(match evo sl x with
    | some (.arr _ _ _ m)=>some (.p (.val (.int .i64 (m:Int))))
    | _=>none)
   | _=>none)
  | none=>none)
 | _=>none
def alP (C:Cx)(o:Oper)(sl:List (Nat×AV))(ob:List (Nat×List AV))(t:Nat):Option AS:=match look C.tt t with
 | some i=>(match AV.cellsA (.agg (fT i)) with
  | some cs=>(match nrm cs with|some ds=>nwP C o sl ob ds|none=>none)
  | none=>none)
 | none=>none
def bxP (C:Cx)(o:Oper)(sl:List (Nat×AV))(ob:List (Nat×List AV))(v:Operand):Option AS:=match evo sl v with
 | some x=>(match x.cellsA with
  | some cs=>(match nrm cs with|some ds=>nwP C o sl ob ds|none=>none)
  | none=>none)
 | none=>none
def opV (C:Cx)(o:Oper)(sl:List (Nat×AV))(ob:List (Nat×List AV)):Option AV:=match o.op with
 | .move x=>evo sl x
 | .assign x=>evo sl x
 | .pick c x y=>pkP sl x y (evo sl c)
 | .binOp op t x y _=>bnP C op t (evo sl x) (evo sl y)
 | .unOp .not _ x=>ntP (evo sl x)
 | .fieldAddr t x f=>faP C t f (evo sl x)
 | .load t x=>ldP C ob t (evo sl x)
 | .nilCheck x=>ncP (evo sl x)
 | .extract x k=>xtP k (evo sl x)
 | .field t x f=>flP C t f (evo sl x)
 | .convert st dt x=>cvP C st dt (evo sl x)
 | .build t parts=>buP C t (fU sl parts.toList)
 | .call c=>laP C c sl
 | _=>none
def opF (C:Cx)(o:Oper):AS->Option AS
 | ⟨sl,ob⟩=>match o.op with
 | .store t x v=>stP C o sl ob t x v
 | .box _ v=>bxP C o sl ob v
 | .alloc t=>alP C o sl ob t
 | .move x=>(match evo sl x with
  | some y=>zH C o ⟨sl,ob⟩ y
  | none=>zH C o ⟨sl,ob⟩ .undef)
 | .assign x=>(match evo sl x with
  | some y=>zH C o ⟨sl,ob⟩ y
  | none=>zH C o ⟨sl,ob⟩ .undef)
 | _=>(match opV C o sl ob with
  | some y=>zH C o ⟨sl,ob⟩ y
  | none=>none)
theorem MA {c x y:Operand}{z:AV}(ho:o.op=.pick c x y)(h:pkP sl x y (evo sl c)=some z)(hd:o.dst=some d)(hn:Nat.blt d C.n=true)(hK:K ⟨(d,z)::sl,ob⟩):aX C o K ⟨sl,ob⟩:=by
 generalize hc:evo sl c=v at h;unfold pkP at h
 grind [lS,nA]
theorem LS {op:BinOp}{t t':TypeId}{x y:Operand}{z:AV}(ho:o.op=.binOp op t x y t')(h:bnP C op t (evo sl x) (evo sl y)=some z)(h1:o.dst=some d)(h2:Nat.blt d C.n=true)(hK:K ⟨(d,z)::sl,ob⟩):aX C o K ⟨sl,ob⟩:=by
 generalize hx:evo sl x=X at h;generalize hy:evo sl y=Y0z at h;unfold bnP at h
 grind [FR,L4,LW,Gp,KU]
theorem MR {t f:Nat}{x:Operand}{z:AV}(ho:o.op=.fieldAddr t x f)(h:faP C t f (evo sl x)=some z)(h1:o.dst=some d)(h2:Nat.blt d C.n=true)(hK:K ⟨(d,z)::sl,ob⟩):aX C o K ⟨sl,ob⟩:=by
 generalize hx:evo sl x=X at h;unfold faP at h;split at h
 ·rename_i i hi;split at h
  ·grind [aI,fZ]
  ·cases h
 ·cases h
theorem LY {t:Nat}{x:Operand}{z:AV}(ho:o.op=.load t x)(h:ldP C ob t (evo sl x)=some z)(h1:o.dst=some d)(h2:Nat.blt d C.n=true)(hK:K ⟨(d,z)::sl,ob⟩):aX C o K ⟨sl,ob⟩:=by
 generalize hx:evo sl x=X at h;unfold ldP at h;split at h
 ·grind [bH,eH,j7,xj]
 ·cases h
theorem MV {t:Nat}{x v:Operand}(ho:o.op=.store t x v)(h:stP C o sl ob t x v=some s')(hK:K s'):aX C o K ⟨sl,ob⟩:=by
 unfold stP at h;split at h
 ·rename_i hd;split at h
  ·rename_i i hi;split at h
   ·rename_i id k hx;split at h
    ·grind [ti,fe,Nat.eq_of_beq_eq_true,Nat.le_of_ble_eq_true]
    ·cases h
   ·cases h
  ·cases h
 ·cases h
theorem LR {t:Nat}{v:Operand}(ho:o.op=.box t v)(h:bxP C o sl ob v=some s')(hK:K s'):aX C o K ⟨sl,ob⟩:=by
 unfold bxP at h
 grind [JY,ti,BA]
theorem LO {t:Nat}(ho:o.op=.alloc t)(h:alP C o sl ob t=some s')(hK:K s'):aX C o K ⟨sl,ob⟩:=by
 unfold alP at h
 grind [JY,ti,AV.cellsA,fP]
theorem L1 {x:Operand}{z:AV}(ho:o.op=.nilCheck x)(h:ncP (evo sl x)=some z)(h1:o.dst=some d)(h2:Nat.blt d C.n=true)(hK:K ⟨(d,z)::sl,ob⟩):aX C o K ⟨sl,ob⟩:=by
 generalize hx:evo sl x=X at h;unfold ncP at h
 grind [bE]
theorem MP {x:Operand}{n:Nat}{z:AV}(ho:o.op=.extract x n)(h:xtP n (evo sl x)=some z)(h1:o.dst=some d)(h2:Nat.blt d C.n=true)(hK:K ⟨(d,z)::sl,ob⟩):aX C o K ⟨sl,ob⟩:=by
 generalize hx:evo sl x=X at h;unfold xtP at h
 grind [BN]
theorem My {t:TypeId}{x:Operand}{z:AV}(ho:o.op=.unOp .not t x)(h:ntP (evo sl x)=some z)(h1:o.dst=some d)(h2:Nat.blt d C.n=true)(hK:K ⟨(d,z)::sl,ob⟩):aX C o K ⟨sl,ob⟩:=by
 generalize hx:evo sl x=X at h;unfold ntP at h
 grind [Md]
theorem MB {t f:Nat}{x:Operand}{z:AV}(ho:o.op=.field t x f)(h:flP C t f (evo sl x)=some z)(h1:o.dst=some d)(h2:Nat.blt d C.n=true)(hK:K ⟨(d,z)::sl,ob⟩):aX C o K ⟨sl,ob⟩:=by
 generalize hx:evo sl x=X at h;unfold flP at h;split at h
 ·rename_i i hi;split at h
  ·rename_i fs hk;split at h
   ·grind [ED,ti,EN]
   ·cases h
  ·cases h
 ·cases h
theorem Mk {st dt:Nat}{x:Operand}{z:AV}(ho:o.op=.convert st dt x)(h:cvP C st dt (evo sl x)=some z)(h1:o.dst=some d)(h2:Nat.blt d C.n=true)(hK:K ⟨(d,z)::sl,ob⟩):aX C o K ⟨sl,ob⟩:=by
 generalize hx:evo sl x=X at h;unfold cvP at h;split at h
 ·rename_i i hi;split at h
  ·grind [FR,JW]
  ·cases h
 ·cases h
theorem Gu {cs:List AV}{z:AV}(h:agP cs=some z):some (lq cs)=some z:=by
 grind [agP,ti]
theorem Me {t:Nat}{parts:Array (Nat×Operand)}{z:AV}(ho:o.op=.build t parts)(h:buP C t (fU sl parts.toList)=some z)(h1:o.dst=some d)(h2:Nat.blt d C.n=true)(hK:K ⟨(d,z)::sl,ob⟩):aX C o K ⟨sl,ob⟩:=by
 generalize hps:fU sl parts.toList=X at h;unfold buP at h;split at h
 ·rename_i i hi;split at h
  ·grind [gV,Gu]
  ·grind [AL,Gu]
  ·cases h
 ·cases h
theorem MQ {c:Call}{z:AV}(ho:o.op=.call c)(h:laP C c sl=some z)(h1:o.dst=some d)(h2:Nat.blt d C.n=true)(hK:K ⟨(d,z)::sl,ob⟩):aX C o K ⟨sl,ob⟩:=by
 unfold laP at h
 grind [J3]
theorem vH {y:AV}(h:opV C o sl ob=some y)(h1:o.dst=some d)(h2:Nat.blt d C.n=true)(hK:K ⟨(d,y)::sl,ob⟩):aX C o K ⟨sl,ob⟩:=by
 grind [opV,b6,fq,MA,LS,My,MR,LY,L1,MP,MB,Mk,Me,MQ]
theorem CZ (h:opF C o ⟨sl,ob⟩=some s')(hK:K s'):aX C o K ⟨sl,ob⟩:=by
 grind [opF,MV,LR,LO,zj,b6,zP,fq,wO,vH]
def isU:Value->Bool|.tuple a=>Nat.beq a.size 0|_=>false
theorem FB {v:Value}(h:isU v=true):v=Go.undef:=by
 unfold isU at h;split at h
 ·rename_i a;have:=bx h;have:=Array.eq_empty_of_size_eq_zero this;subst this; rfl
 ·cases h
def Dw (C:Cx)(o:Oper)(s:AS):Option AS:=zH C o s (.p (.val Go.undef))
def guF (C:Cx)(o:Oper)(s:AS):Option (Bool×AV)->Option AS
 | some (true,.p (.val (.bool true)))=>opF C o s
 | some (true,.p (.val (.bool false)))=>Dw C o s
 | some (false,.p (.val (.bool true)))=>Dw C o s
 | some (false,.p (.val (.bool false)))=>opF C o s
 | some (_,.p (.val v))=>(match isU v with|true=>Dw C o s|false=>none)
 | _=>none
def oF (C:Cx)(ops:Array Oper)(o:Oper):AS->Option AS
 | ⟨sl,ob⟩=>match o.guard with
  | none=>opF C o ⟨sl,ob⟩
  | some _=>guF C o ⟨sl,ob⟩ (gdF ops o sl)
theorem Nw (h:oF C ops o ⟨sl,ob⟩=some s')(hK:fV C ops r K s'):fV C ops (o::r) K ⟨sl,ob⟩:=by
 unfold oF at h;dsimp only at h;split at h
 ·grind [b8,CZ]
 ·rename_i p hg
  have pass:∀ {w:Bool} {b:Bool},gdF ops o sl=some (w,.p (.val (.bool b)))->b=(!w)->Dw C o ⟨sl,ob⟩=some s'->fV C ops (o::r) K ⟨sl,ob⟩:=by
   intro w b hgd hb hp;obtain ⟨d,h1,h2,rfl⟩:=zj hp
   grind [yG,wL]
  generalize hgd:gdF ops o sl=G0z at h;unfold guF at h;split at h
  ·grind [gy,CZ]
  ·grind
  ·grind
  ·grind [gy,CZ]
  ·rename_i v hno1 hno2 hno3 hno4;split at h
   ·rename_i hu;have:=FB hu; subst this;obtain ⟨d,h1,h2,rfl⟩:=zj h
    grind [yG,uA]
   ·cases h
  ·cases h
def cdE (s:AS)(x:Operand):Option AV:=match s with|⟨sl,_⟩=>evo sl x
def cdF (_C:Cx)(k:List Fr)(s:AS):Code->Option Cf
 | .seq x y=>some ⟨.cd x,.sq y::k,s⟩
 | .block id x=>some ⟨.cd x,.bk id::k,s⟩
 | .scope x=>some ⟨.cd x,.ng::k,s⟩
 | .skip=>pop k .normal s
 | .label _=>pop k .normal s
 | .exit id=>pop k (.exit id) s
 | .ret=>pop k .ret s
 | .region _ ops draw=>(match draw with|false=>some ⟨.op ops ops.toList,k,s⟩|true=>none)
 | .cond c x y=>(match cdE s c with
  | some (.p (.val (.bool true)))=>some ⟨.cd x,k,s⟩
  | some (.p (.val (.bool false)))=>some ⟨.cd y,k,s⟩
  | _=>none)
 | _=>none
def stp (C:Cx):Cf->Option Cf
 | ⟨.ex e,k,s⟩=>pop k e s
 | ⟨.op _ [],k,s⟩=>pop k .normal s
 | ⟨.op ops (o::r),k,s⟩=>(match oF C ops o s with|some s'=>some ⟨.op ops r,k,s'⟩|none=>none)
 | ⟨.cd c,k,s⟩=>cdF C k s c
theorem Mm {c:Code}{c':Cf}(h:cdF C k s c=some c')(hM:M C Q c'):awp C c (dn C Q k) s:=by
 unfold cdF at h;split at h
 ·cases h; exact dC hM
 ·cases h; exact Es hM
 ·cases h; exact Fh hM
 ·exact mA (pV h hM)
 ·exact E5 (pV h hM)
 ·exact Ft (pV h hM)
 ·exact oj (pV h hM)
 ·split at h
  ·cases h; exact fA hM
  ·cases h
 ·have hs:∀ c,cdE s c=evo s.sl c:=λ c=>by cases s; rfl
  split at h
  ·rename_i hc; cases h; exact HB (BJ ((hs _).symm.trans hc)) rfl hM
  ·rename_i hc; cases h; exact EC (BJ ((hs _).symm.trans hc)) rfl hM
  ·cases h
 ·cases h
theorem Mc {c c':Cf}(h:stp C c=some c')(hM:M C Q c'):M C Q c:=by
 unfold stp at h;split at h
 ·exact pV h hM
 ·exact eR (pV h hM)
 ·split at h
  ·rename_i s0 hs; cases h; exact Nw hs hM
  ·cases h
 ·exact Mm h hM
def run (C:Cx):Nat->Cf->Option Cf
 | 0,c=>some c
 | n+1,c=>(match stp C c with|some c'=>run C n c'|none=>none)
theorem nx:∀ (n:Nat) {c c':Cf},run C n c=some c'->M C Q c'->M C Q c
 | 0,c,c',h,hM=>by cases h; exact hM
 | n+1,c,c',h,hM=>by
  unfold run at h;split at h
  ·rename_i c1 h1; exact Mc h1 (nx n h hM)
  ·cases h
theorem pT:∀ {k:List Fr} {e:Exit} {s t:AS},cv C s t->dn C Q k e t->dn C Q k e s
 | [],e,s,t,hg,⟨u,h1,h2⟩=>⟨u,aU hg h1,h2⟩
 | .sq y::k,e,s,t,hg,h=>by
  cases e with
  | normal=>exact tr hg h
  | _=>exact pT (k:=k) hg h
 | .bk id::k,e,s,t,hg,h=>by
  cases e with
  | exit i=>
   simp only [dn,kH] at h ⊢;split
   ·rename_i e; rw [if_pos e] at h; exact pT (k:=k) hg h
   ·rename_i e; rw [if_neg e] at h; exact pT (k:=k) hg h
  | _=>exact pT (k:=k) hg h
 | .ng::k,e,s,t,hg,h=>by
  cases e with
  | goto l=>exact h
  | _=>exact pT (k:=k) hg h
 | .jo P::k,e,s,t,hg,h=>by
  cases e with
  | normal=>obtain ⟨u,h1,h2⟩:=h; exact ⟨u,aU hg h1,h2⟩
  | _=>exact pT (k:=k) hg h
 | .je id P::k,e,s,t,hg,h=>by
  cases e with
  | exit i=>
   simp only [dn,exQ] at h ⊢;split
   ·grind [aU]
   ·rename_i e; rw [if_neg e] at h; exact pT (k:=k) hg h
  | _=>exact pT (k:=k) hg h
theorem mG {c:Ct}{t:AS}(hg:cv C s t)(h:M C Q ⟨c,k,t⟩):M C Q ⟨c,k,s⟩:=by
 cases c with
 | cd c=>exact tr hg h
 | op ops r=>exact BB hg h
 | ex e=>exact pT hg h
theorem kX {c:Code}{σ:Type}(A:σ->Prop)(mk:σ->AS)(h2:∀ v,A v->M C Q ⟨.ex .normal,k,mk v⟩)(h1:M C Q ⟨.cd c,.jo (λ t=>∃ v,A v/\t=mk v)::k,s⟩):M C Q ⟨.cd c,k,s⟩ :=
 Jr _ (λ _s' ⟨_,hg,v,hv,e⟩=>pT hg (e ▸ h2 v hv)) h1
theorem kEx (id:Nat){c:Code}{σ:Type}(A:σ->Prop)(mk:σ->AS)(h2:∀ v,A v->M C Q ⟨.ex (.exit id),k,mk v⟩)(h1:M C Q ⟨.cd c,.je id (λ t=>∃ v,A v/\t=mk v)::k,s⟩):M C Q ⟨.cd c,k,s⟩ :=
 JV id _ (λ _s' ⟨_,hg,v,hv,e⟩=>pT hg (e ▸ h2 v hv)) h1
theorem eX {σ:Type}{A:σ->Prop}{mk:σ->AS}(v:σ)(hv:A v)(hg:cv C s (mk v)):M C Q ⟨.ex .normal,.jo (λ t=>∃ v,A v/\t=mk v)::k,s⟩:=⟨mk v,hg,v,hv,rfl⟩
theorem eXi {σ:Type}{A:σ->Prop}{mk:σ->AS}{id:Nat}(v:σ)(hv:A v)(hg:cv C s (mk v)):M C Q ⟨.ex (.exit id),.je id (λ t=>∃ v,A v/\t=mk v)::k,s⟩:=by
 show dn C Q (.je id (λ t=>∃ v,A v/\t=mk v)::k) (.exit id) s;simp only [dn,exQ,if_true]; grind
theorem lG {c:Code}{σ O0z:Type}(mk:σ->AS)(lp:Nat->σ->Option O0z)(hz:∀ q,lp 0 q=none){o:O0z}{n:Nat}(q0:σ)(h0:lp n q0=some o)(hle:cv C s (mk q0))
  (round:∀ m q,lp (m+1) q=some o->M C Q ⟨.cd c,.jo (λ t=>∃ q',lp m q'=some o/\t=mk q')::k,mk q⟩):M C Q ⟨.cd (.loop c),k,s⟩:=by
 refine EW mk lp hz q0 h0 hle λ m q hq=>pL (λ e s' h=>?_) (round m q hq)
 cases e with
 | normal=>obtain ⟨u,hg,q',h1,rfl⟩:=h; exact ⟨q',h1,hg⟩
 | _=>exact h
def lks (sl:List (Nat×AV)):List Nat->Option (List AV)
 | []=>some []
 | t::r=>(match look sl t with
  | some x=>(match lks sl r with|some l=>some (x::l)|none=>none)
  | none=>none)
def stB (b:Bool)(sl:List (Nat×AV)):List Nat->List (Nat×AV)|[]=>sl|t::r=>(t,.p (.val (.bool b)))::stB b sl r
theorem GU {b:Bool}:∀ {T:List Nat},lks sl T=some (T.map λ _=>.p (.val (.bool b)))->∀ j x,look (stB b sl T) j=some x->look sl j=some x
 | [],_,j,x,h=>h
 | t::r,hT,j,x,h=>by
  unfold lks at hT;split at hT
  ·rename_i y hy;split at hT
   ·rename_i l hl;simp only [dg,aq,List.cons.injEq] at hT;simp only [stB,a6] at h;split at h
    ·grind
    ·exact GU (hl.trans (congrArg some hT.2)) j x h
   ·cases hT
  ·cases hT
theorem y6 {b:Bool}{T:List Nat}(hT:lks sl T=some (T.map λ _=>.p (.val (.bool b)))):cv C ⟨sl,ob⟩ ⟨stB b sl T,ob⟩ :=
 cG ⟨λ j x hx=>by
  grind [GU,AS.get,AV.sub_refl],λ id cs h=>⟨cs,h,bt _,λ i c d hc hd=>by grind [AV.sub_refl]⟩⟩
theorem fD {c:Ct}{p:Prop} [Decidable p] {α:Type}{a b:Option α}{v:α}(T:List Nat)(h:(if p then a else b)=some v)(hT:lks sl T=some (T.map λ _=>.p (.val (.bool (decide p)))))
  (h1:p->a=some v->M C Q ⟨c,k,⟨stB true sl T,ob⟩⟩) (h2:¬p->b=some v->M C Q ⟨c,k,⟨stB false sl T,ob⟩⟩):M C Q ⟨c,k,⟨sl,ob⟩⟩:=by
 exact FN
theorem fN {c:Ct}{p:Prop} [Decidable p] {α:Type}{a b:Option α}{v:α}(T:List Nat)(h:(if p then a else b)=some v)(hT:lks sl T=some (T.map λ _=>.p (.val (.bool (!decide p)))))
  (h1:p->a=some v->M C Q ⟨c,k,⟨stB false sl T,ob⟩⟩) (h2:¬p->b=some v->M C Q ⟨c,k,⟨stB true sl T,ob⟩⟩):M C Q ⟨c,k,⟨sl,ob⟩⟩:=by
 exact FN
theorem fB {c:Ct}{p:Bool}{α:Type}{a b:Option α}{v:α}(T:List Nat)(h:(if p=true then a else b)=some v)(hT:lks sl T=some (T.map λ _=>.p (.val (.bool p))))
  (h1:p=true->a=some v->M C Q ⟨c,k,⟨stB true sl T,ob⟩⟩) (h2:p=false->b=some v->M C Q ⟨c,k,⟨stB false sl T,ob⟩⟩):M C Q ⟨c,k,⟨sl,ob⟩⟩:=by
 cases p
 ·exact mG (y6 hT) (h2 Z (Hc Z h))
 ·exact mG (y6 hT) (h1 Z (KD Z h))
def gF (ops:Array Oper)(o:Oper)(sl:List (Nat×AV)):Bool:=match o.guard with
 | none=>true
 | some _=>(match gdF ops o sl with
  | some (true,.p (.val (.bool true)))=>true
  | some (false,.p (.val (.bool false)))=>true
  | _=>false)
theorem mO (hg:gF ops o sl=true)(h:aX C o (λ s'=>M C Q ⟨.op ops r,k,s'⟩) ⟨sl,ob⟩):M C Q ⟨.op ops (o::r),k,⟨sl,ob⟩⟩:=by
 unfold gF at hg;split at hg
 ·rename_i hn; exact b8 hn h
 ·generalize hgd:gdF ops o sl=G0z at hg;split at hg
  ·exact gy Z hgd h
  ·exact gy Z hgd h
  ·cases hg
theorem bd {α β:Type}{g:Prop}{p:Option α}{f:α->Option β}{v:β}(h:p.bind f=some v)(H:∀ x,p=some x->f x=some v->g):g:=by
 obtain ⟨x,h1,h2⟩:=MU h
 grind
theorem cc' {α:Type}{g:Prop}{p:Prop} [Decidable p] {a:Option α}{v:α}(h:ck p a=some v)(H:p->a=some v->g):g:=by
 grind [nI]
def biF (C:Cx)(ops:Array Oper)(o:Oper)(sl:List (Nat×AV)):Option (Nat×BinOp×AV×AV):=match gF ops o sl with
 | true=>(match dsF C.n o with
  | some d=>(match o.op with
   | .binOp op _ x y _=>(match evo sl x with
    | some X=>(match evo sl y with
     | some Y0z=>some (d,op,X,Y0z)
     | none=>none)
    | none=>none)
   | _=>none)
  | none=>none)
 | false=>none
theorem CV {op:BinOp}{X Y0z:AV}(h:biF C ops o sl=some (d,op,X,Y0z)):gF ops o sl=true/\o.dst=some d/\Nat.blt d C.n=true/\∃ t x y t',o.op=.binOp op t x y t'/\evo sl x=some X/\evo sl y=some Y0z:=by
 unfold biF at h;split at h
 ·grind [oR]
 ·cases h
theorem oA {α:Type}{a:Option α}{v:α}{op:BinOp}{x y c:Int}(h:ck (inR c) a=some v)(hb:biF C ops o sl=some (d,op,.p (.val (.int .i64 x)),.p (.val (.int .i64 y))))(hc:arI op x y=some c)
  (H:inR c->a=some v->M C Q ⟨.op ops r,k,⟨(d,.p (eI c))::sl,ob⟩⟩):M C Q ⟨.op ops (o::r),k,⟨sl,ob⟩⟩:=by
 obtain ⟨hg,hd,hn,t,X,Y0z,t',ho,hx,hy⟩:=CV hb;obtain ⟨h1,h2⟩:=nI h;exact mO hg (fK ho hd hn hx hy hc h1 (H h1 h2))
theorem oS {op:BinOp}{x y:Bk}{c:Bool}(hb:biF C ops o sl=some (d,op,.p (.val (.string (str x))),.p (.val (.string (str y)))))(hc:KE op x y=some c)
  (H:M C Q ⟨.op ops r,k,⟨(d,.p (eB c))::sl,ob⟩⟩):M C Q ⟨.op ops (o::r),k,⟨sl,ob⟩⟩:=by
 obtain ⟨hg,hd,hn,t,X,Y0z,t',ho,hx,hy⟩:=CV hb;exact mO hg (yq ho hd hn hx hy hc H)
theorem oC {α:Type}{a:Option α}{v:α}{x y:Bk}(h:ck (x.length+y.length<=9223372036854775807) a=some v)(hb:biF C ops o sl=some (d,.add,.p (.val (.string (str x))),.p (.val (.string (str y)))))
  (H:x.length+y.length<=9223372036854775807->a=some v->M C Q ⟨.op ops r,k,⟨(d,.p (eS (x++y)))::sl,ob⟩⟩):M C Q ⟨.op ops (o::r),k,⟨sl,ob⟩⟩:=by
 obtain ⟨hg,hd,hn,t,X,Y0z,t',ho,hx,hy⟩:=CV hb;obtain ⟨h1,h2⟩:=nI h;exact mO hg (sY ho hd hn hx hy h1 (H h1 h2))
def lnF (C:Cx)(ops:Array Oper)(o:Oper)(sl:List (Nat×AV)):Option (Nat×Bool×AV):=match gF ops o sl with
 | true=>(match dsF C.n o with
  | some d=>(match o.op with
   | .call ⟨.builtin .len,⟨[x]⟩,⟨[t]⟩⟩=>(match look C.tt t with
    | some i=>(match evo sl x with
     | some X=>(match i.k with
      | .string=>some (d,true,X)
      | .slice _=>some (d,false,X)
      | _=>none)
     | none=>none)
    | none=>none)
   | _=>none)
  | none=>none)
 | false=>none
theorem oLs {x:Bk}(hb:lnF C ops o sl=some (d,true,.p (.val (.string (str x)))))(H:M C Q ⟨.op ops r,k,⟨(d,.p (eI (x.length:Int)))::sl,ob⟩⟩):M C Q ⟨.op ops (o::r),k,⟨sl,ob⟩⟩:=by
 unfold lnF at hb;split at hb
 ·rename_i hg;split at hb
  ·rename_i e hd;split at hb
   ·rename_i z t ho;split at hb
    ·rename_i i hi;split at hb
     ·rename_i X hx;split at hb
      ·rename_i hk; cases hb; exact mO hg (ss ho (oR hd).1 (oR hd).2 hi hk hx H)
      ·cases hb
      ·cases hb
     ·cases hb
    ·cases hb
   ·cases hb
  ·cases hb
 ·cases hb
theorem oLl {α:Type}{f:α->PV}{l:List α}{X:AV}(hb:lnF C ops o sl=some (d,false,X))(hX:X.elems? = some (l.map f))(H:M C Q ⟨.op ops r,k,⟨(d,.p (eI (l.length:Int)))::sl,ob⟩⟩):M C Q ⟨.op ops (o::r),k,⟨sl,ob⟩⟩:=by
 unfold lnF at hb;split at hb
 ·rename_i hg;split at hb
  ·rename_i e hd;split at hb
   ·grind [mO,jN,oR]
   ·cases hb
  ·cases hb
 ·cases hb
def ixF (C:Cx)(ops:Array Oper)(o:Oper)(sl:List (Nat×AV)):Option (Nat×AV×AV):=match gF ops o sl with
 | true=>(match dsF C.n o with
  | some d=>(match o.op with
   | .index t x y=>(match look C.tt t with
    | some i=>(match i.k with
     | .string=>(match evo sl x with
      | some X=>(match evo sl y with|some Y0z=>some (d,X,Y0z)|none=>none)
      | none=>none)
     | _=>none)
    | none=>none)
   | _=>none)
  | none=>none)
 | false=>none
theorem oI {α:Type}{a:Option α}{v:α}{x:Bk}{i:IntKind}{j:Int}(h:ck ((0:Int)<=j/\j<(x.length:Int)) a=some v)(hb:ixF C ops o sl=some (d,.p (.val (.string (str x))),.p (.val (.int i j))))
  (H:(0:Int)<=j/\j<(x.length:Int)->a=some v->M C Q ⟨.op ops r,k,⟨(d,.p (eK .u8 (byt x j)))::sl,ob⟩⟩):M C Q ⟨.op ops (o::r),k,⟨sl,ob⟩⟩:=by
 obtain ⟨h1,h2⟩:=nI h;unfold ixF at hb;split at hb
 ·rename_i hg;split at hb
  ·rename_i e hd;split at hb
   ·grind [mO,k8,oR]
   ·cases hb
  ·cases hb
 ·cases hb
def slF (C:Cx)(ops:Array Oper)(o:Oper)(sl:List (Nat×AV)):Option (Nat×AV×Option Operand×Option Operand):=match gF ops o sl with
 | true=>(match dsF C.n o with
  | some d=>(match o.op with
   | .slice t x lo hi none=>(match look C.tt t with
    | some i=>(match i.k with
     | .string=>(match evo sl x with
      | some X=>some (d,X,lo,hi)
      | none=>none)
     | _=>none)
    | none=>none)
   | _=>none)
  | none=>none)
 | false=>none
theorem oP {α:Type}{a:Option α}{v:α}{x:Bk}{i j:Int}{lo hi:Option Operand}(h:ck ((0:Int)<=i/\i<=j/\j<=(x.length:Int)) a=some v)(hb:slF C ops o sl=some (d,.p (.val (.string (str x))),lo,hi))(hlo:loI sl lo=some i)(hhi:hiI sl (x.length:Int) hi=some j)
  (H:(0:Int)<=i/\i<=j/\j<=(x.length:Int)->a=some v->M C Q ⟨.op ops r,k,⟨(d,.p (eS (sub x i j)))::sl,ob⟩⟩):M C Q ⟨.op ops (o::r),k,⟨sl,ob⟩⟩:=by
 obtain ⟨h1,h2⟩:=nI h;unfold slF at hb;split at hb
 ·rename_i hg;split at hb
  ·grind [mO,ed,oR]
  ·cases hb
 ·cases hb
def atF (C:Cx)(ops:Array Oper)(o:Oper)(sl:List (Nat×AV)):Option (Nat×Nat×AV×AV):=match gF ops o sl with
 | true=>(match dsF C.n o with
  | some d=>(match o.op with
   | .indexAddr t x y=>(match look C.tt t with
    | some i=>(match i.k with
     | .slice e=>(match look C.tt e with
      | some ie=>(match evo sl x with
       | some X=>(match evo sl y with|some Y0z=>some (d,ie.size,X,Y0z)|none=>none)
       | none=>none)
      | none=>none)
     | _=>none)
    | none=>none)
   | _=>none)
  | none=>none)
 | false=>none
theorem oE {α β:Type} [Inhabited α] {a:Option β}{v:β}{f:α->PV}{l:List α}{cs:α->List PV}{X:AV}{sz:Nat}{i:IntKind}{j:Int}(h:ck ((0:Int)<=j/\j<(l.length:Int)) a=some v)(N0:∀ x,(f x).cells=cs x)(hb:atF C ops o sl=some (d,sz,X,.p (.val (.int i j))))(hX:X.elems? = some (l.map f))(NR:∀ x,(cs x).length=sz)
  (H:(0:Int)<=j/\j<(l.length:Int)->a=some v->M C Q ⟨.op ops r,k,⟨(d,.rptr (cs (lat l j)))::sl,ob⟩⟩):M C Q ⟨.op ops (o::r),k,⟨sl,ob⟩⟩:=by
 obtain ⟨h1,h2⟩:=nI h;unfold atF at hb;split at hb
 ·rename_i hg;split at hb
  ·rename_i e hd;split at hb
   ·rename_i t X Y0z ho;split at hb
    ·rename_i i hi;split at hb
     ·rename_i hk;split at hb
      ·rename_i ie hie;split at hb
       ·rename_i hx;split at hb
        ·rename_i hy; cases hb; exact mO hg (nV cs ho (oR hd).1 (oR hd).2 hi hk hie hx hX hy h1 N0 NR (H h1 h2))
        ·cases hb
       ·cases hb
      ·cases hb
     ·cases hb
    ·cases hb
   ·cases hb
  ·cases hb
 ·cases hb
def clF (C:Cx)(ops:Array Oper)(o:Oper)(sl:List (Nat×AV)):Option (Nat×FuncId×List AV):=match gF ops o sl with
 | true=>(match dsF C.n o with
  | some d=>(match o.op with
   | .call ⟨.value (.func f),args,_⟩=>(match j8 sl args.toList with
    | some l=>some (d,f,l)
    | none=>none)
   | _=>none)
  | none=>none)
 | false=>none
theorem oK {f:FuncId}{l:List AV}{q:List PV}{x x':AV}(hc:aK C.P f q (·=x))(hb:clF C ops o sl=some (d,f,l))(hq:zu l q)(henter:∀ vs w,(callFunc f vs).run C.P w=.ok (.enter f vs) w)(hr:x.settle=some x')
  (H:M C Q ⟨.op ops r,k,⟨(d,x')::sl,ob⟩⟩):M C Q ⟨.op ops (o::r),k,⟨sl,ob⟩⟩:=by
 unfold clF at hb
 grind [mO,cF,oR]
def tO:Operand->List Nat->List Nat|.tmp t,l=>t::l|_,l=>l
def tOs:List Operand->List Nat|[]=>[]|x::r=>tO x (tOs r)
def tms (o:Oper):List Nat:=match o.op with
 | .move x=>tO x []
 | .assign x=>tO x []
 | .pick c x y=>tO c (tO x (tO y []))
 | .binOp _ _ x y _=>tO x (tO y [])
 | .unOp _ _ x=>tO x []
 | .fieldAddr _ x _=>tO x []
 | .load _ x=>tO x []
 | .nilCheck x=>tO x []
 | .extract x _=>tO x []
 | .field _ x _=>tO x []
 | .convert _ _ x=>tO x []
 | .build _ parts=>tOs (parts.toList.map (·.2))
 | .call c=>tOs c.args.toList
 | _=>[]
def gdT (ops:Array Oper)(o:Oper)(l:List Nat):List Nat:=match o.guard with
 | some (j,_)=>(match (ops.toList[j]?).bind (·.dst) with
  | some t=>t::l
  | none=>l)
 | none=>l
def knL (base:List (Nat×AV))(o:Oper)(rev:Rev):List Nat->List (Nat×AV)
 | []=>[]
 | i::r=>(match knX base o rev i with
  | some x=>(i,x)::knL base o rev r
  | none=>knL base o rev r)
theorem CL {base:List (Nat×AV)}{rev:Rev}:∀ {l:List Nat},Fa base o rev (knL base o rev l)
 | []=>trivial
 | i::r=>by
  unfold knL;split
  ·rename_i x hx; exact ⟨Gs hx,CL⟩
  ·exact CL
theorem nM {kn:List (Nat×AV)}(hs:∀ i x,look kn i=some x->look sl i=some x)(x:Operand):evo kn x=none\/evo kn x=evo sl x:=by
 cases h:evo kn x with
 | none=>grind
 | some y=>grind [jV]
theorem xz {kn:List (Nat×AV)}(hs:∀ i x,look kn i=some x->look sl i=some x):∀ {l:List (Nat×Operand)} {ps:List (Nat×AV)},fU kn l=some ps->fU sl l=some ps
 | [],ps,h=>h
 | (i,x)::r,ps,h=>by
  unfold fU at h ⊢;split at h
  ·rename_i y l hy hl; cases h; rw [jV hs hy,xz hs hl]
  ·cases h
theorem JC {kn:List (Nat×AV)}{y:AV}(hs:∀ i x,look kn i=some x->look sl i=some x)(h:opV C o kn ob=some y):opV C o sl ob=some y:=by
 unfold opV at h ⊢;split at h
 ·exact jV hs h
 ·exact jV hs h
 ·rename_i c x y _;rcases nM hs c with e|e
  ·rw [e] at h; cases h
  ·rw [<- e];generalize evo kn c=z at h;unfold pkP at h ⊢
   grind [jV]
 ·grind [nM,bnP]
 ·rename_i x _; rcases nM hs x with e|e
  ·rw [e] at h; cases h
  grind
 ·rename_i t x f _; rcases nM hs x with e|e
  ·rw [e] at h; unfold faP at h; (repeat' split at h) <;> first|grind|cases h
  grind
 ·grind [nM,ldP]
 ·rename_i x _; rcases nM hs x with e|e
  ·rw [e] at h; cases h
  grind
 ·rename_i x n _; rcases nM hs x with e|e
  ·rw [e] at h; cases h
  grind
 ·rename_i t x f _; rcases nM hs x with e|e
  ·rw [e] at h; unfold flP at h; grind
  grind
 ·rename_i s t x _; rcases nM hs x with e|e
  ·rw [e] at h; unfold cvP at h; grind
  grind
 ·rename_i t parts _
  cases e:fU kn parts.toList with
  | none=>rw [e] at h; unfold buP at h; grind
  | some ps=>grind [xz]
 ·rename_i c _;unfold laP at h ⊢
  grind [nM]
 ·cases h
def oV (C:Cx)(ops:Array Oper)(o:Oper)(sl:List (Nat×AV))(ob:List (Nat×List AV)):Option AV:=match o.guard with
 | none=>opV C o sl ob
 | some _=>(match gdF ops o sl with
  | some (true,.p (.val (.bool true)))=>opV C o sl ob
  | some (true,.p (.val (.bool false)))=>some (.p (.val Go.undef))
  | some (false,.p (.val (.bool true)))=>some (.p (.val Go.undef))
  | some (false,.p (.val (.bool false)))=>opV C o sl ob
  | some (_,.p (.val v))=>(match isU v with|true=>some (.p (.val Go.undef))|false=>none)
  | _=>none)
def drF (C:Cx)(ops:Array Oper)(base:List (Nat×AV))(ob:List (Nat×List AV))(o:Oper)(rev:Rev):Option (Nat×AV):=match nwF base rev o with
 | some d=>(match Nat.blt d C.n with
  | true=>(match oV C ops o (knL base o rev (gdT ops o (tms o))) ob with
   | some y=>some (d,y)
   | none=>none)
  | false=>none)
 | none=>none
theorem KH {kn:List (Nat×AV)}{y:AV}(h:oV C ops o kn ob=some y)(hd:o.dst=some d)(hn:Nat.blt d C.n=true):ug C ops ob o kn d y:=by
 intro sl hs K hK;unfold oV at h;split at h
 ·grind [ah,vH,JC]
 grind [yG,fE,vH,JC,JX,FB,AF]
def drw (C:Cx)(ops:Array Oper)(base:List (Nat×AV))(ob:List (Nat×List AV)):Nat->List Oper->Nat->Rev->Option (List Oper×Nat×Rev)
 | 0,l,i,rev=>some (l,i,rev)
 | n+1,o::l,i,rev=>(match drF C ops base ob o rev with
  | some (d,y)=>drw C ops base ob n l (i+1) ((i,d,y)::rev)
  | none=>none)
 | _+1,[],_,_=>none
theorem dR {base:List (Nat×AV)}:∀ (n:Nat) {l l':List Oper} {i i':Nat} {rev rev':Rev},drw C ops base ob n l i rev=some (l',i',rev')->DQ C ops base ob K l' i' rev'->DQ C ops base ob K l i rev
 | 0,l,l',i,i',rev,rev',h,hK=>by cases h; exact hK
 | n+1,[],l',i,i',rev,rev',h,hK=>by cases h
 | n+1,o::l,l',i,i',rev,rev',h,hK=>by
  unfold drw at h;split at h
  ·rename_i d y hd;unfold drF at hd;split at hd
   ·rename_i e he;split at hd
    ·rename_i hn;split at hd
     ·rename_i z hz
      cases hd
      exact Dn y _ CL (KH hz (re he).1 hn) (re he).1 (re he).2.1 (re he).2.2 (dR n h hK)
     ·cases hd
    ·cases hd
   ·cases hd
  ·cases h
theorem mD (base:List (Nat×AV)){id:Nat}(hm:C.P.follows .mixedOrders=true)(hb:fG sl base)(hord:(ops.toList.zipIdx.all λ p=>p.1.after.toList.all λ e=>!(Region.binds .any e)||Nat.blt e.on p.2)=true)
  (h:DQ C ops base ob (λ s'=>M C Q ⟨.ex .normal,k,s'⟩) ops.toList 0 []):M C Q ⟨.cd (.region id ops true),k,⟨sl,ob⟩⟩:=E2 base hm hb hord h
def K5:Rev->List (Nat×AV)->Option (List (Nat×AV))
 | [],b=>some b
 | (_,p)::r,b=>(match K5 r b with|some l=>some (p::l)|none=>none)
theorem DC:∀ {rev:Rev} {b l:List (Nat×AV)},K5 rev b=some l->l=p8 rev++b
 | [],b,l,h=>by cases h; rfl
 | (i,p)::r,b,l,h=>by
  unfold K5 at h;split at h
  ·rename_i m hm; cases h; rw [DC hm]; rfl
  ·cases h
theorem dE {base l:List (Nat×AV)}{i:Nat}{rev:Rev}(h:K5 rev base=some l)(hM:M C Q ⟨.ex .normal,k,⟨l,ob⟩⟩):DQ C ops base ob (λ s'=>M C Q ⟨.ex .normal,k,s'⟩) [] i rev :=
 LQ (by grind [DC])
theorem dL {base:List (Nat×AV)}{l:List Oper}{i:Nat}{rev:Rev}{q b:Bool}(hb:q=b)(h:drF C ops base ob o rev=some (d,.p (.val (.bool q))))(hK:DQ C ops base ob K l (i+1) ((i,d,.p (.val (.bool b)))::rev)):DQ C ops base ob K (o::l) i rev:=by
 subst hb;refine dR 1 (l':=l) (i':=i+1) (rev':=(i,d,.p (.val (.bool q)))::rev) ?_ hK
 grind [drw]
theorem mS (S:fX){id:Nat}(hm:C.P.follows .mixedOrders=true)(NK:S.imp.length=S.m)(hob:S.obj 0=ob)(hb:fG sl (S.bas 0))
  (hbas:∀ j,j<S.m->fG (trL (S.D j) (S.bas j)) (S.bas (j+1))) (hnd:nodupB S.imp=true) (hin:S.imp.all (λ i=>Nat.blt i ops.size)=true) (hch:chainB ops S.imp=true)
  (hord:(ops.toList.zipIdx.all λ p=>p.1.after.toList.all λ e=>!(Region.binds .any e)||Nat.blt e.on p.2)=true) (h:DS C ops S (λ rev=>M C Q ⟨.ex .normal,k,⟨ef rev S.m++S.bas S.m,S.obj S.m⟩⟩) ops.toList 0 []):M C Q ⟨.cd (.region id ops true),k,⟨sl,ob⟩⟩ :=
 EB S hm NK hob hb hbas hnd hin hch hord h
def lkO (ob:List (Nat×List AV)):List Nat->Option (List (List AV))
 | []=>some []
 | t::r=>(match look ob t with
  | some x=>(match lkO ob r with|some l=>some (x::l)|none=>none)
  | none=>none)
theorem yb {sl:List (Nat×AV)}:∀ {q:List (Nat×AV)},lks sl (q.map (·.1))=some (q.map (·.2))->∀ j x,look q j=some x->look sl j=some x
 | [],_,j,x,h=>by cases h
 | (i,y)::r,hT,j,x,h=>by
  simp only [dg] at hT;unfold lks at hT;split at hT
  ·rename_i z hz;split at hT
   ·rename_i l hl;simp only [aq,List.cons.injEq] at hT;rw [a6] at h;split at h
    ·grind
    ·exact yb (hl.trans (congrArg some hT.2)) j x h
   ·cases hT
  ·cases hT
theorem Ji {ob:List (Nat×List AV)}:∀ {q:List (Nat×List AV)},lkO ob (q.map (·.1))=some (q.map (·.2))->∀ j x,look q j=some x->look ob j=some x
 | [],_,j,x,h=>by cases h
 | (i,y)::r,hT,j,x,h=>by
  simp only [dg] at hT;unfold lkO at hT;split at hT
  ·rename_i z hz;split at hT
   ·rename_i l hl;simp only [aq,List.cons.injEq] at hT;rw [a6] at h;split at h
    ·grind
    ·exact Ji (hl.trans (congrArg some hT.2)) j x h
   ·cases hT
  ·cases hT
def lkE (a b:List (Nat×List AV)):List (Nat×List AV)->Prop|[]=>True|(i,_)::r=>look b i=look a i/\lkE a b r
theorem B8 {a b:List (Nat×List AV)}:∀ {l:List (Nat×List AV)},lkE a b l->∀ i x,look l i=some x->look b i=look a i
 | [],_,i,x,h=>by cases h
 | (j,y)::r,⟨h1,h2⟩,i,x,h=>by
  rw [a6] at h;by_cases e:j=i
  ·grind
  ·rw [if_neg e] at h; exact B8 h2 i x h
theorem IA {C:Cx}{ops:Array Oper}{S1 S2:fX}{k:Nat}{r1 r2:gD}{imp:List Nat}(h1:lks (ef r2 S2.m++S2.bas S2.m) ((ef r1 S1.m++S1.bas S1.m).map (·.1))=some ((ef r1 S1.m++S1.bas S1.m).map (·.2)))
  (h2:lkE (S1.obj S1.m) (S2.obj S2.m) (S1.obj S1.m)) (h3:td imp r1 r2) :
  DS C ops S2 (λ rev2=>(⟨ef rev2 S2.m++S2.bas S2.m,S2.obj S2.m⟩:AS).le ⟨ef r1 S1.m++S1.bas S1.m,S1.obj S1.m⟩/\td imp r1 rev2) [] k r2:=by
 refine ⟨⟨λ j x h=>?_,λ id cs h=>⟨cs,(B8 h2 id cs h).trans h,bt _,λ i c d a b=>by grind [AV.sub_refl]⟩⟩,h3⟩
 grind [yb,AS.get,AV.sub_refl]
theorem mSS {C:Cx}{Q:Exit->AS->Prop}{k:List Fr}{ops:Array Oper}{sl:List (Nat×AV)}{ob:List (Nat×List AV)}(S1 S2:fX){id k1 k2:Nat}{r:List Nat}(hm:C.P.follows .mixedOrders=true)
  (hi1:S1.imp=k1::k2::r) (hi2:S2.imp=k2::k1::r) (hlen1:S1.imp.length=S1.m) (hlen2:S2.imp.length=S2.m) (hob1:S1.obj 0=ob) (hob2:S2.obj 0=ob) (hb:fG sl (S1.bas 0)) (hb2:S2.bas 0=S1.bas 0)
  (hbas1:∀ j,j<S1.m->fG (trL (S1.D j) (S1.bas j)) (S1.bas (j+1))) (hbas2:∀ j,j<S2.m->fG (trL (S2.D j) (S2.bas j)) (S2.bas (j+1)))
  (hnd:nodupB (k1::k2::r)=true) (hin:(k1::k2::r).all (λ i=>Nat.blt i ops.size)=true) (hch1:chainB ops (k1::r)=true) (hch2:chainB ops (k2::r)=true)
  (hord:(ops.toList.zipIdx.all λ p=>p.1.after.toList.all λ e=>!(Region.binds .any e)||Nat.blt e.on p.2)=true)
  (h:DS C ops S1 (λ rev1=>M C Q ⟨.ex .normal,k,⟨ef rev1 S1.m++S1.bas S1.m,S1.obj S1.m⟩⟩/\DS C ops S2 (λ rev2=>(⟨ef rev2 S2.m++S2.bas S2.m,S2.obj S2.m⟩:AS).le ⟨ef rev1 S1.m++S1.bas S1.m,S1.obj S1.m⟩/\td (k1::k2::r) rev1 rev2) ops.toList 0 []) ops.toList 0 []) :
  M C Q ⟨.cd (.region id ops true),k,⟨sl,ob⟩⟩ :=
 B1 S1 S2 hm hi1 hi2 hlen1 hlen2 hob1 hob2 hb hb2 hbas1 hbas2 hnd hin hch1 hch2 hord h
theorem gE {s t:AS}(h1:lks s.sl (t.sl.map (·.1))=some (t.sl.map (·.2)))(h2:lkO s.ob (t.ob.map (·.1))=some (t.ob.map (·.2))):cv C s t :=
 cG ⟨λ j x hx=>by
  grind [yb,AS.get,AV.sub_refl],λ id cs h=>⟨cs,Ji h2 id cs h,bt _,λ i c d hc hd=>by grind [AV.sub_refl]⟩⟩
theorem mP {β:Type}{v0:β}{tt:List (Nat×TI)}{fn:Func}{c:Code}(mk:β->AV)(h:M C (λ e s=>∃ v,v=v0/\Ff tt fn (λ x=>x.sub (mk v)) e s) ⟨.cd c,[],s⟩):awp C c (Ff tt fn (λ x=>x.sub (mk v0))) s :=
 pL (λ e s h=>by obtain ⟨t,h1,v,rfl,h2⟩:=h; grind) h |> tz
theorem mQ {β:Type}{v v0:β}{tt:List (Nat×TI)}{fn:Func}{mk:β->AV}{l:List AV}(e:v=v0)(h:nB tt fn.results.toList s=some l)(hR:(sy l).sub (mk v)):M C (λ e s=>∃ v,v=v0/\Ff tt fn (λ x=>x.sub (mk v)) e s) ⟨.ex .ret,[],s⟩ :=
 ⟨s,aJ s,v,e,xM h hR⟩
theorem mPo {β:Type}{v0:β}{tt:List (Nat×TI)}{fn:Func}{ts ids:List Nat}{c:Code}(mk:β->AV)(mo:β->List (Nat×List AV))(h:M C (λ e s=>∃ v,v=v0/\wT C tt fn ts ids (mk v) (mo v) e s) ⟨.cd c,[],s⟩):awp C c (wT C tt fn ts ids (mk v0) (mo v0)) s :=
 pL (λ e s h=>by obtain ⟨t,h1,v,rfl,h2⟩:=h; grind) h |> tz
theorem mQo {β:Type}{v v0:β}{tt:List (Nat×TI)}{fn:Func}{ts ids:List Nat}{mk:β->AV}{mo:β->List (Nat×List AV)}{r1:AV}{Of obs':List (Nat×List AV)}{t:AS}{l:List AV}(e:v=v0)(hg:cv C s t)(h1:nB tt fn.results.toList t=some l)(h2:(sy l).mapA (mH ts)=some r1)
  (h3:iQ t.ob ids=some Of) (h4:iK (mH ts) Of=some obs') (h5:r1.sub (mk v)) (h6:leO obs' (mo v)):M C (λ e s=>∃ v,v=v0/\wT C tt fn ts ids (mk v) (mo v) e s) ⟨.ex .ret,[],s⟩ :=
 ⟨s,aJ s,v,e,rN hg h1 h2 h3 h4 h5 h6⟩
theorem Jt {β:Type}{v v0:β}{tt:List (Nat×TI)}{fn:Func}{ts ids:List Nat}{mk:β->AV}{mo:β->List (Nat×List AV)}{r1:AV}{Of obs':List (Nat×List AV)}{t:AS}{l:List AV}(e:v=v0)(hg:cv C s t)(h1:nB tt fn.results.toList t=some l)(h2:(sy l).mapA (mH ts)=some r1)
  (h3:iQ t.ob ids=some Of) (h4:iK (mH ts) Of=some obs') (h5:r1.sub (mk v)) (h6:leO obs' (mo v)):M C (λ e s=>∃ v,v=v0/\wT C tt fn ts ids (mk v) (mo v) e s) ⟨.ex .normal,[],s⟩ :=
 ⟨s,aJ s,v,e,KT hg h1 h2 h3 h4 h5 h6⟩
theorem kN {c:Code}{σ:Type}(w:σ)(mk:σ->AS)(h2:M C Q ⟨.ex .normal,k,mk w⟩)(h1:M C Q ⟨.cd c,.jo (λ t=>∃ v,w=v/\t=mk v)::k,s⟩):M C Q ⟨.cd c,k,s⟩ :=
 kX (λ v=>w=v) mk (λ _ e=>e ▸ h2) h1
theorem kE (id:Nat){c:Code}{σ:Type}(w:σ)(mk:σ->AS)(h2:M C Q ⟨.ex (.exit id),k,mk w⟩)(h1:M C Q ⟨.cd c,.je id (λ t=>∃ v,w=v/\t=mk v)::k,s⟩):M C Q ⟨.cd c,k,s⟩ :=
 kEx id (λ v=>w=v) mk (λ _ e=>e ▸ h2) h1
end
end Go.Ab
namespace Go.Ab
/- What holds no identity is not touched by the marks of a box or a new object. -/
mutual
theorem Li {D:Nat->Bool}:∀ {x y:AV},AV.mapA (λ _=>none) x=some y->y=x->x.dem D=x
 | .undef,_,_,_=>rfl
 | .p _,_,_,_=>rfl
 | .vec ..,y,h,e=>by grind [AV.mapA]
 | .arr ..,_,h,_=>by grind [AV.mapA]
 | .ptr ..,_,h,_=>by grind [AV.mapA]
 | .bptr ..,_,h,_=>by grind [AV.mapA]
 | .mp ..,_,h,_=>by grind [AV.mapA]
 | .mpr ..,_,h,_=>by grind [AV.mapA]
 | .stk ..,_,h,_=>by grind [AV.mapA]
 | .sem ts R,y,h,e=>by
  cases ts with
  | nil=>rfl
  | cons t ts=>simp only [AV.mapA,HO] at h; cases h
 | .it ..,_,h,_=>by simp only [AV.mapA] at h; cases h
 | .vecp ..,_,h,_=>by simp only [AV.mapA] at h; cases h
 | .elp ..,_,h,_=>by simp only [AV.mapA] at h; cases h
 | .rptr _,_,_,_=>rfl
 | .agg cs,y,h,e=>by
  exact Bz
 | .tuple cs,y,h,e=>by
  exact Bz
 | .func f cs,y,h,e=>by
  exact Bz
theorem tg {D:Nat->Bool}:∀ {l l':List AV},AV.mapA.go (λ _=>none) l=some l'->l'=l->jH D l=l
 | [],_,_,_=>rfl
 | x::r,l',h,e=>by
  subst e;simp only [AV.mapA.go] at h;split at h
  ·rename_i y z hy hz
   cases h
   simp only [jH,Li hy rfl,tg hz rfl]
  ·cases h
end
theorem rW {C:List AV}(K:AV.mapA.go (λ _=>none) C=some C)(D:Nat->Bool):jH D C=C:=tg K Z
theorem gFn {C:Cx}{sl:List (Nat×AV)}{ob:List (Nat×List AV)}{f:Fn}{cs:List AV}(j:Nat)(cs':List AV)(h:look sl j=some (.func f cs))(hc:cs=cs'):cv C ⟨sl,ob⟩ ⟨(j,.func f cs')::sl,ob⟩ :=
 Ba j h (hc ▸ AV.sub_refl _)
open Go.Proofs Go.RowKit Go
variable {p:Prop}
theorem FI (h:p:=by
 simp only [List.getElem?_cons_zero,aq] at hx; subst hx;refine ⟨p,rfl,?_⟩;rcases hp with rfl|rfl
 ·exact .bptrn how h Z
 ·exact .bptr how h Z):p:=h
theorem wh (h:p:=by
 rw [Lib.cell_of_heap this]; rfl):p:=h
theorem Hs (h:p:=by exact ⟨by rw [h.size]; exact (hown _ _ h1).1,.inr ⟨_,h1⟩⟩):p:=h
structure cu where
 NG:Bk
def gI (b:cu):Option cu:=some b
def fW (b:cu):Option (Bk×cu):=ck (b.NG.length<=9223372036854775807)<|some (b.NG,b)
theorem Ly:∃ j,Tryz.prog.info? 184=some j/\j.size=2:=by
 have h:(Tryz.prog.info? 184).map (·.size)=some 2:=by kernel_rfl
 obtain ⟨j,hj,hs⟩:=mv.1 h;exact ⟨j,hj,hs⟩
set_option maxRecDepth 100000 in
theorem uW (b:Nat)(w:World)(h0:w.cell? ⟨b,0,none⟩=some (.pointer (some ⟨b,0,none⟩))) :
  Calls Tryz.prog 166 #[.pointer (some ⟨b,0,none⟩)] w λ e w'=>e=.returned (.tuple #[])/\w'=w:=by
 obtain ⟨j,hj,_⟩:=Ly
 go_enter Tryz.func166,Tryz.ntmps166
 go_wp2
 rw [Lib.run_neq_ptr_same w _ Tryz.underlying181 hj]
 go_wp2
 go_end0
 exact ⟨Z,Z⟩
set_option maxRecDepth 100000 in
theorem us (b:Nat)(w:World)(h0:w.cell? ⟨b,0,none⟩=some (.pointer none))(hsh:w.shape? b=some (184,2))(hfz:w.frozen? ⟨b,0,none⟩=false) :
  Calls Tryz.prog 166 #[.pointer (some ⟨b,0,none⟩)] w λ e w'=>e=.returned (.tuple #[])/\w'=w.setCell ⟨b,0,none⟩ (.pointer (some ⟨b,0,none⟩)):=by
 obtain ⟨j,hj,hjs⟩:=Ly
 go_enter Tryz.func166,Tryz.ntmps166
 go_wp2
 rw [Lib.run_to_unsafe w ⟨b,0,none⟩ Tryz.underlying181 Tryz.underlying215 hj (by rw [hjs]; decide) hsh (Nat.zero_lt_succ 1)];simp only [Result.andThen];rw [Oper.upon_value]
 go_wp2
 rw [run_callFunc_extern Tryz.func192 (by kernel_rfl) (by kernel_rfl) (by kernel_rfl) (e:=Extern.AbiNoEscape.same) (by kernel_rfl)];rw [Lib.run_noEscape];simp only [Result.andThen];rw [Oper.upon_value]
 go_wp2
 rw [Lib.run_from_unsafe w ⟨b,0,none⟩ Tryz.underlying215 Tryz.underlying181 hj hsh (by kernel_rfl)];simp only [Result.andThen];rw [Oper.upon_value]
 go_wp2
 go_end0
 exact ⟨Z,Z⟩
structure Ed (b:Nat)(w w':World):Prop where
 os:w'.os=w.os
 out:w'.output=w.output
 tape:w'.tape=w.tape
 size:w'.heap.size=w.heap.size
 other:∀ k,k≠b->w'.heap[k]? = w.heap[k]?
def back (i:Nat):Option Nat:=if i=900000 then some 2000000 else if i=1000000 then some 1000000 else none
def ghB (g:Gh):Gh:=⟨g.st,λ i=>if i=2000000 then g.ow 900000 else if M1<=i/\i<2*M1 then g.ow i else none⟩
theorem yD {g:Gh}{i b:Nat}(h:(ghB g).ow i=some b):(i=2000000/\g.ow 900000=some b)\/(M1<=i/\i<2*M1/\g.ow i=some b):=by
 simp only [ghB] at h;split at h
 ·exact .inl ⟨‹_›,h⟩
 ·split at h
  ·rename_i h1; exact .inr ⟨h1.1,h1.2,h⟩
  ·cases h
theorem AD {g:Gh}:∀ i j b,back i=some j->g.ow i=some b->(ghB g).ow j=some b:=by
 intro i j b h hb;unfold back at h;split at h
 ·cases h; subst_vars; simp only [ghB,if_true]; exact hb
 ·split at h
  ·cases h; subst_vars
   simp only [ghB];rw [if_neg (by decide),if_pos (by decide)]; exact hb
  ·cases h
theorem DO {w w':World}{g:Gh}{b:Nat}(hok:Ok0 w g.st)(hown:∀ i b,g.ow i=some b->b<w.heap.size/\i<2*M1)
  (hinj:∀ i j b,g.ow i=some b->g.ow j=some b->i=j) (hnst:∀ i b,M1<=i->g.ow i=some b->∀ o,¬ g.st b o)
  (hb:g.ow 1000000=some b) (h:Ed b w w')
  (hsh:∀ (c:Array Value) (e:TypeId),w.heap[b]? = some (.cells c e (0,0))->∃ c':Array Value,w'.heap[b]? = some (.cells c' e (0,0))/\c'.size=c.size):nv w g w' (ghB g):=by
 have hbs:∀ o,¬ g.st b o:=hnst _ b (bt _) hb
 have NZ:Ev w g.st w' g.st:=λ k o hk=>⟨hk,by
  have:k≠b:=λ e=>hbs o (e ▸ hk)
  simp only [World.cell?,h.other k this]⟩
 refine ⟨h.os,h.out,h.tape,by rw [h.size]; exact bt _,λ k hk hno=>h.other k (λ e=>hno 1000000 (e ▸ hb)),λ i k hi=>?_,λ i j k hi hj=>?_,λ k o hk=>by rw [h.size]; exact hok.lt k o hk,λ k hk _ o=>Iff.rfl,λ i h1 h2=>?_,λ i k c e h1 h2 h3=>?_,λ i k hi hk o=>hnst i k hi hk o,NZ⟩
 ·rcases yD hi with ⟨_,h1⟩|⟨_,_,h1⟩
  ·exact Hs
  ·exact Hs
 ·rcases yD hi with ⟨e1,h1⟩|⟨a1,a2,h1⟩ <;> rcases yD hj with ⟨e2,h2⟩|⟨b1,b2,h2⟩
  ·omega
  ·have:=hinj _ _ _ h1 h2; unfold M1 at *; omega
  ·have:=hinj _ _ _ h1 h2; unfold M1 at *; omega
  ·exact hinj _ _ _ h1 h2
 ·simp only [ghB];rw [if_neg (by unfold M1 at *; omega),if_pos ⟨h1,h2⟩]
 ·by_cases e1:k=b
  ·subst e1; exact hsh c e h3
  ·exact ⟨c,(h.other k e1).trans h3,Z⟩
theorem Nn {w w':World}{g:Gh}{b:Nat}(hbs:∀ o,¬ g.st b o)(h:Ed b w w')(hc:∃ c e,w.heap[b]? = some (.cells c e (0,0)))
  (hsh:∀ (c:Array Value) (e:TypeId),w.heap[b]? = some (.cells c e (0,0))->∃ c':Array Value,w'.heap[b]? = some (.cells c' e (0,0))/\c'.size=c.size):EvO (λ _=>false) w g w' g:=by
 refine ⟨λ k o hk=>⟨hk,?_⟩,λ _ _ _ h=>h,λ id k c e _ _ hk=>?_,λ _ _ _ _ _ h=>h,λ id k es k' _ _ hk=>(h.other k (λ e=>by subst e; obtain ⟨c,t,hc⟩:=hc; rw [hc] at hk; cases hk)).trans hk,λ _ _=>rfl,λ id k o _ _ ho=>h.other k (λ e=>hbs o (e ▸ ho))⟩
 ·have:k≠b:=λ e=>hbs o (e ▸ hk);simp only [World.cell?,h.other k this]
 ·by_cases e1:k=b
  ·subst e1; exact hsh c e hk
  ·exact ⟨c,(h.other k e1).trans hk,Z⟩
theorem FW {w:World}{g:Gh}{es:List PV}{vs:Array Value}{T ty:Nat}(NR:vs.size=1)
  (hargs:∀ (i:Nat) c v,[AV.ptr 1000000 0][i]? = some c->vs[i]? = some v->ARep w g c v)
  (hobs:∀ id cs,look [(1000000,[AV.bptr T 2 1000000,AV.vec 900000 1 ty es])] id=some cs->iX w g id cs) :
  ∃ b p q,g.ow 1000000=some b/\vs=#[.pointer (some ⟨b,0,none⟩)]/\w.heap[b]? = some (.cells #[p,q] T (0,0))/\(∀ o,¬ g.st b o) /\
   (p=.pointer none\/p=.pointer (some ⟨b,0,none⟩))/\ARep w g (.vec 900000 1 ty es) q:=by
 obtain ⟨b,c,e,h1,h2,h3,h4,h5⟩:=hobs 1000000 _ rfl;obtain ⟨p,hp,hpr⟩:=h5 0 _ rfl;obtain ⟨q,hq,hqr⟩:=h5 1 _ rfl;have hv0:vs[0]? = some vs[0]:=Array.getElem?_eq_getElem O;have ha:=hargs 0 _ _ rfl hv0
 have hvs:vs=#[vs[0]]:=by
  apply Array.ext
  ·simp [NR]
  ·intro i h1 h2;have:i=0:=by omega
   subst this; rfl
 have hc:∀ c1:Array Value,c1=c->c1.size=2->c=#[p,q]:=by
  rintro c1 rfl h;apply Array.ext
  ·simp [h]
  ·intro i k1 k2
   match i,k2 with
   | 0,_=>rw [Array.getElem?_eq_getElem k1] at hp; simpa using hp
   | 1,_=>rw [Array.getElem?_eq_getElem k1] at hq; simpa using hq
 have hav:vs[0]=.pointer (some ⟨b,0,none⟩):=by
  generalize vs[0]=v at ha
  cases ha with
  | ptr how=>rw [h1] at how; cases how; rfl
 refine ⟨b,p,q,h1,by rw [hvs,hav],?_,h4,?_,hqr⟩
 ·cases hpr with
  | bptrn how hb N0=>rw [h1] at how; cases how; rw [h2] at hb; cases hb; rw [h2,hc _ rfl N0]
  | bptr how hb N0=>rw [h1] at how; cases how; rw [h2] at hb; cases hb; rw [h2,hc _ rfl N0]
 ·cases hpr with
  | bptrn how hb N0=>exact .inl Z
  | bptr how hb N0=>rw [h1] at how; cases how; exact .inr rfl
theorem ob_B {w':World}{g:Gh}{es:List PV}{T ty b:Nat}{p q:Value}(hb:g.ow 1000000=some b)(h4:∀ o,¬ g.st b o)(h:w'.heap[b]? = some (.cells #[p,q] T (0,0)))
  (hp:p=.pointer none\/p=.pointer (some ⟨b,0,none⟩)) (hq:ARep w' g (.vec 900000 1 ty es) q):iX w' (ghB g) 1000000 [.bptr T 2 1000000,.vec 2000000 1 ty es]:=by
 have how:(ghB g).ow 1000000=some b:=AD 1000000 1000000 b Z hb;refine ⟨b,#[p,q],T,how,h,by simp,h4,λ i x hx=>?_⟩
 match i,hx with
 | 0,hx=>
  exact FI
 | 1,hx=>
  simp only [List.getElem?_cons_succ,List.getElem?_cons_zero,aq] at hx; subst hx;exact ⟨q,rfl,kj (m:=back) (g:=g) (g':=ghB g) rfl AD hq rfl⟩
 | n+2,hx=>simp at hx
theorem lF (b_0:cu)(r:cu)(h0:gI b_0=some r):aS Tryz.prog 166 [.ptr 1000000 0] [(1000000,[.bptr 184 2 1000000,.vec 900000 1 (5+1) (b_0.NG.map eU)])]
  (λ x y=>x=.tuple []/\y=[(1000000,[.bptr 184 2 1000000,.vec 2000000 1 (5+1) (r.NG.map eU)])]):=by
 cases h0
 intro w g vs hok hown hinj hnst NR hargs hobs;obtain ⟨b,p,q,hb,rfl,hheap,hbs,hp,hq⟩:=FW NR hargs hobs;have hc0:w.cell? ⟨b,0,none⟩=some p:=by simp [World.cell?,hheap]
 rcases hp with rfl|rfl
 ·refine (us b w hc0 (by simp [World.shape?,hheap]) (by simp [World.frozen?,hheap])).mono ?_;rintro e w' ⟨rfl,rfl⟩;have hO:Ed b w (w.setCell ⟨b,0,none⟩ (.pointer (some ⟨b,0,none⟩))):=⟨rfl,rfl,rfl,by simp [World.setCell],λ k hk=>Below.heap_setCell _ _ _ _ hk⟩
  have hheap':(w.setCell ⟨b,0,none⟩ (.pointer (some ⟨b,0,none⟩))).heap[b]? = some (.cells #[.pointer (some ⟨b,0,none⟩),q] 184 (0,0)):=by
   simp [World.setCell,Array.getElem?_modify,hheap]
  have hsh:∀ (c:Array Value) (e:TypeId),w.heap[b]? = some (.cells c e (0,0))->∃ c':Array Value,(w.setCell ⟨b,0,none⟩ (.pointer (some ⟨b,0,none⟩))).heap[b]? = some (.cells c' e (0,0))/\c'.size=c.size:=λ c e h=>by
   rw [hheap] at h; cases h; exact ⟨_,hheap',rfl⟩
  refine ⟨_,_,_,ghB g,Z,⟨Z,Z⟩,.tuple Z G,λ x hx=>?_,DO hok hown hinj hnst hb hO hsh⟩;simp only [List.mem_singleton] at hx; subst hx;exact ob_B hb hbs hheap' (.inr Z) (hq.mono (Nn hbs hO ⟨_,_,hheap⟩ hsh))
 ·refine (uW b w hc0).mono ?_;rintro e w' ⟨rfl,rfl⟩;have hO:Ed b w' w':=⟨rfl,rfl,rfl,rfl,λ k hk=>rfl⟩
  refine ⟨_,_,_,ghB g,Z,⟨Z,Z⟩,.tuple Z G,λ x hx=>?_,DO hok hown hinj hnst hb hO (λ c e h=>⟨c,h,Z⟩)⟩;simp only [List.mem_singleton] at hx; subst hx;exact ob_B hb hbs hheap (.inr Z) hq
theorem xW:Tryz.prog.follows .mixedOrders=true:=by kernel_rfl
theorem qX (w:World):Below w.heap.size w w.drew:=Below.drew (Below.refl _ w)
set_option maxRecDepth 100000 in
theorem BX (b:Nat)(p:Value)(w:World)(hbk:w.heap[b]? = some (.cells #[p,.slice none 0 0] 184 (0,0))) :
  Calls Tryz.prog 142 #[.pointer (some ⟨b,0,none⟩)] w λ e w'=>e=.returned (.string ⟨#[]⟩)/\Below w.heap.size w w':=by
 have mixed:=xW;have hUS:∀ (W:World) (q:Option Addr),(Builtin.unsafeString_ #[201,3] 9 #[.pointer q,.int .i64 0]).run Tryz.prog W=.ok (.string .empty) W:=λ W q=>Lib.run_unsafeString_none W _ _ _ q
 have c1:w.drew.cell? ⟨b,1,none⟩=some (.slice none 0 0):=by
  have:w.drew.heap[b]? = some (.cells #[p,.slice none 0 0] 184 (0,0)):=hbk;exact wh
 have hSD:(Builtin.unsafeSliceData_ #[182] 201 #[.slice none 0 0]).run Tryz.prog w.drew=.ok (.pointer none) w.drew:=rfl
 go_enter Tryz.func142,Tryz.ntmps142
 go_wp2
 go_region_o
 all_goals (go_wp2; go_ret; exact ⟨Z,qX w⟩)
set_option maxRecDepth 100000 in
theorem Aw (b g cap:Nat)(p:Value)(w:World)(hc0:cap≠0)(hbk:w.heap[b]? = some (.cells #[p,.slice (some ⟨g,0,none⟩) 0 cap] 184 (0,0))) :
  Calls Tryz.prog 142 #[.pointer (some ⟨b,0,none⟩)] w λ e w'=>e=.returned (.string ⟨#[]⟩)/\Below w.heap.size w w':=by
 have mixed:=xW;have hUS:∀ (W:World) (q:Option Addr),(Builtin.unsafeString_ #[201,3] 9 #[.pointer q,.int .i64 0]).run Tryz.prog W=.ok (.string .empty) W:=λ W q=>Lib.run_unsafeString_none W _ _ _ q
 have c1:w.drew.cell? ⟨b,1,none⟩=some (.slice (some ⟨g,0,none⟩) 0 cap):=by
  have:w.drew.heap[b]? = some (.cells #[p,.slice (some ⟨g,0,none⟩) 0 cap] 184 (0,0)):=hbk;exact wh
 have hSD:(Builtin.unsafeSliceData_ #[182] 201 #[.slice (some ⟨g,0,none⟩) 0 cap]).run Tryz.prog w.drew=.ok (.pointer (some ⟨g,0,none⟩)) w.drew:=Lib.run_unsafeSliceData_row _ _ _ _ _ _ hc0
 clear hc0
 go_enter Tryz.func142,Tryz.ntmps142
 go_wp2
 go_region_o
 all_goals (go_wp2; go_ret; exact ⟨Z,qX w⟩)
set_option maxRecDepth 100000 in
theorem wV (b g:Nat)(p:Value)(cur:Array Value)(w:World)(hbk:w.heap[b]? = some (.cells #[p,.slice (some ⟨g,0,none⟩) 0 0] 184 (0,0)))(hg:w.heap[g]? = some (.cells cur 5 (0,0))) :
  Calls Tryz.prog 142 #[.pointer (some ⟨b,0,none⟩)] w λ e w'=>e=.returned (.string ⟨#[]⟩)/\Below w.heap.size w w':=by
 have mixed:=xW;have hUS:∀ (W:World) (q:Option Addr),(Builtin.unsafeString_ #[201,3] 9 #[.pointer q,.int .i64 0]).run Tryz.prog W=.ok (.string .empty) W:=λ W q=>Lib.run_unsafeString_none W _ _ _ q
 have hlt:b<w.heap.size:=by
  rcases Nat.lt_or_ge b w.heap.size with h'|h'
  ·exact h'
  ·simp [Array.getElem?_eq_none h'] at hbk
 have c1:w.drew.cell? ⟨b,1,none⟩=some (.slice (some ⟨g,0,none⟩) 0 0):=by
  have:w.drew.heap[b]? = some (.cells #[p,.slice (some ⟨g,0,none⟩) 0 0] 184 (0,0)):=hbk;exact wh
 have hSD:(Builtin.unsafeSliceData_ #[182] 201 #[.slice (some ⟨g,0,none⟩) 0 0]).run Tryz.prog w.drew=.ok (.pointer (some ⟨w.drew.heap.size,0,none⟩)) (w.drew.alloc (.view ⟨g,0,none⟩ 5)) :=
  Lib.run_unsafeSliceData_zero w.drew _ _ 5 Tryz.underlying201 ⟨g,0,none⟩ 0 (5,cur.size) (by have hg':w.drew.heap[g]? = some (.cells cur 5 (0,0)):=hg; simp [World.shape?,hg'])
 have c2:(w.drew.alloc (.view ⟨g,0,none⟩ 5)).cell? ⟨b,1,none⟩=some (.slice (some ⟨g,0,none⟩) 0 0):=by
  have:(w.drew.alloc (.view ⟨g,0,none⟩ 5)).heap[b]? = _:=(Lib.alloc_old w.drew _ b hlt).trans hbk;exact wh
 have c3:(w.alloc (.view ⟨g,0,none⟩ 5)).drew.cell? ⟨b,1,none⟩=some (.slice (some ⟨g,0,none⟩) 0 0):=c2;have c0:w.cell? ⟨b,1,none⟩=some (.slice (some ⟨g,0,none⟩) 0 0):=c1
 go_enter Tryz.func142,Tryz.ntmps142
 go_wp2
 go_region_o
 all_goals (go_wp2; go_ret; exact ⟨Z,(qX w).alloc (bt _) _⟩)
set_option maxRecDepth 100000 in
theorem Cg (b g cap:Nat)(p:Value)(cur:Array Value)(l:List UInt8)(w:World)(h0:l≠[])(hbk:w.heap[b]? = some (.cells #[p,.slice (some ⟨g,0,none⟩) l.length cap] 184 (0,0)))(hg:w.heap[g]? = some (.cells cur 5 (0,0)))
  (hnc:l.length<=cap) (N0:cur.size=cap) (hcm:l.length<=9223372036854775807) (NY:∀ (j:Nat) x,l[j]? = some x->w.cell? ⟨g,j,none⟩=some (.int .u8 x.toNat)) :
  Calls Tryz.prog 142 #[.pointer (some ⟨b,0,none⟩)] w λ e w'=>e=.returned (.string ⟨l.toArray⟩)/\w'=(w.drew.freeze ⟨g,0,none⟩ l.length):=by
 have mixed:=xW;have hl0:l.length≠0:=by simpa using h0
 have c1:w.drew.cell? ⟨b,1,none⟩=some (.slice (some ⟨g,0,none⟩) l.length cap):=by
  have:w.drew.heap[b]? = some (.cells #[p,.slice (some ⟨g,0,none⟩) l.length cap] 184 (0,0)):=hbk;exact wh
 have hSD:(Builtin.unsafeSliceData_ #[182] 201 #[.slice (some ⟨g,0,none⟩) l.length cap]).run Tryz.prog w.drew=.ok (.pointer (some ⟨g,0,none⟩)) w.drew:=Lib.run_unsafeSliceData_row _ _ _ _ _ _ O
 have hUS:(Builtin.unsafeString_ #[201,3] 9 #[.pointer (some ⟨g,0,none⟩),.int .i64 l.length]).run Tryz.prog w.drew=.ok (.string ⟨l.toArray⟩) (w.drew.freeze ⟨g,0,none⟩ l.length):=by
  refine Lib.run_unsafeString_row w.drew 201 3 9 5 Tryz.underlying201 (by kernel_rfl) g cur.size (by have hg':w.drew.heap[g]? = some (.cells cur 5 (0,0)):=hg; simp [World.shape?,hg']) l h0 O hcm ?_;intro j x hx;have:=NY j x hx;rw [add_lit,sm,World.cell?_drew]; exact this
 clear NY N0 hcm hnc h0 hl0
 go_enter Tryz.func142,Tryz.ntmps142
 go_wp2
 go_region_o
 all_goals (go_wp2; go_ret; exact ⟨Z,Z⟩)
theorem x5 (w:World)(g n k:Nat)(h:k≠g):(w.freeze ⟨g,0,none⟩ n).heap[k]? = w.heap[k]?:=by
 unfold World.freeze;split
 ·rfl
 ·simp only [Array.getElem?_modify];rw [if_neg (λ e=>h e.symm)]
theorem zz (w:World)(g n:Nat)(a:Addr):(w.freeze ⟨g,0,none⟩ n).cell? a=w.cell? a:=by
 unfold World.freeze;split
 ·rfl
 ·simp only [World.cell?,Array.getElem?_modify];by_cases h:g=a.block
  ·simp only [h,if_true]
   cases w.heap[a.block]? with
   | none=>rfl
   | some o=>cases o <;> rfl
  ·simp only [h,if_false]
theorem Av (w:World)(g n:Nat):(w.freeze ⟨g,0,none⟩ n).heap.size=w.heap.size:=by
 unfold World.freeze; split <;> simp
theorem AH (w:World)(g n:Nat):(w.freeze ⟨g,0,none⟩ n).os=w.os/\(w.freeze ⟨g,0,none⟩ n).output=w.output/\(w.freeze ⟨g,0,none⟩ n).tape=w.tape:=by
 unfold World.freeze; split <;> exact ⟨Z,Z,Z⟩
def ghS (g:Gh):Gh:=⟨g.st,λ i=>if M1<=i/\i<2*M1 then g.ow i else none⟩
theorem yS {g:Gh}{i b:Nat}(h:(ghS g).ow i=some b):M1<=i/\i<2*M1/\g.ow i=some b:=by
 simp only [ghS] at h;split at h
 ·rename_i h1; exact ⟨h1.1,h1.2,h⟩
 ·cases h
theorem Eo {w w':World}{g:Gh}{q:Nat}(hok:Ok0 w g.st)(hown:∀ i b,g.ow i=some b->b<w.heap.size/\i<2*M1)
  (hinj:∀ i j b,g.ow i=some b->g.ow j=some b->i=j) (hnst:∀ i b,M1<=i->g.ow i=some b->∀ o,¬ g.st b o)
  (hq:g.ow 900000=some q\/w.heap.size<=q) (os:w'.os=w.os) (out:w'.output=w.output) (tape:w'.tape=w.tape) (size:w.heap.size<=w'.heap.size)
  (other:∀ k,k<w.heap.size->k≠q->w'.heap[k]? = w.heap[k]?) (cell:∀ b o,b<w.heap.size->w'.cell? ⟨b,o,none⟩=w.cell? ⟨b,o,none⟩):nv w g w' (ghS g):=by
 have NZ:Ev w g.st w' g.st:=λ k o hk=>⟨hk,cell k o (hok.lt k o hk)⟩
 refine ⟨os,out,tape,size,λ k hk hno=>other k hk (λ e=>?_),λ i k hi=>?_,λ i j k hi hj=>?_,λ k o hk=>Nat.lt_of_lt_of_le (hok.lt k o hk) size,λ k hk _ o=>Iff.rfl,λ i h1 h2=>?_,λ i k c e h1 h2 h3=>?_,λ i k hi hk o=>hnst i k hi hk o,NZ⟩
 ·rcases hq with hq|hq
  ·exact hno _ (e ▸ hq)
  ·omega
 ·obtain ⟨_,_,h1⟩:=yS hi;exact ⟨Nat.lt_of_lt_of_le (hown _ _ h1).1 size,.inr ⟨_,h1⟩⟩
 ·exact hinj _ _ _ (yS hi).2.2 (yS hj).2.2
 ·simp only [ghS]; rw [if_pos ⟨h1,h2⟩]
 ·refine ⟨c,(other k (hown _ _ h2).1 (λ e=>?_)).trans h3,rfl⟩;rcases hq with hq|hq
  ·have:=hinj _ _ _ h2 (e ▸ hq); unfold M1 at *; omega
  ·have:=(hown _ _ h2).1; omega
theorem ob_S {w':World}{g:Gh}{es:List PV}{T b:Nat}{p q:Value}(hb:g.ow 1000000=some b)(h4:∀ o,¬ g.st b o)(h:w'.heap[b]? = some (.cells #[p,q] T (0,0)))
  (hp:p=.pointer none\/p=.pointer (some ⟨b,0,none⟩)) (hq:PRep w' g.st (.slice es) q):iX w' (ghS g) 1000000 [.bptr T 2 1000000,.p (.slice es)]:=by
 have how:(ghS g).ow 1000000=some b:=by simp only [ghS]; rw [if_pos (by decide)]; exact hb
 refine ⟨b,#[p,q],T,how,h,by simp,h4,λ i x hx=>?_⟩
 match i,hx with
 | 0,hx=>
  exact FI
 | 1,hx=>
  simp only [List.getElem?_cons_succ,List.getElem?_cons_zero,aq] at hx; subst hx;exact ⟨q,rfl,.p hq⟩
 | n+2,hx=>simp at hx
theorem mY (b_0:cu)(r:Bk×cu)(h0:fW b_0=some r):aS Tryz.prog 142 [.ptr 1000000 0] [(1000000,[.bptr 184 2 1000000,.vec 900000 1 (5+1) (b_0.NG.map eU)])]
  (λ x y=>x=.p (eS r.1)/\y=[(1000000,[.bptr 184 2 1000000,.p (eL eU r.2.NG)])]):=by
 obtain ⟨hmax,h0⟩:=nI h0
 cases h0
 intro w g vs hok hown hinj hnst NR hargs hobs;obtain ⟨b,p,q,hb,rfl,hheap,hbs,hp,hq⟩:=FW NR hargs hobs;have hbl:b<w.heap.size:=(hown _ _ hb).1;obtain ⟨l,hl⟩:∃ l,l=b_0.NG:=⟨_,rfl⟩
 rw [<- hl] at hq ⊢
 -- a builder that holds nothing
 have none_:∀ q0,l=[]->q=q0->(Calls Tryz.prog 142 #[.pointer (some ⟨b,0,none⟩)] w λ e w'=>e=.returned (.string ⟨#[]⟩)/\Below w.heap.size w w')->PRep w g.st (.slice []) q0 ->
   Calls Tryz.prog 142 #[.pointer (some ⟨b,0,none⟩)] w λ e w'=>∃ v r obs' g',e=.returned v/\(r=.p (eS l)/\obs'=[(1000000,[.bptr 184 2 1000000,.p (eL eU l)])])/\ARep w' g' r v/\(∀ p∈obs',iX w' g' p.1 p.2)/\nv w g w' g':=by
  rintro q0 rfl rfl hc hr;refine hc.mono ?_;rintro e w' ⟨rfl,hB⟩;have NY:∀ b o,b<w.heap.size->w'.cell? ⟨b,o,none⟩=w.cell? ⟨b,o,none⟩:=λ b o h=>hB.cell (p:=⟨b,o,none⟩) h;refine ⟨_,_,_,ghS g,rfl,⟨rfl,rfl⟩,.p (.val _),λ x hx=>?_,Eo (q:=w.heap.size) hok hown hinj hnst (.inr (bt _)) hB.os hB.output hB.tape hB.size (λ k hk _=>hB.block k hk) NY⟩;simp only [List.mem_singleton] at hx; subst hx;exact ob_S hb hbs ((hB.block b hbl).trans hheap) hp (hr.mono (w':=w') (st':=g.st) (λ k o hk=>⟨hk,NY k o (hok.lt k o hk)⟩))
 generalize hes:l.map eU=es at hq
 cases hq with
 | vecn=>
  have e:l=[]:=by simpa using hes
  exact none_ _ e Z (BX b p w hheap) .nils
 | vec how hb2 N0 hsz2 N7 hr hty=>
  rename_i g2 off2 cap c e2
  have he2:e2=5/\off2=0:=by
   rcases hty with h|h
   ·cases h
   ·exact ⟨(Nat.succ.inj h.1).symm,h.2⟩
  obtain ⟨rfl,rfl⟩:=he2;rw [sm] at N0;simp only [sm] at N7;have hgl:g2<w.heap.size:=(hown _ _ how).1;subst hes;simp only [n6] at hheap;by_cases hl0:l=[]
  ·subst hl0;by_cases hc0:cap=0
   ·subst hc0;exact none_ _ Z Z (wV b g2 p c w hheap hb2) (by simpa using hr)
   ·exact none_ _ Z Z (Aw b g2 cap p w hc0 hheap) (by simpa using hr)
  ·have hcap:l.length<=cap:=by
    obtain ⟨a',cap',he,hle⟩:=pW hr
    cases he
    simpa using hle
   have NY:∀ (j:Nat) x,l[j]? = some x->w.cell? ⟨g2,j,none⟩=some (.int .u8 x.toNat):=by
    intro j x hx;have hinv:=K3 hsz2 hb2 hr;obtain ⟨_,u,hu,hru⟩:=hinv j (eU x) 0 (eU x) (by simp [hx]) rfl
    cases hru
    simp only [World.cell?,hb2];simpa using hu
   refine (Cg b g2 cap p c l w hl0 (by simpa using hheap) hb2 hcap (by simpa using N0) ?_ NY).mono ?_
   ·rw [hl]; exact hmax
   rintro e w' ⟨rfl,rfl⟩;have hother:∀ k,k≠g2->(w.drew.freeze ⟨g2,0,none⟩ l.length).heap[k]? = w.heap[k]?:=λ k hk=>x5 w.drew g2 _ k hk;have hcell2:∀ b o,(w.drew.freeze ⟨g2,0,none⟩ l.length).cell? ⟨b,o,none⟩=w.cell? ⟨b,o,none⟩:=λ b o=>zz w.drew g2 _ _;obtain ⟨r1,r2,r3⟩:=AH w.drew g2 l.length;refine ⟨_,_,_,ghS g,rfl,⟨rfl,rfl⟩,.p (.val _),λ x hx=>?_,Eo (q:=g2) hok hown hinj hnst (.inl how) r1 r2 r3 (by rw [Av]; exact bt _) (λ k _ hk=>hother k hk) (λ b o _=>hcell2 b o)⟩;simp only [List.mem_singleton] at hx; subst hx;have Ob:b≠g2:=λ e=>by subst e; have:=hinj _ _ _ hb how; omega
   exact ob_S hb hbs ((hother b Ob).trans (by simpa using hheap)) hp (by simpa using hr.mono (w':=w.drew.freeze ⟨g2,0,none⟩ l.length) (st':=g.st) (λ k o hk=>⟨hk,hcell2 k o⟩))
end Go.Ab
end
