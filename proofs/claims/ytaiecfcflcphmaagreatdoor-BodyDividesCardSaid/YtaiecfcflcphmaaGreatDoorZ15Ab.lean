/- Texts of the proof, one behind the other. No statement is proved here. -/
import Derived.OpenShut
import Derived.ChangeArms
import Derived.LaidLaws
import Derived.Shelf.Vars
import Derived.Test.YtaiecfcflcphmaaGreatDoorChecked
import Derived.Laws.StructEq
import Derived.Test.YtaiecfcflcphmaaGreatDoorZ15Aa
section
namespace Go.Ab
def GC.val:GC->Value|.int k n=>.int k n|.ifc=>.nilIface|.some k=>.int k 0
def AL (P:Program):Nat->TypeId->DataW Unit->List GC->Bool
 | 0,_,_,_=>false
 | n+1,t,d,l=>match P.underlying t,d with
  | some (.int k),.lit (.int k' z)=>match l with
   | [.int k'' z']=>decide (k=k'/\k'=k''/\z=z')
   | _=>false
  | some (.interface _),.iface _ _=>match l with
   | [.ifc]=>true
   | _=>false
  | some (.array m e),.agg ps=>decide (l.length=P.cellsOf t)&&decide (P.cellsOf t=m*P.cellsOf e)&&decide (ps.length=m)&&(List.range m).all λ i=>match ps[i]? with
   | some x=>AL P n e x ((l.drop (i*P.cellsOf e)).take (P.cellsOf e))
   | none=>false
  | some (.struct fs),.agg ps=>decide (l.length=P.cellsOf t)&&decide (ps.length=fs.size)&&((List.range fs.size).all λ i=>match fs[i]?,ps[i]? with
   | some f,some x=>AL P n f.type x ((l.drop f.offset).take (P.cellsOf f.type))
   | _,_=>false)&&(List.range l.length).all λ j=>(List.range fs.size).any λ i=>match fs[i]? with
   | some f=>decide (f.offset<=j)&&decide (j<f.offset+P.cellsOf f.type)
   | none=>false
  | _,_=>false
def GC.has:GC->Value->Prop|.int k n,v=>v=.int k n|.ifc,v=>∃ t u,v=.iface t u|.some k,v=>∃ m,v=.int k m
theorem GC.rep {c:GC}{v:Value}(h:c.has v)(w:World)(st:Nat->Nat->Prop):PRep w st c.pv v:=by
 cases c with
 | int k n=>cases h; exact .val _
 | ifc=>obtain ⟨t,u,rfl⟩:=h; exact .ifc t u
 | some k=>obtain ⟨m,rfl⟩:=h; exact .aint k m
theorem sW {α:Type}{l:List α}{a s r:Nat}(hr:r<s):((l.drop a).take s)[r]? = l[a+r]?:=by
 rw [List.getElem?_take_of_lt hr,List.getElem?_drop]
theorem Cj {P:Program}{w:World}{base:Nat}{sp:Nat->Bool}:∀ (n fuel:Nat) (t:TypeId) (d:DataW Unit) (l:List GC) (cs:List Value) (p:List MemPlace),AL P n t d l=true ->
  DataW.trod (λ _=>()) P w base sp false fuel t cs=some (d,p)->cs.length=l.length/\∀ (j:Nat) c v,l[j]? = some c->cs[j]? = some v->c.has v:=by
 intro n
 induction n with
 | zero=>intro _ _ _ _ _ _ h; cases h
 | succ n ih=>
  intro fuel t d l cs p h ht;unfold AL at h;split at h
  ·rename_i k k' z hu;split at h
   ·obtain ⟨rfl,rfl,rfl⟩:=of_decide_eq_true h;obtain ⟨m,rfl,hx,_⟩:=DataW.trod_int hu ht;simp only [Prod.mk.injEq,DataW.lit.injEq,Lit.int.injEq] at hx;obtain ⟨⟨_,rfl⟩,_⟩:=hx;refine ⟨rfl,λ j c v h1 h2=>?_⟩
    cases j with
    | zero=>cases h1; cases h2; rfl
    | succ j=>cases h1
   ·cases h
  ·rename_i ms nm x hu;split at h
   ·cases fuel with
    | zero=>simp [DataW.trod] at ht
    | succ m=>
     unfold DataW.trod at ht;rw [hu] at ht;split at ht <;> simp_all;refine λ j c v h1 h2=>?_
     cases j with
     | zero=>simp at h1 h2; subst h1 h2; exact ⟨_,_,rfl⟩
     | succ j=>simp at h1
   ·cases h
  ·rename_i m e ps hu;simp only [ph,decide_eq_true_eq] at h;obtain ⟨⟨⟨h1,h2⟩,h3⟩,h4⟩:=h;obtain ⟨xs,f,rfl,hx,hl,hxl,hall⟩:=DataW.trod_array hu ht;simp only [Prod.mk.injEq,DataW.agg.injEq] at hx;obtain ⟨rfl,_⟩:=hx;refine ⟨hl.trans h1.symm,λ j c v hc hv=>?_⟩
   have hj:j<m*P.cellsOf e:=by
    rw [<- h2,<- h1]; exact (List.getElem?_eq_some_iff.1 hc).1
   have hs:0<P.cellsOf e:=Nat.pos_of_ne_zero λ e0=>by rw [e0] at hj; omega
   have hi:j / P.cellsOf e<m:=Nat.div_lt_of_lt_mul (by rwa [Nat.mul_comm]);have hr:j%P.cellsOf e<P.cellsOf e:=Nat.mod_lt _ hs;have ej:j / P.cellsOf e*P.cellsOf e+j%P.cellsOf e=j:=by rw [Nat.mul_comm]; exact Nat.div_add_mod _ _
   have hk:=rd.1 h4 (j / P.cellsOf e) (List.mem_range.2 hi);split at hk
   ·rename_i x hx;rw [List.getElem?_map] at hx;obtain ⟨y,hy,rfl⟩:=mv.1 hx;have hy':=hall _ hi;rw [hy] at hy';have:=(ih f e y.1 _ _ y.2 hk (by rw [hy'])).2 (j%P.cellsOf e) c v (by rw [sW hr,ej]; exact hc) (by rw [sW hr,ej]; exact hv);exact this
   ·cases hk
  ·rename_i fs ps hu;simp only [ph,decide_eq_true_eq] at h;obtain ⟨⟨⟨h1,h3⟩,h4⟩,h5⟩:=h;obtain ⟨xs,f,rfl,hx,hl,hxl,hall⟩:=DataW.trod_struct hu ht;simp only [Prod.mk.injEq,DataW.agg.injEq] at hx;obtain ⟨rfl,_⟩:=hx;refine ⟨hl.trans h1.symm,λ j c v hc hv=>?_⟩;have hj:j<l.length:=(List.getElem?_eq_some_iff.1 hc).1;obtain ⟨i,hi,hin⟩:=List.any_eq_true.1 (rd.1 h5 j (List.mem_range.2 hj));have hk:=rd.1 h4 i hi;split at hin
   ·rename_i fd hfd;simp only [ph,decide_eq_true_eq] at hin;rw [hfd] at hk;split at hk
    ·rename_i f' x e1 hx
     cases e1
     rw [List.getElem?_map] at hx;obtain ⟨y,hy,rfl⟩:=mv.1 hx;have hy':=hall _ _ hfd;rw [hy] at hy';have ej:fd.offset+(j-fd.offset)=j:=by omega
     exact (ih f fd.type y.1 _ _ y.2 hk (by rw [hy'])).2 (j-fd.offset) c v (by rw [sW O,ej]; exact hc) (by rw [sW O,ej]; exact hv)
    ·cases hk
   ·cases hin
  ·cases h
theorem tX {P:Program}{w:World}:∀ {l:List (String×DataW Unit)} {ps:List MemPlace},DataW.LaidVars P w l ps->∀ n d,(n,d)∈l ->
  ∃ g t cs fuel p,P.globalNamed n=some g/\(P.globals[g]?).map (·.type)=some t/\w.var? P n=some cs/\DataW.trod (λ _=>()) P w 0 (λ _=>true) false fuel t cs.toList=some (d,p)
 | [],_,_,_,_,hm=>by cases hm
 | (n',d')::r,ps,h,n,d,hm=>by
  obtain ⟨g,t,cs,fuel,p,q,h1,h2,h3,h4,h5,_⟩:=h;rcases List.mem_cons.1 hm with e|e
  ·cases e
   exact ⟨g,t,cs,fuel,p,h1,h2,h3,h4⟩
  ·exact tX h5 n d e
def wq (P:Program)(g:Nat)(l:List GC):Bool:=match l with
 | [.some k]=>decide (g<P.globals.size)&&match ((begin P (λ _ _=>0) default).world.heap[g]?).bind Obj.row? with
  | some (zero,t)=>decide (zero.size=1)&&P.buildable t&&decide (P.cellTypes P.depth t=some [t])&&(match P.underlying t with
   | some (.int k')=>decide (k'=k)
   | _=>false)
  | none=>false
 | _=>false
theorem xG {P:Program}{w:World}{g:Nat}{l:List GC}(h:wq P g l=true)(hsh:w.ShapedOpen P):∃ k cs t,l=[.some k]/\w.heap[g]? = some (.cells cs t)/\cs.size=1/\∃ m,w.cell? ⟨g,0,none⟩=some (.int k m):=by
 unfold wq at h;split at h
 ·rename_i k;simp only [ph,decide_eq_true_eq] at h;obtain ⟨hg,h⟩:=h;split at h
  ·rename_i zero t h0;simp only [ph,decide_eq_true_eq] at h;obtain ⟨⟨⟨h1,h2⟩,h3⟩,h4⟩:=h;split at h4
   ·rename_i k' hu;obtain rfl:=of_decide_eq_true h4;obtain ⟨cs,hh,hs,_⟩:=hsh.1 g zero t hg h0;exact ⟨k',cs,t,rfl,hh,hs.trans h1,Go.Proofs.cell_of_shapedOpen_int hsh hg h0 h1 h2 h3 hu⟩
   ·cases h4
  ·cases h
 ·cases h
def qN (P:Program)(laid:List (String×DataW Unit)):Bool :=
 qQ.all λ x=>wq P x.1 x.2||laid.any λ y=>P.globalNamed y.1==some x.1&&match (P.globals[x.1]?).map (·.type) with
  | some t=>AL P 6 t y.2 x.2
  | none=>false
theorem zB {α:Type}{l:List (Nat×α)}{g:Nat}{v:α}(h:look l g=some v):(g,v)∈l:=by
 induction l with
 | nil=>cases h
 | cons x r ih=>
  obtain ⟨j,y⟩:=x;unfold look at h
  cases hb:Nat.beq j g with
  | true=>rw [hb] at h; cases h; rw [cl hb]; exact List.mem_cons_self
  | false=>rw [hb] at h; exact List.mem_cons_of_mem _ (ih h)
theorem sX {P:Program}{laid:List (String×DataW Unit)}{w:World}(hc:qN P laid=true)(h:laidMet P laid w)(hsh:w.ShapedOpen P):lQ w (λ b _=>b<w.heap.size):=by
 intro g cs hg;obtain ⟨l,hl,rfl⟩:=mv.1 hg;rcases Bool.or_eq_true_iff.1 (rd.1 hc _ (zB hl)) with hs|hk
 ·obtain ⟨k,cs,t,rfl,hh,EH,m,hm⟩:=xG hs hsh;have hlt:g<w.heap.size:=(Array.getElem?_eq_some_iff.1 hh).1;refine ⟨λ j c hj=>⟨hlt,?_⟩,hlt,?_⟩
  ·cases j with
   | zero=>cases hj; exact ⟨_,hm,.aint k m⟩
   | succ j=>simp at hj
  ·show w.cell? ⟨g,1,none⟩=none;simp [World.cell?,hh,EH]
 obtain ⟨y,hy,hk⟩:=List.any_eq_true.1 hk;simp only [ph,beq_iff_eq] at hk;obtain ⟨hn,hk⟩:=hk;obtain ⟨ps,hv,_⟩:=h;obtain ⟨g',t,vs,fuel,p,h1,h2,h3,h4⟩:=tX hv y.1 y.2 hy;obtain rfl:=Option.some.inj (hn.symm.trans h1);rw [h2] at hk;obtain ⟨EK,Gz⟩:=Cj 6 fuel t y.2 l vs.toList p hk h4;have EM:=λ j=>World.var?_cell h1 h3 j
 have hlt:g<w.heap.size:=by
  rcases Nat.lt_or_ge g w.heap.size with q|q
  ·exact q
  ·simp [World.var?,h1,Array.getElem?_eq_none q] at h3
 refine ⟨λ j c hj=>⟨hlt,?_⟩,hlt,?_⟩
 ·rw [List.getElem?_map] at hj;obtain ⟨c,hjc,rfl⟩:=mv.1 hj
  have hjl:j<vs.size:=by
   have:=(List.getElem?_eq_some_iff.1 hjc).1;rw [<- EK] at this; simpa using this
  have hv':vs.toList[j]? = some vs[j]:=by simp [hjl]
  refine ⟨vs[j],by rw [EM]; simp [hjl],GC.rep (Gz j c _ hjc hv') _ _⟩
 ·rw [EM,d3,<- EK];simp
set_option autoImplicit false
inductive ar where
 | mk (AI:Int) (Em:Int) (Ep:Bk) (Ei:List ar) (El:List Bk)
def ar.AI:ar->Int|.mk x _ _ _ _=>x
def ar.Em:ar->Int|.mk _ x _ _ _=>x
def ar.Ep:ar->Bk|.mk _ _ x _ _=>x
def ar.Ei:ar->List ar|.mk _ _ _ x _=>x
def ar.El:ar->List Bk|.mk _ _ _ _ x=>x
instance:Inhabited ar:=⟨.mk 0 0 [] [] []⟩
mutual
def ar.ccs:ar->List PV|.mk AI Em Ep Ei El=>[eI AI]++[eI Em]++[eS Ep]++[.slice (ar.els Ei)]++[eL eS El]
def ar.els:List ar->List PV|[]=>[]|x::r=>.agg (ar.ccs x)::ar.els r
end
def bw (x:ar):PV:=.agg (ar.ccs x)
theorem ar.els_eq:∀ l,ar.els l=l.map bw
 | []=>by simp only [ar.els,bx]
 | x::r=>by simp only [ar.els,aq,ar.els_eq r,bw]
def ar.cs (x:ar):List PV:=[eI x.AI,eI x.Em,eS x.Ep,eL bw x.Ei,eL eS x.El]
theorem ar.Ex (x:ar):ar.ccs x=ar.cs x:=by
 cases x
 simp only [ar.ccs,ar.cs,eL,List.cons_append,List.nil_append,ar.els_eq,ar.AI,ar.Em,ar.Ep,ar.Ei,ar.El]
theorem ar.BY (x:ar):(bw x).cells=ar.cs x:=ar.Ex x
theorem ar.Ef (x:ar):bw x=.agg (ar.cs x):=congrArg PV.agg (ar.Ex x)
theorem ar.eta (x:ar):ar.mk x.AI x.Em x.Ep x.Ei x.El=x:=by cases x; rfl
inductive ag where
 | mk (AI:Int) (fOp:Int) (By:Bk) (Eo:Bk) (C':ar) (B':List ag) (fAt:Int)
def ag.AI:ag->Int|.mk x _ _ _ _ _ _=>x
def ag.fOp:ag->Int|.mk _ x _ _ _ _ _=>x
def ag.By:ag->Bk|.mk _ _ x _ _ _ _=>x
def ag.Eo:ag->Bk|.mk _ _ _ x _ _ _=>x
def ag.C':ag->ar|.mk _ _ _ _ x _ _=>x
def ag.B':ag->List ag|.mk _ _ _ _ _ x _=>x
def ag.fAt:ag->Int|.mk _ _ _ _ _ _ x=>x
instance:Inhabited ag:=⟨.mk 0 0 [] [] default [] 0⟩
mutual
def ag.ccs:ag->List PV|.mk AI fOp By Eo C' B' fAt=>[eI AI]++[eI fOp]++[eS By]++[eS Eo]++[eI C'.AI,eI C'.Em,eS C'.Ep,eL bw C'.Ei,eL eS C'.El]++[.slice (ag.els B')]++[eI fAt]
def ag.els:List ag->List PV|[]=>[]|x::r=>.agg (ag.ccs x)::ag.els r
end
def aw (x:ag):PV:=.agg (ag.ccs x)
theorem ag.els_eq:∀ l,ag.els l=l.map aw
 | []=>by simp only [ag.els,bx]
 | x::r=>by simp only [ag.els,aq,ag.els_eq r,aw]
def ag.cs (x:ag):List PV:=[eI x.AI,eI x.fOp,eS x.By,eS x.Eo,eI x.C'.AI,eI x.C'.Em,eS x.C'.Ep,eL bw x.C'.Ei,eL eS x.C'.El,eL aw x.B',eI x.fAt]
theorem ag.Ex (x:ag):ag.ccs x=ag.cs x:=by
 cases x
 simp only [ag.ccs,ag.cs,eL,List.cons_append,List.nil_append,ag.els_eq,ag.AI,ag.fOp,ag.By,ag.Eo,ag.C',ag.B',ag.fAt]
theorem ag.BY (x:ag):(aw x).cells=ag.cs x:=ag.Ex x
theorem ag.Ef (x:ag):aw x=.agg (ag.cs x):=congrArg PV.agg (ag.Ex x)
theorem ag.eta (x:ag):ag.mk x.AI x.fOp x.By x.Eo x.C' x.B' x.fAt=x:=by cases x; rfl
structure ac where
 By:Bk
 Ej:ag
 fAt:Int
 deriving Inhabited
def ac.cs (x:ac):List PV:=[eS x.By,eI x.Ej.AI,eI x.Ej.fOp,eS x.Ej.By,eS x.Ej.Eo,eI x.Ej.C'.AI,eI x.Ej.C'.Em,eS x.Ej.C'.Ep,eL bw x.Ej.C'.Ei,eL eS x.Ej.C'.El,eL aw x.Ej.B',eI x.Ej.fAt,eI x.fAt]
def ae (x:ac):PV:=.agg (ac.cs x)
theorem ac.BY (x:ac):(ae x).cells=ac.cs x:=rfl
theorem ac.Ef (x:ac):ae x=.agg (ac.cs x):=rfl
mutual
inductive av where
 | mk (A':List ac) (Ar:List al)
inductive al where
 | mk (Eg:Bk) (Df:List Bk) (Es:av) (fAt:Int)
end
def av.A':av->List ac|.mk x _=>x
def av.Ar:av->List al|.mk _ x=>x
def al.Eg:al->Bk|.mk x _ _ _=>x
def al.Df:al->List Bk|.mk _ x _ _=>x
def al.Es:al->av|.mk _ _ x _=>x
def al.fAt:al->Int|.mk _ _ _ x=>x
instance:Inhabited av:=⟨.mk [] []⟩
instance:Inhabited al:=⟨.mk [] [] default 0⟩
mutual
def av.ccs:av->List PV|.mk A' Ar=>[eL ae A']++[.slice (al.els Ar)]
def al.ccs:al->List PV|.mk Eg Df Es fAt=>[eS Eg]++[eL eS Df]++av.ccs Es++[eI fAt]
def al.els:List al->List PV|[]=>[]|x::r=>.agg (al.ccs x)::al.els r
end
def Ao (x:av):PV:=.agg (av.ccs x)
def am (x:al):PV:=.agg (al.ccs x)
theorem al.els_eq:∀ l,al.els l=l.map am
 | []=>by simp only [al.els,bx]
 | x::r=>by simp only [al.els,aq,al.els_eq r,am]
def av.cs (x:av):List PV:=[eL ae x.A',eL am x.Ar]
theorem av.Ex (x:av):av.ccs x=av.cs x:=by
 cases x
 simp only [av.ccs,av.cs,eL,List.cons_append,List.nil_append,al.els_eq,av.A',av.Ar]
def al.cs (x:al):List PV:=[eS x.Eg,eL eS x.Df,eL ae x.Es.A',eL am x.Es.Ar,eI x.fAt]
theorem al.Ex (x:al):al.ccs x=al.cs x:=by
 cases x
 simp only [al.ccs,al.cs,eL,List.cons_append,List.nil_append,av.Ex,av.cs,al.Eg,al.Df,al.Es,al.fAt]
theorem av.BY (x:av):(Ao x).cells=av.cs x:=av.Ex x
theorem av.Ef (x:av):Ao x=.agg (av.cs x):=congrArg PV.agg (av.Ex x)
theorem av.eta (x:av):av.mk x.A' x.Ar=x:=by cases x; rfl
theorem al.BY (x:al):(am x).cells=al.cs x:=al.Ex x
theorem al.Ef (x:al):am x=.agg (al.cs x):=congrArg PV.agg (al.Ex x)
theorem al.eta (x:al):al.mk x.Eg x.Df x.Es x.fAt=x:=by cases x; rfl
structure aE where
 AI:Int
 fAt:Int
 By:Bk
 deriving Inhabited,DecidableEq
def aE.cs (x:aE):List PV:=[eI x.AI,eI x.fAt,eS x.By]
def Bw (x:aE):PV:=.agg (aE.cs x)
theorem aE.BY (x:aE):(Bw x).cells=aE.cs x:=rfl
theorem aE.Ef (x:aE):Bw x=.agg (aE.cs x):=rfl
structure au where
 AI:Int
 Eh:Bk
 fAt:Int
 deriving Inhabited,DecidableEq
def au.cs (x:au):List PV:=[eI x.AI,eS x.Eh,eI x.fAt]
def ax (x:au):PV:=.agg (au.cs x)
theorem au.BY (x:au):(ax x).cells=au.cs x:=rfl
theorem au.Ef (x:au):ax x=.agg (au.cs x):=rfl
structure aj where
 fl:List au
 fat:Int
 AT:aE
 deriving Inhabited,DecidableEq
def aj.cs (x:aj):List PV:=[eL ax x.fl,eI x.fat,eI x.AT.AI,eI x.AT.fAt,eS x.AT.By]
def qa (x:aj):PV:=.agg (aj.cs x)
theorem aj.BY (x:aj):(qa x).cells=aj.cs x:=rfl
theorem aj.Ef (x:aj):qa x=.agg (aj.cs x):=rfl
structure cy where
 fL:List au
 fI:Int
 fIn:Int
 fD:aE
 deriving Inhabited,DecidableEq
def cy.cs (x:cy):List PV:=[eL ax x.fL,eI x.fI,eI x.fIn,eI x.fD.AI,eI x.fD.fAt,eS x.fD.By]
def wJ (x:cy):PV:=.agg (cy.cs x)
theorem cy.BY (x:cy):(wJ x).cells=cy.cs x:=rfl
theorem cy.Ef (x:cy):wJ x=.agg (cy.cs x):=rfl
structure bP where
 fcount:Int
 deriving Inhabited,DecidableEq
def bP.cs (x:bP):List PV:=[eI x.fcount]
def vj (x:bP):PV:=.agg (bP.cs x)
theorem bP.BY (x:bP):(vj x).cells=bP.cs x:=rfl
theorem bP.Ef (x:bP):vj x=.agg (bP.cs x):=rfl
structure ah where
 fl:List au
 fat:Int
 Er:Int
 Eq:Int
 AT:aE
 deriving Inhabited,DecidableEq
def ah.cs (x:ah):List PV:=[eL ax x.fl,eI x.fat,eI x.Er,eI x.Eq,eI x.AT.AI,eI x.AT.fAt,eS x.AT.By]
def w5 (x:ah):PV:=.agg (ah.cs x)
theorem ah.BY (x:ah):(w5 x).cells=ah.cs x:=rfl
theorem ah.Ef (x:ah):w5 x=.agg (ah.cs x):=rfl
structure aB where
 fs:Bk
 fat:Int
 fi:Int
 Ek:Int
 En:Bk
 D':List ag
 Et:Bool
 deriving Inhabited
def aB.cs (x:aB):List PV:=[eS x.fs,eI x.fat,eI x.fi,eI x.Ek,eS x.En,eL aw x.D',eB x.Et]
def ta (x:aB):PV:=.agg (aB.cs x)
theorem aB.BY (x:aB):(ta x).cells=aB.cs x:=rfl
theorem aB.Ef (x:aB):ta x=.agg (aB.cs x):=rfl
end Go.Ab
end
section
namespace Go.Ab
theorem ay {C:Cx}(s:AS):cB C s s:=λ g _ _ hs=>⟨g,hs⟩
theorem aK {C:Cx}{s t u:AS}(h:cB C s t)(k:cB C t u):cB C s u:=λ g a w hs=>by
 obtain ⟨g',hs'⟩:=h g a w hs;exact k g' a w hs'
theorem zM {C:Cx}{c:Code}{Q:Exit->AS->Prop}{s:AS}{σ O0z:Type}(mk:σ->AS)(lp:Nat->σ->Option O0z)(hz:∀ q,lp 0 q=none){o:O0z}{n:Nat}(q0:σ)(h0:lp n q0=some o)(hle:cB C s (mk q0))
  (round:∀ m q,lp (m+1) q=some o->awp C c (qF (λ s'=>∃ q',lp m q'=some o/\cB C s' (mk q')) Q) (mk q)):awp C (.loop c) Q s:=by
 refine rn hle ?_;intro g a w hs
 let J:Act->World->Nat->Prop:=λ a w m=>∃ g q,St C.n C.w0 C.F g (mk q) a w/\lp m q=some o
 have hJ:∀ a w m,J a w m->∃ m0,J a w m0/\∀ m',J a w m'->m0<=m':=by
  intro a w m
  induction m using Nat.strongRecOn with
  | _ m ih=>
   intro hm;by_cases h:∃ m',m'<m/\J a w m'
   ·obtain ⟨m',h1,h2⟩:=h; exact ih m' h1 h2
   ·exact ⟨m,hm,λ m' h'=>Nat.le_of_not_lt λ hlt=>h ⟨m',hlt,h'⟩⟩
 let M:Act->World->Nat:=λ a w=>by
  classical
  exact if h:∃ m0,J a w m0/\∀ m',J a w m'->m0<=m' then Classical.choose h else 0
 have hM:∀ a w m,J a w m->J a w (M a w)/\M a w<=m:=by
  intro a w m hm;have h:=hJ a w m hm;have e:M a w=Classical.choose h:=by simp only [M]; rw [dif_pos h]
  rw [e];exact ⟨(Classical.choose_spec h).1,(Classical.choose_spec h).2 m hm⟩
 refine wp_loop (λ a w=>∃ m,J a w m) M ⟨n,g,q0,hs,h0⟩ ?_;rintro a w ⟨m,hm⟩;obtain ⟨⟨g1,q1,hs1,hI1⟩,_⟩:=hM a w m hm;generalize hMm:M a w=mm at hI1
 cases mm with
 | zero=>rw [hz] at hI1; cases hI1
 | succ mm=>
  refine wp_mono (round mm q1 hI1 g1 a w hs1) ?_;rintro e a' w' ⟨g',s',h1,h2⟩
  cases e with
  | normal=>
   obtain ⟨q',hI',hgh⟩:=h2;obtain ⟨g2,hs2⟩:=hgh g' a' w' h1;have hj:J a' w' mm:=⟨g2,q',hs2,hI'⟩
   refine ⟨⟨_,hj⟩,?_⟩;have:=(hM a' w' _ hj).2;omega
  | exit id=>exact ⟨g',s',h1,h2⟩
  | goto l=>exact ⟨g',s',h1,h2⟩
  | ret=>exact ⟨g',s',h1,h2⟩
  | panic ch=>exact ⟨g',s',h1,h2⟩
  | outgrown=>exact ⟨g',s',h1,h2⟩
def nC (tt:List (Nat×TI)):List ResultVar->AS->Option (List AV)
 | [],_=>some []
 | .tmp t::r,s=>match look s.sl t,nC tt r s with
  | some x,some l=>some (x::l)
  | _,_=>none
 | .cell c t::r,s=>match look s.sl c with
  | some (.ptr id k)=>match look s.ob id,look tt t,nC tt r s with
   | some cs,some i,some l=>bif i.k.isAgg then (bif Nat.ble (k+i.size) cs.length then some (lM ((cs.drop k).take i.size)::l) else none) else (match cs[k]? with
    | some y=>some (y::l)
    | none=>none)
   | _,_,_=>none
  | _=>none
def Ac (tt:List (Nat×TI))(fn:Func)(R:AV->Prop)(e:Exit)(s:AS):Prop:=(e=.normal\/e=.ret)/\∃ l,nC tt fn.results.toList s=some l/\R (rQ l)
theorem oG {tt:List (Nat×TI)}{fn:Func}{R:AV->Prop}{s:AS}{l:List AV}(h:nC tt fn.results.toList s=some l)(hR:R (rQ l)):Ac tt fn R .ret s:=⟨.inr Z,l,h,hR⟩
theorem uS {P:Program}{tt:List (Nat×TI)}(good:dD P tt){n:Nat}{w0:Base}{w:World}{F:Nat->Prop}{g:Gh}{s:AS}{a:Act}(hs:St n w0 F g s a w){c id k t:Nat}{cs:List AV}{i:TI}{y:AV}
  (hc:look s.sl c=some (.ptr id k)) (hob:look s.ob id=some cs) (hi:look tt t=some i)
  (hy:(i.k.isAgg=true/\k+i.size<=cs.length/\y=lM ((cs.drop k).take i.size))\/(i.k.isAgg=false/\cs[k]? = some y)) :
  ∃ v,(wk a.tmps (.cell c t)).run P w=.ok v w/\ARep w g y v:=by
 have h5:=hs.sl c;simp only [AS.get,hc,n8] at h5;generalize hv:a.tmps.getD c Go.undef=v at h5
 cases h5 with
 | ptr how=>
  rename_i b;obtain ⟨b',cc,e,k1,k2,k3,k4,k5⟩:=hs.ob id cs hob;rw [how] at k1; cases k1;rcases hy with ⟨hia,hl,rfl⟩|⟨hia,hy⟩
  ·have EM:∀ j,j<i.size->w.cell? ⟨b,k+j,none⟩=some (cc.getD (k+j) Go.undef):=by
    intro j hj;rw [mV hs k2];have:k+j<cc.size:=by omega
    simp [Array.getD,this]
   have hld:=nu good hi hia (f:=λ j=>cc.getD (k+j) Go.undef) EM;refine ⟨.agg ((List.range i.size).map λ j=>cc.getD (k+j) Go.undef).toArray,by simp only [wk,hv,asAddr,Sem.run_bind,Sem.run_pure,Result.andThen_ok,hld],pK (by simp; omega) λ j y v h1 h2=>?_⟩;rw [List.getElem?_take] at h1;split at h1
   ·rename_i hj;rw [List.getElem?_drop] at h1;obtain ⟨u,hu,hr⟩:=k5 (k+j) y h1;simp only [List.getElem?_toArray,List.getElem?_map,List.getElem?_range hj,Option.map_some,bt] at h2;rw [<- h2,Array.getD_eq_getD_getElem?,hu];exact hr
   ·cases h1
  ·obtain ⟨u,hu,hr⟩:=k5 k y hy;have hcc:=(mV hs k2 k).trans hu;exact ⟨u,by simp only [wk,hv,asAddr,Sem.run_bind,Sem.run_pure,Result.andThen_ok,pp good hi hia hcc],hr⟩
theorem BH {P:Program}{tt:List (Nat×TI)}(good:dD P tt){n:Nat}{w0:Base}{w:World}{F:Nat->Prop}{g:Gh}{s:AS}{a:Act}(hs:St n w0 F g s a w)(rs:List ResultVar) :
  ∀ l,nC tt rs s=some l->∃ vs:List Value,
   (rs.mapM (wk a.tmps)).run P w=.ok vs w/\vs.length=l.length /\
    ∀ (i:Nat) c v,l[i]? = some c->vs[i]? = some v->ARep w g c v:=by
 induction rs with
 | nil=>intro l h; simp only [nC,bt] at h; subst h; exact ⟨[],by simp,rfl,by simp⟩
 | cons r rs ih=>
  intro l h
  have fin:∀ (y:AV) (l':List AV) (v:Value),l=y::l'->nC tt rs s=some l'->(wk a.tmps r).run P w=.ok v w->ARep w g y v->∃ vs:List Value,
    ((r::rs).mapM (wk a.tmps)).run P w=.ok vs w/\vs.length=l.length/\∀ (i:Nat) c v,l[i]? = some c->vs[i]? = some v->ARep w g c v:=by
   intro y l' v e h1 h2 h3;subst e;obtain ⟨vs,k1,k2,k3⟩:=ih l' h1;refine ⟨v::vs,by simp only [List.mapM_cons,Sem.run_bind,h2,Sem.run_pure,Result.andThen_ok,k1],by simp [k2],λ i c u h5 h6=>?_⟩
   cases i with
   | zero=>simp only [List.getElem?_cons_zero,bt] at h5 h6; subst h5 h6; exact h3
   | succ i=>simp only [List.getElem?_cons_succ] at h5 h6; exact k3 i c u h5 h6
  cases r with
  | tmp t=>
   have ht:=hs.sl t;simp only [nC] at h;split at h
   case h_2=>cases h
   rename_i x l' hx h1
   cases h
   simp only [AS.get,hx,n8] at ht;exact fin x l' _ rfl h1 (by simp only [wk,Sem.run_pure]) ht
  | cell c t=>
   simp only [nC] at h;split at h
   case h_2=>cases h
   rename_i id k hc;split at h
   case h_2=>cases h
   rename_i cs i l' hob hi h1
   cases hia:i.k.isAgg
   ·rw [hia,cond_false] at h;split at h
    ·rename_i y hy
     cases h
     obtain ⟨v,h2,h3⟩:=uS good hs hc hob hi (.inr ⟨hia,hy⟩);exact fin y l' v rfl h1 h2 h3
    ·cases h
   ·rw [hia,cond_true] at h
    cases hb:Nat.ble (k+i.size) cs.length
    ·rw [hb,cond_false] at h; cases h
    ·rw [hb,cond_true] at h
     cases h
     obtain ⟨v,h2,h3⟩:=uS good hs hc hob hi (.inl ⟨hia,n6 hb,rfl⟩);exact fin _ l' v rfl h1 h2 h3
theorem lZ {P:Program}{tt:List (Nat×TI)}(good:dD P tt){n:Nat}{w0:Base}{w:World}{F:Nat->Prop}{g:Gh}{s:AS}{a:Act}(hs:St n w0 F g s a w)(fn:Func)(l:List AV)(h:nC tt fn.results.toList s=some l) :
  ∃ v,(results fn a.tmps).run P w=.ok v w/\ARep w g (rQ l) v:=by
 obtain ⟨vs,h2,h3,h4⟩:=BH good hs _ l h;refine ⟨if h:vs.length=1 then vs[0] else .tuple vs.toArray,?_,?_⟩
 ·rw [uq,Array.mapM_eq_mapM_toList];simp only [Sem.run_bind,Sem.run_map,h2,Result.andThen_ok,Sem.run_pure,List.size_toArray];congr 1
 ·by_cases e:vs.length=1
  ·rw [dif_pos e];obtain ⟨v,rfl⟩:=List.length_eq_one_iff.1 e;obtain ⟨x,rfl⟩:=List.length_eq_one_iff.1 (h3.symm.trans e);exact h4 0 x v Z Z
  ·rw [dif_neg e]
   have e2:rQ l=.tuple l:=by
    match l,h3 with
    | [],_=>rfl
    | [x],h3=>exact absurd h3 e
    | x::y::r,_=>rfl
   rw [e2];exact .tuple (by simpa using h3) (λ i c v h5 h6=>h4 i c v h5 (by simpa using h6))
theorem aZ {P:Program}{tt:List (Nat×TI)}(good:dD P tt){f:FuncId}{fn:Func}{c:Code}{args:List PV}{r:AV}(hf:P.funcs[f]? = some fn)(hb:fn.body=some c)(hn:Nat.ble args.length fn.ntmps=true)(hnl:Nat.ble fn.ntmps M1=true)
  (h:∀ w0,awp ⟨P,tt,good,fn.ntmps,hnl,w0,λ b=>b<w0.w.heap.size⟩ c (Ac tt fn (λ x=>x.sub r)) ⟨tn args,[]⟩):aF P f args (·=r):=by
 refine aF.of_sub ?_;intro w st vs h0 h1 h2;refine calls_of_wp hf hb ?_;have hn:=n6 hn
 have hs:St fn.ntmps ⟨w,st,λ _=>none,h0.gl,(λ _ _ h=>nomatch h),[]⟩ (λ b=>b<w.heap.size) ⟨st,λ _=>none⟩ ⟨tn args,[]⟩ { tmps:=vs++Array.replicate (fn.ntmps-vs.size) Go.undef,defers:=[] } w:=by
  refine ⟨rfl,?_,?_,?_,?_,?_,?_,?_,?_,rfl,rfl,rfl,ld _,λ b _ o=>Iff.rfl,λ _ _ _=>rfl,j5.refl _ _,λ i b _ h=>(by cases h),Ev.refl _ _⟩
  ·simp only [Array.size_append,Array.size_replicate]; omega
  ·intro i;have:=uC args 0 i;simp only [AS.get,tn,this,Nat.zero_le,if_true,Nat.sub_zero]
   cases ha:args[i]? with
   | none=>exact .undef _
   | some x=>
    have hi:i<args.length:=(List.getElem?_eq_some_iff.1 ha).1;have hi2:i<vs.size:=by omega
    have e:(vs++Array.replicate (fn.ntmps-vs.size) Go.undef).getD i Go.undef=vs[i]:=by
     simp [Array.getD_eq_getD_getElem?,Array.getElem?_append,hi2]
    simp only [Option.map_some,n8];rw [e];exact .p (h2 i x _ ha (Array.getElem?_eq_getElem hi2))
  ·intro id cs h; simp [look] at h
  ·intro i j b h; simp at h
  ·intro i b h; simp at h
  ·intro b o h; exact h0.lt b o h
  ·intro b h; exact h
  ·intro b h; rfl
 refine wp_mono (h ⟨w,st,λ _=>none,h0.gl,(λ _ _ h=>nomatch h),[]⟩ _ _ w hs) ?_;rintro e a' w' ⟨g',s',h3,he,l,hl,hR⟩;obtain ⟨v,hv,hr⟩:=lZ good h3 fn l hl
 have fin:∃ v,(results fn a'.tmps).run P w'=.ok v w'/\∃ v1 r1 g',Ending.returned v=.returned v1/\r1.sub r/\ARep w' g' r1 v1/\After w st w' g':=by
  refine ⟨v,hv,v,_,g',Z,hR,hr,⟨h3.os,h3.out,h3.tape,h3.size,λ b hb=>h3.fr b hb,λ i b hi=>?_,h3.inj,h3.lt,h3.stf⟩⟩;have:=h3.own i b hi;exact ⟨Nat.le_of_not_lt this.2,this.1⟩
 rcases he with rfl|rfl
 ·exact ⟨h3.nd,fin⟩
 ·exact ⟨h3.nd,fin⟩
def v6 (k d i:Nat):Option Nat:=bif Nat.beq i k then some d else bif Nat.beq i d then none else some i
def AA (k d:Nat):List (Nat×AV)->Option (List (Nat×AV))
 | []=>some []
 | (i,x)::r=>match x.mapA (v6 k d),AA k d r with
  | some y,some q=>some ((i,y)::q)
  | _,_=>none
theorem vc {k d:Nat}:∀ {sl q:List (Nat×AV)},AA k d sl=some q->∀ i,match look sl i,look q i with
  | some x,some y=>x.mapA (v6 k d)=some y
  | none,none=>True
  | _,_=>False
 | [],q,h,i=>by simp only [AA,bt] at h; subst h; simp [look]
 | (j,x)::r,q,h,i=>by
  simp only [AA] at h;split at h
  ·rename_i y q' hy hq
   cases h
   have ih:=vc hq i;simp only [a6];by_cases e:j=i
   ·simp [e,hy]
   ·simp only [if_neg e]; exact ih
  ·cases h
theorem Bo {k d:Nat}(_E2:k≠d):∀ i j x,v6 k d i=some x->v6 k d j=some x->i=j:=by
 intro i j x h1 h2;unfold v6 at h1 h2;have hb:∀ {a b:Nat},Nat.beq a b=true->a=b:=cl;have hf:∀ {a b:Nat},Nat.beq a b=false->a≠b:=λ h e=>by subst e; simp at h
 cases a1:Nat.beq i k <;> cases b1:Nat.beq j k <;> simp only [a1,b1,cond_true,cond_false] at h1 h2
 ·cases a2:Nat.beq i d <;> cases b2:Nat.beq j d <;> simp only [a2,b2,cond_true,cond_false,reduceCtorEq,bt] at h1 h2
  rw [h1,h2]
 ·cases a2:Nat.beq i d <;> simp only [a2,cond_true,cond_false,reduceCtorEq,bt] at h1 h2
  exact absurd (h1.trans h2.symm) (hf a2)
 ·cases b2:Nat.beq j d <;> simp only [b2,cond_true,cond_false,reduceCtorEq,bt] at h1 h2
  exact absurd (h2.trans h1.symm) (hf b2)
 ·rw [hb a1,hb b1]
theorem va {m:Nat->Option Nat}(hinj:∀ i j x,m i=some x->m j=some x->i=j):∀ {l l':List (Nat×List AV)},iB m l=some l'->∀ {j:Nat} {cs':List AV},look l' j=some cs'->∃ i cs,look l i=some cs/\m i=some j/\AV.mapA.go m cs=some cs'
 | [],l',h,j,cs',hc=>by simp only [iB,bt] at h; subst h; simp [look] at hc
 | (i,ds)::r,l',h,j,cs',hc=>by
  simp only [iB] at h;split at h
  ·rename_i j0 l0 q hj hgo hq
   cases h
   rw [a6] at hc;by_cases e:j0=j
   ·rw [if_pos e] at hc
    cases hc; subst e
    exact ⟨i,ds,by simp [a6],hj,hgo⟩
   ·rw [if_neg e] at hc;obtain ⟨i',cs,h1,h2,h3⟩:=va hinj hq hc;refine ⟨i',cs,?_,h2,h3⟩;rw [a6,if_neg]
    ·exact h1
    ·intro e2; subst e2;rw [hj] at h2; cases h2; exact e rfl
  ·cases h
theorem aY {C:Cx}{sl sl':List (Nat×AV)}{ob ob':List (Nat×List AV)}(k d:Nat)(hkd:Nat.beq k d=false)(hk:Nat.blt k M1=true)(hd:Nat.blt d M1=true)(hs':AA k d sl=some sl')(ho':iB (v6 k d) ob=some ob'):cB C ⟨sl,ob⟩ ⟨sl',ob'⟩:=by
 intro g a w hs;have hk':k<M1:=dg ▸ hk;have hd':d<M1:=dg ▸ hd;have E2:k≠d:=λ e=>by subst e; simp at hkd
 let g':Gh:=⟨g.st,λ i=>if i=d then g.ow k else if i=k then none else g.ow i⟩
 have hm:∀ i j b,v6 k d i=some j->g.ow i=some b->g'.ow j=some b:=by
  intro i j b h hb;unfold v6 at h
  cases h1:Nat.beq i k
  ·rw [h1,cond_false] at h
   cases h2:Nat.beq i d
   ·rw [h2,cond_false] at h; cases h;have e1:i≠k:=λ e=>by subst e; simp at h1
    have e2:i≠d:=λ e=>by subst e; simp at h2
    simp only [g',if_neg e2,if_neg e1]; exact hb
   ·rw [h2,cond_true] at h; cases h
  ·rw [h1,cond_true] at h; cases h;have:=cl h1;subst this;simp only [g',if_true]; exact hb
 refine ⟨g',hs.nd,hs.sz,λ i=>?_,λ id cs hc=>?_,λ i j b h1 h2=>?_,λ i b h=>?_,hs.lt,hs.fl,hs.fr,hs.os,hs.out,hs.tape,hs.size,hs.stf,λ i hi hz=>?_,hs.shf,hs.nst,hs.ev0⟩
 ·have h1:=vc hs' i;have h2:=hs.sl i;simp only [AS.get] at h2 ⊢
  cases e1:look sl i with
  | none=>
   rw [e1] at h1
   cases e2:look sl' i with
   | none=>exact .undef _
   | some y=>rw [e2] at h1; exact h1.elim
  | some x=>
   rw [e1] at h1 h2
   cases e2:look sl' i with
   | none=>exact .undef _
   | some y=>
    rw [e2] at h1;exact kT (g:=g) (g':=g') rfl hm (by simpa using h2) h1
 ·obtain ⟨i,ds,h1,h2,h3⟩:=va (Bo E2) ho' hc
  exact pb (g:=g) (g':=g') Z hm (show iB (v6 k d) [(i,ds)]=some [(id,cs)] by simp only [iB,h2,h3]) (λ p hp=>by
   simp only [List.mem_singleton] at hp;subst hp
   exact hs.ob i ds h1) (id,cs) G
 ·simp only [g'] at h1 h2;by_cases a1:i=d <;> by_cases b1:j=d
  ·rw [a1,b1]
  ·rw [if_pos a1] at h1;rw [if_neg b1] at h2;split at h2
   ·cases h2
   ·rename_i b2; exact absurd (hs.inj k j b h1 h2).symm b2
  ·rw [if_pos b1] at h2;rw [if_neg a1] at h1;split at h1
   ·cases h1
   ·rename_i b2; exact absurd (hs.inj i k b h1 h2) b2
  ·rw [if_neg a1] at h1; rw [if_neg b1] at h2;split at h1
   ·cases h1
   ·split at h2
    ·cases h2
    ·exact hs.inj i j b h1 h2
 ·simp only [g'] at h;split at h
  ·exact hs.own k b h
  ·split at h
   ·cases h
   ·exact hs.own i b h
 ·simp only [g'];rw [if_neg O,if_neg O]; exact hs.owf i hi hz
theorem yq {C:Cx}{sl:List (Nat×AV)}{ob:List (Nat×List AV)}(j:Nat){x y:AV}(hj:look sl j=some x)(h:x.sub y):cB C ⟨sl,ob⟩ ⟨(j,y)::sl,ob⟩:=by
 refine cb ⟨λ i z hz=>?_,λ id cs hc=>⟨cs,hc,(kq (aM cs)).1,(kq (aM cs)).2⟩⟩;simp only [a6] at hz;by_cases e:j=i
 ·rw [if_pos e] at hz; cases hz; subst e;simp only [AS.get,hj,n8]; exact h
 ·rw [if_neg e] at hz;simp only [AS.get,hz,n8]; exact AV.sub_refl _
theorem xi {C:Cx}{sl sl0:List (Nat×AV)}{D:Nat->Bool}{ob ob':List (Nat×List AV)}(h:ly D ob=ob'):cB C ⟨sl,(co D ⟨sl0,ob⟩).ob⟩ ⟨sl,ob'⟩:=by
 have:(co D ⟨sl0,ob⟩).ob=ob':=h;rw [this]; exact ay _
theorem mb {C:Cx}{sl sl0:List (Nat×AV)}{D:Nat->Bool}{ob ob':List (Nat×List AV)}{x:Nat×List AV}(h:ly D ob=ob'):cB C ⟨sl,x::(co D ⟨sl0,ob⟩).ob⟩ ⟨sl,x::ob'⟩:=by
 have:(co D ⟨sl0,ob⟩).ob=ob':=h;rw [this]; exact ay _
def ug:List PV->List PV->Prop|[],[]=>True|c::cs,d::ds=>(c=d\/(c=.val (.slice none 0 0)/\d=.slice []))/\ug cs ds|_,_=>False
theorem qe {w:World}{st:Nat->Nat->Prop}:∀ {cs ds:List PV},ug cs ds->cs.length=ds.length/\∀ (i:Nat) c d v,cs[i]? = some c->ds[i]? = some d->PRep w st c v->PRep w st d v
 | [],[],_=>⟨Z,by simp⟩
 | [],_::_,h=>h.elim
 | _::_,[],h=>h.elim
 | c::cs,d::ds,h=>by
  obtain ⟨h1,h2⟩:=qe (w:=w) (st:=st) h.2;refine ⟨by simp [h1],λ i c' d' v hc hd hv=>?_⟩
  cases i with
  | zero=>
   simp only [List.getElem?_cons_zero,bt] at hc hd;subst hc hd;rcases h.1 with e|⟨e1,e2⟩
   ·rw [<- e]; exact hv
   ·rw [e1] at hv; rw [e2]; cases hv; exact .nils
  | succ i=>simp only [List.getElem?_cons_succ] at hc hd; exact h2 i c' d' v hc hd hv
theorem cA {cs ds:List PV}(h:ug cs ds):(AV.p (.agg cs)).sub (.p (.agg ds)):=by
 intro w g v hv;obtain ⟨h1,h2⟩:=qe (w:=w) (st:=g.st) h
 cases hv with
 | p hv=>
  cases hv with
  | agg hl hh=>
   refine .p (.agg (hl.trans h1) λ i d u hd hu=>?_);have hi:i<cs.length:=by have:=(List.getElem?_eq_some_iff.1 hd).1; omega
   exact h2 i cs[i] d u (List.getElem?_eq_getElem hi) hd (hh i _ u (List.getElem?_eq_getElem hi) hu)
theorem pB {cs:List AV}{ds:List PV}(h:nb cs (ds.map .p)):(AV.agg cs).sub (.p (.agg ds)):=by
 intro w g v hv;obtain ⟨h1,h2⟩:=lm h
 cases hv with
 | agg hl hh=>
  refine .p (.agg (by rw [hl,h1,d3]) λ i d u hd hu=>?_);have hi:i<cs.length:=by have:=(List.getElem?_eq_some_iff.1 hd).1; simp at h1; omega
  have:=h2 i cs[i] (.p d) (List.getElem?_eq_getElem hi) (by simp [hd]) w g u (hh i _ u (List.getElem?_eq_getElem hi) hu)
  cases this with|p h=>exact h
section
variable {C:Cx} {o:Oper} {K:AS->Prop} {sl:List (Nat×AV)} {ob:List (Nat×List AV)} {d:Nat}
theorem bg {α:Type}(f:α->PV)(l:List α){t e len:Nat}{parts:Array (Nat×Operand)}{i ie:TI}{es:List PV}(ho:o.op=.buildSlice t len parts)(hd:o.dst=some d)(hn:Nat.blt d C.n=true)
  (hi:look C.tt t=some i) (EP:i.k=.slice e) (hie:look C.tt e=some ie) (hes:nB sl 0 parts.toList=some es) (EK:Nat.beq es.length len=true) (hpos:Nat.blt 0 len=true)
  (hk:Nat.blt 0 ie.size=true) (hsm:Nat.ble (len*ie.size) 16777216=true) (EH:rl ie.size es=true) (hzl:Nat.beq ie.zero.length ie.size=true) (he:es=l.map f)
  (hK:K ⟨(d,.p (eL f l))::sl,ob⟩):ba C o K ⟨sl,ob⟩ :=
 uB ho hd hn hi EP hie hes EK hpos hk hsm EH hzl (by rw [he]; exact hK)
theorem Cv {α:Type}(f:α->PV)(l:List α)(ty:Nat){t tx e e':TypeId}{x y:Operand}{Y0z:AV}{i ie j:TI}(ho:o.op=.call { callee:=.builtin .append,args:=#[x,y],argTypes:=#[t,tx] })(hd:o.dst=some d)(hn:Nat.blt d C.n=true)
  (hi:look C.tt t=some i) (EP:i.k=.slice e) (hie:look C.tt e=some ie) (hj:look C.tt tx=some j) (hjk:j.k=.slice e') (hx:evo sl x=some (.p (.val (.slice none 0 0))))
  (hy:evo sl y=some Y0z) (hY:Y0z.elems? = some (l.map f)) (EH:∀ x,(f x).cells.length=ie.size) (h0:Nat.blt 0 ie.size=true) (hzl:Nat.beq ie.zero.length ie.size=true) (hby:Nat.blt 0 ie.bytes=true)
  (hty:(Nat.beq ty 0||Nat.beq ty (e+1))=true) (EK:l.length*ie.bytes<=140737488355328)
  (hK:K ⟨(d,.vec d ie.size ty (l.map f))::(co (λ i=>Nat.beq i d) ⟨sl,ob⟩).sl,(co (λ i=>Nat.beq i d) ⟨sl,ob⟩).ob⟩):ba C o K ⟨sl,ob⟩:=by
 have hby':1<=ie.bytes:=Nat.succ_le_of_lt (by simpa using hby);have h1:l.length*1<=l.length*ie.bytes:=Nat.mul_le_mul_left _ hby';exact xZ ty ho hd hn hi EP hie hj hjk hx hy hY (λ y hy=>by obtain ⟨x,_,rfl⟩:=List.mem_map.1 hy; exact EH x) h0 hzl (by rw [d3]; exact EK) (by rw [d3]; omega) hty hK
theorem eu {α:Type}(f:α->PV)(l0 l:List α){t tx e e':TypeId}{x y:Operand}{k sz ty:Nat}{Y0z:AV}{i ie j:TI}(ho:o.op=.call { callee:=.builtin .append,args:=#[x,y],argTypes:=#[t,tx] })(hd:o.dst=some d)(hn:Nat.blt d C.n=true)
  (hi:look C.tt t=some i) (EP:i.k=.slice e) (hie:look C.tt e=some ie) (hj:look C.tt tx=some j) (hjk:j.k=.slice e') (hx:evo sl x=some (.vec k sz ty (l0.map f))) (hk:Nat.blt k M1=true) (hiz:ie.size=sz)
  (hy:evo sl y=some Y0z) (hY:Y0z.elems? = some (l.map f)) (EH:∀ x,(f x).cells.length=ie.size) (h0:Nat.blt 0 ie.size=true) (hzl:Nat.beq ie.zero.length ie.size=true) (hby:Nat.blt 0 ie.bytes=true)
  (hty:(Nat.beq ty 0||Nat.beq ty (e+1))=true) (EK:(l0.length+l.length)*ie.bytes<=140737488355328)
  (hK:K ⟨(d,.vec d sz ty ((l0++l).map f))::(co (λ i=>Nat.beq i k||Nat.beq i d) ⟨sl,ob⟩).sl,(co (λ i=>Nat.beq i k||Nat.beq i d) ⟨sl,ob⟩).ob⟩):ba C o K ⟨sl,ob⟩:=by
 have hby':1<=ie.bytes:=Nat.succ_le_of_lt (by simpa using hby);have h1:(l0.length+l.length)*1<=(l0.length+l.length)*ie.bytes:=Nat.mul_le_mul_left _ hby'
 exact yC ho hd hn hi EP hie hj hjk hx hk hiz hy hY (λ y hy=>by obtain ⟨x,_,rfl⟩:=List.mem_map.1 hy; exact EH x) h0 hzl (by rw [d3,d3]; exact EK) (by rw [d3,d3]; omega) hty
  (by rw [<- List.map_append]; exact hK)
end
def V1:Nat:=900000
def vl (tt:List (Nat×TI))(fn:Func)(ts ids:List Nat)(R:AV->List (Nat×List AV)->Prop)(e:Exit)(s:AS):Prop :=(e=.normal\/e=.ret)/\∃ l r Fa obs',nC tt fn.results.toList s=some l/\(rQ l).mapA (mg ts)=some r/\iM s.ob ids=some Fa/\iB (mg ts) Fa=some obs'/\R r obs'
theorem BI {tt:List (Nat×TI)}{fn:Func}{ts ids:List Nat}{R:AV->List (Nat×List AV)->Prop}{s:AS}{l:List AV}{r:AV}{Fa obs':List (Nat×List AV)}(h1:nC tt fn.results.toList s=some l)(h2:(rQ l).mapA (mg ts)=some r)
  (h3:iM s.ob ids=some Fa) (h4:iB (mg ts) Fa=some obs') (h5:R r obs'):vl tt fn ts ids R .ret s:=⟨.inr Z,l,r,Fa,obs',h1,h2,h3,h4,h5⟩
theorem Ae {tt:List (Nat×TI)}{fn:Func}{ts ids:List Nat}{R:AV->List (Nat×List AV)->Prop}{s:AS}{l:List AV}{r:AV}{Fa obs':List (Nat×List AV)}(h1:nC tt fn.results.toList s=some l)(h2:(rQ l).mapA (mg ts)=some r)
  (h3:iM s.ob ids=some Fa) (h4:iB (mg ts) Fa=some obs') (h5:R r obs'):vl tt fn ts ids R .normal s:=⟨.inl Z,l,r,Fa,obs',h1,h2,h3,h4,h5⟩
theorem wn (ts ids:List Nat)(hts:ts.all (λ i=>Nat.blt i M1)=true)(hnd:nodupB ts=true){n:Nat}{w w':World}{g g1:Gh}{df:List Deferred}{gl:lQ w g.st}{lo:∀ i b,g.ow i=some b->i<MZ}{s':AS}{a':Act}
  (hown:∀ i b,g.ow i=some b->b<w.heap.size/\i<2*M1) (h3:St n ⟨w,g.st,g.ow,gl,lo,df⟩ (λ b=>b<w.heap.size/\∀ i,g.ow i≠some b) g1 s' a' w') {x r:AV} {v:Value} {obs1 obs':List (Nat×List AV)}
  (hvr:ARep w' g1 x v) (hr:x.mapA (mg ts)=some r) (hp:iM s'.ob ids=some obs1) (hm:iB (mg ts) obs1=some obs'):∃ g',ARep w' g' r v/\(∀ p∈obs',iZ w' g' p.1 p.2)/\nG w g w' g':=by
 have hown3:∀ i b,M1<=i->i<MZ->g1.ow i=some b->i<2*M1:=by
  intro i b hi hz hb;rw [h3.owf i hi hz] at hb;exact (hown i b hb).2
 have hmap:∀ i j b,mg ts i=some j->g1.ow i=some b->(if 2*M1<=j then (ts[j-2*M1]?).bind g1.ow else if M1<=j then g1.ow j else none)=some b:=by
  intro i j b hij hb;unfold mg at hij
  cases hle:Nat.ble M1 i
  ·rw [hle] at hij;simp only [cond_false] at hij;split at hij
   ·rename_i k hk
    cases hij
    rw [if_pos O,Nat.add_sub_cancel_left,kM hk];exact hb
   ·cases hij
  ·rw [hle] at hij;simp only [cond_true] at hij
   cases hz:Nat.blt i MZ <;> rw [hz] at hij <;> simp only [cond_true,cond_false,bt,reduceCtorEq] at hij
   subst hij;have h4:=n6 hle;have h5:=hown3 i b h4 (dg ▸ hz) hb;rw [if_neg O,if_pos h4];exact hb
 have hts':∀ (k t:Nat),ts[k]? = some t->t<M1:=by
  intro k t hk;have:=rd.1 hts t (List.mem_of_getElem? hk);exact dg ▸ this
 have inv:∀ j b,(if 2*M1<=j then (ts[j-2*M1]?).bind g1.ow else if M1<=j then g1.ow j else none)=some b ->
   (∃ t,ts[j-2*M1]? = some t/\2*M1<=j/\g1.ow t=some b)\/(M1<=j/\j<2*M1/\g1.ow j=some b):=by
  intro j b h;by_cases e1:2*M1<=j
  ·rw [if_pos e1] at h;obtain ⟨t,ht,hb⟩:=Option.bind_eq_some_iff.1 h;exact .inl ⟨t,ht,e1,hb⟩
  ·rw [if_neg e1] at h;by_cases e2:M1<=j
   ·rw [if_pos e2] at h; exact .inr ⟨e2,by omega,h⟩
   ·rw [if_neg e2] at h; cases h
 have hst0:(⟨g1.st,λ j=>if 2*M1<=j then (ts[j-2*M1]?).bind g1.ow else if M1<=j then g1.ow j else none⟩:Gh).st=g1.st:=rfl;refine ⟨⟨g1.st,λ j=>if 2*M1<=j then (ts[j-2*M1]?).bind g1.ow else if M1<=j then g1.ow j else none⟩,kT hst0 hmap hvr hr,pb hst0 hmap hm (λ p hp'=>h3.ob p.1 p.2 (rC hp p hp')),?_⟩;refine ⟨h3.os,h3.out,h3.tape,h3.size,λ b hb hno=>h3.fr b ⟨hb,hno⟩,λ i b hi=>?_,λ i j b hi hj=>?_,h3.lt,λ b hb hno=>h3.stf b ⟨hb,hno⟩,λ i h1 h2=>?_,h3.shf,h3.nst,h3.ev0⟩
 ·have key:∀ t,g1.ow t=some b->b<w'.heap.size/\(w.heap.size<=b\/∃ j,g.ow j=some b):=by
   intro t ht;obtain ⟨k1,k2⟩:=h3.own t b ht;refine ⟨k1,?_⟩;by_cases hb:w.heap.size<=b
   ·exact .inl hb
   ·refine .inr ?_;by_cases hex:∃ j,g.ow j=some b
    ·exact hex
    ·exact absurd ⟨by omega,λ i hi=>hex ⟨i,hi⟩⟩ k2
  rcases inv i b hi with ⟨t,_,_,ht⟩|⟨_,_,ht⟩
  ·exact key t ht
  ·exact key i ht
 ·rcases inv i b hi with ⟨t,a1,a2,a3⟩|⟨a1,a2,a3⟩ <;> rcases inv j b hj with ⟨u,b1,b2,b3⟩|⟨b1,b2,b3⟩
  ·have:=h3.inj t u b a3 b3;subst this;have:=jb hnd _ _ _ a1 b1;omega
  ·have:=h3.inj t j b a3 b3;have:=hts' _ t a1;omega
  ·have:=h3.inj i u b a3 b3;have:=hts' _ u b1;omega
  ·exact h3.inj i j b a3 b3
 ·dsimp only;rw [if_neg O,if_pos h1];exact h3.owf i h1 (Nat.lt_of_lt_of_le h2 uZ)
theorem qR {P:Program}{tt:List (Nat×TI)}(good:dD P tt){fn:Func}{c:Code}{args:List AV}{Fa:List (Nat×List AV)}{R:AV->List (Nat×List AV)->Prop}(ts ids:List Nat)(hn:args.length<=fn.ntmps)(hnl:Nat.ble fn.ntmps M1=true)(hts:ts.all (λ i=>Nat.blt i M1)=true)(hnd:nodupB ts=true)
  (h:∀ w0 F,awp ⟨P,tt,good,fn.ntmps,hnl,w0,F⟩ c (vl tt fn ts ids R) ⟨ge args,Fa⟩) {w:World} {g:Gh} {vs:Array Value} (hlt:Ok0 w g.st) (hown:∀ i b,g.ow i=some b->b<w.heap.size/\i<2*M1)
  (hinj:∀ i j b,g.ow i=some b->g.ow j=some b->i=j) (hnst:∀ i b,M1<=i->g.ow i=some b->∀ o,¬ g.st b o) (h1:vs.size=args.length)
  (h2:∀ (i:Nat) c v,args[i]? = some c->vs[i]? = some v->ARep w g c v) (hobs:∀ id cs,look Fa id=some cs->iZ w g id cs) :
  c.wp P (bodyPost P fn λ e w'=>∃ v r obs' g',e=.returned v/\R r obs'/\ARep w' g' r v/\(∀ p∈obs',iZ w' g' p.1 p.2)/\nG w g w' g') { tmps:=vs++Array.replicate (fn.ntmps-vs.size) Go.undef,defers:=[] } w:=by
 have hs:St fn.ntmps ⟨w,g.st,g.ow,hlt.gl,(λ i b h=>Nat.lt_of_lt_of_le (hown i b h).2 uZ),[]⟩ (λ b=>b<w.heap.size/\∀ i,g.ow i≠some b) g ⟨ge args,Fa⟩ { tmps:=vs++Array.replicate (fn.ntmps-vs.size) Go.undef,defers:=[] } w:=by
  refine ⟨Z,?_,?_,hobs,hinj,?_,hlt.lt,?_,?_,Z,Z,Z,ld _,λ b _ o=>Iff.rfl,λ _ _ _=>rfl,j5.refl _ _,λ i b hi h=>hnst i b hi h,Ev.refl _ _⟩
  ·simp only [Array.size_append,Array.size_replicate]; omega
  ·intro i;have:=mK args 0 i;simp only [AS.get,ge,this,Nat.zero_le,if_true,Nat.sub_zero]
   cases ha:args[i]? with
   | none=>exact .undef _
   | some x=>
    have hi:i<args.length:=(List.getElem?_eq_some_iff.1 ha).1;have hi2:i<vs.size:=by omega
    have e:(vs++Array.replicate (fn.ntmps-vs.size) Go.undef).getD i Go.undef=vs[i]:=by
     simp [Array.getD_eq_getD_getElem?,Array.getElem?_append,hi2]
    simp only [n8];rw [e];exact h2 i x _ ha (Array.getElem?_eq_getElem hi2)
  ·intro i b hi; exact ⟨(hown i b hi).1,λ h=>h.2 i hi⟩
  ·intro b h; exact h.1
  ·intro b h; rfl
 refine wp_mono (h ⟨w,g.st,g.ow,hlt.gl,(λ i b h=>Nat.lt_of_lt_of_le (hown i b h).2 uZ),[]⟩ _ g _ w hs) ?_;rintro e a' w' ⟨g1,s',h3,he,l,r,obs1,obs',hl,hr,hp,hm,hR⟩;obtain ⟨v,hv,hvr⟩:=lZ good h3 fn l hl;obtain ⟨g',e1,e2,e3⟩:=wn ts ids hts hnd hown h3 hvr hr hp hm;rcases he with rfl|rfl
 ·exact ⟨h3.nd,v,hv,v,r,obs',g',Z,hR,e1,e2,e3⟩
 ·exact ⟨h3.nd,v,hv,v,r,obs',g',Z,hR,e1,e2,e3⟩
theorem sH {P:Program}{tt:List (Nat×TI)}(good:dD P tt){f:FuncId}{fn:Func}{c:Code}{args:List AV}{Fa:List (Nat×List AV)}{R:AV->List (Nat×List AV)->Prop}(ts ids:List Nat)(hf:P.funcs[f]? = some fn)(hb:fn.body=some c)
  (hn:args.length<=fn.ntmps) (hnl:Nat.ble fn.ntmps M1=true) (hts:ts.all (λ i=>Nat.blt i M1)=true) (hnd:nodupB ts=true)
  (h:∀ w0 F,awp ⟨P,tt,good,fn.ntmps,hnl,w0,F⟩ c (vl tt fn ts ids R) ⟨ge args,Fa⟩):aU P f args Fa R:=λ _ _ _ k1 k2 k3 k4 k5 k6 k7=>calls_of_wp hf hb (qR good ts ids hn hnl hts hnd h k1 k2 k3 k4 k5 k6 k7)
theorem pS {w:World}{g:Gh}{id:Nat}{cs ds:List AV}(h:iZ w g id ds)(hs:yx cs ds):iZ w g id cs:=by
 obtain ⟨k1,k2⟩:=kq hs;obtain ⟨b,c,e,n1,n2,n3,n4,n5⟩:=h;refine ⟨b,c,e,n1,n2,by omega,n4,λ i x hx=>?_⟩;have hi:i<ds.length:=by have:=(List.getElem?_eq_some_iff.1 hx).1; omega
 obtain ⟨v,hv,hr⟩:=n5 i ds[i] (List.getElem?_eq_getElem hi);exact ⟨v,hv,k2 i x _ hx (List.getElem?_eq_getElem hi) _ _ _ hr⟩
theorem sS {s:List (Nat×List AV)}:∀ {t:List (Nat×List AV)},leO s t->∀ p∈t,∃ ds,look s p.1=some ds/\yx p.2 ds
 | [],_,p,hp=>by simp at hp
 | (j,cs)::r,h,p,hp=>by
  rcases List.mem_cons.1 hp with rfl|hp
  ·exact h.1
  ·exact sS h.2 p hp
theorem aU.of_sub {P:Program}{f:FuncId}{args:List AV}{Fa rob:List (Nat×List AV)}{r:AV}(h:aU P f args Fa (λ x y=>x.sub r/\leO y rob)):aU P f args Fa (λ x y=>x=r/\y=rob) :=
 λ w g vs h1 h2 h3 h4 h5 h6 h7=>(h w g vs h1 h2 h3 h4 h5 h6 h7).mono λ e w' ⟨v,x,obs',g',k1,⟨k2,k3⟩,k4,k5,k6⟩=>
  ⟨v,r,rob,g',k1,⟨Z,Z⟩,k2 _ _ _ k4,λ p hp=>by
   obtain ⟨ds,m1,m2⟩:=sS k3 p hp
   exact pS (k5 (p.1,ds) (ia m1)) m2,k6⟩
theorem DN {P:Program}{tt:List (Nat×TI)}(good:dD P tt){f:FuncId}{fn:Func}{c:Code}{args:List AV}{Fa rob:List (Nat×List AV)}{r:AV}(ts ids:List Nat)(hf:P.funcs[f]? = some fn)(hb:fn.body=some c)
  (hn:Nat.ble args.length fn.ntmps=true) (hnl:Nat.ble fn.ntmps M1=true) (hts:ts.all (λ i=>Nat.blt i M1)=true) (hnd:nodupB ts=true)
  (h:∀ w0 F,awp ⟨P,tt,good,fn.ntmps,hnl,w0,F⟩ c (vl tt fn ts ids (λ x y=>x.sub r/\leO y rob)) ⟨ge args,Fa⟩):aU P f args Fa (λ x y=>x=r/\y=rob) :=
 aU.of_sub (sH good ts ids hf hb (n6 hn) hnl hts hnd h)
def lU (ids EL:List Nat)(i:Nat):Option Nat:=match ids.findIdx? (Nat.beq i) with
 | some k=>some (M1+k)
 | none=>match EL.findIdx? (Nat.beq i) with
  | some k=>some (V1+k)
  | none=>none
def uI (NB NE i:Nat):Bool:=Nat.ble NB i&&Nat.blt i NE
def du (EL:List Nat)(NB NE i:Nat):Bool:=uI NB NE i||EL.any (Nat.beq i)
section
variable {C:Cx} {o:Oper} {K:AS->Prop} {sl:List (Nat×AV)} {ob:List (Nat×List AV)} {d:Nat}
theorem qA (ids EL:List Nat)(NB NE:Nat){l l' q:List AV}{Fa obs0 qo:List (Nat×List AV)}(hl':AV.mapA.go (lU ids EL) l=some l')(hq:nb l' q)(hpk:iM ob ids=some Fa)(hmo:iB (lU ids EL) Fa=some obs0)(hqo:leO obs0 qo)
  (hnd:nodupB ids=true) (hids:ids.all (λ i=>Nat.blt i (2*M1))=true) (hil:Nat.ble ids.length M1=true) (hdl:Nat.ble NE M1=true) (hdis:ids.all (λ i=>!(du EL NB NE i))=true)
  (hvd:nodupB EL=true) (hvl:EL.all (λ i=>Nat.blt i M1)=true) (hvn:Nat.ble EL.length 100000=true)
  {g:Gh} {a:Act} {w:World} (hs:St C.n C.w0 C.F g ⟨sl,ob⟩ a w) {avs:Array Value} (a1:avs.size=l.length) (a2:∀ (i:Nat) c v,l[i]? = some c->avs[i]? = some v->ARep w g c v) :
  ∃ gc:Gh,(Ok0 w gc.st/\(∀ i b,gc.ow i=some b->b<w.heap.size/\i<2*M1)/\(∀ i j b,gc.ow i=some b->gc.ow j=some b->i=j)/\(∀ i b,M1<=i->gc.ow i=some b->∀ o,¬ gc.st b o)/\avs.size=q.length /\
   (∀ (i:Nat) c v,q[i]? = some c->avs[i]? = some v->ARep w gc c v)/\(∀ id cs,look qo id=some cs->iZ w gc id cs)) /\
   ∀ (w':World) (v:Value) (r r':AV) (obs' ob':List (Nat×List AV)) (g':Gh),ARep w' g' r v->(∀ p∈obs',iZ w' g' p.1 p.2)->nG w gc w' g'->r.mapA (lH ids NB NE)=some r'->iB (lH ids NB NE) obs'=some ob' ->
    ∃ g2,St C.n C.w0 C.F g2 ⟨(co (du EL NB NE) ⟨sl,ob⟩).sl,ob'++(co (du EL NB NE) ⟨sl,ob.filter λ p=>!(ids.any (Nat.beq p.1))⟩).ob⟩ a w'/\ARep w' g2 r' v:=by
 have hidl:∀ (k i:Nat),ids[k]? = some i->i<2*M1:=λ k i h=>by
  have:=rd.1 hids i (List.mem_of_getElem? h);exact dg ▸ this
 have hvll:∀ (k i:Nat),EL[k]? = some i->i<M1:=λ k i h=>by
  have:=rd.1 hvl i (List.mem_of_getElem? h);exact dg ▸ this
 have hidD:∀ (k i:Nat),ids[k]? = some i->du EL NB NE i=false:=λ k i h=>by
  have:=rd.1 hdis i (List.mem_of_getElem? h);simpa only [Bool.not_eq_true'] using this
 have hDn:∀ i,uI NB NE i=true->NB<=i/\i<NE:=λ i h=>by
  unfold uI at h;simp only [ph] at h;exact ⟨n6 h.1,dg ▸ h.2⟩
 have hDv:∀ i,EL.any (Nat.beq i)=true->∃ k,EL[k]? = some i:=λ i h=>by
  obtain ⟨x,hx,he⟩:=List.any_eq_true.1 h;have:=cl he;subst this;exact List.mem_iff_getElem?.1 hx
 have hvD:∀ (k i:Nat),EL[k]? = some i->EL.any (Nat.beq i)=true:=λ k i h=>List.any_eq_true.2 ⟨i,List.mem_of_getElem? h,by simp⟩
 have hsplit:∀ i,du EL NB NE i=false->uI NB NE i=false/\EL.any (Nat.beq i)=false:=λ i h=>by
  unfold du at h;simpa only [Bool.or_eq_false_iff] using h
 have hdl':=n6 hdl;have hil':=n6 hil;have hvn':=n6 hvn;have hV1:V1+100000=M1:=rfl;obtain ⟨gc,hgc⟩:∃ gc:Gh,gc=⟨g.st,λ j=>if M1<=j then (ids[j-M1]?).bind g.ow else if V1<=j then (EL[j-V1]?).bind g.ow else none⟩:=⟨_,rfl⟩
 have hgst:gc.st=g.st:=by rw [hgc]
 have gcinv:∀ j b,gc.ow j=some b->∃ i,g.ow i=some b/\((ids[j-M1]? = some i/\M1<=j/\j<2*M1)\/(EL[j-V1]? = some i/\V1<=j/\j<M1)):=by
  intro j b h;rw [hgc] at h;dsimp only at h;by_cases e:M1<=j
  ·rw [if_pos e] at h;obtain ⟨i,h1,h2⟩:=Option.bind_eq_some_iff.1 h;have:=(List.getElem?_eq_some_iff.1 h1).1;exact ⟨i,h2,.inl ⟨h1,e,by omega⟩⟩
  ·rw [if_neg e] at h;by_cases e2:V1<=j
   ·rw [if_pos e2] at h;obtain ⟨i,h1,h2⟩:=Option.bind_eq_some_iff.1 h;exact ⟨i,h2,.inr ⟨h1,e2,by omega⟩⟩
   ·rw [if_neg e2] at h; cases h
 have hpm:∀ i j b,lU ids EL i=some j->g.ow i=some b->gc.ow j=some b:=by
  intro i j b h hb;unfold lU at h;split at h
  ·rename_i k hk
   cases h
   rw [hgc];dsimp only;rw [if_pos O,Nat.add_sub_cancel_left,kM hk];exact hb
  ·split at h
   ·rename_i k hk
    cases h
    have hkl:=(List.getElem?_eq_some_iff.1 (kM hk)).1;rw [hgc];dsimp only;rw [if_neg O,if_pos O,Nat.add_sub_cancel_left,kM hk];exact hb
   ·cases h
 have hidob:∀ (k i:Nat),ids[k]? = some i->∃ cs,look ob i=some cs:=by
  have:∀ (ids:List Nat) (Fa:List (Nat×List AV)),iM ob ids=some Fa->∀ (k i:Nat),ids[k]? = some i->∃ cs,look ob i=some cs:=by
   intro ids
   induction ids with
   | nil=>intro Fa _ k i h; simp at h
   | cons x r ih=>
    intro Fa h k i hk;simp only [iM] at h;split at h
    ·rename_i cs l0 h1 h2
     cases k with
     | zero=>simp only [List.getElem?_cons_zero,bt] at hk; subst hk; exact ⟨cs,h1⟩
     | succ k=>simp only [List.getElem?_cons_succ] at hk; exact ih l0 h2 k i hk
    ·cases h
  exact this ids Fa hpk
 have hnst:∀ j b,M1<=j->gc.ow j=some b->∀ o,¬ g.st b o:=by
  intro j b hj h o ho;obtain ⟨i,h4,⟨h1,_,_⟩|⟨_,_,h3⟩⟩:=gcinv j b h
  ·obtain ⟨cs,ER⟩:=hidob _ i h1;obtain ⟨b',c,e,k1,_,_,k4,_⟩:=hs.ob i cs ER;rw [h4] at k1; cases k1;exact k4 o ho
  ·omega
 obtain ⟨m1,m2⟩:=pP hl';obtain ⟨b1,b2⟩:=lm hq
 have hargs:∀ (i:Nat) c v,q[i]? = some c->avs[i]? = some v->ARep w gc c v:=by
  intro i c v hc hv;have hi':i<l'.length:=by have:=(List.getElem?_eq_some_iff.1 hc).1; omega
  have hi:i<l.length:=by omega
  have h1:=a2 i _ v (List.getElem?_eq_getElem hi) hv;have h2:=kT hgst hpm h1 (m2 i _ _ (List.getElem?_eq_getElem hi) (List.getElem?_eq_getElem hi'));exact b2 i _ c (List.getElem?_eq_getElem hi') hc w gc v h2
 have hobs0:=pb hgst hpm hmo (λ p hp=>hs.ob p.1 p.2 (rC hpk p hp))
 have hqo':∀ id cs,look qo id=some cs->iZ w gc id cs:=by
  intro id cs h;obtain ⟨ds,h1,h2⟩:=tD hqo id cs h;exact pS (hobs0 (id,ds) (ia h1)) h2
 have hpre:∀ {Z0z:Prop},(Ok0 w gc.st->(∀ i b,gc.ow i=some b->b<w.heap.size/\i<2*M1)->(∀ i j b,gc.ow i=some b->gc.ow j=some b->i=j)->(∀ i b,M1<=i->gc.ow i=some b->∀ o,¬ gc.st b o)->avs.size=q.length->(∀ (i:Nat) c v,q[i]? = some c->avs[i]? = some v->ARep w gc c v)->(∀ id cs,look qo id=some cs->iZ w gc id cs)->Z0z)->Z0z:=λ k=>k (by rw [hgst]; exact hs.ok0) (λ j b h=>by
   obtain ⟨i,h4,⟨_,_,h3⟩|⟨_,_,h3⟩⟩:=gcinv j b h
   ·exact ⟨(hs.own i b h4).1,h3⟩
   ·exact ⟨(hs.own i b h4).1,by omega⟩) (λ i j b h1 h2=>by
   obtain ⟨i',p3,p⟩:=gcinv i b h1;obtain ⟨j',q3,q⟩:=gcinv j b h2;have:=hs.inj i' j' b p3 q3;subst this;rcases p with ⟨p1,p2,_⟩|⟨p1,p2,p4⟩ <;> rcases q with ⟨q1,q2,_⟩|⟨q1,q2,q4⟩
   ·have:=jb hnd _ _ _ p1 q1; omega
   ·have h5:=(hsplit _ (hidD _ _ p1)).2;rw [hvD _ _ q1] at h5; cases h5
   ·have h5:=(hsplit _ (hidD _ _ q1)).2;rw [hvD _ _ p1] at h5; cases h5
   ·have:=jb hvd _ _ _ p1 q1; omega) (λ j b hj h=>by rw [hgst]; exact hnst j b hj h) (a1.trans (m1.trans b1)) hargs hqo'
 refine ⟨gc,hpre λ k1 k2 k3 k4 k5 k6 k7=>⟨k1,k2,k3,k4,k5,k6,k7⟩,λ w' v r r' obs' ob' g' hr hob' hA hr' hmo'=>?_⟩
 have nogc:∀ i b,(∀ (k:Nat),ids[k]?≠some i)->(∀ (k:Nat),EL[k]?≠some i)->g.ow i=some b->∀ j,gc.ow j≠some b:=by
  intro i b hi hv hb j hj;obtain ⟨i',p3,p⟩:=gcinv j b hj;have:=hs.inj i i' b hb p3;subst this;rcases p with ⟨p1,_⟩|⟨p1,_⟩
  ·exact hi _ p1
  ·exact hv _ p1
 obtain ⟨g2,hg2⟩:∃ g2:Gh,g2=⟨g'.st,λ i=>if uI NB NE i=true then g'.ow (2*M1+(i-NB)) else if EL.any (Nat.beq i)=true then none else g.ow i⟩:=⟨_,rfl⟩
 have hg2st:g2.st=g'.st:=by rw [hg2]
 have g2old:∀ i,du EL NB NE i=false->g2.ow i=g.ow i:=λ i h=>by
  obtain ⟨h1,h2⟩:=hsplit i h;rw [hg2]; simp only [h1,h2,Bool.false_eq_true,if_false]
 have g2new:∀ i,uI NB NE i=true->g2.ow i=g'.ow (2*M1+(i-NB)):=λ i h=>by rw [hg2]; simp only [h,if_true]
 have g2cases:∀ i b,g2.ow i=some b->(uI NB NE i=true/\g'.ow (2*M1+(i-NB))=some b)\/(du EL NB NE i=false/\g.ow i=some b):=by
  intro i b h
  cases h1:uI NB NE i
  ·cases h2:EL.any (Nat.beq i)
   ·have h3:du EL NB NE i=false:=by unfold du; rw [h1,h2]; rfl
    exact .inr ⟨h3,by rw [<- g2old i h3]; exact h⟩
   ·rw [hg2] at h; simp only [h1,h2,Bool.false_eq_true,if_false,if_true] at h; cases h
  ·exact .inl ⟨Z,by rw [<- g2new i h1]; exact h⟩
 have hDM:∀ i,M1<=i->du EL NB NE i=false:=λ i hi=>by
  cases hq:du EL NB NE i
  ·rfl
  ·unfold du at hq;simp only [Bool.or_eq_true] at hq;rcases hq with hq|hq
   ·exact absurd (Nat.lt_of_lt_of_le (Nat.lt_of_lt_of_le (hDn i hq).2 hdl') hi) (Nat.lt_irrefl _)
   ·obtain ⟨k,hk⟩:=hDv i hq;exact absurd (Nat.lt_of_lt_of_le (hvll k i hk) hi) (Nat.lt_irrefl _)
 have hbm:∀ j i b,lH ids NB NE j=some i->g'.ow j=some b->g2.ow i=some b:=by
  intro j i b h hb;rcases xK h with ⟨k,rfl,rfl,h4⟩|⟨h3,h4,h5⟩
  ·rw [g2new (NB+k) (by
    unfold uI;simp only [ph]
    exact ⟨Nat.ble_eq_true_of_le (Nat.le_add_right _ _),by rw [dg]; exact h4⟩),Nat.add_sub_cancel_left]
   exact hb
  ·rw [g2old i (hidD _ i h5)];rw [hA.owf j h3 h4] at hb;obtain ⟨i',p3,⟨p1,_,_⟩|⟨_,_,p5⟩⟩:=gcinv j b hb
   ·rw [h5] at p1; cases p1;exact p3
   ·omega
 have hE:EvO (du EL NB NE) w g w' g2:=by
  refine ⟨by rw [hg2st]; have:=hA.ev; rw [hgst] at this; exact this,λ id b hq h=>by rw [g2old id hq]; exact h,λ id b c e hq h0 h=>?shape,λ id b o hq h ho=>?_,λ id b es k hq h0 h=>?mpc,λ i hi=>hDM i (si hi),λ id b o hq h0 ho=>?stb⟩
  case stb=>
   have hlt:=(hs.own id b h0).1;by_cases hno:∃ j,gc.ow j=some b
   ·obtain ⟨j,hj⟩:=hno;obtain ⟨i',p3,⟨p1,_,_⟩|⟨p1,_,_⟩⟩:=gcinv j b hj
    ·obtain ⟨cs,ER⟩:=hidob _ i' p1;obtain ⟨b',c,e,k1,k2,_,k4,_⟩:=hs.ob i' cs ER;rw [p3] at k1; cases k1;exact absurd ho (k4 o)
    ·have:=hs.inj id i' b h0 p3;subst this;have h5:=(hsplit _ hq).2;rw [hvD _ _ p1] at h5; cases h5
   ·exact hA.fr b hlt (λ j hj=>hno ⟨j,hj⟩)
  case mpc=>
   have hlt:=(hs.own id b h0).1;by_cases hno:∃ j,gc.ow j=some b
   ·obtain ⟨j,hj⟩:=hno;obtain ⟨i',p3,⟨p1,_,_⟩|⟨p1,_,_⟩⟩:=gcinv j b hj
    ·obtain ⟨cs,ER⟩:=hidob _ i' p1;obtain ⟨b',c,e,k1,k2,_⟩:=hs.ob i' cs ER;rw [p3] at k1; cases k1;rw [k2] at h; cases h
    ·have:=hs.inj id i' b h0 p3;subst this;have h5:=(hsplit _ hq).2;rw [hvD _ _ p1] at h5; cases h5
   ·exact (hA.fr b hlt (λ j hj=>hno ⟨j,hj⟩)).trans h
  case shape=>
   have hlt:=(hs.own id b h0).1;by_cases hno:∃ j,gc.ow j=some b
   ·obtain ⟨j,hj⟩:=hno;obtain ⟨i',p3,⟨_,p2,_⟩|⟨p1,_,_⟩⟩:=gcinv j b hj
    ·exact hA.sh j b c e p2 hj h
    ·have:=hs.inj id i' b h0 p3;subst this;have h5:=(hsplit _ hq).2;rw [hvD _ _ p1] at h5; cases h5
   ·exact ⟨c,(hA.fr b hlt (λ j hj=>hno ⟨j,hj⟩)).trans h,Z⟩
  rw [hg2st] at ho;have hlt:=(hs.own id b h).1;by_cases hno:∃ j,gc.ow j=some b
  ·obtain ⟨j,hj⟩:=hno;obtain ⟨i',p3,⟨_,p2,_⟩|⟨p1,_,_⟩⟩:=gcinv j b hj
   ·exact absurd ho (hA.nst j b p2 hj o)
   ·have:=hs.inj id i' b h p3;subst this;have h5:=(hsplit _ hq).2;rw [hvD _ _ p1] at h5; cases h5
  ·have:=(hA.stf b hlt (λ j hj=>hno ⟨j,hj⟩) o).1 ho;rw [hgst] at this; exact this
 have hs':St C.n C.w0 C.F g2 ⟨(co (du EL NB NE) ⟨sl,ob⟩).sl,ob'++(co (du EL NB NE) ⟨sl,ob.filter λ p=>!(ids.any (Nat.beq p.1))⟩).ob⟩ a w':=by
  refine ⟨hs.nd,hs.sz,λ i=>?_,λ id cs h=>?_,λ i j b h1 h2=>?_,λ i b h=>?_,by rw [hg2st]; exact hA.lt,hs.fl,λ b h=>?_,hA.os.trans hs.os,hA.out.trans hs.out,hA.tape.trans hs.tape,Nat.le_trans hs.size hA.size,λ b h o=>?_,λ i h hz=>?_,hs.shf.next (λ i b c e hi hb h=>hE.shape i b c e (hDM i hi) ((hs.owf i hi (C.w0.lo i b hb)).trans hb) h),λ i b h1 h2 o h3=>?_,hs.ev0.trans hE.ev⟩
  ·have h:=(hs.sl i).dem hE;simp only [AS.get,co,gQ];simp only [AS.get] at h
   cases hl:look sl i with
   | none=>simp only [Option.map_none,Option.getD_none]; exact .undef _
   | some x=>rw [hl] at h; simpa using h
  ·dsimp only at h;rw [jg] at h;split at h
   ·rename_i x hx
    cases h
    exact pb hg2st hbm hmo' hob' (id,cs) (ia hx)
   ·have hf1:=kw (du EL NB NE) (ob.filter λ p=>!(ids.any (Nat.beq p.1))) id;simp only [co,gQ] at h;rw [hf1] at h
    cases hDi:du EL NB NE id
    ·simp only [hDi,Bool.false_eq_true,if_false,mv] at h;have hf:=kw (λ i=>ids.any (Nat.beq i)) ob id;rw [hf] at h
     cases hany:ids.any (Nat.beq id)
     ·rw [hany] at h;simp only [Bool.false_eq_true,if_false] at h;obtain ⟨ds,h1,rfl⟩:=h
      have hni:∀ (k:Nat),ids[k]?≠some id:=λ k hk=>by
       rw [List.any_eq_false] at hany;exact hany id (List.mem_of_getElem? hk) G
      have hnv:∀ (k:Nat),EL[k]?≠some id:=λ k hk=>by
       have h5:=(hsplit _ hDi).2;rw [hvD _ _ hk] at h5; cases h5
      obtain ⟨b,c,e,k1,k2,k3,k4,k5⟩:=hs.ob id ds h1;have hlt:=(hs.own id b k1).1;have hno:=nogc id b hni hnv k1;refine ⟨b,c,e,by rw [g2old id hDi]; exact k1,(hA.fr b hlt hno).trans k2,by simpa [j8] using k3,λ o ho=>?_,λ i x hx=>?_⟩
      ·rw [hg2st] at ho;have:=(hA.stf b hlt hno o).1 ho;rw [hgst] at this; exact k4 o this
      ·simp only [j8,List.getElem?_map,mv] at hx;obtain ⟨y,hy,rfl⟩:=hx;obtain ⟨v,hv,hr⟩:=k5 i y hy;exact ⟨v,hv,hr.dem hE⟩
     ·rw [hany] at h; simp at h
    ·simp [hDi] at h
  ·have cross:∀ i j b,uI NB NE i=true->g'.ow (2*M1+(i-NB))=some b->du EL NB NE j=false->g.ow j=some b->False:=by
    intro i j b hi h1 hj h2;have hlt:=(hs.own j b h2).1;rcases (hA.own _ b h1).2 with h3|⟨j',hj'⟩
    ·omega
    ·obtain ⟨i',p3,⟨p1,p2,p4⟩|⟨p1,_,_⟩⟩:=gcinv j' b hj'
     ·have h4:=hA.owf j' p2 p4;rw [hj'] at h4;have:=hA.inj _ _ b h1 h4;omega
     ·have:=hs.inj j i' b h2 p3;subst this;have h5:=(hsplit _ hj).2;rw [hvD _ _ p1] at h5; cases h5
   rcases g2cases i b h1 with ⟨x1,x2⟩|⟨x1,x2⟩ <;> rcases g2cases j b h2 with ⟨y1,y2⟩|⟨y1,y2⟩
   ·have:=hA.inj _ _ b x2 y2;have:=hDn i x1;have:=hDn j y1;omega
   ·exact (cross i j b x1 x2 y1 y2).elim
   ·exact (cross j i b y1 y2 x1 x2).elim
   ·exact hs.inj i j b x2 y2
  ·rcases g2cases i b h with ⟨x1,x2⟩|⟨x1,x2⟩
   ·obtain ⟨k1,k2⟩:=hA.own _ b x2;refine ⟨k1,λ hF=>?_⟩;rcases k2 with k2|⟨j,hj⟩
    ·have:=hs.fl b hF; have:=hs.size; omega
    ·obtain ⟨i',p3,_⟩:=gcinv j b hj;exact (hs.own i' b p3).2 hF
   ·have:=hs.own i b x2;have:=hA.size;exact ⟨by omega,(hs.own i b x2).2⟩
  ·have hlt:b<w.heap.size:=by have:=hs.fl b h; have:=hs.size; omega
   exact (hA.fr b hlt λ j hj=>by
    obtain ⟨i',p3,_⟩:=gcinv j b hj
    exact (hs.own i' b p3).2 h).trans (hs.fr b h)
  ·have hlt:b<w.heap.size:=by have:=hs.fl b h; have:=hs.size; omega
   rw [hg2st]
   have:=hA.stf b hlt (λ j hj=>by
    obtain ⟨i',p3,_⟩:=gcinv j b hj
    exact (hs.own i' b p3).2 h) o
   rw [hgst] at this;exact this.trans (hs.stf b h o)
  ·rw [g2old i (hDM i h)]; exact hs.owf i h hz
  ·rw [hg2st] at h3;have h4:g.ow i=some b:=(hs.owf i h1 (C.w0.lo i b h2)).trans h2;have hlt:=(hs.own i b h4).1;by_cases hin:∃ k:Nat,ids[k]? = some i
   ·obtain ⟨k,hk⟩:=hin
    have hj:gc.ow (M1+k)=some b:=by
     rw [hgc]; dsimp only; rw [if_pos O,Nat.add_sub_cancel_left,hk]; exact h4
    exact hA.nst (M1+k) b O hj o h3
   have hno:=nogc i b (λ k hk=>hin ⟨k,hk⟩) (λ k hk=>by have:=hvll k i hk; omega) h4;have:=(hA.stf b hlt hno o).1 h3;rw [hgst] at this;exact hs.nst i b h1 h2 o this
 exact ⟨g2,hs',kT hg2st hbm hr hr'⟩
theorem vg (ids EL:List Nat)(NB NE:Nat){f:FuncId}{l l' q:List AV}{Fa obs0 qo:List (Nat×List AV)}{R:AV->List (Nat×List AV)->Prop}(hc:aU C.P f q qo R)
  (hen:∀ g a w,St C.n C.w0 C.F g ⟨sl,ob⟩ a w->∃ vs:Array Value,(execOp a.eval o).run C.P w=.ok (.enter f vs) w/\vs.size=l.length/\∀ (i:Nat) c v,l[i]? = some c->vs[i]? = some v->ARep w g c v)
  (hd:o.dst=some d) (hn:Nat.blt d C.n=true) (hl':AV.mapA.go (lU ids EL) l=some l') (hq:nb l' q) (hpk:iM ob ids=some Fa) (hmo:iB (lU ids EL) Fa=some obs0) (hqo:leO obs0 qo)
  (hnd:nodupB ids=true) (hids:ids.all (λ i=>Nat.blt i (2*M1))=true) (hil:Nat.ble ids.length M1=true) (hdl:Nat.ble NE M1=true) (hdis:ids.all (λ i=>!(du EL NB NE i))=true)
  (hvd:nodupB EL=true) (hvl:EL.all (λ i=>Nat.blt i M1)=true) (hvn:Nat.ble EL.length 100000=true)
  (hK:∀ r obs',R r obs'->∃ r' ob',r.mapA (lH ids NB NE)=some r'/\iB (lH ids NB NE) obs'=some ob' /\
   K ⟨(d,r')::(co (du EL NB NE) ⟨sl,ob⟩).sl,ob'++(co (du EL NB NE) ⟨sl,ob.filter λ p=>!(ids.any (Nat.beq p.1))⟩).ob⟩):ba C o K ⟨sl,ob⟩:=by
 intro g a w hs;obtain ⟨avs,hrun,a1,a2⟩:=hen g a w hs;obtain ⟨gc,⟨k1,k2,k3,k4,k5,k6,k7⟩,hpost⟩:=qA ids EL NB NE hl' hq hpk hmo hqo hnd hids hil hdl hdis hvd hvl hvn hs a1 a2;unfold Oper.wp;rw [hrun];simp only [Oper.upon];refine (hc w gc avs k1 k2 k3 k4 k5 k6 k7).mono λ e w' ⟨v,r,obs',g',he,hR,hr,hob',hA⟩=>?_;subst he;obtain ⟨r',ob',hr',hmo',hK'⟩:=hK r obs' hR;obtain ⟨g2,hs',hrep⟩:=hpost w' v r r' obs' ob' g' hr hob' hA hr' hmo';have hp:=hs'.put (d:=o.dst) (λ t ht=>by rw [hd] at ht; cases ht; exact dg ▸ hn) hrep;rw [hd] at hp;simp only;rw [hd];exact ⟨_,_,hp,hK'⟩
theorem aQ (ids EL:List Nat)(NB NE:Nat){f:FuncId}{args:Array Operand}{ts:Array TypeId}{l l' q:List AV}{Fa obs0 qo rob ob':List (Nat×List AV)}{r r':AV}(hc:aU C.P f q qo (λ x y=>x=r/\y=rob))(ho:o.op=.call { callee:=.value (.func f),args:=args,argTypes:=ts })
  (hd:o.dst=some d) (hn:Nat.blt d C.n=true) (hl:kx sl args.toList=some l) (hl':AV.mapA.go (lU ids EL) l=some l') (hq:nb l' q) (hpk:iM ob ids=some Fa) (hmo:iB (lU ids EL) Fa=some obs0) (hqo:leO obs0 qo)
  (hnd:nodupB ids=true) (hids:ids.all (λ i=>Nat.blt i (2*M1))=true) (hil:Nat.ble ids.length M1=true) (hdl:Nat.ble NE M1=true) (hdis:ids.all (λ i=>!(du EL NB NE i))=true)
  (hvd:nodupB EL=true) (hvl:EL.all (λ i=>Nat.blt i M1)=true) (hvn:Nat.ble EL.length 100000=true)
  (henter:∀ vs w,(callFunc f vs).run C.P w=.ok (.enter f vs) w) (hr:r.mapA (lH ids NB NE)=some r') (hob:iB (lH ids NB NE) rob=some ob')
  (hK:K ⟨(d,r')::(co (du EL NB NE) ⟨sl,ob⟩).sl,ob'++(co (du EL NB NE) ⟨sl,ob.filter λ p=>!(ids.any (Nat.beq p.1))⟩).ob⟩):ba C o K ⟨sl,ob⟩ :=
 vg ids EL NB NE hc (λ g a w hs=>by
  obtain ⟨a1,a2⟩:=jc hs _ l hl
  exact ⟨args.map a.eval,by simp [execOp,ho,resolve,Act.eval,Deferred.ofValue,invoke,henter],by have:=a1.symm; simpa using this,λ i c v hc hv=>a2 i c v hc (by rw [<- Array.toList_map]; simpa using hv)⟩)
  hd hn hl' hq hpk hmo hqo hnd hids hil hdl hdis hvd hvl hvn λ x y ⟨e1,e2⟩=>by
  subst e1 e2;exact ⟨r',ob',hr,hob,hK⟩
theorem u7 (ids EL:List Nat)(NB NE:Nat){f:FuncId}{caps:List AV}{t:Nat}{args:Array Operand}{ts:Array TypeId}{l l' q:List AV}{Fa obs0 qo rob ob':List (Nat×List AV)}{r r':AV}(hc:aU C.P f q qo (λ x y=>x=r/\y=rob))(ho:o.op=.call { callee:=.value (.tmp t),args:=args,argTypes:=ts })
  (hd:o.dst=some d) (hn:Nat.blt d C.n=true) (hf:evo sl (.tmp t)=some (.func (.func f) caps)) (hl:kx sl args.toList=some l) (hl':AV.mapA.go (lU ids EL) (l++caps)=some l') (hq:nb l' q) (hpk:iM ob ids=some Fa) (hmo:iB (lU ids EL) Fa=some obs0) (hqo:leO obs0 qo)
  (hnd:nodupB ids=true) (hids:ids.all (λ i=>Nat.blt i (2*M1))=true) (hil:Nat.ble ids.length M1=true) (hdl:Nat.ble NE M1=true) (hdis:ids.all (λ i=>!(du EL NB NE i))=true)
  (hvd:nodupB EL=true) (hvl:EL.all (λ i=>Nat.blt i M1)=true) (hvn:Nat.ble EL.length 100000=true)
  (henter:∀ vs w,(callFunc f vs).run C.P w=.ok (.enter f vs) w) (hr:r.mapA (lH ids NB NE)=some r') (hob:iB (lH ids NB NE) rob=some ob')
  (hK:K ⟨(d,r')::(co (du EL NB NE) ⟨sl,ob⟩).sl,ob'++(co (du EL NB NE) ⟨sl,ob.filter λ p=>!(ids.any (Nat.beq p.1))⟩).ob⟩):ba C o K ⟨sl,ob⟩ :=
 vg ids EL NB NE hc (λ g a w hs=>by
  obtain ⟨a1,a2⟩:=jc hs _ l hl;have hfr:=bu hs hf;generalize hv:a.eval (.tmp t)=v at hfr
  cases hfr with
  | func ER hcr=>
   rename_i vs;have a1':(args.map a.eval).size=l.length:=by have:=a1.symm; simpa using this
   refine ⟨args.map a.eval++vs,by simp [execOp,ho,resolve,hv,Deferred.ofValue,invoke,henter],by rw [Array.size_append,qr,a1',ER],λ i c v hc hv=>?_⟩;rw [List.getElem?_append] at hc;rw [Array.getElem?_append] at hv;split at hc
   ·rename_i hlt;rw [if_pos O] at hv;exact a2 i c v hc (by rw [<- Array.toList_map]; simpa using hv)
   ·rename_i hge;rw [if_neg O,a1'] at hv
    exact hcr _ c v hc hv)
  hd hn hl' hq hpk hmo hqo hnd hids hil hdl hdis hvd hvl hvn λ x y ⟨e1,e2⟩=>by
  subst e1 e2;exact ⟨r',ob',hr,hob,hK⟩
end
def iW (o:Oper)(k:Nat):Bool:=o.after.toList.any λ e=>Nat.beq e.on k&&Region.binds .any e
def mq (ops:Array Oper):Nat->Oper->Nat->Bool|0,o,a=>iW o a|n+1,o,a=>iW o a||ops.toList.zipIdx.any λ p=>iW o p.2&&mq ops n p.1 a
def oj (ops:Array Oper)(imp:List Nat)(o:Oper)(k j:Nat):Bool :=
 (imp.zipIdx.all λ p=>!(mq ops 4 o p.1)||Nat.blt p.2 j)&&(imp.zipIdx.all λ p=>match ops.toList[p.1]? with
  | some oi=>!(iW oi k)||Nat.ble j p.2
  | none=>true)
def chainB (ops:Array Oper):List Nat->Bool
 | a::b::r=>(match ops.toList[b]? with|some o=>mq ops 4 o a|none=>false)&&chainB ops (b::r)
 | _=>true
def loB (ops:Array Oper)(imp:List Nat)(o:Oper)(j:Nat):Bool:=imp.zipIdx.all λ p=>!(mq ops 4 o p.1)||Nat.blt p.2 j
theorem jU {ops:Array Oper}{listed:Array Bool}(hcl:∀ (k:Nat) o,ops[k]? = some o->listed.getD k false=true->∀ e∈o.after,Region.binds .any e=true->listed.getD e.on false=true) :
  ∀ (n:Nat) (o:Oper) (a:Nat),mq ops n o a=true->(∀ e∈o.after,Region.binds .any e=true->listed.getD e.on false=true)->listed.getD a false=true:=by
 have one:∀ (o:Oper) (a:Nat),iW o a=true->(∀ e∈o.after,Region.binds .any e=true->listed.getD e.on false=true)->listed.getD a false=true:=by
  intro o a h ha;obtain ⟨e,he,hbe⟩:=List.any_eq_true.1 h;simp only [ph] at hbe;have h3:=ha e (Array.mem_toList_iff.1 he) hbe.2
  rwa [cl hbe.1] at h3
 intro n
 induction n with
 | zero=>exact one
 | succ n ih=>
  intro o a h ha;simp only [mq,Bool.or_eq_true] at h;rcases h with h|h
  ·exact one o a h ha
  ·obtain ⟨⟨p,k⟩,hp,h2⟩:=List.any_eq_true.1 h;simp only [ph] at h2;have hk:=one o k h2.1 ha
   have hpk:ops[k]? = some p:=by
    have:=List.mk_mem_zipIdx_iff_getElem?.1 hp;simpa using this
   exact ih p a h2.2 (hcl k p hpk hk)
inductive Tr where
 | none
 | some (D:Nat->Bool)
 | fn (f:AV->AV)
def trA:Tr->AV->AV|.none,x=>x|.some D,x=>x.dem D|.fn f,x=>f x
def trL:Tr->List (Nat×AV)->List (Nat×AV)|.none,l=>l|.some D,l=>l.map λ p=>(p.1,p.2.dem D)|.fn f,l=>l.map λ p=>(p.1,f p.2)
theorem pr {D:Tr}{l:List (Nat×AV)}{i:Nat}:look (trL D l) i=(look l i).map (trA D):=by
 cases D with
 | none=>simp only [trL]; cases look l i <;> rfl
 | some D=>simp only [trL,gQ]; rfl
 | fn f=>simp only [trL,gQ]; rfl
abbrev gw:=List (Nat×Nat×(Nat->AV))
def dz:gw->Nat->Option (Nat×(Nat->AV))|[],_=>none|(j,p)::r,k=>bif Nat.beq j k then some p else dz r k
def ed:gw->Nat->List (Nat×AV)|[],_=>[]|(_,d,v)::r,j=>(d,v j)::ed r j
def KnS (bas:List (Nat×AV))(o:Oper)(rev:gw)(j:Nat):List (Nat×AV)->Prop|[]=>True|(i,x)::r=>(look bas i=some x\/∃ k v,iW o k=true/\dz rev k=some (i,v)/\v j=x)/\KnS bas o rev j r
structure gb where
 m:Nat
 imp:List Nat
 D:Nat->Tr
 bas:Nat->List (Nat×AV)
 obj:Nat->List (Nat×List AV)
def DS (C:Cx)(ops:Array Oper)(S:gb)(K:gw->Prop):List Oper->Nat->gw->Prop
 | [],_,rev=>K rev
 | o::rest,k,rev=>
  match S.imp.findIdx? (Nat.beq k) with
  | none=>∃ d v,o.dst=some d/\(rev.all λ p=>!(Nat.beq p.2.1 d))=true/\(∀ j,look (S.bas j) d=none)/\(∀ j,j<S.m->loB ops S.imp o j=true->v (j+1)=trA (S.D j) (v j)) /\
    (∀ j,j<=S.m->oj ops S.imp o k j=true->∃ kn,KnS (S.bas j) o rev j kn/\sf C ops (S.obj j) o kn d (v j))/\DS C ops S K rest (k+1) ((k,d,v)::rev)
  | some i=>∃ kn,KnS (S.bas i) o rev i kn/\((∃ d v,o.dst=some d/\(rev.all λ p=>!(Nat.beq p.2.1 d))=true/\(∀ j,i<j->look (S.bas j) d=none)/\(∀ j,i<j->j<S.m->v (j+1)=trA (S.D j) (v j)) /\
     (∀ sl,(∀ i x,look kn i=some x->look sl i=some x)->∀ K:AS->Prop,K ⟨(d,v (i+1))::trL (S.D i) sl,S.obj (i+1)⟩->One C ops o K ⟨sl,S.obj i⟩)/\DS C ops S K rest (k+1) ((k,d,v)::rev)) \/
    (o.dst=none/\(∀ sl,(∀ i x,look kn i=some x->look sl i=some x)->∀ K:AS->Prop,K ⟨trL (S.D i) sl,S.obj (i+1)⟩->One C ops o K ⟨sl,S.obj i⟩)/\DS C ops S K rest (k+1) rev))
def o5 (C:Cx)(ops:Array Oper)(S:gb)(R:Nat->Option (Nat×(Nat->AV)))(o:Oper)(k:Nat):Prop :=
 match S.imp.findIdx? (Nat.beq k) with
 | none=>∃ d v,R k=some (d,v)/\o.dst=some d/\(∀ j,look (S.bas j) d=none)/\(∀ j,j<S.m->loB ops S.imp o j=true->v (j+1)=trA (S.D j) (v j)) /\
   (∀ j,j<=S.m->oj ops S.imp o k j=true->∀ sl,(∀ i x,look (S.bas j) i=some x->look sl i=some x)->(∀ k' p,iW o k'=true->R k'=some p->look sl p.1=some (p.2 j))->∀ K:AS->Prop,K ⟨(d,v j)::sl,S.obj j⟩->One C ops o K ⟨sl,S.obj j⟩)
 | some i=>(∃ d v,R k=some (d,v)/\o.dst=some d/\(∀ j,i<j->look (S.bas j) d=none)/\(∀ j,i<j->j<S.m->v (j+1)=trA (S.D j) (v j)) /\
    (∀ sl,(∀ q x,look (S.bas i) q=some x->look sl q=some x)->(∀ k' p,iW o k'=true->R k'=some p->look sl p.1=some (p.2 i))->∀ K:AS->Prop,K ⟨(d,v (i+1))::trL (S.D i) sl,S.obj (i+1)⟩->One C ops o K ⟨sl,S.obj i⟩)) \/
   (R k=none/\o.dst=none/\(∀ sl,(∀ q x,look (S.bas i) q=some x->look sl q=some x)->(∀ k' p,iW o k'=true->R k'=some p->look sl p.1=some (p.2 i))->∀ K:AS->Prop,K ⟨trL (S.D i) sl,S.obj (i+1)⟩->One C ops o K ⟨sl,S.obj i⟩))
theorem qP {bas:List (Nat×AV)}{o:Oper}{rev:gw}{j:Nat}{R:Nat->Option (Nat×(Nat->AV))}(hR:∀ k p,dz rev k=some p->R k=some p){sl:List (Nat×AV)}(h1:∀ i x,look bas i=some x->look sl i=some x)
  (h2:∀ k' p,iW o k'=true->R k'=some p->look sl p.1=some (p.2 j)):∀ {kn:List (Nat×AV)},KnS bas o rev j kn->∀ i x,look kn i=some x->look sl i=some x
 | [],_,i,x,h=>by simp [look] at h
 | (q,y)::r,hk,i,x,h=>by
  rw [a6] at h;by_cases e:q=i
  ·rw [if_pos e] at h; cases h; subst e;rcases hk.1 with h3|⟨k,v,h3,h4,h5⟩
   ·exact h1 _ _ h3
   ·have:=h2 k _ h3 (hR k _ h4);rw [<- h5]; exact this
  ·rw [if_neg e] at h;exact qP hR h1 h2 hk.2 i x h
theorem us {rev:gw}{k:Nat}(h:∀ p∈rev,p.1<k):dz rev k=none:=by
 induction rev with
 | nil=>rfl
 | cons p r ih=>
  obtain ⟨j,q⟩:=p;have h1:=h (j,q) G;simp only [dz]
  have:Nat.beq j k=false:=by
   cases hq:Nat.beq j k
   ·rfl
   ·have:=cl hq;simp only at h1; omega
  rw [this,cond_false];exact ih λ p hp=>h p (by simp [hp])
theorem ws {C:Cx}{ops:Array Oper}{S:gb}{K:gw->Prop}:∀ {l:List Oper} {k:Nat} {rev:gw},DS C ops S K l k rev->(∀ p∈rev,p.1<k) ->
  ∃ fin:gw,K fin/\(∀ i,i<k->dz fin i=dz rev i)/\(∀ p∈fin,p.1<k+l.length) /\
   (∀ (i:Nat) o,l[i]? = some o->o5 C ops S (dz fin) o (k+i)) /\
   (∃ pre:gw,fin=pre++rev/\(∀ p∈pre,∀ q∈rev,p.2.1≠q.2.1)/\(∀ (i j:Nat) p q,pre[i]? = some p->pre[j]? = some q->p.2.1=q.2.1->i=j)/\(∀ p∈pre,k<=p.1)/\∀ (i j:Nat) p q,pre[i]? = some p->pre[j]? = some q->p.1=q.1->i=j)
 | [],k,rev,h,hlt=>⟨rev,h,λ _ _=>rfl,hlt,λ i o h=>by simp at h,[],Z,by simp,by simp,by simp,by simp⟩
 | o::rest,k,rev,h,hlt=>by
  -- one more result
  have more:∀ (d:Nat) (v:Nat->AV),(rev.all λ p=>!(Nat.beq p.2.1 d))=true->DS C ops S K rest (k+1) ((k,d,v)::rev) ->
    (∀ fin:gw,(∀ q p,dz rev q=some p->dz fin q=some p)->dz fin k=some (d,v)->o5 C ops S (dz fin) o k)->∃ fin:gw,K fin/\(∀ i,i<k->dz fin i=dz rev i)/\(∀ p∈fin,p.1<k+(rest.length+1)) /\
     (∀ (i:Nat) o',(o::rest)[i]? = some o'->o5 C ops S (dz fin) o' (k+i)) /\
     (∃ pre:gw,fin=pre++rev/\(∀ p∈pre,∀ q∈rev,p.2.1≠q.2.1)/\(∀ (i j:Nat) p q,pre[i]? = some p->pre[j]? = some q->p.2.1=q.2.1->i=j)/\(∀ p∈pre,k<=p.1)/\∀ (i j:Nat) p q,pre[i]? = some p->pre[j]? = some q->p.1=q.1->i=j):=by
   intro d v hf hrest howes
   obtain ⟨fin,f1,f2,f3,f4,pre,f5,f6,f7,f8,f9⟩:=ws hrest (λ p hp=>by
    rcases List.mem_cons.1 hp with rfl|hp
    ·exact Nat.lt_succ_self k
    ·exact Nat.lt_succ_of_lt (hlt p hp))
   have hkk:dz fin k=some (d,v):=by
    rw [f2 k (Nat.lt_succ_self k)];simp [dz]
   have hsub:∀ q,q<k->dz fin q=dz rev q:=by
    intro q hq;rw [f2 q (Nat.lt_succ_of_lt hq)];simp only [dz]
    have:Nat.beq k q=false:=by
     cases hb:Nat.beq k q
     ·rfl
     ·have:=cl hb; omega
    rw [this,cond_false]
   have hfrd:∀ q∈rev,q.2.1≠d:=λ q hq e=>by
    have:=rd.1 hf q hq;simp [e] at this
   refine ⟨fin,f1,hsub,λ p hp=>by have:=f3 p hp; omega,λ i o' ho'=>?_,pre++[(k,d,v)],by rw [f5]; simp,λ p hp q hq=>?_,λ i j p q hi hj e=>?_,λ p hp=>?_,λ i j p q hi hj e=>?_⟩
   ·cases i with
    | zero=>
     simp only [List.getElem?_cons_zero,bt] at ho';subst ho';refine howes fin (λ q p hq=>?_) hkk
     have hqk:q<k:=by
      by_cases hqk:q<k
      ·exact hqk
      ·exfalso;have:dz rev q=none:=us λ p hp=>Nat.lt_of_lt_of_le (hlt p hp) (Nat.le_of_not_lt hqk);rw [this] at hq; cases hq
     rw [hsub q hqk]; exact hq
    | succ i=>
     simp only [List.getElem?_cons_succ] at ho';have:=f4 i o' ho'
     rwa [show k+1+i=k+(i+1) by omega] at this
   ·rcases List.mem_append.1 hp with hp|hp
    ·exact f6 p hp q (by simp [hq])
    ·simp only [List.mem_singleton] at hp;subst hp;exact λ e=>hfrd q hq e.symm
   ·have key:∀ (i:Nat) p,(pre++[(k,d,v)])[i]? = some p->(i<pre.length/\pre[i]? = some p)\/(i=pre.length/\p=(k,d,v)):=by
     intro i p h;rcases Nat.lt_or_ge i pre.length with hi|hi
     ·rw [List.getElem?_append_left hi] at h; exact .inl ⟨hi,h⟩
     ·rw [List.getElem?_append_right hi] at h;have hl:=(List.getElem?_eq_some_iff.1 h).1;simp at hl;have hi0:i=pre.length:=by omega
      subst hi0;simp at h;exact .inr ⟨rfl,h.symm⟩
    rcases key i p hi with ⟨a1,a2⟩|⟨a1,rfl⟩ <;> rcases key j q hj with ⟨b1,b2⟩|⟨b1,rfl⟩
    ·exact f7 i j p q a2 b2 e
    ·exact absurd e (f6 p (List.mem_of_getElem? a2) (k,d,v) G)
    ·exact absurd e.symm (f6 q (List.mem_of_getElem? b2) (k,d,v) G)
    ·omega
   ·rcases List.mem_append.1 hp with hp|hp
    ·have:=f8 p hp; omega
    ·simp only [List.mem_singleton] at hp; subst hp; exact ld _
   ·have key:∀ (i:Nat) p,(pre++[(k,d,v)])[i]? = some p->(i<pre.length/\pre[i]? = some p)\/(i=pre.length/\p=(k,d,v)):=by
     intro i p h;rcases Nat.lt_or_ge i pre.length with hi|hi
     ·rw [List.getElem?_append_left hi] at h; exact .inl ⟨hi,h⟩
     ·rw [List.getElem?_append_right hi] at h;have hl:=(List.getElem?_eq_some_iff.1 h).1;simp at hl;have hi0:i=pre.length:=by omega
      subst hi0;simp at h;exact .inr ⟨rfl,h.symm⟩
    rcases key i p hi with ⟨a1,a2⟩|⟨a1,rfl⟩ <;> rcases key j q hj with ⟨b1,b2⟩|⟨b1,rfl⟩
    ·exact f9 i j p q a2 b2 e
    ·have:=f8 p (List.mem_of_getElem? a2); simp only at e; omega
    ·have:=f8 q (List.mem_of_getElem? b2); simp only at e; omega
    ·omega
  unfold DS at h
  cases hi:S.imp.findIdx? (Nat.beq k) with
  | none=>
   rw [hi] at h;obtain ⟨d,v,hd,hf,hb,hv,hs,hrest⟩:=h;refine more d v hf hrest λ fin hR hk=>?_;unfold o5;rw [hi];refine ⟨d,v,hk,hd,hb,hv,λ j hj hal sl h1 h2 K hK=>?_⟩;obtain ⟨kn,hkn,ES⟩:=hs j hj hal;exact ES sl (qP hR h1 h2 hkn) K hK
  | some i=>
   rw [hi] at h;obtain ⟨kn,hkn,⟨d,v,hd,hf,hb,hv,ES,hrest⟩|⟨hd,ES,hrest⟩⟩:=h
   ·refine more d v hf hrest λ fin hR hk=>?_;unfold o5;rw [hi];exact .inl ⟨d,v,hk,hd,hb,hv,λ sl h1 h2 K hK=>ES sl (qP hR h1 h2 hkn) K hK⟩
   ·obtain ⟨fin,f1,f2,f3,f4,pre,f5,f6,f7,f8,f9⟩:=ws hrest (λ p hp=>Nat.lt_succ_of_lt (hlt p hp));refine ⟨fin,f1,λ q hq=>f2 q (Nat.lt_succ_of_lt hq),λ p hp=>by have:=f3 p hp; simp only [List.length_cons]; omega,λ q o' ho'=>?_,pre,f5,f6,f7,λ p hp=>by have:=f8 p hp; omega,f9⟩
    cases q with
    | zero=>
     simp only [List.getElem?_cons_zero,bt] at ho';subst ho'
     have hkn':dz fin k=none:=by
      rw [f2 k (Nat.lt_succ_self k)];exact us hlt
     unfold o5;rw [Nat.add_zero,hi];refine .inr ⟨hkn',hd,λ sl h1 h2 K hK=>ES sl (qP (λ q p hq=>?_) h1 h2 hkn) K hK⟩
     have hqk:q<k:=by
      by_cases hqk:q<k
      ·exact hqk
      ·exfalso;have:dz rev q=none:=us λ p hp=>Nat.lt_of_lt_of_le (hlt p hp) (Nat.le_of_not_lt hqk);rw [this] at hq; cases hq
     rw [f2 q (Nat.lt_succ_of_lt hqk)]; exact hq
    | succ q=>
     simp only [List.getElem?_cons_succ] at ho';have:=f4 q o' ho'
     rwa [show k+1+q=k+(q+1) by omega] at this
theorem od:∀ {rev:gw} {k:Nat} {p:Nat×(Nat->AV)},dz rev k=some p->(k,p)∈rev
 | [],k,p,h=>by simp [dz] at h
 | (j,q)::r,k,p,h=>by
  simp only [dz] at h
  cases hb:Nat.beq j k
  ·rw [hb,cond_false] at h;exact List.mem_cons_of_mem _ (od h)
  ·rw [hb,cond_true] at h
   cases h
   have:=cl hb;subst this;simp
theorem uh:∀ {rev:gw} {j i:Nat} {x:AV},(i,x)∈ed rev j->∃ k v,(k,i,v)∈rev/\v j=x
 | [],j,i,x,h=>by simp [ed] at h
 | (k,d,v)::r,j,i,x,h=>by
  simp only [ed] at h;rcases List.mem_cons.1 h with e|h
  ·cases e; exact ⟨k,v,by simp,rfl⟩
  ·obtain ⟨k',v',h1,h2⟩:=uh h;exact ⟨k',v',List.mem_cons_of_mem _ h1,h2⟩
theorem kz {ops:Array Oper}:∀ {imp:List Nat},chainB ops imp=true->∀ (i a b:Nat) o,imp[i]? = some a->imp[i+1]? = some b->ops[b]? = some o->mq ops 4 o a=true
 | [],_,i,a,b,o,h,_,_=>by simp at h
 | [x],_,i,a,b,o,h1,h2,_=>by
  cases i with
  | zero=>simp at h2
  | succ i=>simp at h1
 | x::y::r,hc,i,a,b,o,h1,h2,h3=>by
  simp only [chainB,ph] at hc
  cases i with
  | zero=>
   simp only [List.getElem?_cons_zero,bt,List.getElem?_cons_succ] at h1 h2;subst h1 h2;have:=hc.1;rw [Array.getElem?_toList,h3] at this;exact this
  | succ i=>
   simp only [List.getElem?_cons_succ] at h1 h2;exact kz hc.2 i a b o h1 (by simpa using h2) h3
theorem xg {ops:Array Oper}{listed:Array Bool}(hs:listed.size=ops.size)(hord:∀ (j:Nat) o,ops[j]? = some o->∀ e∈o.after,Region.binds .any e=true->e.on<j)(h:Region.ready .any ops listed=[]) :
  ∀ j,j<ops.size->listed.getD j false=true:=by
 intro j
 induction j using Nat.strongRecOn with
 | ind j ih=>
  intro hj
  cases hv:listed.getD j false with
  | true=>rfl
  | false=>
   have hjl:j<listed.size:=by omega
   have:j∈Region.ready .any ops listed:=by
    rw [mem_ready];refine ⟨?_,ops[j],Array.getElem?_eq_getElem hj,λ e he hb=>?_⟩
    ·simp only [Array.getD_eq_getD_getElem?,Array.getElem?_eq_getElem hjl,n8] at hv ⊢;exact hv
    ·have hlt:=hord j _ (Array.getElem?_eq_getElem hj) e he hb;exact ih e.on hlt O
   rw [h] at this
   cases this
structure wM (C:Cx)(ops:Array Oper)(S:gb)(fin:gw):Prop where
 owes:∀ (k:Nat) o,ops[k]? = some o->o5 C ops S (dz fin) o k
 lt:∀ k p,dz fin k=some p->k<ops.size
 same:∀ k k' p p',dz fin k=some p->dz fin k'=some p'->p.1=p'.1->k=k'
 num:∀ (i j:Nat) p q,fin[i]? = some p->fin[j]? = some q->p.1=q.1->i=j
 len:S.imp.length=S.m
 bas:∀ j,j<S.m->fy (trL (S.D j) (S.bas j)) (S.bas (j+1))
 nd:nodupB S.imp=true
 inn:S.imp.all (λ i=>Nat.blt i ops.size)=true
 ord:∀ (j:Nat) o,ops[j]? = some o->∀ e∈o.after,Region.binds .any e=true->e.on<j
theorem wM.mk' {C:Cx}{ops:Array Oper}{S:gb}{K:gw->Prop}(EK:S.imp.length=S.m)
  (hbas:∀ j,j<S.m->fy (trL (S.D j) (S.bas j)) (S.bas (j+1))) (hnd:nodupB S.imp=true) (hin:S.imp.all (λ i=>Nat.blt i ops.size)=true)
  (hord:(ops.toList.zipIdx.all λ p=>p.1.after.toList.all λ e=>!(Region.binds .any e)||Nat.blt e.on p.2)=true) (h:DS C ops S K ops.toList 0 []):∃ fin,K fin/\wM C ops S fin:=by
 obtain ⟨fin,hfin,_,hfl,howes,pre,hpre,_,hdst,_,hnum⟩:=ws h G;rw [List.append_nil] at hpre;subst hpre;simp only [th,ur] at hfl howes;have howes':∀ (k:Nat) o,ops[k]? = some o->o5 C ops S (dz fin) o k:=λ k o ho=>howes k o (by rw [Array.getElem?_toList]; exact ho)
 have hord':∀ (j:Nat) o,ops[j]? = some o->∀ e∈o.after,Region.binds .any e=true->e.on<j:=by
  intro j o ho e he hbe
  have h1:=rd.1 hord (o,j) (by
   rw [List.mem_iff_getElem?]
   exact ⟨j,by rw [List.getElem?_zipIdx,Array.getElem?_toList,ho]; simp⟩)
  have h2:=rd.1 h1 e (Array.mem_toList_iff.2 he);simp only [hbe,Bool.not_true,Bool.false_or] at h2;exact dg ▸ h2
 have hlt:∀ k p,dz fin k=some p->k<ops.size:=λ k p h=>hfl _ (od h)
 have hsame:∀ k k' p p',dz fin k=some p->dz fin k'=some p'->p.1=p'.1->k=k':=by
  intro k k' p p' h1 h2 e;obtain ⟨i,hi⟩:=List.mem_iff_getElem?.1 (od h1);obtain ⟨i',hi'⟩:=List.mem_iff_getElem?.1 (od h2);have:=hdst i i' _ _ hi hi' e;subst this;rw [hi] at hi'; cases hi'; rfl
 have hdstOf:∀ k o p,ops[k]? = some o->dz fin k=some p->o.dst=some p.1:=by
  intro k o p ho hk;have h:=howes' k o ho;unfold o5 at h;split at h
  ·obtain ⟨d,v,h1,h2,_⟩:=h;rw [hk] at h1; cases h1; exact h2
  ·rcases h with ⟨d,v,h1,h2,_⟩|⟨h1,_⟩
   ·rw [hk] at h1; cases h1; exact h2
   ·rw [hk] at h1; cases h1
 exact ⟨fin,hfin,howes',hlt,hsame,hnum,EK,hbas,hnd,hin,hord'⟩
def zj (ops:Array Oper)(S:gb)(listed:Array Bool)(j:Nat):Prop:=j<=S.m/\(∀ (i k:Nat),S.imp[i]? = some k->(listed.getD k false=true↔i<j))/\(∀ (k:Nat) o,ops[k]? = some o->listed.getD k false=true->∀ e∈o.after,Region.binds .any e=true->listed.getD e.on false=true)
def PKn (S:gb)(fin:gw)(listed:Array Bool)(j:Nat)(sl':List (Nat×AV)):Prop:=(∀ i x,look (S.bas j) i=some x->look sl' i=some x)/\(∀ k p,listed.getD k false=true->dz fin k=some p->look sl' p.1=some (p.2 j))
structure PAt (C:Cx)(ops:Array Oper)(S:gb)(fin:gw)(fuel:Nat)(listed:Array Bool)(g:Gh)(a:Act)(w:World)(sl':List (Nat×AV))(j:Nat):Prop where
 sz:listed.size=ops.size
 un:unl ops.size listed=fuel
 inv:zj ops S listed j
 kn:PKn S fin listed j sl'
 st:St C.n C.w0 C.F g ⟨sl',S.obj j⟩ a w
theorem AS.le_refl (s:AS):s.le s:=⟨λ j x h=>by unfold AS.get; rw [h]; exact AV.sub_refl _,λ id cs h=>⟨cs,h,ld _,λ i c d h1 h2=>by rw [h1] at h2; cases h2; exact AV.sub_refl _⟩⟩
theorem nV {C:Cx}{ops:Array Oper}{Q:Exit->AS->Prop}{S:gb}{fin:gw}(hP:wM C ops S fin){t:AS}(hle:(⟨ed fin S.m++S.bas S.m,S.obj S.m⟩:AS).le t)(hfin:Q .normal t)(j0:Nat)
  (hsw:∀ (fuel:Nat) (listed:Array Bool) (g:Gh) (a:Act) (w:World) (sl':List (Nat×AV)) (j:Nat),j0<=j->PAt C ops S fin (fuel+1) listed g a w sl' j->∀ i q,i∈Region.ready .any ops listed->S.imp[q]? = some i->j<q ->
   wpOp C.P ops (λ e a' w'=>∃ g' s',St C.n C.w0 C.F g' s' a' w'/\Q e s') i (wpAny C.P .any ops (λ e a' w'=>∃ g' s',St C.n C.w0 C.F g' s' a' w'/\Q e s') fuel (listed.setIfInBounds i true)) a w) :
  (∀ (fuel:Nat) (listed:Array Bool) (g:Gh) (a:Act) (w:World) (sl':List (Nat×AV)) (j:Nat),j0<=j->PAt C ops S fin fuel listed g a w sl' j->wpAny C.P .any ops (λ e a' w'=>∃ g' s',St C.n C.w0 C.F g' s' a' w'/\Q e s') fuel listed a w) /\
  (∀ (fuel:Nat) (listed:Array Bool) (g:Gh) (a:Act) (w:World) (sl':List (Nat×AV)) (j i:Nat),(j0<=j\/(j0<=j+1/\S.imp[j]? = some i))->i∈Region.ready .any ops listed->PAt C ops S fin (fuel+1) listed g a w sl' j ->
   wpOp C.P ops (λ e a' w'=>∃ g' s',St C.n C.w0 C.F g' s' a' w'/\Q e s') i (wpAny C.P .any ops (λ e a' w'=>∃ g' s',St C.n C.w0 C.F g' s' a' w'/\Q e s') fuel (listed.setIfInBounds i true)) a w):=by
 obtain ⟨howes',hlt,hsame,hnum,EK,hbas,hnd,hin,hord'⟩:=hP;have himp:∀ {k i:Nat},S.imp.findIdx? (Nat.beq k)=some i->S.imp[i]? = some k:=λ h=>kM h
 have himp2:∀ {k i:Nat},S.imp[i]? = some k->S.imp.findIdx? (Nat.beq k)=some i:=by
  intro k i h
  cases hf:S.imp.findIdx? (Nat.beq k) with
  | none=>
   have:=List.findIdx?_eq_none_iff.1 hf k (List.mem_of_getElem? h);simp at this
  | some i'=>
   have:=jb hnd _ _ _ (himp hf) h;rw [this]
 have done:∀ (listed:Array Bool) (g:Gh) (a:Act) (w:World) (sl':List (Nat×AV)) (j:Nat),(∀ k,k<ops.size->listed.getD k false=true)->zj ops S listed j->PKn S fin listed j sl'->St C.n C.w0 C.F g ⟨sl',S.obj j⟩ a w ->
   ∃ g' s',St C.n C.w0 C.F g' s' a w/\Q .normal s':=by
  intro listed g a w sl' j hall hI hK hs
  have hj:j=S.m:=by
   rcases Nat.lt_or_ge j S.m with hlt|hge
   ·exfalso;have hjl:j<S.imp.length:=by omega
    have h1:=(hI.2.1 j S.imp[j] (List.getElem?_eq_getElem hjl)).1 (hall _ (by
     have:=rd.1 hin S.imp[j] (List.getElem_mem hjl)
     exact dg ▸ this))
    omega
   ·exact Nat.le_antisymm hI.1 hge
  subst hj;refine ⟨g,t,(hs.weaken (t:=⟨ed fin S.m++S.bas S.m,S.obj S.m⟩) ?_).weaken hle,hfin⟩;refine AC λ i x hx=>?_;rw [jg] at hx
  cases hq:look (ed fin S.m) i with
  | none=>rw [hq] at hx; exact hK.1 i x (by simpa using hx)
  | some y=>
   rw [hq] at hx;simp only [bt] at hx;subst hx;obtain ⟨k,v,h1,h2⟩:=uh (ia hq)
   have hk:dz fin k=some (i,v):=by
    obtain ⟨q,hq'⟩:=List.mem_iff_getElem?.1 h1
    cases hl:dz fin k with
    | none=>
     exfalso
     have hno:∀ {rev:gw} {k:Nat} {p:Nat×(Nat->AV)},(k,p)∈rev->dz rev k≠none:=by
      intro rev
      induction rev with
      | nil=>intro k p h; simp at h
      | cons z r ih=>
       intro k p h;obtain ⟨j,q⟩:=z;simp only [dz]
       cases hb:Nat.beq j k
       ·rw [cond_false];rcases List.mem_cons.1 h with e|h
        ·cases e; simp at hb
        ·exact ih h
       ·rw [cond_true]; simp
     exact hno h1 hl
    | some p=>
     obtain ⟨q2,hq2⟩:=List.mem_iff_getElem?.1 (od hl);have:=hnum q q2 _ _ hq' hq2 rfl;subst this;rw [hq'] at hq2; cases hq2; rfl
   have:=hK.2 k _ (hall k (hlt k _ hk)) hk;rw [<- h2]; exact this
 have step:∀ (fuel:Nat),(∀ (listed:Array Bool) (g:Gh) (a:Act) (w:World) (sl':List (Nat×AV)) (j:Nat),j0<=j->PAt C ops S fin fuel listed g a w sl' j->wpAny C.P .any ops (λ e a' w'=>∃ g' s',St C.n C.w0 C.F g' s' a' w'/\Q e s') fuel listed a w) ->
   ∀ (listed:Array Bool) (g:Gh) (a:Act) (w:World) (sl':List (Nat×AV)) (j i:Nat),(j0<=j\/(j0<=j+1/\S.imp[j]? = some i))->i∈Region.ready .any ops listed->PAt C ops S fin (fuel+1) listed g a w sl' j ->
    wpOp C.P ops (λ e a' w'=>∃ g' s',St C.n C.w0 C.F g' s' a' w'/\Q e s') i (wpAny C.P .any ops (λ e a' w'=>∃ g' s',St C.n C.w0 C.F g' s' a' w'/\Q e s') fuel (listed.setIfInBounds i true)) a w:=by
   intro fuel ih' listed g a w sl' j i hwhen hi Gz;have hi0:=hi;obtain ⟨EH,hu,hI,hK,hs⟩:=Gz
   have ih:∀ (listed:Array Bool) (g:Gh) (a:Act) (w:World) (sl':List (Nat×AV)) (j:Nat),listed.size=ops.size->unl ops.size listed=fuel->zj ops S listed j->PKn S fin listed j sl'->St C.n C.w0 C.F g ⟨sl',S.obj j⟩ a w->j0<=j ->
     wpAny C.P .any ops (λ e a' w'=>∃ g' s',St C.n C.w0 C.F g' s' a' w'/\Q e s') fuel listed a w:=λ listed g a w sl' j h1 h2 h3 h4 h5 h6=>ih' listed g a w sl' j h6 ⟨h1,h2,h3,h4,h5⟩
   obtain ⟨h1,o,ho,hafter⟩:=mem_ready.1 hi;have hil:i<ops.size:=(Array.getElem?_eq_some_iff.1 ho).1
   have h1':listed.getD i false=false:=by
    have hil2:i<listed.size:=by omega
    simp only [Array.getD_eq_getD_getElem?,Array.getElem?_eq_getElem hil2,n8] at h1 ⊢;exact h1
   have hbo:∀ k,iW o k=true->listed.getD k false=true:=by
    intro k hk;obtain ⟨e,he,hbe⟩:=List.any_eq_true.1 hk;simp only [ph] at hbe;have:=cl hbe.1;subst this;exact hafter e (Array.mem_toList_iff.1 he) hbe.2
   have hget:∀ q,(listed.setIfInBounds i true).getD q false=true->q=i\/listed.getD q false=true:=by
    intro q hq;by_cases e:q=i
    ·exact .inl e
    ·rw [getD_set_ne false (λ h=>e h.symm)] at hq; exact .inr hq
   have hget2:∀ q,listed.getD q false=true->(listed.setIfInBounds i true).getD q false=true:=by
    intro q hq;have E2:q≠i:=λ e=>by subst e; rw [h1'] at hq; cases hq
    rw [getD_set_ne false (λ h=>E2 h.symm)]; exact hq
   have hgeti:(listed.setIfInBounds i true).getD i false=true:=by
    have hil2:i<listed.size:=by omega
    simp [Array.getD_eq_getD_getElem?,hil2]
   have hclosed:∀ k o',ops[k]? = some o'->(listed.setIfInBounds i true).getD k false=true->∀ e∈o'.after,Region.binds .any e=true->(listed.setIfInBounds i true).getD e.on false=true:=by
    intro k o' ho' hk e he hbe;rcases hget k hk with rfl|hk
    ·rw [ho] at ho'; cases ho';exact hget2 _ (hafter e he hbe)
    ·exact hget2 _ (hI.2.2 k o' ho' hk e he hbe)
   have howe:=howes' i o ho;unfold o5 at howe
   cases hfi:S.imp.findIdx? (Nat.beq i) with
   | none=>
    rw [hfi] at howe;obtain ⟨d,v,hRk,hd,IT,hv,ES⟩:=howe
    have hj0:j0<=j:=by
     rcases hwhen with h|⟨_,h⟩
     ·exact h
     ·rw [himp2 h] at hfi; cases hfi
    have hal:oj ops S.imp o i j=true:=by
     unfold oj;simp only [ph,rd];refine ⟨λ p hp=>?_,λ p hp=>?_⟩
     ·obtain ⟨q,hq⟩:=List.mem_iff_getElem?.1 hp;rw [List.getElem?_zipIdx] at hq;simp only [mv,th] at hq;obtain ⟨x,hx,rfl⟩:=hq
      cases hbx:mq ops 4 o x
      ·simp
      ·have:=(hI.2.1 q x hx).1 (jU hI.2.2 4 o x hbx hafter);simp only [Bool.not_true,Bool.false_or];rw [dg]; exact this
     ·obtain ⟨q,hq⟩:=List.mem_iff_getElem?.1 hp;rw [List.getElem?_zipIdx] at hq;simp only [mv,th] at hq;obtain ⟨x,hx,rfl⟩:=hq;simp only [Array.getElem?_toList]
      cases hox:ops[x]? with
      | none=>rfl
      | some ox=>
       simp only
       cases hbx:iW ox i
       ·simp
       ·simp only [Bool.not_true,Bool.false_or];refine Nat.ble_eq_true_of_le (Nat.le_of_not_lt λ hlt=>?_);have hl:=(hI.2.1 q x hx).2 hlt;obtain ⟨e,he,hbe⟩:=List.any_eq_true.1 hbx;simp only [ph] at hbe;have:=cl hbe.1;subst this;have:=hI.2.2 x ox hox hl e (Array.mem_toList_iff.1 he) hbe.2;rw [h1'] at this; cases this
    have ET:=ES j hI.1 hal sl' hK.1 (λ k' p hb hk'=>hK.2 k' p (hbo k' hb) hk') (λ s=>s=⟨(d,v j)::sl',S.obj j⟩) rfl i ho;refine sU (ET g a w hs) ?_;rintro a' w' ⟨g',s',hs',rfl⟩;refine ih _ g' a' w' ((d,v j)::sl') j (by simpa using EH) ?_ ⟨hI.1,λ q k hq=>?_,hclosed⟩ ⟨λ q x hx=>?_,λ k p hk hp=>?_⟩ hs' hj0
    ·have:=s5 EH hil h1; omega
    ·have E2:k≠i:=λ e=>by subst e; rw [himp2 hq] at hfi; cases hfi
     rw [getD_set_ne false (λ h=>E2 h.symm)]; exact hI.2.1 q k hq
    ·rw [a6,if_neg]
     ·exact hK.1 q x hx
     ·intro e; subst e; rw [IT j] at hx; cases hx
    ·rw [a6];rcases hget k hk with rfl|hk
     ·rw [hRk] at hp; cases hp; rw [if_pos rfl]
     ·rw [if_neg]
      ·exact hK.2 k p hk hp
      ·intro e;have:=hsame i k _ _ hRk hp e;subst this;rw [h1'] at hk; cases hk
   | some q=>
    rw [hfi] at howe;have hq:=himp hfi
    -- its stage
    have h2:¬ q<j:=λ h=>by have:=(hI.2.1 q i hq).2 h; rw [h1'] at this; cases this
    by_cases hqj:j<q
    ·rcases hwhen with hj0|⟨_,hji⟩
     ·exact hsw fuel listed g a w sl' j hj0 ⟨EH,hu,hI,hK,hs⟩ i q hi0 hq hqj
     ·have:=jb hnd _ _ _ hji hq; omega
    have hqj:q=j:=by omega
    have hj1:j0<=j+1:=by
     rcases hwhen with h|⟨h,_⟩ <;> omega
    subst hqj;have hqm:q<S.m:=by have:=(List.getElem?_eq_some_iff.1 hq).1; omega
    have hbnext:∀ (sl'':List (Nat×AV)),(∀ z x,look sl' z=some x->look sl'' z=some (trA (S.D q) x))->∀ z x,look (S.bas (q+1)) z=some x->look sl'' z=some x:=by
     intro sl'' Ey z x hx;have hx:=np (hbas q hqm) z x hx;rw [pr,mv] at hx;obtain ⟨y,hy,rfl⟩:=hx;exact Ey z y (hK.1 z y hy)
    have hInext:zj ops S (listed.setIfInBounds i true) (q+1):=by
     refine ⟨hqm,λ z k hz=>?_,hclosed⟩;by_cases e:k=i
     ·subst e;have:=jb hnd _ _ _ hz hq;subst this;exact ⟨λ _=>Nat.lt_succ_self _,λ _=>hgeti⟩
     ·rw [getD_set_ne false (λ h=>e h.symm),hI.2.1 z k hz];constructor
      ·intro h; omega
      ·intro h;rcases Nat.lt_or_ge z q with h5|h5
       ·exact h5
       ·have:z=q:=by omega
        subst this;rw [hq] at hz; cases hz; exact absurd rfl e
    have hvnext:∀ k p,listed.getD k false=true->dz fin k=some p->p.2 (q+1)=trA (S.D q) (p.2 q):=by
     intro k p hk hp;have hkl:=hlt k p hp;have hok:=howes' k ops[k] (Array.getElem?_eq_getElem hkl);unfold o5 at hok;split at hok
     ·obtain ⟨d,v,e1,_,_,e2,_⟩:=hok;rw [hp] at e1; cases e1;refine e2 q hqm (rd.2 λ p hp'=>?_);obtain ⟨z,hz⟩:=List.mem_iff_getElem?.1 hp';rw [List.getElem?_zipIdx] at hz;simp only [mv,th] at hz;obtain ⟨x,hx,rfl⟩:=hz
      cases hbx:mq ops 4 ops[k] x
      ·rfl
      ·have:=(hI.2.1 z x hx).1 (jU hI.2.2 4 _ x hbx (hI.2.2 k _ (Array.getElem?_eq_getElem hkl) hk));simp only [Bool.not_true,Bool.false_or];rw [dg]; exact this
     ·rename_i z hz;have hzq:z<q:=(hI.2.1 z k (himp hz)).1 hk;rcases hok with ⟨d,v,e1,_,_,e2,_⟩|⟨e1,_⟩
      ·rw [hp] at e1; cases e1; exact e2 q hzq hqm
      ·rw [hp] at e1; cases e1
    rcases howe with ⟨d,v,hRk,hd,IT,hv,ES⟩|⟨hRk,hd,ES⟩
    ·have ET:=ES sl' hK.1 (λ k' p hb hk'=>hK.2 k' p (hbo k' hb) hk') (λ s=>s=⟨(d,v (q+1))::trL (S.D q) sl',S.obj (q+1)⟩) rfl i ho;refine sU (ET g a w hs) ?_;rintro a' w' ⟨g',s',hs',rfl⟩;refine ih _ g' a' w' ((d,v (q+1))::trL (S.D q) sl') (q+1) (by simpa using EH) ?_ hInext ⟨λ z x hx=>?_,λ k p hk hp=>?_⟩ hs' hj1
     ·have:=s5 EH hil h1; omega
     ·rw [a6,if_neg]
      ·exact hbnext (trL (S.D q) sl') (λ z x h=>by rw [pr,h]; rfl) z x hx
      ·intro e; subst e; rw [IT (q+1) (Nat.lt_succ_self q)] at hx; cases hx
     ·rw [a6];rcases hget k hk with rfl|hk
      ·rw [hRk] at hp; cases hp; rw [if_pos rfl]
      ·rw [if_neg]
       ·rw [pr,hK.2 k p hk hp,hvnext k p hk hp]; rfl
       ·intro e;have:=hsame i k _ _ hRk hp e;subst this;rw [h1'] at hk; cases hk
    ·have ET:=ES sl' hK.1 (λ k' p hb hk'=>hK.2 k' p (hbo k' hb) hk') (λ s=>s=⟨trL (S.D q) sl',S.obj (q+1)⟩) rfl i ho;refine sU (ET g a w hs) ?_;rintro a' w' ⟨g',s',hs',rfl⟩;refine ih _ g' a' w' (trL (S.D q) sl') (q+1) (by simpa using EH) ?_ hInext ⟨λ z x hx=>?_,λ k p hk hp=>?_⟩ hs' hj1
     ·have:=s5 EH hil h1; omega
     ·exact hbnext (trL (S.D q) sl') (λ z x h=>by rw [pr,h]; rfl) z x hx
     ·rcases hget k hk with rfl|hk
      ·rw [hRk] at hp; cases hp
      ·rw [pr,hK.2 k p hk hp,hvnext k p hk hp]; rfl
 have main:∀ (fuel:Nat) (listed:Array Bool) (g:Gh) (a:Act) (w:World) (sl':List (Nat×AV)) (j:Nat),j0<=j->PAt C ops S fin fuel listed g a w sl' j->wpAny C.P .any ops (λ e a' w'=>∃ g' s',St C.n C.w0 C.F g' s' a' w'/\Q e s') fuel listed a w:=by
  intro fuel
  induction fuel with
  | zero=>
   intro listed g a w sl' j hj0 ⟨EH,hu,hI,hK,hs⟩;have hall:=xr hu;refine ⟨?_,done listed g a w sl' j hall hI hK hs⟩;rw [List.eq_nil_iff_forall_not_mem];intro i hi;obtain ⟨h1,o,ho,_⟩:=mem_ready.1 hi;have hil:i<ops.size:=(Array.getElem?_eq_some_iff.1 ho).1;have h2:=hall i hil;have hil2:i<listed.size:=by omega
   simp only [Array.getD_eq_getD_getElem?,Array.getElem?_eq_getElem hil2,n8] at h1 h2;rw [h1] at h2; cases h2
  | succ fuel ih=>
   intro listed g a w sl' j hj0 Gz;exact ⟨λ hr=>done listed g a w sl' j (xg Gz.sz hord' hr) Gz.inv Gz.kn Gz.st,λ i hi=>step fuel (λ listed g a w sl' j h1 h2=>ih listed g a w sl' j h1 h2) listed g a w sl' j i (.inl hj0) hi Gz⟩
 exact ⟨main,λ fuel listed g a w sl' j i=>step fuel (main fuel) listed g a w sl' j i⟩
theorem PAt.start {C:Cx}{ops:Array Oper}{S:gb}{fin:gw}{sl:List (Nat×AV)}{g:Gh}{a:Act}{w:World}(hb:fy sl (S.bas 0))(hs:St C.n C.w0 C.F g ⟨sl,S.obj 0⟩ a w) :
  PAt C ops S fin ops.size (Array.replicate ops.size false) g a w sl 0:=by
 refine ⟨by simp,?_,⟨Nat.zero_le _,λ i k hk=>?_,λ k o ho hk=>?_⟩,⟨λ i x hx=>np hb i x hx,λ k p hk _=>?_⟩,hs⟩
 ·unfold unl;rw [List.filter_eq_self.2,List.length_range];intro j hj;have:=List.mem_range.1 hj;simp [this]
 ·constructor
  ·intro h;exfalso;rw [Array.getD_eq_getD_getElem?,Array.getElem?_replicate] at h;split at h <;> simp at h
  ·intro h; omega
 ·exfalso;rw [Array.getD_eq_getD_getElem?,Array.getElem?_replicate] at hk;split at hk <;> simp at hk
 ·exfalso;rw [Array.getD_eq_getD_getElem?,Array.getElem?_replicate] at hk;split at hk <;> simp at hk
theorem zN {C:Cx}{id:Nat}{ops:Array Oper}{Q:Exit->AS->Prop}{sl:List (Nat×AV)}{ob:List (Nat×List AV)}(S:gb)(hm:C.P.follows .mixedOrders=true)(EK:S.imp.length=S.m)(hob:S.obj 0=ob)(hb:fy sl (S.bas 0))
  (hbas:∀ j,j<S.m->fy (trL (S.D j) (S.bas j)) (S.bas (j+1))) (hnd:nodupB S.imp=true) (hin:S.imp.all (λ i=>Nat.blt i ops.size)=true) (hch:chainB ops S.imp=true)
  (hord:(ops.toList.zipIdx.all λ p=>p.1.after.toList.all λ e=>!(Region.binds .any e)||Nat.blt e.on p.2)=true) (h:DS C ops S (λ rev=>Q .normal ⟨ed rev S.m++S.bas S.m,S.obj S.m⟩) ops.toList 0 []):awp C (.region id ops true) Q ⟨sl,ob⟩:=by
 subst hob;intro g a w hs;obtain ⟨fin,hfin,hP⟩:=wM.mk' EK hbas hnd hin hord h;refine wp_region_any hm ?_;refine (nV hP (AS.le_refl _) hfin 0 ?_).1 _ _ g a _ sl 0 (Nat.zero_le _) (PAt.start hb hs.drew);intro fuel listed g a w sl' j _ Gz i q hi hq hjq;exfalso;obtain ⟨h1,o,ho,hafter⟩:=mem_ready.1 hi
 cases q with
 | zero=>omega
 | succ q=>
  have hql:q<S.imp.length:=by have:=(List.getElem?_eq_some_iff.1 hq).1; omega
  have hb:=kz hch q S.imp[q] i o (List.getElem?_eq_getElem hql) hq ho;have h3:=jU Gz.inv.2.2 4 o S.imp[q] hb hafter;have:=(Gz.inv.2.1 q S.imp[q] (List.getElem?_eq_getElem hql)).1 h3;omega
def rh (imp:List Nat):gw->gw->Prop|(k,d,v)::r,(k',d',v')::r'=>(k=k'/\d=d'/\(imp.any (Nat.beq k)=true\/v 0=v' 0))/\rh imp r r'|[],[]=>True|_,_=>False
theorem rX {imp:List Nat}:∀ {r1 r2:gw},rh imp r1 r2->∀ k p,imp.any (Nat.beq k)=false->dz r2 k=some p->∃ v,dz r1 k=some (p.1,v)/\v 0=p.2 0
 | [],[],_,k,p,_,h=>by cases h
 | (k1,d1,v1)::r,(k2,d2,v2)::r',⟨⟨e1,e2,e3⟩,hr⟩,k,p,hk,h=>by
  subst e1 e2;simp only [dz] at h ⊢
  cases hb:Nat.beq k1 k
  ·rw [hb,cond_false] at h;rw [cond_false];exact rX hr k p hk h
  ·rw [hb,cond_true] at h
   cases h
   rw [cond_true];have:=cl hb;subst this;exact ⟨v1,rfl,e3.resolve_left (by rw [hk]; exact λ h=>by cases h)⟩
 | [],_::_,h,_,_,_,_=>h.elim
 | _::_,[],h,_,_,_,_=>h.elim
theorem yh {C:Cx}{id:Nat}{ops:Array Oper}{Q:Exit->AS->Prop}{sl:List (Nat×AV)}{ob:List (Nat×List AV)}(S1 S2:gb){k1 k2:Nat}{r:List Nat}(hm:C.P.follows .mixedOrders=true)
  (hi1:S1.imp=k1::k2::r) (hi2:S2.imp=k2::k1::r) (hlen1:S1.imp.length=S1.m) (hlen2:S2.imp.length=S2.m) (hob1:S1.obj 0=ob) (hob2:S2.obj 0=ob) (hb:fy sl (S1.bas 0)) (hb2:S2.bas 0=S1.bas 0)
  (hbas1:∀ j,j<S1.m->fy (trL (S1.D j) (S1.bas j)) (S1.bas (j+1))) (hbas2:∀ j,j<S2.m->fy (trL (S2.D j) (S2.bas j)) (S2.bas (j+1)))
  (hnd:nodupB (k1::k2::r)=true) (hin:(k1::k2::r).all (λ i=>Nat.blt i ops.size)=true) (hch1:chainB ops (k1::r)=true) (hch2:chainB ops (k2::r)=true)
  (hord:(ops.toList.zipIdx.all λ p=>p.1.after.toList.all λ e=>!(Region.binds .any e)||Nat.blt e.on p.2)=true)
  (h:DS C ops S1 (λ rev1=>Q .normal ⟨ed rev1 S1.m++S1.bas S1.m,S1.obj S1.m⟩/\DS C ops S2 (λ rev2=>(⟨ed rev2 S2.m++S2.bas S2.m,S2.obj S2.m⟩:AS).le ⟨ed rev1 S1.m++S1.bas S1.m,S1.obj S1.m⟩/\rh (k1::k2::r) rev1 rev2) ops.toList 0 []) ops.toList 0 []):awp C (.region id ops true) Q ⟨sl,ob⟩:=by
 intro g a w hs
 have hnd2:nodupB S2.imp=true:=by
  rw [hi2];simp only [nodupB,List.any_cons,Bool.not_or,ph,Bool.not_eq_true'] at hnd ⊢;obtain ⟨⟨a1,a2⟩,a3,a4⟩:=hnd;refine ⟨⟨?_,a3⟩,a2,a4⟩
  cases hq:Nat.beq k2 k1
  ·rfl
  ·rw [cl hq] at a1; rw [Nat.beq_refl] at a1; cases a1
 have hin2:S2.imp.all (λ i=>Nat.blt i ops.size)=true:=by
  rw [hi2];simp only [List.all_cons,ph] at hin ⊢;exact ⟨hin.2.1,hin.1,hin.2.2⟩
 obtain ⟨fin1,⟨hf1,h2⟩,hP1⟩:=wM.mk' hlen1 hbas1 (by rw [hi1]; exact hnd) (by rw [hi1]; exact hin) hord h;obtain ⟨fin2,⟨hf2,hag⟩,hP2⟩:=wM.mk' hlen2 hbas2 hnd2 hin2 hord h2
 -- behind the first change the others come in order
 have chain:∀ (x y:Nat) (S:gb),S.imp=x::y::r->chainB ops (y::r)=true->chainB ops (x::r)=true->∀ (listed:Array Bool) (j i q:Nat),zj ops S listed j->i∈Region.ready .any ops listed->S.imp[q]? = some i->j<q->q=1/\j=0:=by
  intro x y S hS hcy hcx listed j i q hI hi hq hjq;obtain ⟨h1,o,ho,hafter⟩:=mem_ready.1 hi
  have use:∀ z zi,S.imp[z]? = some zi->mq ops 4 o zi=true->z<j:=by
   intro z zi hz hb;exact (hI.2.1 z zi hz).1 (jU hI.2.2 4 o zi hb hafter)
  match q,hq,hjq with
  | 0,_,hjq=>omega
  | 1,_,hjq=>exact ⟨Z,by omega⟩
  | q+2,hq,hjq=>
   exfalso;rw [hS] at hq;simp only [List.getElem?_cons_succ] at hq;have hql:q<r.length:=(List.getElem?_eq_some_iff.1 hq).1
   cases q with
   | zero=>
    have b1:=kz hcy 0 y i o Z (by simpa using hq) ho;have:=use 1 y (by rw [hS]; rfl) b1;have b2:=kz hcx 0 x i o Z (by simpa using hq) ho;omega
   | succ q=>
    have b1:=kz hcy (q+1) r[q] i o (by simp [List.getElem?_eq_getElem (show q<r.length by omega)]) (by simpa using hq) ho;have:=use (q+2) r[q] (by rw [hS]; simp [List.getElem?_eq_getElem (show q<r.length by omega)]) b1;omega
 have two:=nV hP2 hf2 hf1 1 (λ fuel listed g a w sl' j hj Gz i q hi hq hjq=>by
  have:=chain k2 k1 S2 hi2 hch1 hch2 listed j i q Gz.inv hi hq hjq; omega)
 refine wp_region_any hm ?_;refine (nV hP1 (AS.le_refl _) hf1 0 ?_).1 _ _ g a _ sl 0 (Nat.zero_le _) (PAt.start hb (by rw [hob1]; exact hs.drew));intro fuel listed g a w sl' j _ Gz i q hi hq hjq;obtain ⟨rfl,rfl⟩:=chain k1 k2 S1 hi1 hch2 hch1 listed j i q Gz.inv hi hq hjq;have EP:i=k2:=by rw [hi1] at hq; simpa using hq.symm
 subst EP
 have hno:∀ k,(k1::i::r).any (Nat.beq k)=true->listed.getD k false=false:=by
  intro k hk;obtain ⟨x,hx,hkx⟩:=List.any_eq_true.1 hk;have:=cl hkx;subst this;obtain ⟨z,hz⟩:=List.mem_iff_getElem?.1 hx;have:=Gz.inv.2.1 z k (by rw [hi1]; exact hz)
  cases hl:listed.getD k false with
  | false=>rfl
  | true=>have:=this.1 hl; omega
 refine two.2 fuel listed g a w sl' 0 i (.inr ⟨ld _,by rw [hi2]; rfl⟩) hi ⟨Gz.sz,Gz.un,⟨Nat.zero_le _,λ z k hz=>?_,Gz.inv.2.2⟩,⟨λ z x hx=>Gz.kn.1 z x (by rw [<- hb2]; exact hx),λ k p hk hp=>?_⟩,by rw [hob2,<- hob1]; exact Gz.st⟩
 ·constructor
  ·intro hl
   have hmem:k∈(k1::i::r):=by
    have:=List.mem_of_getElem? hz;rw [hi2] at this;simp only [List.mem_cons] at this ⊢;rcases this with h|h|h
    ·exact .inr (.inl h)
    ·exact .inl h
    ·exact .inr (.inr h)
   rw [hno k (List.any_eq_true.2 ⟨k,hmem,by simp⟩)] at hl
   cases hl
  ·intro h; omega
 ·have hk':(k1::i::r).any (Nat.beq k)=false:=by
   cases hq:(k1::i::r).any (Nat.beq k) with
   | false=>rfl
   | true=>rw [hno k hq] at hk; cases hk
  obtain ⟨v,hv1,hv2⟩:=rX hag k p hk' hp;have:=Gz.kn.2 k _ hk hv1;rw [<- hv2]; exact this
def gm:List PV->List PV|[]=>[]|e::r=>e.cells++gm r
theorem lY:∀ (l q:List PV),gm (l++q)=gm l++gm q
 | [],q=>rfl
 | e::r,q=>by simp [gm,lY r q]
theorem iQ {sz:Nat}:∀ {es:List PV},(∀ e∈es,e.cells.length=sz)->(gm es).length=es.length*sz
 | [],_=>by simp [gm]
 | e::r,h=>by
  have ih:=iQ (sz:=sz) (es:=r) (λ x hx=>h x (by simp [hx]));simp only [gm,qr,List.length_cons,h e G,ih,n7]; omega
theorem kp {sz:Nat}:∀ {es:List PV},(∀ e∈es,e.cells.length=sz)->∀ (i:Nat) e (j:Nat) c,es[i]? = some e->e.cells[j]? = some c->(gm es)[i*sz+j]? = some c
 | [],_,i,e,j,c,h,_=>by simp at h
 | x::r,EH,i,e,j,c,h,hc=>by
  have hx:=EH x G
  cases i with
  | zero=>
   simp only [List.getElem?_cons_zero,bt] at h;subst h;have:=(List.getElem?_eq_some_iff.1 hc).1;simp only [gm,Nat.zero_mul,th];rw [List.getElem?_append_left this]; exact hc
  | succ i=>
   simp only [List.getElem?_cons_succ] at h;have ih:=kp (λ x hx=>EH x (by simp [hx])) i e j c h hc;simp only [gm];rw [List.getElem?_append_right (by rw [hx,n7]; omega),hx];rw [show (i+1)*sz+j-sz=i*sz+j by rw [n7]; omega];exact ih
theorem zp {sz:Nat}(h0:0<sz){es:List PV}(EH:∀ e∈es,e.cells.length=sz){k:Nat}{c:PV}(h:(gm es)[k]? = some c) :
  ∃ e,es[k / sz]? = some e/\e.cells[k%sz]? = some c/\k / sz*sz+k%sz=k:=by
 have hk:k<es.length*sz:=by rw [<- iQ EH]; exact (List.getElem?_eq_some_iff.1 h).1
 have h1:k / sz<es.length:=(Nat.div_lt_iff_lt_mul h0).2 hk;have h2:k%sz<sz:=Nat.mod_lt _ h0;have h3:k / sz*sz+k%sz=k:=by rw [Nat.mul_comm]; exact Nat.div_add_mod k sz
 have h4:=EH es[k / sz] (List.getElem_mem h1);have h5:=kp EH (k / sz) es[k / sz] (k%sz) ((es[k / sz]).cells[k%sz]' O) (List.getElem?_eq_getElem h1) (List.getElem?_eq_getElem O);rw [h3,h] at h5;exact ⟨_,List.getElem?_eq_getElem h1,by rw [Option.some.inj h5]; exact List.getElem?_eq_getElem O,h3⟩
def j1 {α:Type}(f:α->PV)(l:List α):List AV:=(gm (l.map f)).map .p
section
variable {C:Cx} {o:Oper} {K:AS->Prop} {sl:List (Nat×AV)} {ob:List (Nat×List AV)} {d:Nat}
theorem vA {w:World}{st:Nat->Nat->Prop}{sz:Nat}(h0:0<sz){ys:List PV}{news:List Value}(EH:∀ y∈ys,y.cells.length=sz)
  (hnews:∀ (i:Nat) y (j:Nat) c,ys[i]? = some y->y.cells[j]? = some c->c.one=true/\∃ u,news[i*sz+j]? = some u/\PRep w st c u) :
  ∀ (k:Nat) c,(gm ys)[k]? = some c->∃ u,news[k]? = some u/\PRep w st c u:=by
 intro k c h;obtain ⟨e,h1,h2,h3⟩:=zp h0 EH h;obtain ⟨_,u,hu,hr⟩:=hnews _ e _ c h1 h2;rw [h3] at hu;exact ⟨u,hu,hr⟩
theorem zZ {es ys:List PV}{t tx e e':TypeId}{i ie j:TI}{y:Operand}{Y0z:AV}(D:Nat->Bool)(hDl:∀ i,D i=true->i<M1)(hDd:D d=true)
  (hi:look C.tt t=some i) (EP:i.k=.slice e) (hie:look C.tt e=some ie) (hj:look C.tt tx=some j) (hjk:j.k=.slice e')
  (hy:evo sl y=some Y0z) (hY:Y0z.elems? = some ys) (EH:∀ y∈ys,y.cells.length=ie.size) (hse:∀ y∈es,y.cells.length=ie.size) (h0:0<ie.size) (hzl:ie.zero.length=ie.size)
  (EK:(es.length+ys.length)*ie.bytes<=140737488355328) (hlen':es.length+ys.length<=9223372036854775807)
  {g:Gh} {a:Act} {w:World} (hs:St C.n C.w0 C.F g ⟨sl,ob⟩ a w) (base:Option Addr) (cap:Nat) (olds:List Value)
  (hold:(Builtin.firstCells ie.size es.length (.slice base es.length cap)).run C.P w.drew=.ok olds.toArray w.drew) (hol:olds.length=es.length*ie.size)
  (hoc:∀ (i:Nat) x,(gm es)[i]? = some x->∃ u,olds[i]? = some u/\PRep w g.st x u)
  (hg:cap<es.length+ys.length) (ty:TypeId) (hn:Nat.blt d C.n=true) :
  ∃ v w' g',(Builtin.append_ #[t,tx] ty #[.slice base es.length cap,a.eval y]).run C.P w=.ok v w' /\
   St C.n C.w0 C.F g' ⟨(d,.arr d ie.size 0 (es.length+ys.length))::(co D ⟨sl,ob⟩).sl,(d,(gm (es++ys)).map .p)::(co D ⟨sl,ob⟩).ob⟩ (a.put (some d) v) w':=by
 obtain ⟨u,h1,h2⟩:=bF C.good hi;have h3:=bJ (h2.trans EP);subst h3;obtain ⟨u',h1',h2'⟩:=bF C.good hj;have h3':=bJ (h2'.trans hjk);subst h3';obtain ⟨info,hf1,hf2,hf3,z,hf4,hf5⟩:=gX C.good hie;have hyv:=iA hY (bu hs hy);obtain ⟨news,hsrc,hnews⟩:=ti (P:=C.P) (sz:=ie.size) h1' hyv EH h0;have hnf:=vA h0 EH hnews;have hfit:=growslice_fits (bytes:=ie.bytes) hg EK;have hrun:=run_append_grow_src w t tx ty e info z h1 hf1 hf4 base es.length cap olds (by rw [hf2]; exact hold) (a.eval y) ys.length news (by rw [hf2]; exact hsrc) hg O (by rw [hf3]; exact hfit);obtain ⟨q,hq⟩:∃ q,q=grownCap w (es.length+ys.length) cap e:=⟨_,rfl⟩
 rw [<- hq] at hrun
 have hqn:es.length+ys.length<=q:=by
  rw [hq]; unfold grownCap; simp only [Question.cut]; omega
 have hzs:z.cells.size=ie.size:=by rw [<- hzl,<- hf5,ur]
 have hnl:news.length=ys.length*ie.size:=hsrc.newsLen;obtain ⟨c,hc⟩:∃ c,c=(olds++news).toArray++Builtin.zeroCells z.cells (q-(es.length+ys.length)):=⟨_,rfl⟩
 rw [<- hc] at hrun
 have ER:c.size=q*ie.size:=by
  rw [hc];simp only [Array.size_append,List.size_toArray,qr,hol,hsrc.newsLen,size_zeroCells,hzs];rw [<- n7,<- n7]; congr 1; omega
 have hfl:(gm (es++ys)).length=(es.length+ys.length)*ie.size:=by
  rw [iQ (sz:=ie.size),qr];intro e he;rcases List.mem_append.1 he with h|h
  ·exact hse e h
  ·exact EH e h
 have hqm:(es.length+ys.length)*ie.size<=q*ie.size:=ro _ hqn;have hf:=hs.drew.fresh D hDl d hDd (λ _=>False) c e
 have hp:=hf.put (d:=some d) (λ t ht=>by cases ht; exact dg ▸ hn) (x:=.arr d ie.size 0 (es.length+ys.length)) (v:=.slice (some ⟨w.drew.heap.size,0,none⟩) (es.length+ys.length) q)
  (.arr G dU O hqn)
 have EN:=kF (w:=w.drew) (T:=λ _=>False) (ob:=.cells c e) hs.drew.lt
 have hob:=hp.addOb (d:=d) (cs:=(gm (es++ys)).map .p) (by
  refine ⟨w.drew.heap.size,c,e,by simp,dU,by simp only [d3]; omega,λ o ho=>?_,λ i x hx=>?_⟩
  ·rcases ho with ho|⟨_,ho⟩
   ·exact absurd (hs.lt _ _ ho) (Nat.lt_irrefl _)
   ·exact ho
  ·simp only [List.getElem?_map,mv] at hx;obtain ⟨y,hy,rfl⟩:=hx;have hil:i<(gm (es++ys)).length:=(List.getElem?_eq_some_iff.1 hy).1;rw [hfl,n7] at hil
   have hget:c[i]? = if i<es.length*ie.size then olds[i]? else news[i-es.length*ie.size]?:=by
    rw [hc,Array.getElem?_append];simp only [List.size_toArray,qr,hol,hnl];rw [if_pos hil,List.getElem?_toArray,List.getElem?_append,hol]
   rw [lY,List.getElem?_append,iQ hse] at hy;split at hy
   ·rename_i hlt;obtain ⟨u,hu,hr⟩:=hoc i y hy;exact ⟨u,by rw [hget,if_pos hlt]; exact hu,.p ((PRep.mono (w:=w) (w':=w.drew) (st:=g.st) (st':=g.st) (λ b o h=>⟨h,rfl⟩) hr).mono EN)⟩
   ·rename_i hge;obtain ⟨u,hu,hr⟩:=hnf (i-es.length*ie.size) y hy
    exact ⟨u,by rw [hget,if_neg hge]; exact hu,.p ((PRep.mono (w:=w) (w':=w.drew) (st:=g.st) (st':=g.st) (λ b o h=>⟨h,Z⟩) hr).mono EN)⟩)
 exact ⟨_,_,_,hrun,hob⟩
theorem xS {t tx e e':TypeId}{x y:Operand}{k sz:Nat}{es:List PV}{n:Nat}{Y0z:AV}{ys:List PV}{i ie j:TI}(ho:o.op=.call { callee:=.builtin .append,args:=#[x,y],argTypes:=#[t,tx] })(hd:o.dst=some d)(hn:Nat.blt d C.n=true)
  (hi:look C.tt t=some i) (EP:i.k=.slice e) (hie:look C.tt e=some ie) (hj:look C.tt tx=some j) (hjk:j.k=.slice e') (hx:evo sl x=some (.arr k sz 0 n)) (hk:Nat.blt k M1=true) (hob:look ob k=some ((gm es).map .p)) (hnl:n=es.length)
  (hy:evo sl y=some Y0z) (hY:Y0z.elems? = some ys) (EH:∀ y∈ys,y.cells.length=ie.size) (hse:∀ y∈es,y.cells.length=ie.size) (h1s:ie.size=sz) (h0:Nat.blt 0 ie.size=true) (hzl:Nat.beq ie.zero.length ie.size=true)
  (EK:(es.length+ys.length)*ie.bytes<=140737488355328) (hlen':es.length+ys.length<=9223372036854775807)
  (hK:K ⟨(d,.arr d sz 0 (es.length+ys.length))::(co (λ i=>Nat.beq i k||Nat.beq i d) ⟨sl,ob⟩).sl,(d,(gm (es++ys)).map .p)::(co (λ i=>Nat.beq i k||Nat.beq i d) ⟨sl,ob⟩).ob⟩):ba C o K ⟨sl,ob⟩:=by
 subst hnl h1s;have h0':0<ie.size:=by simpa using h0
 have hzl':=cl hzl;have hk':k<M1:=dg ▸ hk;have hdl:d<M1:=by have h1:=n6 C.nl; have h2:d<C.n:=dg ▸ hn; omega
 have hDl:∀ i,(Nat.beq i k||Nat.beq i d)=true->i<M1:=by
  intro i hi;simp only [Bool.or_eq_true] at hi;rcases hi with hi|hi <;> (have:=cl hi; omega)
 have hfl0:(gm es).length=es.length*ie.size:=iQ hse
 have hfl:(gm (es++ys)).length=es.length*ie.size+ys.length*ie.size:=by
  rw [lY,qr,iQ hse,iQ EH]
 intro g a w hs;have hxr:=bu hs hx;generalize hxv:a.eval x=xv at hxr
 have hrun0:∀ v w',(Builtin.append_ #[t,tx] o.type #[xv,a.eval y]).run C.P w=.ok v w'->(execOp a.eval o).run C.P w=.ok (.value v) w':=by
  intro v w' h;rw [fG ho];simp [builtin,hxv,h]
 cases hxr with
 | arr how hb ER hn'=>
  rename_i b cap c e0;obtain ⟨b',c1,e1,k1,k2,k3,k4,k5⟩:=hs.ob k _ hob;rw [how] at k1; cases k1;rw [hb] at k2; cases k2;simp only [th] at ER
  have EM:∀ (i:Nat) x,(gm es)[i]? = some x->∃ u,c[i]? = some u/\PRep w g.st x u:=by
   intro i x hx;obtain ⟨u,hu,hr⟩:=k5 i (.p x) (by simp [hx])
   cases hr with|p hr=>exact ⟨u,hu,hr⟩
  by_cases hroom:es.length+ys.length<=cap
  ·obtain ⟨u,h1,h2⟩:=bF C.good hi;have h3:=bJ (h2.trans EP);subst h3;obtain ⟨u',h1',h2'⟩:=bF C.good hj;have h3':=bJ (h2'.trans hjk);subst h3';obtain ⟨info,hf1,hf2,hf3,z,hf4,hf5⟩:=gX C.good hie;have hyv:=iA hY (bu hs hy);obtain ⟨news,hsrc,hnews⟩:=ti (P:=C.P) (sz:=ie.size) h1' hyv EH h0';have hnf:=vA h0' EH hnews;have hnl:news.length=ys.length*ie.size:=hsrc.newsLen;have hrm:es.length*ie.size+ys.length*ie.size<=cap*ie.size:=by rw [<- n7]; exact ro _ hroom
   have hstc:=run_storeCells_at C.P b (es.length*ie.size) e0 news 0 c w hb (by simp; omega) hsrc.one;simp only [Nat.add_zero] at hstc;obtain ⟨c',hc'⟩:∃ c',c'=(c.toList.take (es.length*ie.size)++news++c.toList.drop (es.length*ie.size+news.length)).toArray:=⟨_,rfl⟩
   rw [<- hc'] at hstc;have hrr:=nR t tx o.type e info h1 hf1 b es.length cap (a.eval y) ys.length news (by rw [hf2]; exact hsrc) hroom (by rw [hf2]; exact hstc)
   have hcell':∀ j,c'[j]? = if es.length*ie.size<=j/\j<es.length*ie.size+news.length then news[j-es.length*ie.size]? else c[j]?:=by
    intro j;rw [hc'];have:=iy c.toList news (es.length*ie.size) (by simp; omega) j;simpa using this
   have hcs':c'.size=cap*ie.size:=by rw [<- ER,hc']; simp; omega
   have hin:=hs.inplace (λ i=>Nat.beq i k||Nat.beq i d) hDl (k:=k) (d:=d) how G G  hb (c':=c') (hcs'.trans ER.symm) (λ o h=>absurd h (k4 o)) (λ _=>False) (λ o h=>k4 o h)
   have hp:=hin.put (d:=some d) (λ t ht=>by cases ht; exact dg ▸ hn) (x:=.arr d ie.size 0 (es.length+ys.length)) (v:=.slice (some ⟨b,0,none⟩) (es.length+ys.length) cap)
    (.arr G (setRow_heap w b c c' e0 (0,0) hb) O hroom)
   have hEv:Ev w g.st (w.setRow b c') (λ b' o=>(b'=b/\False)\/(b'≠b/\g.st b' o)):=by
    intro b' o h;have E2:b'≠b:=λ e=>k4 o (e ▸ h);exact ⟨.inr ⟨E2,h⟩,by simp only [World.cell?,setRow_other w b b' c' E2]⟩
   have hfin:=hp.addOb (d:=d) (cs:=(gm (es++ys)).map .p) (by
    refine ⟨b,c',e0,by simp,setRow_heap w b c c' e0 (0,0) hb,by simp only [d3]; omega,λ o ho=>?_,λ i x hx=>?_⟩
    ·rcases ho with ⟨_,ho⟩|⟨ho,_⟩
     ·exact ho
     ·exact ho Z
    ·simp only [List.getElem?_map,mv] at hx;obtain ⟨y,hy,rfl⟩:=hx;have hil:i<(gm (es++ys)).length:=(List.getElem?_eq_some_iff.1 hy).1;rw [lY,List.getElem?_append,hfl0] at hy;split at hy
     ·rename_i hlt;obtain ⟨u,hu,hr⟩:=EM i y hy;exact ⟨u,by rw [hcell',if_neg O]; exact hu,.p (hr.mono hEv)⟩
     ·rename_i hge;obtain ⟨u,hu,hr⟩:=hnf (i-es.length*ie.size) y hy
      exact ⟨u,by rw [hcell',if_pos O]; exact hu,.p (hr.mono hEv)⟩)
   unfold Oper.wp;rw [hrun0 _ _ hrr];simp only [Oper.upon,hd];exact ⟨_,_,hfin,hK⟩
  ·have hlenT:(c.toList.take (es.length*ie.size)).length=es.length*ie.size:=by
    have hr1:es.length*ie.size<=cap*ie.size:=ro _ hn';rw [sm,show c.toList.length=cap*ie.size from ur.trans ER]; omega
   have hold:(Builtin.firstCells ie.size es.length (.slice (some ⟨b,0,none⟩) es.length cap)).run C.P w.drew=.ok (c.toList.take (es.length*ie.size)).toArray w.drew:=by
    refine run_firstCells_some w.drew ie.size es.length ⟨b,0,none⟩ es.length cap _ hlenT (λ j v hv=>?_);rw [List.getElem?_take] at hv;split at hv
    ·rw [add_lit,th,World.cell?_drew];simp only [World.cell?,hb];simpa using hv
    ·cases hv
   obtain ⟨v,w',g',hr',hst'⟩:=zZ (es:=es) (λ i=>Nat.beq i k||Nat.beq i d) hDl G hi EP hie hj hjk hy hY EH hse h0' hzl' EK hlen' hs (some ⟨b,0,none⟩) cap (c.toList.take (es.length*ie.size))
    hold hlenT (λ i x hx=>by
     obtain ⟨u,hu,hr⟩:=EM i x hx;have:=(List.getElem?_eq_some_iff.1 hx).1
     exact ⟨u,by rw [List.getElem?_take,if_pos O]; simpa using hu,hr⟩) O o.type hn
   unfold Oper.wp;rw [hrun0 _ _ hr'];simp only [Oper.upon,hd];exact ⟨g',_,hst',hK⟩
end
theorem St.freezeM {n:Nat}{w0:Base}{w:World}{F:Nat->Prop}{g:Gh}{sl:List (Nat×AV)}{ob:List (Nat×List AV)}{a:Act}(hs:St n w0 F g ⟨sl,ob⟩ a w){k sz:Nat}{es:List PV}{j:Nat}
  (hk:k<M1) (_h0:0<sz) (hob:look ob k=some ((gm es).map .p)) (hj:look sl j=some (.arr k sz 0 es.length)) (EH:∀ x∈es,x.cells.length=sz) (ET:∀ x∈es,∀ c∈x.cells,c.one=true) :
  ∃ g',St n w0 F g' ⟨(j,.p (.slice es))::(co (λ i=>Nat.beq i k) ⟨sl,ob⟩).sl,(co (λ i=>Nat.beq i k) ⟨sl,ob⟩).ob⟩ a w:=by
 obtain ⟨b,c,e,k1,k2,k3,k4,k5⟩:=hs.ob k _ hob;have hfl:(gm es).length=es.length*sz:=iQ EH;have hlt:b<w.heap.size:=(hs.own k b k1).1
 have keyD:∀ i b',Nat.beq i k=false->g.ow i=some b'->b'≠b:=λ i b' hD hi e=>by
  subst e;have:=hs.inj i k b' hi k1;subst this;simp at hD
 have EN:Ev w g.st w (λ b' o=>g.st b' o\/(b'=b/\o<es.length*sz)):=λ b' o h=>⟨.inl h,Z⟩
 have hs':=hs.evolve (λ i=>Nat.beq i k) (λ i hi=>by have:=cl hi; omega) (g':=⟨λ b' o=>g.st b' o\/(b'=b/\o<es.length*sz),λ i=>if Nat.beq i k then none else g.ow i⟩) EN (λ id b' hD h=>⟨by simp only [hD]; exact h,Z,λ o ho=>ho.resolve_right λ h'=>keyD id b' hD h h'.1⟩)
  (λ i j b h1 h2=>by
   dsimp only at h1 h2;split at h1
   ·cases h1
   ·split at h2
    ·cases h2
    ·exact hs.inj i j b h1 h2) (λ i b h=>by
   dsimp only at h;split at h
   ·cases h
   ·exact hs.own i b h) (λ b' o h=>by
   rcases h with h|⟨rfl,_⟩
   ·exact hs.lt b' o h
   ·exact hlt) (λ b h=>rfl) Z Z Z (ld _) (λ b' hb' o=>⟨λ h=>h.resolve_right λ h'=>(hs.own k b k1).2 (h'.1 ▸ hb'),.inl⟩) (λ i hi=>by
    have E2:Nat.beq i k=false:=by
     cases hq:Nat.beq i k
     ·rfl
     ·have:=cl hq; omega
    simp only [E2]; rfl)
 refine ⟨_,{ hs' with sl:=λ i=>?_,ob:=hs'.ob }⟩;simp only [AS.get,a6];by_cases e1:j=i
 ·subst e1;simp only [if_true,n8];have h0':=hs.sl j;simp only [AS.get,hj,n8] at h0';generalize a.tmps.getD j Go.undef=v at h0'
  cases h0' with
  | arr how hb ER hn=>
   rw [k1] at how; cases how;rw [k2] at hb; cases hb;refine .p (.slice sz (λ i j=>c.getD (i*sz+j) Go.undef) hn EH ET (λ i x j y hx hy=>?_) (λ i x j y hx hy=>?_))
   ·have hg:=kp EH i x j y hx hy;have hi:=(List.getElem?_eq_some_iff.1 hg).1;have hci:i*sz+j<c.size:=by simp only [d3] at k3; omega
    refine ⟨.inr ⟨Z,by omega⟩,?_⟩;simp only [World.cell?,k2,th];simp [Array.getD,hci]
   ·have hg:=kp EH i x j y hx hy;obtain ⟨u,hu,hr⟩:=k5 (i*sz+j) (.p y) (by simp [hg]);rw [Array.getD_eq_getD_getElem?,hu]
    cases hr with|p hr=>exact hr.mono EN
 ·rw [if_neg e1];exact hs'.sl i
theorem St.freezeA {n:Nat}{w0:Base}{w:World}{F:Nat->Prop}{g:Gh}{sl:List (Nat×AV)}{ob:List (Nat×List AV)}{a:Act}(hs:St n w0 F g ⟨sl,ob⟩ a w){k sz:Nat}{es:List PV}
  (hk:k<M1) (_h0:0<sz) (hob:look ob k=some ((gm es).map .p)) (EH:∀ x∈es,x.cells.length=sz) (ET:∀ x∈es,∀ c∈x.cells,c.one=true) :
  ∃ g',EvO (λ i=>Nat.beq i k) w g w g'/\St n w0 F g' (co (λ i=>Nat.beq i k) ⟨sl,ob⟩) a w/\∀ v,ARep w g (.arr k sz 0 es.length) v->ARep w g' (.p (.slice es)) v:=by
 obtain ⟨b,c,e,k1,k2,k3,k4,k5⟩:=hs.ob k _ hob;have hfl:(gm es).length=es.length*sz:=iQ EH;have hlt:b<w.heap.size:=(hs.own k b k1).1
 have keyD:∀ i b',Nat.beq i k=false->g.ow i=some b'->b'≠b:=λ i b' hD hi e=>by
  subst e;have:=hs.inj i k b' hi k1;subst this;simp at hD
 have EN:Ev w g.st w (λ b' o=>g.st b' o\/(b'=b/\o<es.length*sz)):=λ b' o h=>⟨.inl h,Z⟩
 have hs':=hs.evolve (λ i=>Nat.beq i k) (λ i hi=>by have:=cl hi; omega) (g':=⟨λ b' o=>g.st b' o\/(b'=b/\o<es.length*sz),λ i=>if Nat.beq i k then none else g.ow i⟩) EN (λ id b' hD h=>⟨by simp only [hD]; exact h,Z,λ o ho=>ho.resolve_right λ h'=>keyD id b' hD h h'.1⟩)
  (λ i j b h1 h2=>by
   dsimp only at h1 h2;split at h1
   ·cases h1
   ·split at h2
    ·cases h2
    ·exact hs.inj i j b h1 h2) (λ i b h=>by
   dsimp only at h;split at h
   ·cases h
   ·exact hs.own i b h) (λ b' o h=>by
   rcases h with h|⟨rfl,_⟩
   ·exact hs.lt b' o h
   ·exact hlt) (λ b h=>rfl) Z Z Z (ld _) (λ b' hb' o=>⟨λ h=>h.resolve_right λ h'=>(hs.own k b k1).2 (h'.1 ▸ hb'),.inl⟩) (λ i hi=>by
    have E2:Nat.beq i k=false:=by
     cases hq:Nat.beq i k
     ·rfl
     ·have:=cl hq; omega
    simp only [E2]; rfl)
 refine ⟨⟨λ b' o=>g.st b' o\/(b'=b/\o<es.length*sz),λ i=>if Nat.beq i k then none else g.ow i⟩,⟨EN,λ id b' hD h=>by simp only [hD]; exact h,λ id b' c' e' hD h hb'=>⟨c',hb',Z⟩,λ id b' o hD h ho=>ho.resolve_right λ h'=>keyD id b' hD h h'.1,λ id b' es' k' hD h hb'=>hb',λ i hi=>Bool.eq_false_iff.2 λ hq=>by have:=cl hq; have:=si hi; omega,λ id b' o hD h _=>rfl⟩,hs',λ v h0'=>?_⟩
 cases h0' with
 | arr how hb ER hn=>
  rw [k1] at how; cases how;rw [k2] at hb; cases hb;refine .p (.slice sz (λ i j=>c.getD (i*sz+j) Go.undef) hn EH ET (λ i x j y hx hy=>?_) (λ i x j y hx hy=>?_))
  ·have hg:=kp EH i x j y hx hy;have hi:=(List.getElem?_eq_some_iff.1 hg).1;have hci:i*sz+j<c.size:=by simp only [d3] at k3; omega
   refine ⟨.inr ⟨Z,by omega⟩,?_⟩;simp only [World.cell?,k2,th];simp [Array.getD,hci]
  ·have hg:=kp EH i x j y hx hy;obtain ⟨u,hu,hr⟩:=k5 (i*sz+j) (.p y) (by simp [hg]);rw [Array.getD_eq_getD_getElem?,hu]
   cases hr with|p hr=>exact hr.mono EN
def frz (k sz:Nat)(es:List PV)(x y:AV):Prop:=y=x.dem (λ i=>Nat.beq i k)\/(x=.arr k sz 0 es.length/\y=.p (.slice es))
def CG (k sz:Nat)(es:List PV):List AV->List AV->Prop|[],[]=>True|x::r,y::q=>frz k sz es x y/\CG k sz es r q|_,_=>False
def Dh (k sz:Nat)(es:List PV)(sl:List (Nat×AV)):List (Nat×AV)->Prop|[]=>True|p::r=>(∃ x,look sl p.1=some x/\frz k sz es x p.2)/\Dh k sz es sl r
def Dm (k sz:Nat)(es:List PV)(ob:List (Nat×List AV)):List (Nat×List AV)->Prop|[]=>True|p::r=>(Nat.beq p.1 k=false/\∃ cs,look ob p.1=some cs/\CG k sz es cs p.2)/\Dm k sz es ob r
theorem u9 {k sz:Nat}{es:List PV}:∀ {l q:List AV},CG k sz es l q->l.length=q.length/\∀ (i:Nat) x y,l[i]? = some x->q[i]? = some y->frz k sz es x y
 | [],[],_=>⟨Z,by simp⟩
 | [],_::_,h=>h.elim
 | _::_,[],h=>h.elim
 | x::r,y::q,h=>by
  obtain ⟨h1,h2⟩:=u9 h.2;refine ⟨by simp [h1],λ i a b ha hb=>?_⟩
  cases i with
  | zero=>simp only [List.getElem?_cons_zero,bt] at ha hb; subst ha hb; exact h.1
  | succ i=>simp only [List.getElem?_cons_succ] at ha hb; exact h2 i a b ha hb
theorem uU {k sz:Nat}{es:List PV}{sl:List (Nat×AV)}:∀ {q:List (Nat×AV)},Dh k sz es sl q->∀ i y,look q i=some y->∃ x,look sl i=some x/\frz k sz es x y
 | [],_,i,y,h=>by cases h
 | p::r,hq,i,y,h=>by
  obtain ⟨p1,p2⟩:=p;rw [a6] at h;split at h
  ·cases h; subst_vars; exact hq.1
  ·exact uU hq.2 i y h
theorem vo {k sz:Nat}{es:List PV}{ob:List (Nat×List AV)}:∀ {q:List (Nat×List AV)},Dm k sz es ob q->∀ i y,look q i=some y->Nat.beq i k=false/\∃ x,look ob i=some x/\CG k sz es x y
 | [],_,i,y,h=>by cases h
 | p::r,hq,i,y,h=>by
  obtain ⟨p1,p2⟩:=p;rw [a6] at h;split at h
  ·cases h; subst_vars; exact hq.1
  ·exact vo hq.2 i y h
theorem ql {α:Type}{C:Cx}{sl sl':List (Nat×AV)}{ob ob':List (Nat×List AV)}(k sz:Nat)(f:α->PV)(l:List α)(hk:Nat.blt k M1=true)(h0:Nat.blt 0 sz=true)(hob:look ob k=some (j1 f l))
  (ET:∀ x,(f x).cells.length=sz/\PV.onesB (f x).cells=true) (hS:Dh k sz (l.map f) sl sl') (hO:Dm k sz (l.map f) ob ob'):cB C ⟨sl,ob⟩ ⟨sl',ob'⟩:=by
 intro g a w hs
 obtain ⟨g',hE,hs',hfr⟩:=hs.freezeA (es:=l.map f) (sz:=sz) (dg ▸ hk) (by simpa using h0) hob (λ x hx=>by obtain ⟨y,_,rfl⟩:=List.mem_map.1 hx; exact (ET y).1)
  (λ x hx=>by obtain ⟨y,_,rfl⟩:=List.mem_map.1 hx; exact ib (ET y).2)
 have val:∀ x y v,frz k sz (l.map f) x y->ARep w g x v->ARep w g' y v:=by
  rintro x y v (rfl|⟨rfl,rfl⟩) h
  ·exact h.dem hE
  ·exact hfr v h
 refine ⟨g',{ hs' with sl:=λ i=>?_,ob:=λ id cs hc=>?_ }⟩
 ·simp only [AS.get]
  cases hl:look sl' i with
  | none=>exact .undef _
  | some y=>
   obtain ⟨x,hx,hf⟩:=uU hS i y hl;have h1:=hs.sl i;simp only [AS.get,hx,n8] at h1;exact val x y _ hf h1
 ·obtain ⟨E2,ds,hds,hfL⟩:=vo hO id cs hc;obtain ⟨b,c,e,k1,k2,k3,k4,k5⟩:=hs.ob id ds hds;obtain ⟨q1,q2⟩:=u9 hfL
  obtain ⟨b2,c2,e2,m1,m2,m3,m4,m5⟩:=hs'.ob id (jW (λ i=>Nat.beq i k) ds) (by
   have hf:=kw (λ i=>Nat.beq i k) ob id;simp only [co,gQ];rw [hf]
   simp only [E2,Bool.false_eq_true,if_false,hds,Option.map_some])
  have e1:=hE.ow id b E2 k1;rw [e1] at m1; cases m1;rw [k2] at m2; cases m2;refine ⟨b,c,e,e1,k2,by omega,m4,λ i y hy=>?_⟩;have hi:i<ds.length:=by have:=(List.getElem?_eq_some_iff.1 hy).1; omega
  obtain ⟨v,hv,hr⟩:=k5 i ds[i] (List.getElem?_eq_getElem hi);exact ⟨v,hv,val _ y v (q2 i _ y (List.getElem?_eq_getElem hi) hy) hr⟩
theorem St.settleO {n:Nat}{w0:Base}{w:World}{F:Nat->Prop}{g:Gh}{sl:List (Nat×AV)}{ob:List (Nat×List AV)}{a:Act}(hs:St n w0 F g ⟨sl,ob⟩ a w){k:Nat}{cs:List PV}{j:Nat}
  (hk:k<M1) (hob:look ob k=some (cs.map .p)) (hj:look sl j=some (.ptr k 0)) :
  ∃ g',St n w0 F g' ⟨(j,.rptr cs)::(co (λ i=>Nat.beq i k) ⟨sl,ob⟩).sl,(co (λ i=>Nat.beq i k) ⟨sl,ob⟩).ob⟩ a w:=by
 obtain ⟨b,c,e,k1,k2,k3,k4,k5⟩:=hs.ob k _ hob;have hlt:b<w.heap.size:=(hs.own k b k1).1
 have keyD:∀ i b',Nat.beq i k=false->g.ow i=some b'->b'≠b:=λ i b' hD hi e=>by
  subst e;have:=hs.inj i k b' hi k1;subst this;simp at hD
 have EN:Ev w g.st w (λ b' o=>g.st b' o\/(b'=b/\o<cs.length)):=λ b' o h=>⟨.inl h,Z⟩
 have hs':=hs.evolve (λ i=>Nat.beq i k) (λ i hi=>by have:=cl hi; omega) (g':=⟨λ b' o=>g.st b' o\/(b'=b/\o<cs.length),λ i=>if Nat.beq i k then none else g.ow i⟩) EN (λ id b' hD h=>⟨by simp only [hD]; exact h,Z,λ o ho=>ho.resolve_right λ h'=>keyD id b' hD h h'.1⟩)
  (λ i j b h1 h2=>by
   dsimp only at h1 h2;split at h1
   ·cases h1
   ·split at h2
    ·cases h2
    ·exact hs.inj i j b h1 h2) (λ i b h=>by
   dsimp only at h;split at h
   ·cases h
   ·exact hs.own i b h) (λ b' o h=>by
   rcases h with h|⟨rfl,_⟩
   ·exact hs.lt b' o h
   ·exact hlt) (λ b h=>rfl) Z Z Z (ld _) (λ b' hb' o=>⟨λ h=>h.resolve_right λ h'=>(hs.own k b k1).2 (h'.1 ▸ hb'),.inl⟩) (λ i hi=>by
    have E2:Nat.beq i k=false:=by
     cases hq:Nat.beq i k
     ·rfl
     ·have:=cl hq; omega
    simp only [E2]; rfl)
 refine ⟨_,{ hs' with sl:=λ i=>?_,ob:=hs'.ob }⟩;simp only [AS.get,a6];by_cases e1:j=i
 ·subst e1;simp only [if_true,n8];have h0':=hs.sl j;simp only [AS.get,hj,n8] at h0';generalize a.tmps.getD j Go.undef=v at h0'
  cases h0' with
  | ptr how=>
   rw [k1] at how; cases how;refine .rptr (λ j=>c.getD j Go.undef) (λ j y hy=>?_) (λ j y hy=>?_)
   ·have hi:=(List.getElem?_eq_some_iff.1 hy).1;have hci:j<c.size:=by simp only [d3] at k3; omega
    refine ⟨.inr ⟨Z,by omega⟩,?_⟩;simp only [World.cell?,k2,th];simp [Array.getD,hci]
   ·obtain ⟨u,hu,hr⟩:=k5 j (.p y) (by simp [hy]);rw [Array.getD_eq_getD_getElem?,hu]
    cases hr with|p hr=>exact hr.mono EN
 ·rw [if_neg e1];exact hs'.sl i
theorem nI {C:Cx}{sl:List (Nat×AV)}{ob:List (Nat×List AV)}(j:Nat){k:Nat}{cs:List PV}(hj:look sl j=some (.ptr k 0))(hk:Nat.blt k M1=true)(hob:look ob k=some (cs.map .p)) :
  cB C ⟨sl,ob⟩ ⟨(j,.rptr cs)::(co (λ i=>Nat.beq i k) ⟨sl,ob⟩).sl,(co (λ i=>Nat.beq i k) ⟨sl,ob⟩).ob⟩ :=
 λ _ _ _ hs=>hs.settleO (dg ▸ hk) hob hj
def gv (P:Program)(f:FuncId)(args:List AV)(R:AV->Prop):Prop :=∀ (w:World) (st:Nat->Nat->Prop) (vs:Array Value),Ok0 w st->vs.size=args.length -> (∀ (i:Nat) c v,args[i]? = some c->vs[i]? = some v->ARep w ⟨st,λ _=>none⟩ c v) -> Calls P f vs w λ e w'=>∃ v r g',e=.returned v/\R r/\ARep w' g' r v/\After w st w' g'
theorem gv.of_sub {P:Program}{f:FuncId}{args:List AV}{r:AV}(h:gv P f args (λ x=>x.sub r)):gv P f args (·=r) :=
 λ w st vs h0 h1 h2=>(h w st vs h0 h1 h2).mono λ _e _w' ⟨v,_,g',h3,h4,h5,h6⟩=>⟨v,r,g',h3,Z,h4 _ _ _ h5,h6⟩
theorem aF.q {P:Program}{f:FuncId}{args:List PV}{R:AV->Prop}(h:aF P f args R):gv P f (args.map .p) R:=by
 intro w st vs h0 h1 h2;refine h w st vs h0 (by simpa using h1) λ i c v hc hv=>?_;have:=h2 i (.p c) v (by simp [hc]) hv
 cases this with|p h=>exact h
theorem rE {P:Program}{tt:List (Nat×TI)}(good:dD P tt){f:FuncId}{fn:Func}{c:Code}{args:List AV}{r:AV}(hf:P.funcs[f]? = some fn)(hb:fn.body=some c)(hn:Nat.ble args.length fn.ntmps=true)(hnl:Nat.ble fn.ntmps M1=true)
  (h:∀ w0,awp ⟨P,tt,good,fn.ntmps,hnl,w0,λ b=>b<w0.w.heap.size⟩ c (Ac tt fn (λ x=>x.sub r)) ⟨ge args,[]⟩):gv P f args (·=r):=by
 refine gv.of_sub ?_;intro w st vs h0 h1 h2;refine calls_of_wp hf hb ?_;have hn:=n6 hn
 have hs:St fn.ntmps ⟨w,st,λ _=>none,h0.gl,(λ _ _ h=>nomatch h),[]⟩ (λ b=>b<w.heap.size) ⟨st,λ _=>none⟩ ⟨ge args,[]⟩ { tmps:=vs++Array.replicate (fn.ntmps-vs.size) Go.undef,defers:=[] } w:=by
  refine ⟨rfl,?_,?_,?_,?_,?_,?_,?_,?_,rfl,rfl,rfl,ld _,λ b _ o=>Iff.rfl,λ _ _ _=>rfl,j5.refl _ _,λ i b _ h=>(by cases h),Ev.refl _ _⟩
  ·simp only [Array.size_append,Array.size_replicate]; omega
  ·intro i;have:=mK args 0 i;simp only [AS.get,ge,this,Nat.zero_le,if_true,Nat.sub_zero]
   cases ha:args[i]? with
   | none=>exact .undef _
   | some x=>
    have hi:i<args.length:=(List.getElem?_eq_some_iff.1 ha).1;have hi2:i<vs.size:=by omega
    have e:(vs++Array.replicate (fn.ntmps-vs.size) Go.undef).getD i Go.undef=vs[i]:=by
     simp [Array.getD_eq_getD_getElem?,Array.getElem?_append,hi2]
    simp only [n8];rw [e];exact h2 i x _ ha (Array.getElem?_eq_getElem hi2)
  ·intro id cs h; simp [look] at h
  ·intro i j b h; simp at h
  ·intro i b h; simp at h
  ·intro b o h; exact h0.lt b o h
  ·intro b h; exact h
  ·intro b h; rfl
 refine wp_mono (h ⟨w,st,λ _=>none,h0.gl,(λ _ _ h=>nomatch h),[]⟩ _ _ w hs) ?_;rintro e a' w' ⟨g',s',h3,he,l,hl,hR⟩;obtain ⟨v,hv,hr⟩:=lZ good h3 fn l hl
 have fin:∃ v,(results fn a'.tmps).run P w'=.ok v w'/\∃ v1 r1 g',Ending.returned v=.returned v1/\r1.sub r/\ARep w' g' r1 v1/\After w st w' g':=by
  refine ⟨v,hv,v,_,g',Z,hR,hr,⟨h3.os,h3.out,h3.tape,h3.size,λ b hb=>h3.fr b hb,λ i b hi=>?_,h3.inj,h3.lt,h3.stf⟩⟩;have:=h3.own i b hi;exact ⟨Nat.le_of_not_lt this.2,this.1⟩
 rcases he with rfl|rfl
 ·exact ⟨h3.nd,fin⟩
 ·exact ⟨h3.nd,fin⟩
section
variable {C:Cx} {o:Oper} {K:AS->Prop} {sl:List (Nat×AV)} {ob:List (Nat×List AV)} {d:Nat}
theorem sw {f:FuncId}{q:List AV}{vs:Array Value}{R:AV->Prop}{g:Gh}{a:Act}{w:World}(hs:St C.n C.w0 C.F g ⟨sl,ob⟩ a w)(hc:gv C.P f q R)(hd:o.dst=some d)(hn:Nat.blt d C.n=true)
  (EH:vs.size=q.length) (hargs:∀ (i:Nat) c v,q[i]? = some c->vs[i]? = some v->ARep w ⟨g.st,λ _=>none⟩ c v) (hrun:(execOp a.eval o).run C.P w=.ok (.enter f vs) w)
  (hK:∀ r,R r->∃ r',r.settle=some r'/\K ⟨(d,r')::sl,ob⟩):o.wp C.P a w (λ a' w'=>∃ g' s',St C.n C.w0 C.F g' s' a' w'/\K s') (λ _ _ _=>False):=by
 have hcall:=hc w g.st vs hs.ok0 EH hargs;unfold Oper.wp;rw [hrun];simp only [Oper.upon];refine hcall.mono λ e w' ⟨v,r,g',he,hR,hr,hA⟩=>?_;subst he;obtain ⟨r',hr',hK'⟩:=hK r hR
 have hs':St C.n C.w0 C.F ⟨g'.st,g.ow⟩ ⟨sl,ob⟩ a w':=by
  refine hs.evolve0 (λ b o h=>?_) (λ id b h=>?_) hs.inj (λ i b h=>?_) hA.lt (λ b h=>?_) hA.os hA.out hA.tape hA.size (λ b hb o=>?_) (λ _ _=>rfl)
  ·have hlt:=hs.lt b o h;exact ⟨(hA.stf b hlt o).2 h,by simp only [World.cell?,hA.fr b hlt]⟩
  ·have hlt:=(hs.own id b h).1;exact ⟨h,hA.fr b hlt,λ o ho=>(hA.stf b hlt o).1 ho⟩
  ·have:=hs.own i b h; have:=hA.size; exact ⟨by omega,(hs.own i b h).2⟩
  ·have:=hs.fl b h; have:=hs.size; exact hA.fr b O
  ·have:=hs.fl b hb; have:=hs.size; exact hA.stf b O o
 have hp:=hs'.put (d:=o.dst) (λ t ht=>by rw [hd] at ht; cases ht; exact dg ▸ hn) (tG (g:=g') (g':=⟨g'.st,g.ow⟩) rfl hr' hr);rw [hd] at hp;simp only;rw [hd];exact ⟨_,_,hp,hK'⟩
theorem C6 {n:Nat}{w0:Base}{w:World}{F:Nat->Prop}{g:Gh}{a:Act}(hs:St n w0 F g ⟨sl,ob⟩ a w){args:Array Operand}{l l' q:List AV}(hl:kx sl args.toList=some l)(hl':AV.mapA.go (λ _=>none) l=some l')(hq:nb l' q) :
  (args.map a.eval).size=q.length/\∀ (i:Nat) c v,q[i]? = some c->(args.map a.eval)[i]? = some v->ARep w ⟨g.st,λ _=>none⟩ c v:=by
 obtain ⟨a1,a2⟩:=jc hs _ l hl;obtain ⟨m1,m2⟩:=pP hl';obtain ⟨b1,b2⟩:=lm hq;refine ⟨by have EK:=a1.symm.trans (m1.trans b1); simpa using EK,λ i c v hc hv=>?_⟩;have hi':i<l'.length:=by have:=(List.getElem?_eq_some_iff.1 hc).1; omega
 have hi:i<l.length:=by omega
 have hv':(args.toList.map a.eval)[i]? = some v:=by rw [<- Array.toList_map]; simpa using hv
 have h1:=a2 i _ v (List.getElem?_eq_getElem hi) hv';have h2:=kT (g:=g) (g':=⟨g.st,λ _=>none⟩) rfl (λ i j b h _=>by cases h) h1 (m2 i _ _ (List.getElem?_eq_getElem hi) (List.getElem?_eq_getElem hi'));exact b2 i _ c (List.getElem?_eq_getElem hi') hc w _ v h2
theorem xl {f:FuncId}{args:Array Operand}{ts:Array TypeId}{l l' q:List AV}{r r':AV}(hc:gv C.P f q (·=r))(ho:o.op=.call { callee:=.value (.func f),args:=args,argTypes:=ts })
  (hd:o.dst=some d) (hn:Nat.blt d C.n=true) (hl:kx sl args.toList=some l) (hl':AV.mapA.go (λ _=>none) l=some l') (hq:nb l' q) (henter:∀ vs w,(callFunc f vs).run C.P w=.ok (.enter f vs) w)
  (hr:r.settle=some r') (hK:K ⟨(d,r')::sl,ob⟩):ba C o K ⟨sl,ob⟩:=by
 intro g a w hs;obtain ⟨h1,h2⟩:=C6 hs hl hl' hq;exact sw hs hc hd hn h1 h2 (by simp [execOp,ho,resolve,Act.eval,Deferred.ofValue,invoke,henter]) λ _ e=>e ▸ ⟨r',hr,hK⟩
theorem qS {F:FuncId}{caps:List AV}{t:Nat}{args:Array Operand}{ts:Array TypeId}{l l' q:List AV}{r r':AV}(hc:gv C.P F (q++caps) (·=r))(ho:o.op=.call { callee:=.value (.tmp t),args:=args,argTypes:=ts })
  (hd:o.dst=some d) (hn:Nat.blt d C.n=true) (hf:evo sl (.tmp t)=some (.func (.func F) caps)) (hcl:AV.mapA.go (λ _=>none) caps=some caps) (hl:kx sl args.toList=some l) (hl':AV.mapA.go (λ _=>none) l=some l') (hq:nb l' q)
  (henter:∀ vs w,(callFunc F vs).run C.P w=.ok (.enter F vs) w)
  (hr:r.settle=some r') (hK:K ⟨(d,r')::sl,ob⟩):ba C o K ⟨sl,ob⟩:=by
 intro g a w hs;obtain ⟨h1,h2⟩:=C6 hs hl hl' hq;have hfr:=bu hs hf;generalize hv:a.eval (.tmp t)=v at hfr
 cases hfr with
 | func ER hcr=>
  rename_i vs;obtain ⟨m1,m2⟩:=pP hcl;refine sw hs (vs:=args.map a.eval++vs) hc hd hn (by rw [Array.size_append,qr,h1,ER]) (λ i c v hc hv=>?_) (by simp [execOp,ho,resolve,hv,Deferred.ofValue,invoke,henter]) λ _ e=>e ▸ ⟨r',hr,hK⟩;rw [List.getElem?_append] at hc;rw [Array.getElem?_append] at hv;split at hc
  ·rename_i hlt;rw [if_pos O] at hv;exact h2 i c v hc hv
  ·rename_i hge;rw [if_neg O,h1] at hv;have h3:=hcr _ c v hc hv;exact kT (g:=g) (g':=⟨g.st,λ _=>none⟩) rfl (λ i j b h _=>by cases h) h3 (m2 _ _ _ hc hc)
theorem nq {F:FuncId}{caps:Array Operand}{l:List AV}(ho:o.op=.makeFunc (.func F) #[] caps)(hd:o.dst=some d)(hn:Nat.blt d C.n=true)(hl:kx sl caps.toList=some l)
  (hK:K ⟨(d,.func (.func F) l)::sl,ob⟩):ba C o K ⟨sl,ob⟩:=by
 refine ok_one hd hn (λ g a w hs=>?_) hK;obtain ⟨a1,a2⟩:=jc hs _ l hl;refine ⟨.func (.func F) #[] (caps.map a.eval),by simp [execOp,ho,Instr.makeFunc],.func (by have:=a1.symm; simpa using this) λ i c v hc hv=>a2 i c v hc (by rw [<- Array.toList_map]; simpa using hv)⟩
end
end Go.Ab
namespace Go.Ab
def by2 {α:Type}(a b:α):Nat->α|0=>a|_+1=>b
def by3 {α:Type}(a b c:α):Nat->α|0=>a|1=>b|_+2=>c
def by4 {α:Type}(a b c e:α):Nat->α|0=>a|1=>b|2=>c|_+3=>e
def by5 {α:Type}(a0 a1 a2 a3 a4:α):Nat->α|0=>a0|1=>a1|2=>a2|3=>a3|_+4=>a4
theorem cF {p:Nat->Prop}(h0:p 0)(h1:∀ j,p (j+1)):∀ j,p j
 | 0=>h0
 | j+1=>h1 j
theorem b9 {p:Nat->Prop}(h0:p 0)(h1:p 1)(h2:∀ j,p (j+2)):∀ j,p j
 | 0=>h0
 | 1=>h1
 | j+2=>h2 j
theorem eR {p:Nat->Prop}(h0:p 0)(h1:p 1)(h2:p 2)(h3:∀ j,p (j+3)):∀ j,p j
 | 0=>h0
 | 1=>h1
 | 2=>h2
 | j+3=>h3 j
theorem sG {p:Nat->Prop}(h0:p 0)(h1:p 1)(h2:p 2)(h3:p 3)(h4:∀ j,p (j+4)):∀ j,p j
 | 0=>h0
 | 1=>h1
 | 2=>h2
 | 3=>h3
 | j+4=>h4 j
theorem lt1 {p:Nat->Prop}(h0:p 0):∀ j,j<1->p j
 | 0,_=>h0
 | j+1,h=>absurd h O
theorem lt2 {p:Nat->Prop}(h0:p 0)(h1:p 1):∀ j,j<2->p j
 | 0,_=>h0
 | 1,_=>h1
 | j+2,h=>absurd h O
theorem lt3 {p:Nat->Prop}(h0:p 0)(h1:p 1)(h2:p 2):∀ j,j<3->p j
 | 0,_=>h0
 | 1,_=>h1
 | 2,_=>h2
 | j+3,h=>absurd h O
theorem lt4 {p:Nat->Prop}(h0:p 0)(h1:p 1)(h2:p 2)(h3:p 3):∀ j,j<4->p j
 | 0,_=>h0
 | 1,_=>h1
 | 2,_=>h2
 | 3,_=>h3
 | j+4,h=>absurd h O
def Stg (C:Cx)(ops:Array Oper)(S:gb)(o:Oper)(k:Nat)(rev:gw)(d:Nat)(v:Nat->AV):Nat->Prop|0=>True|j+1=>(oj ops S.imp o k j=true->∃ kn,KnS (S.bas j) o rev j kn/\sf C ops (S.obj j) o kn d (v j))/\Stg C ops S o k rev d v j
section
variable {C:Cx} {ops:Array Oper} {S:gb} {K:gw->Prop} {o:Oper} {k:Nat} {rev:gw} {d:Nat} {v:Nat->AV}
theorem ao:Stg C ops S o k rev d v 0:=trivial
theorem ai {j:Nat}(h:oj ops S.imp o k j=false)(r:Stg C ops S o k rev d v j):Stg C ops S o k rev d v (j+1):=⟨λ h'=>(Bool.noConfusion (h.symm.trans h')),r⟩
theorem af {j:Nat}(kn:List (Nat×AV))(h1:KnS (S.bas j) o rev j kn)(h2:sf C ops (S.obj j) o kn d (v j))(r:Stg C ops S o k rev d v j):Stg C ops S o k rev d v (j+1):=⟨λ _=>⟨kn,h1,h2⟩,r⟩
theorem xI:∀ {m:Nat},Stg C ops S o k rev d v m->∀ j,j<m->oj ops S.imp o k j=true->∃ kn,KnS (S.bas j) o rev j kn/\sf C ops (S.obj j) o kn d (v j)
 | 0,_,j,h,_=>absurd h (Nat.not_lt_zero _)
 | m+1,hm,j,h,ha=>by
  by_cases e:j=m
  ·subst e; exact hm.1 ha
  ·exact xI hm.2 j O ha
theorem ap {rest:List Oper}(v:Nat->AV)(hk:S.imp.findIdx? (Nat.beq k)=none)(hd:o.dst=some d)(hf:(rev.all λ p=>!(Nat.beq p.2.1 d))=true)(hb:∀ j,look (S.bas j) d=none)(hv:∀ j,j<S.m->v (j+1)=trA (S.D j) (v j))
  (hs:Stg C ops S o k rev d v (S.m+1)) (h:DS C ops S K rest (k+1) ((k,d,v)::rev)):DS C ops S K (o::rest) k rev:=by
 unfold DS;rw [hk];exact ⟨d,v,hd,hf,hb,λ j hj _=>hv j hj,λ j hj ha=>xI hs j O ha,h⟩
theorem mz {rest:List Oper}(v:Nat->AV)(hk:S.imp.findIdx? (Nat.beq k)=none)(hd:o.dst=some d)(hf:(rev.all λ p=>!(Nat.beq p.2.1 d))=true)(hb:∀ j,look (S.bas j) d=none)(hv:∀ j,j<S.m->loB ops S.imp o j=true->v (j+1)=trA (S.D j) (v j))
  (hs:Stg C ops S o k rev d v (S.m+1)) (h:DS C ops S K rest (k+1) ((k,d,v)::rev)):DS C ops S K (o::rest) k rev:=by
 unfold DS;rw [hk];exact ⟨d,v,hd,hf,hb,hv,λ j hj ha=>xI hs j O ha,h⟩
theorem nl {b:Bool}{p:Prop}(hb:b=false)(h:b=true):p:=Bool.noConfusion (hb.symm.trans h)
theorem dh {rest:List Oper}{i:Nat}(v:Nat->AV)(kn:List (Nat×AV))(hk:S.imp.findIdx? (Nat.beq k)=some i)(hkn:KnS (S.bas i) o rev i kn)(hd:o.dst=some d)(hf:(rev.all λ p=>!(Nat.beq p.2.1 d))=true)(hb:∀ j,look (S.bas (j+(i+1))) d=none)
  (hv:∀ j,j<S.m->i<j->v (j+1)=trA (S.D j) (v j))
  (ES:∀ sl,(∀ i x,look kn i=some x->look sl i=some x)->∀ K:AS->Prop,K ⟨(d,v (i+1))::trL (S.D i) sl,S.obj (i+1)⟩->One C ops o K ⟨sl,S.obj i⟩) (h:DS C ops S K rest (k+1) ((k,d,v)::rev)):DS C ops S K (o::rest) k rev:=by
 unfold DS;rw [hk];exact ⟨kn,hkn,.inl ⟨d,v,hd,hf,λ j hj=>by have:=hb (j-(i+1)); rwa [show j-(i+1)+(i+1)=j by omega] at this,λ j h1 h2=>hv j h2 h1,ES,h⟩⟩
theorem dj {rest:List Oper}{i:Nat}(kn:List (Nat×AV))(hk:S.imp.findIdx? (Nat.beq k)=some i)(hkn:KnS (S.bas i) o rev i kn)(hd:o.dst=none)
  (ES:∀ sl,(∀ i x,look kn i=some x->look sl i=some x)->∀ K:AS->Prop,K ⟨trL (S.D i) sl,S.obj (i+1)⟩->One C ops o K ⟨sl,S.obj i⟩) (h:DS C ops S K rest (k+1) rev):DS C ops S K (o::rest) k rev:=by
 unfold DS;rw [hk];exact ⟨kn,hkn,.inr ⟨hd,ES,h⟩⟩
theorem cC (h:K rev):DS C ops S K [] k rev:=h
theorem tB {K1 K2:gw->Prop}(h2:K2 rev)(h:K1 rev):DS C ops S (λ rev=>K1 rev/\K2 rev) [] k rev:=⟨h,h2⟩
end
theorem uk {m:Nat->Option Nat}:AV.mapA.go m []=some []:=rfl
theorem ni {m:Nat->Option Nat}{x y:AV}{r l:List AV}(h1:x.mapA m=some y)(h2:AV.mapA.go m r=some l):AV.mapA.go m (x::r)=some (y::l):=by
 simp only [AV.mapA.go,h1,h2]
theorem ve {m:Nat->Option Nat}{f:Fn}{cs l:List AV}(h:AV.mapA.go m cs=some l):(AV.func f cs).mapA m=some (.func f l):=by
 simp only [AV.mapA,h]
theorem cG {sl:List (Nat×AV)}{k:Nat}:nB sl k []=some []:=rfl
theorem b7 {sl:List (Nat×AV)}{k:Nat}{x:Operand}{r:List (Nat×Operand)}{y:AV}{z:PV}{l:List PV}(h1:evo sl x=some y)(h2:y.toPV=some z)(h3:nB sl (k+1) r=some l):nB sl k ((k,x)::r)=some (z::l):=by
 have hb:Nat.beq k k=true:=by simp
 simp only [nB,hb,cond_true,h1,h3,h2]
theorem gB {sl:List (Nat×AV)}:fZ sl []=some []:=rfl
theorem bU {sl:List (Nat×AV)}{i:Nat}{x:Operand}{r:List (Nat×Operand)}{y:AV}{l:List (Nat×AV)}(h1:evo sl x=some y)(h2:fZ sl r=some l):fZ sl ((i,x)::r)=some ((i,y)::l):=by
 simp only [fZ,h1,h2]
theorem rL {C:Cx}{c:Code}{Q:Exit->AS->Prop}{s:AS}(h:awp C c (λ e s=>∃ t,cB C s t/\Q e t) s):awp C c Q s:=by
 intro g a w hs;refine wp_mono (h g a w hs) ?_;rintro e a' w' ⟨g',s',h3,t,hg,hq⟩;obtain ⟨g2,h4⟩:=hg g' a' w' h3;exact ⟨g2,t,h4,hq⟩
def uA (C:Cx)(tt:List (Nat×TI))(fn:Func)(ts ids:List Nat)(r:AV)(rob:List (Nat×List AV))(e:Exit)(s:AS):Prop :=∃ t,cB C s t/\vl tt fn ts ids (λ x y=>x.sub r/\leO y rob) e t
theorem bT {P:Program}{tt:List (Nat×TI)}(good:dD P tt){f:FuncId}{fn:Func}{c:Code}{args:List AV}{Fa rob:List (Nat×List AV)}{r:AV}(ts ids:List Nat)(hf:P.funcs[f]? = some fn)(hb:fn.body=some c)
  (hn:Nat.ble args.length fn.ntmps=true) (hnl:Nat.ble fn.ntmps M1=true) (hts:ts.all (λ i=>Nat.blt i M1)=true) (hnd:nodupB ts=true)
  (h:∀ w0 F,awp ⟨P,tt,good,fn.ntmps,hnl,w0,F⟩ c (uA ⟨P,tt,good,fn.ntmps,hnl,w0,F⟩ tt fn ts ids r rob) ⟨ge args,Fa⟩):aU P f args Fa (λ x y=>x=r/\y=rob) :=
 DN good ts ids hf hb hn hnl hts hnd λ w0 F=>rL (h w0 F)
theorem qX {C:Cx}{tt:List (Nat×TI)}{fn:Func}{ts ids:List Nat}{r r1:AV}{rob Fa obs':List (Nat×List AV)}{s t:AS}{l:List AV}(hg:cB C s t)(h1:nC tt fn.results.toList t=some l)(h2:(rQ l).mapA (mg ts)=some r1)
  (h3:iM t.ob ids=some Fa) (h4:iB (mg ts) Fa=some obs') (h5:r1.sub r) (h6:leO obs' rob):uA C tt fn ts ids r rob .ret s:=⟨t,hg,BI h1 h2 h3 h4 ⟨h5,h6⟩⟩
theorem Cr {C:Cx}{tt:List (Nat×TI)}{fn:Func}{ts ids:List Nat}{r r1:AV}{rob Fa obs':List (Nat×List AV)}{s t:AS}{l:List AV}(hg:cB C s t)(h1:nC tt fn.results.toList t=some l)(h2:(rQ l).mapA (mg ts)=some r1)
  (h3:iM t.ob ids=some Fa) (h4:iB (mg ts) Fa=some obs') (h5:r1.sub r) (h6:leO obs' rob):uA C tt fn ts ids r rob .normal s:=⟨t,hg,Ae h1 h2 h3 h4 ⟨h5,h6⟩⟩
theorem pJ {P:Program}(w:World)(d:Nat)(t e:TypeId)(a:Option Addr)(l c:Nat)(h:P.underlying t=some (.slice e)):(Op.equalIn (d+1) t (.slice a l c) (.slice none 0 0)).run P w=.ok a.isNone w:=by
 cases a <;> simp [Op.equalIn,run_underlying h]
theorem qz {P:Program}(w:World)(t e:TypeId)(a:Option Addr)(l c:Nat)(h:P.underlying t=some (.slice e)):(Op.equal t (.slice a l c) (.slice none 0 0)).run P w=.ok a.isNone w:=pJ w 9999 t e a l c h
section
variable {C:Cx} {o:Oper} {K:AS->Prop} {sl:List (Nat×AV)} {ob:List (Nat×List AV)} {d:Nat}
theorem nN {t t':TypeId}{x y:Operand}{Y0z:AV}{es:List PV}{i:TI}{e:Nat}(ho:o.op=.binOp .eql t x y t')(hd:o.dst=some d)(hn:Nat.blt d C.n=true)
  (hi:look C.tt t=some i) (EP:i.k=.slice e) (hx:evo sl x=some Y0z) (hY:Y0z.elems? = some es) (hy:evo sl y=some (.p (.val (.slice none 0 0))))
  (hK:∀ b:Bool,(b=true->es=[])->K ⟨(d,.p (.val (.bool b)))::sl,ob⟩):ba C o K ⟨sl,ob⟩:=by
 obtain ⟨u,h1,h2⟩:=bF C.good hi;have h3:=bJ (h2.trans EP);subst h3;intro g a w hs;have hp:=iA hY (bu hs hx);have hyv:=ce hs hy;generalize hxv:a.eval x=v at hp
 have key:∃ (b:Bool) (ad:Option Addr) (l c:Nat),v=.slice ad l c/\b=ad.isNone/\(b=true->es=[]):=by
  cases hp with
  | nils=>exact ⟨true,none,0,0,Z,Z,λ _=>rfl⟩
  | nile ad=>exact ⟨false,some ad,0,0,Z,Z,λ _=>rfl⟩
  | slice sz cf hcap EH ET hc hr=>exact ⟨false,_,_,_,rfl,rfl,λ h=>by cases h⟩
 obtain ⟨b,ad,l,c,rfl,rfl,hb⟩:=key
 have hrun:(execOp a.eval o).run C.P w=.ok (.value (.bool ad.isNone)) w:=by
  simp [execOp,ho,hxv,hyv,eqGuard,binOp,qz _ _ _ _ _ _ h1]
 unfold Oper.wp;rw [hrun];simp only [Oper.upon,hd];exact ⟨g,_,hs.put (d:=some d) (λ t ht=>by cases ht; exact dg ▸ hn) (.p (.val _)),hK _ hb⟩
theorem qJ {t e:TypeId}{i ie:TI}(ho:o.op=.buildSlice t 0 #[])(hd:o.dst=some d)(hn:Nat.blt d C.n=true)
  (hi:look C.tt t=some i) (EP:i.k=.slice e) (hie:look C.tt e=some ie) (_hzl:Nat.beq ie.zero.length ie.size=true) (tok sz:Nat)
  (hK:K ⟨(d,.vec tok sz 0 [])::sl,ob⟩):ba C o K ⟨sl,ob⟩:=by
 obtain ⟨u,h1,h2⟩:=bF C.good hi;have h3:=bJ (h2.trans EP);subst h3;obtain ⟨j,hj,hj1,hj2,z,hz1,hz2⟩:=gX C.good hie;intro g a w hs
 have hrun:(execOp a.eval o).run C.P w=.ok (.value (.slice (some ⟨w.heap.size,0,none⟩) 0 0)) (w.alloc (.cells #[] e)):=by
  simp [execOp,ho,Instr.buildSlice,run_underlying h1,sizeOf,typeInfo,hj,Instr.fill,newRow];congr 2;apply Array.ext <;> simp
 unfold Oper.wp;rw [hrun];have ES:=(hs.settled (λ _=>False) #[] e).put (d:=some d) (λ t ht=>by cases ht; exact dg ▸ hn) (.vece tok sz ⟨w.heap.size,0,none⟩);simp only [Oper.upon,hd];exact ⟨_,_,ES,hK⟩
theorem uV {t e:TypeId}{i ie:TI}(ho:o.op=.buildSlice t 0 #[])(hd:o.dst=some d)(hn:Nat.blt d C.n=true)
  (hi:look C.tt t=some i) (EP:i.k=.slice e) (hie:look C.tt e=some ie) (sz:Nat)
  (hK:K ⟨(d,.arr d sz 0 0)::(co (λ i=>Nat.beq i d) ⟨sl,ob⟩).sl,(d,[])::(co (λ i=>Nat.beq i d) ⟨sl,ob⟩).ob⟩):ba C o K ⟨sl,ob⟩:=by
 obtain ⟨u,h1,h2⟩:=bF C.good hi;have h3:=bJ (h2.trans EP);subst h3;obtain ⟨j,hj,hj1,hj2,z,hz1,hz2⟩:=gX C.good hie;intro g a w hs
 have hrun:(execOp a.eval o).run C.P w=.ok (.value (.slice (some ⟨w.heap.size,0,none⟩) 0 0)) (w.alloc (.cells #[] e)):=by
  simp [execOp,ho,Instr.buildSlice,run_underlying h1,sizeOf,typeInfo,hj,Instr.fill,newRow];congr 2;apply Array.ext <;> simp
 unfold Oper.wp;rw [hrun];have hdl:d<M1:=by have h1:=n6 C.nl; have h2:d<C.n:=dg ▸ hn; omega
 have hf:=hs.fresh (λ i=>Nat.beq i d) (λ i hi=>by have:=cl hi; omega) d G (λ _=>False) #[] e;have hp:=hf.put (d:=some d) (λ t ht=>by cases ht; exact dg ▸ hn) (x:=.arr d sz 0 0) (v:=.slice (some ⟨w.heap.size,0,none⟩) 0 0) (.arr (cap:=0) G dU G (ld _));simp only [Oper.upon,hd];refine ⟨_,⟨(d,.arr d sz 0 0)::(co (λ i=>Nat.beq i d) ⟨sl,ob⟩).sl,(d,[])::(co (λ i=>Nat.beq i d) ⟨sl,ob⟩).ob⟩,{ hp with ob:=λ id cs' hc=>?_ },hK⟩;simp only [a6] at hc;by_cases e1:d=id
 ·subst e1;simp only [if_true,bt] at hc;subst hc;refine ⟨w.heap.size,#[],e,by simp,dU,by simp,λ o ho=>?_,λ i y hy=>by simp at hy⟩;rcases ho with ho|⟨_,ho⟩
  ·exact absurd (hs.lt _ _ ho) O
  ·exact ho
 ·rw [if_neg e1] at hc;exact hp.ob id cs' hc
theorem pt {α:Type}{f:α->PV}{sz:Nat}(EH:∀ x,(f x).cells.length=sz)(l:List α):(j1 f l).length=l.length*sz:=by
 unfold j1;rw [d3,iQ (sz:=sz),d3];intro e he;obtain ⟨x,_,rfl⟩:=List.mem_map.1 he;exact EH x
theorem xy {α:Type}(f:α->PV)(l q:List α):(gm (l.map f++q.map f)).map AV.p=j1 f (l++q):=by
 unfold j1; rw [List.map_append]
theorem yH {α:Type}(f:α->PV)(l0 l:List α){t tx e e':TypeId}{x y:Operand}{k sz n:Nat}{Y0z:AV}{i ie j:TI}(ho:o.op=.call { callee:=.builtin .append,args:=#[x,y],argTypes:=#[t,tx] })(hd:o.dst=some d)(hn:Nat.blt d C.n=true)
  (hi:look C.tt t=some i) (EP:i.k=.slice e) (hie:look C.tt e=some ie) (hj:look C.tt tx=some j) (hjk:j.k=.slice e') (hx:evo sl x=some (.arr k sz 0 n)) (hk:Nat.blt k M1=true) (hob:look ob k=some (j1 f l0)) (hnl:n=l0.length)
  (hy:evo sl y=some Y0z) (hY:Y0z.elems? = some (l.map f)) (hiz:ie.size=sz) (EH:∀ x,(f x).cells.length=ie.size) (h0:Nat.blt 0 ie.size=true) (hzl:Nat.beq ie.zero.length ie.size=true) (hby:Nat.blt 0 ie.bytes=true)
  (EK:(l0.length+l.length)*ie.bytes<=140737488355328)
  (hK:K ⟨(d,.arr d sz 0 (l0.length+l.length))::(co (λ i=>Nat.beq i k||Nat.beq i d) ⟨sl,ob⟩).sl,(d,j1 f (l0++l))::(co (λ i=>Nat.beq i k||Nat.beq i d) ⟨sl,ob⟩).ob⟩):ba C o K ⟨sl,ob⟩:=by
 have hby':1<=ie.bytes:=Nat.succ_le_of_lt (by simpa using hby);have h1:(l0.length+l.length)*1<=(l0.length+l.length)*ie.bytes:=Nat.mul_le_mul_left _ hby';have hs:∀ (l:List α),∀ y∈l.map f,y.cells.length=ie.size:=λ l y hy=>by obtain ⟨x,_,rfl⟩:=List.mem_map.1 hy; exact EH x
 exact xS ho hd hn hi EP hie hj hjk hx hk hob (by rw [d3]; exact hnl) hy hY (hs l) (hs l0) hiz h0 hzl (by rw [d3,d3]; exact EK) (by rw [d3,d3]; omega)
  (by rw [d3,d3,xy]; exact hK)
theorem A0 {α:Type} [Inhabited α] {f:α->PV}{sz:Nat}(_h0:0<sz)(EH:∀ x,(f x).cells.length=sz)(l:List α){n:Nat}(hn:n<l.length):((j1 f l).drop (n*sz)).take sz=(f (l.getD n default)).cells.map .p:=by
 have hs:∀ e∈l.map f,e.cells.length=sz:=λ y hy=>by obtain ⟨x,_,rfl⟩:=List.mem_map.1 hy; exact EH x
 have hm:n*sz+sz<=l.length*sz:=by rw [<- Nat.succ_mul]; exact ro _ hn
 have EK:(j1 f l).length=l.length*sz:=pt EH l;apply List.ext_getElem?;intro j;rw [List.getElem?_take,List.getElem?_map];by_cases hj:j<sz
 ·rw [if_pos hj,List.getElem?_drop];have hcj:j<(f (l.getD n default)).cells.length:=by rw [EH]; exact hj
  have hg:=kp hs n (f (l.getD n default)) j _ (CH f l n default hn) (List.getElem?_eq_getElem hcj);rw [j1,List.getElem?_map,hg,List.getElem?_eq_getElem hcj]
 ·rw [if_neg hj,List.getElem?_eq_none (by rw [EH]; omega)]; rfl
theorem CL:∀ (l:List PV),lM (l.map .p)=.p (.agg l):=by
 have h:∀ (l:List PV),tr (l.map .p)=some l:=by
  intro l
  induction l with
  | nil=>rfl
  | cons x r ih=>simp only [aq,tr,ih]
 intro l;unfold lM;rw [h]
theorem tP {α:Type} [Inhabited α] (f:α->PV)(cs:α->List PV)(l:List α){t:TypeId}{x:Operand}{i:TI}{id sz:Nat}{n:Int}(ho:o.op=.load t x)(hd:o.dst=some d)(hn:Nat.blt d C.n=true)
  (hi:look C.tt t=some i) (hia:i.k.isAgg=true) (hx:evo sl x=some (.ptr id (0+n.toNat*sz))) (hob:look ob id=some (j1 f l)) (hiz:i.size=sz) (h0:Nat.blt 0 sz=true) (hb:0<=n/\n<(l.length:Int)) (ER:∀ x,(f x).cells=cs x) (EH:∀ x,(cs x).length=sz)
  (hK:K ⟨(d,.p (.agg (cs (lat l n))))::sl,ob⟩):ba C o K ⟨sl,ob⟩:=by
 subst hiz;have h0':0<i.size:=by simpa using h0
 have hsz':∀ x,(f x).cells.length=i.size:=λ x=>by rw [ER]; exact EH x
 have hnl:n.toNat<l.length:=by omega
 have hm:n.toNat*i.size+i.size<=l.length*i.size:=by rw [<- Nat.succ_mul]; exact ro _ hnl
 refine d5 ho hd hn hi hia hx hob (Nat.ble_eq_true_of_le (by rw [pt hsz']; omega)) (y:=.p (.agg (cs (lat l n)))) ?_ hK;rw [th,A0 h0' hsz' l hnl,CL,ER]
 rfl
theorem Am {α:Type}{f:α->PV}{sz:Nat}(h0:0<sz)(EH:∀ x,(f x).cells.length=sz)(l:List α){n:Nat}(hn:n<l.length)(y:α):na (j1 f l) (n*sz) ((f y).cells.map .p)=j1 f (l.set n y):=by
 have hs:∀ (l:List α),∀ e∈l.map f,e.cells.length=sz:=λ l y hy=>by obtain ⟨x,_,rfl⟩:=List.mem_map.1 hy; exact EH x
 have hm:n*sz+sz<=l.length*sz:=by rw [<- Nat.succ_mul]; exact ro _ hn
 have hl1:((f y).cells.map AV.p).length=sz:=by rw [d3]; exact EH y
 have EK:(j1 f l).length=l.length*sz:=pt EH l;apply List.ext_getElem?;intro k;rw [uc _ _ _ (by rw [hl1,EK]; exact hm),hl1];by_cases hk:k<l.length*sz
 ·have hd:k / sz<l.length:=(Nat.div_lt_iff_lt_mul h0).2 hk;have hr:k%sz<sz:=Nat.mod_lt _ h0;have he:k / sz*sz+k%sz=k:=by rw [Nat.mul_comm]; exact Nat.div_add_mod k sz
  have get:∀ (q:List α) (x:α),q[k / sz]? = some x->(j1 f q)[k]? = ((f x).cells[k%sz]?).map .p:=by
   intro q x hq;have hc:k%sz<(f x).cells.length:=by rw [EH]; exact hr
   have:=kp (hs q) (k / sz) (f x) (k%sz) _ (by rw [List.getElem?_map,hq]; rfl) (List.getElem?_eq_getElem hc);rw [he] at this;rw [j1,List.getElem?_map,this,List.getElem?_eq_getElem hc]
  by_cases h:n*sz<=k/\k<n*sz+sz
  ·rw [if_pos h]
   have hkn:k / sz=n:=by
    apply Nat.div_eq_of_lt_le
    ·exact h.1
    ·rw [Nat.succ_mul]; exact h.2
   rw [get (l.set n y) y (by rw [hkn,List.getElem?_set_self hn]),List.getElem?_map];have:k-n*sz=k%sz:=by rw [hkn] at he; omega
   rw [this]
  ·rw [if_neg h]
   have hkn:¬ n=k / sz:=by
    intro e; apply h; rw [e]; omega
   rw [get l l[k / sz] (List.getElem?_eq_getElem hd),get (l.set n y) l[k / sz] (by rw [List.getElem?_set_ne hkn]; exact List.getElem?_eq_getElem hd)]
 ·rw [if_neg O,List.getElem?_eq_none O,List.getElem?_eq_none (by rw [pt EH,List.length_set]; omega)]
theorem ya (l:List PV)(h:PV.onesB l=true):(AV.p (.agg l)).cellsA=some (l.map .p):=by
 first|rfl|simp [AV.cellsA,h]
theorem rW {α:Type} [Inhabited α] (f:α->PV)(cs:α->List PV)(l:List α)(y:α){t:TypeId}{x v:Operand}{i:TI}{id sz:Nat}{n:Int}(ho:o.op=.store t x v)(hd:o.dst=none)
  (hi:look C.tt t=some i) (hx:evo sl x=some (.ptr id (0+n.toNat*sz))) (hv:evo sl v=some (.p (.agg (cs y)))) (hob:look ob id=some (j1 f l)) (hiz:i.size=sz) (h0:Nat.blt 0 sz=true) (hb:0<=n/\n<(l.length:Int)) (ER:∀ x,(f x).cells=cs x) (EH:∀ x,(cs x).length=sz) (ET:∀ x,PV.onesB (cs x)=true)
  (hK:K ⟨sl,(id,j1 f (l.set n.toNat y))::ob⟩):ba C o K ⟨sl,ob⟩:=by
 subst hiz;have h0':0<i.size:=by simpa using h0
 have hsz':∀ x,(f x).cells.length=i.size:=λ x=>by rw [ER]; exact EH x
 have hnl:n.toNat<l.length:=by omega
 have hm:n.toNat*i.size+i.size<=l.length*i.size:=by rw [<- Nat.succ_mul]; exact ro _ hnl
 refine em (xs:=(cs y).map .p) ho hd hi hx hv (ya _ (ET y)) (by rw [d3]; exact EH y) hob (by rw [d3,EH,pt hsz']; omega) ?_;rw [th,<- ER,Am h0' hsz' l hnl];exact hK
theorem lx {a:Int}(h:inR a):IntKind.wrap .i64 a=a:=IntWalk.i64_in a h
def dvI:BinOp->Int->Int->Option Int|.rem,a,b=>some (a.tmod b)|.quo,a,b=>some (IntKind.wrap .i64 (a.tdiv b))|_,_,_=>none
theorem Ax {P:Program}{w:World}{op:BinOp}{t:TypeId}{a b c:Int}(hb:b≠0)(h:dvI op a b=some c) :
  (binOp op t (.int .i64 a) (.int .i64 b)).run P w=.ok (.int .i64 c) w:=by
 cases op <;> simp only [dvI,bt,reduceCtorEq] at h <;> subst h <;> simp [binOp,Op.intDiv,hb]
theorem AH {op:BinOp}{t t':TypeId}{x y:Operand}{a b c:Int}(ho:o.op=.binOp op t x y t')(hd:o.dst=some d)(hn:Nat.blt d C.n=true)
  (hx:evo sl x=some (.p (.val (.int .i64 a)))) (hy:evo sl y=some (.p (.val (.int .i64 b)))) (hc:dvI op a b=some c) (hb:b≠0)
  (hK:K ⟨(d,.p (.val (.int .i64 c)))::sl,ob⟩):ba C o K ⟨sl,ob⟩ :=
 ok_one hd hn (λ g a w hs=>⟨_,by
  simp only [execOp,ho,ce hs hx,ce hs hy,Sem.run_bind,lB,Result.andThen_ok,Ax hb hc,Sem.run_pure],.p (.val _)⟩) hK
end
open Go.Proofs
def tt:List (Nat×TI):=[(2,⟨.int .i64,1,8,[.int .i64 0]⟩),(3,⟨.int .i64,1,8,[.int .i64 0]⟩),(4,⟨.bool,1,1,[.bool false]⟩),(5,⟨.int .u8,1,1,[.int .u8 0]⟩),(6,⟨.int .u8,1,1,[.int .u8 0]⟩),(7,⟨.struct [(0,2),(1,3),(2,4),(3,6)],4,24,[.int .i64 0,.int .i64 0,.bool false,.int .u8 0]⟩),(8,⟨.struct [(0,2),(1,3),(2,4),(3,6)],4,24,[.int .i64 0,.int .i64 0,.bool false,.int .u8 0]⟩),(9,⟨.string,1,16,[.string ⟨#[]⟩]⟩),(10,⟨.string,1,16,[.string ⟨#[]⟩]⟩),(11,⟨.string,1,16,[.string ⟨#[]⟩]⟩),(12,⟨.int .u64,1,8,[.int .u64 0]⟩),(13,⟨.struct [(0,9),(1,12)],2,24,[.string ⟨#[]⟩,.int .u64 0]⟩),(14,⟨.struct [(0,9),(1,12)],2,24,[.string ⟨#[]⟩,.int .u64 0]⟩),(15,⟨.ptr 273,1,8,[.pointer none]⟩),(16,⟨.ptr 276,1,8,[.pointer none]⟩),(17,⟨.ptr 283,1,8,[.pointer none]⟩),(18,⟨.struct [(0,17)],1,8,[.pointer none]⟩),(19,⟨.struct [(0,17)],1,8,[.pointer none]⟩),(20,⟨.iface,1,16,[.nilIface]⟩),(21,⟨.int .i32,1,4,[.int .i32 0]⟩),(23,⟨.slice 48,1,24,[.slice none 0 0]⟩),(24,⟨.slice 58,1,24,[.slice none 0 0]⟩),(25,⟨.struct [(0,23),(1,24)],2,48,[.slice none 0 0,.slice none 0 0]⟩),(26,⟨.struct [(0,23),(1,24)],2,48,[.slice none 0 0,.slice none 0 0]⟩),(27,⟨.int .i64,1,8,[.int .i64 0]⟩),(28,⟨.struct [(0,27),(1,3),(2,9)],3,32,[.int .i64 0,.int .i64 0,.string ⟨#[]⟩]⟩),(29,⟨.struct [(0,27),(1,3),(2,9)],3,32,[.int .i64 0,.int .i64 0,.string ⟨#[]⟩]⟩),(37,⟨.int .i64,1,8,[.int .i64 0]⟩),(38,⟨.int .i64,1,8,[.int .i64 0]⟩),(39,⟨.int .i64,1,8,[.int .i64 0]⟩),(40,⟨.slice 43,1,24,[.slice none 0 0]⟩),(41,⟨.slice 9,1,24,[.slice none 0 0]⟩),(42,⟨.struct [(0,39),(1,3),(2,9),(3,40),(4,41)],5,80,[.int .i64 0,.int .i64 0,.string ⟨#[]⟩,.slice none 0 0,.slice none 0 0]⟩),(43,⟨.struct [(0,39),(1,3),(2,9),(3,40),(4,41)],5,80,[.int .i64 0,.int .i64 0,.string ⟨#[]⟩,.slice none 0 0,.slice none 0 0]⟩),(44,⟨.slice 46,1,24,[.slice none 0 0]⟩),(45,⟨.struct [(0,37),(1,38),(2,9),(3,9),(4,43),(9,44),(10,3)],11,160,[.int .i64 0,.int .i64 0,.string ⟨#[]⟩,.string ⟨#[]⟩,.int .i64 0,.int .i64 0,.string ⟨#[]⟩,.slice none 0 0,.slice none 0 0,.slice none 0 0,.int .i64 0]⟩),(46,⟨.struct [(0,37),(1,38),(2,9),(3,9),(4,43),(9,44),(10,3)],11,160,[.int .i64 0,.int .i64 0,.string ⟨#[]⟩,.string ⟨#[]⟩,.int .i64 0,.int .i64 0,.string ⟨#[]⟩,.slice none 0 0,.slice none 0 0,.slice none 0 0,.int .i64 0]⟩),(47,⟨.struct [(0,9),(1,46),(12,3)],13,184,[.string ⟨#[]⟩,.int .i64 0,.int .i64 0,.string ⟨#[]⟩,.string ⟨#[]⟩,.int .i64 0,.int .i64 0,.string ⟨#[]⟩,.slice none 0 0,.slice none 0 0,.slice none 0 0,.int .i64 0,.int .i64 0]⟩),(48,⟨.struct [(0,9),(1,46),(12,3)],13,184,[.string ⟨#[]⟩,.int .i64 0,.int .i64 0,.string ⟨#[]⟩,.string ⟨#[]⟩,.int .i64 0,.int .i64 0,.string ⟨#[]⟩,.slice none 0 0,.slice none 0 0,.slice none 0 0,.int .i64 0,.int .i64 0]⟩),(57,⟨.struct [(0,9),(1,41),(2,26),(4,3)],5,96,[.string ⟨#[]⟩,.slice none 0 0,.slice none 0 0,.slice none 0 0,.int .i64 0]⟩),(58,⟨.struct [(0,9),(1,41),(2,26),(4,3)],5,96,[.string ⟨#[]⟩,.slice none 0 0,.slice none 0 0,.slice none 0 0,.int .i64 0]⟩),(62,⟨.slice 72,1,24,[.slice none 0 0]⟩),(65,⟨.ptr 67,1,8,[.pointer none]⟩),(66,⟨.struct [(0,62),(1,3),(2,29)],5,64,[.slice none 0 0,.int .i64 0,.int .i64 0,.int .i64 0,.string ⟨#[]⟩]⟩),(67,⟨.struct [(0,62),(1,3),(2,29)],5,64,[.slice none 0 0,.int .i64 0,.int .i64 0,.int .i64 0,.string ⟨#[]⟩]⟩),(70,⟨.int .i64,1,8,[.int .i64 0]⟩),(71,⟨.struct [(0,70),(1,9),(2,3)],3,32,[.int .i64 0,.string ⟨#[]⟩,.int .i64 0]⟩),(72,⟨.struct [(0,70),(1,9),(2,3)],3,32,[.int .i64 0,.string ⟨#[]⟩,.int .i64 0]⟩),(88,⟨.ptr 92,1,8,[.pointer none]⟩),(90,⟨.array 256 5,256,256,List.replicate 256 (.int .u8 0)⟩),(92,⟨.struct [(0,9),(1,3),(2,90),(258,3),(259,29)],262,320,[.string ⟨#[]⟩,.int .i64 0]++List.replicate 256 (.int .u8 0)++[.int .i64 0,.int .i64 0,.int .i64 0,.string ⟨#[]⟩]⟩),(96,⟨.ptr 26,1,8,[.pointer none]⟩),(139,⟨.ptr 141,1,8,[.pointer none]⟩),(140,⟨.struct [(0,62),(1,3),(2,3),(3,29)],6,72,[.slice none 0 0,.int .i64 0,.int .i64 0,.int .i64 0,.int .i64 0,.string ⟨#[]⟩]⟩),(141,⟨.struct [(0,62),(1,3),(2,3),(3,29)],6,72,[.slice none 0 0,.int .i64 0,.int .i64 0,.int .i64 0,.int .i64 0,.string ⟨#[]⟩]⟩),(148,⟨.map 9 4,1,8,[.map none]⟩),(155,⟨.array 7 9,7,112,[.string ⟨#[]⟩,.string ⟨#[]⟩,.string ⟨#[]⟩,.string ⟨#[]⟩,.string ⟨#[]⟩,.string ⟨#[]⟩,.string ⟨#[]⟩]⟩),(165,⟨.ptr 167,1,8,[.pointer none]⟩),(166,⟨.struct [(0,3)],1,8,[.int .i64 0]⟩),(167,⟨.struct [(0,3)],1,8,[.int .i64 0]⟩),(170,⟨.struct [(0,5),(1,5)],2,2,[.int .u8 0,.int .u8 0]⟩),(171,⟨.struct [(0,5),(1,5)],2,2,[.int .u8 0,.int .u8 0]⟩),(172,⟨.array 16 171,32,32,[.int .u8 0,.int .u8 0,.int .u8 0,.int .u8 0,.int .u8 0,.int .u8 0,.int .u8 0,.int .u8 0,.int .u8 0,.int .u8 0,.int .u8 0,.int .u8 0,.int .u8 0,.int .u8 0,.int .u8 0,.int .u8 0,.int .u8 0,.int .u8 0,.int .u8 0,.int .u8 0,.int .u8 0,.int .u8 0,.int .u8 0,.int .u8 0,.int .u8 0,.int .u8 0,.int .u8 0,.int .u8 0,.int .u8 0,.int .u8 0,.int .u8 0,.int .u8 0]⟩),(173,⟨.int .u64,1,8,[.int .u64 0]⟩),(177,⟨.ptr 179,1,8,[.pointer none]⟩),(178,⟨.struct [(0,62),(1,3),(2,3),(3,3),(4,29)],7,80,[.slice none 0 0,.int .i64 0,.int .i64 0,.int .i64 0,.int .i64 0,.int .i64 0,.string ⟨#[]⟩]⟩),(179,⟨.struct [(0,62),(1,3),(2,3),(3,3),(4,29)],7,80,[.slice none 0 0,.int .i64 0,.int .i64 0,.int .i64 0,.int .i64 0,.int .i64 0,.string ⟨#[]⟩]⟩),(181,⟨.ptr 184,1,8,[.pointer none]⟩),(182,⟨.slice 5,1,24,[.slice none 0 0]⟩),(183,⟨.struct [(0,181),(1,182)],2,32,[.pointer none,.slice none 0 0]⟩),(184,⟨.struct [(0,181),(1,182)],2,32,[.pointer none,.slice none 0 0]⟩),(187,⟨.iface,1,16,[.nilIface]⟩),(188,⟨.iface,1,16,[.nilIface]⟩),(194,⟨.int .u64,1,8,[.int .u64 0]⟩),(201,⟨.ptr 5,1,8,[.pointer none]⟩),(204,⟨.int .u32,1,4,[.int .u32 0]⟩),(222,⟨.other,1,8,[.nilFunc]⟩),(223,⟨.array 13 9,13,208,[.string ⟨#[]⟩,.string ⟨#[]⟩,.string ⟨#[]⟩,.string ⟨#[]⟩,.string ⟨#[]⟩,.string ⟨#[]⟩,.string ⟨#[]⟩,.string ⟨#[]⟩,.string ⟨#[]⟩,.string ⟨#[]⟩,.string ⟨#[]⟩,.string ⟨#[]⟩,.string ⟨#[]⟩]⟩),(241,⟨.ptr 243,1,8,[.pointer none]⟩),(242,⟨.struct [(0,9),(1,3),(2,3),(3,3),(4,9),(5,44),(6,4)],7,88,[.string ⟨#[]⟩,.int .i64 0,.int .i64 0,.int .i64 0,.string ⟨#[]⟩,.slice none 0 0,.bool false]⟩),(243,⟨.struct [(0,9),(1,3),(2,3),(3,3),(4,9),(5,44),(6,4)],7,88,[.string ⟨#[]⟩,.int .i64 0,.int .i64 0,.int .i64 0,.string ⟨#[]⟩,.slice none 0 0,.bool false]⟩),(245,⟨.int .i64,1,8,[.int .i64 0]⟩),(248,⟨.ptr 253,1,8,[.pointer none]⟩),(252,⟨.struct [(0,9),(1,9),(2,188)],3,48,[.string ⟨#[]⟩,.string ⟨#[]⟩,.nilIface]⟩),(253,⟨.struct [(0,9),(1,9),(2,188)],3,48,[.string ⟨#[]⟩,.string ⟨#[]⟩,.nilIface]⟩),(255,⟨.ptr 257,1,8,[.pointer none]⟩),(256,⟨.struct [(0,9)],1,16,[.string ⟨#[]⟩]⟩),(257,⟨.struct [(0,9)],1,16,[.string ⟨#[]⟩]⟩),(260,⟨.array 24 5,24,24,[.int .u8 0,.int .u8 0,.int .u8 0,.int .u8 0,.int .u8 0,.int .u8 0,.int .u8 0,.int .u8 0,.int .u8 0,.int .u8 0,.int .u8 0,.int .u8 0,.int .u8 0,.int .u8 0,.int .u8 0,.int .u8 0,.int .u8 0,.int .u8 0,.int .u8 0,.int .u8 0,.int .u8 0,.int .u8 0,.int .u8 0,.int .u8 0]⟩),(266,⟨.array 20 194,20,160,[.int .u64 0,.int .u64 0,.int .u64 0,.int .u64 0,.int .u64 0,.int .u64 0,.int .u64 0,.int .u64 0,.int .u64 0,.int .u64 0,.int .u64 0,.int .u64 0,.int .u64 0,.int .u64 0,.int .u64 0,.int .u64 0,.int .u64 0,.int .u64 0,.int .u64 0,.int .u64 0]⟩),(270,⟨.array 32 5,32,32,[.int .u8 0,.int .u8 0,.int .u8 0,.int .u8 0,.int .u8 0,.int .u8 0,.int .u8 0,.int .u8 0,.int .u8 0,.int .u8 0,.int .u8 0,.int .u8 0,.int .u8 0,.int .u8 0,.int .u8 0,.int .u8 0,.int .u8 0,.int .u8 0,.int .u8 0,.int .u8 0,.int .u8 0,.int .u8 0,.int .u8 0,.int .u8 0,.int .u8 0,.int .u8 0,.int .u8 0,.int .u8 0,.int .u8 0,.int .u8 0,.int .u8 0,.int .u8 0]⟩),(272,⟨.struct [(0,17),(1,17),(2,17),(3,9)],4,40,[.pointer none,.pointer none,.pointer none,.string ⟨#[]⟩]⟩),(273,⟨.struct [(0,17),(1,17),(2,17),(3,9)],4,40,[.pointer none,.pointer none,.pointer none,.string ⟨#[]⟩]⟩),(274,⟨.array 0 16,0,0,[]⟩),(275,⟨.struct [(0,274)],0,0,[]⟩),(276,⟨.struct [(0,274)],0,0,[]⟩),(277,⟨.int .u8,1,1,[.int .u8 0]⟩),(278,⟨.int .u8,1,1,[.int .u8 0]⟩),(280,⟨.int .i32,1,4,[.int .i32 0]⟩),(281,⟨.int .i32,1,4,[.int .i32 0]⟩),(282,⟨.struct [(0,12),(1,12),(2,204),(3,277),(4,5),(5,5),(6,278),(7,279),(8,201),(9,280),(10,281)],11,48,[.int .u64 0,.int .u64 0,.int .u32 0,.int .u8 0,.int .u8 0,.int .u8 0,.int .u8 0,.nilFunc,.pointer none,.int .i32 0,.int .i32 0]⟩),(283,⟨.struct [(0,12),(1,12),(2,204),(3,277),(4,5),(5,5),(6,278),(7,279),(8,201),(9,280),(10,281)],11,48,[.int .u64 0,.int .u64 0,.int .u32 0,.int .u8 0,.int .u8 0,.int .u8 0,.int .u8 0,.nilFunc,.pointer none,.int .i32 0,.int .i32 0]⟩)]
theorem good:dD Tryz.prog tt:=by
 unfold tt;simp only [dD];refine ⟨?_,?_,?_,?_,?_,?_,?_,?_,?_,?_,?_,?_,?_,?_,?_,?_,?_,?_,?_,?_,?_,?_,?_,?_,?_,?_,?_,?_,?_,?_,?_,?_,?_,?_,?_,?_,?_,?_,?_,?_,?_,?_,?_,?_,?_,?_,?_,?_,?_,?_,?_,?_,?_,?_,?_,?_,?_,?_,?_,?_,?_,?_,?_,?_,?_,?_,?_,?_,?_,?_,?_,?_,?_,?_,?_,?_,?_,?_,?_,?_,?_,?_,?_,?_,?_,?_,?_,?_,?_,?_,?_,?_,?_,?_,?_,?_,?_,?_,?_,?_,?_,?_,trivial⟩
 all_goals exact ⟨by kernel_rfl,by kernel_rfl⟩
end Go.Ab
end
section
namespace Go.Ab
def cZ (k:IntKind)(a b:Int):Int:=k.wrap ((BitVec.ofInt k.bits a &&& BitVec.ofInt k.bits b).toNat:Nat)
def iOr (k:IntKind)(a b:Int):Int:=k.wrap ((BitVec.ofInt k.bits a ||| BitVec.ofInt k.bits b).toNat:Nat)
def iXor (k:IntKind)(a b:Int):Int:=k.wrap ((BitVec.ofInt k.bits a ^^^ BitVec.ofInt k.bits b).toNat:Nat)
def yY (k:IntKind)(a b:Int):Int:=k.wrap ((BitVec.ofInt k.bits a &&& ~~~(BitVec.ofInt k.bits b)).toNat:Nat)
def BQ (k:IntKind):BinOp->Int->Int->Option Int|.and,a,b=>some (cZ k a b)|.or,a,b=>some (iOr k a b)|.xor,a,b=>some (iXor k a b)|.andNot,a,b=>some (yY k a b)|_,_,_=>none
def ky (k:IntKind)(a b:Int):Int:=k.wrap (a*2^(min b.toNat k.bits))
def iH (k:IntKind)(a b:Int):Int:=a.fdiv (2^(min b.toNat k.bits))
def shI (k:IntKind):BinOp->Int->Int->Option Int|.shl,a,b=>some (ky k a b)|.shr,a,b=>some (iH k a b)|_,_,_=>none
theorem zA {P:Program}{w:World}{op:BinOp}{t:TypeId}{k:IntKind}{a b c:Int}(h:BQ k op a b=some c) :
  (binOp op t (.int k a) (.int k b)).run P w=.ok (.int k c) w:=by
 cases op <;> simp only [BQ,bt,reduceCtorEq] at h <;> subst h <;> simp [binOp,Op.intBits,cZ,iOr,iXor,yY]
theorem Bm {P:Program}{w:World}{op:BinOp}{t:TypeId}{k k':IntKind}{a b c:Int}(hb:0<=b)(h:shI k op a b=some c) :
  (binOp op t (.int k a) (.int k' b)).run P w=.ok (.int k c) w:=by
 have hb':¬ b<0:=by omega
 cases op <;> simp only [shI,bt,reduceCtorEq] at h <;> subst h <;> simp [binOp,Op.shift,hb',ky,iH]
section
variable {C:Cx} {o:Oper} {K:AS->Prop} {sl:List (Nat×AV)} {ob:List (Nat×List AV)} {d:Nat}
theorem Da {op:BinOp}{t t':TypeId}{x y:Operand}{k:IntKind}{a b c:Int}(ho:o.op=.binOp op t x y t')(hd:o.dst=some d)(hn:Nat.blt d C.n=true)
  (hx:evo sl x=some (.p (.val (.int k a)))) (hy:evo sl y=some (.p (.val (.int k b)))) (hc:BQ k op a b=some c)
  (hK:K ⟨(d,.p (.val (.int k c)))::sl,ob⟩):ba C o K ⟨sl,ob⟩ :=
 ok_one hd hn (λ g a w hs=>⟨_,by
  simp only [execOp,ho,ce hs hx,ce hs hy,Sem.run_bind,lB,Result.andThen_ok,zA hc,Sem.run_pure],.p (.val _)⟩) hK
theorem oO {op:BinOp}{t t':TypeId}{x y:Operand}{k k':IntKind}{a b c:Int}(ho:o.op=.binOp op t x y t')(hd:o.dst=some d)(hn:Nat.blt d C.n=true)
  (hx:evo sl x=some (.p (.val (.int k a)))) (hy:evo sl y=some (.p (.val (.int k' b)))) (hc:shI k op a b=some c) (hb:0<=b)
  (hK:K ⟨(d,.p (.val (.int k c)))::sl,ob⟩):ba C o K ⟨sl,ob⟩ :=
 ok_one hd hn (λ g a w hs=>⟨_,by
  simp only [execOp,ho,ce hs hx,ce hs hy,Sem.run_bind,lB,Result.andThen_ok,Bm hb hc,Sem.run_pure],.p (.val _)⟩) hK
end
def eqC:Option PV->Option PV->Prop|some (.val (.int _ a)),some (.val (.int _ b))=>a=b|some (.val (.bool a)),some (.val (.bool b))=>a=b|some (.val (.string a)),some (.val (.string b))=>a.data.toList=b.data.toList|_,_=>False
def eqF (cs ds:List PV):List (Nat×Nat)->Prop|[]=>True|[f]=>eqC cs[f.1]? ds[f.1]?|f::g::r=>eqC cs[f.1]? ds[f.1]?/\eqF cs ds (g::r)
def xT (k:Option TI)(x y:Option PV):Bool:=match k,x,y with
 | some ⟨.int q,_,_,_⟩,some (.val (.int k _)),some (.val (.int k' _))=>(q==k)&&(q==k')
 | some ⟨.bool,_,_,_⟩,some (.val (.bool _)),some (.val (.bool _))=>true
 | some ⟨.string,_,_,_⟩,some (.val (.string _)),some (.val (.string _))=>true
 | _,_,_=>false
def vO (tt:List (Nat×TI))(cs ds:List PV):List (Nat×Nat)->Bool|[]=>true|f::r=>xT (look tt f.2) cs[f.1]? ds[f.1]?&&vO tt cs ds r
def sZ:List Field->Bool
 | []=>true
 | f::r=>f.name != "_" && sZ r
def eqOk (P:Program)(t:TypeId):Bool:=sZ (P.fieldsOf t).toList&&!P.stoodInHeld t&&!P.eqGuardType P.depth t
theorem nO {P:Program}{tt:List (Nat×TI)}(good:dD P tt){t:Nat}{i:TI}(h:look tt t=some i)(ha:i.k.isAgg=false){cs:Array Value}{off:Nat}{v:Value}(hv:cs[off]? = some v)(w:World) :
  (part t cs off).run P w=.ok v w:=by
 simp [part,ma good h,ha,hv]
theorem md {w:World}{st:Nat->Nat->Prop}{cs:List PV}{vs:Array Value}(h:PRep w st (.agg cs) (.agg vs)){j:Nat}{u:Value}(hc:cs[j]? = some (.val u)):vs[j]? = some u:=by
 cases h with
 | agg hl h=>
  have hj:j<vs.size:=by
   rw [hl];exact (List.getElem?_eq_some_iff.1 hc).1
  have h1:=h j _ _ hc (Array.getElem?_eq_getElem hj)
  cases h1
  exact Array.getElem?_eq_getElem hj
theorem wE {P:Program}{tt:List (Nat×TI)}(good:dD P tt){w:World}{st:Nat->Nat->Prop}{cs ds:List PV}{xs ys:Array Value}(hx:PRep w st (.agg cs) (.agg xs))(hy:PRep w st (.agg ds) (.agg ys)){t off:Nat}
  (h:xT (look tt t) cs[off]? ds[off]? = true) (d:Nat):∃ a b r,(part t xs off).run P w=.ok a w/\(part t ys off).run P w=.ok b w/\(Op.equalIn (d+1) t a b).run P w=.ok r w/\(r=true↔eqC cs[off]? ds[off]?):=by
 unfold xT at h;split at h
 ·rename_i q s z l k u k' u' hl hc hd;simp only [ph,beq_iff_eq] at h;obtain ⟨rfl,rfl⟩:=h;obtain ⟨ud,h1,h2⟩:=bF good hl;have h3:=mL h2;subst h3;refine ⟨_,_,_,nO good hl rfl (md hx hc) w,nO good hl rfl (md hy hd) w,run_equalIn_int w d t _ _ u u' h1,?_⟩;rw [hc,hd];exact beq_iff_eq
 ·rename_i s z l u u' hl hc hd;obtain ⟨ud,h1,h2⟩:=bF good hl;have h3:=pU h2;subst h3;refine ⟨_,_,_,nO good hl rfl (md hx hc) w,nO good hl rfl (md hy hd) w,run_equalIn_bool' w d t u u' h1,?_⟩;rw [hc,hd];exact beq_iff_eq
 ·rename_i s z l u u' hl hc hd;obtain ⟨ud,h1,h2⟩:=bF good hl;have h3:=gD h2;subst h3;refine ⟨_,_,_,nO good hl rfl (md hx hc) w,nO good hl rfl (md hy hd) w,run_equalIn_string w d t u u' h1,?_⟩;rw [hc,hd];simp only [eqC,beq_iff_eq,ByteArray.toList_eq]
 ·cases h
theorem yX {P:Program}{tt:List (Nat×TI)}(good:dD P tt){w:World}{st:Nat->Nat->Prop}{cs ds:List PV}{xs ys:Array Value}(hx:PRep w st (.agg cs) (.agg xs))(hy:PRep w st (.agg ds) (.agg ys))(d:Nat) :
  ∀ fs:List Field,sZ fs=true->vO tt cs ds (fs.map λ f=>(f.offset,f.type))=true ->
   ∃ r,(Op.eqFields (d+1) xs ys fs).run P w=.ok r w/\(r=true↔eqF cs ds (fs.map λ f=>(f.offset,f.type)))
 | [],_,_=>⟨true,Z,by simp [eqF]⟩
 | f::r,hn,hp=>by
  simp only [sZ,ph,bne_iff_ne,ne_eq] at hn;simp only [aq,vO,ph] at hp;obtain ⟨a,b,r1,e1,e2,e3,e4⟩:=wE good hx hy hp.1 d;obtain ⟨r2,e5,e6⟩:=yX good hx hy d r hn.2 hp.2
  cases r1 with
  | false=>
   refine ⟨false,by simp [Op.eqFields,hn.1,e1,e2,e3],?_⟩;have:¬ eqC cs[f.offset]? ds[f.offset]?:=λ h=>by cases e4.2 h
   cases r with
   | nil=>simpa [eqF] using this
   | cons g r=>simp [eqF,this]
  | true=>
   refine ⟨r2,by simp [Op.eqFields,hn.1,e1,e2,e3,e5],?_⟩;rw [e6];have:=e4.1 Z
   cases r with
   | nil=>simpa [eqF] using this
   | cons g r=>simp [eqF,this]
theorem xE {C:Cx}{o:Oper}{K:AS->Prop}{sl:List (Nat×AV)}{ob:List (Nat×List AV)}{d:Nat}{op:BinOp}{t t':TypeId}{x y:Operand}{cs ds:List PV}{i:TI}{fs:List (Nat×Nat)}{r:Bool}(p:Prop) [Decidable p]
  (ho:o.op=.binOp op t x y t') (hd:o.dst=some d) (hn:Nat.blt d C.n=true) (hi:look C.tt t=some i) (EP:i.k=.struct fs) (hx:evo sl x=some (.p (.agg cs))) (hy:evo sl y=some (.p (.agg ds)))
  (hok:eqOk C.P t=true) (hpl:vO C.tt cs ds fs=true) (hp:p=eqF cs ds fs) (hop:op=.eql/\r=decide p\/op=.neq/\r=!decide p)
  (hK:K ⟨(d,.p (.val (.bool r)))::sl,ob⟩):ba C o K ⟨sl,ob⟩:=by
 subst hp;obtain ⟨u,h1,h2⟩:=bF C.good hi;obtain ⟨fa,rfl,h3⟩:=ip (h2.trans EP);have hfo:C.P.fieldsOf t=fa:=by unfold Program.fieldsOf; rw [h1]
 simp only [eqOk,ph,Bool.not_eq_true',hfo] at hok;refine ok_one hd hn (λ g a w hs=>?_) hK;have hxr:=bu hs hx;have hyr:=bu hs hy
 cases hxr with
 | p hxr=>
  cases hyr with
  | p hyr=>
   generalize hxv:a.eval x=vx at hxr;generalize hyv:a.eval y=vy at hyr
   cases hxr with
   | @agg _ xs hl1 hh1=>
    cases hyr with
    | @agg _ ys hl2 hh2=>
     obtain ⟨rr,e1,e2⟩:=yX C.good (.agg hl1 hh1) (.agg hl2 hh2) 9998 fa.toList hok.1.1 (by rw [h3]; exact hpl);rw [h3] at e2;have e3:=run_equalIn_struct w 9999 t xs ys (by rw [hfo]; exact h1) hok.1.2;rw [hfo] at e3
     have hrr:rr=decide (eqF cs ds fs):=by
      cases rr with
      | true=>exact (decide_eq_true (e2.1 Z)).symm
      | false=>exact (decide_eq_false (λ h=>by cases e2.2 h)).symm
     rcases hop with ⟨rfl,rfl⟩|⟨rfl,rfl⟩
     ·refine ⟨_,?_,.p (.val _)⟩;simp only [execOp,ho,hxv,hyv,Sem.run_bind,run_eqGuard_agg w _ t x y xs ys hok.2,Result.andThen_ok,run_eql_struct,e3,e1,Sem.run_pure,hrr]
     ·refine ⟨_,?_,.p (.val _)⟩;simp only [execOp,ho,hxv,hyv,Sem.run_bind,run_eqGuard_agg w _ t x y xs ys hok.2,Result.andThen_ok,run_neq_struct,e3,e1,Sem.run_pure,hrr]
theorem zc {q:Prop}{b:Bool}(h1:b=true->q)(h2:b=false->q):q:=by cases b with|true=>exact h1 rfl|false=>exact h2 rfl
def eU (b:UInt8):PV:=.val (.int .u8 (b.toNat:Int))
def u8 (n:Int):UInt8:=UInt8.ofNat n.toNat
theorem qd {n:Int}(h:(0:Int)<=n/\n<256):eK .u8 n=eU (u8 n):=by
 unfold eK eU u8
 have:(((UInt8.ofNat n.toNat).toNat:Nat):Int)=n:=by
  rw [UInt8.toNat_ofNat',Nat.mod_eq_of_lt O]; omega
 rw [this]
section
variable {C:Cx} {o:Oper} {K:AS->Prop} {sl:List (Nat×AV)} {ob:List (Nat×List AV)} {d:Nat}
def eE (b:Bool):PV:=bif b then .ifc else .val .nilIface
theorem DV (b:Bool):AV.toPV (.p (eE b))=some (eE b):=by cases b <;> rfl
theorem xC:AV.settle.go []=some []:=rfl
theorem rZ {x:AV}{y:PV}{r l:List AV}(h:x.toPV=some y)(h':AV.settle.go r=some l):AV.settle.go (x::r)=some (.p y::l):=by simp only [AV.settle.go,h,h']
theorem zW {l l':List AV}(h:AV.settle.go l=some l'):AV.settle (.tuple l)=some (.tuple l'):=by simp only [AV.settle,h]
theorem yB {u:TypeDesc}(h:kindOf u=.iface):∃ ms,u=.interface ms:=by cases u <;> simp [kindOf] at h; exact ⟨_,rfl⟩
theorem rF {P:Program}{t:TypeId}{ms:Array (String×TypeId)}(h:P.underlying t=some (.interface ms))(w:World):(Op.equal t .nilIface .nilIface).run P w=.ok true w:=by
 have:∀ d,(Op.equalIn (d+1) t .nilIface .nilIface).run P w=.ok true w:=λ d=>by simp [Op.equalIn,run_underlying h]
 exact this 9999
theorem rP {P:Program}{t:TypeId}{ms:Array (String×TypeId)}(h:P.underlying t=some (.interface ms))(w:World)(t':TypeId)(v:Value):(Op.equal t (.iface t' v) .nilIface).run P w=.ok false w:=by
 have:∀ d,(Op.equalIn (d+1) t (.iface t' v) .nilIface).run P w=.ok false w:=λ d=>by simp [Op.equalIn,run_underlying h]
 exact this 9999
theorem Dr {op:BinOp}{t t':TypeId}{x:Operand}{b c:Bool}{i:TI}(ho:o.op=.binOp op t x (.const .nilIface) t')(hd:o.dst=some d)(hn:Nat.blt d C.n=true)
  (hi:look C.tt t=some i) (EP:i.k=.iface)
  (hx:evo sl x=some (.p (eE b))) (hc:(op=.eql/\c=!b)\/(op=.neq/\c=b))
  (hK:K ⟨(d,.p (eB c))::sl,ob⟩):ba C o K ⟨sl,ob⟩:=by
 obtain ⟨u,h1,h2⟩:=bF C.good hi;obtain ⟨ms,rfl⟩:=yB (h2.trans EP);refine ok_one hd hn (λ g a w hs=>⟨.bool c,?_,.p (.val _)⟩) hK;have hr:=bu hs hx;generalize hv:a.eval x=v at hr;have hcn:a.eval (.const .nilIface)=.nilIface:=rfl
 cases b with
 | true=>
  cases hr with
  | p h=>
   cases h with
   | ifc t2 v2=>rcases hc with ⟨rfl,rfl⟩|⟨rfl,rfl⟩ <;> simp [execOp,ho,hv,hcn,eqGuard,binOp,rP h1]
 | false=>
  cases hr with
  | p h=>
   cases h with
   | val=>rcases hc with ⟨rfl,rfl⟩|⟨rfl,rfl⟩ <;> simp [execOp,ho,hv,hcn,eqGuard,binOp,rF h1]
theorem A5 {st dt:TypeId}{x:Operand}{k k':IntKind}{a:Int}{i j:TI}(ho:o.op=.convert st dt x)(hd:o.dst=some d)(hn:Nat.blt d C.n=true)
  (hi:look C.tt st=some i) (EP:i.k=.int k') (hj:look C.tt dt=some j) (hjk:j.k=.int k) (hx:evo sl x=some (.p (.val (.int k' a))))
  (hK:K ⟨(d,.p (.val (.int k (k.wrap a))))::sl,ob⟩):ba C o K ⟨sl,ob⟩:=by
 obtain ⟨u,h1,h2⟩:=bF C.good hj;have h3:=mL (h2.trans hjk);obtain ⟨u',h1',h2'⟩:=bF C.good hi;have h3':=mL (h2'.trans EP);subst h3 h3';exact ok_one hd hn (λ g b w hs=>⟨_,by simp [execOp,ho,ce hs hx,convert,run_underlying h1,run_underlying h1',Conv.intToInt],.p (.val _)⟩) hK
end
theorem qB {u:TypeDesc}{n e:Nat}(h:kindOf u=.array n e):u=.array n e:=by cases u <;> simp [kindOf] at h; obtain ⟨rfl,rfl⟩:=h; rfl
section
variable {C:Cx} {o:Oper} {K:AS->Prop} {sl:List (Nat×AV)} {ob:List (Nat×List AV)} {d:Nat}
theorem xc {t m e:Nat}{parts:Array (Nat×Operand)}{i ie:TI}{ps:List (Nat×AV)}{cs:List AV}{y:AV}(ho:o.op=.build t parts)(hd:o.dst=some d)(hn:Nat.blt d C.n=true)
  (hi:look C.tt t=some i) (EP:i.k=.array m e) (hie:look C.tt e=some ie) (hps:fZ sl parts.toList=some ps) (hf:sb (λ (k:Nat)=>some (k*ie.size,ie.size)) (fj i) ps=some cs) (hy:some (lM cs)=some y)
  (hK:K ⟨(d,y)::sl,ob⟩):ba C o K ⟨sl,ob⟩:=by
 cases hy
 obtain ⟨u,h1,h2⟩:=bF C.good hi;have h3:=qB (h2.trans EP);subst h3;refine ok_one hd hn (λ g a w hs=>?_) hK;obtain ⟨z,hz1,hz2⟩:=jX C.good hi w;obtain ⟨q1,q2⟩:=pn hs _ ps hps
 obtain ⟨c',f1,f2,f3⟩:=ry (place:=λ (k:Nat)=>some (k*ie.size,ie.size)) ps (parts.toList.map λ p=>(p.1,a.eval p.2)) (fj i) cs z.cells q1 q2 (by simp [fj,<- hz2]) (λ k x v hx hv=>by
  simp only [fj,List.getElem?_map,mv,<- hz2,Array.getElem?_toList] at hx;obtain ⟨u,hu,rfl⟩:=hx;rw [hv] at hu; cases hu
  exact .p (.val _)) hf
 refine ⟨.agg c',?_,pK f2 f3⟩;have e1:(parts.map λ (i,x)=>(i,a.eval x)).toList=parts.toList.map λ p=>(p.1,a.eval p.2):=by rw [Array.toList_map]
 simp only [execOp,ho,Instr.build,Sem.run_bind,hz1,Result.andThen_ok,run_underlying h1,run_sizeOf C.good hie,e1,f1,Sem.run_pure]
theorem gr {t m e:Nat}{x y:Operand}{i ie:TI}{k:IntKind}{n:Int}{id q:Nat}(ho:o.op=.indexAddr t x y)(hd:o.dst=some d)(hn:Nat.blt d C.n=true)
  (hi:look C.tt t=some i) (EP:i.k=.array m e) (hie:look C.tt e=some ie) (hx:evo sl x=some (.ptr id q))
  (hy:evo sl y=some (.p (.val (.int k n)))) (hb:0<=n/\n<m)
  (hK:K ⟨(d,.ptr id (q+n.toNat*ie.size))::sl,ob⟩):ba C o K ⟨sl,ob⟩:=by
 obtain ⟨u,h1,h2⟩:=bF C.good hi;have h3:=qB (h2.trans EP);subst h3;refine ok_one hd hn (λ g a w hs=>?_) hK;have h5:=bu hs hx;generalize hv:a.eval x=v at h5
 cases h5 with
 | ptr how=>
  rename_i b;exact ⟨.pointer (some ⟨b,q+n.toNat*ie.size,none⟩),by simp [execOp,ho,hv,ce hs hy,Instr.indexAt,Instr.sureAddr,asIntOf,run_underlying h1,hb.1,hb.2,run_sizeOf C.good hie,add_lit],.ptr how⟩
theorem dk {t m e:Nat}{x y:Operand}{i ie:TI}{k:IntKind}{n:Int}{id:Nat}(ho:o.op=.indexAddr t x y)(hd:o.dst=some d)(hn:Nat.blt d C.n=true)
  (hi:look C.tt t=some i) (EP:i.k=.array m e) (hie:look C.tt e=some ie) (hs1:ie.size=1) (hx:evo sl x=some (.ptr id 0))
  (hy:evo sl y=some (.p (.val (.int k n)))) (hb:0<=n/\n<m)
  (hK:K ⟨(d,.ptr id n.toNat)::sl,ob⟩):ba C o K ⟨sl,ob⟩ :=
 gr ho hd hn hi EP hie hx hy hb (by rw [hs1,Nat.mul_one,th]; exact hK)
end
theorem bb {c:Int}(h1:-9223372036854775808<=c)(h2:c<=9223372036854775807):inR c:=⟨h1,h2⟩
theorem nk (l:Bk)(k:Nat):byt l (k:Int)=((l.getD k 0).toNat:Int):=rfl
theorem BV {α:Type} [Inhabited α] (l:List α)(k:Nat):lat l (k:Int)=l.getD k default:=rfl
theorem BN {α:Type}(l:List α)(i j:Nat):sub l (i:Int) (j:Int)=(l.take j).drop i:=rfl
theorem Bb {α β:Type}(v:α)(k:α->Option β):jn (some (.inl v)) k=k v:=rfl
theorem AD {α β:Type}(x:β)(k:α->Option β):jn (some (.inr x)) k=some x:=rfl
end Go.Ab
namespace Go.Ab
def Ev2 {α:Type}(f:Nat->Nat->Option α)(P:α->Prop):Prop:=∃ r,P r/\∃ N,∀ n m,N<=n->N<=m->f n m=some r
section
variable {α β γ:Type} {P:α->Prop} {Q:β->Prop}
theorem ak {r:α}(h:P r):Ev2 (λ _ _=>some r) P:=⟨r,h,0,λ _ _ _ _=>rfl⟩
theorem aI {p:Prop} [Decidable p] {f:Nat->Nat->Option α}(hp:p)(h:Ev2 f P):Ev2 (λ n m=>ck p (f n m)) P:=by
 obtain ⟨r,h1,N,h2⟩:=h;exact ⟨r,h1,N,λ n m hn hm=>(gz hp).trans (h2 n m hn hm)⟩
theorem bv {p:Prop} [Decidable p] {f g:Nat->Nat->Option α}(h1:p->Ev2 f P)(h2:¬p->Ev2 g P):Ev2 (λ n m=>if p then f n m else g n m) P:=by
 by_cases h:p
 ·simpa only [if_pos h] using h1 h
 ·simpa only [if_neg h] using h2 h
theorem aS {p:Prop} [Decidable p] {f g:Nat->Nat->Option α}(hp:p)(h:Ev2 f P):Ev2 (λ n m=>if p then f n m else g n m) P:=bv (λ _=>h) (λ k=>absurd hp k)
theorem aR {p:Prop} [Decidable p] {f g:Nat->Nat->Option α}(hp:¬p)(h:Ev2 g P):Ev2 (λ n m=>if p then f n m else g n m) P:=bv (λ k=>absurd k hp) (λ _=>h)
theorem jy {f:Nat->Nat->Option α}{P':α->Prop}(h:Ev2 f P)(hp:∀ r,P r->P' r):Ev2 f P':=by
 obtain ⟨r,h1,h2⟩:=h;exact ⟨r,hp r h1,h2⟩
theorem CW {g:Nat->Nat->Option β}{k:Nat->Nat->β->Option α}(h:Ev2 g (λ x=>Ev2 (λ n m=>k n m x) P)):Ev2 (λ n m=>(g n m).bind (k n m)) P:=by
 obtain ⟨x,⟨r,h1,N,h2⟩,M,h3⟩:=h;exact ⟨r,h1,N+M,λ n m hn hm=>(congrArg (λ o=>Option.bind o (k n m)) (h3 n m O O)).trans (h2 n m O O)⟩
theorem d6 {g:Nat->Nat->Option β}{k:Nat->Nat->β->Option α}(Q:β->Prop)(h:Ev2 g Q)(hk:∀ x,Q x->Ev2 (λ n m=>k n m x) P):Ev2 (λ n m=>(g n m).bind (k n m)) P :=
 CW (jy h hk)
theorem tC {g:Nat->Nat->Option (β⊕α)}{k:Nat->Nat->β->Option α}(h:Ev2 g (λ s=>match s with|.inl x=>Ev2 (λ n m=>k n m x) P|.inr y=>P y)):Ev2 (λ n m=>jn (g n m) (k n m)) P:=by
 obtain ⟨s,h1,M,h3⟩:=h
 cases s with
 | inl x=>
  obtain ⟨r,h1,N,h2⟩:=h1;exact ⟨r,h1,N+M,λ n m hn hm=>(congrArg (λ o=>jn o (k n m)) (h3 n m O O)).trans (h2 n m O O)⟩
 | inr y=>exact ⟨y,h1,M,λ n m hn hm=>(congrArg (λ o=>jn o (k n m)) (h3 n m hn hm)).trans Z⟩
theorem ee {g:Nat->Nat->Option (β⊕α)}{k:Nat->Nat->β->Option α}(x:β)(h:Ev2 g (·=.inl x))(hk:Ev2 (λ n m=>k n m x) P):Ev2 (λ n m=>jn (g n m) (k n m)) P :=
 tC (jy h λ r hr=>by subst hr; exact hk)
theorem jh {g:Nat->Nat->Option (β⊕α)}{k:Nat->Nat->β->Option α}(y:α)(h:Ev2 g (·=.inr y))(hy:P y):Ev2 (λ n m=>jn (g n m) (k n m)) P :=
 tC (jy h λ r hr=>by subst hr; exact hy)
theorem fJ {f:Nat->Option α}(h:Ev2 (λ n _=>f (n+1)) P):Ev2 (λ n _=>f n) P:=by
 obtain ⟨r,h1,N,h2⟩:=h;refine ⟨r,h1,N+1,λ n m hn hm=>?_⟩;obtain ⟨n,rfl⟩:∃ k,n=k+1:=⟨n-1,by omega⟩
 exact h2 n n O O
theorem aJ {f:Nat->Nat->Option α}(h:Ev2 (λ n m=>f n (m+1)) P):Ev2 f P:=by
 obtain ⟨r,h1,N,h2⟩:=h;refine ⟨r,h1,N+1,λ n m hn hm=>?_⟩;obtain ⟨m,rfl⟩:∃ k,m=k+1:=⟨m-1,by omega⟩
 exact h2 n m O O
theorem bN {f:Nat->Nat->Option α}(h:Ev2 f P):Ev2 (λ n _=>f n n) P:=by
 obtain ⟨r,h1,N,h2⟩:=h;exact ⟨r,h1,N,λ n _ hn _=>h2 n n hn hn⟩
theorem vU {f:Nat->Option α}(h:Ev2 (λ n _=>f n) P):∃ n r,f n=some r/\P r:=by
 obtain ⟨r,h1,N,h2⟩:=h;exact ⟨N,r,h2 N N (ld _) (ld _),h1⟩
theorem fC {o:Option α}{r:α}(h:o=some r)(hp:P r):Ev2 (λ _ _=>o) P:=⟨r,hp,0,λ _ _ _ _=>h⟩
end
theorem DK {i:Int}{l:Nat}(h:0<=i/\i<(l:Int)):∃ k:Nat,i=k/\k<l:=⟨i.toNat,by omega,by omega⟩
theorem lw {α:Type} [Inhabited α] (l:List α)(k:Nat)(h:k<l.length):lat l (k:Int)=l[k]:=by
 rw [BV,List.getD_eq_getElem?_getD,List.getElem?_eq_getElem h]; rfl
theorem dX {α:Type} [Inhabited α] {l:List α}{i:Int}(h:0<=i/\i<(l.length:Int)):lat l i∈l:=by
 obtain ⟨k,rfl,hk⟩:=DK h;rw [lw l k hk]; exact List.getElem_mem hk
end Go.Ab
end
