/- Texts of the proof, one behind the other. No statement is proved here. -/
import Derived.OpenShut
import Derived.ChangeArms
import Derived.LaidLaws
import Derived.Shelf.Vars
import Derived.Test.YthnafgjbhlpfgaaGreatDoorChecked
import Derived.Laws.StructEq
import Derived.Laws.IdiomStrings
import Derived.Test.YthnafgjbhlpfgaaGreatDoorZ08Sa
section
namespace Go.Ab
def GC.val:GC->Value|.int k n=>.int k n|.ifc=>.nilIface|.some k=>.int k 0
def zx (P:Program):Nat->TypeId->DataW Unit->List GC->Bool
 | 0,_,_,_=>false
 | n+1,t,d,l=>match P.underlying t,d with
  | some (.int k),.lit (.int k' z)=>match l with
   | [.int k'' z']=>decide (k=k'/\k'=k''/\z=z')
   | _=>false
  | some (.interface _),.iface _ _=>match l with
   | [.ifc]=>true
   | _=>false
  | some (.array m e),.agg ps=>decide (l.length=P.cellsOf t)&&decide (P.cellsOf t=m*P.cellsOf e)&&decide (ps.length=m)&&(List.range m).all λ i=>match ps[i]? with
   | some x=>zx P n e x ((l.drop (i*P.cellsOf e)).take (P.cellsOf e))
   | none=>false
  | some (.struct fs),.agg ps=>decide (l.length=P.cellsOf t)&&decide (ps.length=fs.size)&&((List.range fs.size).all λ i=>match fs[i]?,ps[i]? with
   | some f,some x=>zx P n f.type x ((l.drop f.offset).take (P.cellsOf f.type))
   | _,_=>false)&&(List.range l.length).all λ j=>(List.range fs.size).any λ i=>match fs[i]? with
   | some f=>decide (f.offset<=j)&&decide (j<f.offset+P.cellsOf f.type)
   | none=>false
  | _,_=>false
def GC.has:GC->Value->Prop|.int k n,v=>v=.int k n|.ifc,v=>∃ t u,v=.iface t u|.some k,v=>∃ m,v=.int k m
theorem GC.rep {c:GC}{v:Value}(h:c.has v)(w:World)(st:Nat->Nat->Prop):PRep w st c.pv v:=by
 cases c with
 | int k n=>cases h; exact .val _
 | ifc=>obtain ⟨t,u,rfl⟩:=h; exact .ifc t u
 | some k=>obtain ⟨m,rfl⟩:=h; exact .aint k m
theorem oz {α:Type}{l:List α}{a s r:Nat}(hr:r<s):((l.drop a).take s)[r]? = l[a+r]?:=by
 rw [List.getElem?_take_of_lt hr,List.getElem?_drop]
theorem zS {P:Program}{w:World}{base:Nat}{sp:Nat->Bool}:∀ (n fuel:Nat) (t:TypeId) (d:DataW Unit) (l:List GC) (cs:List Value) (p:List MemPlace),zx P n t d l=true ->
  DataW.trod (λ _=>()) P w base sp false fuel t cs=some (d,p)->cs.length=l.length/\∀ (j:Nat) c v,l[j]? = some c->cs[j]? = some v->c.has v:=by
 intro n
 induction n with
 | zero=>intro _ _ _ _ _ _ h; cases h
 | succ n ih=>
  intro fuel t d l cs p h ht;unfold zx at h;split at h
  ·rename_i k k' z hu;split at h
   ·obtain ⟨rfl,rfl,rfl⟩:=of_decide_eq_true h;obtain ⟨m,rfl,hx,_⟩:=DataW.trod_int hu ht;simp only [Prod.mk.injEq,DataW.lit.injEq,Lit.int.injEq] at hx;obtain ⟨⟨_,rfl⟩,_⟩:=hx;refine ⟨rfl,λ j c v h1 h2=>?_⟩
    cases j with
    | zero=>cases h1; cases h2; rfl
    | succ j=>cases h1
   ·cases h
  ·rename_i ms nm x hu;split at h
   ·cases fuel with
    | zero=>simp [DataW.trod] at ht
    | succ m=>
     unfold DataW.trod at ht;rw [hu] at ht;split at ht <;> simp_all;refine λ j c v h1 h2=>?_
     cases j with
     | zero=>simp at h1 h2; subst h1 h2; exact ⟨_,_,rfl⟩
     | succ j=>simp at h1
   ·cases h
  ·rename_i m e ps hu;simp only [n7,decide_eq_true_eq] at h;obtain ⟨⟨⟨h1,h2⟩,h3⟩,h4⟩:=h;obtain ⟨xs,f,rfl,hx,hl,hxl,hall⟩:=DataW.trod_array hu ht;simp only [Prod.mk.injEq,DataW.agg.injEq] at hx;obtain ⟨rfl,_⟩:=hx;refine ⟨hl.trans h1.symm,λ j c v hc hv=>?_⟩
   have hj:j<m*P.cellsOf e:=by
    rw [<- h2,<- h1]; exact (List.getElem?_eq_some_iff.1 hc).1
   have hs:0<P.cellsOf e:=Nat.pos_of_ne_zero λ e0=>by rw [e0] at hj; omega
   have hi:j / P.cellsOf e<m:=Nat.div_lt_of_lt_mul (by rwa [Nat.mul_comm]);have hr:j%P.cellsOf e<P.cellsOf e:=Nat.mod_lt _ hs;have ej:j / P.cellsOf e*P.cellsOf e+j%P.cellsOf e=j:=by rw [Nat.mul_comm]; exact Nat.div_add_mod _ _
   have hk:=qr.1 h4 (j / P.cellsOf e) (List.mem_range.2 hi);split at hk
   ·rename_i x hx;rw [List.getElem?_map] at hx;obtain ⟨y,hy,rfl⟩:=ld.1 hx;have hy':=hall _ hi;rw [hy] at hy';have:=(ih f e y.1 _ _ y.2 hk (by rw [hy'])).2 (j%P.cellsOf e) c v (by rw [oz hr,ej]; exact hc) (by rw [oz hr,ej]; exact hv);exact this
   ·cases hk
  ·rename_i fs ps hu;simp only [n7,decide_eq_true_eq] at h;obtain ⟨⟨⟨h1,h3⟩,h4⟩,h5⟩:=h;obtain ⟨xs,f,rfl,hx,hl,hxl,hall⟩:=DataW.trod_struct hu ht;simp only [Prod.mk.injEq,DataW.agg.injEq] at hx;obtain ⟨rfl,_⟩:=hx;refine ⟨hl.trans h1.symm,λ j c v hc hv=>?_⟩;have hj:j<l.length:=(List.getElem?_eq_some_iff.1 hc).1;obtain ⟨i,hi,hin⟩:=List.any_eq_true.1 (qr.1 h5 j (List.mem_range.2 hj));have hk:=qr.1 h4 i hi;split at hin
   ·rename_i fd hfd;simp only [n7,decide_eq_true_eq] at hin;rw [hfd] at hk;split at hk
    ·rename_i f' x e1 hx
     cases e1
     rw [List.getElem?_map] at hx;obtain ⟨y,hy,rfl⟩:=ld.1 hx;have hy':=hall _ _ hfd;rw [hy] at hy';have ej:fd.offset+(j-fd.offset)=j:=by omega
     exact (ih f fd.type y.1 _ _ y.2 hk (by rw [hy'])).2 (j-fd.offset) c v (by rw [oz O,ej]; exact hc) (by rw [oz O,ej]; exact hv)
    ·cases hk
   ·cases hin
  ·cases h
theorem pX {P:Program}{w:World}:∀ {l:List (String×DataW Unit)} {ps:List MemPlace},DataW.LaidVars P w l ps->∀ n d,(n,d)∈l ->
  ∃ g t cs fuel p,P.globalNamed n=some g/\(P.globals[g]?).map (·.type)=some t/\w.var? P n=some cs/\DataW.trod (λ _=>()) P w 0 (λ _=>true) false fuel t cs.toList=some (d,p)
 | [],_,_,_,_,hm=>by cases hm
 | (n',d')::r,ps,h,n,d,hm=>by
  obtain ⟨g,t,cs,fuel,p,q,h1,h2,h3,h4,h5,_⟩:=h;rcases ro.1 hm with e|e
  ·cases e
   exact ⟨g,t,cs,fuel,p,h1,h2,h3,h4⟩
  ·exact pX h5 n d e
def sL (P:Program)(g:Nat)(l:List GC):Bool:=match l with
 | [.some k]=>decide (g<P.globals.size)&&match ((begin P (λ _ _=>0) default).world.heap[g]?).bind Obj.row? with
  | some (zero,t)=>decide (zero.size=1)&&P.buildable t&&decide (P.cellTypes P.depth t=some [t])&&(match P.underlying t with
   | some (.int k')=>decide (k'=k)
   | _=>false)
  | none=>false
 | _=>false
theorem uD {P:Program}{w:World}{g:Nat}{l:List GC}(h:sL P g l=true)(hsh:w.ShapedOpen P):∃ k cs t,l=[.some k]/\w.heap[g]? = some (.cells cs t)/\cs.size=1/\∃ m,w.cell? ⟨g,0,none⟩=some (.int k m):=by
 unfold sL at h;split at h
 ·rename_i k;simp only [n7,decide_eq_true_eq] at h;obtain ⟨hg,h⟩:=h;split at h
  ·rename_i zero t h0;simp only [n7,decide_eq_true_eq] at h;obtain ⟨⟨⟨h1,h2⟩,h3⟩,h4⟩:=h;split at h4
   ·rename_i k' hu;obtain rfl:=of_decide_eq_true h4;obtain ⟨cs,hh,hs,_⟩:=hsh.1 g zero t hg h0;exact ⟨k',cs,t,rfl,hh,hs.trans h1,Go.Proofs.cell_of_shapedOpen_int hsh hg h0 h1 h2 h3 hu⟩
   ·cases h4
  ·cases h
 ·cases h
def oJ (P:Program)(laid:List (String×DataW Unit)):Bool :=
 l9.all λ x=>sL P x.1 x.2||laid.any λ y=>P.globalNamed y.1==some x.1&&match (P.globals[x.1]?).map (·.type) with
  | some t=>zx P 6 t y.2 x.2
  | none=>false
theorem wO {α:Type}{l:List (Nat×α)}{g:Nat}{v:α}(h:look l g=some v):(g,v)∈l:=by
 induction l with
 | nil=>cases h
 | cons x r ih=>
  obtain ⟨j,y⟩:=x;unfold look at h
  cases hb:Nat.beq j g with
  | true=>rw [hb] at h; cases h; rw [bx hb]; exact List.mem_cons_self
  | false=>rw [hb] at h; exact List.mem_cons_of_mem _ (ih h)
theorem sI {P:Program}{laid:List (String×DataW Unit)}{w:World}(hc:oJ P laid=true)(h:laidMet P laid w)(hsh:w.ShapedOpen P):iE w (λ b _=>b<w.heap.size):=by
 intro g cs hg;obtain ⟨l,hl,rfl⟩:=ld.1 hg;rcases Bool.or_eq_true_iff.1 (qr.1 hc _ (wO hl)) with hs|hk
 ·obtain ⟨k,cs,t,rfl,hh,CC,m,hm⟩:=uD hs hsh;have hlt:g<w.heap.size:=(Array.getElem?_eq_some_iff.1 hh).1;refine ⟨λ j c hj=>⟨hlt,?_⟩,hlt,?_⟩
  ·cases j with
   | zero=>cases hj; exact ⟨_,hm,.aint k m⟩
   | succ j=>simp at hj
  ·show w.cell? ⟨g,1,none⟩=none;simp [World.cell?,hh,CC]
 obtain ⟨y,hy,hk⟩:=List.any_eq_true.1 hk;simp only [n7,beq_iff_eq] at hk;obtain ⟨hn,hk⟩:=hk;obtain ⟨ps,hv,_⟩:=h;obtain ⟨g',t,vs,fuel,p,h1,h2,h3,h4⟩:=pX hv y.1 y.2 hy;obtain rfl:=Option.some.inj (hn.symm.trans h1);rw [h2] at hk;obtain ⟨CE,Dm⟩:=zS 6 fuel t y.2 l vs.toList p hk h4;have CP:=λ j=>World.var?_cell h1 h3 j
 have hlt:g<w.heap.size:=by
  rcases Nat.lt_or_ge g w.heap.size with q|q
  ·exact q
  ·simp [World.var?,h1,Array.getElem?_eq_none q] at h3
 refine ⟨λ j c hj=>⟨hlt,?_⟩,hlt,?_⟩
 ·rw [List.getElem?_map] at hj;obtain ⟨c,hjc,rfl⟩:=ld.1 hj
  have hjl:j<vs.size:=by
   have:=(List.getElem?_eq_some_iff.1 hjc).1;rw [<- CE] at this; simpa using this
  have hv':vs.toList[j]? = some vs[j]:=by simp [hjl]
  refine ⟨vs[j],by rw [CP]; simp [hjl],GC.rep (Dm j c _ hjc hv') _ _⟩
 ·rw [CP,n6,<- CE];simp
set_option autoImplicit false
inductive aa where
 | mk (AT:Int) (A':Int) (By:Bk) (Ar:List aa) (AI:List Bk)
def aa.AT:aa->Int|.mk x _ _ _ _=>x
def aa.A':aa->Int|.mk _ x _ _ _=>x
def aa.By:aa->Bk|.mk _ _ x _ _=>x
def aa.Ar:aa->List aa|.mk _ _ _ x _=>x
def aa.AI:aa->List Bk|.mk _ _ _ _ x=>x
instance:Inhabited aa:=⟨.mk 0 0 [] [] []⟩
mutual
def aa.ccs:aa->List PV|.mk AT A' By Ar AI=>[eI AT]++[eI A']++[eS By]++[.slice (aa.els Ar)]++[eL eS AI]
def aa.els:List aa->List PV|[]=>[]|x::r=>.agg (aa.ccs x)::aa.els r
end
def ah (x:aa):PV:=.agg (aa.ccs x)
theorem aa.els_eq:∀ l,aa.els l=l.map ah
 | []=>by simp only [aa.els,py]
 | x::r=>by simp only [aa.els,cl,aa.els_eq r,ah]
def aa.cs (x:aa):List PV:=[eI x.AT,eI x.A',eS x.By,eL ah x.Ar,eL eS x.AI]
theorem aa.Cw (x:aa):aa.ccs x=aa.cs x:=by
 cases x
 simp only [aa.ccs,aa.cs,eL,List.cons_append,List.nil_append,aa.els_eq,aa.AT,aa.A',aa.By,aa.Ar,aa.AI]
theorem aa.B' (x:aa):(ah x).cells=aa.cs x:=aa.Cw x
theorem aa.Cv (x:aa):ah x=.agg (aa.cs x):=congrArg PV.agg (aa.Cw x)
theorem aa.eta (x:aa):aa.mk x.AT x.A' x.By x.Ar x.AI=x:=by cases x; rfl
structure ac where
 Cu:Bool
 A':Int
 BY:Bk
 deriving Inhabited,DecidableEq
def ac.cs (x:ac):List PV:=[eB x.Cu,eI x.A',eS x.BY]
def ag (x:ac):PV:=.agg (ac.cs x)
theorem ac.B' (x:ac):(ag x).cells=ac.cs x:=rfl
theorem ac.Cv (x:ac):ag x=.agg (ac.cs x):=rfl
end Go.Ab
end
section
namespace Go.Ab
theorem bB {C:Cx}(s:AS):bY C s s:=λ g _ _ hs=>⟨g,hs⟩
theorem aQ {C:Cx}{s t u:AS}(h:bY C s t)(k:bY C t u):bY C s u:=λ g a w hs=>by
 obtain ⟨g',hs'⟩:=h g a w hs;exact k g' a w hs'
theorem wU {C:Cx}{c:Code}{Q:Exit->AS->Prop}{s:AS}{σ O0z:Type}(mk:σ->AS)(lp:Nat->σ->Option O0z)(hz:∀ q,lp 0 q=none){o:O0z}{n:Nat}(q0:σ)(h0:lp n q0=some o)(hle:bY C s (mk q0))
  (round:∀ m q,lp (m+1) q=some o->awp C c (mc (λ s'=>∃ q',lp m q'=some o/\bY C s' (mk q')) Q) (mk q)):awp C (.loop c) Q s:=by
 refine nv hle ?_;intro g a w hs
 let J:Act->World->Nat->Prop:=λ a w m=>∃ g q,St C.n C.w0 C.F g (mk q) a w/\lp m q=some o
 have hJ:∀ a w m,J a w m->∃ m0,J a w m0/\∀ m',J a w m'->m0<=m':=by
  intro a w m
  induction m using Nat.strongRecOn with
  | _ m ih=>
   intro hm;by_cases h:∃ m',m'<m/\J a w m'
   ·obtain ⟨m',h1,h2⟩:=h; exact ih m' h1 h2
   ·exact ⟨m,hm,λ m' h'=>Nat.le_of_not_lt λ hlt=>h ⟨m',hlt,h'⟩⟩
 let M:Act->World->Nat:=λ a w=>by
  classical
  exact if h:∃ m0,J a w m0/\∀ m',J a w m'->m0<=m' then Classical.choose h else 0
 have hM:∀ a w m,J a w m->J a w (M a w)/\M a w<=m:=by
  intro a w m hm;have h:=hJ a w m hm;have e:M a w=Classical.choose h:=by simp only [M]; rw [dif_pos h]
  rw [e];exact ⟨(Classical.choose_spec h).1,(Classical.choose_spec h).2 m hm⟩
 refine wp_loop (λ a w=>∃ m,J a w m) M ⟨n,g,q0,hs,h0⟩ ?_;rintro a w ⟨m,hm⟩;obtain ⟨⟨g1,q1,hs1,hI1⟩,_⟩:=hM a w m hm;generalize hMm:M a w=mm at hI1
 cases mm with
 | zero=>rw [hz] at hI1; cases hI1
 | succ mm=>
  refine wp_mono (round mm q1 hI1 g1 a w hs1) ?_;rintro e a' w' ⟨g',s',h1,h2⟩
  cases e with
  | normal=>
   obtain ⟨q',hI',hgh⟩:=h2;obtain ⟨g2,hs2⟩:=hgh g' a' w' h1;have hj:J a' w' mm:=⟨g2,q',hs2,hI'⟩
   refine ⟨⟨_,hj⟩,?_⟩;have:=(hM a' w' _ hj).2;omega
  | exit id=>exact ⟨g',s',h1,h2⟩
  | goto l=>exact ⟨g',s',h1,h2⟩
  | ret=>exact ⟨g',s',h1,h2⟩
  | panic ch=>exact ⟨g',s',h1,h2⟩
  | outgrown=>exact ⟨g',s',h1,h2⟩
def lM (tt:List (Nat×TI)):List ResultVar->AS->Option (List AV)
 | [],_=>some []
 | .tmp t::r,s=>match look s.sl t,lM tt r s with
  | some x,some l=>some (x::l)
  | _,_=>none
 | .cell c t::r,s=>match look s.sl c with
  | some (.ptr id k)=>match look s.ob id,look tt t,lM tt r s with
   | some cs,some i,some l=>bif i.k.isAgg then (bif Nat.ble (k+i.size) cs.length then some (ki ((cs.drop k).take i.size)::l) else none) else (match cs[k]? with
    | some y=>some (y::l)
    | none=>none)
   | _,_,_=>none
  | _=>none
def xI (tt:List (Nat×TI))(fn:Func)(R:AV->Prop)(e:Exit)(s:AS):Prop:=(e=.normal\/e=.ret)/\∃ l,lM tt fn.results.toList s=some l/\R (si l)
theorem me {tt:List (Nat×TI)}{fn:Func}{R:AV->Prop}{s:AS}{l:List AV}(h:lM tt fn.results.toList s=some l)(hR:R (si l)):xI tt fn R .ret s:=⟨.inr Z,l,h,hR⟩
theorem re {P:Program}{tt:List (Nat×TI)}(good:cj P tt){n:Nat}{w0:Base}{w:World}{F:Nat->Prop}{g:Gh}{s:AS}{a:Act}(hs:St n w0 F g s a w){c id k t:Nat}{cs:List AV}{i:TI}{y:AV}
  (hc:look s.sl c=some (.ptr id k)) (hob:look s.ob id=some cs) (hi:look tt t=some i)
  (hy:(i.k.isAgg=true/\k+i.size<=cs.length/\y=ki ((cs.drop k).take i.size))\/(i.k.isAgg=false/\cs[k]? = some y)) :
  ∃ v,(ue a.tmps (.cell c t)).run P w=.ok v w/\ARep w g y v:=by
 have h5:=hs.sl c;simp only [AS.get,hc,rg] at h5;generalize hv:a.tmps.getD c Go.undef=v at h5
 cases h5 with
 | ptr how=>
  rename_i b;obtain ⟨b',cc,e,k1,k2,k3,k4,k5⟩:=hs.ob id cs hob;rw [how] at k1; cases k1;rcases hy with ⟨hia,hl,rfl⟩|⟨hia,hy⟩
  ·have CP:∀ j,j<i.size->w.cell? ⟨b,k+j,none⟩=some (cc.getD (k+j) Go.undef):=by
    intro j hj;rw [jf hs k2];have:k+j<cc.size:=by omega
    simp [Array.getD,this]
   have hld:=jy good hi hia (f:=λ j=>cc.getD (k+j) Go.undef) CP;refine ⟨.agg ((List.range i.size).map λ j=>cc.getD (k+j) Go.undef).toArray,by simp only [ue,hv,asAddr,Sem.run_bind,Sem.run_pure,Result.andThen_ok,hld],lg (by simp; omega) λ j y v h1 h2=>?_⟩;rw [List.getElem?_take] at h1;split at h1
   ·rename_i hj;rw [List.getElem?_drop] at h1;obtain ⟨u,hu,hr⟩:=k5 (k+j) y h1;simp only [List.getElem?_toArray,List.getElem?_map,List.getElem?_range hj,Option.map_some,aq] at h2;rw [<- h2,Array.getD_eq_getD_getElem?,hu];exact hr
   ·cases h1
  ·obtain ⟨u,hu,hr⟩:=k5 k y hy;have hcc:=(jf hs k2 k).trans hu;exact ⟨u,by simp only [ue,hv,asAddr,Sem.run_bind,Sem.run_pure,Result.andThen_ok,kF good hi hia hcc],hr⟩
theorem yI {P:Program}{tt:List (Nat×TI)}(good:cj P tt){n:Nat}{w0:Base}{w:World}{F:Nat->Prop}{g:Gh}{s:AS}{a:Act}(hs:St n w0 F g s a w)(rs:List ResultVar) :
  ∀ l,lM tt rs s=some l->∃ vs:List Value,
   (rs.mapM (ue a.tmps)).run P w=.ok vs w/\vs.length=l.length /\
    ∀ (i:Nat) c v,l[i]? = some c->vs[i]? = some v->ARep w g c v:=by
 induction rs with
 | nil=>intro l h; simp only [lM,aq] at h; subst h; exact ⟨[],by simp,rfl,by simp⟩
 | cons r rs ih=>
  intro l h
  have fin:∀ (y:AV) (l':List AV) (v:Value),l=y::l'->lM tt rs s=some l'->(ue a.tmps r).run P w=.ok v w->ARep w g y v->∃ vs:List Value,
    ((r::rs).mapM (ue a.tmps)).run P w=.ok vs w/\vs.length=l.length/\∀ (i:Nat) c v,l[i]? = some c->vs[i]? = some v->ARep w g c v:=by
   intro y l' v e h1 h2 h3;subst e;obtain ⟨vs,k1,k2,k3⟩:=ih l' h1;refine ⟨v::vs,by simp only [List.mapM_cons,Sem.run_bind,h2,Sem.run_pure,Result.andThen_ok,k1],by simp [k2],λ i c u h5 h6=>?_⟩
   cases i with
   | zero=>simp only [List.getElem?_cons_zero,aq] at h5 h6; subst h5 h6; exact h3
   | succ i=>simp only [List.getElem?_cons_succ] at h5 h6; exact k3 i c u h5 h6
  cases r with
  | tmp t=>
   have ht:=hs.sl t;simp only [lM] at h;split at h
   case h_2=>cases h
   rename_i x l' hx h1
   cases h
   simp only [AS.get,hx,rg] at ht;exact fin x l' _ rfl h1 (by simp only [ue,Sem.run_pure]) ht
  | cell c t=>
   simp only [lM] at h;split at h
   case h_2=>cases h
   rename_i id k hc;split at h
   case h_2=>cases h
   rename_i cs i l' hob hi h1
   cases hia:i.k.isAgg
   ·rw [hia,cond_false] at h;split at h
    ·rename_i y hy
     cases h
     obtain ⟨v,h2,h3⟩:=re good hs hc hob hi (.inr ⟨hia,hy⟩);exact fin y l' v rfl h1 h2 h3
    ·cases h
   ·rw [hia,cond_true] at h
    cases hb:Nat.ble (k+i.size) cs.length
    ·rw [hb,cond_false] at h; cases h
    ·rw [hb,cond_true] at h
     cases h
     obtain ⟨v,h2,h3⟩:=re good hs hc hob hi (.inl ⟨hia,ph hb,rfl⟩);exact fin _ l' v rfl h1 h2 h3
theorem j2 {P:Program}{tt:List (Nat×TI)}(good:cj P tt){n:Nat}{w0:Base}{w:World}{F:Nat->Prop}{g:Gh}{s:AS}{a:Act}(hs:St n w0 F g s a w)(fn:Func)(l:List AV)(h:lM tt fn.results.toList s=some l) :
  ∃ v,(results fn a.tmps).run P w=.ok v w/\ARep w g (si l) v:=by
 obtain ⟨vs,h2,h3,h4⟩:=yI good hs _ l h;refine ⟨if h:vs.length=1 then vs[0] else .tuple vs.toArray,?_,?_⟩
 ·rw [uA,Array.mapM_eq_mapM_toList];simp only [Sem.run_bind,Sem.run_map,h2,Result.andThen_ok,Sem.run_pure,List.size_toArray];congr 1
 ·by_cases e:vs.length=1
  ·rw [dif_pos e];obtain ⟨v,rfl⟩:=List.length_eq_one_iff.1 e;obtain ⟨x,rfl⟩:=List.length_eq_one_iff.1 (h3.symm.trans e);exact h4 0 x v Z Z
  ·rw [dif_neg e]
   have e2:si l=.tuple l:=by
    match l,h3 with
    | [],_=>rfl
    | [x],h3=>exact absurd h3 e
    | x::y::r,_=>rfl
   rw [e2];exact .tuple (by simpa using h3) (λ i c v h5 h6=>h4 i c v h5 (by simpa using h6))
theorem aZ {P:Program}{tt:List (Nat×TI)}(good:cj P tt){f:FuncId}{fn:Func}{c:Code}{args:List PV}{r:AV}(hf:P.funcs[f]? = some fn)(hb:fn.body=some c)(hn:Nat.ble args.length fn.ntmps=true)(hnl:Nat.ble fn.ntmps M1=true)
  (h:∀ w0,awp ⟨P,tt,good,fn.ntmps,hnl,w0,λ b=>b<w0.w.heap.size⟩ c (xI tt fn (λ x=>x.sub r)) ⟨pp args,[]⟩):au P f args (·=r):=by
 refine au.of_sub ?_;intro w st vs h0 h1 h2;refine calls_of_wp hf hb ?_;have hn:=ph hn
 have hs:St fn.ntmps ⟨w,st,λ _=>none,h0.gl,(λ _ _ h=>nomatch h),[]⟩ (λ b=>b<w.heap.size) ⟨st,λ _=>none⟩ ⟨pp args,[]⟩ { tmps:=vs++Array.replicate (fn.ntmps-vs.size) Go.undef,defers:=[] } w:=by
  refine ⟨rfl,?_,?_,?_,?_,?_,?_,?_,?_,rfl,rfl,rfl,bt _,λ b _ o=>Iff.rfl,λ _ _ _=>rfl,ic.refl _ _,λ i b _ h=>(by cases h),Ev.refl _ _⟩
  ·simp only [Array.size_append,Array.size_replicate]; omega
  ·intro i;have:=qz args 0 i;simp only [AS.get,pp,this,Nat.zero_le,if_true,Nat.sub_zero]
   cases ha:args[i]? with
   | none=>exact .undef _
   | some x=>
    have hi:i<args.length:=(List.getElem?_eq_some_iff.1 ha).1;have hi2:i<vs.size:=by omega
    have e:(vs++Array.replicate (fn.ntmps-vs.size) Go.undef).getD i Go.undef=vs[i]:=by
     simp [Array.getD_eq_getD_getElem?,Array.getElem?_append,hi2]
    simp only [Option.map_some,rg];rw [e];exact .p (h2 i x _ ha (Array.getElem?_eq_getElem hi2))
  ·intro id cs h; simp [look] at h
  ·intro i j b h; simp at h
  ·intro i b h; simp at h
  ·intro b o h; exact h0.lt b o h
  ·intro b h; exact h
  ·intro b h; rfl
 refine wp_mono (h ⟨w,st,λ _=>none,h0.gl,(λ _ _ h=>nomatch h),[]⟩ _ _ w hs) ?_;rintro e a' w' ⟨g',s',h3,he,l,hl,hR⟩;obtain ⟨v,hv,hr⟩:=j2 good h3 fn l hl
 have fin:∃ v,(results fn a'.tmps).run P w'=.ok v w'/\∃ v1 r1 g',Ending.returned v=.returned v1/\r1.sub r/\ARep w' g' r1 v1/\After w st w' g':=by
  refine ⟨v,hv,v,_,g',Z,hR,hr,⟨h3.os,h3.out,h3.tape,h3.size,λ b hb=>h3.fr b hb,λ i b hi=>?_,h3.inj,h3.lt,h3.stf⟩⟩;have:=h3.own i b hi;exact ⟨Nat.le_of_not_lt this.2,this.1⟩
 rcases he with rfl|rfl
 ·exact ⟨h3.nd,fin⟩
 ·exact ⟨h3.nd,fin⟩
def rX (k d i:Nat):Option Nat:=bif Nat.beq i k then some d else bif Nat.beq i d then none else some i
def yL (k d:Nat):List (Nat×AV)->Option (List (Nat×AV))
 | []=>some []
 | (i,x)::r=>match x.mapA (rX k d),yL k d r with
  | some y,some q=>some ((i,y)::q)
  | _,_=>none
theorem rq {k d:Nat}:∀ {sl q:List (Nat×AV)},yL k d sl=some q->∀ i,match look sl i,look q i with
  | some x,some y=>x.mapA (rX k d)=some y
  | none,none=>True
  | _,_=>False
 | [],q,h,i=>by simp only [yL,aq] at h; subst h; simp [look]
 | (j,x)::r,q,h,i=>by
  simp only [yL] at h;split at h
  ·rename_i y q' hy hq
   cases h
   have ih:=rq hq i;simp only [aJ];by_cases e:j=i
   ·simp [e,hy]
   ·simp only [if_neg e]; exact ih
  ·cases h
theorem yY {k d:Nat}(CQ:k≠d):∀ i j x,rX k d i=some x->rX k d j=some x->i=j:=by
 intro i j x h1 h2;unfold rX at h1 h2;have hb:∀ {a b:Nat},Nat.beq a b=true->a=b:=bx;have hf:∀ {a b:Nat},Nat.beq a b=false->a≠b:=λ h e=>by subst e; simp at h
 cases a1:Nat.beq i k <;> cases b1:Nat.beq j k <;> simp only [a1,b1,cond_true,cond_false] at h1 h2
 ·cases a2:Nat.beq i d <;> cases b2:Nat.beq j d <;> simp only [a2,b2,cond_true,cond_false,reduceCtorEq,aq] at h1 h2
  rw [h1,h2]
 ·cases a2:Nat.beq i d <;> simp only [a2,cond_true,cond_false,reduceCtorEq,aq] at h1 h2
  exact absurd (h1.trans h2.symm) (hf a2)
 ·cases b2:Nat.beq j d <;> simp only [b2,cond_true,cond_false,reduceCtorEq,aq] at h1 h2
  exact absurd (h2.trans h1.symm) (hf b2)
 ·rw [hb a1,hb b1]
theorem qS {m:Nat->Option Nat}(hinj:∀ i j x,m i=some x->m j=some x->i=j):∀ {l l':List (Nat×List AV)},ij m l=some l'->∀ {j:Nat} {cs':List AV},look l' j=some cs'->∃ i cs,look l i=some cs/\m i=some j/\AV.mapA.go m cs=some cs'
 | [],l',h,j,cs',hc=>by simp only [ij,aq] at h; subst h; simp [look] at hc
 | (i,ds)::r,l',h,j,cs',hc=>by
  simp only [ij] at h;split at h
  ·rename_i j0 l0 q hj hgo hq
   cases h
   rw [aJ] at hc;by_cases e:j0=j
   ·rw [if_pos e] at hc
    cases hc; subst e
    exact ⟨i,ds,by simp [aJ],hj,hgo⟩
   ·rw [if_neg e] at hc;obtain ⟨i',cs,h1,h2,h3⟩:=qS hinj hq hc;refine ⟨i',cs,?_,h2,h3⟩;rw [aJ,if_neg]
    ·exact h1
    ·intro e2; subst e2;rw [hj] at h2; cases h2; exact e rfl
  ·cases h
theorem bp {C:Cx}{sl sl':List (Nat×AV)}{ob ob':List (Nat×List AV)}(k d:Nat)(hkd:Nat.beq k d=false)(hk:Nat.blt k M1=true)(hd:Nat.blt d M1=true)(hs':yL k d sl=some sl')(ho':ij (rX k d) ob=some ob'):bY C ⟨sl,ob⟩ ⟨sl',ob'⟩:=by
 intro g a w hs;have hk':k<M1:=mv ▸ hk;have hd':d<M1:=mv ▸ hd;have CQ:k≠d:=λ e=>by subst e; simp at hkd
 let g':Gh:=⟨g.st,λ i=>if i=d then g.ow k else if i=k then none else g.ow i⟩
 have hm:∀ i j b,rX k d i=some j->g.ow i=some b->g'.ow j=some b:=by
  intro i j b h hb;unfold rX at h
  cases h1:Nat.beq i k
  ·rw [h1,cond_false] at h
   cases h2:Nat.beq i d
   ·rw [h2,cond_false] at h; cases h;have e1:i≠k:=λ e=>by subst e; simp at h1
    have e2:i≠d:=λ e=>by subst e; simp at h2
    simp only [g',if_neg e2,if_neg e1]; exact hb
   ·rw [h2,cond_true] at h; cases h
  ·rw [h1,cond_true] at h; cases h;have:=bx h1;subst this;simp only [g',if_true]; exact hb
 refine ⟨g',hs.nd,hs.sz,λ i=>?_,λ id cs hc=>?_,λ i j b h1 h2=>?_,λ i b h=>?_,hs.lt,hs.fl,hs.fr,hs.os,hs.out,hs.tape,hs.size,hs.stf,λ i hi hz=>?_,hs.shf,hs.nst,hs.ev0⟩
 ·have h1:=rq hs' i;have h2:=hs.sl i;simp only [AS.get] at h2 ⊢
  cases e1:look sl i with
  | none=>
   rw [e1] at h1
   cases e2:look sl' i with
   | none=>exact .undef _
   | some y=>rw [e2] at h1; exact h1.elim
  | some x=>
   rw [e1] at h1 h2
   cases e2:look sl' i with
   | none=>exact .undef _
   | some y=>
    rw [e2] at h1;exact gG (g:=g) (g':=g') rfl hm (by simpa using h2) h1
 ·obtain ⟨i,ds,h1,h2,h3⟩:=qS (yY CQ) ho' hc
  exact kR (g:=g) (g':=g') Z hm (show ij (rX k d) [(i,ds)]=some [(id,cs)] by simp only [ij,h2,h3]) (λ p hp=>by
   simp only [List.mem_singleton] at hp;subst hp
   exact hs.ob i ds h1) (id,cs) G
 ·simp only [g'] at h1 h2;by_cases a1:i=d <;> by_cases b1:j=d
  ·rw [a1,b1]
  ·rw [if_pos a1] at h1;rw [if_neg b1] at h2;split at h2
   ·cases h2
   ·rename_i b2; exact absurd (hs.inj k j b h1 h2).symm b2
  ·rw [if_pos b1] at h2;rw [if_neg a1] at h1;split at h1
   ·cases h1
   ·rename_i b2; exact absurd (hs.inj i k b h1 h2) b2
  ·rw [if_neg a1] at h1; rw [if_neg b1] at h2;split at h1
   ·cases h1
   ·split at h2
    ·cases h2
    ·exact hs.inj i j b h1 h2
 ·simp only [g'] at h;split at h
  ·exact hs.own k b h
  ·split at h
   ·cases h
   ·exact hs.own i b h
 ·simp only [g'];rw [if_neg O,if_neg O]; exact hs.owf i hi hz
theorem j9 {C:Cx}{sl:List (Nat×AV)}{ob:List (Nat×List AV)}(j:Nat){x y:AV}(hj:look sl j=some x)(h:x.sub y):bY C ⟨sl,ob⟩ ⟨(j,y)::sl,ob⟩:=by
 refine bS ⟨λ i z hz=>?_,λ id cs hc=>⟨cs,hc,(gw (cq cs)).1,(gw (cq cs)).2⟩⟩;simp only [aJ] at hz;by_cases e:j=i
 ·rw [if_pos e] at hz; cases hz; subst e;simp only [AS.get,hj,rg]; exact h
 ·rw [if_neg e] at hz;simp only [AS.get,hz,rg]; exact AV.sub_refl _
def pw:List PV->List PV->Prop|[],[]=>True|c::cs,d::ds=>(c=d\/(c=.val (.slice none 0 0)/\d=.slice []))/\pw cs ds|_,_=>False
theorem lH {w:World}{st:Nat->Nat->Prop}:∀ {cs ds:List PV},pw cs ds->cs.length=ds.length/\∀ (i:Nat) c d v,cs[i]? = some c->ds[i]? = some d->PRep w st c v->PRep w st d v
 | [],[],_=>⟨Z,by simp⟩
 | [],_::_,h=>h.elim
 | _::_,[],h=>h.elim
 | c::cs,d::ds,h=>by
  obtain ⟨h1,h2⟩:=lH (w:=w) (st:=st) h.2;refine ⟨by simp [h1],λ i c' d' v hc hd hv=>?_⟩
  cases i with
  | zero=>
   simp only [List.getElem?_cons_zero,aq] at hc hd;subst hc hd;rcases h.1 with e|⟨e1,e2⟩
   ·rw [<- e]; exact hv
   ·rw [e1] at hv; rw [e2]; cases hv; exact .nils
  | succ i=>simp only [List.getElem?_cons_succ] at hc hd; exact h2 i c' d' v hc hd hv
theorem dY {cs ds:List PV}(h:pw cs ds):(AV.p (.agg cs)).sub (.p (.agg ds)):=by
 intro w g v hv;obtain ⟨h1,h2⟩:=lH (w:=w) (st:=g.st) h
 cases hv with
 | p hv=>
  cases hv with
  | agg hl hh=>
   refine .p (.agg (hl.trans h1) λ i d u hd hu=>?_);have hi:i<cs.length:=by have:=(List.getElem?_eq_some_iff.1 hd).1; omega
   exact h2 i cs[i] d u (List.getElem?_eq_getElem hi) hd (hh i _ u (List.getElem?_eq_getElem hi) hu)
theorem kH {cs:List AV}{ds:List PV}(h:jQ cs (ds.map .p)):(AV.agg cs).sub (.p (.agg ds)):=by
 intro w g v hv;obtain ⟨h1,h2⟩:=ge h
 cases hv with
 | agg hl hh=>
  refine .p (.agg (by rw [hl,h1,n6]) λ i d u hd hu=>?_);have hi:i<cs.length:=by have:=(List.getElem?_eq_some_iff.1 hd).1; simp at h1; omega
  have:=h2 i cs[i] (.p d) (List.getElem?_eq_getElem hi) (by simp [hd]) w g u (hh i _ u (List.getElem?_eq_getElem hi) hu)
  cases this with|p h=>exact h
theorem l7 {cs ds:List AV}(h:jQ cs ds):(AV.agg cs).sub (.agg ds):=by
 intro w g v hv;obtain ⟨h1,h2⟩:=ge h
 cases hv with
 | agg hl hh=>
  refine .agg (hl.trans h1) λ i d u hd hu=>?_;have hi:i<cs.length:=by have:=(List.getElem?_eq_some_iff.1 hd).1; omega
  exact h2 i cs[i] d (List.getElem?_eq_getElem hi) hd w g u (hh i _ u (List.getElem?_eq_getElem hi) hu)
theorem yE {cs:List PV}:(AV.p (.agg cs)).sub (.agg (cs.map .p)):=by
 intro w g v hv
 cases hv with
 | p hv=>
  cases hv with
  | agg hl hh=>
   refine .agg (by rw [hl,n6]) λ i d u hd hu=>?_;simp only [List.getElem?_map,ld] at hd;obtain ⟨c,hc,rfl⟩:=hd;exact .p (hh i c u hc hu)
theorem AV.sub_trans {x y z:AV}(h:x.sub y)(k:y.sub z):x.sub z:=λ w g v hv=>k w g v (h w g v hv)
section
variable {C:Cx} {o:Oper} {K:AS->Prop} {sl:List (Nat×AV)} {ob:List (Nat×List AV)} {d:Nat}
theorem bA {α:Type}(f:α->PV)(l:List α){t e len:Nat}{parts:Array (Nat×Operand)}{i ie:TI}{es:List PV}(ho:o.op=.buildSlice t len parts)(hd:o.dst=some d)(hn:Nat.blt d C.n=true)
  (hi:look C.tt t=some i) (CR:i.k=.slice e) (hie:look C.tt e=some ie) (hes:jA sl 0 parts.toList=some es) (CE:Nat.beq es.length len=true) (hpos:Nat.blt 0 len=true)
  (hk:Nat.blt 0 ie.size=true) (hsm:Nat.ble (len*ie.size) 16777216=true) (CC:nq ie.size es=true) (hzl:Nat.beq ie.zero.length ie.size=true) (he:es=l.map f)
  (hK:K ⟨(d,.p (eL f l))::sl,ob⟩):aO C o K ⟨sl,ob⟩ :=
 qk ho hd hn hi CR hie hes CE hpos hk hsm CC hzl (by rw [he]; exact hK)
theorem dS {α:Type}(f:α->PV)(l0 l:List α){t tx e e':TypeId}{x y:Operand}{k sz ty:Nat}{Y0z:AV}{i ie j:TI}(ho:o.op=.call { callee:=.builtin .append,args:=#[x,y],argTypes:=#[t,tx] })(hd:o.dst=some d)(hn:Nat.blt d C.n=true)
  (hi:look C.tt t=some i) (CR:i.k=.slice e) (hie:look C.tt e=some ie) (hj:look C.tt tx=some j) (hjk:j.k=.slice e') (hx:evo sl x=some (.vec k sz ty (l0.map f))) (hk:Nat.blt k M1=true) (hiz:ie.size=sz)
  (hy:evo sl y=some Y0z) (hY:Y0z.elems? = some (l.map f)) (CC:∀ x,(f x).cells.length=ie.size) (h0:Nat.blt 0 ie.size=true) (hzl:Nat.beq ie.zero.length ie.size=true) (hby:Nat.blt 0 ie.bytes=true)
  (hty:(Nat.beq ty 0||Nat.beq ty (e+1))=true) (CE:(l0.length+l.length)*ie.bytes<=140737488355328)
  (hK:K ⟨(d,.vec d sz ty ((l0++l).map f))::(bV (λ i=>Nat.beq i k||Nat.beq i d) ⟨sl,ob⟩).sl,(bV (λ i=>Nat.beq i k||Nat.beq i d) ⟨sl,ob⟩).ob⟩):aO C o K ⟨sl,ob⟩:=by
 have hby':1<=ie.bytes:=Nat.succ_le_of_lt (by simpa using hby);have h1:(l0.length+l.length)*1<=(l0.length+l.length)*ie.bytes:=Nat.mul_le_mul_left _ hby'
 exact u9 ho hd hn hi CR hie hj hjk hx hk hiz hy hY (λ y hy=>by obtain ⟨x,_,rfl⟩:=List.mem_map.1 hy; exact CC x) h0 hzl (by rw [n6,n6]; exact CE) (by rw [n6,n6]; omega) hty
  (by rw [<- List.map_append]; exact hK)
end
def V1:Nat:=900000
def sO (tt:List (Nat×TI))(fn:Func)(ts ids:List Nat)(R:AV->List (Nat×List AV)->Prop)(e:Exit)(s:AS):Prop :=(e=.normal\/e=.ret)/\∃ l r C8 obs',lM tt fn.results.toList s=some l/\(si l).mapA (nV ts)=some r/\jh s.ob ids=some C8/\ij (nV ts) C8=some obs'/\R r obs'
theorem yJ {tt:List (Nat×TI)}{fn:Func}{ts ids:List Nat}{R:AV->List (Nat×List AV)->Prop}{s:AS}{l:List AV}{r:AV}{C8 obs':List (Nat×List AV)}(h1:lM tt fn.results.toList s=some l)(h2:(si l).mapA (nV ts)=some r)
  (h3:jh s.ob ids=some C8) (h4:ij (nV ts) C8=some obs') (h5:R r obs'):sO tt fn ts ids R .ret s:=⟨.inr Z,l,r,C8,obs',h1,h2,h3,h4,h5⟩
theorem Aj (ts ids:List Nat)(hts:ts.all (λ i=>Nat.blt i M1)=true)(hnd:nodupB ts=true){n:Nat}{w w':World}{g g1:Gh}{df:List Deferred}{gl:iE w g.st}{lo:∀ i b,g.ow i=some b->i<MZ}{s':AS}{a':Act}
  (hown:∀ i b,g.ow i=some b->b<w.heap.size/\i<2*M1) (h3:St n ⟨w,g.st,g.ow,gl,lo,df⟩ (λ b=>b<w.heap.size/\∀ i,g.ow i≠some b) g1 s' a' w') {x r:AV} {v:Value} {obs1 obs':List (Nat×List AV)}
  (hvr:ARep w' g1 x v) (hr:x.mapA (nV ts)=some r) (hp:jh s'.ob ids=some obs1) (hm:ij (nV ts) obs1=some obs'):∃ g',ARep w' g' r v/\(∀ p∈obs',gu w' g' p.1 p.2)/\j5 w g w' g':=by
 have hown3:∀ i b,M1<=i->i<MZ->g1.ow i=some b->i<2*M1:=by
  intro i b hi hz hb;rw [h3.owf i hi hz] at hb;exact (hown i b hb).2
 have hmap:∀ i j b,nV ts i=some j->g1.ow i=some b->(if 2*M1<=j then (ts[j-2*M1]?).bind g1.ow else if M1<=j then g1.ow j else none)=some b:=by
  intro i j b hij hb;unfold nV at hij
  cases hle:Nat.ble M1 i
  ·rw [hle] at hij;simp only [cond_false] at hij;split at hij
   ·rename_i k hk
    cases hij
    rw [if_pos O,Nat.add_sub_cancel_left,gT hk];exact hb
   ·cases hij
  ·rw [hle] at hij;simp only [cond_true] at hij
   cases hz:Nat.blt i MZ <;> rw [hz] at hij <;> simp only [cond_true,cond_false,aq,reduceCtorEq] at hij
   subst hij;have h4:=ph hle;have h5:=hown3 i b h4 (mv ▸ hz) hb;rw [if_neg O,if_pos h4];exact hb
 have hts':∀ (k t:Nat),ts[k]? = some t->t<M1:=by
  intro k t hk;have:=qr.1 hts t (List.mem_of_getElem? hk);exact mv ▸ this
 have inv:∀ j b,(if 2*M1<=j then (ts[j-2*M1]?).bind g1.ow else if M1<=j then g1.ow j else none)=some b ->
   (∃ t,ts[j-2*M1]? = some t/\2*M1<=j/\g1.ow t=some b)\/(M1<=j/\j<2*M1/\g1.ow j=some b):=by
  intro j b h;by_cases e1:2*M1<=j
  ·rw [if_pos e1] at h;obtain ⟨t,ht,hb⟩:=Option.bind_eq_some_iff.1 h;exact .inl ⟨t,ht,e1,hb⟩
  ·rw [if_neg e1] at h;by_cases e2:M1<=j
   ·rw [if_pos e2] at h; exact .inr ⟨e2,by omega,h⟩
   ·rw [if_neg e2] at h; cases h
 have hst0:(⟨g1.st,λ j=>if 2*M1<=j then (ts[j-2*M1]?).bind g1.ow else if M1<=j then g1.ow j else none⟩:Gh).st=g1.st:=rfl;refine ⟨⟨g1.st,λ j=>if 2*M1<=j then (ts[j-2*M1]?).bind g1.ow else if M1<=j then g1.ow j else none⟩,gG hst0 hmap hvr hr,kR hst0 hmap hm (λ p hp'=>h3.ob p.1 p.2 (mW hp p hp')),?_⟩;refine ⟨h3.os,h3.out,h3.tape,h3.size,λ b hb hno=>h3.fr b ⟨hb,hno⟩,λ i b hi=>?_,λ i j b hi hj=>?_,h3.lt,λ b hb hno=>h3.stf b ⟨hb,hno⟩,λ i h1 h2=>?_,h3.shf,h3.nst,h3.ev0⟩
 ·have key:∀ t,g1.ow t=some b->b<w'.heap.size/\(w.heap.size<=b\/∃ j,g.ow j=some b):=by
   intro t ht;obtain ⟨k1,k2⟩:=h3.own t b ht;refine ⟨k1,?_⟩;by_cases hb:w.heap.size<=b
   ·exact .inl hb
   ·refine .inr ?_;by_cases hex:∃ j,g.ow j=some b
    ·exact hex
    ·exact absurd ⟨by omega,λ i hi=>hex ⟨i,hi⟩⟩ k2
  rcases inv i b hi with ⟨t,_,_,ht⟩|⟨_,_,ht⟩
  ·exact key t ht
  ·exact key i ht
 ·rcases inv i b hi with ⟨t,a1,a2,a3⟩|⟨a1,a2,a3⟩ <;> rcases inv j b hj with ⟨u,b1,b2,b3⟩|⟨b1,b2,b3⟩
  ·have:=h3.inj t u b a3 b3;subst this;have:=ff hnd _ _ _ a1 b1;omega
  ·have:=h3.inj t j b a3 b3;have:=hts' _ t a1;omega
  ·have:=h3.inj i u b a3 b3;have:=hts' _ u b1;omega
  ·exact h3.inj i j b a3 b3
 ·dsimp only;rw [if_neg O,if_pos h1];exact h3.owf i h1 (Nat.lt_of_lt_of_le h2 zA)
theorem rI {P:Program}{tt:List (Nat×TI)}(good:cj P tt){fn:Func}{c:Code}{args:List AV}{C8:List (Nat×List AV)}{R:AV->List (Nat×List AV)->Prop}(ts ids:List Nat)(hn:args.length<=fn.ntmps)(hnl:Nat.ble fn.ntmps M1=true)(hts:ts.all (λ i=>Nat.blt i M1)=true)(hnd:nodupB ts=true)
  (h:∀ w0 F,awp ⟨P,tt,good,fn.ntmps,hnl,w0,F⟩ c (sO tt fn ts ids R) ⟨fJ args,C8⟩) {w:World} {g:Gh} {vs:Array Value} (hlt:Ok0 w g.st) (hown:∀ i b,g.ow i=some b->b<w.heap.size/\i<2*M1)
  (hinj:∀ i j b,g.ow i=some b->g.ow j=some b->i=j) (hnst:∀ i b,M1<=i->g.ow i=some b->∀ o,¬ g.st b o) (h1:vs.size=args.length)
  (h2:∀ (i:Nat) c v,args[i]? = some c->vs[i]? = some v->ARep w g c v) (hobs:∀ id cs,look C8 id=some cs->gu w g id cs) :
  c.wp P (bodyPost P fn λ e w'=>∃ v r obs' g',e=.returned v/\R r obs'/\ARep w' g' r v/\(∀ p∈obs',gu w' g' p.1 p.2)/\j5 w g w' g') { tmps:=vs++Array.replicate (fn.ntmps-vs.size) Go.undef,defers:=[] } w:=by
 have hs:St fn.ntmps ⟨w,g.st,g.ow,hlt.gl,(λ i b h=>Nat.lt_of_lt_of_le (hown i b h).2 zA),[]⟩ (λ b=>b<w.heap.size/\∀ i,g.ow i≠some b) g ⟨fJ args,C8⟩ { tmps:=vs++Array.replicate (fn.ntmps-vs.size) Go.undef,defers:=[] } w:=by
  refine ⟨Z,?_,?_,hobs,hinj,?_,hlt.lt,?_,?_,Z,Z,Z,bt _,λ b _ o=>Iff.rfl,λ _ _ _=>rfl,ic.refl _ _,λ i b hi h=>hnst i b hi h,Ev.refl _ _⟩
  ·simp only [Array.size_append,Array.size_replicate]; omega
  ·intro i;have:=kS args 0 i;simp only [AS.get,fJ,this,Nat.zero_le,if_true,Nat.sub_zero]
   cases ha:args[i]? with
   | none=>exact .undef _
   | some x=>
    have hi:i<args.length:=(List.getElem?_eq_some_iff.1 ha).1;have hi2:i<vs.size:=by omega
    have e:(vs++Array.replicate (fn.ntmps-vs.size) Go.undef).getD i Go.undef=vs[i]:=by
     simp [Array.getD_eq_getD_getElem?,Array.getElem?_append,hi2]
    simp only [rg];rw [e];exact h2 i x _ ha (Array.getElem?_eq_getElem hi2)
  ·intro i b hi; exact ⟨(hown i b hi).1,λ h=>h.2 i hi⟩
  ·intro b h; exact h.1
  ·intro b h; rfl
 refine wp_mono (h ⟨w,g.st,g.ow,hlt.gl,(λ i b h=>Nat.lt_of_lt_of_le (hown i b h).2 zA),[]⟩ _ g _ w hs) ?_;rintro e a' w' ⟨g1,s',h3,he,l,r,obs1,obs',hl,hr,hp,hm,hR⟩;obtain ⟨v,hv,hvr⟩:=j2 good h3 fn l hl;obtain ⟨g',e1,e2,e3⟩:=Aj ts ids hts hnd hown h3 hvr hr hp hm;rcases he with rfl|rfl
 ·exact ⟨h3.nd,v,hv,v,r,obs',g',Z,hR,e1,e2,e3⟩
 ·exact ⟨h3.nd,v,hv,v,r,obs',g',Z,hR,e1,e2,e3⟩
theorem oe {P:Program}{tt:List (Nat×TI)}(good:cj P tt){f:FuncId}{fn:Func}{c:Code}{args:List AV}{C8:List (Nat×List AV)}{R:AV->List (Nat×List AV)->Prop}(ts ids:List Nat)(hf:P.funcs[f]? = some fn)(hb:fn.body=some c)
  (hn:args.length<=fn.ntmps) (hnl:Nat.ble fn.ntmps M1=true) (hts:ts.all (λ i=>Nat.blt i M1)=true) (hnd:nodupB ts=true)
  (h:∀ w0 F,awp ⟨P,tt,good,fn.ntmps,hnl,w0,F⟩ c (sO tt fn ts ids R) ⟨fJ args,C8⟩):bs P f args C8 R:=λ _ _ _ k1 k2 k3 k4 k5 k6 k7=>calls_of_wp hf hb (rI good ts ids hn hnl hts hnd h k1 k2 k3 k4 k5 k6 k7)
theorem rj {w:World}{g:Gh}{id:Nat}{cs ds:List AV}(h:gu w g id ds)(hs:vd cs ds):gu w g id cs:=by
 obtain ⟨k1,k2⟩:=gw hs;obtain ⟨b,c,e,n1,n2,n3,n4,n5⟩:=h;refine ⟨b,c,e,n1,n2,by omega,n4,λ i x hx=>?_⟩;have hi:i<ds.length:=by have:=(List.getElem?_eq_some_iff.1 hx).1; omega
 obtain ⟨v,hv,hr⟩:=n5 i ds[i] (List.getElem?_eq_getElem hi);exact ⟨v,hv,k2 i x _ hx (List.getElem?_eq_getElem hi) _ _ _ hr⟩
theorem vD {s:List (Nat×List AV)}:∀ {t:List (Nat×List AV)},leO s t->∀ p∈t,∃ ds,look s p.1=some ds/\vd p.2 ds
 | [],_,p,hp=>by simp at hp
 | (j,cs)::r,h,p,hp=>by
  rcases ro.1 hp with rfl|hp
  ·exact h.1
  ·exact vD h.2 p hp
theorem bs.of_sub {P:Program}{f:FuncId}{args:List AV}{C8 rob:List (Nat×List AV)}{r:AV}(h:bs P f args C8 (λ x y=>x.sub r/\leO y rob)):bs P f args C8 (λ x y=>x=r/\y=rob) :=
 λ w g vs h1 h2 h3 h4 h5 h6 h7=>(h w g vs h1 h2 h3 h4 h5 h6 h7).mono λ e w' ⟨v,x,obs',g',k1,⟨k2,k3⟩,k4,k5,k6⟩=>
  ⟨v,r,rob,g',k1,⟨Z,Z⟩,k2 _ _ _ k4,λ p hp=>by
   obtain ⟨ds,m1,m2⟩:=vD k3 p hp
   exact rj (k5 (p.1,ds) (fv m1)) m2,k6⟩
theorem B8 {P:Program}{tt:List (Nat×TI)}(good:cj P tt){f:FuncId}{fn:Func}{c:Code}{args:List AV}{C8 rob:List (Nat×List AV)}{r:AV}(ts ids:List Nat)(hf:P.funcs[f]? = some fn)(hb:fn.body=some c)
  (hn:Nat.ble args.length fn.ntmps=true) (hnl:Nat.ble fn.ntmps M1=true) (hts:ts.all (λ i=>Nat.blt i M1)=true) (hnd:nodupB ts=true)
  (h:∀ w0 F,awp ⟨P,tt,good,fn.ntmps,hnl,w0,F⟩ c (sO tt fn ts ids (λ x y=>x.sub r/\leO y rob)) ⟨fJ args,C8⟩):bs P f args C8 (λ x y=>x=r/\y=rob) :=
 bs.of_sub (oe good ts ids hf hb (ph hn) hnl hts hnd h)
def ke (ids CO:List Nat)(i:Nat):Option Nat:=match ids.findIdx? (Nat.beq i) with
 | some k=>some (M1+k)
 | none=>match CO.findIdx? (Nat.beq i) with
  | some k=>some (V1+k)
  | none=>none
def oc (NB NE i:Nat):Bool:=Nat.ble NB i&&Nat.blt i NE
def bz (CO:List Nat)(NB NE i:Nat):Bool:=oc NB NE i||CO.any (Nat.beq i)
section
variable {C:Cx} {o:Oper} {K:AS->Prop} {sl:List (Nat×AV)} {ob:List (Nat×List AV)} {d:Nat}
theorem uZ (ids CO:List Nat)(NB NE:Nat){l l' q:List AV}{C8 obs0 qo:List (Nat×List AV)}(hl':AV.mapA.go (ke ids CO) l=some l')(hq:jQ l' q)(hpk:jh ob ids=some C8)(hmo:ij (ke ids CO) C8=some obs0)(hqo:leO obs0 qo)
  (hnd:nodupB ids=true) (hids:ids.all (λ i=>Nat.blt i (2*M1))=true) (hil:Nat.ble ids.length M1=true) (hdl:Nat.ble NE M1=true) (hdis:ids.all (λ i=>!(bz CO NB NE i))=true)
  (hvd:nodupB CO=true) (hvl:CO.all (λ i=>Nat.blt i M1)=true) (hvn:Nat.ble CO.length 100000=true)
  {g:Gh} {a:Act} {w:World} (hs:St C.n C.w0 C.F g ⟨sl,ob⟩ a w) {avs:Array Value} (a1:avs.size=l.length) (a2:∀ (i:Nat) c v,l[i]? = some c->avs[i]? = some v->ARep w g c v) :
  ∃ gc:Gh,(Ok0 w gc.st/\(∀ i b,gc.ow i=some b->b<w.heap.size/\i<2*M1)/\(∀ i j b,gc.ow i=some b->gc.ow j=some b->i=j)/\(∀ i b,M1<=i->gc.ow i=some b->∀ o,¬ gc.st b o)/\avs.size=q.length /\
   (∀ (i:Nat) c v,q[i]? = some c->avs[i]? = some v->ARep w gc c v)/\(∀ id cs,look qo id=some cs->gu w gc id cs)) /\
   ∀ (w':World) (v:Value) (r r':AV) (obs' ob':List (Nat×List AV)) (g':Gh),ARep w' g' r v->(∀ p∈obs',gu w' g' p.1 p.2)->j5 w gc w' g'->r.mapA (kg ids NB NE)=some r'->ij (kg ids NB NE) obs'=some ob' ->
    ∃ g2,St C.n C.w0 C.F g2 ⟨(bV (bz CO NB NE) ⟨sl,ob⟩).sl,ob'++(bV (bz CO NB NE) ⟨sl,ob.filter λ p=>!(ids.any (Nat.beq p.1))⟩).ob⟩ a w'/\ARep w' g2 r' v:=by
 have hidl:∀ (k i:Nat),ids[k]? = some i->i<2*M1:=λ k i h=>by
  have:=qr.1 hids i (List.mem_of_getElem? h);exact mv ▸ this
 have hvll:∀ (k i:Nat),CO[k]? = some i->i<M1:=λ k i h=>by
  have:=qr.1 hvl i (List.mem_of_getElem? h);exact mv ▸ this
 have hidD:∀ (k i:Nat),ids[k]? = some i->bz CO NB NE i=false:=λ k i h=>by
  have:=qr.1 hdis i (List.mem_of_getElem? h);simpa only [Bool.not_eq_true'] using this
 have hDn:∀ i,oc NB NE i=true->NB<=i/\i<NE:=λ i h=>by
  unfold oc at h;simp only [n7] at h;exact ⟨ph h.1,mv ▸ h.2⟩
 have hDv:∀ i,CO.any (Nat.beq i)=true->∃ k,CO[k]? = some i:=λ i h=>by
  obtain ⟨x,hx,he⟩:=List.any_eq_true.1 h;have:=bx he;subst this;exact List.mem_iff_getElem?.1 hx
 have hvD:∀ (k i:Nat),CO[k]? = some i->CO.any (Nat.beq i)=true:=λ k i h=>List.any_eq_true.2 ⟨i,List.mem_of_getElem? h,by simp⟩
 have hsplit:∀ i,bz CO NB NE i=false->oc NB NE i=false/\CO.any (Nat.beq i)=false:=λ i h=>by
  unfold bz at h;simpa only [Bool.or_eq_false_iff] using h
 have hdl':=ph hdl;have hil':=ph hil;have hvn':=ph hvn;have hV1:V1+100000=M1:=rfl;obtain ⟨gc,hgc⟩:∃ gc:Gh,gc=⟨g.st,λ j=>if M1<=j then (ids[j-M1]?).bind g.ow else if V1<=j then (CO[j-V1]?).bind g.ow else none⟩:=⟨_,rfl⟩
 have hgst:gc.st=g.st:=by rw [hgc]
 have gcinv:∀ j b,gc.ow j=some b->∃ i,g.ow i=some b/\((ids[j-M1]? = some i/\M1<=j/\j<2*M1)\/(CO[j-V1]? = some i/\V1<=j/\j<M1)):=by
  intro j b h;rw [hgc] at h;dsimp only at h;by_cases e:M1<=j
  ·rw [if_pos e] at h;obtain ⟨i,h1,h2⟩:=Option.bind_eq_some_iff.1 h;have:=(List.getElem?_eq_some_iff.1 h1).1;exact ⟨i,h2,.inl ⟨h1,e,by omega⟩⟩
  ·rw [if_neg e] at h;by_cases e2:V1<=j
   ·rw [if_pos e2] at h;obtain ⟨i,h1,h2⟩:=Option.bind_eq_some_iff.1 h;exact ⟨i,h2,.inr ⟨h1,e2,by omega⟩⟩
   ·rw [if_neg e2] at h; cases h
 have hpm:∀ i j b,ke ids CO i=some j->g.ow i=some b->gc.ow j=some b:=by
  intro i j b h hb;unfold ke at h;split at h
  ·rename_i k hk
   cases h
   rw [hgc];dsimp only;rw [if_pos O,Nat.add_sub_cancel_left,gT hk];exact hb
  ·split at h
   ·rename_i k hk
    cases h
    have hkl:=(List.getElem?_eq_some_iff.1 (gT hk)).1;rw [hgc];dsimp only;rw [if_neg O,if_pos O,Nat.add_sub_cancel_left,gT hk];exact hb
   ·cases h
 have hidob:∀ (k i:Nat),ids[k]? = some i->∃ cs,look ob i=some cs:=by
  have:∀ (ids:List Nat) (C8:List (Nat×List AV)),jh ob ids=some C8->∀ (k i:Nat),ids[k]? = some i->∃ cs,look ob i=some cs:=by
   intro ids
   induction ids with
   | nil=>intro C8 _ k i h; simp at h
   | cons x r ih=>
    intro C8 h k i hk;simp only [jh] at h;split at h
    ·rename_i cs l0 h1 h2
     cases k with
     | zero=>simp only [List.getElem?_cons_zero,aq] at hk; subst hk; exact ⟨cs,h1⟩
     | succ k=>simp only [List.getElem?_cons_succ] at hk; exact ih l0 h2 k i hk
    ·cases h
  exact this ids C8 hpk
 have hnst:∀ j b,M1<=j->gc.ow j=some b->∀ o,¬ g.st b o:=by
  intro j b hj h o ho;obtain ⟨i,h4,⟨h1,_,_⟩|⟨_,_,h3⟩⟩:=gcinv j b h
  ·obtain ⟨cs,CJ⟩:=hidob _ i h1;obtain ⟨b',c,e,k1,_,_,k4,_⟩:=hs.ob i cs CJ;rw [h4] at k1; cases k1;exact k4 o ho
  ·omega
 obtain ⟨m1,m2⟩:=ls hl';obtain ⟨b1,b2⟩:=ge hq
 have hargs:∀ (i:Nat) c v,q[i]? = some c->avs[i]? = some v->ARep w gc c v:=by
  intro i c v hc hv;have hi':i<l'.length:=by have:=(List.getElem?_eq_some_iff.1 hc).1; omega
  have hi:i<l.length:=by omega
  have h1:=a2 i _ v (List.getElem?_eq_getElem hi) hv;have h2:=gG hgst hpm h1 (m2 i _ _ (List.getElem?_eq_getElem hi) (List.getElem?_eq_getElem hi'));exact b2 i _ c (List.getElem?_eq_getElem hi') hc w gc v h2
 have hobs0:=kR hgst hpm hmo (λ p hp=>hs.ob p.1 p.2 (mW hpk p hp))
 have hqo':∀ id cs,look qo id=some cs->gu w gc id cs:=by
  intro id cs h;obtain ⟨ds,h1,h2⟩:=p6 hqo id cs h;exact rj (hobs0 (id,ds) (fv h1)) h2
 have hpre:∀ {Z0z:Prop},(Ok0 w gc.st->(∀ i b,gc.ow i=some b->b<w.heap.size/\i<2*M1)->(∀ i j b,gc.ow i=some b->gc.ow j=some b->i=j)->(∀ i b,M1<=i->gc.ow i=some b->∀ o,¬ gc.st b o)->avs.size=q.length->(∀ (i:Nat) c v,q[i]? = some c->avs[i]? = some v->ARep w gc c v)->(∀ id cs,look qo id=some cs->gu w gc id cs)->Z0z)->Z0z:=λ k=>k (by rw [hgst]; exact hs.ok0) (λ j b h=>by
   obtain ⟨i,h4,⟨_,_,h3⟩|⟨_,_,h3⟩⟩:=gcinv j b h
   ·exact ⟨(hs.own i b h4).1,h3⟩
   ·exact ⟨(hs.own i b h4).1,by omega⟩) (λ i j b h1 h2=>by
   obtain ⟨i',p3,p⟩:=gcinv i b h1;obtain ⟨j',q3,q⟩:=gcinv j b h2;have:=hs.inj i' j' b p3 q3;subst this;rcases p with ⟨p1,p2,_⟩|⟨p1,p2,p4⟩ <;> rcases q with ⟨q1,q2,_⟩|⟨q1,q2,q4⟩
   ·have:=ff hnd _ _ _ p1 q1; omega
   ·have h5:=(hsplit _ (hidD _ _ p1)).2;rw [hvD _ _ q1] at h5; cases h5
   ·have h5:=(hsplit _ (hidD _ _ q1)).2;rw [hvD _ _ p1] at h5; cases h5
   ·have:=ff hvd _ _ _ p1 q1; omega) (λ j b hj h=>by rw [hgst]; exact hnst j b hj h) (a1.trans (m1.trans b1)) hargs hqo'
 refine ⟨gc,hpre λ k1 k2 k3 k4 k5 k6 k7=>⟨k1,k2,k3,k4,k5,k6,k7⟩,λ w' v r r' obs' ob' g' hr hob' hA hr' hmo'=>?_⟩
 have nogc:∀ i b,(∀ (k:Nat),ids[k]?≠some i)->(∀ (k:Nat),CO[k]?≠some i)->g.ow i=some b->∀ j,gc.ow j≠some b:=by
  intro i b hi hv hb j hj;obtain ⟨i',p3,p⟩:=gcinv j b hj;have:=hs.inj i i' b hb p3;subst this;rcases p with ⟨p1,_⟩|⟨p1,_⟩
  ·exact hi _ p1
  ·exact hv _ p1
 obtain ⟨g2,hg2⟩:∃ g2:Gh,g2=⟨g'.st,λ i=>if oc NB NE i=true then g'.ow (2*M1+(i-NB)) else if CO.any (Nat.beq i)=true then none else g.ow i⟩:=⟨_,rfl⟩
 have hg2st:g2.st=g'.st:=by rw [hg2]
 have g2old:∀ i,bz CO NB NE i=false->g2.ow i=g.ow i:=λ i h=>by
  obtain ⟨h1,h2⟩:=hsplit i h;rw [hg2]; simp only [h1,h2,Bool.false_eq_true,if_false]
 have g2new:∀ i,oc NB NE i=true->g2.ow i=g'.ow (2*M1+(i-NB)):=λ i h=>by rw [hg2]; simp only [h,if_true]
 have g2cases:∀ i b,g2.ow i=some b->(oc NB NE i=true/\g'.ow (2*M1+(i-NB))=some b)\/(bz CO NB NE i=false/\g.ow i=some b):=by
  intro i b h
  cases h1:oc NB NE i
  ·cases h2:CO.any (Nat.beq i)
   ·have h3:bz CO NB NE i=false:=by unfold bz; rw [h1,h2]; rfl
    exact .inr ⟨h3,by rw [<- g2old i h3]; exact h⟩
   ·rw [hg2] at h; simp only [h1,h2,Bool.false_eq_true,if_false,if_true] at h; cases h
  ·exact .inl ⟨Z,by rw [<- g2new i h1]; exact h⟩
 have hDM:∀ i,M1<=i->bz CO NB NE i=false:=λ i hi=>by
  cases hq:bz CO NB NE i
  ·rfl
  ·unfold bz at hq;simp only [Bool.or_eq_true] at hq;rcases hq with hq|hq
   ·exact absurd (Nat.lt_of_lt_of_le (Nat.lt_of_lt_of_le (hDn i hq).2 hdl') hi) (Nat.lt_irrefl _)
   ·obtain ⟨k,hk⟩:=hDv i hq;exact absurd (Nat.lt_of_lt_of_le (hvll k i hk) hi) (Nat.lt_irrefl _)
 have hbm:∀ j i b,kg ids NB NE j=some i->g'.ow j=some b->g2.ow i=some b:=by
  intro j i b h hb;rcases uT h with ⟨k,rfl,rfl,h4⟩|⟨h3,h4,h5⟩
  ·rw [g2new (NB+k) (by
    unfold oc;simp only [n7]
    exact ⟨Nat.ble_eq_true_of_le (Nat.le_add_right _ _),by rw [mv]; exact h4⟩),Nat.add_sub_cancel_left]
   exact hb
  ·rw [g2old i (hidD _ i h5)];rw [hA.owf j h3 h4] at hb;obtain ⟨i',p3,⟨p1,_,_⟩|⟨_,_,p5⟩⟩:=gcinv j b hb
   ·rw [h5] at p1; cases p1;exact p3
   ·omega
 have hE:EvO (bz CO NB NE) w g w' g2:=by
  refine ⟨by rw [hg2st]; have:=hA.ev; rw [hgst] at this; exact this,λ id b hq h=>by rw [g2old id hq]; exact h,λ id b c e hq h0 h=>?shape,λ id b o hq h ho=>?_,λ id b es k hq h0 h=>?mpc,λ i hi=>hDM i (nN hi),λ id b o hq h0 ho=>?stb⟩
  case stb=>
   have hlt:=(hs.own id b h0).1;by_cases hno:∃ j,gc.ow j=some b
   ·obtain ⟨j,hj⟩:=hno;obtain ⟨i',p3,⟨p1,_,_⟩|⟨p1,_,_⟩⟩:=gcinv j b hj
    ·obtain ⟨cs,CJ⟩:=hidob _ i' p1;obtain ⟨b',c,e,k1,k2,_,k4,_⟩:=hs.ob i' cs CJ;rw [p3] at k1; cases k1;exact absurd ho (k4 o)
    ·have:=hs.inj id i' b h0 p3;subst this;have h5:=(hsplit _ hq).2;rw [hvD _ _ p1] at h5; cases h5
   ·exact hA.fr b hlt (λ j hj=>hno ⟨j,hj⟩)
  case mpc=>
   have hlt:=(hs.own id b h0).1;by_cases hno:∃ j,gc.ow j=some b
   ·obtain ⟨j,hj⟩:=hno;obtain ⟨i',p3,⟨p1,_,_⟩|⟨p1,_,_⟩⟩:=gcinv j b hj
    ·obtain ⟨cs,CJ⟩:=hidob _ i' p1;obtain ⟨b',c,e,k1,k2,_⟩:=hs.ob i' cs CJ;rw [p3] at k1; cases k1;rw [k2] at h; cases h
    ·have:=hs.inj id i' b h0 p3;subst this;have h5:=(hsplit _ hq).2;rw [hvD _ _ p1] at h5; cases h5
   ·exact (hA.fr b hlt (λ j hj=>hno ⟨j,hj⟩)).trans h
  case shape=>
   have hlt:=(hs.own id b h0).1;by_cases hno:∃ j,gc.ow j=some b
   ·obtain ⟨j,hj⟩:=hno;obtain ⟨i',p3,⟨_,p2,_⟩|⟨p1,_,_⟩⟩:=gcinv j b hj
    ·exact hA.sh j b c e p2 hj h
    ·have:=hs.inj id i' b h0 p3;subst this;have h5:=(hsplit _ hq).2;rw [hvD _ _ p1] at h5; cases h5
   ·exact ⟨c,(hA.fr b hlt (λ j hj=>hno ⟨j,hj⟩)).trans h,Z⟩
  rw [hg2st] at ho;have hlt:=(hs.own id b h).1;by_cases hno:∃ j,gc.ow j=some b
  ·obtain ⟨j,hj⟩:=hno;obtain ⟨i',p3,⟨_,p2,_⟩|⟨p1,_,_⟩⟩:=gcinv j b hj
   ·exact absurd ho (hA.nst j b p2 hj o)
   ·have:=hs.inj id i' b h p3;subst this;have h5:=(hsplit _ hq).2;rw [hvD _ _ p1] at h5; cases h5
  ·have:=(hA.stf b hlt (λ j hj=>hno ⟨j,hj⟩) o).1 ho;rw [hgst] at this; exact this
 have hs':St C.n C.w0 C.F g2 ⟨(bV (bz CO NB NE) ⟨sl,ob⟩).sl,ob'++(bV (bz CO NB NE) ⟨sl,ob.filter λ p=>!(ids.any (Nat.beq p.1))⟩).ob⟩ a w':=by
  refine ⟨hs.nd,hs.sz,λ i=>?_,λ id cs h=>?_,λ i j b h1 h2=>?_,λ i b h=>?_,by rw [hg2st]; exact hA.lt,hs.fl,λ b h=>?_,hA.os.trans hs.os,hA.out.trans hs.out,hA.tape.trans hs.tape,Nat.le_trans hs.size hA.size,λ b h o=>?_,λ i h hz=>?_,hs.shf.next (λ i b c e hi hb h=>hE.shape i b c e (hDM i hi) ((hs.owf i hi (C.w0.lo i b hb)).trans hb) h),λ i b h1 h2 o h3=>?_,hs.ev0.trans hE.ev⟩
  ·have h:=(hs.sl i).dem hE;simp only [AS.get,bV,ep];simp only [AS.get] at h
   cases hl:look sl i with
   | none=>simp only [Option.map_none,Option.getD_none]; exact .undef _
   | some x=>rw [hl] at h; simpa using h
  ·dsimp only at h;rw [fe] at h;split at h
   ·rename_i x hx
    cases h
    exact kR hg2st hbm hmo' hob' (id,cs) (fv hx)
   ·have hf1:=fq (bz CO NB NE) (ob.filter λ p=>!(ids.any (Nat.beq p.1))) id;simp only [bV,ep] at h;rw [hf1] at h
    cases hDi:bz CO NB NE id
    ·simp only [hDi,Bool.false_eq_true,if_false,ld] at h;have hf:=fq (λ i=>ids.any (Nat.beq i)) ob id;rw [hf] at h
     cases hany:ids.any (Nat.beq id)
     ·rw [hany] at h;simp only [Bool.false_eq_true,if_false] at h;obtain ⟨ds,h1,rfl⟩:=h
      have hni:∀ (k:Nat),ids[k]?≠some id:=λ k hk=>by
       rw [List.any_eq_false] at hany;exact hany id (List.mem_of_getElem? hk) G
      have hnv:∀ (k:Nat),CO[k]?≠some id:=λ k hk=>by
       have h5:=(hsplit _ hDi).2;rw [hvD _ _ hk] at h5; cases h5
      obtain ⟨b,c,e,k1,k2,k3,k4,k5⟩:=hs.ob id ds h1;have hlt:=(hs.own id b k1).1;have hno:=nogc id b hni hnv k1;refine ⟨b,c,e,by rw [g2old id hDi]; exact k1,(hA.fr b hlt hno).trans k2,by simpa [eZ] using k3,λ o ho=>?_,λ i x hx=>?_⟩
      ·rw [hg2st] at ho;have:=(hA.stf b hlt hno o).1 ho;rw [hgst] at this; exact k4 o this
      ·simp only [eZ,List.getElem?_map,ld] at hx;obtain ⟨y,hy,rfl⟩:=hx;obtain ⟨v,hv,hr⟩:=k5 i y hy;exact ⟨v,hv,hr.dem hE⟩
     ·rw [hany] at h; simp at h
    ·simp [hDi] at h
  ·have cross:∀ i j b,oc NB NE i=true->g'.ow (2*M1+(i-NB))=some b->bz CO NB NE j=false->g.ow j=some b->False:=by
    intro i j b hi h1 hj h2;have hlt:=(hs.own j b h2).1;rcases (hA.own _ b h1).2 with h3|⟨j',hj'⟩
    ·omega
    ·obtain ⟨i',p3,⟨p1,p2,p4⟩|⟨p1,_,_⟩⟩:=gcinv j' b hj'
     ·have h4:=hA.owf j' p2 p4;rw [hj'] at h4;have:=hA.inj _ _ b h1 h4;omega
     ·have:=hs.inj j i' b h2 p3;subst this;have h5:=(hsplit _ hj).2;rw [hvD _ _ p1] at h5; cases h5
   rcases g2cases i b h1 with ⟨x1,x2⟩|⟨x1,x2⟩ <;> rcases g2cases j b h2 with ⟨y1,y2⟩|⟨y1,y2⟩
   ·have:=hA.inj _ _ b x2 y2;have:=hDn i x1;have:=hDn j y1;omega
   ·exact (cross i j b x1 x2 y1 y2).elim
   ·exact (cross j i b y1 y2 x1 x2).elim
   ·exact hs.inj i j b x2 y2
  ·rcases g2cases i b h with ⟨x1,x2⟩|⟨x1,x2⟩
   ·obtain ⟨k1,k2⟩:=hA.own _ b x2;refine ⟨k1,λ hF=>?_⟩;rcases k2 with k2|⟨j,hj⟩
    ·have:=hs.fl b hF; have:=hs.size; omega
    ·obtain ⟨i',p3,_⟩:=gcinv j b hj;exact (hs.own i' b p3).2 hF
   ·have:=hs.own i b x2;have:=hA.size;exact ⟨by omega,(hs.own i b x2).2⟩
  ·have hlt:b<w.heap.size:=by have:=hs.fl b h; have:=hs.size; omega
   exact (hA.fr b hlt λ j hj=>by
    obtain ⟨i',p3,_⟩:=gcinv j b hj
    exact (hs.own i' b p3).2 h).trans (hs.fr b h)
  ·have hlt:b<w.heap.size:=by have:=hs.fl b h; have:=hs.size; omega
   rw [hg2st]
   have:=hA.stf b hlt (λ j hj=>by
    obtain ⟨i',p3,_⟩:=gcinv j b hj
    exact (hs.own i' b p3).2 h) o
   rw [hgst] at this;exact this.trans (hs.stf b h o)
  ·rw [g2old i (hDM i h)]; exact hs.owf i h hz
  ·rw [hg2st] at h3;have h4:g.ow i=some b:=(hs.owf i h1 (C.w0.lo i b h2)).trans h2;have hlt:=(hs.own i b h4).1;by_cases hin:∃ k:Nat,ids[k]? = some i
   ·obtain ⟨k,hk⟩:=hin
    have hj:gc.ow (M1+k)=some b:=by
     rw [hgc]; dsimp only; rw [if_pos O,Nat.add_sub_cancel_left,hk]; exact h4
    exact hA.nst (M1+k) b O hj o h3
   have hno:=nogc i b (λ k hk=>hin ⟨k,hk⟩) (λ k hk=>by have:=hvll k i hk; omega) h4;have:=(hA.stf b hlt hno o).1 h3;rw [hgst] at this;exact hs.nst i b h1 h2 o this
 exact ⟨g2,hs',gG hg2st hbm hr hr'⟩
theorem ri (ids CO:List Nat)(NB NE:Nat){f:FuncId}{l l' q:List AV}{C8 obs0 qo:List (Nat×List AV)}{R:AV->List (Nat×List AV)->Prop}(hc:bs C.P f q qo R)
  (hen:∀ g a w,St C.n C.w0 C.F g ⟨sl,ob⟩ a w->∃ vs:Array Value,(execOp a.eval o).run C.P w=.ok (.enter f vs) w/\vs.size=l.length/\∀ (i:Nat) c v,l[i]? = some c->vs[i]? = some v->ARep w g c v)
  (hd:o.dst=some d) (hn:Nat.blt d C.n=true) (hl':AV.mapA.go (ke ids CO) l=some l') (hq:jQ l' q) (hpk:jh ob ids=some C8) (hmo:ij (ke ids CO) C8=some obs0) (hqo:leO obs0 qo)
  (hnd:nodupB ids=true) (hids:ids.all (λ i=>Nat.blt i (2*M1))=true) (hil:Nat.ble ids.length M1=true) (hdl:Nat.ble NE M1=true) (hdis:ids.all (λ i=>!(bz CO NB NE i))=true)
  (hvd:nodupB CO=true) (hvl:CO.all (λ i=>Nat.blt i M1)=true) (hvn:Nat.ble CO.length 100000=true)
  (hK:∀ r obs',R r obs'->∃ r' ob',r.mapA (kg ids NB NE)=some r'/\ij (kg ids NB NE) obs'=some ob' /\
   K ⟨(d,r')::(bV (bz CO NB NE) ⟨sl,ob⟩).sl,ob'++(bV (bz CO NB NE) ⟨sl,ob.filter λ p=>!(ids.any (Nat.beq p.1))⟩).ob⟩):aO C o K ⟨sl,ob⟩:=by
 intro g a w hs;obtain ⟨avs,hrun,a1,a2⟩:=hen g a w hs;obtain ⟨gc,⟨k1,k2,k3,k4,k5,k6,k7⟩,hpost⟩:=uZ ids CO NB NE hl' hq hpk hmo hqo hnd hids hil hdl hdis hvd hvl hvn hs a1 a2;unfold Oper.wp;rw [hrun];simp only [Oper.upon];refine (hc w gc avs k1 k2 k3 k4 k5 k6 k7).mono λ e w' ⟨v,r,obs',g',he,hR,hr,hob',hA⟩=>?_;subst he;obtain ⟨r',ob',hr',hmo',hK'⟩:=hK r obs' hR;obtain ⟨g2,hs',hrep⟩:=hpost w' v r r' obs' ob' g' hr hob' hA hr' hmo';have hp:=hs'.put (d:=o.dst) (λ t ht=>by rw [hd] at ht; cases ht; exact mv ▸ hn) hrep;rw [hd] at hp;simp only;rw [hd];exact ⟨_,_,hp,hK'⟩
theorem br (ids CO:List Nat)(NB NE:Nat){f:FuncId}{args:Array Operand}{ts:Array TypeId}{l l' q:List AV}{C8 obs0 qo rob ob':List (Nat×List AV)}{r r':AV}(hc:bs C.P f q qo (λ x y=>x=r/\y=rob))(ho:o.op=.call { callee:=.value (.func f),args:=args,argTypes:=ts })
  (hd:o.dst=some d) (hn:Nat.blt d C.n=true) (hl:gx sl args.toList=some l) (hl':AV.mapA.go (ke ids CO) l=some l') (hq:jQ l' q) (hpk:jh ob ids=some C8) (hmo:ij (ke ids CO) C8=some obs0) (hqo:leO obs0 qo)
  (hnd:nodupB ids=true) (hids:ids.all (λ i=>Nat.blt i (2*M1))=true) (hil:Nat.ble ids.length M1=true) (hdl:Nat.ble NE M1=true) (hdis:ids.all (λ i=>!(bz CO NB NE i))=true)
  (hvd:nodupB CO=true) (hvl:CO.all (λ i=>Nat.blt i M1)=true) (hvn:Nat.ble CO.length 100000=true)
  (henter:∀ vs w,(callFunc f vs).run C.P w=.ok (.enter f vs) w) (hr:r.mapA (kg ids NB NE)=some r') (hob:ij (kg ids NB NE) rob=some ob')
  (hK:K ⟨(d,r')::(bV (bz CO NB NE) ⟨sl,ob⟩).sl,ob'++(bV (bz CO NB NE) ⟨sl,ob.filter λ p=>!(ids.any (Nat.beq p.1))⟩).ob⟩):aO C o K ⟨sl,ob⟩ :=
 ri ids CO NB NE hc (λ g a w hs=>by
  obtain ⟨a1,a2⟩:=gf hs _ l hl
  exact ⟨args.map a.eval,by simp [execOp,ho,resolve,Act.eval,Deferred.ofValue,invoke,henter],by have:=a1.symm; simpa using this,λ i c v hc hv=>a2 i c v hc (by rw [<- Array.toList_map]; simpa using hv)⟩)
  hd hn hl' hq hpk hmo hqo hnd hids hil hdl hdis hvd hvl hvn λ x y ⟨e1,e2⟩=>by
  subst e1 e2;exact ⟨r',ob',hr,hob,hK⟩
theorem rc (ids CO:List Nat)(NB NE:Nat){f:FuncId}{caps:List AV}{t:Nat}{args:Array Operand}{ts:Array TypeId}{l l' q:List AV}{C8 obs0 qo rob ob':List (Nat×List AV)}{r r':AV}(hc:bs C.P f q qo (λ x y=>x=r/\y=rob))(ho:o.op=.call { callee:=.value (.tmp t),args:=args,argTypes:=ts })
  (hd:o.dst=some d) (hn:Nat.blt d C.n=true) (hf:evo sl (.tmp t)=some (.func (.func f) caps)) (hl:gx sl args.toList=some l) (hl':AV.mapA.go (ke ids CO) (l++caps)=some l') (hq:jQ l' q) (hpk:jh ob ids=some C8) (hmo:ij (ke ids CO) C8=some obs0) (hqo:leO obs0 qo)
  (hnd:nodupB ids=true) (hids:ids.all (λ i=>Nat.blt i (2*M1))=true) (hil:Nat.ble ids.length M1=true) (hdl:Nat.ble NE M1=true) (hdis:ids.all (λ i=>!(bz CO NB NE i))=true)
  (hvd:nodupB CO=true) (hvl:CO.all (λ i=>Nat.blt i M1)=true) (hvn:Nat.ble CO.length 100000=true)
  (henter:∀ vs w,(callFunc f vs).run C.P w=.ok (.enter f vs) w) (hr:r.mapA (kg ids NB NE)=some r') (hob:ij (kg ids NB NE) rob=some ob')
  (hK:K ⟨(d,r')::(bV (bz CO NB NE) ⟨sl,ob⟩).sl,ob'++(bV (bz CO NB NE) ⟨sl,ob.filter λ p=>!(ids.any (Nat.beq p.1))⟩).ob⟩):aO C o K ⟨sl,ob⟩ :=
 ri ids CO NB NE hc (λ g a w hs=>by
  obtain ⟨a1,a2⟩:=gf hs _ l hl;have hfr:=bg hs hf;generalize hv:a.eval (.tmp t)=v at hfr
  cases hfr with
  | func CJ hcr=>
   rename_i vs;have a1':(args.map a.eval).size=l.length:=by have:=a1.symm; simpa using this
   refine ⟨args.map a.eval++vs,by simp [execOp,ho,resolve,hv,Deferred.ofValue,invoke,henter],by rw [Array.size_append,n8,a1',CJ],λ i c v hc hv=>?_⟩;rw [List.getElem?_append] at hc;rw [Array.getElem?_append] at hv;split at hc
   ·rename_i hlt;rw [if_pos O] at hv;exact a2 i c v hc (by rw [<- Array.toList_map]; simpa using hv)
   ·rename_i hge;rw [if_neg O,a1'] at hv
    exact hcr _ c v hc hv)
  hd hn hl' hq hpk hmo hqo hnd hids hil hdl hdis hvd hvl hvn λ x y ⟨e1,e2⟩=>by
  subst e1 e2;exact ⟨r',ob',hr,hob,hK⟩
end
def fX (o:Oper)(k:Nat):Bool:=o.after.toList.any λ e=>Nat.beq e.on k&&Region.binds .any e
def iD (ops:Array Oper):Nat->Oper->Nat->Bool|0,o,a=>fX o a|n+1,o,a=>fX o a||ops.toList.zipIdx.any λ p=>fX o p.2&&iD ops n p.1 a
def lX (ops:Array Oper)(imp:List Nat)(o:Oper)(k j:Nat):Bool :=
 (imp.zipIdx.all λ p=>!(iD ops 4 o p.1)||Nat.blt p.2 j)&&(imp.zipIdx.all λ p=>match ops.toList[p.1]? with
  | some oi=>!(fX oi k)||Nat.ble j p.2
  | none=>true)
def chainB (ops:Array Oper):List Nat->Bool
 | a::b::r=>(match ops.toList[b]? with|some o=>iD ops 4 o a|none=>false)&&chainB ops (b::r)
 | _=>true
def loB (ops:Array Oper)(imp:List Nat)(o:Oper)(j:Nat):Bool:=imp.zipIdx.all λ p=>!(iD ops 4 o p.1)||Nat.blt p.2 j
theorem fR {ops:Array Oper}{listed:Array Bool}(hcl:∀ (k:Nat) o,ops[k]? = some o->listed.getD k false=true->∀ e∈o.after,Region.binds .any e=true->listed.getD e.on false=true) :
  ∀ (n:Nat) (o:Oper) (a:Nat),iD ops n o a=true->(∀ e∈o.after,Region.binds .any e=true->listed.getD e.on false=true)->listed.getD a false=true:=by
 have one:∀ (o:Oper) (a:Nat),fX o a=true->(∀ e∈o.after,Region.binds .any e=true->listed.getD e.on false=true)->listed.getD a false=true:=by
  intro o a h ha;obtain ⟨e,he,hbe⟩:=List.any_eq_true.1 h;simp only [n7] at hbe;have h3:=ha e (Array.mem_toList_iff.1 he) hbe.2
  rwa [bx hbe.1] at h3
 intro n
 induction n with
 | zero=>exact one
 | succ n ih=>
  intro o a h ha;simp only [iD,Bool.or_eq_true] at h;rcases h with h|h
  ·exact one o a h ha
  ·obtain ⟨⟨p,k⟩,hp,h2⟩:=List.any_eq_true.1 h;simp only [n7] at h2;have hk:=one o k h2.1 ha
   have hpk:ops[k]? = some p:=by
    have:=List.mk_mem_zipIdx_iff_getElem?.1 hp;simpa using this
   exact ih p a h2.2 (hcl k p hpk hk)
inductive Tr where
 | none
 | some (D:Nat->Bool)
 | fn (f:AV->AV)
def trA:Tr->AV->AV|.none,x=>x|.some D,x=>x.dem D|.fn f,x=>f x
def trL:Tr->List (Nat×AV)->List (Nat×AV)|.none,l=>l|.some D,l=>l.map λ p=>(p.1,p.2.dem D)|.fn f,l=>l.map λ p=>(p.1,f p.2)
theorem kr {D:Tr}{l:List (Nat×AV)}{i:Nat}:look (trL D l) i=(look l i).map (trA D):=by
 cases D with
 | none=>simp only [trL]; cases look l i <;> rfl
 | some D=>simp only [trL,ep]; rfl
 | fn f=>simp only [trL,ep]; rfl
abbrev eJ:=List (Nat×Nat×(Nat->AV))
def cg:eJ->Nat->Option (Nat×(Nat->AV))|[],_=>none|(j,p)::r,k=>bif Nat.beq j k then some p else cg r k
def bD:eJ->Nat->List (Nat×AV)|[],_=>[]|(_,d,v)::r,j=>(d,v j)::bD r j
def KnS (bas:List (Nat×AV))(o:Oper)(rev:eJ)(j:Nat):List (Nat×AV)->Prop|[]=>True|(i,x)::r=>(look bas i=some x\/∃ k v,fX o k=true/\cg rev k=some (i,v)/\v j=x)/\KnS bas o rev j r
structure eg where
 m:Nat
 imp:List Nat
 D:Nat->Tr
 bas:Nat->List (Nat×AV)
 obj:Nat->List (Nat×List AV)
def DS (C:Cx)(ops:Array Oper)(S:eg)(K:eJ->Prop):List Oper->Nat->eJ->Prop
 | [],_,rev=>K rev
 | o::rest,k,rev=>
  match S.imp.findIdx? (Nat.beq k) with
  | none=>∃ d v,o.dst=some d/\(rev.all λ p=>!(Nat.beq p.2.1 d))=true/\(∀ j,look (S.bas j) d=none)/\(∀ j,j<S.m->loB ops S.imp o j=true->v (j+1)=trA (S.D j) (v j)) /\
    (∀ j,j<=S.m->lX ops S.imp o k j=true->∃ kn,KnS (S.bas j) o rev j kn/\nz C ops (S.obj j) o kn d (v j))/\DS C ops S K rest (k+1) ((k,d,v)::rev)
  | some i=>∃ kn,KnS (S.bas i) o rev i kn/\((∃ d v,o.dst=some d/\(rev.all λ p=>!(Nat.beq p.2.1 d))=true/\(∀ j,i<j->look (S.bas j) d=none)/\(∀ j,i<j->j<S.m->v (j+1)=trA (S.D j) (v j)) /\
     (∀ sl,(∀ i x,look kn i=some x->look sl i=some x)->∀ K:AS->Prop,K ⟨(d,v (i+1))::trL (S.D i) sl,S.obj (i+1)⟩->One C ops o K ⟨sl,S.obj i⟩)/\DS C ops S K rest (k+1) ((k,d,v)::rev)) \/
    (o.dst=none/\(∀ sl,(∀ i x,look kn i=some x->look sl i=some x)->∀ K:AS->Prop,K ⟨trL (S.D i) sl,S.obj (i+1)⟩->One C ops o K ⟨sl,S.obj i⟩)/\DS C ops S K rest (k+1) rev))
def kV (C:Cx)(ops:Array Oper)(S:eg)(R:Nat->Option (Nat×(Nat->AV)))(o:Oper)(k:Nat):Prop :=
 match S.imp.findIdx? (Nat.beq k) with
 | none=>∃ d v,R k=some (d,v)/\o.dst=some d/\(∀ j,look (S.bas j) d=none)/\(∀ j,j<S.m->loB ops S.imp o j=true->v (j+1)=trA (S.D j) (v j)) /\
   (∀ j,j<=S.m->lX ops S.imp o k j=true->∀ sl,(∀ i x,look (S.bas j) i=some x->look sl i=some x)->(∀ k' p,fX o k'=true->R k'=some p->look sl p.1=some (p.2 j))->∀ K:AS->Prop,K ⟨(d,v j)::sl,S.obj j⟩->One C ops o K ⟨sl,S.obj j⟩)
 | some i=>(∃ d v,R k=some (d,v)/\o.dst=some d/\(∀ j,i<j->look (S.bas j) d=none)/\(∀ j,i<j->j<S.m->v (j+1)=trA (S.D j) (v j)) /\
    (∀ sl,(∀ q x,look (S.bas i) q=some x->look sl q=some x)->(∀ k' p,fX o k'=true->R k'=some p->look sl p.1=some (p.2 i))->∀ K:AS->Prop,K ⟨(d,v (i+1))::trL (S.D i) sl,S.obj (i+1)⟩->One C ops o K ⟨sl,S.obj i⟩)) \/
   (R k=none/\o.dst=none/\(∀ sl,(∀ q x,look (S.bas i) q=some x->look sl q=some x)->(∀ k' p,fX o k'=true->R k'=some p->look sl p.1=some (p.2 i))->∀ K:AS->Prop,K ⟨trL (S.D i) sl,S.obj (i+1)⟩->One C ops o K ⟨sl,S.obj i⟩))
theorem mj {bas:List (Nat×AV)}{o:Oper}{rev:eJ}{j:Nat}{R:Nat->Option (Nat×(Nat->AV))}(hR:∀ k p,cg rev k=some p->R k=some p){sl:List (Nat×AV)}(h1:∀ i x,look bas i=some x->look sl i=some x)
  (h2:∀ k' p,fX o k'=true->R k'=some p->look sl p.1=some (p.2 j)):∀ {kn:List (Nat×AV)},KnS bas o rev j kn->∀ i x,look kn i=some x->look sl i=some x
 | [],_,i,x,h=>by simp [look] at h
 | (q,y)::r,hk,i,x,h=>by
  rw [aJ] at h;by_cases e:q=i
  ·rw [if_pos e] at h; cases h; subst e;rcases hk.1 with h3|⟨k,v,h3,h4,h5⟩
   ·exact h1 _ _ h3
   ·have:=h2 k _ h3 (hR k _ h4);rw [<- h5]; exact this
  ·rw [if_neg e] at h;exact mj hR h1 h2 hk.2 i x h
theorem oT {rev:eJ}{k:Nat}(h:∀ p∈rev,p.1<k):cg rev k=none:=by
 induction rev with
 | nil=>rfl
 | cons p r ih=>
  obtain ⟨j,q⟩:=p;have h1:=h (j,q) G;simp only [cg]
  have:Nat.beq j k=false:=by
   cases hq:Nat.beq j k
   ·rfl
   ·have:=bx hq;simp only at h1; omega
  rw [this,cond_false];exact ih λ p hp=>h p (by simp [hp])
theorem rK {C:Cx}{ops:Array Oper}{S:eg}{K:eJ->Prop}:∀ {l:List Oper} {k:Nat} {rev:eJ},DS C ops S K l k rev->(∀ p∈rev,p.1<k) ->
  ∃ fin:eJ,K fin/\(∀ i,i<k->cg fin i=cg rev i)/\(∀ p∈fin,p.1<k+l.length) /\
   (∀ (i:Nat) o,l[i]? = some o->kV C ops S (cg fin) o (k+i)) /\
   (∃ pre:eJ,fin=pre++rev/\(∀ p∈pre,∀ q∈rev,p.2.1≠q.2.1)/\(∀ (i j:Nat) p q,pre[i]? = some p->pre[j]? = some q->p.2.1=q.2.1->i=j)/\(∀ p∈pre,k<=p.1)/\∀ (i j:Nat) p q,pre[i]? = some p->pre[j]? = some q->p.1=q.1->i=j)
 | [],k,rev,h,hlt=>⟨rev,h,λ _ _=>rfl,hlt,λ i o h=>by simp at h,[],Z,by simp,by simp,by simp,by simp⟩
 | o::rest,k,rev,h,hlt=>by
  -- one more result
  have more:∀ (d:Nat) (v:Nat->AV),(rev.all λ p=>!(Nat.beq p.2.1 d))=true->DS C ops S K rest (k+1) ((k,d,v)::rev) ->
    (∀ fin:eJ,(∀ q p,cg rev q=some p->cg fin q=some p)->cg fin k=some (d,v)->kV C ops S (cg fin) o k)->∃ fin:eJ,K fin/\(∀ i,i<k->cg fin i=cg rev i)/\(∀ p∈fin,p.1<k+(rest.length+1)) /\
     (∀ (i:Nat) o',(o::rest)[i]? = some o'->kV C ops S (cg fin) o' (k+i)) /\
     (∃ pre:eJ,fin=pre++rev/\(∀ p∈pre,∀ q∈rev,p.2.1≠q.2.1)/\(∀ (i j:Nat) p q,pre[i]? = some p->pre[j]? = some q->p.2.1=q.2.1->i=j)/\(∀ p∈pre,k<=p.1)/\∀ (i j:Nat) p q,pre[i]? = some p->pre[j]? = some q->p.1=q.1->i=j):=by
   intro d v hf hrest howes
   obtain ⟨fin,f1,f2,f3,f4,pre,f5,f6,f7,f8,f9⟩:=rK hrest (λ p hp=>by
    rcases ro.1 hp with rfl|hp
    ·exact Nat.lt_succ_self k
    ·exact Nat.lt_succ_of_lt (hlt p hp))
   have hkk:cg fin k=some (d,v):=by
    rw [f2 k (Nat.lt_succ_self k)];simp [cg]
   have hsub:∀ q,q<k->cg fin q=cg rev q:=by
    intro q hq;rw [f2 q (Nat.lt_succ_of_lt hq)];simp only [cg]
    have:Nat.beq k q=false:=by
     cases hb:Nat.beq k q
     ·rfl
     ·have:=bx hb; omega
    rw [this,cond_false]
   have hfrd:∀ q∈rev,q.2.1≠d:=λ q hq e=>by
    have:=qr.1 hf q hq;simp [e] at this
   refine ⟨fin,f1,hsub,λ p hp=>by have:=f3 p hp; omega,λ i o' ho'=>?_,pre++[(k,d,v)],by rw [f5]; simp,λ p hp q hq=>?_,λ i j p q hi hj e=>?_,λ p hp=>?_,λ i j p q hi hj e=>?_⟩
   ·cases i with
    | zero=>
     simp only [List.getElem?_cons_zero,aq] at ho';subst ho';refine howes fin (λ q p hq=>?_) hkk
     have hqk:q<k:=by
      by_cases hqk:q<k
      ·exact hqk
      ·exfalso;have:cg rev q=none:=oT λ p hp=>Nat.lt_of_lt_of_le (hlt p hp) (Nat.le_of_not_lt hqk);rw [this] at hq; cases hq
     rw [hsub q hqk]; exact hq
    | succ i=>
     simp only [List.getElem?_cons_succ] at ho';have:=f4 i o' ho'
     rwa [show k+1+i=k+(i+1) by omega] at this
   ·rcases List.mem_append.1 hp with hp|hp
    ·exact f6 p hp q (by simp [hq])
    ·simp only [List.mem_singleton] at hp;subst hp;exact λ e=>hfrd q hq e.symm
   ·have key:∀ (i:Nat) p,(pre++[(k,d,v)])[i]? = some p->(i<pre.length/\pre[i]? = some p)\/(i=pre.length/\p=(k,d,v)):=by
     intro i p h;rcases Nat.lt_or_ge i pre.length with hi|hi
     ·rw [List.getElem?_append_left hi] at h; exact .inl ⟨hi,h⟩
     ·rw [List.getElem?_append_right hi] at h;have hl:=(List.getElem?_eq_some_iff.1 h).1;simp at hl;have hi0:i=pre.length:=by omega
      subst hi0;simp at h;exact .inr ⟨rfl,h.symm⟩
    rcases key i p hi with ⟨a1,a2⟩|⟨a1,rfl⟩ <;> rcases key j q hj with ⟨b1,b2⟩|⟨b1,rfl⟩
    ·exact f7 i j p q a2 b2 e
    ·exact absurd e (f6 p (List.mem_of_getElem? a2) (k,d,v) G)
    ·exact absurd e.symm (f6 q (List.mem_of_getElem? b2) (k,d,v) G)
    ·omega
   ·rcases List.mem_append.1 hp with hp|hp
    ·have:=f8 p hp; omega
    ·simp only [List.mem_singleton] at hp; subst hp; exact bt _
   ·have key:∀ (i:Nat) p,(pre++[(k,d,v)])[i]? = some p->(i<pre.length/\pre[i]? = some p)\/(i=pre.length/\p=(k,d,v)):=by
     intro i p h;rcases Nat.lt_or_ge i pre.length with hi|hi
     ·rw [List.getElem?_append_left hi] at h; exact .inl ⟨hi,h⟩
     ·rw [List.getElem?_append_right hi] at h;have hl:=(List.getElem?_eq_some_iff.1 h).1;simp at hl;have hi0:i=pre.length:=by omega
      subst hi0;simp at h;exact .inr ⟨rfl,h.symm⟩
    rcases key i p hi with ⟨a1,a2⟩|⟨a1,rfl⟩ <;> rcases key j q hj with ⟨b1,b2⟩|⟨b1,rfl⟩
    ·exact f9 i j p q a2 b2 e
    ·have:=f8 p (List.mem_of_getElem? a2); simp only at e; omega
    ·have:=f8 q (List.mem_of_getElem? b2); simp only at e; omega
    ·omega
  unfold DS at h
  cases hi:S.imp.findIdx? (Nat.beq k) with
  | none=>
   rw [hi] at h;obtain ⟨d,v,hd,hf,hb,hv,hs,hrest⟩:=h;refine more d v hf hrest λ fin hR hk=>?_;unfold kV;rw [hi];refine ⟨d,v,hk,hd,hb,hv,λ j hj hal sl h1 h2 K hK=>?_⟩;obtain ⟨kn,hkn,CN⟩:=hs j hj hal;exact CN sl (mj hR h1 h2 hkn) K hK
  | some i=>
   rw [hi] at h;obtain ⟨kn,hkn,⟨d,v,hd,hf,hb,hv,CN,hrest⟩|⟨hd,CN,hrest⟩⟩:=h
   ·refine more d v hf hrest λ fin hR hk=>?_;unfold kV;rw [hi];exact .inl ⟨d,v,hk,hd,hb,hv,λ sl h1 h2 K hK=>CN sl (mj hR h1 h2 hkn) K hK⟩
   ·obtain ⟨fin,f1,f2,f3,f4,pre,f5,f6,f7,f8,f9⟩:=rK hrest (λ p hp=>Nat.lt_succ_of_lt (hlt p hp));refine ⟨fin,f1,λ q hq=>f2 q (Nat.lt_succ_of_lt hq),λ p hp=>by have:=f3 p hp; simp only [d4]; omega,λ q o' ho'=>?_,pre,f5,f6,f7,λ p hp=>by have:=f8 p hp; omega,f9⟩
    cases q with
    | zero=>
     simp only [List.getElem?_cons_zero,aq] at ho';subst ho'
     have hkn':cg fin k=none:=by
      rw [f2 k (Nat.lt_succ_self k)];exact oT hlt
     unfold kV;rw [Nat.add_zero,hi];refine .inr ⟨hkn',hd,λ sl h1 h2 K hK=>CN sl (mj (λ q p hq=>?_) h1 h2 hkn) K hK⟩
     have hqk:q<k:=by
      by_cases hqk:q<k
      ·exact hqk
      ·exfalso;have:cg rev q=none:=oT λ p hp=>Nat.lt_of_lt_of_le (hlt p hp) (Nat.le_of_not_lt hqk);rw [this] at hq; cases hq
     rw [f2 q (Nat.lt_succ_of_lt hqk)]; exact hq
    | succ q=>
     simp only [List.getElem?_cons_succ] at ho';have:=f4 q o' ho'
     rwa [show k+1+q=k+(q+1) by omega] at this
theorem jI:∀ {rev:eJ} {k:Nat} {p:Nat×(Nat->AV)},cg rev k=some p->(k,p)∈rev
 | [],k,p,h=>by simp [cg] at h
 | (j,q)::r,k,p,h=>by
  simp only [cg] at h
  cases hb:Nat.beq j k
  ·rw [hb,cond_false] at h;exact List.mem_cons_of_mem _ (jI h)
  ·rw [hb,cond_true] at h
   cases h
   have:=bx hb;subst this;simp
theorem p7:∀ {rev:eJ} {j i:Nat} {x:AV},(i,x)∈bD rev j->∃ k v,(k,i,v)∈rev/\v j=x
 | [],j,i,x,h=>by simp [bD] at h
 | (k,d,v)::r,j,i,x,h=>by
  simp only [bD] at h;rcases ro.1 h with e|h
  ·cases e; exact ⟨k,v,by simp,rfl⟩
  ·obtain ⟨k',v',h1,h2⟩:=p7 h;exact ⟨k',v',List.mem_cons_of_mem _ h1,h2⟩
theorem gC {ops:Array Oper}:∀ {imp:List Nat},chainB ops imp=true->∀ (i a b:Nat) o,imp[i]? = some a->imp[i+1]? = some b->ops[b]? = some o->iD ops 4 o a=true
 | [],_,i,a,b,o,h,_,_=>by simp at h
 | [x],_,i,a,b,o,h1,h2,_=>by
  cases i with
  | zero=>simp at h2
  | succ i=>simp at h1
 | x::y::r,hc,i,a,b,o,h1,h2,h3=>by
  simp only [chainB,n7] at hc
  cases i with
  | zero=>
   simp only [List.getElem?_cons_zero,aq,List.getElem?_cons_succ] at h1 h2;subst h1 h2;have:=hc.1;rw [Array.getElem?_toList,h3] at this;exact this
  | succ i=>
   simp only [List.getElem?_cons_succ] at h1 h2;exact gC hc.2 i a b o h1 (by simpa using h2) h3
theorem tT {ops:Array Oper}{listed:Array Bool}(hs:listed.size=ops.size)(hord:∀ (j:Nat) o,ops[j]? = some o->∀ e∈o.after,Region.binds .any e=true->e.on<j)(h:Region.ready .any ops listed=[]) :
  ∀ j,j<ops.size->listed.getD j false=true:=by
 intro j
 induction j using Nat.strongRecOn with
 | ind j ih=>
  intro hj
  cases hv:listed.getD j false with
  | true=>rfl
  | false=>
   have hjl:j<listed.size:=by omega
   have:j∈Region.ready .any ops listed:=by
    rw [mem_ready];refine ⟨?_,ops[j],Array.getElem?_eq_getElem hj,λ e he hb=>?_⟩
    ·simp only [Array.getD_eq_getD_getElem?,Array.getElem?_eq_getElem hjl,rg] at hv ⊢;exact hv
    ·have hlt:=hord j _ (Array.getElem?_eq_getElem hj) e he hb;exact ih e.on hlt O
   rw [h] at this
   cases this
structure rU (C:Cx)(ops:Array Oper)(S:eg)(fin:eJ):Prop where
 owes:∀ (k:Nat) o,ops[k]? = some o->kV C ops S (cg fin) o k
 lt:∀ k p,cg fin k=some p->k<ops.size
 same:∀ k k' p p',cg fin k=some p->cg fin k'=some p'->p.1=p'.1->k=k'
 num:∀ (i j:Nat) p q,fin[i]? = some p->fin[j]? = some q->p.1=q.1->i=j
 len:S.imp.length=S.m
 bas:∀ j,j<S.m->de (trL (S.D j) (S.bas j)) (S.bas (j+1))
 nd:nodupB S.imp=true
 inn:S.imp.all (λ i=>Nat.blt i ops.size)=true
 ord:∀ (j:Nat) o,ops[j]? = some o->∀ e∈o.after,Region.binds .any e=true->e.on<j
theorem rU.mk' {C:Cx}{ops:Array Oper}{S:eg}{K:eJ->Prop}(CE:S.imp.length=S.m)
  (hbas:∀ j,j<S.m->de (trL (S.D j) (S.bas j)) (S.bas (j+1))) (hnd:nodupB S.imp=true) (hin:S.imp.all (λ i=>Nat.blt i ops.size)=true)
  (hord:(ops.toList.zipIdx.all λ p=>p.1.after.toList.all λ e=>!(Region.binds .any e)||Nat.blt e.on p.2)=true) (h:DS C ops S K ops.toList 0 []):∃ fin,K fin/\rU C ops S fin:=by
 obtain ⟨fin,hfin,_,hfl,howes,pre,hpre,_,hdst,_,hnum⟩:=rK h G;rw [List.append_nil] at hpre;subst hpre;simp only [rd,ur] at hfl howes;have howes':∀ (k:Nat) o,ops[k]? = some o->kV C ops S (cg fin) o k:=λ k o ho=>howes k o (by rw [Array.getElem?_toList]; exact ho)
 have hord':∀ (j:Nat) o,ops[j]? = some o->∀ e∈o.after,Region.binds .any e=true->e.on<j:=by
  intro j o ho e he hbe
  have h1:=qr.1 hord (o,j) (by
   rw [List.mem_iff_getElem?]
   exact ⟨j,by rw [List.getElem?_zipIdx,Array.getElem?_toList,ho]; simp⟩)
  have h2:=qr.1 h1 e (Array.mem_toList_iff.2 he);simp only [hbe,Bool.not_true,Bool.false_or] at h2;exact mv ▸ h2
 have hlt:∀ k p,cg fin k=some p->k<ops.size:=λ k p h=>hfl _ (jI h)
 have hsame:∀ k k' p p',cg fin k=some p->cg fin k'=some p'->p.1=p'.1->k=k':=by
  intro k k' p p' h1 h2 e;obtain ⟨i,hi⟩:=List.mem_iff_getElem?.1 (jI h1);obtain ⟨i',hi'⟩:=List.mem_iff_getElem?.1 (jI h2);have:=hdst i i' _ _ hi hi' e;subst this;rw [hi] at hi'; cases hi'; rfl
 have hdstOf:∀ k o p,ops[k]? = some o->cg fin k=some p->o.dst=some p.1:=by
  intro k o p ho hk;have h:=howes' k o ho;unfold kV at h;split at h
  ·obtain ⟨d,v,h1,h2,_⟩:=h;rw [hk] at h1; cases h1; exact h2
  ·rcases h with ⟨d,v,h1,h2,_⟩|⟨h1,_⟩
   ·rw [hk] at h1; cases h1; exact h2
   ·rw [hk] at h1; cases h1
 exact ⟨fin,hfin,howes',hlt,hsame,hnum,CE,hbas,hnd,hin,hord'⟩
def sS (ops:Array Oper)(S:eg)(listed:Array Bool)(j:Nat):Prop:=j<=S.m/\(∀ (i k:Nat),S.imp[i]? = some k->(listed.getD k false=true↔i<j))/\(∀ (k:Nat) o,ops[k]? = some o->listed.getD k false=true->∀ e∈o.after,Region.binds .any e=true->listed.getD e.on false=true)
def PKn (S:eg)(fin:eJ)(listed:Array Bool)(j:Nat)(sl':List (Nat×AV)):Prop:=(∀ i x,look (S.bas j) i=some x->look sl' i=some x)/\(∀ k p,listed.getD k false=true->cg fin k=some p->look sl' p.1=some (p.2 j))
structure PAt (C:Cx)(ops:Array Oper)(S:eg)(fin:eJ)(fuel:Nat)(listed:Array Bool)(g:Gh)(a:Act)(w:World)(sl':List (Nat×AV))(j:Nat):Prop where
 sz:listed.size=ops.size
 un:unl ops.size listed=fuel
 inv:sS ops S listed j
 kn:PKn S fin listed j sl'
 st:St C.n C.w0 C.F g ⟨sl',S.obj j⟩ a w
theorem AS.le_refl (s:AS):s.le s:=⟨λ j x h=>by unfold AS.get; rw [h]; exact AV.sub_refl _,λ id cs h=>⟨cs,h,bt _,λ i c d h1 h2=>by rw [h1] at h2; cases h2; exact AV.sub_refl _⟩⟩
theorem iN {C:Cx}{ops:Array Oper}{Q:Exit->AS->Prop}{S:eg}{fin:eJ}(hP:rU C ops S fin){t:AS}(hle:(⟨bD fin S.m++S.bas S.m,S.obj S.m⟩:AS).le t)(hfin:Q .normal t)(j0:Nat)
  (hsw:∀ (fuel:Nat) (listed:Array Bool) (g:Gh) (a:Act) (w:World) (sl':List (Nat×AV)) (j:Nat),j0<=j->PAt C ops S fin (fuel+1) listed g a w sl' j->∀ i q,i∈Region.ready .any ops listed->S.imp[q]? = some i->j<q ->
   wpOp C.P ops (λ e a' w'=>∃ g' s',St C.n C.w0 C.F g' s' a' w'/\Q e s') i (wpAny C.P .any ops (λ e a' w'=>∃ g' s',St C.n C.w0 C.F g' s' a' w'/\Q e s') fuel (listed.setIfInBounds i true)) a w) :
  (∀ (fuel:Nat) (listed:Array Bool) (g:Gh) (a:Act) (w:World) (sl':List (Nat×AV)) (j:Nat),j0<=j->PAt C ops S fin fuel listed g a w sl' j->wpAny C.P .any ops (λ e a' w'=>∃ g' s',St C.n C.w0 C.F g' s' a' w'/\Q e s') fuel listed a w) /\
  (∀ (fuel:Nat) (listed:Array Bool) (g:Gh) (a:Act) (w:World) (sl':List (Nat×AV)) (j i:Nat),(j0<=j\/(j0<=j+1/\S.imp[j]? = some i))->i∈Region.ready .any ops listed->PAt C ops S fin (fuel+1) listed g a w sl' j ->
   wpOp C.P ops (λ e a' w'=>∃ g' s',St C.n C.w0 C.F g' s' a' w'/\Q e s') i (wpAny C.P .any ops (λ e a' w'=>∃ g' s',St C.n C.w0 C.F g' s' a' w'/\Q e s') fuel (listed.setIfInBounds i true)) a w):=by
 obtain ⟨howes',hlt,hsame,hnum,CE,hbas,hnd,hin,hord'⟩:=hP;have himp:∀ {k i:Nat},S.imp.findIdx? (Nat.beq k)=some i->S.imp[i]? = some k:=λ h=>gT h
 have himp2:∀ {k i:Nat},S.imp[i]? = some k->S.imp.findIdx? (Nat.beq k)=some i:=by
  intro k i h
  cases hf:S.imp.findIdx? (Nat.beq k) with
  | none=>
   have:=List.findIdx?_eq_none_iff.1 hf k (List.mem_of_getElem? h);simp at this
  | some i'=>
   have:=ff hnd _ _ _ (himp hf) h;rw [this]
 have done:∀ (listed:Array Bool) (g:Gh) (a:Act) (w:World) (sl':List (Nat×AV)) (j:Nat),(∀ k,k<ops.size->listed.getD k false=true)->sS ops S listed j->PKn S fin listed j sl'->St C.n C.w0 C.F g ⟨sl',S.obj j⟩ a w ->
   ∃ g' s',St C.n C.w0 C.F g' s' a w/\Q .normal s':=by
  intro listed g a w sl' j hall hI hK hs
  have hj:j=S.m:=by
   rcases Nat.lt_or_ge j S.m with hlt|hge
   ·exfalso;have hjl:j<S.imp.length:=by omega
    have h1:=(hI.2.1 j S.imp[j] (List.getElem?_eq_getElem hjl)).1 (hall _ (by
     have:=qr.1 hin S.imp[j] (List.getElem_mem hjl)
     exact mv ▸ this))
    omega
   ·exact Nat.le_antisymm hI.1 hge
  subst hj;refine ⟨g,t,(hs.weaken (t:=⟨bD fin S.m++S.bas S.m,S.obj S.m⟩) ?_).weaken hle,hfin⟩;refine zH λ i x hx=>?_;rw [fe] at hx
  cases hq:look (bD fin S.m) i with
  | none=>rw [hq] at hx; exact hK.1 i x (by simpa using hx)
  | some y=>
   rw [hq] at hx;simp only [Option.some_or,aq] at hx;subst hx;obtain ⟨k,v,h1,h2⟩:=p7 (fv hq)
   have hk:cg fin k=some (i,v):=by
    obtain ⟨q,hq'⟩:=List.mem_iff_getElem?.1 h1
    cases hl:cg fin k with
    | none=>
     exfalso
     have hno:∀ {rev:eJ} {k:Nat} {p:Nat×(Nat->AV)},(k,p)∈rev->cg rev k≠none:=by
      intro rev
      induction rev with
      | nil=>intro k p h; simp at h
      | cons z r ih=>
       intro k p h;obtain ⟨j,q⟩:=z;simp only [cg]
       cases hb:Nat.beq j k
       ·rw [cond_false];rcases ro.1 h with e|h
        ·cases e; simp at hb
        ·exact ih h
       ·rw [cond_true]; simp
     exact hno h1 hl
    | some p=>
     obtain ⟨q2,hq2⟩:=List.mem_iff_getElem?.1 (jI hl);have:=hnum q q2 _ _ hq' hq2 rfl;subst this;rw [hq'] at hq2; cases hq2; rfl
   have:=hK.2 k _ (hall k (hlt k _ hk)) hk;rw [<- h2]; exact this
 have step:∀ (fuel:Nat),(∀ (listed:Array Bool) (g:Gh) (a:Act) (w:World) (sl':List (Nat×AV)) (j:Nat),j0<=j->PAt C ops S fin fuel listed g a w sl' j->wpAny C.P .any ops (λ e a' w'=>∃ g' s',St C.n C.w0 C.F g' s' a' w'/\Q e s') fuel listed a w) ->
   ∀ (listed:Array Bool) (g:Gh) (a:Act) (w:World) (sl':List (Nat×AV)) (j i:Nat),(j0<=j\/(j0<=j+1/\S.imp[j]? = some i))->i∈Region.ready .any ops listed->PAt C ops S fin (fuel+1) listed g a w sl' j ->
    wpOp C.P ops (λ e a' w'=>∃ g' s',St C.n C.w0 C.F g' s' a' w'/\Q e s') i (wpAny C.P .any ops (λ e a' w'=>∃ g' s',St C.n C.w0 C.F g' s' a' w'/\Q e s') fuel (listed.setIfInBounds i true)) a w:=by
   intro fuel ih' listed g a w sl' j i hwhen hi Dm;have hi0:=hi;obtain ⟨CC,hu,hI,hK,hs⟩:=Dm
   have ih:∀ (listed:Array Bool) (g:Gh) (a:Act) (w:World) (sl':List (Nat×AV)) (j:Nat),listed.size=ops.size->unl ops.size listed=fuel->sS ops S listed j->PKn S fin listed j sl'->St C.n C.w0 C.F g ⟨sl',S.obj j⟩ a w->j0<=j ->
     wpAny C.P .any ops (λ e a' w'=>∃ g' s',St C.n C.w0 C.F g' s' a' w'/\Q e s') fuel listed a w:=λ listed g a w sl' j h1 h2 h3 h4 h5 h6=>ih' listed g a w sl' j h6 ⟨h1,h2,h3,h4,h5⟩
   obtain ⟨h1,o,ho,hafter⟩:=mem_ready.1 hi;have hil:i<ops.size:=(Array.getElem?_eq_some_iff.1 ho).1
   have h1':listed.getD i false=false:=by
    have hil2:i<listed.size:=by omega
    simp only [Array.getD_eq_getD_getElem?,Array.getElem?_eq_getElem hil2,rg] at h1 ⊢;exact h1
   have hbo:∀ k,fX o k=true->listed.getD k false=true:=by
    intro k hk;obtain ⟨e,he,hbe⟩:=List.any_eq_true.1 hk;simp only [n7] at hbe;have:=bx hbe.1;subst this;exact hafter e (Array.mem_toList_iff.1 he) hbe.2
   have hget:∀ q,(listed.setIfInBounds i true).getD q false=true->q=i\/listed.getD q false=true:=by
    intro q hq;by_cases e:q=i
    ·exact .inl e
    ·rw [getD_set_ne false (λ h=>e h.symm)] at hq; exact .inr hq
   have hget2:∀ q,listed.getD q false=true->(listed.setIfInBounds i true).getD q false=true:=by
    intro q hq;have CQ:q≠i:=λ e=>by subst e; rw [h1'] at hq; cases hq
    rw [getD_set_ne false (λ h=>CQ h.symm)]; exact hq
   have hgeti:(listed.setIfInBounds i true).getD i false=true:=by
    have hil2:i<listed.size:=by omega
    simp [Array.getD_eq_getD_getElem?,Array.getElem?_setIfInBounds,hil2]
   have hclosed:∀ k o',ops[k]? = some o'->(listed.setIfInBounds i true).getD k false=true->∀ e∈o'.after,Region.binds .any e=true->(listed.setIfInBounds i true).getD e.on false=true:=by
    intro k o' ho' hk e he hbe;rcases hget k hk with rfl|hk
    ·rw [ho] at ho'; cases ho';exact hget2 _ (hafter e he hbe)
    ·exact hget2 _ (hI.2.2 k o' ho' hk e he hbe)
   have howe:=howes' i o ho;unfold kV at howe
   cases hfi:S.imp.findIdx? (Nat.beq i) with
   | none=>
    rw [hfi] at howe;obtain ⟨d,v,hRk,hd,Fb,hv,CN⟩:=howe
    have hj0:j0<=j:=by
     rcases hwhen with h|⟨_,h⟩
     ·exact h
     ·rw [himp2 h] at hfi; cases hfi
    have hal:lX ops S.imp o i j=true:=by
     unfold lX;simp only [n7,qr];refine ⟨λ p hp=>?_,λ p hp=>?_⟩
     ·obtain ⟨q,hq⟩:=List.mem_iff_getElem?.1 hp;rw [List.getElem?_zipIdx] at hq;simp only [ld,rd] at hq;obtain ⟨x,hx,rfl⟩:=hq
      cases hbx:iD ops 4 o x
      ·simp [hbx]
      ·have:=(hI.2.1 q x hx).1 (fR hI.2.2 4 o x hbx hafter);simp only [hbx,Bool.not_true,Bool.false_or];rw [mv]; exact this
     ·obtain ⟨q,hq⟩:=List.mem_iff_getElem?.1 hp;rw [List.getElem?_zipIdx] at hq;simp only [ld,rd] at hq;obtain ⟨x,hx,rfl⟩:=hq;simp only [Array.getElem?_toList]
      cases hox:ops[x]? with
      | none=>rfl
      | some ox=>
       simp only
       cases hbx:fX ox i
       ·simp
       ·simp only [Bool.not_true,Bool.false_or];refine Nat.ble_eq_true_of_le (Nat.le_of_not_lt λ hlt=>?_);have hl:=(hI.2.1 q x hx).2 hlt;obtain ⟨e,he,hbe⟩:=List.any_eq_true.1 hbx;simp only [n7] at hbe;have:=bx hbe.1;subst this;have:=hI.2.2 x ox hox hl e (Array.mem_toList_iff.1 he) hbe.2;rw [h1'] at this; cases this
    have CH:=CN j hI.1 hal sl' hK.1 (λ k' p hb hk'=>hK.2 k' p (hbo k' hb) hk') (λ s=>s=⟨(d,v j)::sl',S.obj j⟩) rfl i ho;refine oy (CH g a w hs) ?_;rintro a' w' ⟨g',s',hs',rfl⟩;refine ih _ g' a' w' ((d,v j)::sl') j (by simpa using CC) ?_ ⟨hI.1,λ q k hq=>?_,hclosed⟩ ⟨λ q x hx=>?_,λ k p hk hp=>?_⟩ hs' hj0
    ·have:=oq CC hil h1; omega
    ·have CQ:k≠i:=λ e=>by subst e; rw [himp2 hq] at hfi; cases hfi
     rw [getD_set_ne false (λ h=>CQ h.symm)]; exact hI.2.1 q k hq
    ·rw [aJ,if_neg]
     ·exact hK.1 q x hx
     ·intro e; subst e; rw [Fb j] at hx; cases hx
    ·rw [aJ];rcases hget k hk with rfl|hk
     ·rw [hRk] at hp; cases hp; rw [if_pos rfl]
     ·rw [if_neg]
      ·exact hK.2 k p hk hp
      ·intro e;have:=hsame i k _ _ hRk hp e;subst this;rw [h1'] at hk; cases hk
   | some q=>
    rw [hfi] at howe;have hq:=himp hfi
    -- its stage
    have h2:¬ q<j:=λ h=>by have:=(hI.2.1 q i hq).2 h; rw [h1'] at this; cases this
    by_cases hqj:j<q
    ·rcases hwhen with hj0|⟨_,hji⟩
     ·exact hsw fuel listed g a w sl' j hj0 ⟨CC,hu,hI,hK,hs⟩ i q hi0 hq hqj
     ·have:=ff hnd _ _ _ hji hq; omega
    have hqj:q=j:=by omega
    have hj1:j0<=j+1:=by
     rcases hwhen with h|⟨h,_⟩ <;> omega
    subst hqj;have hqm:q<S.m:=by have:=(List.getElem?_eq_some_iff.1 hq).1; omega
    have hbnext:∀ (sl'':List (Nat×AV)),(∀ z x,look sl' z=some x->look sl'' z=some (trA (S.D q) x))->∀ z x,look (S.bas (q+1)) z=some x->look sl'' z=some x:=by
     intro sl'' Cy z x hx;have hx:=jw (hbas q hqm) z x hx;rw [kr,ld] at hx;obtain ⟨y,hy,rfl⟩:=hx;exact Cy z y (hK.1 z y hy)
    have hInext:sS ops S (listed.setIfInBounds i true) (q+1):=by
     refine ⟨hqm,λ z k hz=>?_,hclosed⟩;by_cases e:k=i
     ·subst e;have:=ff hnd _ _ _ hz hq;subst this;exact ⟨λ _=>Nat.lt_succ_self _,λ _=>hgeti⟩
     ·rw [getD_set_ne false (λ h=>e h.symm),hI.2.1 z k hz];constructor
      ·intro h; omega
      ·intro h;rcases Nat.lt_or_ge z q with h5|h5
       ·exact h5
       ·have:z=q:=by omega
        subst this;rw [hq] at hz; cases hz; exact absurd rfl e
    have hvnext:∀ k p,listed.getD k false=true->cg fin k=some p->p.2 (q+1)=trA (S.D q) (p.2 q):=by
     intro k p hk hp;have hkl:=hlt k p hp;have hok:=howes' k ops[k] (Array.getElem?_eq_getElem hkl);unfold kV at hok;split at hok
     ·obtain ⟨d,v,e1,_,_,e2,_⟩:=hok;rw [hp] at e1; cases e1;refine e2 q hqm (qr.2 λ p hp'=>?_);obtain ⟨z,hz⟩:=List.mem_iff_getElem?.1 hp';rw [List.getElem?_zipIdx] at hz;simp only [ld,rd] at hz;obtain ⟨x,hx,rfl⟩:=hz
      cases hbx:iD ops 4 ops[k] x
      ·rfl
      ·have:=(hI.2.1 z x hx).1 (fR hI.2.2 4 _ x hbx (hI.2.2 k _ (Array.getElem?_eq_getElem hkl) hk));simp only [Bool.not_true,Bool.false_or];rw [mv]; exact this
     ·rename_i z hz;have hzq:z<q:=(hI.2.1 z k (himp hz)).1 hk;rcases hok with ⟨d,v,e1,_,_,e2,_⟩|⟨e1,_⟩
      ·rw [hp] at e1; cases e1; exact e2 q hzq hqm
      ·rw [hp] at e1; cases e1
    rcases howe with ⟨d,v,hRk,hd,Fb,hv,CN⟩|⟨hRk,hd,CN⟩
    ·have CH:=CN sl' hK.1 (λ k' p hb hk'=>hK.2 k' p (hbo k' hb) hk') (λ s=>s=⟨(d,v (q+1))::trL (S.D q) sl',S.obj (q+1)⟩) rfl i ho;refine oy (CH g a w hs) ?_;rintro a' w' ⟨g',s',hs',rfl⟩;refine ih _ g' a' w' ((d,v (q+1))::trL (S.D q) sl') (q+1) (by simpa using CC) ?_ hInext ⟨λ z x hx=>?_,λ k p hk hp=>?_⟩ hs' hj1
     ·have:=oq CC hil h1; omega
     ·rw [aJ,if_neg]
      ·exact hbnext (trL (S.D q) sl') (λ z x h=>by rw [kr,h]; rfl) z x hx
      ·intro e; subst e; rw [Fb (q+1) (Nat.lt_succ_self q)] at hx; cases hx
     ·rw [aJ];rcases hget k hk with rfl|hk
      ·rw [hRk] at hp; cases hp; rw [if_pos rfl]
      ·rw [if_neg]
       ·rw [kr,hK.2 k p hk hp,hvnext k p hk hp]; rfl
       ·intro e;have:=hsame i k _ _ hRk hp e;subst this;rw [h1'] at hk; cases hk
    ·have CH:=CN sl' hK.1 (λ k' p hb hk'=>hK.2 k' p (hbo k' hb) hk') (λ s=>s=⟨trL (S.D q) sl',S.obj (q+1)⟩) rfl i ho;refine oy (CH g a w hs) ?_;rintro a' w' ⟨g',s',hs',rfl⟩;refine ih _ g' a' w' (trL (S.D q) sl') (q+1) (by simpa using CC) ?_ hInext ⟨λ z x hx=>?_,λ k p hk hp=>?_⟩ hs' hj1
     ·have:=oq CC hil h1; omega
     ·exact hbnext (trL (S.D q) sl') (λ z x h=>by rw [kr,h]; rfl) z x hx
     ·rcases hget k hk with rfl|hk
      ·rw [hRk] at hp; cases hp
      ·rw [kr,hK.2 k p hk hp,hvnext k p hk hp]; rfl
 have main:∀ (fuel:Nat) (listed:Array Bool) (g:Gh) (a:Act) (w:World) (sl':List (Nat×AV)) (j:Nat),j0<=j->PAt C ops S fin fuel listed g a w sl' j->wpAny C.P .any ops (λ e a' w'=>∃ g' s',St C.n C.w0 C.F g' s' a' w'/\Q e s') fuel listed a w:=by
  intro fuel
  induction fuel with
  | zero=>
   intro listed g a w sl' j hj0 ⟨CC,hu,hI,hK,hs⟩;have hall:=tZ hu;refine ⟨?_,done listed g a w sl' j hall hI hK hs⟩;rw [List.eq_nil_iff_forall_not_mem];intro i hi;obtain ⟨h1,o,ho,_⟩:=mem_ready.1 hi;have hil:i<ops.size:=(Array.getElem?_eq_some_iff.1 ho).1;have h2:=hall i hil;have hil2:i<listed.size:=by omega
   simp only [Array.getD_eq_getD_getElem?,Array.getElem?_eq_getElem hil2,rg] at h1 h2;rw [h1] at h2; cases h2
  | succ fuel ih=>
   intro listed g a w sl' j hj0 Dm;exact ⟨λ hr=>done listed g a w sl' j (tT Dm.sz hord' hr) Dm.inv Dm.kn Dm.st,λ i hi=>step fuel (λ listed g a w sl' j h1 h2=>ih listed g a w sl' j h1 h2) listed g a w sl' j i (.inl hj0) hi Dm⟩
 exact ⟨main,λ fuel listed g a w sl' j i=>step fuel (main fuel) listed g a w sl' j i⟩
theorem PAt.start {C:Cx}{ops:Array Oper}{S:eg}{fin:eJ}{sl:List (Nat×AV)}{g:Gh}{a:Act}{w:World}(hb:de sl (S.bas 0))(hs:St C.n C.w0 C.F g ⟨sl,S.obj 0⟩ a w) :
  PAt C ops S fin ops.size (Array.replicate ops.size false) g a w sl 0:=by
 refine ⟨by simp,?_,⟨Nat.zero_le _,λ i k hk=>?_,λ k o ho hk=>?_⟩,⟨λ i x hx=>jw hb i x hx,λ k p hk _=>?_⟩,hs⟩
 ·unfold unl;rw [List.filter_eq_self.2,List.length_range];intro j hj;have:=List.mem_range.1 hj;simp [this]
 ·constructor
  ·intro h;exfalso;rw [Array.getD_eq_getD_getElem?,Array.getElem?_replicate] at h;split at h <;> simp at h
  ·intro h; omega
 ·exfalso;rw [Array.getD_eq_getD_getElem?,Array.getElem?_replicate] at hk;split at hk <;> simp at hk
 ·exfalso;rw [Array.getD_eq_getD_getElem?,Array.getElem?_replicate] at hk;split at hk <;> simp at hk
theorem xz {C:Cx}{id:Nat}{ops:Array Oper}{Q:Exit->AS->Prop}{sl:List (Nat×AV)}{ob:List (Nat×List AV)}(S:eg)(hm:C.P.follows .mixedOrders=true)(CE:S.imp.length=S.m)(hob:S.obj 0=ob)(hb:de sl (S.bas 0))
  (hbas:∀ j,j<S.m->de (trL (S.D j) (S.bas j)) (S.bas (j+1))) (hnd:nodupB S.imp=true) (hin:S.imp.all (λ i=>Nat.blt i ops.size)=true) (hch:chainB ops S.imp=true)
  (hord:(ops.toList.zipIdx.all λ p=>p.1.after.toList.all λ e=>!(Region.binds .any e)||Nat.blt e.on p.2)=true) (h:DS C ops S (λ rev=>Q .normal ⟨bD rev S.m++S.bas S.m,S.obj S.m⟩) ops.toList 0 []):awp C (.region id ops true) Q ⟨sl,ob⟩:=by
 subst hob;intro g a w hs;obtain ⟨fin,hfin,hP⟩:=rU.mk' CE hbas hnd hin hord h;refine wp_region_any hm ?_;refine (iN hP (AS.le_refl _) hfin 0 ?_).1 _ _ g a _ sl 0 (Nat.zero_le _) (PAt.start hb hs.drew);intro fuel listed g a w sl' j _ Dm i q hi hq hjq;exfalso;obtain ⟨h1,o,ho,hafter⟩:=mem_ready.1 hi
 cases q with
 | zero=>omega
 | succ q=>
  have hql:q<S.imp.length:=by have:=(List.getElem?_eq_some_iff.1 hq).1; omega
  have hb:=gC hch q S.imp[q] i o (List.getElem?_eq_getElem hql) hq ho;have h3:=fR Dm.inv.2.2 4 o S.imp[q] hb hafter;have:=(Dm.inv.2.1 q S.imp[q] (List.getElem?_eq_getElem hql)).1 h3;omega
def m6 (imp:List Nat):eJ->eJ->Prop|(k,d,v)::r,(k',d',v')::r'=>(k=k'/\d=d'/\(imp.any (Nat.beq k)=true\/v 0=v' 0))/\m6 imp r r'|[],[]=>True|_,_=>False
theorem nC {imp:List Nat}:∀ {r1 r2:eJ},m6 imp r1 r2->∀ k p,imp.any (Nat.beq k)=false->cg r2 k=some p->∃ v,cg r1 k=some (p.1,v)/\v 0=p.2 0
 | [],[],_,k,p,_,h=>by cases h
 | (k1,d1,v1)::r,(k2,d2,v2)::r',⟨⟨e1,e2,e3⟩,hr⟩,k,p,hk,h=>by
  subst e1 e2;simp only [cg] at h ⊢
  cases hb:Nat.beq k1 k
  ·rw [hb,cond_false] at h;rw [cond_false];exact nC hr k p hk h
  ·rw [hb,cond_true] at h
   cases h
   rw [cond_true];have:=bx hb;subst this;exact ⟨v1,rfl,e3.resolve_left (by rw [hk]; exact λ h=>by cases h)⟩
 | [],_::_,h,_,_,_,_=>h.elim
 | _::_,[],h,_,_,_,_=>h.elim
theorem u4 {C:Cx}{id:Nat}{ops:Array Oper}{Q:Exit->AS->Prop}{sl:List (Nat×AV)}{ob:List (Nat×List AV)}(S1 S2:eg){k1 k2:Nat}{r:List Nat}(hm:C.P.follows .mixedOrders=true)
  (hi1:S1.imp=k1::k2::r) (hi2:S2.imp=k2::k1::r) (hlen1:S1.imp.length=S1.m) (hlen2:S2.imp.length=S2.m) (hob1:S1.obj 0=ob) (hob2:S2.obj 0=ob) (hb:de sl (S1.bas 0)) (hb2:S2.bas 0=S1.bas 0)
  (hbas1:∀ j,j<S1.m->de (trL (S1.D j) (S1.bas j)) (S1.bas (j+1))) (hbas2:∀ j,j<S2.m->de (trL (S2.D j) (S2.bas j)) (S2.bas (j+1)))
  (hnd:nodupB (k1::k2::r)=true) (hin:(k1::k2::r).all (λ i=>Nat.blt i ops.size)=true) (hch1:chainB ops (k1::r)=true) (hch2:chainB ops (k2::r)=true)
  (hord:(ops.toList.zipIdx.all λ p=>p.1.after.toList.all λ e=>!(Region.binds .any e)||Nat.blt e.on p.2)=true)
  (h:DS C ops S1 (λ rev1=>Q .normal ⟨bD rev1 S1.m++S1.bas S1.m,S1.obj S1.m⟩/\DS C ops S2 (λ rev2=>(⟨bD rev2 S2.m++S2.bas S2.m,S2.obj S2.m⟩:AS).le ⟨bD rev1 S1.m++S1.bas S1.m,S1.obj S1.m⟩/\m6 (k1::k2::r) rev1 rev2) ops.toList 0 []) ops.toList 0 []):awp C (.region id ops true) Q ⟨sl,ob⟩:=by
 intro g a w hs
 have hnd2:nodupB S2.imp=true:=by
  rw [hi2];simp only [nodupB,List.any_cons,Bool.not_or,n7,Bool.not_eq_true'] at hnd ⊢;obtain ⟨⟨a1,a2⟩,a3,a4⟩:=hnd;refine ⟨⟨?_,a3⟩,a2,a4⟩
  cases hq:Nat.beq k2 k1
  ·rfl
  ·rw [bx hq] at a1; rw [Nat.beq_refl] at a1; cases a1
 have hin2:S2.imp.all (λ i=>Nat.blt i ops.size)=true:=by
  rw [hi2];simp only [List.all_cons,n7] at hin ⊢;exact ⟨hin.2.1,hin.1,hin.2.2⟩
 obtain ⟨fin1,⟨hf1,h2⟩,hP1⟩:=rU.mk' hlen1 hbas1 (by rw [hi1]; exact hnd) (by rw [hi1]; exact hin) hord h;obtain ⟨fin2,⟨hf2,hag⟩,hP2⟩:=rU.mk' hlen2 hbas2 hnd2 hin2 hord h2
 -- behind the first change the others come in order
 have chain:∀ (x y:Nat) (S:eg),S.imp=x::y::r->chainB ops (y::r)=true->chainB ops (x::r)=true->∀ (listed:Array Bool) (j i q:Nat),sS ops S listed j->i∈Region.ready .any ops listed->S.imp[q]? = some i->j<q->q=1/\j=0:=by
  intro x y S hS hcy hcx listed j i q hI hi hq hjq;obtain ⟨h1,o,ho,hafter⟩:=mem_ready.1 hi
  have use:∀ z zi,S.imp[z]? = some zi->iD ops 4 o zi=true->z<j:=by
   intro z zi hz hb;exact (hI.2.1 z zi hz).1 (fR hI.2.2 4 o zi hb hafter)
  match q,hq,hjq with
  | 0,_,hjq=>omega
  | 1,_,hjq=>exact ⟨Z,by omega⟩
  | q+2,hq,hjq=>
   exfalso;rw [hS] at hq;simp only [List.getElem?_cons_succ] at hq;have hql:q<r.length:=(List.getElem?_eq_some_iff.1 hq).1
   cases q with
   | zero=>
    have b1:=gC hcy 0 y i o Z (by simpa using hq) ho;have:=use 1 y (by rw [hS]; rfl) b1;have b2:=gC hcx 0 x i o Z (by simpa using hq) ho;omega
   | succ q=>
    have b1:=gC hcy (q+1) r[q] i o (by simp [List.getElem?_eq_getElem (show q<r.length by omega)]) (by simpa using hq) ho;have:=use (q+2) r[q] (by rw [hS]; simp [List.getElem?_eq_getElem (show q<r.length by omega)]) b1;omega
 have two:=iN hP2 hf2 hf1 1 (λ fuel listed g a w sl' j hj Dm i q hi hq hjq=>by
  have:=chain k2 k1 S2 hi2 hch1 hch2 listed j i q Dm.inv hi hq hjq; omega)
 refine wp_region_any hm ?_;refine (iN hP1 (AS.le_refl _) hf1 0 ?_).1 _ _ g a _ sl 0 (Nat.zero_le _) (PAt.start hb (by rw [hob1]; exact hs.drew));intro fuel listed g a w sl' j _ Dm i q hi hq hjq;obtain ⟨rfl,rfl⟩:=chain k1 k2 S1 hi1 hch2 hch1 listed j i q Dm.inv hi hq hjq;have CR:i=k2:=by rw [hi1] at hq; simpa using hq.symm
 subst CR
 have hno:∀ k,(k1::i::r).any (Nat.beq k)=true->listed.getD k false=false:=by
  intro k hk;obtain ⟨x,hx,hkx⟩:=List.any_eq_true.1 hk;have:=bx hkx;subst this;obtain ⟨z,hz⟩:=List.mem_iff_getElem?.1 hx;have:=Dm.inv.2.1 z k (by rw [hi1]; exact hz)
  cases hl:listed.getD k false with
  | false=>rfl
  | true=>have:=this.1 hl; omega
 refine two.2 fuel listed g a w sl' 0 i (.inr ⟨bt _,by rw [hi2]; rfl⟩) hi ⟨Dm.sz,Dm.un,⟨Nat.zero_le _,λ z k hz=>?_,Dm.inv.2.2⟩,⟨λ z x hx=>Dm.kn.1 z x (by rw [<- hb2]; exact hx),λ k p hk hp=>?_⟩,by rw [hob2,<- hob1]; exact Dm.st⟩
 ·constructor
  ·intro hl
   have hmem:k∈(k1::i::r):=by
    have:=List.mem_of_getElem? hz;rw [hi2] at this;simp only [ro] at this ⊢;rcases this with h|h|h
    ·exact .inr (.inl h)
    ·exact .inl h
    ·exact .inr (.inr h)
   rw [hno k (List.any_eq_true.2 ⟨k,hmem,by simp⟩)] at hl
   cases hl
  ·intro h; omega
 ·have hk':(k1::i::r).any (Nat.beq k)=false:=by
   cases hq:(k1::i::r).any (Nat.beq k) with
   | false=>rfl
   | true=>rw [hno k hq] at hk; cases hk
  obtain ⟨v,hv1,hv2⟩:=nC hag k p hk' hp;have:=Dm.kn.2 k _ hk hv1;rw [<- hv2]; exact this
def dJ:List PV->List PV|[]=>[]|e::r=>e.cells++dJ r
theorem iK:∀ (l q:List PV),dJ (l++q)=dJ l++dJ q
 | [],q=>rfl
 | e::r,q=>by simp [dJ,iK r q]
theorem eP {sz:Nat}:∀ {es:List PV},(∀ e∈es,e.cells.length=sz)->(dJ es).length=es.length*sz
 | [],_=>by simp [dJ]
 | e::r,h=>by
  have ih:=eP (sz:=sz) (es:=r) (λ x hx=>h x (by simp [hx]));simp only [dJ,n8,d4,h e G,ih,th]; omega
theorem fC {sz:Nat}:∀ {es:List PV},(∀ e∈es,e.cells.length=sz)->∀ (i:Nat) e (j:Nat) c,es[i]? = some e->e.cells[j]? = some c->(dJ es)[i*sz+j]? = some c
 | [],_,i,e,j,c,h,_=>by simp at h
 | x::r,CC,i,e,j,c,h,hc=>by
  have hx:=CC x G
  cases i with
  | zero=>
   simp only [List.getElem?_cons_zero,aq] at h;subst h;have:=(List.getElem?_eq_some_iff.1 hc).1;simp only [dJ,Nat.zero_mul,rd];rw [List.getElem?_append_left this]; exact hc
  | succ i=>
   simp only [List.getElem?_cons_succ] at h;have ih:=fC (λ x hx=>CC x (by simp [hx])) i e j c h hc;simp only [dJ];rw [List.getElem?_append_right (by rw [hx,th]; omega),hx];rw [show (i+1)*sz+j-sz=i*sz+j by rw [th]; omega];exact ih
theorem xn {sz:Nat}(h0:0<sz){es:List PV}(CC:∀ e∈es,e.cells.length=sz){k:Nat}{c:PV}(h:(dJ es)[k]? = some c) :
  ∃ e,es[k / sz]? = some e/\e.cells[k%sz]? = some c/\k / sz*sz+k%sz=k:=by
 have hk:k<es.length*sz:=by rw [<- eP CC]; exact (List.getElem?_eq_some_iff.1 h).1
 have h1:k / sz<es.length:=(Nat.div_lt_iff_lt_mul h0).2 hk;have h2:k%sz<sz:=Nat.mod_lt _ h0;have h3:k / sz*sz+k%sz=k:=by rw [Nat.mul_comm]; exact Nat.div_add_mod k sz
 have h4:=CC es[k / sz] (List.getElem_mem h1);have h5:=fC CC (k / sz) es[k / sz] (k%sz) ((es[k / sz]).cells[k%sz]' O) (List.getElem?_eq_getElem h1) (List.getElem?_eq_getElem O);rw [h3,h] at h5;exact ⟨_,List.getElem?_eq_getElem h1,by rw [Option.some.inj h5]; exact List.getElem?_eq_getElem O,h3⟩
def d5 {α:Type}(f:α->PV)(l:List α):List AV:=(dJ (l.map f)).map .p
section
variable {C:Cx} {o:Oper} {K:AS->Prop} {sl:List (Nat×AV)} {ob:List (Nat×List AV)} {d:Nat}
theorem ra {w:World}{st:Nat->Nat->Prop}{sz:Nat}(h0:0<sz){ys:List PV}{news:List Value}(CC:∀ y∈ys,y.cells.length=sz)
  (hnews:∀ (i:Nat) y (j:Nat) c,ys[i]? = some y->y.cells[j]? = some c->c.one=true/\∃ u,news[i*sz+j]? = some u/\PRep w st c u) :
  ∀ (k:Nat) c,(dJ ys)[k]? = some c->∃ u,news[k]? = some u/\PRep w st c u:=by
 intro k c h;obtain ⟨e,h1,h2,h3⟩:=xn h0 CC h;obtain ⟨_,u,hu,hr⟩:=hnews _ e _ c h1 h2;rw [h3] at hu;exact ⟨u,hu,hr⟩
theorem wY {es ys:List PV}{t tx e e':TypeId}{i ie j:TI}{y:Operand}{Y0z:AV}(D:Nat->Bool)(hDl:∀ i,D i=true->i<M1)(hDd:D d=true)
  (hi:look C.tt t=some i) (CR:i.k=.slice e) (hie:look C.tt e=some ie) (hj:look C.tt tx=some j) (hjk:j.k=.slice e')
  (hy:evo sl y=some Y0z) (hY:Y0z.elems? = some ys) (CC:∀ y∈ys,y.cells.length=ie.size) (hse:∀ y∈es,y.cells.length=ie.size) (h0:0<ie.size) (hzl:ie.zero.length=ie.size)
  (CE:(es.length+ys.length)*ie.bytes<=140737488355328) (hlen':es.length+ys.length<=9223372036854775807)
  {g:Gh} {a:Act} {w:World} (hs:St C.n C.w0 C.F g ⟨sl,ob⟩ a w) (base:Option Addr) (cap:Nat) (olds:List Value)
  (hold:(Builtin.firstCells ie.size es.length (.slice base es.length cap)).run C.P w.drew=.ok olds.toArray w.drew) (hol:olds.length=es.length*ie.size)
  (hoc:∀ (i:Nat) x,(dJ es)[i]? = some x->∃ u,olds[i]? = some u/\PRep w g.st x u)
  (hg:cap<es.length+ys.length) (ty:TypeId) (hn:Nat.blt d C.n=true) :
  ∃ v w' g',(Builtin.append_ #[t,tx] ty #[.slice base es.length cap,a.eval y]).run C.P w=.ok v w' /\
   St C.n C.w0 C.F g' ⟨(d,.arr d ie.size 0 (es.length+ys.length))::(bV D ⟨sl,ob⟩).sl,(d,(dJ (es++ys)).map .p)::(bV D ⟨sl,ob⟩).ob⟩ (a.put (some d) v) w':=by
 obtain ⟨u,h1,h2⟩:=bc C.good hi;have h3:=aV (h2.trans CR);subst h3;obtain ⟨u',h1',h2'⟩:=bc C.good hj;have h3':=aV (h2'.trans hjk);subst h3';obtain ⟨info,hf1,hf2,hf3,z,hf4,hf5⟩:=dQ C.good hie;have hyv:=dr hY (bg hs hy);obtain ⟨news,hsrc,hnews⟩:=kx (P:=C.P) (sz:=ie.size) h1' hyv CC h0;have hnf:=ra h0 CC hnews;have hfit:=growslice_fits (bytes:=ie.bytes) hg CE;have hrun:=run_append_grow_src w t tx ty e info z h1 hf1 hf4 base es.length cap olds (by rw [hf2]; exact hold) (a.eval y) ys.length news (by rw [hf2]; exact hsrc) hg O (by rw [hf3]; exact hfit);obtain ⟨q,hq⟩:∃ q,q=grownCap w (es.length+ys.length) cap e:=⟨_,rfl⟩
 rw [<- hq] at hrun
 have hqn:es.length+ys.length<=q:=by
  rw [hq]; unfold grownCap; simp only [Question.cut]; omega
 have hzs:z.cells.size=ie.size:=by rw [<- hzl,<- hf5,ur]
 have hnl:news.length=ys.length*ie.size:=hsrc.newsLen;obtain ⟨c,hc⟩:∃ c,c=(olds++news).toArray++Builtin.zeroCells z.cells (q-(es.length+ys.length)):=⟨_,rfl⟩
 rw [<- hc] at hrun
 have CJ:c.size=q*ie.size:=by
  rw [hc];simp only [Array.size_append,List.size_toArray,n8,hol,hsrc.newsLen,size_zeroCells,hzs];rw [<- th,<- th]; congr 1; omega
 have hfl:(dJ (es++ys)).length=(es.length+ys.length)*ie.size:=by
  rw [eP (sz:=ie.size),n8];intro e he;rcases List.mem_append.1 he with h|h
  ·exact hse e h
  ·exact CC e h
 have hqm:(es.length+ys.length)*ie.size<=q*ie.size:=Nat.mul_le_mul_right _ hqn;have hf:=hs.drew.fresh D hDl d hDd (λ _=>False) c e
 have hp:=hf.put (d:=some d) (λ t ht=>by cases ht; exact mv ▸ hn) (x:=.arr d ie.size 0 (es.length+ys.length)) (v:=.slice (some ⟨w.drew.heap.size,0,none⟩) (es.length+ys.length) q)
  (.arr G bG O hqn)
 have CL:=gJ (w:=w.drew) (T:=λ _=>False) (ob:=.cells c e) hs.drew.lt
 have hob:=hp.addOb (d:=d) (cs:=(dJ (es++ys)).map .p) (by
  refine ⟨w.drew.heap.size,c,e,by simp,bG,by simp only [n6]; omega,λ o ho=>?_,λ i x hx=>?_⟩
  ·rcases ho with ho|⟨_,ho⟩
   ·exact absurd (hs.lt _ _ ho) (Nat.lt_irrefl _)
   ·exact ho
  ·simp only [List.getElem?_map,ld] at hx;obtain ⟨y,hy,rfl⟩:=hx;have hil:i<(dJ (es++ys)).length:=(List.getElem?_eq_some_iff.1 hy).1;rw [hfl,th] at hil
   have hget:c[i]? = if i<es.length*ie.size then olds[i]? else news[i-es.length*ie.size]?:=by
    rw [hc,Array.getElem?_append];simp only [List.size_toArray,n8,hol,hnl];rw [if_pos hil,List.getElem?_toArray,List.getElem?_append,hol]
   rw [iK,List.getElem?_append,eP hse] at hy;split at hy
   ·rename_i hlt;obtain ⟨u,hu,hr⟩:=hoc i y hy;exact ⟨u,by rw [hget,if_pos hlt]; exact hu,.p ((PRep.mono (w:=w) (w':=w.drew) (st:=g.st) (st':=g.st) (λ b o h=>⟨h,rfl⟩) hr).mono CL)⟩
   ·rename_i hge;obtain ⟨u,hu,hr⟩:=hnf (i-es.length*ie.size) y hy
    exact ⟨u,by rw [hget,if_neg hge]; exact hu,.p ((PRep.mono (w:=w) (w':=w.drew) (st:=g.st) (st':=g.st) (λ b o h=>⟨h,Z⟩) hr).mono CL)⟩)
 exact ⟨_,_,_,hrun,hob⟩
theorem vt {t tx e e':TypeId}{x y:Operand}{k sz:Nat}{es:List PV}{n:Nat}{Y0z:AV}{ys:List PV}{i ie j:TI}(ho:o.op=.call { callee:=.builtin .append,args:=#[x,y],argTypes:=#[t,tx] })(hd:o.dst=some d)(hn:Nat.blt d C.n=true)
  (hi:look C.tt t=some i) (CR:i.k=.slice e) (hie:look C.tt e=some ie) (hj:look C.tt tx=some j) (hjk:j.k=.slice e') (hx:evo sl x=some (.arr k sz 0 n)) (hk:Nat.blt k M1=true) (hob:look ob k=some ((dJ es).map .p)) (hnl:n=es.length)
  (hy:evo sl y=some Y0z) (hY:Y0z.elems? = some ys) (CC:∀ y∈ys,y.cells.length=ie.size) (hse:∀ y∈es,y.cells.length=ie.size) (h1s:ie.size=sz) (h0:Nat.blt 0 ie.size=true) (hzl:Nat.beq ie.zero.length ie.size=true)
  (CE:(es.length+ys.length)*ie.bytes<=140737488355328) (hlen':es.length+ys.length<=9223372036854775807)
  (hK:K ⟨(d,.arr d sz 0 (es.length+ys.length))::(bV (λ i=>Nat.beq i k||Nat.beq i d) ⟨sl,ob⟩).sl,(d,(dJ (es++ys)).map .p)::(bV (λ i=>Nat.beq i k||Nat.beq i d) ⟨sl,ob⟩).ob⟩):aO C o K ⟨sl,ob⟩:=by
 subst hnl h1s;have h0':0<ie.size:=by simpa using h0
 have hzl':=bx hzl;have hk':k<M1:=mv ▸ hk;have hdl:d<M1:=by have h1:=ph C.nl; have h2:d<C.n:=mv ▸ hn; omega
 have hDl:∀ i,(Nat.beq i k||Nat.beq i d)=true->i<M1:=by
  intro i hi;simp only [Bool.or_eq_true] at hi;rcases hi with hi|hi <;> (have:=bx hi; omega)
 have hfl0:(dJ es).length=es.length*ie.size:=eP hse
 have hfl:(dJ (es++ys)).length=es.length*ie.size+ys.length*ie.size:=by
  rw [iK,n8,eP hse,eP CC]
 intro g a w hs;have hxr:=bg hs hx;generalize hxv:a.eval x=xv at hxr
 have hrun0:∀ v w',(Builtin.append_ #[t,tx] o.type #[xv,a.eval y]).run C.P w=.ok v w'->(execOp a.eval o).run C.P w=.ok (.value v) w':=by
  intro v w' h;rw [cZ ho];simp [builtin,hxv,h]
 cases hxr with
 | arr how hb CJ hn'=>
  rename_i b cap c e0;obtain ⟨b',c1,e1,k1,k2,k3,k4,k5⟩:=hs.ob k _ hob;rw [how] at k1; cases k1;rw [hb] at k2; cases k2;simp only [rd] at CJ
  have CP:∀ (i:Nat) x,(dJ es)[i]? = some x->∃ u,c[i]? = some u/\PRep w g.st x u:=by
   intro i x hx;obtain ⟨u,hu,hr⟩:=k5 i (.p x) (by simp [hx])
   cases hr with|p hr=>exact ⟨u,hu,hr⟩
  by_cases hroom:es.length+ys.length<=cap
  ·obtain ⟨u,h1,h2⟩:=bc C.good hi;have h3:=aV (h2.trans CR);subst h3;obtain ⟨u',h1',h2'⟩:=bc C.good hj;have h3':=aV (h2'.trans hjk);subst h3';obtain ⟨info,hf1,hf2,hf3,z,hf4,hf5⟩:=dQ C.good hie;have hyv:=dr hY (bg hs hy);obtain ⟨news,hsrc,hnews⟩:=kx (P:=C.P) (sz:=ie.size) h1' hyv CC h0';have hnf:=ra h0' CC hnews;have hnl:news.length=ys.length*ie.size:=hsrc.newsLen;have hrm:es.length*ie.size+ys.length*ie.size<=cap*ie.size:=by rw [<- th]; exact Nat.mul_le_mul_right _ hroom
   have hstc:=run_storeCells_at C.P b (es.length*ie.size) e0 news 0 c w hb (by simp; omega) hsrc.one;simp only [Nat.add_zero] at hstc;obtain ⟨c',hc'⟩:∃ c',c'=(c.toList.take (es.length*ie.size)++news++c.toList.drop (es.length*ie.size+news.length)).toArray:=⟨_,rfl⟩
   rw [<- hc'] at hstc;have hrr:=en t tx o.type e info h1 hf1 b es.length cap (a.eval y) ys.length news (by rw [hf2]; exact hsrc) hroom (by rw [hf2]; exact hstc)
   have hcell':∀ j,c'[j]? = if es.length*ie.size<=j/\j<es.length*ie.size+news.length then news[j-es.length*ie.size]? else c[j]?:=by
    intro j;rw [hc'];have:=fu c.toList news (es.length*ie.size) (by simp; omega) j;simpa using this
   have hcs':c'.size=cap*ie.size:=by rw [<- CJ,hc']; simp; omega
   have hin:=hs.inplace (λ i=>Nat.beq i k||Nat.beq i d) hDl (k:=k) (d:=d) how G G  hb (c':=c') (hcs'.trans CJ.symm) (λ o h=>absurd h (k4 o)) (λ _=>False) (λ o h=>k4 o h)
   have hp:=hin.put (d:=some d) (λ t ht=>by cases ht; exact mv ▸ hn) (x:=.arr d ie.size 0 (es.length+ys.length)) (v:=.slice (some ⟨b,0,none⟩) (es.length+ys.length) cap)
    (.arr G (setRow_heap w b c c' e0 (0,0) hb) O hroom)
   have hEv:Ev w g.st (w.setRow b c') (λ b' o=>(b'=b/\False)\/(b'≠b/\g.st b' o)):=by
    intro b' o h;have CQ:b'≠b:=λ e=>k4 o (e ▸ h);exact ⟨.inr ⟨CQ,h⟩,by simp only [World.cell?,setRow_other w b b' c' CQ]⟩
   have hfin:=hp.addOb (d:=d) (cs:=(dJ (es++ys)).map .p) (by
    refine ⟨b,c',e0,by simp,setRow_heap w b c c' e0 (0,0) hb,by simp only [n6]; omega,λ o ho=>?_,λ i x hx=>?_⟩
    ·rcases ho with ⟨_,ho⟩|⟨ho,_⟩
     ·exact ho
     ·exact ho Z
    ·simp only [List.getElem?_map,ld] at hx;obtain ⟨y,hy,rfl⟩:=hx;have hil:i<(dJ (es++ys)).length:=(List.getElem?_eq_some_iff.1 hy).1;rw [iK,List.getElem?_append,hfl0] at hy;split at hy
     ·rename_i hlt;obtain ⟨u,hu,hr⟩:=CP i y hy;exact ⟨u,by rw [hcell',if_neg O]; exact hu,.p (hr.mono hEv)⟩
     ·rename_i hge;obtain ⟨u,hu,hr⟩:=hnf (i-es.length*ie.size) y hy
      exact ⟨u,by rw [hcell',if_pos O]; exact hu,.p (hr.mono hEv)⟩)
   unfold Oper.wp;rw [hrun0 _ _ hrr];simp only [Oper.upon,hd];exact ⟨_,_,hfin,hK⟩
  ·have hlenT:(c.toList.take (es.length*ie.size)).length=es.length*ie.size:=by
    have hr1:es.length*ie.size<=cap*ie.size:=Nat.mul_le_mul_right _ hn';rw [sm,show c.toList.length=cap*ie.size from ur.trans CJ]; omega
   have hold:(Builtin.firstCells ie.size es.length (.slice (some ⟨b,0,none⟩) es.length cap)).run C.P w.drew=.ok (c.toList.take (es.length*ie.size)).toArray w.drew:=by
    refine run_firstCells_some w.drew ie.size es.length ⟨b,0,none⟩ es.length cap _ hlenT (λ j v hv=>?_);rw [List.getElem?_take] at hv;split at hv
    ·rw [add_lit,rd,World.cell?_drew];simp only [World.cell?,hb];simpa using hv
    ·cases hv
   obtain ⟨v,w',g',hr',hst'⟩:=wY (es:=es) (λ i=>Nat.beq i k||Nat.beq i d) hDl G hi CR hie hj hjk hy hY CC hse h0' hzl' CE hlen' hs (some ⟨b,0,none⟩) cap (c.toList.take (es.length*ie.size))
    hold hlenT (λ i x hx=>by
     obtain ⟨u,hu,hr⟩:=CP i x hx;have:=(List.getElem?_eq_some_iff.1 hx).1
     exact ⟨u,by rw [List.getElem?_take,if_pos O]; simpa using hu,hr⟩) O o.type hn
   unfold Oper.wp;rw [hrun0 _ _ hr'];simp only [Oper.upon,hd];exact ⟨g',_,hst',hK⟩
end
theorem St.freezeM {n:Nat}{w0:Base}{w:World}{F:Nat->Prop}{g:Gh}{sl:List (Nat×AV)}{ob:List (Nat×List AV)}{a:Act}(hs:St n w0 F g ⟨sl,ob⟩ a w){k sz:Nat}{es:List PV}{j:Nat}
  (hk:k<M1) (h0:0<sz) (hob:look ob k=some ((dJ es).map .p)) (hj:look sl j=some (.arr k sz 0 es.length)) (CC:∀ x∈es,x.cells.length=sz) (CH:∀ x∈es,∀ c∈x.cells,c.one=true) :
  ∃ g',St n w0 F g' ⟨(j,.p (.slice es))::(bV (λ i=>Nat.beq i k) ⟨sl,ob⟩).sl,(bV (λ i=>Nat.beq i k) ⟨sl,ob⟩).ob⟩ a w:=by
 obtain ⟨b,c,e,k1,k2,k3,k4,k5⟩:=hs.ob k _ hob;have hfl:(dJ es).length=es.length*sz:=eP CC;have hlt:b<w.heap.size:=(hs.own k b k1).1
 have keyD:∀ i b',Nat.beq i k=false->g.ow i=some b'->b'≠b:=λ i b' hD hi e=>by
  subst e;have:=hs.inj i k b' hi k1;subst this;simp at hD
 have CL:Ev w g.st w (λ b' o=>g.st b' o\/(b'=b/\o<es.length*sz)):=λ b' o h=>⟨.inl h,Z⟩
 have hs':=hs.evolve (λ i=>Nat.beq i k) (λ i hi=>by have:=bx hi; omega) (g':=⟨λ b' o=>g.st b' o\/(b'=b/\o<es.length*sz),λ i=>if Nat.beq i k then none else g.ow i⟩) CL (λ id b' hD h=>⟨by simp only [hD]; exact h,Z,λ o ho=>ho.resolve_right λ h'=>keyD id b' hD h h'.1⟩)
  (λ i j b h1 h2=>by
   dsimp only at h1 h2;split at h1
   ·cases h1
   ·split at h2
    ·cases h2
    ·exact hs.inj i j b h1 h2) (λ i b h=>by
   dsimp only at h;split at h
   ·cases h
   ·exact hs.own i b h) (λ b' o h=>by
   rcases h with h|⟨rfl,_⟩
   ·exact hs.lt b' o h
   ·exact hlt) (λ b h=>rfl) Z Z Z (bt _) (λ b' hb' o=>⟨λ h=>h.resolve_right λ h'=>(hs.own k b k1).2 (h'.1 ▸ hb'),.inl⟩) (λ i hi=>by
    have CQ:Nat.beq i k=false:=by
     cases hq:Nat.beq i k
     ·rfl
     ·have:=bx hq; omega
    simp only [CQ]; rfl)
 refine ⟨_,{ hs' with sl:=λ i=>?_,ob:=hs'.ob }⟩;simp only [AS.get,aJ];by_cases e1:j=i
 ·subst e1;simp only [if_true,rg];have h0':=hs.sl j;simp only [AS.get,hj,rg] at h0';generalize a.tmps.getD j Go.undef=v at h0'
  cases h0' with
  | arr how hb CJ hn=>
   rw [k1] at how; cases how;rw [k2] at hb; cases hb;refine .p (.slice sz (λ i j=>c.getD (i*sz+j) Go.undef) hn CC CH (λ i x j y hx hy=>?_) (λ i x j y hx hy=>?_))
   ·have hg:=fC CC i x j y hx hy;have hi:=(List.getElem?_eq_some_iff.1 hg).1;have hci:i*sz+j<c.size:=by simp only [n6] at k3; omega
    refine ⟨.inr ⟨Z,by omega⟩,?_⟩;simp only [World.cell?,k2,rd];simp [Array.getD,hci]
   ·have hg:=fC CC i x j y hx hy;obtain ⟨u,hu,hr⟩:=k5 (i*sz+j) (.p y) (by simp [hg]);rw [Array.getD_eq_getD_getElem?,hu]
    cases hr with|p hr=>exact hr.mono CL
 ·rw [if_neg e1];exact hs'.sl i
theorem St.freezeA {n:Nat}{w0:Base}{w:World}{F:Nat->Prop}{g:Gh}{sl:List (Nat×AV)}{ob:List (Nat×List AV)}{a:Act}(hs:St n w0 F g ⟨sl,ob⟩ a w){k sz:Nat}{es:List PV}
  (hk:k<M1) (h0:0<sz) (hob:look ob k=some ((dJ es).map .p)) (CC:∀ x∈es,x.cells.length=sz) (CH:∀ x∈es,∀ c∈x.cells,c.one=true) :
  ∃ g',EvO (λ i=>Nat.beq i k) w g w g'/\St n w0 F g' (bV (λ i=>Nat.beq i k) ⟨sl,ob⟩) a w/\∀ v,ARep w g (.arr k sz 0 es.length) v->ARep w g' (.p (.slice es)) v:=by
 obtain ⟨b,c,e,k1,k2,k3,k4,k5⟩:=hs.ob k _ hob;have hfl:(dJ es).length=es.length*sz:=eP CC;have hlt:b<w.heap.size:=(hs.own k b k1).1
 have keyD:∀ i b',Nat.beq i k=false->g.ow i=some b'->b'≠b:=λ i b' hD hi e=>by
  subst e;have:=hs.inj i k b' hi k1;subst this;simp at hD
 have CL:Ev w g.st w (λ b' o=>g.st b' o\/(b'=b/\o<es.length*sz)):=λ b' o h=>⟨.inl h,Z⟩
 have hs':=hs.evolve (λ i=>Nat.beq i k) (λ i hi=>by have:=bx hi; omega) (g':=⟨λ b' o=>g.st b' o\/(b'=b/\o<es.length*sz),λ i=>if Nat.beq i k then none else g.ow i⟩) CL (λ id b' hD h=>⟨by simp only [hD]; exact h,Z,λ o ho=>ho.resolve_right λ h'=>keyD id b' hD h h'.1⟩)
  (λ i j b h1 h2=>by
   dsimp only at h1 h2;split at h1
   ·cases h1
   ·split at h2
    ·cases h2
    ·exact hs.inj i j b h1 h2) (λ i b h=>by
   dsimp only at h;split at h
   ·cases h
   ·exact hs.own i b h) (λ b' o h=>by
   rcases h with h|⟨rfl,_⟩
   ·exact hs.lt b' o h
   ·exact hlt) (λ b h=>rfl) Z Z Z (bt _) (λ b' hb' o=>⟨λ h=>h.resolve_right λ h'=>(hs.own k b k1).2 (h'.1 ▸ hb'),.inl⟩) (λ i hi=>by
    have CQ:Nat.beq i k=false:=by
     cases hq:Nat.beq i k
     ·rfl
     ·have:=bx hq; omega
    simp only [CQ]; rfl)
 refine ⟨⟨λ b' o=>g.st b' o\/(b'=b/\o<es.length*sz),λ i=>if Nat.beq i k then none else g.ow i⟩,⟨CL,λ id b' hD h=>by simp only [hD]; exact h,λ id b' c' e' hD h hb'=>⟨c',hb',Z⟩,λ id b' o hD h ho=>ho.resolve_right λ h'=>keyD id b' hD h h'.1,λ id b' es' k' hD h hb'=>hb',λ i hi=>Bool.eq_false_iff.2 λ hq=>by have:=bx hq; have:=nN hi; omega,λ id b' o hD h _=>rfl⟩,hs',λ v h0'=>?_⟩
 cases h0' with
 | arr how hb CJ hn=>
  rw [k1] at how; cases how;rw [k2] at hb; cases hb;refine .p (.slice sz (λ i j=>c.getD (i*sz+j) Go.undef) hn CC CH (λ i x j y hx hy=>?_) (λ i x j y hx hy=>?_))
  ·have hg:=fC CC i x j y hx hy;have hi:=(List.getElem?_eq_some_iff.1 hg).1;have hci:i*sz+j<c.size:=by simp only [n6] at k3; omega
   refine ⟨.inr ⟨Z,by omega⟩,?_⟩;simp only [World.cell?,k2,rd];simp [Array.getD,hci]
  ·have hg:=fC CC i x j y hx hy;obtain ⟨u,hu,hr⟩:=k5 (i*sz+j) (.p y) (by simp [hg]);rw [Array.getD_eq_getD_getElem?,hu]
   cases hr with|p hr=>exact hr.mono CL
def frz (k sz:Nat)(es:List PV)(x y:AV):Prop:=y=x.dem (λ i=>Nat.beq i k)\/(x=.arr k sz 0 es.length/\y=.p (.slice es))
def AN (k sz:Nat)(es:List PV):List AV->List AV->Prop|[],[]=>True|x::r,y::q=>frz k sz es x y/\AN k sz es r q|_,_=>False
def BH (k sz:Nat)(es:List PV)(sl:List (Nat×AV)):List (Nat×AV)->Prop|[]=>True|p::r=>(∃ x,look sl p.1=some x/\frz k sz es x p.2)/\BH k sz es sl r
def BS (k sz:Nat)(es:List PV)(ob:List (Nat×List AV)):List (Nat×List AV)->Prop|[]=>True|p::r=>(Nat.beq p.1 k=false/\∃ cs,look ob p.1=some cs/\AN k sz es cs p.2)/\BS k sz es ob r
theorem qR {k sz:Nat}{es:List PV}:∀ {l q:List AV},AN k sz es l q->l.length=q.length/\∀ (i:Nat) x y,l[i]? = some x->q[i]? = some y->frz k sz es x y
 | [],[],_=>⟨Z,by simp⟩
 | [],_::_,h=>h.elim
 | _::_,[],h=>h.elim
 | x::r,y::q,h=>by
  obtain ⟨h1,h2⟩:=qR h.2;refine ⟨by simp [h1],λ i a b ha hb=>?_⟩
  cases i with
  | zero=>simp only [List.getElem?_cons_zero,aq] at ha hb; subst ha hb; exact h.1
  | succ i=>simp only [List.getElem?_cons_succ] at ha hb; exact h2 i a b ha hb
theorem qH {k sz:Nat}{es:List PV}{sl:List (Nat×AV)}:∀ {q:List (Nat×AV)},BH k sz es sl q->∀ i y,look q i=some y->∃ x,look sl i=some x/\frz k sz es x y
 | [],_,i,y,h=>by cases h
 | p::r,hq,i,y,h=>by
  obtain ⟨p1,p2⟩:=p;rw [aJ] at h;split at h
  ·cases h; subst_vars; exact hq.1
  ·exact qH hq.2 i y h
theorem qK {k sz:Nat}{es:List PV}{ob:List (Nat×List AV)}:∀ {q:List (Nat×List AV)},BS k sz es ob q->∀ i y,look q i=some y->Nat.beq i k=false/\∃ x,look ob i=some x/\AN k sz es x y
 | [],_,i,y,h=>by cases h
 | p::r,hq,i,y,h=>by
  obtain ⟨p1,p2⟩:=p;rw [aJ] at h;split at h
  ·cases h; subst_vars; exact hq.1
  ·exact qK hq.2 i y h
theorem lD {α:Type}{C:Cx}{sl sl':List (Nat×AV)}{ob ob':List (Nat×List AV)}(k sz:Nat)(f:α->PV)(l:List α)(hk:Nat.blt k M1=true)(h0:Nat.blt 0 sz=true)(hob:look ob k=some (d5 f l))
  (CH:∀ x,(f x).cells.length=sz/\PV.onesB (f x).cells=true) (hS:BH k sz (l.map f) sl sl') (hO:BS k sz (l.map f) ob ob'):bY C ⟨sl,ob⟩ ⟨sl',ob'⟩:=by
 intro g a w hs
 obtain ⟨g',hE,hs',hfr⟩:=hs.freezeA (es:=l.map f) (sz:=sz) (mv ▸ hk) (by simpa using h0) hob (λ x hx=>by obtain ⟨y,_,rfl⟩:=List.mem_map.1 hx; exact (CH y).1)
  (λ x hx=>by obtain ⟨y,_,rfl⟩:=List.mem_map.1 hx; exact eW (CH y).2)
 have val:∀ x y v,frz k sz (l.map f) x y->ARep w g x v->ARep w g' y v:=by
  rintro x y v (rfl|⟨rfl,rfl⟩) h
  ·exact h.dem hE
  ·exact hfr v h
 refine ⟨g',{ hs' with sl:=λ i=>?_,ob:=λ id cs hc=>?_ }⟩
 ·simp only [AS.get]
  cases hl:look sl' i with
  | none=>exact .undef _
  | some y=>
   obtain ⟨x,hx,hf⟩:=qH hS i y hl;have h1:=hs.sl i;simp only [AS.get,hx,rg] at h1;exact val x y _ hf h1
 ·obtain ⟨CQ,ds,hds,hfL⟩:=qK hO id cs hc;obtain ⟨b,c,e,k1,k2,k3,k4,k5⟩:=hs.ob id ds hds;obtain ⟨q1,q2⟩:=qR hfL
  obtain ⟨b2,c2,e2,m1,m2,m3,m4,m5⟩:=hs'.ob id (gW (λ i=>Nat.beq i k) ds) (by
   have hf:=fq (λ i=>Nat.beq i k) ob id;simp only [bV,ep];rw [hf]
   simp only [CQ,Bool.false_eq_true,if_false,hds,Option.map_some])
  have e1:=hE.ow id b CQ k1;rw [e1] at m1; cases m1;rw [k2] at m2; cases m2;refine ⟨b,c,e,e1,k2,by omega,m4,λ i y hy=>?_⟩;have hi:i<ds.length:=by have:=(List.getElem?_eq_some_iff.1 hy).1; omega
  obtain ⟨v,hv,hr⟩:=k5 i ds[i] (List.getElem?_eq_getElem hi);exact ⟨v,hv,val _ y v (q2 i _ y (List.getElem?_eq_getElem hi) hy) hr⟩
def hZ (P:Program)(f:FuncId)(args:List AV)(R:AV->Prop):Prop :=∀ (w:World) (st:Nat->Nat->Prop) (vs:Array Value),Ok0 w st->vs.size=args.length -> (∀ (i:Nat) c v,args[i]? = some c->vs[i]? = some v->ARep w ⟨st,λ _=>none⟩ c v) -> Calls P f vs w λ e w'=>∃ v r g',e=.returned v/\R r/\ARep w' g' r v/\After w st w' g'
theorem hZ.of_sub {P:Program}{f:FuncId}{args:List AV}{r:AV}(h:hZ P f args (λ x=>x.sub r)):hZ P f args (·=r) :=
 λ w st vs h0 h1 h2=>(h w st vs h0 h1 h2).mono λ e w' ⟨v,_,g',h3,h4,h5,h6⟩=>⟨v,r,g',h3,Z,h4 _ _ _ h5,h6⟩
theorem au.q {P:Program}{f:FuncId}{args:List PV}{R:AV->Prop}(h:au P f args R):hZ P f (args.map .p) R:=by
 intro w st vs h0 h1 h2;refine h w st vs h0 (by simpa using h1) λ i c v hc hv=>?_;have:=h2 i (.p c) v (by simp [hc]) hv
 cases this with|p h=>exact h
theorem BQ {P:Program}{tt:List (Nat×TI)}(good:cj P tt){f:FuncId}{fn:Func}{c:Code}{args:List AV}{r:AV}(hf:P.funcs[f]? = some fn)(hb:fn.body=some c)(hn:Nat.ble args.length fn.ntmps=true)(hnl:Nat.ble fn.ntmps M1=true)
  (h:∀ w0,awp ⟨P,tt,good,fn.ntmps,hnl,w0,λ b=>b<w0.w.heap.size⟩ c (xI tt fn (λ x=>x.sub r)) ⟨fJ args,[]⟩):hZ P f args (·=r):=by
 refine hZ.of_sub ?_;intro w st vs h0 h1 h2;refine calls_of_wp hf hb ?_;have hn:=ph hn
 have hs:St fn.ntmps ⟨w,st,λ _=>none,h0.gl,(λ _ _ h=>nomatch h),[]⟩ (λ b=>b<w.heap.size) ⟨st,λ _=>none⟩ ⟨fJ args,[]⟩ { tmps:=vs++Array.replicate (fn.ntmps-vs.size) Go.undef,defers:=[] } w:=by
  refine ⟨rfl,?_,?_,?_,?_,?_,?_,?_,?_,rfl,rfl,rfl,bt _,λ b _ o=>Iff.rfl,λ _ _ _=>rfl,ic.refl _ _,λ i b _ h=>(by cases h),Ev.refl _ _⟩
  ·simp only [Array.size_append,Array.size_replicate]; omega
  ·intro i;have:=kS args 0 i;simp only [AS.get,fJ,this,Nat.zero_le,if_true,Nat.sub_zero]
   cases ha:args[i]? with
   | none=>exact .undef _
   | some x=>
    have hi:i<args.length:=(List.getElem?_eq_some_iff.1 ha).1;have hi2:i<vs.size:=by omega
    have e:(vs++Array.replicate (fn.ntmps-vs.size) Go.undef).getD i Go.undef=vs[i]:=by
     simp [Array.getD_eq_getD_getElem?,Array.getElem?_append,hi2]
    simp only [rg];rw [e];exact h2 i x _ ha (Array.getElem?_eq_getElem hi2)
  ·intro id cs h; simp [look] at h
  ·intro i j b h; simp at h
  ·intro i b h; simp at h
  ·intro b o h; exact h0.lt b o h
  ·intro b h; exact h
  ·intro b h; rfl
 refine wp_mono (h ⟨w,st,λ _=>none,h0.gl,(λ _ _ h=>nomatch h),[]⟩ _ _ w hs) ?_;rintro e a' w' ⟨g',s',h3,he,l,hl,hR⟩;obtain ⟨v,hv,hr⟩:=j2 good h3 fn l hl
 have fin:∃ v,(results fn a'.tmps).run P w'=.ok v w'/\∃ v1 r1 g',Ending.returned v=.returned v1/\r1.sub r/\ARep w' g' r1 v1/\After w st w' g':=by
  refine ⟨v,hv,v,_,g',Z,hR,hr,⟨h3.os,h3.out,h3.tape,h3.size,λ b hb=>h3.fr b hb,λ i b hi=>?_,h3.inj,h3.lt,h3.stf⟩⟩;have:=h3.own i b hi;exact ⟨Nat.le_of_not_lt this.2,this.1⟩
 rcases he with rfl|rfl
 ·exact ⟨h3.nd,fin⟩
 ·exact ⟨h3.nd,fin⟩
section
variable {C:Cx} {o:Oper} {K:AS->Prop} {sl:List (Nat×AV)} {ob:List (Nat×List AV)} {d:Nat}
theorem nB {f:FuncId}{q:List AV}{vs:Array Value}{R:AV->Prop}{g:Gh}{a:Act}{w:World}(hs:St C.n C.w0 C.F g ⟨sl,ob⟩ a w)(hc:hZ C.P f q R)(hd:o.dst=some d)(hn:Nat.blt d C.n=true)
  (CC:vs.size=q.length) (hargs:∀ (i:Nat) c v,q[i]? = some c->vs[i]? = some v->ARep w ⟨g.st,λ _=>none⟩ c v) (hrun:(execOp a.eval o).run C.P w=.ok (.enter f vs) w)
  (hK:∀ r,R r->∃ r',r.settle=some r'/\K ⟨(d,r')::sl,ob⟩):o.wp C.P a w (λ a' w'=>∃ g' s',St C.n C.w0 C.F g' s' a' w'/\K s') (λ _ _ _=>False):=by
 have hcall:=hc w g.st vs hs.ok0 CC hargs;unfold Oper.wp;rw [hrun];simp only [Oper.upon];refine hcall.mono λ e w' ⟨v,r,g',he,hR,hr,hA⟩=>?_;subst he;obtain ⟨r',hr',hK'⟩:=hK r hR
 have hs':St C.n C.w0 C.F ⟨g'.st,g.ow⟩ ⟨sl,ob⟩ a w':=by
  refine hs.evolve0 (λ b o h=>?_) (λ id b h=>?_) hs.inj (λ i b h=>?_) hA.lt (λ b h=>?_) hA.os hA.out hA.tape hA.size (λ b hb o=>?_) (λ _ _=>rfl)
  ·have hlt:=hs.lt b o h;exact ⟨(hA.stf b hlt o).2 h,by simp only [World.cell?,hA.fr b hlt]⟩
  ·have hlt:=(hs.own id b h).1;exact ⟨h,hA.fr b hlt,λ o ho=>(hA.stf b hlt o).1 ho⟩
  ·have:=hs.own i b h; have:=hA.size; exact ⟨by omega,(hs.own i b h).2⟩
  ·have:=hs.fl b h; have:=hs.size; exact hA.fr b O
  ·have:=hs.fl b hb; have:=hs.size; exact hA.stf b O o
 have hp:=hs'.put (d:=o.dst) (λ t ht=>by rw [hd] at ht; cases ht; exact mv ▸ hn) (pF (g:=g') (g':=⟨g'.st,g.ow⟩) rfl hr' hr);rw [hd] at hp;simp only;rw [hd];exact ⟨_,_,hp,hK'⟩
theorem A9 {n:Nat}{w0:Base}{w:World}{F:Nat->Prop}{g:Gh}{a:Act}(hs:St n w0 F g ⟨sl,ob⟩ a w){args:Array Operand}{l l' q:List AV}(hl:gx sl args.toList=some l)(hl':AV.mapA.go (λ _=>none) l=some l')(hq:jQ l' q) :
  (args.map a.eval).size=q.length/\∀ (i:Nat) c v,q[i]? = some c->(args.map a.eval)[i]? = some v->ARep w ⟨g.st,λ _=>none⟩ c v:=by
 obtain ⟨a1,a2⟩:=gf hs _ l hl;obtain ⟨m1,m2⟩:=ls hl';obtain ⟨b1,b2⟩:=ge hq;refine ⟨by have CE:=a1.symm.trans (m1.trans b1); simpa using CE,λ i c v hc hv=>?_⟩;have hi':i<l'.length:=by have:=(List.getElem?_eq_some_iff.1 hc).1; omega
 have hi:i<l.length:=by omega
 have hv':(args.toList.map a.eval)[i]? = some v:=by rw [<- Array.toList_map]; simpa using hv
 have h1:=a2 i _ v (List.getElem?_eq_getElem hi) hv';have h2:=gG (g:=g) (g':=⟨g.st,λ _=>none⟩) rfl (λ i j b h _=>by cases h) h1 (m2 i _ _ (List.getElem?_eq_getElem hi) (List.getElem?_eq_getElem hi'));exact b2 i _ c (List.getElem?_eq_getElem hi') hc w _ v h2
theorem y5 {f:FuncId}{args:Array Operand}{ts:Array TypeId}{l l' q:List AV}{r r':AV}(hc:hZ C.P f q (·=r))(ho:o.op=.call { callee:=.value (.func f),args:=args,argTypes:=ts })
  (hd:o.dst=some d) (hn:Nat.blt d C.n=true) (hl:gx sl args.toList=some l) (hl':AV.mapA.go (λ _=>none) l=some l') (hq:jQ l' q) (henter:∀ vs w,(callFunc f vs).run C.P w=.ok (.enter f vs) w)
  (hr:r.settle=some r') (hK:K ⟨(d,r')::sl,ob⟩):aO C o K ⟨sl,ob⟩:=by
 intro g a w hs;obtain ⟨h1,h2⟩:=A9 hs hl hl' hq;exact nB hs hc hd hn h1 h2 (by simp [execOp,ho,resolve,Act.eval,Deferred.ofValue,invoke,henter]) λ _ e=>e ▸ ⟨r',hr,hK⟩
theorem yC {F:FuncId}{caps:List AV}{t:Nat}{args:Array Operand}{ts:Array TypeId}{l l' q:List AV}{r r':AV}(hc:hZ C.P F (q++caps) (·=r))(ho:o.op=.call { callee:=.value (.tmp t),args:=args,argTypes:=ts })
  (hd:o.dst=some d) (hn:Nat.blt d C.n=true) (hf:evo sl (.tmp t)=some (.func (.func F) caps)) (hcl:AV.mapA.go (λ _=>none) caps=some caps) (hl:gx sl args.toList=some l) (hl':AV.mapA.go (λ _=>none) l=some l') (hq:jQ l' q)
  (henter:∀ vs w,(callFunc F vs).run C.P w=.ok (.enter F vs) w)
  (hr:r.settle=some r') (hK:K ⟨(d,r')::sl,ob⟩):aO C o K ⟨sl,ob⟩:=by
 intro g a w hs;obtain ⟨h1,h2⟩:=A9 hs hl hl' hq;have hfr:=bg hs hf;generalize hv:a.eval (.tmp t)=v at hfr
 cases hfr with
 | func CJ hcr=>
  rename_i vs;obtain ⟨m1,m2⟩:=ls hcl;refine nB hs (vs:=args.map a.eval++vs) hc hd hn (by rw [Array.size_append,n8,h1,CJ]) (λ i c v hc hv=>?_) (by simp [execOp,ho,resolve,hv,Deferred.ofValue,invoke,henter]) λ _ e=>e ▸ ⟨r',hr,hK⟩;rw [List.getElem?_append] at hc;rw [Array.getElem?_append] at hv;split at hc
  ·rename_i hlt;rw [if_pos O] at hv;exact h2 i c v hc hv
  ·rename_i hge;rw [if_neg O,h1] at hv;have h3:=hcr _ c v hc hv;exact gG (g:=g) (g':=⟨g.st,λ _=>none⟩) rfl (λ i j b h _=>by cases h) h3 (m2 _ _ _ hc hc)
theorem tW {F:FuncId}{caps:Array Operand}{l:List AV}(ho:o.op=.makeFunc (.func F) #[] caps)(hd:o.dst=some d)(hn:Nat.blt d C.n=true)(hl:gx sl caps.toList=some l)
  (hK:K ⟨(d,.func (.func F) l)::sl,ob⟩):aO C o K ⟨sl,ob⟩:=by
 refine ok_one hd hn (λ g a w hs=>?_) hK;obtain ⟨a1,a2⟩:=gf hs _ l hl;refine ⟨.func (.func F) #[] (caps.map a.eval),by simp [execOp,ho,Instr.makeFunc],.func (by have:=a1.symm; simpa using this) λ i c v hc hv=>a2 i c v hc (by rw [<- Array.toList_map]; simpa using hv)⟩
end
end Go.Ab
namespace Go.Ab
def by2 {α:Type}(a b:α):Nat->α|0=>a|_+1=>b
def by3 {α:Type}(a b c:α):Nat->α|0=>a|1=>b|_+2=>c
def by4 {α:Type}(a b c e:α):Nat->α|0=>a|1=>b|2=>c|_+3=>e
def by5 {α:Type}(a0 a1 a2 a3 a4:α):Nat->α|0=>a0|1=>a1|2=>a2|3=>a3|_+4=>a4
theorem bK {p:Nat->Prop}(h0:p 0)(h1:∀ j,p (j+1)):∀ j,p j
 | 0=>h0
 | j+1=>h1 j
theorem bj {p:Nat->Prop}(h0:p 0)(h1:p 1)(h2:∀ j,p (j+2)):∀ j,p j
 | 0=>h0
 | 1=>h1
 | j+2=>h2 j
theorem hQ {p:Nat->Prop}(h0:p 0)(h1:p 1)(h2:p 2)(h3:∀ j,p (j+3)):∀ j,p j
 | 0=>h0
 | 1=>h1
 | 2=>h2
 | j+3=>h3 j
theorem jC {p:Nat->Prop}(h0:p 0)(h1:p 1)(h2:p 2)(h3:p 3)(h4:∀ j,p (j+4)):∀ j,p j
 | 0=>h0
 | 1=>h1
 | 2=>h2
 | 3=>h3
 | j+4=>h4 j
theorem lt1 {p:Nat->Prop}(h0:p 0):∀ j,j<1->p j
 | 0,_=>h0
 | j+1,h=>absurd h O
theorem lt2 {p:Nat->Prop}(h0:p 0)(h1:p 1):∀ j,j<2->p j
 | 0,_=>h0
 | 1,_=>h1
 | j+2,h=>absurd h O
theorem lt3 {p:Nat->Prop}(h0:p 0)(h1:p 1)(h2:p 2):∀ j,j<3->p j
 | 0,_=>h0
 | 1,_=>h1
 | 2,_=>h2
 | j+3,h=>absurd h O
theorem lt4 {p:Nat->Prop}(h0:p 0)(h1:p 1)(h2:p 2)(h3:p 3):∀ j,j<4->p j
 | 0,_=>h0
 | 1,_=>h1
 | 2,_=>h2
 | 3,_=>h3
 | j+4,h=>absurd h O
def Stg (C:Cx)(ops:Array Oper)(S:eg)(o:Oper)(k:Nat)(rev:eJ)(d:Nat)(v:Nat->AV):Nat->Prop|0=>True|j+1=>(lX ops S.imp o k j=true->∃ kn,KnS (S.bas j) o rev j kn/\nz C ops (S.obj j) o kn d (v j))/\Stg C ops S o k rev d v j
section
variable {C:Cx} {ops:Array Oper} {S:eg} {K:eJ->Prop} {o:Oper} {k:Nat} {rev:eJ} {d:Nat} {v:Nat->AV}
theorem ak:Stg C ops S o k rev d v 0:=trivial
theorem aj {j:Nat}(h:lX ops S.imp o k j=false)(r:Stg C ops S o k rev d v j):Stg C ops S o k rev d v (j+1):=⟨λ h'=>(Bool.noConfusion (h.symm.trans h')),r⟩
theorem af {j:Nat}(kn:List (Nat×AV))(h1:KnS (S.bas j) o rev j kn)(h2:nz C ops (S.obj j) o kn d (v j))(r:Stg C ops S o k rev d v j):Stg C ops S o k rev d v (j+1):=⟨λ _=>⟨kn,h1,h2⟩,r⟩
theorem uM:∀ {m:Nat},Stg C ops S o k rev d v m->∀ j,j<m->lX ops S.imp o k j=true->∃ kn,KnS (S.bas j) o rev j kn/\nz C ops (S.obj j) o kn d (v j)
 | 0,_,j,h,_=>absurd h (Nat.not_lt_zero _)
 | m+1,hm,j,h,ha=>by
  by_cases e:j=m
  ·subst e; exact hm.1 ha
  ·exact uM hm.2 j O ha
theorem al {rest:List Oper}(v:Nat->AV)(hk:S.imp.findIdx? (Nat.beq k)=none)(hd:o.dst=some d)(hf:(rev.all λ p=>!(Nat.beq p.2.1 d))=true)(hb:∀ j,look (S.bas j) d=none)(hv:∀ j,j<S.m->v (j+1)=trA (S.D j) (v j))
  (hs:Stg C ops S o k rev d v (S.m+1)) (h:DS C ops S K rest (k+1) ((k,d,v)::rev)):DS C ops S K (o::rest) k rev:=by
 unfold DS;rw [hk];exact ⟨d,v,hd,hf,hb,λ j hj _=>hv j hj,λ j hj ha=>uM hs j O ha,h⟩
theorem aU {rest:List Oper}(v:Nat->AV)(hk:S.imp.findIdx? (Nat.beq k)=none)(hd:o.dst=some d)(hf:(rev.all λ p=>!(Nat.beq p.2.1 d))=true)(hb:∀ j,look (S.bas j) d=none)(hv:∀ j,j<S.m->loB ops S.imp o j=true->v (j+1)=trA (S.D j) (v j))
  (hs:Stg C ops S o k rev d v (S.m+1)) (h:DS C ops S K rest (k+1) ((k,d,v)::rev)):DS C ops S K (o::rest) k rev:=by
 unfold DS;rw [hk];exact ⟨d,v,hd,hf,hb,hv,λ j hj ha=>uM hs j O ha,h⟩
theorem nl {b:Bool}{p:Prop}(hb:b=false)(h:b=true):p:=Bool.noConfusion (hb.symm.trans h)
theorem cQ {rest:List Oper}{i:Nat}(v:Nat->AV)(kn:List (Nat×AV))(hk:S.imp.findIdx? (Nat.beq k)=some i)(hkn:KnS (S.bas i) o rev i kn)(hd:o.dst=some d)(hf:(rev.all λ p=>!(Nat.beq p.2.1 d))=true)(hb:∀ j,look (S.bas (j+(i+1))) d=none)
  (hv:∀ j,j<S.m->i<j->v (j+1)=trA (S.D j) (v j))
  (CN:∀ sl,(∀ i x,look kn i=some x->look sl i=some x)->∀ K:AS->Prop,K ⟨(d,v (i+1))::trL (S.D i) sl,S.obj (i+1)⟩->One C ops o K ⟨sl,S.obj i⟩) (h:DS C ops S K rest (k+1) ((k,d,v)::rev)):DS C ops S K (o::rest) k rev:=by
 unfold DS;rw [hk];exact ⟨kn,hkn,.inl ⟨d,v,hd,hf,λ j hj=>by have:=hb (j-(i+1)); rwa [show j-(i+1)+(i+1)=j by omega] at this,λ j h1 h2=>hv j h2 h1,CN,h⟩⟩
theorem ct {rest:List Oper}{i:Nat}(kn:List (Nat×AV))(hk:S.imp.findIdx? (Nat.beq k)=some i)(hkn:KnS (S.bas i) o rev i kn)(hd:o.dst=none)
  (CN:∀ sl,(∀ i x,look kn i=some x->look sl i=some x)->∀ K:AS->Prop,K ⟨trL (S.D i) sl,S.obj (i+1)⟩->One C ops o K ⟨sl,S.obj i⟩) (h:DS C ops S K rest (k+1) rev):DS C ops S K (o::rest) k rev:=by
 unfold DS;rw [hk];exact ⟨kn,hkn,.inr ⟨hd,CN,h⟩⟩
theorem eY (h:K rev):DS C ops S K [] k rev:=h
theorem yF {K1 K2:eJ->Prop}(h2:K2 rev)(h:K1 rev):DS C ops S (λ rev=>K1 rev/\K2 rev) [] k rev:=⟨h,h2⟩
end
theorem uR {m:Nat->Option Nat}:AV.mapA.go m []=some []:=rfl
theorem kK {m:Nat->Option Nat}{x y:AV}{r l:List AV}(h1:x.mapA m=some y)(h2:AV.mapA.go m r=some l):AV.mapA.go m (x::r)=some (y::l):=by
 simp only [AV.mapA.go,h1,h2]
theorem wS {m:Nat->Option Nat}{f:Fn}{cs l:List AV}(h:AV.mapA.go m cs=some l):(AV.func f cs).mapA m=some (.func f l):=by
 simp only [AV.mapA,h]
theorem eT {sl:List (Nat×AV)}{k:Nat}:jA sl k []=some []:=rfl
theorem cH {sl:List (Nat×AV)}{k:Nat}{x:Operand}{r:List (Nat×Operand)}{y:AV}{z:PV}{l:List PV}(h1:evo sl x=some y)(h2:y.toPV=some z)(h3:jA sl (k+1) r=some l):jA sl k ((k,x)::r)=some (z::l):=by
 have hb:Nat.beq k k=true:=by simp
 simp only [jA,hb,cond_true,h1,h3,h2]
theorem u6 {C:Cx}{c:Code}{Q:Exit->AS->Prop}{s:AS}(h:awp C c (λ e s=>∃ t,bY C s t/\Q e t) s):awp C c Q s:=by
 intro g a w hs;refine wp_mono (h g a w hs) ?_;rintro e a' w' ⟨g',s',h3,t,hg,hq⟩;obtain ⟨g2,h4⟩:=hg g' a' w' h3;exact ⟨g2,t,h4,hq⟩
def yZ (C:Cx)(tt:List (Nat×TI))(fn:Func)(ts ids:List Nat)(r:AV)(rob:List (Nat×List AV))(e:Exit)(s:AS):Prop :=∃ t,bY C s t/\sO tt fn ts ids (λ x y=>x.sub r/\leO y rob) e t
theorem gN {P:Program}{tt:List (Nat×TI)}(good:cj P tt){f:FuncId}{fn:Func}{c:Code}{args:List AV}{C8 rob:List (Nat×List AV)}{r:AV}(ts ids:List Nat)(hf:P.funcs[f]? = some fn)(hb:fn.body=some c)
  (hn:Nat.ble args.length fn.ntmps=true) (hnl:Nat.ble fn.ntmps M1=true) (hts:ts.all (λ i=>Nat.blt i M1)=true) (hnd:nodupB ts=true)
  (h:∀ w0 F,awp ⟨P,tt,good,fn.ntmps,hnl,w0,F⟩ c (yZ ⟨P,tt,good,fn.ntmps,hnl,w0,F⟩ tt fn ts ids r rob) ⟨fJ args,C8⟩):bs P f args C8 (λ x y=>x=r/\y=rob) :=
 B8 good ts ids hf hb hn hnl hts hnd λ w0 F=>u6 (h w0 F)
theorem jY {C:Cx}{tt:List (Nat×TI)}{fn:Func}{ts ids:List Nat}{r r1:AV}{rob C8 obs':List (Nat×List AV)}{s t:AS}{l:List AV}(hg:bY C s t)(h1:lM tt fn.results.toList t=some l)(h2:(si l).mapA (nV ts)=some r1)
  (h3:jh t.ob ids=some C8) (h4:ij (nV ts) C8=some obs') (h5:r1.sub r) (h6:leO obs' rob):yZ C tt fn ts ids r rob .ret s:=⟨t,hg,yJ h1 h2 h3 h4 ⟨h5,h6⟩⟩
theorem kw {P:Program}(w:World)(d:Nat)(t e:TypeId)(a:Option Addr)(l c:Nat)(h:P.underlying t=some (.slice e)):(Op.equalIn (d+1) t (.slice a l c) (.slice none 0 0)).run P w=.ok a.isNone w:=by
 cases a <;> simp [Op.equalIn,run_underlying h]
theorem lZ {P:Program}(w:World)(t e:TypeId)(a:Option Addr)(l c:Nat)(h:P.underlying t=some (.slice e)):(Op.equal t (.slice a l c) (.slice none 0 0)).run P w=.ok a.isNone w:=kw w 9999 t e a l c h
section
variable {C:Cx} {o:Oper} {K:AS->Prop} {sl:List (Nat×AV)} {ob:List (Nat×List AV)} {d:Nat}
theorem kt {t t':TypeId}{x y:Operand}{Y0z:AV}{es:List PV}{i:TI}{e:Nat}(ho:o.op=.binOp .eql t x y t')(hd:o.dst=some d)(hn:Nat.blt d C.n=true)
  (hi:look C.tt t=some i) (CR:i.k=.slice e) (hx:evo sl x=some Y0z) (hY:Y0z.elems? = some es) (hy:evo sl y=some (.p (.val (.slice none 0 0))))
  (hK:∀ b:Bool,(b=true->es=[])->K ⟨(d,.p (.val (.bool b)))::sl,ob⟩):aO C o K ⟨sl,ob⟩:=by
 obtain ⟨u,h1,h2⟩:=bc C.good hi;have h3:=aV (h2.trans CR);subst h3;intro g a w hs;have hp:=dr hY (bg hs hx);have hyv:=bQ hs hy;generalize hxv:a.eval x=v at hp
 have key:∃ (b:Bool) (ad:Option Addr) (l c:Nat),v=.slice ad l c/\b=ad.isNone/\(b=true->es=[]):=by
  cases hp with
  | nils=>exact ⟨true,none,0,0,Z,Z,λ _=>rfl⟩
  | nile ad=>exact ⟨false,some ad,0,0,Z,Z,λ _=>rfl⟩
  | slice sz cf hcap CC CH hc hr=>exact ⟨false,_,_,_,rfl,rfl,λ h=>by cases h⟩
 obtain ⟨b,ad,l,c,rfl,rfl,hb⟩:=key
 have hrun:(execOp a.eval o).run C.P w=.ok (.value (.bool ad.isNone)) w:=by
  simp [execOp,ho,hxv,hyv,eqGuard,binOp,lZ _ _ _ _ _ _ h1]
 unfold Oper.wp;rw [hrun];simp only [Oper.upon,hd];exact ⟨g,_,hs.put (d:=some d) (λ t ht=>by cases ht; exact mv ▸ hn) (.p (.val _)),hK _ hb⟩
theorem pk {t e:TypeId}{i ie:TI}(ho:o.op=.buildSlice t 0 #[])(hd:o.dst=some d)(hn:Nat.blt d C.n=true)
  (hi:look C.tt t=some i) (CR:i.k=.slice e) (hie:look C.tt e=some ie) (hzl:Nat.beq ie.zero.length ie.size=true) (tok sz:Nat)
  (hK:K ⟨(d,.vec tok sz 0 [])::sl,ob⟩):aO C o K ⟨sl,ob⟩:=by
 obtain ⟨u,h1,h2⟩:=bc C.good hi;have h3:=aV (h2.trans CR);subst h3;obtain ⟨j,hj,hj1,hj2,z,hz1,hz2⟩:=dQ C.good hie;intro g a w hs
 have hrun:(execOp a.eval o).run C.P w=.ok (.value (.slice (some ⟨w.heap.size,0,none⟩) 0 0)) (w.alloc (.cells #[] e)):=by
  simp [execOp,ho,Instr.buildSlice,run_underlying h1,sizeOf,typeInfo,hj,Instr.fill,newRow];congr 2;apply Array.ext <;> simp
 unfold Oper.wp;rw [hrun];have CN:=(hs.settled (λ _=>False) #[] e).put (d:=some d) (λ t ht=>by cases ht; exact mv ▸ hn) (.vece tok sz ⟨w.heap.size,0,none⟩);simp only [Oper.upon,hd];exact ⟨_,_,CN,hK⟩
theorem qZ {t e:TypeId}{i ie:TI}(ho:o.op=.buildSlice t 0 #[])(hd:o.dst=some d)(hn:Nat.blt d C.n=true)
  (hi:look C.tt t=some i) (CR:i.k=.slice e) (hie:look C.tt e=some ie) (sz:Nat)
  (hK:K ⟨(d,.arr d sz 0 0)::(bV (λ i=>Nat.beq i d) ⟨sl,ob⟩).sl,(d,[])::(bV (λ i=>Nat.beq i d) ⟨sl,ob⟩).ob⟩):aO C o K ⟨sl,ob⟩:=by
 obtain ⟨u,h1,h2⟩:=bc C.good hi;have h3:=aV (h2.trans CR);subst h3;obtain ⟨j,hj,hj1,hj2,z,hz1,hz2⟩:=dQ C.good hie;intro g a w hs
 have hrun:(execOp a.eval o).run C.P w=.ok (.value (.slice (some ⟨w.heap.size,0,none⟩) 0 0)) (w.alloc (.cells #[] e)):=by
  simp [execOp,ho,Instr.buildSlice,run_underlying h1,sizeOf,typeInfo,hj,Instr.fill,newRow];congr 2;apply Array.ext <;> simp
 unfold Oper.wp;rw [hrun];have hdl:d<M1:=by have h1:=ph C.nl; have h2:d<C.n:=mv ▸ hn; omega
 have hf:=hs.fresh (λ i=>Nat.beq i d) (λ i hi=>by have:=bx hi; omega) d G (λ _=>False) #[] e;have hp:=hf.put (d:=some d) (λ t ht=>by cases ht; exact mv ▸ hn) (x:=.arr d sz 0 0) (v:=.slice (some ⟨w.heap.size,0,none⟩) 0 0) (.arr (cap:=0) G bG G (bt _));simp only [Oper.upon,hd];refine ⟨_,⟨(d,.arr d sz 0 0)::(bV (λ i=>Nat.beq i d) ⟨sl,ob⟩).sl,(d,[])::(bV (λ i=>Nat.beq i d) ⟨sl,ob⟩).ob⟩,{ hp with ob:=λ id cs' hc=>?_ },hK⟩;simp only [aJ] at hc;by_cases e1:d=id
 ·subst e1;simp only [if_true,aq] at hc;subst hc;refine ⟨w.heap.size,#[],e,by simp,bG,by simp,λ o ho=>?_,λ i y hy=>by simp at hy⟩;rcases ho with ho|⟨_,ho⟩
  ·exact absurd (hs.lt _ _ ho) O
  ·exact ho
 ·rw [if_neg e1] at hc;exact hp.ob id cs' hc
theorem dH {α:Type}{f:α->PV}{sz:Nat}(CC:∀ x,(f x).cells.length=sz)(l:List α):(d5 f l).length=l.length*sz:=by
 unfold d5;rw [n6,eP (sz:=sz),n6];intro e he;obtain ⟨x,_,rfl⟩:=List.mem_map.1 he;exact CC x
theorem tp {α:Type}(f:α->PV)(l q:List α):(dJ (l.map f++q.map f)).map AV.p=d5 f (l++q):=by
 unfold d5; rw [List.map_append]
theorem wH {α:Type}(f:α->PV)(l0 l:List α){t tx e e':TypeId}{x y:Operand}{k sz n:Nat}{Y0z:AV}{i ie j:TI}(ho:o.op=.call { callee:=.builtin .append,args:=#[x,y],argTypes:=#[t,tx] })(hd:o.dst=some d)(hn:Nat.blt d C.n=true)
  (hi:look C.tt t=some i) (CR:i.k=.slice e) (hie:look C.tt e=some ie) (hj:look C.tt tx=some j) (hjk:j.k=.slice e') (hx:evo sl x=some (.arr k sz 0 n)) (hk:Nat.blt k M1=true) (hob:look ob k=some (d5 f l0)) (hnl:n=l0.length)
  (hy:evo sl y=some Y0z) (hY:Y0z.elems? = some (l.map f)) (hiz:ie.size=sz) (CC:∀ x,(f x).cells.length=ie.size) (h0:Nat.blt 0 ie.size=true) (hzl:Nat.beq ie.zero.length ie.size=true) (hby:Nat.blt 0 ie.bytes=true)
  (CE:(l0.length+l.length)*ie.bytes<=140737488355328)
  (hK:K ⟨(d,.arr d sz 0 (l0.length+l.length))::(bV (λ i=>Nat.beq i k||Nat.beq i d) ⟨sl,ob⟩).sl,(d,d5 f (l0++l))::(bV (λ i=>Nat.beq i k||Nat.beq i d) ⟨sl,ob⟩).ob⟩):aO C o K ⟨sl,ob⟩:=by
 have hby':1<=ie.bytes:=Nat.succ_le_of_lt (by simpa using hby);have h1:(l0.length+l.length)*1<=(l0.length+l.length)*ie.bytes:=Nat.mul_le_mul_left _ hby';have hs:∀ (l:List α),∀ y∈l.map f,y.cells.length=ie.size:=λ l y hy=>by obtain ⟨x,_,rfl⟩:=List.mem_map.1 hy; exact CC x
 exact vt ho hd hn hi CR hie hj hjk hx hk hob (by rw [n6]; exact hnl) hy hY (hs l) (hs l0) hiz h0 hzl (by rw [n6,n6]; exact CE) (by rw [n6,n6]; omega)
  (by rw [n6,n6,tp]; exact hK)
theorem tI {α:Type} [Inhabited α] {f:α->PV}{sz:Nat}(h0:0<sz)(CC:∀ x,(f x).cells.length=sz)(l:List α){n:Nat}(hn:n<l.length):((d5 f l).drop (n*sz)).take sz=(f (l.getD n default)).cells.map .p:=by
 have hs:∀ e∈l.map f,e.cells.length=sz:=λ y hy=>by obtain ⟨x,_,rfl⟩:=List.mem_map.1 hy; exact CC x
 have hm:n*sz+sz<=l.length*sz:=by rw [<- Nat.succ_mul]; exact Nat.mul_le_mul_right _ hn
 have CE:(d5 f l).length=l.length*sz:=dH CC l;apply List.ext_getElem?;intro j;rw [List.getElem?_take,List.getElem?_map];by_cases hj:j<sz
 ·rw [if_pos hj,List.getElem?_drop];have hcj:j<(f (l.getD n default)).cells.length:=by rw [CC]; exact hj
  have hg:=fC hs n (f (l.getD n default)) j _ (AL f l n default hn) (List.getElem?_eq_getElem hcj);rw [d5,List.getElem?_map,hg,List.getElem?_eq_getElem hcj]
 ·rw [if_neg hj,List.getElem?_eq_none (by rw [CC]; omega)]; rfl
theorem vO:∀ (l:List PV),ki (l.map .p)=.p (.agg l):=by
 have h:∀ (l:List PV),u3 (l.map .p)=some l:=by
  intro l
  induction l with
  | nil=>rfl
  | cons x r ih=>simp only [cl,u3,ih]
 intro l;unfold ki;rw [h]
theorem lV {α:Type} [Inhabited α] (f:α->PV)(cs:α->List PV)(l:List α){t:TypeId}{x:Operand}{i:TI}{id sz:Nat}{n:Int}(ho:o.op=.load t x)(hd:o.dst=some d)(hn:Nat.blt d C.n=true)
  (hi:look C.tt t=some i) (hia:i.k.isAgg=true) (hx:evo sl x=some (.ptr id (0+n.toNat*sz))) (hob:look ob id=some (d5 f l)) (hiz:i.size=sz) (h0:Nat.blt 0 sz=true) (hb:0<=n/\n<(l.length:Int)) (CJ:∀ x,(f x).cells=cs x) (CC:∀ x,(cs x).length=sz)
  (hK:K ⟨(d,.p (.agg (cs (lat l n))))::sl,ob⟩):aO C o K ⟨sl,ob⟩:=by
 subst hiz;have h0':0<i.size:=by simpa using h0
 have hsz':∀ x,(f x).cells.length=i.size:=λ x=>by rw [CJ]; exact CC x
 have hnl:n.toNat<l.length:=by omega
 have hm:n.toNat*i.size+i.size<=l.length*i.size:=by rw [<- Nat.succ_mul]; exact Nat.mul_le_mul_right _ hnl
 refine aN ho hd hn hi hia hx hob (Nat.ble_eq_true_of_le (by rw [dH hsz']; omega)) (y:=.p (.agg (cs (lat l n)))) ?_ hK;rw [rd,tI h0' hsz' l hnl,vO,CJ]
 rfl
theorem kJ {α:Type}{f:α->PV}{sz:Nat}(h0:0<sz)(CC:∀ x,(f x).cells.length=sz)(l:List α){n:Nat}(hn:n<l.length)(y:α):mC (d5 f l) (n*sz) ((f y).cells.map .p)=d5 f (l.set n y):=by
 have hs:∀ (l:List α),∀ e∈l.map f,e.cells.length=sz:=λ l y hy=>by obtain ⟨x,_,rfl⟩:=List.mem_map.1 hy; exact CC x
 have hm:n*sz+sz<=l.length*sz:=by rw [<- Nat.succ_mul]; exact Nat.mul_le_mul_right _ hn
 have hl1:((f y).cells.map AV.p).length=sz:=by rw [n6]; exact CC y
 have CE:(d5 f l).length=l.length*sz:=dH CC l;apply List.ext_getElem?;intro k;rw [i7 _ _ _ (by rw [hl1,CE]; exact hm),hl1];by_cases hk:k<l.length*sz
 ·have hd:k / sz<l.length:=(Nat.div_lt_iff_lt_mul h0).2 hk;have hr:k%sz<sz:=Nat.mod_lt _ h0;have he:k / sz*sz+k%sz=k:=by rw [Nat.mul_comm]; exact Nat.div_add_mod k sz
  have get:∀ (q:List α) (x:α),q[k / sz]? = some x->(d5 f q)[k]? = ((f x).cells[k%sz]?).map .p:=by
   intro q x hq;have hc:k%sz<(f x).cells.length:=by rw [CC]; exact hr
   have:=fC (hs q) (k / sz) (f x) (k%sz) _ (by rw [List.getElem?_map,hq]; rfl) (List.getElem?_eq_getElem hc);rw [he] at this;rw [d5,List.getElem?_map,this,List.getElem?_eq_getElem hc]
  by_cases h:n*sz<=k/\k<n*sz+sz
  ·rw [if_pos h]
   have hkn:k / sz=n:=by
    apply Nat.div_eq_of_lt_le
    ·exact h.1
    ·rw [Nat.succ_mul]; exact h.2
   rw [get (l.set n y) y (by rw [hkn,List.getElem?_set_self hn]),List.getElem?_map];have:k-n*sz=k%sz:=by rw [hkn] at he; omega
   rw [this]
  ·rw [if_neg h]
   have hkn:¬ n=k / sz:=by
    intro e; apply h; rw [e]; omega
   rw [get l l[k / sz] (List.getElem?_eq_getElem hd),get (l.set n y) l[k / sz] (by rw [List.getElem?_set_ne hkn]; exact List.getElem?_eq_getElem hd)]
 ·rw [if_neg O,List.getElem?_eq_none O,List.getElem?_eq_none (by rw [dH CC,List.length_set]; omega)]
theorem pN (l:List PV)(h:PV.onesB l=true):(AV.p (.agg l)).cellsA=some (l.map .p):=by
 first|rfl|simp [AV.cellsA,h]
theorem kD {α:Type} [Inhabited α] (f:α->PV)(cs:α->List PV)(l:List α)(y:α){t:TypeId}{x v:Operand}{i:TI}{id sz:Nat}{n:Int}(ho:o.op=.store t x v)(hd:o.dst=none)
  (hi:look C.tt t=some i) (hx:evo sl x=some (.ptr id (0+n.toNat*sz))) (hv:evo sl v=some (.p (.agg (cs y)))) (hob:look ob id=some (d5 f l)) (hiz:i.size=sz) (h0:Nat.blt 0 sz=true) (hb:0<=n/\n<(l.length:Int)) (CJ:∀ x,(f x).cells=cs x) (CC:∀ x,(cs x).length=sz) (CH:∀ x,PV.onesB (cs x)=true)
  (hK:K ⟨sl,(id,d5 f (l.set n.toNat y))::ob⟩):aO C o K ⟨sl,ob⟩:=by
 subst hiz;have h0':0<i.size:=by simpa using h0
 have hsz':∀ x,(f x).cells.length=i.size:=λ x=>by rw [CJ]; exact CC x
 have hnl:n.toNat<l.length:=by omega
 have hm:n.toNat*i.size+i.size<=l.length*i.size:=by rw [<- Nat.succ_mul]; exact Nat.mul_le_mul_right _ hnl
 refine cv (xs:=(cs y).map .p) ho hd hi hx hv (pN _ (CH y)) (by rw [n6]; exact CC y) hob (by rw [n6,CC,dH hsz']; omega) ?_;rw [rd,<- CJ,kJ h0' hsz' l hnl];exact hK
theorem fY {a:Int}(h:inR a):IntKind.wrap .i64 a=a:=IntWalk.i64_in a h
end
open Go.Proofs
def tt:List (Nat×TI):=[(2,⟨.int .i64,1,8,[.int .i64 0]⟩),(3,⟨.int .i64,1,8,[.int .i64 0]⟩),(4,⟨.bool,1,1,[.bool false]⟩),(5,⟨.int .u8,1,1,[.int .u8 0]⟩),(6,⟨.int .u8,1,1,[.int .u8 0]⟩),(7,⟨.struct [(0,2),(1,3),(2,4),(3,6)],4,24,[.int .i64 0,.int .i64 0,.bool false,.int .u8 0]⟩),(8,⟨.struct [(0,2),(1,3),(2,4),(3,6)],4,24,[.int .i64 0,.int .i64 0,.bool false,.int .u8 0]⟩),(9,⟨.string,1,16,[.string ⟨#[]⟩]⟩),(10,⟨.string,1,16,[.string ⟨#[]⟩]⟩),(11,⟨.string,1,16,[.string ⟨#[]⟩]⟩),(12,⟨.int .u64,1,8,[.int .u64 0]⟩),(13,⟨.struct [(0,9),(1,12)],2,24,[.string ⟨#[]⟩,.int .u64 0]⟩),(14,⟨.struct [(0,9),(1,12)],2,24,[.string ⟨#[]⟩,.int .u64 0]⟩),(15,⟨.ptr 173,1,8,[.pointer none]⟩),(16,⟨.ptr 176,1,8,[.pointer none]⟩),(17,⟨.ptr 183,1,8,[.pointer none]⟩),(18,⟨.struct [(0,17)],1,8,[.pointer none]⟩),(19,⟨.struct [(0,17)],1,8,[.pointer none]⟩),(20,⟨.iface,1,16,[.nilIface]⟩),(21,⟨.int .i32,1,4,[.int .i32 0]⟩),(23,⟨.slice 53,1,24,[.slice none 0 0]⟩),(24,⟨.int .i64,1,8,[.int .i64 0]⟩),(29,⟨.int .i64,1,8,[.int .i64 0]⟩),(30,⟨.slice 33,1,24,[.slice none 0 0]⟩),(31,⟨.slice 9,1,24,[.slice none 0 0]⟩),(32,⟨.struct [(0,29),(1,3),(2,9),(3,30),(4,31)],5,80,[.int .i64 0,.int .i64 0,.string ⟨#[]⟩,.slice none 0 0,.slice none 0 0]⟩),(33,⟨.struct [(0,29),(1,3),(2,9),(3,30),(4,31)],5,80,[.int .i64 0,.int .i64 0,.string ⟨#[]⟩,.slice none 0 0,.slice none 0 0]⟩),(46,⟨.slice 23,1,24,[.slice none 0 0]⟩),(52,⟨.struct [(0,4),(1,3),(2,9)],3,32,[.bool false,.int .i64 0,.string ⟨#[]⟩]⟩),(53,⟨.struct [(0,4),(1,3),(2,9)],3,32,[.bool false,.int .i64 0,.string ⟨#[]⟩]⟩),(62,⟨.ptr 65,1,8,[.pointer none]⟩),(63,⟨.slice 5,1,24,[.slice none 0 0]⟩),(64,⟨.struct [(0,62),(1,63)],2,32,[.pointer none,.slice none 0 0]⟩),(65,⟨.struct [(0,62),(1,63)],2,32,[.pointer none,.slice none 0 0]⟩),(66,⟨.iface,1,16,[.nilIface]⟩),(67,⟨.iface,1,16,[.nilIface]⟩),(96,⟨.other,1,8,[.nilFunc]⟩),(99,⟨.ptr 5,1,8,[.pointer none]⟩),(112,⟨.int .u64,1,8,[.int .u64 0]⟩),(117,⟨.array 256 5,256,256,List.replicate 256 (.int .u8 0)⟩),(118,⟨.struct [(0,5),(1,5)],2,2,[.int .u8 0,.int .u8 0]⟩),(119,⟨.struct [(0,5),(1,5)],2,2,[.int .u8 0,.int .u8 0]⟩),(120,⟨.array 16 119,32,32,[.int .u8 0,.int .u8 0,.int .u8 0,.int .u8 0,.int .u8 0,.int .u8 0,.int .u8 0,.int .u8 0,.int .u8 0,.int .u8 0,.int .u8 0,.int .u8 0,.int .u8 0,.int .u8 0,.int .u8 0,.int .u8 0,.int .u8 0,.int .u8 0,.int .u8 0,.int .u8 0,.int .u8 0,.int .u8 0,.int .u8 0,.int .u8 0,.int .u8 0,.int .u8 0,.int .u8 0,.int .u8 0,.int .u8 0,.int .u8 0,.int .u8 0,.int .u8 0]⟩),(134,⟨.ptr 107,1,8,[.pointer none]⟩),(138,⟨.int .u64,1,8,[.int .u64 0]⟩),(139,⟨.array 24 5,24,24,[.int .u8 0,.int .u8 0,.int .u8 0,.int .u8 0,.int .u8 0,.int .u8 0,.int .u8 0,.int .u8 0,.int .u8 0,.int .u8 0,.int .u8 0,.int .u8 0,.int .u8 0,.int .u8 0,.int .u8 0,.int .u8 0,.int .u8 0,.int .u8 0,.int .u8 0,.int .u8 0,.int .u8 0,.int .u8 0,.int .u8 0,.int .u8 0]⟩),(149,⟨.array 20 138,20,160,[.int .u64 0,.int .u64 0,.int .u64 0,.int .u64 0,.int .u64 0,.int .u64 0,.int .u64 0,.int .u64 0,.int .u64 0,.int .u64 0,.int .u64 0,.int .u64 0,.int .u64 0,.int .u64 0,.int .u64 0,.int .u64 0,.int .u64 0,.int .u64 0,.int .u64 0,.int .u64 0]⟩),(150,⟨.int .u32,1,4,[.int .u32 0]⟩),(153,⟨.int .i64,1,8,[.int .i64 0]⟩),(156,⟨.ptr 165,1,8,[.pointer none]⟩),(164,⟨.struct [(0,9),(1,9),(2,67)],3,48,[.string ⟨#[]⟩,.string ⟨#[]⟩,.nilIface]⟩),(165,⟨.struct [(0,9),(1,9),(2,67)],3,48,[.string ⟨#[]⟩,.string ⟨#[]⟩,.nilIface]⟩),(167,⟨.array 32 5,32,32,[.int .u8 0,.int .u8 0,.int .u8 0,.int .u8 0,.int .u8 0,.int .u8 0,.int .u8 0,.int .u8 0,.int .u8 0,.int .u8 0,.int .u8 0,.int .u8 0,.int .u8 0,.int .u8 0,.int .u8 0,.int .u8 0,.int .u8 0,.int .u8 0,.int .u8 0,.int .u8 0,.int .u8 0,.int .u8 0,.int .u8 0,.int .u8 0,.int .u8 0,.int .u8 0,.int .u8 0,.int .u8 0,.int .u8 0,.int .u8 0,.int .u8 0,.int .u8 0]⟩),(169,⟨.ptr 171,1,8,[.pointer none]⟩),(170,⟨.struct [(0,9)],1,16,[.string ⟨#[]⟩]⟩),(171,⟨.struct [(0,9)],1,16,[.string ⟨#[]⟩]⟩),(172,⟨.struct [(0,17),(1,17),(2,17),(3,9)],4,40,[.pointer none,.pointer none,.pointer none,.string ⟨#[]⟩]⟩),(173,⟨.struct [(0,17),(1,17),(2,17),(3,9)],4,40,[.pointer none,.pointer none,.pointer none,.string ⟨#[]⟩]⟩),(174,⟨.array 0 16,0,0,[]⟩),(175,⟨.struct [(0,174)],0,0,[]⟩),(176,⟨.struct [(0,174)],0,0,[]⟩),(177,⟨.int .u8,1,1,[.int .u8 0]⟩),(178,⟨.int .u8,1,1,[.int .u8 0]⟩),(180,⟨.int .i32,1,4,[.int .i32 0]⟩),(181,⟨.int .i32,1,4,[.int .i32 0]⟩),(182,⟨.struct [(0,12),(1,12),(2,150),(3,177),(4,5),(5,5),(6,178),(7,179),(8,99),(9,180),(10,181)],11,48,[.int .u64 0,.int .u64 0,.int .u32 0,.int .u8 0,.int .u8 0,.int .u8 0,.int .u8 0,.nilFunc,.pointer none,.int .i32 0,.int .i32 0]⟩),(183,⟨.struct [(0,12),(1,12),(2,150),(3,177),(4,5),(5,5),(6,178),(7,179),(8,99),(9,180),(10,181)],11,48,[.int .u64 0,.int .u64 0,.int .u32 0,.int .u8 0,.int .u8 0,.int .u8 0,.int .u8 0,.nilFunc,.pointer none,.int .i32 0,.int .i32 0]⟩)]
theorem good:cj Tryz.prog tt:=by
 unfold tt;simp only [cj];refine ⟨?_,?_,?_,?_,?_,?_,?_,?_,?_,?_,?_,?_,?_,?_,?_,?_,?_,?_,?_,?_,?_,?_,?_,?_,?_,?_,?_,?_,?_,?_,?_,?_,?_,?_,?_,?_,?_,?_,?_,?_,?_,?_,?_,?_,?_,?_,?_,?_,?_,?_,?_,?_,?_,?_,?_,?_,?_,?_,?_,?_,?_,?_,?_,?_,?_,?_,?_,trivial⟩
 all_goals exact ⟨by kernel_rfl,by kernel_rfl⟩
end Go.Ab
end
section
namespace Go.Ab
def bU (k:IntKind)(a b:Int):Int:=k.wrap ((BitVec.ofInt k.bits a &&& BitVec.ofInt k.bits b).toNat:Nat)
def iOr (k:IntKind)(a b:Int):Int:=k.wrap ((BitVec.ofInt k.bits a ||| BitVec.ofInt k.bits b).toNat:Nat)
def iXor (k:IntKind)(a b:Int):Int:=k.wrap ((BitVec.ofInt k.bits a ^^^ BitVec.ofInt k.bits b).toNat:Nat)
def vE (k:IntKind)(a b:Int):Int:=k.wrap ((BitVec.ofInt k.bits a &&& ~~~(BitVec.ofInt k.bits b)).toNat:Nat)
def Ah (k:IntKind):BinOp->Int->Int->Option Int|.and,a,b=>some (bU k a b)|.or,a,b=>some (iOr k a b)|.xor,a,b=>some (iXor k a b)|.andNot,a,b=>some (vE k a b)|_,_,_=>none
def gA (k:IntKind)(a b:Int):Int:=k.wrap (a*2^(min b.toNat k.bits))
def dF (k:IntKind)(a b:Int):Int:=a.fdiv (2^(min b.toNat k.bits))
def shI (k:IntKind):BinOp->Int->Int->Option Int|.shl,a,b=>some (gA k a b)|.shr,a,b=>some (dF k a b)|_,_,_=>none
theorem xH {P:Program}{w:World}{op:BinOp}{t:TypeId}{k:IntKind}{a b c:Int}(h:Ah k op a b=some c) :
  (binOp op t (.int k a) (.int k b)).run P w=.ok (.int k c) w:=by
 cases op <;> simp only [Ah,aq,reduceCtorEq] at h <;> subst h <;> simp [binOp,Op.intBits,bU,iOr,iXor,vE]
theorem zC {P:Program}{w:World}{op:BinOp}{t:TypeId}{k k':IntKind}{a b c:Int}(hb:0<=b)(h:shI k op a b=some c) :
  (binOp op t (.int k a) (.int k' b)).run P w=.ok (.int k c) w:=by
 have hb':¬ b<0:=by omega
 cases op <;> simp only [shI,aq,reduceCtorEq] at h <;> subst h <;> simp [binOp,Op.shift,hb',gA,dF]
section
variable {C:Cx} {o:Oper} {K:AS->Prop} {sl:List (Nat×AV)} {ob:List (Nat×List AV)} {d:Nat}
theorem BW {op:BinOp}{t t':TypeId}{x y:Operand}{k:IntKind}{a b c:Int}(ho:o.op=.binOp op t x y t')(hd:o.dst=some d)(hn:Nat.blt d C.n=true)
  (hx:evo sl x=some (.p (.val (.int k a)))) (hy:evo sl y=some (.p (.val (.int k b)))) (hc:Ah k op a b=some c)
  (hK:K ⟨(d,.p (.val (.int k c)))::sl,ob⟩):aO C o K ⟨sl,ob⟩ :=
 ok_one hd hn (λ g a w hs=>⟨_,by
  simp only [execOp,ho,bQ hs hx,bQ hs hy,Sem.run_bind,jr,Result.andThen_ok,xH hc,Sem.run_pure],.p (.val _)⟩) hK
theorem jM {op:BinOp}{t t':TypeId}{x y:Operand}{k k':IntKind}{a b c:Int}(ho:o.op=.binOp op t x y t')(hd:o.dst=some d)(hn:Nat.blt d C.n=true)
  (hx:evo sl x=some (.p (.val (.int k a)))) (hy:evo sl y=some (.p (.val (.int k' b)))) (hc:shI k op a b=some c) (hb:0<=b)
  (hK:K ⟨(d,.p (.val (.int k c)))::sl,ob⟩):aO C o K ⟨sl,ob⟩ :=
 ok_one hd hn (λ g a w hs=>⟨_,by
  simp only [execOp,ho,bQ hs hx,bQ hs hy,Sem.run_bind,jr,Result.andThen_ok,zC hb hc,Sem.run_pure],.p (.val _)⟩) hK
end
def eqC:Option PV->Option PV->Prop|some (.val (.int _ a)),some (.val (.int _ b))=>a=b|some (.val (.bool a)),some (.val (.bool b))=>a=b|some (.val (.string a)),some (.val (.string b))=>a.data.toList=b.data.toList|_,_=>False
def eqF (cs ds:List PV):List (Nat×Nat)->Prop|[]=>True|[f]=>eqC cs[f.1]? ds[f.1]?|f::g::r=>eqC cs[f.1]? ds[f.1]?/\eqF cs ds (g::r)
def vn (k:Option TI)(x y:Option PV):Bool:=match k,x,y with
 | some ⟨.int q,_,_,_⟩,some (.val (.int k _)),some (.val (.int k' _))=>(q==k)&&(q==k')
 | some ⟨.bool,_,_,_⟩,some (.val (.bool _)),some (.val (.bool _))=>true
 | some ⟨.string,_,_,_⟩,some (.val (.string _)),some (.val (.string _))=>true
 | _,_,_=>false
def rO (tt:List (Nat×TI))(cs ds:List PV):List (Nat×Nat)->Bool|[]=>true|f::r=>vn (look tt f.2) cs[f.1]? ds[f.1]?&&rO tt cs ds r
def oD:List Field->Bool
 | []=>true
 | f::r=>f.name != "_" && oD r
def eqOk (P:Program)(t:TypeId):Bool:=oD (P.fieldsOf t).toList&&!P.stoodInHeld t&&!P.eqGuardType P.depth t
theorem jG {P:Program}{tt:List (Nat×TI)}(good:cj P tt){t:Nat}{i:TI}(h:look tt t=some i)(ha:i.k.isAgg=false){cs:Array Value}{off:Nat}{v:Value}(hv:cs[off]? = some v)(w:World) :
  (part t cs off).run P w=.ok v w:=by
 simp [part,jS good h,ha,hv]
theorem iQ {w:World}{st:Nat->Nat->Prop}{cs:List PV}{vs:Array Value}(h:PRep w st (.agg cs) (.agg vs)){j:Nat}{u:Value}(hc:cs[j]? = some (.val u)):vs[j]? = some u:=by
 cases h with
 | agg hl h=>
  have hj:j<vs.size:=by
   rw [hl];exact (List.getElem?_eq_some_iff.1 hc).1
  have h1:=h j _ _ hc (Array.getElem?_eq_getElem hj)
  cases h1
  exact Array.getElem?_eq_getElem hj
theorem tv {P:Program}{tt:List (Nat×TI)}(good:cj P tt){w:World}{st:Nat->Nat->Prop}{cs ds:List PV}{xs ys:Array Value}(hx:PRep w st (.agg cs) (.agg xs))(hy:PRep w st (.agg ds) (.agg ys)){t off:Nat}
  (h:vn (look tt t) cs[off]? ds[off]? = true) (d:Nat):∃ a b r,(part t xs off).run P w=.ok a w/\(part t ys off).run P w=.ok b w/\(Op.equalIn (d+1) t a b).run P w=.ok r w/\(r=true↔eqC cs[off]? ds[off]?):=by
 unfold vn at h;split at h
 ·rename_i q s z l k u k' u' hl hc hd;simp only [n7,beq_iff_eq] at h;obtain ⟨rfl,rfl⟩:=h;obtain ⟨ud,h1,h2⟩:=bc good hl;have h3:=iW h2;subst h3;refine ⟨_,_,_,jG good hl rfl (iQ hx hc) w,jG good hl rfl (iQ hy hd) w,run_equalIn_int w d t _ _ u u' h1,?_⟩;rw [hc,hd];exact beq_iff_eq
 ·rename_i s z l u u' hl hc hd;obtain ⟨ud,h1,h2⟩:=bc good hl;have h3:=lk h2;subst h3;refine ⟨_,_,_,jG good hl rfl (iQ hx hc) w,jG good hl rfl (iQ hy hd) w,run_equalIn_bool' w d t u u' h1,?_⟩;rw [hc,hd];exact beq_iff_eq
 ·rename_i s z l u u' hl hc hd;obtain ⟨ud,h1,h2⟩:=bc good hl;have h3:=fx h2;subst h3;refine ⟨_,_,_,jG good hl rfl (iQ hx hc) w,jG good hl rfl (iQ hy hd) w,run_equalIn_string w d t u u' h1,?_⟩;rw [hc,hd];simp only [eqC,beq_iff_eq,ByteArray.toList_eq]
 ·cases h
theorem wo {P:Program}{tt:List (Nat×TI)}(good:cj P tt){w:World}{st:Nat->Nat->Prop}{cs ds:List PV}{xs ys:Array Value}(hx:PRep w st (.agg cs) (.agg xs))(hy:PRep w st (.agg ds) (.agg ys))(d:Nat) :
  ∀ fs:List Field,oD fs=true->rO tt cs ds (fs.map λ f=>(f.offset,f.type))=true ->
   ∃ r,(Op.eqFields (d+1) xs ys fs).run P w=.ok r w/\(r=true↔eqF cs ds (fs.map λ f=>(f.offset,f.type)))
 | [],_,_=>⟨true,Z,by simp [eqF]⟩
 | f::r,hn,hp=>by
  simp only [oD,n7,bne_iff_ne,ne_eq] at hn;simp only [cl,rO,n7] at hp;obtain ⟨a,b,r1,e1,e2,e3,e4⟩:=tv good hx hy hp.1 d;obtain ⟨r2,e5,e6⟩:=wo good hx hy d r hn.2 hp.2
  cases r1 with
  | false=>
   refine ⟨false,by simp [Op.eqFields,hn.1,e1,e2,e3],?_⟩;have:¬ eqC cs[f.offset]? ds[f.offset]?:=λ h=>by cases e4.2 h
   cases r with
   | nil=>simpa [eqF] using this
   | cons g r=>simp [eqF,this]
  | true=>
   refine ⟨r2,by simp [Op.eqFields,hn.1,e1,e2,e3,e5],?_⟩;rw [e6];have:=e4.1 Z
   cases r with
   | nil=>simpa [eqF] using this
   | cons g r=>simp [eqF,this]
theorem Bv {C:Cx}{o:Oper}{K:AS->Prop}{sl:List (Nat×AV)}{ob:List (Nat×List AV)}{d:Nat}{op:BinOp}{t t':TypeId}{x y:Operand}{cs ds:List PV}{i:TI}{fs:List (Nat×Nat)}{r:Bool}(p:Prop) [Decidable p]
  (ho:o.op=.binOp op t x y t') (hd:o.dst=some d) (hn:Nat.blt d C.n=true) (hi:look C.tt t=some i) (CR:i.k=.struct fs) (hx:evo sl x=some (.p (.agg cs))) (hy:evo sl y=some (.p (.agg ds)))
  (hok:eqOk C.P t=true) (hpl:rO C.tt cs ds fs=true) (hp:p=eqF cs ds fs) (hop:op=.eql/\r=decide p\/op=.neq/\r=!decide p)
  (hK:K ⟨(d,.p (.val (.bool r)))::sl,ob⟩):aO C o K ⟨sl,ob⟩:=by
 subst hp;obtain ⟨u,h1,h2⟩:=bc C.good hi;obtain ⟨fa,rfl,h3⟩:=eu (h2.trans CR);have hfo:C.P.fieldsOf t=fa:=by unfold Program.fieldsOf; rw [h1]
 simp only [eqOk,n7,Bool.not_eq_true',hfo] at hok;refine ok_one hd hn (λ g a w hs=>?_) hK;have hxr:=bg hs hx;have hyr:=bg hs hy
 cases hxr with
 | p hxr=>
  cases hyr with
  | p hyr=>
   generalize hxv:a.eval x=vx at hxr;generalize hyv:a.eval y=vy at hyr
   cases hxr with
   | @agg _ xs hl1 hh1=>
    cases hyr with
    | @agg _ ys hl2 hh2=>
     obtain ⟨rr,e1,e2⟩:=wo C.good (.agg hl1 hh1) (.agg hl2 hh2) 9998 fa.toList hok.1.1 (by rw [h3]; exact hpl);rw [h3] at e2;have e3:=run_equalIn_struct w 9999 t xs ys (by rw [hfo]; exact h1) hok.1.2;rw [hfo] at e3
     have hrr:rr=decide (eqF cs ds fs):=by
      cases rr with
      | true=>exact (decide_eq_true (e2.1 Z)).symm
      | false=>exact (decide_eq_false (λ h=>by cases e2.2 h)).symm
     rcases hop with ⟨rfl,rfl⟩|⟨rfl,rfl⟩
     ·refine ⟨_,?_,.p (.val _)⟩;simp only [execOp,ho,hxv,hyv,Sem.run_bind,run_eqGuard_agg w _ t x y xs ys hok.2,Result.andThen_ok,run_eql_struct,e3,e1,Sem.run_pure,hrr]
     ·refine ⟨_,?_,.p (.val _)⟩;simp only [execOp,ho,hxv,hyv,Sem.run_bind,run_eqGuard_agg w _ t x y xs ys hok.2,Result.andThen_ok,run_neq_struct,e3,e1,Sem.run_pure,hrr]
theorem zO {q:Prop}{b:Bool}(h1:b=true->q)(h2:b=false->q):q:=by cases b with|true=>exact h1 rfl|false=>exact h2 rfl
def eU (b:UInt8):PV:=.val (.int .u8 (b.toNat:Int))
def u8 (n:Int):UInt8:=UInt8.ofNat n.toNat
theorem kT {n:Int}(h:(0:Int)<=n/\n<256):eK .u8 n=eU (u8 n):=by
 unfold eK eU u8
 have:(((UInt8.ofNat n.toNat).toNat:Nat):Int)=n:=by
  rw [UInt8.toNat_ofNat',Nat.mod_eq_of_lt O]; omega
 rw [this]
section
variable {C:Cx} {o:Oper} {K:AS->Prop} {sl:List (Nat×AV)} {ob:List (Nat×List AV)} {d:Nat}
theorem zu (l0 l:Bk){t tx e:TypeId}{x y:Operand}{k ty:Nat}{i ie j:TI}(ho:o.op=.call { callee:=.builtin .append,args:=#[x,y],argTypes:=#[t,tx] })(hd:o.dst=some d)(hn:Nat.blt d C.n=true)
  (hi:look C.tt t=some i) (CR:i.k=.slice e) (hie:look C.tt e=some ie) (hj:look C.tt tx=some j) (hjk:j.k=.string) (hx:evo sl x=some (.vec k 1 ty (l0.map eU))) (hk:Nat.blt k M1=true)
  (hy:evo sl y=some (.p (eS l))) (h1:ie.size=1) (hzl:Nat.beq ie.zero.length ie.size=true) (hby:Nat.blt 0 ie.bytes=true)
  (hty:(Nat.beq ty 0||Nat.beq ty (e+1))=true) (CE:(l0.length+l.length)*ie.bytes<=140737488355328)
  (hK:K ⟨(d,.vec d 1 ty ((l0++l).map eU))::(bV (λ i=>Nat.beq i k||Nat.beq i d) ⟨sl,ob⟩).sl,(bV (λ i=>Nat.beq i k||Nat.beq i d) ⟨sl,ob⟩).ob⟩):aO C o K ⟨sl,ob⟩:=by
 have hby':1<=ie.bytes:=Nat.succ_le_of_lt (by simpa using hby);have h2:(l0.length+l.length)*1<=(l0.length+l.length)*ie.bytes:=Nat.mul_le_mul_left _ hby'
 exact nS ho hd hn hi CR hie hx hk h1 (ys:=l.map eU) (h1 ▸ xw hj hjk hy) (λ y hy=>by obtain ⟨x,_,rfl⟩:=List.mem_map.1 hy; rw [h1]; rfl) (by rw [h1]; rfl) hzl (by rw [n6,n6]; exact CE) (by rw [n6,n6]; omega) hty
  (by rw [<- List.map_append]; exact hK)
def eE (b:Bool):PV:=bif b then .ifc else .val .nilIface
theorem BP (b:Bool):AV.toPV (.p (eE b))=some (eE b):=by cases b <;> rfl
theorem uw:AV.settle.go []=some []:=rfl
theorem nT {x:AV}{y:PV}{r l:List AV}(h:x.toPV=some y)(h':AV.settle.go r=some l):AV.settle.go (x::r)=some (.p y::l):=by simp only [AV.settle.go,h,h']
theorem xF {l l':List AV}(h:AV.settle.go l=some l'):AV.settle (.tuple l)=some (.tuple l'):=by simp only [AV.settle,h]
theorem uG {u:TypeDesc}(h:kindOf u=.iface):∃ ms,u=.interface ms:=by cases u <;> simp [kindOf] at h; exact ⟨_,rfl⟩
theorem ni {P:Program}{t:TypeId}{ms:Array (String×TypeId)}(h:P.underlying t=some (.interface ms))(w:World):(Op.equal t .nilIface .nilIface).run P w=.ok true w:=by
 have:∀ d,(Op.equalIn (d+1) t .nilIface .nilIface).run P w=.ok true w:=λ d=>by simp [Op.equalIn,run_underlying h]
 exact this 9999
theorem m8 {P:Program}{t:TypeId}{ms:Array (String×TypeId)}(h:P.underlying t=some (.interface ms))(w:World)(t':TypeId)(v:Value):(Op.equal t (.iface t' v) .nilIface).run P w=.ok false w:=by
 have:∀ d,(Op.equalIn (d+1) t (.iface t' v) .nilIface).run P w=.ok false w:=λ d=>by simp [Op.equalIn,run_underlying h]
 exact this 9999
theorem BF {op:BinOp}{t t':TypeId}{x:Operand}{b c:Bool}{i:TI}(ho:o.op=.binOp op t x (.const .nilIface) t')(hd:o.dst=some d)(hn:Nat.blt d C.n=true)
  (hi:look C.tt t=some i) (CR:i.k=.iface)
  (hx:evo sl x=some (.p (eE b))) (hc:(op=.eql/\c=!b)\/(op=.neq/\c=b))
  (hK:K ⟨(d,.p (eB c))::sl,ob⟩):aO C o K ⟨sl,ob⟩:=by
 obtain ⟨u,h1,h2⟩:=bc C.good hi;obtain ⟨ms,rfl⟩:=uG (h2.trans CR);refine ok_one hd hn (λ g a w hs=>⟨.bool c,?_,.p (.val _)⟩) hK;have hr:=bg hs hx;generalize hv:a.eval x=v at hr;have hcn:a.eval (.const .nilIface)=.nilIface:=rfl
 cases b with
 | true=>
  cases hr with
  | p h=>
   cases h with
   | ifc t2 v2=>rcases hc with ⟨rfl,rfl⟩|⟨rfl,rfl⟩ <;> simp [execOp,ho,hv,hcn,eqGuard,binOp,m8 h1]
 | false=>
  cases hr with
  | p h=>
   cases h with
   | val=>rcases hc with ⟨rfl,rfl⟩|⟨rfl,rfl⟩ <;> simp [execOp,ho,hv,hcn,eqGuard,binOp,ni h1]
theorem y7 {st dt:TypeId}{x:Operand}{k k':IntKind}{a:Int}{i j:TI}(ho:o.op=.convert st dt x)(hd:o.dst=some d)(hn:Nat.blt d C.n=true)
  (hi:look C.tt st=some i) (CR:i.k=.int k') (hj:look C.tt dt=some j) (hjk:j.k=.int k) (hx:evo sl x=some (.p (.val (.int k' a))))
  (hK:K ⟨(d,.p (.val (.int k (k.wrap a))))::sl,ob⟩):aO C o K ⟨sl,ob⟩:=by
 obtain ⟨u,h1,h2⟩:=bc C.good hj;have h3:=iW (h2.trans hjk);obtain ⟨u',h1',h2'⟩:=bc C.good hi;have h3':=iW (h2'.trans CR);subst h3 h3';exact ok_one hd hn (λ g b w hs=>⟨_,by simp [execOp,ho,bQ hs hx,convert,run_underlying h1,run_underlying h1',Conv.intToInt],.p (.val _)⟩) hK
end
theorem u5 {u:TypeDesc}{n e:Nat}(h:kindOf u=.array n e):u=.array n e:=by cases u <;> simp [kindOf] at h; obtain ⟨rfl,rfl⟩:=h; rfl
section
variable {C:Cx} {o:Oper} {K:AS->Prop} {sl:List (Nat×AV)} {ob:List (Nat×List AV)} {d:Nat}
theorem tE {t m e:Nat}{parts:Array (Nat×Operand)}{i ie:TI}{ps:List (Nat×AV)}{cs:List AV}{y:AV}(ho:o.op=.build t parts)(hd:o.dst=some d)(hn:Nat.blt d C.n=true)
  (hi:look C.tt t=some i) (CR:i.k=.array m e) (hie:look C.tt e=some ie) (hps:gX sl parts.toList=some ps) (hf:nR (λ (k:Nat)=>some (k*ie.size,ie.size)) (dj i) ps=some cs) (hy:some (ki cs)=some y)
  (hK:K ⟨(d,y)::sl,ob⟩):aO C o K ⟨sl,ob⟩:=by
 cases hy
 obtain ⟨u,h1,h2⟩:=bc C.good hi;have h3:=u5 (h2.trans CR);subst h3;refine ok_one hd hn (λ g a w hs=>?_) hK;obtain ⟨z,hz1,hz2⟩:=ig C.good hi w;obtain ⟨q1,q2⟩:=kM hs _ ps hps
 obtain ⟨c',f1,f2,f3⟩:=mM (place:=λ (k:Nat)=>some (k*ie.size,ie.size)) ps (parts.toList.map λ p=>(p.1,a.eval p.2)) (dj i) cs z.cells q1 q2 (by simp [dj,<- hz2]) (λ k x v hx hv=>by
  simp only [dj,List.getElem?_map,ld,<- hz2,Array.getElem?_toList] at hx;obtain ⟨u,hu,rfl⟩:=hx;rw [hv] at hu; cases hu
  exact .p (.val _)) hf
 refine ⟨.agg c',?_,lg f2 f3⟩;have e1:(parts.map λ (i,x)=>(i,a.eval x)).toList=parts.toList.map λ p=>(p.1,a.eval p.2):=by rw [Array.toList_map]
 simp only [execOp,ho,Instr.build,Sem.run_bind,hz1,Result.andThen_ok,run_underlying h1,run_sizeOf C.good hie,e1,f1,Sem.run_pure]
end
theorem a8 {c:Int}(h1:-9223372036854775808<=c)(h2:c<=9223372036854775807):inR c:=⟨h1,h2⟩
theorem sy (l:Bk)(k:Nat):byt l (k:Int)=((l.getD k 0).toNat:Int):=rfl
theorem sv {α:Type} [Inhabited α] (l:List α)(k:Nat):lat l (k:Int)=l.getD k default:=rfl
theorem oM {α:Type}(l:List α)(i:Int):sub l i (l.length:Int)=l.drop i.toNat:=by
 show (l.take (l.length:Int).toNat).drop i.toNat=_;rw [Int.toNat_natCast,List.take_length]
end Go.Ab
namespace Go.Ab
def Ev2 {α:Type}(f:Nat->Nat->Option α)(P:α->Prop):Prop:=∃ r,P r/\∃ N,∀ n m,N<=n->N<=m->f n m=some r
section
variable {α β γ:Type} {P:α->Prop} {Q:β->Prop}
theorem ai {r:α}(h:P r):Ev2 (λ _ _=>some r) P:=⟨r,h,0,λ _ _ _ _=>rfl⟩
theorem ax {p:Prop} [Decidable p] {f:Nat->Nat->Option α}(hp:p)(h:Ev2 f P):Ev2 (λ n m=>ck p (f n m)) P:=by
 obtain ⟨r,h1,N,h2⟩:=h;exact ⟨r,h1,N,λ n m hn hm=>(dX hp).trans (h2 n m hn hm)⟩
theorem aw {p:Prop} [Decidable p] {f g:Nat->Nat->Option α}(h1:p->Ev2 f P)(h2:¬p->Ev2 g P):Ev2 (λ n m=>if p then f n m else g n m) P:=by
 by_cases h:p
 ·simpa only [if_pos h] using h1 h
 ·simpa only [if_neg h] using h2 h
theorem aI {p:Prop} [Decidable p] {f g:Nat->Nat->Option α}(hp:p)(h:Ev2 f P):Ev2 (λ n m=>if p then f n m else g n m) P:=aw (λ _=>h) (λ k=>absurd hp k)
theorem aE {p:Prop} [Decidable p] {f g:Nat->Nat->Option α}(hp:¬p)(h:Ev2 g P):Ev2 (λ n m=>if p then f n m else g n m) P:=aw (λ k=>absurd k hp) (λ _=>h)
theorem fI {f:Nat->Nat->Option α}{P':α->Prop}(h:Ev2 f P)(hp:∀ r,P r->P' r):Ev2 f P':=by
 obtain ⟨r,h1,h2⟩:=h;exact ⟨r,hp r h1,h2⟩
theorem zK {g:Nat->Nat->Option β}{k:Nat->Nat->β->Option α}(h:Ev2 g (λ x=>Ev2 (λ n m=>k n m x) P)):Ev2 (λ n m=>(g n m).bind (k n m)) P:=by
 obtain ⟨x,⟨r,h1,N,h2⟩,M,h3⟩:=h;exact ⟨r,h1,N+M,λ n m hn hm=>(congrArg (λ o=>Option.bind o (k n m)) (h3 n m O O)).trans (h2 n m O O)⟩
theorem bI {g:Nat->Nat->Option β}{k:Nat->Nat->β->Option α}(Q:β->Prop)(h:Ev2 g Q)(hk:∀ x,Q x->Ev2 (λ n m=>k n m x) P):Ev2 (λ n m=>(g n m).bind (k n m)) P :=
 zK (fI h hk)
theorem zt {g:Nat->Nat->Option (β⊕α)}{k:Nat->Nat->β->Option α}(h:Ev2 g (λ s=>match s with|.inl x=>Ev2 (λ n m=>k n m x) P|.inr y=>P y)):Ev2 (λ n m=>jn (g n m) (k n m)) P:=by
 obtain ⟨s,h1,M,h3⟩:=h
 cases s with
 | inl x=>
  obtain ⟨r,h1,N,h2⟩:=h1;exact ⟨r,h1,N+M,λ n m hn hm=>(congrArg (λ o=>jn o (k n m)) (h3 n m O O)).trans (h2 n m O O)⟩
 | inr y=>exact ⟨y,h1,M,λ n m hn hm=>(congrArg (λ o=>jn o (k n m)) (h3 n m hn hm)).trans Z⟩
theorem eA {g:Nat->Nat->Option (β⊕α)}{k:Nat->Nat->β->Option α}(x:β)(h:Ev2 g (·=.inl x))(hk:Ev2 (λ n m=>k n m x) P):Ev2 (λ n m=>jn (g n m) (k n m)) P :=
 zt (fI h λ r hr=>by subst hr; exact hk)
theorem fP {g:Nat->Nat->Option (β⊕α)}{k:Nat->Nat->β->Option α}(y:α)(h:Ev2 g (·=.inr y))(hy:P y):Ev2 (λ n m=>jn (g n m) (k n m)) P :=
 zt (fI h λ r hr=>by subst hr; exact hy)
theorem ee {f:Nat->Option α}(h:Ev2 (λ n _=>f (n+1)) P):Ev2 (λ n _=>f n) P:=by
 obtain ⟨r,h1,N,h2⟩:=h;refine ⟨r,h1,N+1,λ n m hn hm=>?_⟩;obtain ⟨n,rfl⟩:∃ k,n=k+1:=⟨n-1,by omega⟩
 exact h2 n n O O
theorem aT {f:Nat->Nat->Option α}(h:Ev2 (λ n m=>f n (m+1)) P):Ev2 f P:=by
 obtain ⟨r,h1,N,h2⟩:=h;refine ⟨r,h1,N+1,λ n m hn hm=>?_⟩;obtain ⟨m,rfl⟩:∃ k,m=k+1:=⟨m-1,by omega⟩
 exact h2 n m O O
theorem bX {f:Nat->Nat->Option α}(h:Ev2 f P):Ev2 (λ n _=>f n n) P:=by
 obtain ⟨r,h1,N,h2⟩:=h;exact ⟨r,h1,N,λ n _ hn _=>h2 n n hn hn⟩
theorem uz {f:Nat->Option α}(h:Ev2 (λ n _=>f n) P):∃ n r,f n=some r/\P r:=by
 obtain ⟨r,h1,N,h2⟩:=h;exact ⟨N,r,h2 N N (bt _) (bt _),h1⟩
theorem da {o:Option α}{r:α}(h:o=some r)(hp:P r):Ev2 (λ _ _=>o) P:=⟨r,hp,0,λ _ _ _ _=>h⟩
theorem Ax {f:Nat->Nat->Option α}{P':α->Prop}(h:Ev2 f P)(h':Ev2 f P'):∃ r,P r/\P' r/\Ev2 f (·=r):=by
 obtain ⟨r,h1,N,h2⟩:=h;obtain ⟨r',h1',N',h2'⟩:=h';have:=(h2 (N+N') (N+N') O O).symm.trans (h2' (N+N') (N+N') O O)
 cases this
 exact ⟨r,h1,h1',r,Z,N,h2⟩
end
theorem BL {i:Int}{l:Nat}(h:0<=i/\i<(l:Int)):∃ k:Nat,i=k/\k<l:=⟨i.toNat,by omega,by omega⟩
theorem cY {α:Type} [Inhabited α] (l:List α)(k:Nat)(h:k<l.length):lat l (k:Int)=l[k]:=by
 rw [sv,List.getD_eq_getElem?_getD,List.getElem?_eq_getElem h]; rfl
theorem dU {α:Type} [Inhabited α] {l:List α}{i:Int}(h:0<=i/\i<(l.length:Int)):lat l i∈l:=by
 obtain ⟨k,rfl,hk⟩:=BL h;rw [cY l k hk]; exact List.getElem_mem hk
class UW (p:Prop) (q:outParam Prop):Prop where
 go:q->p
class UO (p:Prop) (b:outParam Bool) (q:outParam Prop):Prop where
 go:b=false->q->p
section
variable {K P:AS->Prop} {Q:Exit->AS->Prop} {s:AS} {id id':Nat}
instance:UW (mc K Q .ret s) (Q .ret s):=⟨bf⟩
instance:UW (mc K Q (.exit id) s) (Q (.exit id) s):=⟨aR⟩
instance:UW (gB id Q .ret s) (Q .ret s):=⟨aS⟩
instance:UW (gB id Q .normal s) (Q .normal s):=⟨aG⟩
instance:UW (gB id Q (.exit id) s) (Q .normal s):=⟨aK⟩
instance:UO (gB id Q (.exit id') s) (Nat.beq id' id) (Q (.exit id') s):=⟨aH⟩
instance:UW (noGoto Q .ret s) (Q .ret s):=⟨noGoto_ret⟩
instance:UW (noGoto Q (.exit id) s) (Q (.exit id) s):=⟨noGoto_exit⟩
instance:UW (noGoto Q .normal s) (Q .normal s):=⟨noGoto_normal⟩
instance:UW (exQ id P Q (.exit id) s) (P s):=⟨bM⟩
instance:UO (exQ id P Q (.exit id') s) (Nat.beq id' id) (Q (.exit id') s):=⟨a6⟩
instance:UW (exQ id P Q .ret s) (Q .ret s):=⟨bJ⟩
instance:UW (exQ id P Q .normal s) (Q .normal s):=⟨aP⟩
end
theorem oi {α:Type}{a b:α}(h:some a=some b):a=b:=Option.some.inj h
theorem dt {p:Prop} [Decidable p] (h:p):decide p=true:=decide_eq_true h
theorem df {p:Prop} [Decidable p] (h:¬p):decide p=false:=decide_eq_false h
theorem sr {x:AV}:x.sub x:=AV.sub_refl x
theorem er {s:List (Nat×AV)}{j:Nat}{x:AV}(h:look s j=some x):∃ y,look s j=some y/\y.sub x:=⟨x,h,sr⟩
end Go.Ab
namespace Go.Ab
def Le {α:Type}(o o':Option α):Prop:=∀ r,o=some r->o'=some r
section
variable {α β:Type}
theorem aB (o:Option α):Le o o:=λ _ h=>h
end
end Go.Ab
namespace Go.Ab
open Go.RowKit
end Go.Ab
namespace Go.Ab
/- The steps that occur most,their closed facts by themselves. -/
end Go.Ab
namespace Go.Ab
section
variable {C:Cx} {ops:Array Oper} {K:AS->Prop} {sl base:List (Nat×AV)} {ob:List (Nat×List AV)} {r:List Oper} {o:Oper} {d k:Nat} {rev:Rev}
def mvX:Op->Option Operand|.move x=>some x|.assign x=>some x|_=>none
def mvF (n:Nat)(o:Oper)(sl:List (Nat×AV)):Option (Nat×AV) :=
 match mvX o.op with
 | some x=>(match o.dst with
  | some d=>bif Nat.blt d n then (match evo sl x with|some y=>some (d,y)|none=>none) else none
  | none=>none)
 | none=>none
def gdF (ops:Array Oper)(o:Oper)(sl:List (Nat×AV)):Option (Bool×AV) :=
 match o.guard with
 | some (j,w)=>(match (ops.toList[j]?).bind (·.dst) with
  | some t=>(match look sl t with|some x=>some (w,x)|none=>none)
  | none=>none)
 | none=>none
theorem nw {w:Bool}{x:AV}(h:gdF ops o sl=some (w,x)):∃ j t,o.guard=some (j,w)/\(ops.toList[j]?).bind (·.dst)=some t/\look sl t=some x:=by
 unfold gdF at h
 cases hg:o.guard with
 | none=>rw [hg] at h; cases h
 | some p=>
  obtain ⟨j,w'⟩:=p;rw [hg] at h;simp only at h
  cases ht:(ops.toList[j]?).bind (·.dst) with
  | none=>rw [ht] at h; cases h
  | some t=>
   rw [ht] at h;simp only at h
   cases hl:look sl t with
   | none=>rw [hl] at h; cases h
   | some z=>rw [hl] at h; cases h; exact ⟨j,t,rfl,ht,hl⟩
theorem gy {w b:Bool}(hb:b=w)(h:gdF ops o sl=some (w,.p (.val (.bool b))))(h1:aO C o (ea C ops r K) ⟨sl,ob⟩):ea C ops (o::r) K ⟨sl,ob⟩:=by
 obtain ⟨j,t,hg,hj,hv⟩:=nw h;exact pG hg hj hv hb h1
def dsF (n:Nat)(o:Oper):Option Nat:=match o.dst with
 | some d=>bif Nat.blt d n then some d else none
 | none=>none
theorem gM {n:Nat}(h:dsF n o=some d):o.dst=some d/\Nat.blt d n=true:=by
 unfold dsF at h
 cases hd:o.dst with
 | none=>rw [hd] at h; cases h
 | some e=>
  rw [hd] at h
  cases hn:Nat.blt e n with
  | false=>simp only [hn,cond_false] at h; cases h
  | true=>simp only [hn,cond_true] at h; cases h; exact ⟨rfl,hn⟩
def knK:Rev->Nat->Option Nat|[],_=>none|(k,i,_)::r,j=>bif Nat.beq i j then some k else knK r j
def knX (base:List (Nat×AV))(o:Oper)(rev:Rev)(i:Nat):Option AV :=
 match look base i with
 | some x=>some x
 | none=>(match knK rev i with
  | some k=>bif (o.after.toList.any λ e=>Nat.beq e.on k&&Region.binds .any e) then (match nO rev k with
    | some (j,x)=>bif Nat.beq j i then some x else none
    | none=>none) else none
  | none=>none)
def zj (base:List (Nat×AV))(o:Oper)(rev:Rev):List Nat->Option (List (Nat×AV))
 | []=>some []
 | i::r=>match knX base o rev i with
  | some x=>(match zj base o rev r with|some l=>some ((i,x)::l)|none=>none)
  | none=>none
theorem yh {i:Nat}{x:AV}(h:knX base o rev i=some x):look base i=some x\/∃ k,(o.after.toList.any λ e=>Nat.beq e.on k&&Region.binds .any e)=true/\nO rev k=some (i,x):=by
 unfold knX at h
 cases hb:look base i with
 | some y=>rw [hb] at h; exact .inl h
 | none=>
  rw [hb] at h;simp only at h
  cases hk:knK rev i with
  | none=>rw [hk] at h; cases h
  | some k=>
   rw [hk] at h;simp only at h
   cases ha:(o.after.toList.any λ e=>Nat.beq e.on k&&Region.binds .any e) with
   | false=>rw [ha] at h; cases h
   | true=>
    rw [ha] at h;simp only [cond_true] at h
    cases hl:nO rev k with
    | none=>rw [hl] at h; cases h
    | some p=>
     obtain ⟨j,y⟩:=p;rw [hl] at h;simp only at h
     cases hj:Nat.beq j i with
     | false=>rw [hj] at h; cases h
     | true=>rw [hj] at h; cases h; exact .inr ⟨k,ha,by rw [hl,bx hj]⟩
theorem wh:∀ {l:List Nat} {kn:List (Nat×AV)},zj base o rev l=some kn->wN base o rev kn
 | [],kn,h=>by cases h; trivial
 | i::l,kn,h=>by
  unfold zj at h
  cases hx:knX base o rev i with
  | none=>rw [hx] at h; cases h
  | some x=>
   rw [hx] at h;simp only at h
   cases hr:zj base o rev l with
   | none=>rw [hr] at h; cases h
   | some m=>rw [hr] at h; cases h; exact ⟨yh hx,wh hr⟩
def nwF (base:List (Nat×AV))(rev:Rev)(o:Oper):Option Nat:=match o.dst with
 | some d=>bif (rev.all λ p=>!(Nat.beq p.2.1 d)) then (match look base d with|none=>some d|some _=>none) else none
 | none=>none
theorem lR (h:nwF base rev o=some d):o.dst=some d/\(rev.all λ p=>!(Nat.beq p.2.1 d))=true/\look base d=none:=by
 unfold nwF at h
 cases hd:o.dst with
 | none=>rw [hd] at h; cases h
 | some e=>
  rw [hd] at h;simp only at h
  cases ha:(rev.all λ p=>!(Nat.beq p.2.1 e)) with
  | false=>rw [ha] at h; cases h
  | true=>
   rw [ha] at h;simp only [cond_true] at h
   cases hl:look base e with
   | some _=>rw [hl] at h; cases h
   | none=>rw [hl] at h; cases h; exact ⟨rfl,ha,hl⟩
theorem dq {rest:List Oper}{kn:List (Nat×AV)}(x:AV)(l:List Nat)(hk:zj base o rev l=some kn)(hs:nz C ops ob o kn d x)(hn:nwF base rev o=some d)(h:DQ C ops base ob K rest (k+1) ((k,d,x)::rev)):DQ C ops base ob K (o::rest) k rev :=
 vZ x kn (wh hk) hs (lR hn).1 (lR hn).2.1 (lR hn).2.2 h
theorem ns {kn:List (Nat×AV)}(hs:∀ i x,look kn i=some x->look sl i=some x){x:Operand}{y:AV}(h:evo kn x=some y):evo sl x=some y:=by
 cases x with
 | tmp t=>exact hs _ _ h
 | const v=>exact h
 | func f=>exact h
 | global g=>exact h
end
abbrev fa:=@aD
abbrev l1:=@bm
abbrev st:=@cv
abbrev ix:=@g6
abbrev cs:=@lw
abbrev nt:=@yO
abbrev cc:=@rl
abbrev sq:=@cp
abbrev gl:=@bS
abbrev lb:=@Nat.le_of_ble_eq_true
end Go.Ab
namespace Go.Ab
inductive Fr where
 | sq (y:Code)
 | bk (id:Nat)
 | ng
 | jo (P:AS->Prop)
 | je (id:Nat) (P:AS->Prop)
inductive Ct where
 | cd (c:Code)
 | op (ops:Array Oper) (r:List Oper)
 | ex (e:Exit)
structure Cf where
 c:Ct
 k:List Fr
 s:AS
def dn (C:Cx)(Q:Exit->AS->Prop):List Fr->Exit->AS->Prop|[]=>λ e s=>∃ t,bY C s t/\Q e t|.sq y::k=>mc (awp C y (dn C Q k)) (dn C Q k)|.bk id::k=>gB id (dn C Q k)|.ng::k=>noGoto (dn C Q k)|.jo P::k=>mc (λ s=>∃ t,bY C s t/\P t) (dn C Q k)|.je id P::k=>exQ id (λ s=>∃ t,bY C s t/\P t) (dn C Q k)
def M (C:Cx)(Q:Exit->AS->Prop):Cf->Prop|⟨.cd c,k,s⟩=>awp C c (dn C Q k) s|⟨.op ops r,k,s⟩=>ea C ops r (dn C Q k .normal) s|⟨.ex e,k,s⟩=>dn C Q k e s
def pop:List Fr->Exit->AS->Option Cf
 | [],e,s=>some ⟨.ex e,[],s⟩
 | .sq y::k,.normal,s=>some ⟨.cd y,k,s⟩
 | .sq _::k,.exit i,s=>pop k (.exit i) s
 | .sq _::k,.ret,s=>pop k .ret s
 | .bk _::k,.normal,s=>pop k .normal s
 | .bk id::k,.exit i,s=>(match Nat.beq i id with|true=>pop k .normal s|false=>pop k (.exit i) s)
 | .bk _::k,.ret,s=>pop k .ret s
 | .ng::k,.normal,s=>pop k .normal s
 | .ng::k,.exit i,s=>pop k (.exit i) s
 | .ng::k,.ret,s=>pop k .ret s
 | .jo P::k,.normal,s=>some ⟨.ex .normal,.jo P::k,s⟩
 | .jo _::k,.exit i,s=>pop k (.exit i) s
 | .jo _::k,.ret,s=>pop k .ret s
 | .je _ _::k,.normal,s=>pop k .normal s
 | .je id P::k,.exit i,s=>(match Nat.beq i id with|true=>some ⟨.ex (.exit i),.je id P::k,s⟩|false=>pop k (.exit i) s)
 | .je _ _::k,.ret,s=>pop k .ret s
 | _,_,_=>none
section
variable {C:Cx} {Q:Exit->AS->Prop} {ops:Array Oper} {K:AS->Prop} {sl:List (Nat×AV)} {ob:List (Nat×List AV)} {r:List Oper} {o:Oper} {d:Nat} {s s':AS} {k:List Fr}
theorem eq:∀ {k:List Fr} {e:Exit} {c:Cf},pop k e s=some c->M C Q c->dn C Q k e s
 | [],e,c,h,hM=>by simp only [pop,aq] at h; subst h; exact hM
 | .sq y::k,e,c,h,hM=>by
  cases e <;> simp only [pop,aq,reduceCtorEq] at h
  ·subst h; exact hM
  ·exact eq (k:=k) h hM
  ·exact eq (k:=k) h hM
 | .bk id::k,e,c,h,hM=>by
  cases e <;> simp only [pop,reduceCtorEq] at h
  ·exact eq (k:=k) h hM
  ·rename_i i;split at h
   ·rename_i hb;rw [bx hb];exact aK (eq (k:=k) h hM)
   ·rename_i hb; exact aH hb (eq (k:=k) h hM)
  ·exact eq (k:=k) h hM
 | .ng::k,e,c,h,hM=>by
  cases e <;> simp only [pop,reduceCtorEq] at h
  ·exact eq (k:=k) h hM
  ·exact eq (k:=k) h hM
  ·exact eq (k:=k) h hM
 | .jo P::k,e,c,h,hM=>by
  cases e <;> simp only [pop,aq,reduceCtorEq] at h
  ·subst h; exact hM
  ·exact eq (k:=k) h hM
  ·exact eq (k:=k) h hM
 | .je id P::k,e,c,h,hM=>by
  cases e <;> simp only [pop,reduceCtorEq] at h
  ·exact aP (eq (k:=k) h hM)
  ·rename_i i;split at h
   ·rename_i hb
    cases h; exact hM
   ·rename_i hb; exact a6 hb (eq (k:=k) h hM)
  ·exact bJ (eq (k:=k) h hM)
def tC (C:Cx)(o:Oper):AS->AV->Option AS
 | ⟨sl,ob⟩,y=>match o.dst with
  | some d=>(match Nat.blt d C.n with|true=>some ⟨(d,y)::sl,ob⟩|false=>none)
  | none=>none
theorem jZ {y:AV}(h:tC C o ⟨sl,ob⟩ y=some s'):∃ d,o.dst=some d/\Nat.blt d C.n=true/\s'=⟨(d,y)::sl,ob⟩:=by
 simp only [tC] at h;split at h
 ·rename_i d hd;split at h
  ·rename_i hn; cases h; exact ⟨d,hd,hn,rfl⟩
  ·cases h
 ·cases h
def ikE (a b:IntKind):Bool:=Nat.beq a.ctorIdx b.ctorIdx
theorem x4 {a b:IntKind}(h:ikE a b=true):a=b:=by cases a <;> cases b <;> first|rfl|cases h
def pkP (sl:List (Nat×AV))(x y:Operand):Option AV->Option AV|some (.p (.val (.bool true)))=>evo sl x|some (.p (.val (.bool false)))=>evo sl y|_=>none
def bnP (C:Cx)(op:BinOp)(t:TypeId):Option AV->Option AV->Option AV
 | some (.p (.val (.int k a))),some (.p (.val (.int k' b)))=>(match ikE k' k with
  | true=>(match Ay op a b with
   | some c=>some (.p (.val (.bool c)))
   | none=>(match Ah k op a b with
    | some c=>some (.p (.val (.int k c)))
    | none=>(match ikE k .i64 with
     | true=>none
     | false=>(match arI op a b with
      | some c=>some (.p (.val (.int k (k.wrap c))))
      | none=>none))))
  | false=>none)
 | some (.p (.val (.bool a))),some (.p (.val (.bool b)))=>(match look C.tt t with
  | some i=>(match i.k with
   | .bool=>(match Bb op a b with|some c=>some (.p (.val (.bool c)))|none=>none)
   | _=>none)
  | none=>none)
 | _,_=>none
def faP (C:Cx)(t f:Nat)(X:Option AV):Option AV:=match look C.tt t with
 | some i=>(match i.k with
  | .struct fs=>(match fs[f]? with
   | some (off,ft)=>(match look C.tt ft with
    | some j=>(match Nat.beq j.size 0 with
     | false=>(match X with
      | some (.ptr id k)=>some (.ptr id (k+off))
      | some (.rptr cs)=>some (.rptr (cs.drop off))
      | _=>none)
     | true=>none)
    | none=>none)
   | none=>none)
  | _=>none)
 | none=>none
def ldP (C:Cx)(ob:List (Nat×List AV))(t:Nat)(X:Option AV):Option AV:=match look C.tt t with
 | some i=>(match X with
  | some (.ptr id k)=>(match look ob id with
   | some cs=>(match i.k.isAgg with
    | false=>cs[k]?
    | true=>(match Nat.ble (k+i.size) cs.length with
     | true=>(match ki ((cs.drop k).take i.size) with
      | .p y=>some (.p y)
      | .agg l=>some (.agg l)
      | _=>none)
     | false=>none))
   | none=>none)
  | some (.rptr cs)=>(match i.k.isAgg with
   | false=>(match cs.head? with|some y=>some (.p y)|none=>none)
   | true=>(match Nat.ble i.size cs.length with
    | true=>some (.p (.agg (cs.take i.size)))
    | false=>none))
  | _=>none)
 | none=>none
def nrm {α:Type}:List α->Option (List α)
 | []=>some []
 | x::r=>(match nrm r with|some l=>some (x::l)|none=>none)
theorem nh {α:Type}:∀ {l l':List α},nrm l=some l'->l'=l
 | [],l',h=>by cases h; rfl
 | x::r,l',h=>by
  unfold nrm at h;split at h
  ·rename_i m hm; cases h; rw [nh hm]
  ·cases h
def stP (C:Cx)(o:Oper)(sl:List (Nat×AV))(ob:List (Nat×List AV))(t:Nat)(x v:Operand):Option AS:=match o.dst with
 | none=>(match look C.tt t with
  | some i=>(match evo sl x with
   | some (.ptr id k)=>(match evo sl v with
    | some y=>(match y.cellsA with
     | some xs=>(match Nat.beq xs.length i.size with
      | true=>(match look ob id with
       | some cs=>(match Nat.ble (k+xs.length) cs.length with
        | true=>(match nrm (mC cs k xs) with
         | some ds=>some ⟨sl,(id,ds)::ob⟩
         | none=>none)
        | false=>none)
       | none=>none)
      | false=>none)
     | none=>none)
    | none=>none)
   | _=>none)
  | none=>none)
 | some _=>none
def frc:AV->Option AV|.undef=>some .undef|.p x=>some (.p x)|.agg cs=>some (.agg cs)|.vec a b c e=>some (.vec a b c e)|.arr a b c e=>some (.arr a b c e)|.ptr a b=>some (.ptr a b)|.bptr a b c=>some (.bptr a b c)|.rptr cs=>some (.rptr cs)|.tuple vs=>some (.tuple vs)|.func f cs=>some (.func f cs)|.mp a b=>some (.mp a b)|.mpr a b c d e=>some (.mpr a b c d e)|.stk a b c=>some (.stk a b c)|.sem ts R=>some (.sem ts R)|.it a b c=>some (.it a b c)|.vecp a b c e=>some (.vecp a b c e)|.elp a b=>some (.elp a b)
theorem pR {x y:AV}(h:frc x=some y):y=x:=by cases x <;> (cases h; rfl)
def dmS (D:Nat->Bool):List (Nat×AV)->Option (List (Nat×AV))
 | []=>some []
 | (i,x)::r=>(match frc (x.dem D) with
  | some y=>(match dmS D r with|some l=>some ((i,y)::l)|none=>none)
  | none=>none)
theorem pV {D:Nat->Bool}:∀ {l l':List (Nat×AV)},dmS D l=some l'->l'=l.map λ p=>(p.1,p.2.dem D)
 | [],l',h=>by cases h; rfl
 | (i,x)::r,l',h=>by
  unfold dmS at h;split at h
  ·rename_i y hy;split at h
   ·rename_i m hm; cases h; rw [pR hy,pV hm]; rfl
   ·cases h
  ·cases h
def dmC (D:Nat->Bool):List AV->Option (List AV)
 | []=>some []
 | x::r=>(match frc (x.dem D) with
  | some y=>(match dmC D r with|some l=>some (y::l)|none=>none)
  | none=>none)
theorem u1 {D:Nat->Bool}:∀ {l l':List AV},dmC D l=some l'->l'=gW D l
 | [],l',h=>by cases h; rfl
 | x::r,l',h=>by
  unfold dmC at h;split at h
  ·rename_i y hy;split at h
   ·rename_i m hm; cases h; rw [pR hy,u1 hm]; rfl
   ·cases h
  ·cases h
def dmO (D:Nat->Bool):List (Nat×List AV)->Option (List (Nat×List AV))
 | []=>some []
 | (i,cs)::r=>(match D i with
  | true=>dmO D r
  | false=>(match dmC D cs with
   | some ds=>(match dmO D r with|some l=>some ((i,ds)::l)|none=>none)
   | none=>none))
theorem jE {D:Nat->Bool}:∀ {l l':List (Nat×List AV)},dmO D l=some l'->l'=(l.filter λ p=>!D p.1).map λ p=>(p.1,gW D p.2)
 | [],l',h=>by cases h; rfl
 | (i,cs)::r,l',h=>by
  unfold dmO at h;split at h
  ·rename_i hD; rw [jE h]; simp [List.filter_cons,hD]
  ·rename_i hD;split at h
   ·rename_i ds hds;split at h
    ·rename_i m hm; cases h; rw [u1 hds,jE hm]; simp [List.filter_cons,hD]
    ·cases h
   ·cases h
def nwP (C:Cx)(o:Oper)(sl0:List (Nat×AV))(ob0:List (Nat×List AV))(cs:List AV):Option AS:=match o.dst with
 | some d=>(match Nat.blt d C.n with
  | true=>(match dmS (λ i=>Nat.beq i d) sl0 with
   | some sl=>(match dmC (λ i=>Nat.beq i d) cs with
    | some ds=>(match dmO (λ i=>Nat.beq i d) ob0 with
     | some ob=>some ⟨(d,.ptr d 0)::sl,(d,ds)::ob⟩
     | none=>none)
    | none=>none)
   | none=>none)
  | false=>none)
 | none=>none
theorem xZ {cs:List AV}(h:nwP C o sl ob cs=some s'):∃ d,o.dst=some d/\Nat.blt d C.n=true/\s'=⟨(d,.ptr d 0)::(bV (λ i=>Nat.beq i d) ⟨sl,ob⟩).sl,(d,gW (λ i=>Nat.beq i d) cs)::(bV (λ i=>Nat.beq i d) ⟨sl,ob⟩).ob⟩:=by
 unfold nwP at h;split at h
 ·rename_i d hd;split at h
  ·rename_i hn;split at h
   ·rename_i a ha;split at h
    ·rename_i b hb;split at h
     ·rename_i c hc
      cases h
      exact ⟨d,hd,hn,by rw [pV ha,u1 hb,jE hc]; rfl⟩
     ·cases h
    ·cases h
   ·cases h
  ·cases h
 ·cases h
def ncP:Option AV->Option AV|some (.ptr id k)=>some (.ptr id k)|_=>none
def xtP (k:Nat):Option AV->Option AV|some (.tuple l)=>l[k]?|_=>none
def ntP:Option AV->Option AV|some (.p (.val (.bool b)))=>some (.p (.val (.bool (!b))))|_=>none
def flP (C:Cx)(t f:Nat)(X:Option AV):Option AV:=match look C.tt t with
 | some i=>(match i.k with
  | .struct fs=>(match fs[f]? with
   | some (off,ft)=>(match look C.tt ft with
    | some j=>(match X with
     | some (.p (.agg cs))=>(match j.k.isAgg with
      | false=>(match cs[off]? with|some c=>some (.p c)|none=>none)
      | true=>(match Nat.ble (off+j.size) cs.length with
       | true=>(match nrm ((cs.drop off).take j.size) with
        | some ds=>some (.p (.agg ds))
        | none=>none)
       | false=>none))
     | _=>none)
    | none=>none)
   | none=>none)
  | _=>none)
 | none=>none
def cvP (C:Cx)(st dt:Nat)(X:Option AV):Option AV:=match look C.tt st with
 | some i=>(match i.k with
  | .int k'=>(match look C.tt dt with
   | some j=>(match j.k with
    | .int k=>(match X with
     | some (.p (.val (.int k2 a)))=>(match ikE k2 k' with
      | true=>(match ikE k .i64 with
       | true=>none
       | false=>some (.p (.val (.int k (k.wrap a)))))
      | false=>none)
     | _=>none)
    | _=>none)
   | none=>none)
  | _=>none)
 | none=>none
def agP (cs:List AV):Option AV:=match nrm cs with
 | some ds=>(match ki ds with
  | .p y=>some (.p y)
  | .agg l=>some (.agg l)
  | _=>none)
 | none=>none
def buP (C:Cx)(t:Nat)(X:Option (List (Nat×AV))):Option AV:=match look C.tt t with
 | some i=>(match i.k with
  | .struct fs=>(match li C.tt fs with
   | some pl=>(match X with
    | some ps=>(match nR (λ (i:Nat)=>pl[i]?) (dj i) ps with
     | some cs=>agP cs
     | none=>none)
    | none=>none)
   | none=>none)
  | .array _ e=>(match look C.tt e with
   | some ie=>(match X with
    | some ps=>(match nR (λ (k:Nat)=>some (k*ie.size,ie.size)) (dj i) ps with
     | some cs=>agP cs
     | none=>none)
    | none=>none)
   | none=>none)
  | _=>none)
 | none=>none
def laP (C:Cx)(c:Call)(sl:List (Nat×AV)):Option AV:=match c with
 | ⟨.builtin .len,⟨[x]⟩,⟨[t]⟩⟩=>(match look C.tt t with
  | some i=>(match i.k with
   | .slice _=>(match evo sl x with
    | some (.arr _ _ _ m)=>some (.p (.val (.int .i64 (m:Int))))
    | _=>none)
   | _=>none)
  | none=>none)
 | _=>none
def alP (C:Cx)(o:Oper)(sl:List (Nat×AV))(ob:List (Nat×List AV))(t:Nat):Option AS:=match look C.tt t with
 | some i=>(match AV.cellsA (.agg (dj i)) with
  | some cs=>(match nrm cs with|some ds=>nwP C o sl ob ds|none=>none)
  | none=>none)
 | none=>none
def bxP (C:Cx)(o:Oper)(sl:List (Nat×AV))(ob:List (Nat×List AV))(v:Operand):Option AS:=match evo sl v with
 | some x=>(match x.cellsA with
  | some cs=>(match nrm cs with|some ds=>nwP C o sl ob ds|none=>none)
  | none=>none)
 | none=>none
def opV (C:Cx)(o:Oper)(sl:List (Nat×AV))(ob:List (Nat×List AV)):Option AV:=match o.op with
 | .move x=>evo sl x
 | .assign x=>evo sl x
 | .pick c x y=>pkP sl x y (evo sl c)
 | .binOp op t x y _=>bnP C op t (evo sl x) (evo sl y)
 | .unOp .not _ x=>ntP (evo sl x)
 | .fieldAddr t x f=>faP C t f (evo sl x)
 | .load t x=>ldP C ob t (evo sl x)
 | .nilCheck x=>ncP (evo sl x)
 | .extract x k=>xtP k (evo sl x)
 | .field t x f=>flP C t f (evo sl x)
 | .convert st dt x=>cvP C st dt (evo sl x)
 | .build t parts=>buP C t (gX sl parts.toList)
 | .call c=>laP C c sl
 | _=>none
def opF (C:Cx)(o:Oper):AS->Option AS
 | ⟨sl,ob⟩=>match o.op with
 | .store t x v=>stP C o sl ob t x v
 | .box _ v=>bxP C o sl ob v
 | .alloc t=>alP C o sl ob t
 | .move x=>(match evo sl x with
  | some y=>tC C o ⟨sl,ob⟩ y
  | none=>tC C o ⟨sl,ob⟩ .undef)
 | .assign x=>(match evo sl x with
  | some y=>tC C o ⟨sl,ob⟩ y
  | none=>tC C o ⟨sl,ob⟩ .undef)
 | _=>(match opV C o sl ob with
  | some y=>tC C o ⟨sl,ob⟩ y
  | none=>none)
theorem Bt {c x y:Operand}{z:AV}(ho:o.op=.pick c x y)(h:pkP sl x y (evo sl c)=some z)(hd:o.dst=some d)(hn:Nat.blt d C.n=true)(hK:K ⟨(d,z)::sl,ob⟩):aO C o K ⟨sl,ob⟩:=by
 generalize hc:evo sl c=v at h;unfold pkP at h;split at h
 ·exact rM ho hd hn hc Z h hK
 ·exact qt ho hd hn hc Z h hK
 ·cases h
theorem BA {op:BinOp}{t t':TypeId}{x y:Operand}{z:AV}(ho:o.op=.binOp op t x y t')(h:bnP C op t (evo sl x) (evo sl y)=some z)(h1:o.dst=some d)(h2:Nat.blt d C.n=true)(hK:K ⟨(d,z)::sl,ob⟩):aO C o K ⟨sl,ob⟩:=by
 generalize hx:evo sl x=X at h;generalize hy:evo sl y=Y0z at h;unfold bnP at h;split at h
 ·rename_i k a k' b;split at h
  ·rename_i hk;have:=x4 hk; subst this;split at h
   ·rename_i c hc
    cases h; exact Bi ho h1 h2 hx hy hc hK
   ·split at h
    ·rename_i c hc
     cases h; exact BW ho h1 h2 hx hy hc hK
    ·split at h
     ·cases h
     ·split at h
      ·rename_i c hc
       cases h; exact xV ho h1 h2 hx hy hc hK
      ·cases h
  ·cases h
 ·split at h
  ·rename_i i hi;split at h
   ·rename_i hk;split at h
    ·rename_i c hc
     cases h; exact AJ ho h1 h2 hi hk hx hy hc hK
    ·cases h
   ·cases h
  ·cases h
 ·cases h
theorem BV {t f:Nat}{x:Operand}{z:AV}(ho:o.op=.fieldAddr t x f)(h:faP C t f (evo sl x)=some z)(h1:o.dst=some d)(h2:Nat.blt d C.n=true)(hK:K ⟨(d,z)::sl,ob⟩):aO C o K ⟨sl,ob⟩:=by
 generalize hx:evo sl x=X at h;unfold faP at h;split at h
 ·rename_i i hi;split at h
  ·rename_i fs hk;split at h
   ·rename_i off ft hf;split at h
    ·rename_i j hj;split at h
     ·rename_i hs;split at h
      ·cases h; exact aD ho h1 h2 hi hk hf hj hs hx hK
      ·cases h; exact jB ho h1 h2 hi hk hf hj hs hx hK
      ·cases h
     ·cases h
    ·cases h
   ·cases h
  ·cases h
 ·cases h
theorem Bm {t:Nat}{x:Operand}{z:AV}(ho:o.op=.load t x)(h:ldP C ob t (evo sl x)=some z)(h1:o.dst=some d)(h2:Nat.blt d C.n=true)(hK:K ⟨(d,z)::sl,ob⟩):aO C o K ⟨sl,ob⟩:=by
 generalize hx:evo sl x=X at h;unfold ldP at h;split at h
 ·rename_i i hi;split at h
  ·rename_i id k;split at h
   ·rename_i cs hob;split at h
    ·rename_i ha;exact bm ho h1 h2 hi ha hx hob h hK
    ·rename_i ha;split at h
     ·rename_i hl;split at h
      ·rename_i y hy
       cases h; exact aN ho h1 h2 hi ha hx hob hl (congrArg some hy) hK
      ·rename_i y hy
       cases h; exact aN ho h1 h2 hi ha hx hob hl (congrArg some hy) hK
      ·cases h
     ·cases h
   ·cases h
  ·rename_i cs;split at h
   ·rename_i ha;split at h
    ·rename_i y hy
     cases h; exact fF ho h1 h2 hi ha hx hy hK
    ·cases h
   ·rename_i ha;split at h
    ·rename_i hl
     cases h; exact fE ho h1 h2 hi ha hx hl hK
    ·cases h
  ·cases h
 ·cases h
theorem Bn {t:Nat}{x v:Operand}(ho:o.op=.store t x v)(h:stP C o sl ob t x v=some s')(hK:K s'):aO C o K ⟨sl,ob⟩:=by
 unfold stP at h;split at h
 ·rename_i hd;split at h
  ·rename_i i hi;split at h
   ·rename_i id k hx;split at h
    ·rename_i y hv;split at h
     ·rename_i xs hc;split at h
      ·rename_i CC;split at h
       ·rename_i cs hob;split at h
        ·rename_i hl;split at h
         ·rename_i ds hds
          cases h
          rw [nh hds] at hK;exact cv ho hd hi hx hv hc (bx CC) hob (ph hl) hK
         ·cases h
        ·cases h
       ·cases h
      ·cases h
     ·cases h
    ·cases h
   ·cases h
  ·cases h
 ·cases h
theorem BC {t:Nat}{v:Operand}(ho:o.op=.box t v)(h:bxP C o sl ob v=some s')(hK:K s'):aO C o K ⟨sl,ob⟩:=by
 unfold bxP at h;split at h
 ·rename_i x hx;split at h
  ·rename_i cs hc;split at h
   ·rename_i ds hds;obtain ⟨d,h1,h2,rfl⟩:=xZ h;rw [nh hds] at hK;exact B5 ho h1 h2 hx hc hK
   ·cases h
  ·cases h
 ·cases h
theorem B4 {t:Nat}(ho:o.op=.alloc t)(h:alP C o sl ob t=some s')(hK:K s'):aO C o K ⟨sl,ob⟩:=by
 unfold alP at h;split at h
 ·rename_i i hi;split at h
  ·rename_i cs hc;split at h
   ·rename_i ds hds;obtain ⟨d,h1,h2,rfl⟩:=xZ h;rw [nh hds] at hK
    have e:cs=dj i:=by
     simp only [AV.cellsA] at hc
     cases hb:AV.onesB (dj i) <;> rw [hb] at hc <;> cases hc
     rfl
    subst e;exact eG ho h1 h2 hi hc hK
   ·cases h
  ·cases h
 ·cases h
theorem BG {x:Operand}{z:AV}(ho:o.op=.nilCheck x)(h:ncP (evo sl x)=some z)(h1:o.dst=some d)(h2:Nat.blt d C.n=true)(hK:K ⟨(d,z)::sl,ob⟩):aO C o K ⟨sl,ob⟩:=by
 generalize hx:evo sl x=X at h;unfold ncP at h;split at h
 ·cases h; exact rT ho h1 h2 hx hK
 ·cases h
theorem Bc {x:Operand}{n:Nat}{z:AV}(ho:o.op=.extract x n)(h:xtP n (evo sl x)=some z)(h1:o.dst=some d)(h2:Nat.blt d C.n=true)(hK:K ⟨(d,z)::sl,ob⟩):aO C o K ⟨sl,ob⟩:=by
 generalize hx:evo sl x=X at h;unfold xtP at h;split at h
 ·exact aF ho h1 h2 hx h hK
 ·cases h
theorem BJ {t:TypeId}{x:Operand}{z:AV}(ho:o.op=.unOp .not t x)(h:ntP (evo sl x)=some z)(h1:o.dst=some d)(h2:Nat.blt d C.n=true)(hK:K ⟨(d,z)::sl,ob⟩):aO C o K ⟨sl,ob⟩:=by
 generalize hx:evo sl x=X at h;unfold ntP at h;split at h
 ·cases h; exact yO ho h1 h2 hx hK
 ·cases h
theorem Be {t f:Nat}{x:Operand}{z:AV}(ho:o.op=.field t x f)(h:flP C t f (evo sl x)=some z)(h1:o.dst=some d)(h2:Nat.blt d C.n=true)(hK:K ⟨(d,z)::sl,ob⟩):aO C o K ⟨sl,ob⟩:=by
 generalize hx:evo sl x=X at h;unfold flP at h;split at h
 ·rename_i i hi;split at h
  ·rename_i fs hk;split at h
   ·rename_i off ft hf;split at h
    ·rename_i j hj;split at h
     ·rename_i cs;split at h
      ·rename_i ha;split at h
       ·rename_i c hc
        cases h; exact xt ho h1 h2 hi hk hf hj ha hx hc hK
       ·cases h
      ·rename_i ha;split at h
       ·rename_i hl;split at h
        ·rename_i ds hds;rw [nh hds] at h
         cases h; exact xk ho h1 h2 hi hk hf hj ha hx hl hK
        ·cases h
       ·cases h
     ·cases h
    ·cases h
   ·cases h
  ·cases h
 ·cases h
theorem Bj {st dt:Nat}{x:Operand}{z:AV}(ho:o.op=.convert st dt x)(h:cvP C st dt (evo sl x)=some z)(h1:o.dst=some d)(h2:Nat.blt d C.n=true)(hK:K ⟨(d,z)::sl,ob⟩):aO C o K ⟨sl,ob⟩:=by
 generalize hx:evo sl x=X at h;unfold cvP at h;split at h
 ·rename_i i hi;split at h
  ·rename_i k' hk';split at h
   ·rename_i j hj;split at h
    ·rename_i k hk;split at h
     ·rename_i k2 a;split at h
      ·rename_i hb;have:=x4 hb; subst this;split at h
       ·cases h
       ·cases h; exact y7 ho h1 h2 hi hk' hj hk hx hK
      ·cases h
     ·cases h
    ·cases h
   ·cases h
  ·cases h
 ·cases h
theorem yx {cs:List AV}{z:AV}(h:agP cs=some z):some (ki cs)=some z:=by
 unfold agP at h;split at h
 ·rename_i ds hds;have e:=nh hds;subst e;split at h
  ·rename_i y hy; cases h; exact congrArg some hy
  ·rename_i y hy; cases h; exact congrArg some hy
  ·cases h
 ·cases h
theorem BZ {t:Nat}{parts:Array (Nat×Operand)}{z:AV}(ho:o.op=.build t parts)(h:buP C t (gX sl parts.toList)=some z)(h1:o.dst=some d)(h2:Nat.blt d C.n=true)(hK:K ⟨(d,z)::sl,ob⟩):aO C o K ⟨sl,ob⟩:=by
 generalize hps:gX sl parts.toList=X at h;unfold buP at h;split at h
 ·rename_i i hi;split at h
  ·rename_i fs hk;split at h
   ·rename_i pl hpl;split at h
    ·rename_i ps;split at h
     ·rename_i cs CJ;exact yM ho h1 h2 hi hk hpl hps CJ (yx h) hK
     ·cases h
    ·cases h
   ·cases h
  ·rename_i m e hk;split at h
   ·rename_i ie hie;split at h
    ·rename_i ps;split at h
     ·rename_i cs CJ;exact tE ho h1 h2 hi hk hie hps CJ (yx h) hK
     ·cases h
    ·cases h
   ·cases h
  ·cases h
 ·cases h
theorem Bq {c:Call}{z:AV}(ho:o.op=.call c)(h:laP C c sl=some z)(h1:o.dst=some d)(h2:Nat.blt d C.n=true)(hK:K ⟨(d,z)::sl,ob⟩):aO C o K ⟨sl,ob⟩:=by
 unfold laP at h;split at h
 ·split at h
  ·rename_i i hi;split at h
   ·rename_i e hk;split at h
    ·rename_i hx
     cases h; exact Az ho h1 h2 hi hk hx hK
    ·cases h
   ·cases h
  ·cases h
 ·cases h
theorem uo {y:AV}(h:opV C o sl ob=some y)(h1:o.dst=some d)(h2:Nat.blt d C.n=true)(hK:K ⟨(d,y)::sl,ob⟩):aO C o K ⟨sl,ob⟩:=by
 unfold opV at h;split at h
 ·rename_i ho; exact aA ho h1 h2 h hK
 ·rename_i ho; exact bq ho h1 h2 h hK
 ·rename_i ho; exact Bt ho h h1 h2 hK
 ·rename_i ho; exact BA ho h h1 h2 hK
 ·rename_i ho; exact BJ ho h h1 h2 hK
 ·rename_i ho; exact BV ho h h1 h2 hK
 ·rename_i ho; exact Bm ho h h1 h2 hK
 ·rename_i ho; exact BG ho h h1 h2 hK
 ·rename_i ho; exact Bc ho h h1 h2 hK
 ·rename_i ho; exact Be ho h h1 h2 hK
 ·rename_i ho; exact Bj ho h h1 h2 hK
 ·rename_i ho; exact BZ ho h h1 h2 hK
 ·rename_i ho; exact Bq ho h h1 h2 hK
 ·cases h
theorem ux (h:opF C o ⟨sl,ob⟩=some s')(hK:K s'):aO C o K ⟨sl,ob⟩:=by
 unfold opF at h;dsimp only at h;split at h
 ·rename_i ho; exact Bn ho h hK
 ·rename_i ho; exact BC ho h hK
 ·rename_i ho; exact B4 ho h hK
 ·rename_i ho;split at h
  ·rename_i y hy; obtain ⟨d,h1,h2,rfl⟩:=jZ h; exact aA ho h1 h2 hy hK
  ·obtain ⟨d,h1,h2,rfl⟩:=jZ h; exact tj ho h1 h2 hK
 ·rename_i ho;split at h
  ·rename_i y hy; obtain ⟨d,h1,h2,rfl⟩:=jZ h; exact bq ho h1 h2 hy hK
  ·obtain ⟨d,h1,h2,rfl⟩:=jZ h; exact qi ho h1 h2 hK
 ·split at h
  ·rename_i y hy; obtain ⟨d,h1,h2,rfl⟩:=jZ h; exact uo hy h1 h2 hK
  ·cases h
def isU:Value->Bool|.tuple a=>Nat.beq a.size 0|_=>false
theorem yN {v:Value}(h:isU v=true):v=Go.undef:=by
 unfold isU at h;split at h
 ·rename_i a;have:=bx h;have:=Array.eq_empty_of_size_eq_zero this;subst this; rfl
 ·cases h
def vX (C:Cx)(o:Oper)(s:AS):Option AS:=tC C o s (.p (.val Go.undef))
def guF (C:Cx)(o:Oper)(s:AS):Option (Bool×AV)->Option AS
 | some (true,.p (.val (.bool true)))=>opF C o s
 | some (true,.p (.val (.bool false)))=>vX C o s
 | some (false,.p (.val (.bool true)))=>vX C o s
 | some (false,.p (.val (.bool false)))=>opF C o s
 | some (_,.p (.val v))=>(match isU v with|true=>vX C o s|false=>none)
 | _=>none
def oF (C:Cx)(ops:Array Oper)(o:Oper):AS->Option AS
 | ⟨sl,ob⟩=>match o.guard with
  | none=>opF C o ⟨sl,ob⟩
  | some _=>guF C o ⟨sl,ob⟩ (gdF ops o sl)
theorem Cd (h:oF C ops o ⟨sl,ob⟩=some s')(hK:ea C ops r K s'):ea C ops (o::r) K ⟨sl,ob⟩:=by
 unfold oF at h;dsimp only at h;split at h
 ·rename_i hg; exact bv hg (ux h hK)
 ·rename_i p hg
  have pass:∀ {w:Bool} {b:Bool},gdF ops o sl=some (w,.p (.val (.bool b)))->b=(!w)->vX C o ⟨sl,ob⟩=some s'->ea C ops (o::r) K ⟨sl,ob⟩:=by
   intro w b hgd hb hp;obtain ⟨d,h1,h2,rfl⟩:=jZ hp;obtain ⟨j,t,hg,hj,hv⟩:=nw hgd;exact qe hg hj hv hb h1 h2 hK
  generalize hgd:gdF ops o sl=G0z at h;unfold guF at h;split at h
  ·exact gy Z hgd (ux h hK)
  ·exact pass hgd Z h
  ·exact pass hgd Z h
  ·exact gy Z hgd (ux h hK)
  ·rename_i v hno1 hno2 hno3 hno4;split at h
   ·rename_i hu;have:=yN hu; subst this;obtain ⟨d,h1,h2,rfl⟩:=jZ h;obtain ⟨j,t,hg,hj,hv⟩:=nw hgd;exact nX hg hj hv h1 h2 hK
   ·cases h
  ·cases h
def cdE (s:AS)(x:Operand):Option AV:=match s with|⟨sl,_⟩=>evo sl x
def cdF (C:Cx)(k:List Fr)(s:AS):Code->Option Cf
 | .seq x y=>some ⟨.cd x,.sq y::k,s⟩
 | .block id x=>some ⟨.cd x,.bk id::k,s⟩
 | .scope x=>some ⟨.cd x,.ng::k,s⟩
 | .skip=>pop k .normal s
 | .label _=>pop k .normal s
 | .exit id=>pop k (.exit id) s
 | .ret=>pop k .ret s
 | .region _ ops draw=>(match draw with|false=>some ⟨.op ops ops.toList,k,s⟩|true=>none)
 | .cond c x y=>(match cdE s c with
  | some (.p (.val (.bool true)))=>some ⟨.cd x,k,s⟩
  | some (.p (.val (.bool false)))=>some ⟨.cd y,k,s⟩
  | _=>none)
 | _=>none
def stp (C:Cx):Cf->Option Cf
 | ⟨.ex e,k,s⟩=>pop k e s
 | ⟨.op _ [],k,s⟩=>pop k .normal s
 | ⟨.op ops (o::r),k,s⟩=>(match oF C ops o s with|some s'=>some ⟨.op ops r,k,s'⟩|none=>none)
 | ⟨.cd c,k,s⟩=>cdF C k s c
theorem BI {c:Code}{c':Cf}(h:cdF C k s c=some c')(hM:M C Q c'):awp C c (dn C Q k) s:=by
 unfold cdF at h;split at h
 ·cases h; exact cp hM
 ·cases h; exact xl hM
 ·cases h; exact xB hM
 ·exact jP (eq h hM)
 ·exact wT (eq h hM)
 ·exact y6 (eq h hM)
 ·exact gR (eq h hM)
 ·split at h
  ·cases h; exact dp hM
  ·cases h
 ·have hs:∀ c,cdE s c=evo s.sl c:=λ c=>by cases s; rfl
  split at h
  ·rename_i hc; cases h; exact xT (ut ((hs _).symm.trans hc)) rfl hM
  ·rename_i hc; cases h; exact w7 (ut ((hs _).symm.trans hc)) rfl hM
  ·cases h
 ·cases h
theorem yK {c c':Cf}(h:stp C c=some c')(hM:M C Q c'):M C Q c:=by
 unfold stp at h;split at h
 ·exact eq h hM
 ·exact cr (eq h hM)
 ·split at h
  ·rename_i s0 hs; cases h; exact Cd hs hM
  ·cases h
 ·exact BI h hM
def run (C:Cx):Nat->Cf->Option Cf
 | 0,c=>some c
 | n+1,c=>(match stp C c with|some c'=>run C n c'|none=>none)
theorem nx:∀ (n:Nat) {c c':Cf},run C n c=some c'->M C Q c'->M C Q c
 | 0,c,c',h,hM=>by cases h; exact hM
 | n+1,c,c',h,hM=>by
  unfold run at h;split at h
  ·rename_i c1 h1; exact yK h1 (nx n h hM)
  ·cases h
theorem kO:∀ {k:List Fr} {e:Exit} {s t:AS},bY C s t->dn C Q k e t->dn C Q k e s
 | [],e,s,t,hg,⟨u,h1,h2⟩=>⟨u,aQ hg h1,h2⟩
 | .sq y::k,e,s,t,hg,h=>by
  cases e with
  | normal=>exact nv hg h
  | _=>exact kO (k:=k) hg h
 | .bk id::k,e,s,t,hg,h=>by
  cases e with
  | exit i=>
   simp only [dn,gB] at h ⊢;split
   ·rename_i e; rw [if_pos e] at h; exact kO (k:=k) hg h
   ·rename_i e; rw [if_neg e] at h; exact kO (k:=k) hg h
  | _=>exact kO (k:=k) hg h
 | .ng::k,e,s,t,hg,h=>by
  cases e with
  | goto l=>exact h
  | _=>exact kO (k:=k) hg h
 | .jo P::k,e,s,t,hg,h=>by
  cases e with
  | normal=>obtain ⟨u,h1,h2⟩:=h; exact ⟨u,aQ hg h1,h2⟩
  | _=>exact kO (k:=k) hg h
 | .je id P::k,e,s,t,hg,h=>by
  cases e with
  | exit i=>
   simp only [dn,exQ] at h ⊢;split
   ·rename_i e; rw [if_pos e] at h; obtain ⟨u,h1,h2⟩:=h; exact ⟨u,aQ hg h1,h2⟩
   ·rename_i e; rw [if_neg e] at h; exact kO (k:=k) hg h
  | _=>exact kO (k:=k) hg h
theorem mG {c:Ct}{t:AS}(hg:bY C s t)(h:M C Q ⟨c,k,t⟩):M C Q ⟨c,k,s⟩:=by
 cases c with
 | cd c=>exact nv hg h
 | op ops r=>exact uS hg h
 | ex e=>exact kO hg h
theorem kX {c:Code}{σ:Type}(A:σ->Prop)(mk:σ->AS)(h2:∀ v,A v->M C Q ⟨.ex .normal,k,mk v⟩)(h1:M C Q ⟨.cd c,.jo (λ t=>∃ v,A v/\t=mk v)::k,s⟩):M C Q ⟨.cd c,k,s⟩ :=
 zq _ (λ s' ⟨_,hg,v,hv,e⟩=>kO hg (e ▸ h2 v hv)) h1
theorem kEx (id:Nat){c:Code}{σ:Type}(A:σ->Prop)(mk:σ->AS)(h2:∀ v,A v->M C Q ⟨.ex (.exit id),k,mk v⟩)(h1:M C Q ⟨.cd c,.je id (λ t=>∃ v,A v/\t=mk v)::k,s⟩):M C Q ⟨.cd c,k,s⟩ :=
 xR id _ (λ s' ⟨_,hg,v,hv,e⟩=>kO hg (e ▸ h2 v hv)) h1
theorem eX {σ:Type}{A:σ->Prop}{mk:σ->AS}(v:σ)(hv:A v)(hg:bY C s (mk v)):M C Q ⟨.ex .normal,.jo (λ t=>∃ v,A v/\t=mk v)::k,s⟩:=⟨mk v,hg,v,hv,rfl⟩
theorem eXi {σ:Type}{A:σ->Prop}{mk:σ->AS}{id:Nat}(v:σ)(hv:A v)(hg:bY C s (mk v)):M C Q ⟨.ex (.exit id),.je id (λ t=>∃ v,A v/\t=mk v)::k,s⟩:=by
 show dn C Q (.je id (λ t=>∃ v,A v/\t=mk v)::k) (.exit id) s;simp only [dn,exQ,if_true]; exact ⟨mk v,hg,v,hv,rfl⟩
theorem lG {c:Code}{σ O0z:Type}(mk:σ->AS)(lp:Nat->σ->Option O0z)(hz:∀ q,lp 0 q=none){o:O0z}{n:Nat}(q0:σ)(h0:lp n q0=some o)(hle:bY C s (mk q0))
  (round:∀ m q,lp (m+1) q=some o->M C Q ⟨.cd c,.jo (λ t=>∃ q',lp m q'=some o/\t=mk q')::k,mk q⟩):M C Q ⟨.cd (.loop c),k,s⟩:=by
 refine wU mk lp hz q0 h0 hle λ m q hq=>kU (λ e s' h=>?_) (round m q hq)
 cases e with
 | normal=>obtain ⟨u,hg,q',h1,rfl⟩:=h; exact ⟨q',h1,hg⟩
 | _=>exact h
def lks (sl:List (Nat×AV)):List Nat->Option (List AV)
 | []=>some []
 | t::r=>(match look sl t with
  | some x=>(match lks sl r with|some l=>some (x::l)|none=>none)
  | none=>none)
def stB (b:Bool)(sl:List (Nat×AV)):List Nat->List (Nat×AV)|[]=>sl|t::r=>(t,.p (.val (.bool b)))::stB b sl r
theorem zy {b:Bool}:∀ {T:List Nat},lks sl T=some (T.map λ _=>.p (.val (.bool b)))->∀ j x,look (stB b sl T) j=some x->look sl j=some x
 | [],_,j,x,h=>h
 | t::r,hT,j,x,h=>by
  unfold lks at hT;split at hT
  ·rename_i y hy;split at hT
   ·rename_i l hl;simp only [cl,aq,List.cons.injEq] at hT;simp only [stB,aJ] at h;split at h
    ·rename_i e; subst e; cases h; rw [hy,hT.1]
    ·exact zy (hl.trans (congrArg some hT.2)) j x h
   ·cases hT
  ·cases hT
theorem lP {b:Bool}{T:List Nat}(hT:lks sl T=some (T.map λ _=>.p (.val (.bool b)))):bY C ⟨sl,ob⟩ ⟨stB b sl T,ob⟩ :=
 bS ⟨λ j x hx=>by
  have:=zy hT j x hx
  simp only [AS.get,this,rg]; exact AV.sub_refl x,λ id cs h=>⟨cs,h,bt _,λ i c d hc hd=>by rw [hc] at hd; cases hd; exact AV.sub_refl _⟩⟩
theorem fD {c:Ct}{p:Prop} [Decidable p] {α:Type}{a b:Option α}{v:α}(T:List Nat)(h:(if p then a else b)=some v)(hT:lks sl T=some (T.map λ _=>.p (.val (.bool (decide p)))))
  (h1:p->a=some v->M C Q ⟨c,k,⟨stB true sl T,ob⟩⟩) (h2:¬p->b=some v->M C Q ⟨c,k,⟨stB false sl T,ob⟩⟩):M C Q ⟨c,k,⟨sl,ob⟩⟩:=by
 by_cases hp:p
 ·rw [decide_eq_true hp] at hT; exact mG (lP hT) (h1 hp (zE hp h))
 ·rw [decide_eq_false hp] at hT; exact mG (lP hT) (h2 hp (if_f hp h))
theorem fN {c:Ct}{p:Prop} [Decidable p] {α:Type}{a b:Option α}{v:α}(T:List Nat)(h:(if p then a else b)=some v)(hT:lks sl T=some (T.map λ _=>.p (.val (.bool (!decide p)))))
  (h1:p->a=some v->M C Q ⟨c,k,⟨stB false sl T,ob⟩⟩) (h2:¬p->b=some v->M C Q ⟨c,k,⟨stB true sl T,ob⟩⟩):M C Q ⟨c,k,⟨sl,ob⟩⟩:=by
 by_cases hp:p
 ·rw [decide_eq_true hp] at hT; exact mG (lP hT) (h1 hp (zE hp h))
 ·rw [decide_eq_false hp] at hT; exact mG (lP hT) (h2 hp (if_f hp h))
theorem fB {c:Ct}{p:Bool}{α:Type}{a b:Option α}{v:α}(T:List Nat)(h:(if p=true then a else b)=some v)(hT:lks sl T=some (T.map λ _=>.p (.val (.bool p))))
  (h1:p=true->a=some v->M C Q ⟨c,k,⟨stB true sl T,ob⟩⟩) (h2:p=false->b=some v->M C Q ⟨c,k,⟨stB false sl T,ob⟩⟩):M C Q ⟨c,k,⟨sl,ob⟩⟩:=by
 cases p
 ·exact mG (lP hT) (h2 Z (zf Z h))
 ·exact mG (lP hT) (h1 Z (zE Z h))
theorem lT {c:Ct}{q b:Bool}(T:List Nat)(hb:q=b)(hT:lks sl T=some (T.map λ _=>.p (.val (.bool q))))(h:M C Q ⟨c,k,⟨stB b sl T,ob⟩⟩):M C Q ⟨c,k,⟨sl,ob⟩⟩:=by
 subst hb; exact mG (lP hT) h
def gF (ops:Array Oper)(o:Oper)(sl:List (Nat×AV)):Bool:=match o.guard with
 | none=>true
 | some _=>(match gdF ops o sl with
  | some (true,.p (.val (.bool true)))=>true
  | some (false,.p (.val (.bool false)))=>true
  | _=>false)
theorem mO (hg:gF ops o sl=true)(h:aO C o (λ s'=>M C Q ⟨.op ops r,k,s'⟩) ⟨sl,ob⟩):M C Q ⟨.op ops (o::r),k,⟨sl,ob⟩⟩:=by
 unfold gF at hg;split at hg
 ·rename_i hn; exact bv hn h
 ·generalize hgd:gdF ops o sl=G0z at hg;split at hg
  ·exact gy Z hgd h
  ·exact gy Z hgd h
  ·cases hg
theorem bd {α β:Type}{g:Prop}{p:Option α}{f:α->Option β}{v:β}(h:p.bind f=some v)(H:∀ x,p=some x->f x=some v->g):g:=by
 obtain ⟨x,h1,h2⟩:=BK h;exact H x h1 h2
theorem cc' {α:Type}{g:Prop}{p:Prop} [Decidable p] {a:Option α}{v:α}(h:ck p a=some v)(H:p->a=some v->g):g:=by
 obtain ⟨h1,h2⟩:=cU h;exact H h1 h2
def biF (C:Cx)(ops:Array Oper)(o:Oper)(sl:List (Nat×AV)):Option (Nat×BinOp×AV×AV):=match gF ops o sl with
 | true=>(match dsF C.n o with
  | some d=>(match o.op with
   | .binOp op _ x y _=>(match evo sl x with
    | some X=>(match evo sl y with
     | some Y0z=>some (d,op,X,Y0z)
     | none=>none)
    | none=>none)
   | _=>none)
  | none=>none)
 | false=>none
theorem uV {op:BinOp}{X Y0z:AV}(h:biF C ops o sl=some (d,op,X,Y0z)):gF ops o sl=true/\o.dst=some d/\Nat.blt d C.n=true/\∃ t x y t',o.op=.binOp op t x y t'/\evo sl x=some X/\evo sl y=some Y0z:=by
 unfold biF at h;split at h
 ·rename_i hg;split at h
  ·rename_i e hd;split at h
   ·rename_i op' t x y t' ho;split at h
    ·rename_i X' hx;split at h
     ·rename_i Y' hy
      cases h
      exact ⟨hg,(gM hd).1,(gM hd).2,t,x,y,t',ho,hx,hy⟩
     ·cases h
    ·cases h
   ·cases h
  ·cases h
 ·cases h
theorem oA {α:Type}{a:Option α}{v:α}{op:BinOp}{x y c:Int}(h:ck (inR c) a=some v)(hb:biF C ops o sl=some (d,op,.p (.val (.int .i64 x)),.p (.val (.int .i64 y))))(hc:arI op x y=some c)
  (H:inR c->a=some v->M C Q ⟨.op ops r,k,⟨(d,.p (eI c))::sl,ob⟩⟩):M C Q ⟨.op ops (o::r),k,⟨sl,ob⟩⟩:=by
 obtain ⟨hg,hd,hn,t,X,Y0z,t',ho,hx,hy⟩:=uV hb;obtain ⟨h1,h2⟩:=cU h;exact mO hg (pi ho hd hn hx hy hc h1 (H h1 h2))
theorem oS {op:BinOp}{x y:Bk}{c:Bool}(hb:biF C ops o sl=some (d,op,.p (.val (.string (str x))),.p (.val (.string (str y)))))(hc:AH op x y=some c)
  (H:M C Q ⟨.op ops r,k,⟨(d,.p (eB c))::sl,ob⟩⟩):M C Q ⟨.op ops (o::r),k,⟨sl,ob⟩⟩:=by
 obtain ⟨hg,hd,hn,t,X,Y0z,t',ho,hx,hy⟩:=uV hb;exact mO hg (lw ho hd hn hx hy hc H)
theorem oC {α:Type}{a:Option α}{v:α}{x y:Bk}(h:ck (x.length+y.length<=9223372036854775807) a=some v)(hb:biF C ops o sl=some (d,.add,.p (.val (.string (str x))),.p (.val (.string (str y)))))
  (H:x.length+y.length<=9223372036854775807->a=some v->M C Q ⟨.op ops r,k,⟨(d,.p (eS (x++y)))::sl,ob⟩⟩):M C Q ⟨.op ops (o::r),k,⟨sl,ob⟩⟩:=by
 obtain ⟨hg,hd,hn,t,X,Y0z,t',ho,hx,hy⟩:=uV hb;obtain ⟨h1,h2⟩:=cU h;exact mO hg (rl ho hd hn hx hy h1 (H h1 h2))
def lnF (C:Cx)(ops:Array Oper)(o:Oper)(sl:List (Nat×AV)):Option (Nat×Bool×AV):=match gF ops o sl with
 | true=>(match dsF C.n o with
  | some d=>(match o.op with
   | .call ⟨.builtin .len,⟨[x]⟩,⟨[t]⟩⟩=>(match look C.tt t with
    | some i=>(match evo sl x with
     | some X=>(match i.k with
      | .string=>some (d,true,X)
      | .slice _=>some (d,false,X)
      | _=>none)
     | none=>none)
    | none=>none)
   | _=>none)
  | none=>none)
 | false=>none
theorem oLs {x:Bk}(hb:lnF C ops o sl=some (d,true,.p (.val (.string (str x)))))(H:M C Q ⟨.op ops r,k,⟨(d,.p (eI (x.length:Int)))::sl,ob⟩⟩):M C Q ⟨.op ops (o::r),k,⟨sl,ob⟩⟩:=by
 unfold lnF at hb;split at hb
 ·rename_i hg;split at hb
  ·rename_i e hd;split at hb
   ·rename_i z t ho;split at hb
    ·rename_i i hi;split at hb
     ·rename_i X hx;split at hb
      ·rename_i hk; cases hb; exact mO hg (Al ho (gM hd).1 (gM hd).2 hi hk hx H)
      ·cases hb
      ·cases hb
     ·cases hb
    ·cases hb
   ·cases hb
  ·cases hb
 ·cases hb
theorem oLl {α:Type}{f:α->PV}{l:List α}{X:AV}(hb:lnF C ops o sl=some (d,false,X))(hX:X.elems? = some (l.map f))(H:M C Q ⟨.op ops r,k,⟨(d,.p (eI (l.length:Int)))::sl,ob⟩⟩):M C Q ⟨.op ops (o::r),k,⟨sl,ob⟩⟩:=by
 unfold lnF at hb;split at hb
 ·rename_i hg;split at hb
  ·rename_i e hd;split at hb
   ·rename_i z t ho;split at hb
    ·rename_i i hi;split at hb
     ·rename_i X' hx;split at hb
      ·cases hb
      ·rename_i hk; cases hb; exact mO hg (Af ho (gM hd).1 (gM hd).2 hi hk hx hX H)
      ·cases hb
     ·cases hb
    ·cases hb
   ·cases hb
  ·cases hb
 ·cases hb
def ixF (C:Cx)(ops:Array Oper)(o:Oper)(sl:List (Nat×AV)):Option (Nat×AV×AV):=match gF ops o sl with
 | true=>(match dsF C.n o with
  | some d=>(match o.op with
   | .index t x y=>(match look C.tt t with
    | some i=>(match i.k with
     | .string=>(match evo sl x with
      | some X=>(match evo sl y with|some Y0z=>some (d,X,Y0z)|none=>none)
      | none=>none)
     | _=>none)
    | none=>none)
   | _=>none)
  | none=>none)
 | false=>none
theorem oI {α:Type}{a:Option α}{v:α}{x:Bk}{i:IntKind}{j:Int}(h:ck ((0:Int)<=j/\j<(x.length:Int)) a=some v)(hb:ixF C ops o sl=some (d,.p (.val (.string (str x))),.p (.val (.int i j))))
  (H:(0:Int)<=j/\j<(x.length:Int)->a=some v->M C Q ⟨.op ops r,k,⟨(d,.p (eK .u8 (byt x j)))::sl,ob⟩⟩):M C Q ⟨.op ops (o::r),k,⟨sl,ob⟩⟩:=by
 obtain ⟨h1,h2⟩:=cU h;unfold ixF at hb;split at hb
 ·rename_i hg;split at hb
  ·rename_i e hd;split at hb
   ·rename_i t X Y0z ho;split at hb
    ·rename_i i hi;split at hb
     ·rename_i hk;split at hb
      ·rename_i hx;split at hb
       ·rename_i hy; cases hb; exact mO hg (g6 ho (gM hd).1 (gM hd).2 hi hk hx hy h1 (H h1 h2))
       ·cases hb
      ·cases hb
     ·cases hb
    ·cases hb
   ·cases hb
  ·cases hb
 ·cases hb
def slF (C:Cx)(ops:Array Oper)(o:Oper)(sl:List (Nat×AV)):Option (Nat×AV×Option Operand×Option Operand):=match gF ops o sl with
 | true=>(match dsF C.n o with
  | some d=>(match o.op with
   | .slice t x lo hi none=>(match look C.tt t with
    | some i=>(match i.k with
     | .string=>(match evo sl x with
      | some X=>some (d,X,lo,hi)
      | none=>none)
     | _=>none)
    | none=>none)
   | _=>none)
  | none=>none)
 | false=>none
theorem oP {α:Type}{a:Option α}{v:α}{x:Bk}{i j:Int}{lo hi:Option Operand}(h:ck ((0:Int)<=i/\i<=j/\j<=(x.length:Int)) a=some v)(hb:slF C ops o sl=some (d,.p (.val (.string (str x))),lo,hi))(hlo:loI sl lo=some i)(hhi:hiI sl (x.length:Int) hi=some j)
  (H:(0:Int)<=i/\i<=j/\j<=(x.length:Int)->a=some v->M C Q ⟨.op ops r,k,⟨(d,.p (eS (sub x i j)))::sl,ob⟩⟩):M C Q ⟨.op ops (o::r),k,⟨sl,ob⟩⟩:=by
 obtain ⟨h1,h2⟩:=cU h;unfold slF at hb;split at hb
 ·rename_i hg;split at hb
  ·rename_i e hd;split at hb
   ·rename_i t X lo' hi' ho;split at hb
    ·rename_i i hi;split at hb
     ·rename_i hk;split at hb
      ·rename_i hx
       cases hb; exact mO hg (xD ho (gM hd).1 (gM hd).2 hi hk hx hlo hhi h1 (H h1 h2))
      ·cases hb
     ·cases hb
    ·cases hb
   ·cases hb
  ·cases hb
 ·cases hb
def atF (C:Cx)(ops:Array Oper)(o:Oper)(sl:List (Nat×AV)):Option (Nat×Nat×AV×AV):=match gF ops o sl with
 | true=>(match dsF C.n o with
  | some d=>(match o.op with
   | .indexAddr t x y=>(match look C.tt t with
    | some i=>(match i.k with
     | .slice e=>(match look C.tt e with
      | some ie=>(match evo sl x with
       | some X=>(match evo sl y with|some Y0z=>some (d,ie.size,X,Y0z)|none=>none)
       | none=>none)
      | none=>none)
     | _=>none)
    | none=>none)
   | _=>none)
  | none=>none)
 | false=>none
theorem oE {α β:Type} [Inhabited α] {a:Option β}{v:β}{f:α->PV}{l:List α}{cs:α->List PV}{X:AV}{sz:Nat}{i:IntKind}{j:Int}(h:ck ((0:Int)<=j/\j<(l.length:Int)) a=some v)(CJ:∀ x,(f x).cells=cs x)(hb:atF C ops o sl=some (d,sz,X,.p (.val (.int i j))))(hX:X.elems? = some (l.map f))(CC:∀ x,(cs x).length=sz)
  (H:(0:Int)<=j/\j<(l.length:Int)->a=some v->M C Q ⟨.op ops r,k,⟨(d,.rptr (cs (lat l j)))::sl,ob⟩⟩):M C Q ⟨.op ops (o::r),k,⟨sl,ob⟩⟩:=by
 obtain ⟨h1,h2⟩:=cU h;unfold atF at hb;split at hb
 ·rename_i hg;split at hb
  ·rename_i e hd;split at hb
   ·rename_i t X Y0z ho;split at hb
    ·rename_i i hi;split at hb
     ·rename_i hk;split at hb
      ·rename_i ie hie;split at hb
       ·rename_i hx;split at hb
        ·rename_i hy; cases hb; exact mO hg (cO cs ho (gM hd).1 (gM hd).2 hi hk hie hx hX hy h1 CJ CC (H h1 h2))
        ·cases hb
       ·cases hb
      ·cases hb
     ·cases hb
    ·cases hb
   ·cases hb
  ·cases hb
 ·cases hb
def clF (C:Cx)(ops:Array Oper)(o:Oper)(sl:List (Nat×AV)):Option (Nat×FuncId×List AV):=match gF ops o sl with
 | true=>(match dsF C.n o with
  | some d=>(match o.op with
   | .call ⟨.value (.func f),args,_⟩=>(match gx sl args.toList with
    | some l=>some (d,f,l)
    | none=>none)
   | _=>none)
  | none=>none)
 | false=>none
theorem oK {f:FuncId}{l:List AV}{q:List PV}{x x':AV}(hc:au C.P f q (·=x))(hb:clF C ops o sl=some (d,f,l))(hq:uc l q)(henter:∀ vs w,(callFunc f vs).run C.P w=.ok (.enter f vs) w)(hr:x.settle=some x')
  (H:M C Q ⟨.op ops r,k,⟨(d,x')::sl,ob⟩⟩):M C Q ⟨.op ops (o::r),k,⟨sl,ob⟩⟩:=by
 unfold clF at hb;split at hb
 ·rename_i hg;split at hb
  ·rename_i e hd;split at hb
   ·rename_i f' args ts ho;split at hb
    ·rename_i l' hl; cases hb; exact mO hg (aY hc ho (gM hd).1 (gM hd).2 hl hq henter hr H)
    ·cases hb
   ·cases hb
  ·cases hb
 ·cases hb
def tO:Operand->List Nat->List Nat|.tmp t,l=>t::l|_,l=>l
def tOs:List Operand->List Nat|[]=>[]|x::r=>tO x (tOs r)
def tms (o:Oper):List Nat:=match o.op with
 | .move x=>tO x []
 | .assign x=>tO x []
 | .pick c x y=>tO c (tO x (tO y []))
 | .binOp _ _ x y _=>tO x (tO y [])
 | .unOp _ _ x=>tO x []
 | .fieldAddr _ x _=>tO x []
 | .load _ x=>tO x []
 | .nilCheck x=>tO x []
 | .extract x _=>tO x []
 | .field _ x _=>tO x []
 | .convert _ _ x=>tO x []
 | .build _ parts=>tOs (parts.toList.map (·.2))
 | .call c=>tOs c.args.toList
 | _=>[]
def gdT (ops:Array Oper)(o:Oper)(l:List Nat):List Nat:=match o.guard with
 | some (j,_)=>(match (ops.toList[j]?).bind (·.dst) with
  | some t=>t::l
  | none=>l)
 | none=>l
def knL (base:List (Nat×AV))(o:Oper)(rev:Rev):List Nat->List (Nat×AV)
 | []=>[]
 | i::r=>(match knX base o rev i with
  | some x=>(i,x)::knL base o rev r
  | none=>knL base o rev r)
theorem uN {base:List (Nat×AV)}{rev:Rev}:∀ {l:List Nat},wN base o rev (knL base o rev l)
 | []=>trivial
 | i::r=>by
  unfold knL;split
  ·rename_i x hx; exact ⟨yh hx,uN⟩
  ·exact uN
theorem jb {kn:List (Nat×AV)}(hs:∀ i x,look kn i=some x->look sl i=some x)(x:Operand):evo kn x=none\/evo kn x=evo sl x:=by
 cases h:evo kn x with
 | none=>exact .inl Z
 | some y=>exact .inr (ns hs h).symm
theorem qG {kn:List (Nat×AV)}(hs:∀ i x,look kn i=some x->look sl i=some x):∀ {l:List (Nat×Operand)} {ps:List (Nat×AV)},gX kn l=some ps->gX sl l=some ps
 | [],ps,h=>h
 | (i,x)::r,ps,h=>by
  unfold gX at h ⊢;split at h
  ·rename_i y l hy hl; cases h; rw [ns hs hy,qG hs hl]
  ·cases h
theorem yo {kn:List (Nat×AV)}{y:AV}(hs:∀ i x,look kn i=some x->look sl i=some x)(h:opV C o kn ob=some y):opV C o sl ob=some y:=by
 unfold opV at h ⊢;split at h
 ·exact ns hs h
 ·exact ns hs h
 ·rename_i c x y _;rcases jb hs c with e|e
  ·rw [e] at h; cases h
  ·rw [<- e];generalize evo kn c=z at h;unfold pkP at h ⊢;split at h
   ·exact ns hs h
   ·exact ns hs h
   ·cases h
 ·rename_i op t x y _ _;rcases jb hs x with e|e
  ·rw [e] at h; cases h
  ·rw [<- e];rcases jb hs y with e|e
   ·rw [e] at h;unfold bnP at h;split at h
    ·rename_i h2; cases h2
    ·rename_i h2; cases h2
    ·cases h
   ·rw [<- e]; exact h
 ·rename_i x _; rcases jb hs x with e|e
  ·rw [e] at h; cases h
  ·rw [<- e]; exact h
 ·rename_i t x f _; rcases jb hs x with e|e
  ·rw [e] at h; unfold faP at h; (repeat' split at h) <;> first|contradiction|cases h
  ·rw [<- e]; exact h
 ·rename_i t x _; rcases jb hs x with e|e
  ·rw [e] at h; unfold ldP at h; split at h <;> cases h
  ·rw [<- e]; exact h
 ·rename_i x _; rcases jb hs x with e|e
  ·rw [e] at h; cases h
  ·rw [<- e]; exact h
 ·rename_i x n _; rcases jb hs x with e|e
  ·rw [e] at h; cases h
  ·rw [<- e]; exact h
 ·rename_i t x f _; rcases jb hs x with e|e
  ·rw [e] at h; unfold flP at h; (repeat' split at h) <;> first|contradiction|cases h
  ·rw [<- e]; exact h
 ·rename_i s t x _; rcases jb hs x with e|e
  ·rw [e] at h; unfold cvP at h; (repeat' split at h) <;> first|contradiction|cases h
  ·rw [<- e]; exact h
 ·rename_i t parts _
  cases e:gX kn parts.toList with
  | none=>rw [e] at h; unfold buP at h; (repeat' split at h) <;> first|contradiction|cases h
  | some ps=>rw [e] at h; rw [qG hs e]; exact h
 ·rename_i c _;unfold laP at h ⊢;split at h
  ·rename_i x t _;rcases jb hs x with e|e
   ·rw [e] at h; (repeat' split at h) <;> first|contradiction|cases h
   ·rw [<- e]; exact h
  ·cases h
 ·cases h
def oV (C:Cx)(ops:Array Oper)(o:Oper)(sl:List (Nat×AV))(ob:List (Nat×List AV)):Option AV:=match o.guard with
 | none=>opV C o sl ob
 | some _=>(match gdF ops o sl with
  | some (true,.p (.val (.bool true)))=>opV C o sl ob
  | some (true,.p (.val (.bool false)))=>some (.p (.val Go.undef))
  | some (false,.p (.val (.bool true)))=>some (.p (.val Go.undef))
  | some (false,.p (.val (.bool false)))=>opV C o sl ob
  | some (_,.p (.val v))=>(match isU v with|true=>some (.p (.val Go.undef))|false=>none)
  | _=>none)
def drF (C:Cx)(ops:Array Oper)(base:List (Nat×AV))(ob:List (Nat×List AV))(o:Oper)(rev:Rev):Option (Nat×AV):=match nwF base rev o with
 | some d=>(match Nat.blt d C.n with
  | true=>(match oV C ops o (knL base o rev (gdT ops o (tms o))) ob with
   | some y=>some (d,y)
   | none=>none)
  | false=>none)
 | none=>none
theorem AK {kn:List (Nat×AV)}{y:AV}(h:oV C ops o kn ob=some y)(hd:o.dst=some d)(hn:Nat.blt d C.n=true):nz C ops ob o kn d y:=by
 intro sl hs K hK;unfold oV at h;split at h
 ·rename_i hg; exact ae hg (uo (yo hs h) hd hn hK)
 ·generalize hgd:gdF ops o kn=G0z at h
  have yes:∀ {w:Bool},gdF ops o kn=some (w,.p (.val (.bool w)))->opV C o kn ob=some y->One C ops o K ⟨sl,ob⟩:=λ hgd h=>by
   obtain ⟨j,t,hg,hj,hv⟩:=nw hgd;exact jq (uo (yo hs h) hd hn hK) hg hj (hs _ _ hv) rfl
  have no:∀ {w b:Bool},gdF ops o kn=some (w,.p (.val (.bool b)))->b=(!w)->y=.p (.val Go.undef)->One C ops o K ⟨sl,ob⟩:=λ hgd hb h=>by
   subst h;obtain ⟨j,t,hg,hj,hv⟩:=nw hgd;exact BN hg hj (hs _ _ hv) hb hd hn hK
  split at h
  ·exact yes hgd h
  ·cases h; exact no hgd Z Z
  ·cases h; exact no hgd Z Z
  ·exact yes hgd h
  ·split at h
   ·rename_i hu;have:=yN hu; subst this
    cases h
    obtain ⟨j,t,hg,hj,hv⟩:=nw hgd;exact yg hg hj (hs _ _ hv) hd hn hK
   ·cases h
  ·cases h
def drw (C:Cx)(ops:Array Oper)(base:List (Nat×AV))(ob:List (Nat×List AV)):Nat->List Oper->Nat->Rev->Option (List Oper×Nat×Rev)
 | 0,l,i,rev=>some (l,i,rev)
 | n+1,o::l,i,rev=>(match drF C ops base ob o rev with
  | some (d,y)=>drw C ops base ob n l (i+1) ((i,d,y)::rev)
  | none=>none)
 | _+1,[],_,_=>none
theorem dR {base:List (Nat×AV)}:∀ (n:Nat) {l l':List Oper} {i i':Nat} {rev rev':Rev},drw C ops base ob n l i rev=some (l',i',rev')->DQ C ops base ob K l' i' rev'->DQ C ops base ob K l i rev
 | 0,l,l',i,i',rev,rev',h,hK=>by cases h; exact hK
 | n+1,[],l',i,i',rev,rev',h,hK=>by cases h
 | n+1,o::l,l',i,i',rev,rev',h,hK=>by
  unfold drw at h;split at h
  ·rename_i d y hd;unfold drF at hd;split at hd
   ·rename_i e he;split at hd
    ·rename_i hn;split at hd
     ·rename_i z hz
      cases hd
      exact vZ y _ uN (AK hz (lR he).1 hn) (lR he).1 (lR he).2.1 (lR he).2.2 (dR n h hK)
     ·cases hd
    ·cases hd
   ·cases hd
  ·cases h
theorem mD (base:List (Nat×AV)){id:Nat}(hm:C.P.follows .mixedOrders=true)(hb:de sl base)(hord:(ops.toList.zipIdx.all λ p=>p.1.after.toList.all λ e=>!(Region.binds .any e)||Nat.blt e.on p.2)=true)
  (h:DQ C ops base ob (λ s'=>M C Q ⟨.ex .normal,k,s'⟩) ops.toList 0 []):M C Q ⟨.cd (.region id ops true),k,⟨sl,ob⟩⟩:=xx base hm hb hord h
def AX:Rev->List (Nat×AV)->Option (List (Nat×AV))
 | [],b=>some b
 | (_,p)::r,b=>(match AX r b with|some l=>some (p::l)|none=>none)
theorem vT:∀ {rev:Rev} {b l:List (Nat×AV)},AX rev b=some l->l=kZ rev++b
 | [],b,l,h=>by cases h; rfl
 | (i,p)::r,b,l,h=>by
  unfold AX at h;split at h
  ·rename_i m hm; cases h; rw [vT hm]; rfl
  ·cases h
theorem dE {base l:List (Nat×AV)}{i:Nat}{rev:Rev}(h:AX rev base=some l)(hM:M C Q ⟨.ex .normal,k,⟨l,ob⟩⟩):DQ C ops base ob (λ s'=>M C Q ⟨.ex .normal,k,s'⟩) [] i rev :=
 Bs (by rw [<- vT h]; exact hM)
theorem dL {base:List (Nat×AV)}{l:List Oper}{i:Nat}{rev:Rev}{q b:Bool}(hb:q=b)(h:drF C ops base ob o rev=some (d,.p (.val (.bool q))))(hK:DQ C ops base ob K l (i+1) ((i,d,.p (.val (.bool b)))::rev)):DQ C ops base ob K (o::l) i rev:=by
 subst hb;refine dR 1 (l':=l) (i':=i+1) (rev':=(i,d,.p (.val (.bool q)))::rev) ?_ hK;simp only [drw,h]
theorem mS (S:eg){id:Nat}(hm:C.P.follows .mixedOrders=true)(CE:S.imp.length=S.m)(hob:S.obj 0=ob)(hb:de sl (S.bas 0))
  (hbas:∀ j,j<S.m->de (trL (S.D j) (S.bas j)) (S.bas (j+1))) (hnd:nodupB S.imp=true) (hin:S.imp.all (λ i=>Nat.blt i ops.size)=true) (hch:chainB ops S.imp=true)
  (hord:(ops.toList.zipIdx.all λ p=>p.1.after.toList.all λ e=>!(Region.binds .any e)||Nat.blt e.on p.2)=true) (h:DS C ops S (λ rev=>M C Q ⟨.ex .normal,k,⟨bD rev S.m++S.bas S.m,S.obj S.m⟩⟩) ops.toList 0 []):M C Q ⟨.cd (.region id ops true),k,⟨sl,ob⟩⟩ :=
 xz S hm CE hob hb hbas hnd hin hch hord h
def lkO (ob:List (Nat×List AV)):List Nat->Option (List (List AV))
 | []=>some []
 | t::r=>(match look ob t with
  | some x=>(match lkO ob r with|some l=>some (x::l)|none=>none)
  | none=>none)
theorem sA {sl:List (Nat×AV)}:∀ {q:List (Nat×AV)},lks sl (q.map (·.1))=some (q.map (·.2))->∀ j x,look q j=some x->look sl j=some x
 | [],_,j,x,h=>by cases h
 | (i,y)::r,hT,j,x,h=>by
  simp only [cl] at hT;unfold lks at hT;split at hT
  ·rename_i z hz;split at hT
   ·rename_i l hl;simp only [aq,List.cons.injEq] at hT;rw [aJ] at h;split at h
    ·rename_i e; subst e; cases h; rw [hz,hT.1]
    ·exact sA (hl.trans (congrArg some hT.2)) j x h
   ·cases hT
  ·cases hT
theorem zG {ob:List (Nat×List AV)}:∀ {q:List (Nat×List AV)},lkO ob (q.map (·.1))=some (q.map (·.2))->∀ j x,look q j=some x->look ob j=some x
 | [],_,j,x,h=>by cases h
 | (i,y)::r,hT,j,x,h=>by
  simp only [cl] at hT;unfold lkO at hT;split at hT
  ·rename_i z hz;split at hT
   ·rename_i l hl;simp only [aq,List.cons.injEq] at hT;rw [aJ] at h;split at h
    ·rename_i e; subst e; cases h; rw [hz,hT.1]
    ·exact zG (hl.trans (congrArg some hT.2)) j x h
   ·cases hT
  ·cases hT
def lkE (a b:List (Nat×List AV)):List (Nat×List AV)->Prop|[]=>True|(i,_)::r=>look b i=look a i/\lkE a b r
theorem vu {a b:List (Nat×List AV)}:∀ {l:List (Nat×List AV)},lkE a b l->∀ i x,look l i=some x->look b i=look a i
 | [],_,i,x,h=>by cases h
 | (j,y)::r,⟨h1,h2⟩,i,x,h=>by
  rw [aJ] at h;by_cases e:j=i
  ·subst e; exact h1
  ·rw [if_neg e] at h; exact vu h2 i x h
theorem Bo {C:Cx}{ops:Array Oper}{S1 S2:eg}{k:Nat}{r1 r2:eJ}{imp:List Nat}(h1:lks (bD r2 S2.m++S2.bas S2.m) ((bD r1 S1.m++S1.bas S1.m).map (·.1))=some ((bD r1 S1.m++S1.bas S1.m).map (·.2)))
  (h2:lkE (S1.obj S1.m) (S2.obj S2.m) (S1.obj S1.m)) (h3:m6 imp r1 r2) :
  DS C ops S2 (λ rev2=>(⟨bD rev2 S2.m++S2.bas S2.m,S2.obj S2.m⟩:AS).le ⟨bD r1 S1.m++S1.bas S1.m,S1.obj S1.m⟩/\m6 imp r1 rev2) [] k r2:=by
 refine ⟨⟨λ j x h=>?_,λ id cs h=>⟨cs,(vu h2 id cs h).trans h,bt _,λ i c d a b=>by rw [a] at b; cases b; exact AV.sub_refl _⟩⟩,h3⟩;have:=sA h1 j x h;unfold AS.get;rw [this];exact AV.sub_refl _
theorem mSS {C:Cx}{Q:Exit->AS->Prop}{k:List Fr}{ops:Array Oper}{sl:List (Nat×AV)}{ob:List (Nat×List AV)}(S1 S2:eg){id k1 k2:Nat}{r:List Nat}(hm:C.P.follows .mixedOrders=true)
  (hi1:S1.imp=k1::k2::r) (hi2:S2.imp=k2::k1::r) (hlen1:S1.imp.length=S1.m) (hlen2:S2.imp.length=S2.m) (hob1:S1.obj 0=ob) (hob2:S2.obj 0=ob) (hb:de sl (S1.bas 0)) (hb2:S2.bas 0=S1.bas 0)
  (hbas1:∀ j,j<S1.m->de (trL (S1.D j) (S1.bas j)) (S1.bas (j+1))) (hbas2:∀ j,j<S2.m->de (trL (S2.D j) (S2.bas j)) (S2.bas (j+1)))
  (hnd:nodupB (k1::k2::r)=true) (hin:(k1::k2::r).all (λ i=>Nat.blt i ops.size)=true) (hch1:chainB ops (k1::r)=true) (hch2:chainB ops (k2::r)=true)
  (hord:(ops.toList.zipIdx.all λ p=>p.1.after.toList.all λ e=>!(Region.binds .any e)||Nat.blt e.on p.2)=true)
  (h:DS C ops S1 (λ rev1=>M C Q ⟨.ex .normal,k,⟨bD rev1 S1.m++S1.bas S1.m,S1.obj S1.m⟩⟩/\DS C ops S2 (λ rev2=>(⟨bD rev2 S2.m++S2.bas S2.m,S2.obj S2.m⟩:AS).le ⟨bD rev1 S1.m++S1.bas S1.m,S1.obj S1.m⟩/\m6 (k1::k2::r) rev1 rev2) ops.toList 0 []) ops.toList 0 []) :
  M C Q ⟨.cd (.region id ops true),k,⟨sl,ob⟩⟩ :=
 u4 S1 S2 hm hi1 hi2 hlen1 hlen2 hob1 hob2 hb hb2 hbas1 hbas2 hnd hin hch1 hch2 hord h
theorem gE {s t:AS}(h1:lks s.sl (t.sl.map (·.1))=some (t.sl.map (·.2)))(h2:lkO s.ob (t.ob.map (·.1))=some (t.ob.map (·.2))):bY C s t :=
 bS ⟨λ j x hx=>by
  have:=sA h1 j x hx
  simp only [AS.get,this,rg]; exact AV.sub_refl x,λ id cs h=>⟨cs,zG h2 id cs h,bt _,λ i c d hc hd=>by rw [hc] at hd; cases hd; exact AV.sub_refl _⟩⟩
theorem mP {β:Type}{v0:β}{tt:List (Nat×TI)}{fn:Func}{c:Code}(mk:β->AV)(h:M C (λ e s=>∃ v,v=v0/\xI tt fn (λ x=>x.sub (mk v)) e s) ⟨.cd c,[],s⟩):awp C c (xI tt fn (λ x=>x.sub (mk v0))) s :=
 kU (λ e s h=>by obtain ⟨t,h1,v,rfl,h2⟩:=h; exact ⟨t,h1,h2⟩) h |> u6
theorem mQ {β:Type}{v v0:β}{tt:List (Nat×TI)}{fn:Func}{mk:β->AV}{l:List AV}(e:v=v0)(h:lM tt fn.results.toList s=some l)(hR:(si l).sub (mk v)):M C (λ e s=>∃ v,v=v0/\xI tt fn (λ x=>x.sub (mk v)) e s) ⟨.ex .ret,[],s⟩ :=
 ⟨s,bB s,v,e,me h hR⟩
theorem mPo {β:Type}{v0:β}{tt:List (Nat×TI)}{fn:Func}{ts ids:List Nat}{c:Code}(mk:β->AV)(mo:β->List (Nat×List AV))(h:M C (λ e s=>∃ v,v=v0/\yZ C tt fn ts ids (mk v) (mo v) e s) ⟨.cd c,[],s⟩):awp C c (yZ C tt fn ts ids (mk v0) (mo v0)) s :=
 kU (λ e s h=>by obtain ⟨t,h1,v,rfl,h2⟩:=h; exact ⟨t,h1,h2⟩) h |> u6
theorem mQo {β:Type}{v v0:β}{tt:List (Nat×TI)}{fn:Func}{ts ids:List Nat}{mk:β->AV}{mo:β->List (Nat×List AV)}{r1:AV}{C8 obs':List (Nat×List AV)}{t:AS}{l:List AV}(e:v=v0)(hg:bY C s t)(h1:lM tt fn.results.toList t=some l)(h2:(si l).mapA (nV ts)=some r1)
  (h3:jh t.ob ids=some C8) (h4:ij (nV ts) C8=some obs') (h5:r1.sub (mk v)) (h6:leO obs' (mo v)):M C (λ e s=>∃ v,v=v0/\yZ C tt fn ts ids (mk v) (mo v) e s) ⟨.ex .ret,[],s⟩ :=
 ⟨s,bB s,v,e,jY hg h1 h2 h3 h4 h5 h6⟩
theorem kN {c:Code}{σ:Type}(w:σ)(mk:σ->AS)(h2:M C Q ⟨.ex .normal,k,mk w⟩)(h1:M C Q ⟨.cd c,.jo (λ t=>∃ v,w=v/\t=mk v)::k,s⟩):M C Q ⟨.cd c,k,s⟩ :=
 kX (λ v=>w=v) mk (λ _ e=>e ▸ h2) h1
theorem kE (id:Nat){c:Code}{σ:Type}(w:σ)(mk:σ->AS)(h2:M C Q ⟨.ex (.exit id),k,mk w⟩)(h1:M C Q ⟨.cd c,.je id (λ t=>∃ v,w=v/\t=mk v)::k,s⟩):M C Q ⟨.cd c,k,s⟩ :=
 kEx id (λ v=>w=v) mk (λ _ e=>e ▸ h2) h1
end
end Go.Ab
namespace Go.Ab
/- What holds no identity is not touched by the marks of a box or a new object. -/
mutual
theorem Aa {D:Nat->Bool}:∀ {x y:AV},AV.mapA (λ _=>none) x=some y->y=x->x.dem D=x
 | .undef,_,_,_=>rfl
 | .p _,_,_,_=>rfl
 | .vec ..,y,h,e=>by simp only [AV.mapA,aq] at h; subst h; cases e
 | .arr ..,_,h,_=>by simp only [AV.mapA] at h; cases h
 | .ptr ..,_,h,_=>by simp only [AV.mapA] at h; cases h
 | .bptr ..,_,h,_=>by simp only [AV.mapA] at h; cases h
 | .mp ..,_,h,_=>by simp only [AV.mapA] at h; cases h
 | .mpr ..,_,h,_=>by simp only [AV.mapA] at h; cases h
 | .stk ..,_,h,_=>by simp only [AV.mapA] at h; cases h
 | .sem ts R,y,h,e=>by
  cases ts with
  | nil=>rfl
  | cons t ts=>simp only [AV.mapA,sE] at h; cases h
 | .it ..,_,h,_=>by simp only [AV.mapA] at h; cases h
 | .vecp ..,_,h,_=>by simp only [AV.mapA] at h; cases h
 | .elp ..,_,h,_=>by simp only [AV.mapA] at h; cases h
 | .rptr _,_,_,_=>rfl
 | .agg cs,y,h,e=>by
  subst e;simp only [AV.mapA] at h
  cases hl:AV.mapA.go (λ _=>none) cs with
  | none=>rw [hl] at h; cases h
  | some l=>rw [hl] at h; cases h; simp only [AV.dem]; exact congrArg _ (jH hl rfl)
 | .tuple cs,y,h,e=>by
  subst e;simp only [AV.mapA] at h
  cases hl:AV.mapA.go (λ _=>none) cs with
  | none=>rw [hl] at h; cases h
  | some l=>rw [hl] at h; cases h; simp only [AV.dem]; exact congrArg _ (jH hl rfl)
 | .func f cs,y,h,e=>by
  subst e;simp only [AV.mapA] at h
  cases hl:AV.mapA.go (λ _=>none) cs with
  | none=>rw [hl] at h; cases h
  | some l=>rw [hl] at h; cases h; simp only [AV.dem]; exact congrArg _ (jH hl rfl)
theorem jH {D:Nat->Bool}:∀ {l l':List AV},AV.mapA.go (λ _=>none) l=some l'->l'=l->gW D l=l
 | [],_,_,_=>rfl
 | x::r,l',h,e=>by
  subst e;simp only [AV.mapA.go] at h;split at h
  ·rename_i y z hy hz
   cases h
   simp only [gW,Aa hy rfl,jH hz rfl]
  ·cases h
end
theorem tq {C:List AV}(K:AV.mapA.go (λ _=>none) C=some C)(D:Nat->Bool):gW D C=C:=jH K Z
theorem gFn {C:Cx}{sl:List (Nat×AV)}{ob:List (Nat×List AV)}{f:Fn}{cs:List AV}(j:Nat)(cs':List AV)(h:look sl j=some (.func f cs))(hc:cs=cs'):bY C ⟨sl,ob⟩ ⟨(j,.func f cs')::sl,ob⟩ :=
 j9 j h (hc ▸ AV.sub_refl _)
end Go.Ab
end
