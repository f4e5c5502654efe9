/- Texts of the proof, one behind the other. No statement is proved here. -/
import Derived.Test.YtihghalcmfpnaaaGreatDoorChecked
import Derived.Laws.StructEq
import Derived.Laws.IdiomStrings
import Derived.WalkKit
import Derived.Lib.Builder
import Derived.Lib.UnsafeStr
import Derived.Laws.Externs
import Derived.Shelf.RegionOpenPlain
import Derived.Below
import Derived.Lib.LaidTab
import Derived.Shelf.Lays
import Derived.Shelf.Small.Utf8
import Derived.Shelf.Small.Strs
import Derived.Shelf.Strings.Prefix
import Derived.Shelf.LaysM
import Derived.Shelf.Strconv.Itoa3
import Derived.Shelf.LaysC
import Derived.Shelf.Strconv.ParseIntPublic10
import Derived.Shelf.Unicode.DecodeAny
import Derived.Shelf.Unicode.ValidAny
import Derived.Shelf.Strings.Search3
import Derived.Test.YtihghalcmfpnaaaGreatDoorProg
import Derived.Lib.AppendIntMem
import Derived.Deep.LoopGhost
import Derived.Laws.Runes
import Derived.Scope
import Derived.Deep.QuietTactic
import Derived.BigQuiet
import Derived.Laws.RangeString
import Derived.Lib.IndexAny
import Derived.Lib.TrimU
import Derived.MapKept
import Derived.Lib.AppendZeros
import Derived.Test.YtihghalcmfpnaaaGreatDoorZ14Da
set_option maxHeartbeats 4000000
section
namespace Go.Ab
theorem aU {C:Cx}(s:AS):cO C s s:=λ g _ _ hs=>⟨g,hs⟩
theorem bm {C:Cx}{s t u:AS}(h:cO C s t)(k:cO C t u):cO C s u:=λ g a w hs=>by
 obtain ⟨g',hs'⟩:=h g a w hs;exact k g' a w hs'
theorem FK {C:Cx}{c:Code}{Q:Exit->AS->Prop}{s:AS}{σ O0z:Type}(mk:σ->AS)(lp:Nat->σ->Option O0z)(hz:∀ q,lp 0 q=none){o:O0z}{n:Nat}(q0:σ)(h0:lp n q0=some o)(hle:cO C s (mk q0))
  (round:∀ m q,lp (m+1) q=some o->awp C c (rK (λ s'=>∃ q',lp m q'=some o/\cO C s' (mk q')) Q) (mk q)):awp C (.loop c) Q s:=by
 refine tb hle ?_;intro g a w hs
 let J:Act->World->Nat->Prop:=λ a w m=>∃ g q,St C.n C.w0 C.F g (mk q) a w/\lp m q=some o
 have hJ:∀ a w m,J a w m->∃ m0,J a w m0/\∀ m',J a w m'->m0<=m':=by
  intro a w m
  induction m using Nat.strongRecOn with
  | _ m ih=>
   intro hm;by_cases h:∃ m',m'<m/\J a w m'
   ·obtain ⟨m',h1,h2⟩:=h; exact ih m' h1 h2
   ·exact ⟨m,hm,λ m' h'=>Nat.le_of_not_lt λ hlt=>h ⟨m',hlt,h'⟩⟩
 let M:Act->World->Nat:=λ a w=>by
  classical
  exact if h:∃ m0,J a w m0/\∀ m',J a w m'->m0<=m' then Classical.choose h else 0
 have hM:∀ a w m,J a w m->J a w (M a w)/\M a w<=m:=by
  intro a w m hm;have h:=hJ a w m hm;have e:M a w=Classical.choose h:=by simp only [M]; rw [dif_pos h]
  rw [e];exact ⟨(Classical.choose_spec h).1,(Classical.choose_spec h).2 m hm⟩
 refine wp_loop (λ a w=>∃ m,J a w m) M ⟨n,g,q0,hs,h0⟩ ?_;rintro a w ⟨m,hm⟩;obtain ⟨⟨g1,q1,hs1,U1⟩,_⟩:=hM a w m hm;generalize hMm:M a w=mm at U1
 cases mm with
 | zero=>rw [hz] at U1; cases U1
 | succ mm=>
  refine wp_mono (round mm q1 U1 g1 a w hs1) ?_;rintro e a' w' ⟨g',s',h1,h2⟩
  cases e with
  | normal=>
   obtain ⟨q',hI',hgh⟩:=h2;obtain ⟨g2,hs2⟩:=hgh g' a' w' h1;have hj:J a' w' mm:=⟨g2,q',hs2,hI'⟩
   refine ⟨⟨_,hj⟩,?_⟩;have:=(hM a' w' _ hj).2;omega
  | exit id=>exact ⟨g',s',h1,h2⟩
  | goto l=>exact ⟨g',s',h1,h2⟩
  | ret=>exact ⟨g',s',h1,h2⟩
  | panic ch=>exact ⟨g',s',h1,h2⟩
  | outgrown=>exact ⟨g',s',h1,h2⟩
def nh (tt:List (Nat×TI)):List ResultVar->AS->Option (List AV)
 | [],_=>some []
 | .tmp t::r,s=>match look s.sl t,nh tt r s with
  | some x,some l=>some (x::l)
  | _,_=>none
 | .cell c t::r,s=>match look s.sl c with
  | some (.ptr id k)=>match look s.ob id,look tt t,nh tt r s with
   | some cs,some i,some l=>bif i.k.isAgg then (bif Nat.ble (k+i.size) cs.length then some (nb ((cs.drop k).take i.size)::l) else none) else (match cs[k]? with
    | some y=>some (y::l)
    | none=>none)
   | _,_,_=>none
  | _=>none
def zY (tt:List (Nat×TI))(fn:Func)(R:AV->Prop)(e:Exit)(s:AS):Prop:=(e=.normal\/e=.ret)/\∃ l,nh tt fn.results.toList s=some l/\R (qW l)
theorem Nh {tt:List (Nat×TI)}{fn:Func}{R:AV->Prop}{s:AS}{l:List AV}(h:nh tt fn.results.toList s=some l)(hR:R (qW l)):zY tt fn R .ret s:=⟨.inr Z,l,h,hR⟩
theorem OG {tt:List (Nat×TI)}{fn:Func}{R:AV->Prop}{s:AS}{l:List AV}(h:nh tt fn.results.toList s=some l)(hR:R (qW l)):zY tt fn R .normal s:=⟨.inl Z,l,h,hR⟩
theorem wW {P:Program}{tt:List (Nat×TI)}(good:cS P tt){n:Nat}{w0:Base}{w:World}{F:Nat->Prop}{g:Gh}{s:AS}{a:Act}(hs:St n w0 F g s a w){c id k t:Nat}{cs:List AV}{i:TI}{y:AV}
  (hc:look s.sl c=some (.ptr id k)) (hob:look s.ob id=some cs) (hi:look tt t=some i)
  (hy:(i.k.isAgg=true/\k+i.size<=cs.length/\y=nb ((cs.drop k).take i.size))\/(i.k.isAgg=false/\cs[k]? = some y)) :
  ∃ v,(yH a.tmps (.cell c t)).run P w=.ok v w/\ARep w g y v:=by
 have h5:=hs.sl c;simp only [AS.get,hc,ur] at h5;generalize hv:a.tmps.getD c Go.undef=v at h5
 cases h5 with
 | ptr how=>
  rename_i b;obtain ⟨b',cc,e,k1,k2,k3,k4,k5⟩:=hs.ob id cs hob;rw [how] at k1; cases k1;rcases hy with ⟨hia,hl,rfl⟩|⟨hia,hy⟩
  ·have Up:∀ j,j<i.size->w.cell? ⟨b,k+j,none⟩=some (cc.getD (k+j) Go.undef):=by
    intro j hj;rw [pj hs k2];have:k+j<cc.size:=by omega
    simp [Array.getD,this]
   have hld:=qa good hi hia (f:=λ j=>cc.getD (k+j) Go.undef) Up;refine ⟨.agg ((List.range i.size).map λ j=>cc.getD (k+j) Go.undef).toArray,by simp only [yH,hv,asAddr,Sem.run_bind,Sem.run_pure,Result.andThen_ok,hld],qk gK λ j y v h1 h2=>?_⟩;rw [List.getElem?_take] at h1;split at h1
   ·rename_i hj;rw [List.getElem?_drop] at h1;obtain ⟨u,hu,hr⟩:=k5 (k+j) y h1;simp only [List.getElem?_toArray,List.getElem?_map,List.getElem?_range hj,Option.map_some,bt] at h2;rw [<- h2,Array.getD_eq_getD_getElem?,hu];exact hr
   ·cases h1
  ·obtain ⟨u,hu,hr⟩:=k5 k y hy;have hcc:=(pj hs k2 k).trans hu;exact ⟨u,by simp only [yH,hv,asAddr,Sem.run_bind,Sem.run_pure,Result.andThen_ok,pH good hi hia hcc],hr⟩
theorem J6 {P:Program}{tt:List (Nat×TI)}(good:cS P tt){n:Nat}{w0:Base}{w:World}{F:Nat->Prop}{g:Gh}{s:AS}{a:Act}(hs:St n w0 F g s a w)(rs:List ResultVar) :
  ∀ l,nh tt rs s=some l->∃ vs:List Value,
   (rs.mapM (yH a.tmps)).run P w=.ok vs w/\vs.length=l.length /\
    ∀ (i:Nat) c v,l[i]? = some c->vs[i]? = some v->ARep w g c v:=by
 induction rs with
 | nil=>intro l h; simp only [nh,bt] at h; subst h; exact ⟨[],by simp,rfl,by simp⟩
 | cons r rs ih=>
  intro l h
  have fin:∀ (y:AV) (l':List AV) (v:Value),l=y::l'->nh tt rs s=some l'->(yH a.tmps r).run P w=.ok v w->ARep w g y v->∃ vs:List Value,
    ((r::rs).mapM (yH a.tmps)).run P w=.ok vs w/\vs.length=l.length/\∀ (i:Nat) c v,l[i]? = some c->vs[i]? = some v->ARep w g c v:=by
   intro y l' v e h1 h2 h3;subst e;obtain ⟨vs,k1,k2,k3⟩:=ih l' h1;refine ⟨v::vs,by simp only [List.mapM_cons,Sem.run_bind,h2,Sem.run_pure,Result.andThen_ok,k1],by simp [k2],λ i c u h5 h6=>?_⟩
   cases i with
   | zero=>simp only [List.getElem?_cons_zero,bt] at h5 h6; subst h5 h6; exact h3
   | succ i=>simp only [List.getElem?_cons_succ] at h5 h6; exact k3 i c u h5 h6
  cases r with
  | tmp t=>
   have ht:=hs.sl t;simp only [nh] at h;split at h
   case h_2=>cases h
   rename_i x l' hx h1
   cases h
   simp only [AS.get,hx,ur] at ht;exact fin x l' _ rfl h1 (by simp only [yH,Sem.run_pure]) ht
  | cell c t=>
   simp only [nh] at h;split at h
   case h_2=>cases h
   rename_i id k hc;split at h
   case h_2=>cases h
   rename_i cs i l' hob hi h1
   cases hia:i.k.isAgg
   ·rw [hia,cond_false] at h;split at h
    ·rename_i y hy
     cases h
     obtain ⟨v,h2,h3⟩:=wW good hs hc hob hi (.inr ⟨hia,hy⟩);exact fin y l' v rfl h1 h2 h3
    ·cases h
   ·rw [hia,cond_true] at h
    cases hb:Nat.ble (k+i.size) cs.length
    ·rw [hb,cond_false] at h; cases h
    ·rw [hb,cond_true] at h
     cases h
     obtain ⟨v,h2,h3⟩:=wW good hs hc hob hi (.inl ⟨hia,sm hb,rfl⟩);exact fin _ l' v rfl h1 h2 h3
theorem pm {P:Program}{tt:List (Nat×TI)}(good:cS P tt){n:Nat}{w0:Base}{w:World}{F:Nat->Prop}{g:Gh}{s:AS}{a:Act}(hs:St n w0 F g s a w)(fn:Func)(l:List AV)(h:nh tt fn.results.toList s=some l) :
  ∃ v,(results fn a.tmps).run P w=.ok v w/\ARep w g (qW l) v:=by
 obtain ⟨vs,h2,h3,h4⟩:=J6 good hs _ l h;refine ⟨if h:vs.length=1 then vs[0] else .tuple vs.toArray,?_,?_⟩
 ·rw [uY,Array.mapM_eq_mapM_toList];simp only [Sem.run_bind,Sem.run_map,h2,Result.andThen_ok,Sem.run_pure,List.size_toArray];congr 1
 ·by_cases e:vs.length=1
  ·rw [dif_pos e];obtain ⟨v,rfl⟩:=List.length_eq_one_iff.1 e;obtain ⟨x,rfl⟩:=List.length_eq_one_iff.1 (h3.symm.trans e);exact h4 0 x v Z Z
  ·rw [dif_neg e]
   have e2:qW l=.tuple l:=by
    match l,h3 with
    | [],_=>rfl
    | [x],h3=>exact absurd h3 e
    | x::y::r,_=>rfl
   rw [e2];exact .tuple (by simpa using h3) (λ i c v h5 h6=>h4 i c v h5 (by simpa using h6))
theorem LL {P:Program}{tt:List (Nat×TI)}(good:cS P tt){f:FuncId}{fn:Func}{c:Code}{args:List PV}{r:AV}(hf:P.funcs[f]? = some fn)(hb:fn.body=some c)(hn:Nat.ble args.length fn.ntmps=true)(hnl:Nat.ble fn.ntmps M1=true)
  (h:∀ w0,awp ⟨P,tt,good,fn.ntmps,hnl,w0,λ b=>b<w0.w.heap.size⟩ c (zY tt fn (λ x=>x.sub r)) ⟨rH args,[]⟩):bG P f args (·=r):=by
 refine bG.of_sub ?_;intro w st vs h0 h1 h2;refine calls_of_wp hf hb ?_;have hn:=sm hn
 have hs:St fn.ntmps ⟨w,st,λ _=>none,h0.gl,(λ _ _ h=>nomatch h),[]⟩ (λ b=>b<w.heap.size) ⟨st,λ _=>none⟩ ⟨rH args,[]⟩ { tmps:=vs++Array.replicate (fn.ntmps-vs.size) Go.undef,defers:=[] } w:=by
  refine ⟨rfl,?_,?_,?_,?_,?_,?_,?_,?_,rfl,rfl,rfl,bx _,λ b _ o=>Iff.rfl,λ _ _ _=>rfl,kC.refl _ _,λ i b _ h=>(by cases h),Ev.refl _ _⟩
  ·simp only [Array.size_append,Array.size_replicate]; omega
  ·intro i;have:=wb args 0 i;simp only [AS.get,rH,this,rg,if_true,Nat.sub_zero]
   cases ha:args[i]? with
   | none=>exact .undef _
   | some x=>
    have hi:i<args.length:=(List.getElem?_eq_some_iff.1 ha).1;have hi2:i<vs.size:=by omega
    have e:(vs++Array.replicate (fn.ntmps-vs.size) Go.undef).getD i Go.undef=vs[i]:=by
     simp [Array.getD_eq_getD_getElem?,Array.getElem?_append,hi2]
    simp only [Option.map_some,ur];rw [e];exact .p (h2 i x _ ha (Array.getElem?_eq_getElem hi2))
  ·intro id cs h; simp [look] at h
  ·intro i j b h; simp at h
  ·intro i b h; simp at h
  ·intro b o h; exact h0.lt b o h
  ·intro b h; exact h
  ·intro b h; rfl
 refine wp_mono (h ⟨w,st,λ _=>none,h0.gl,(λ _ _ h=>nomatch h),[]⟩ _ _ w hs) ?_;rintro e a' w' ⟨g',s',h3,he,l,hl,hR⟩;obtain ⟨v,hv,hr⟩:=pm good h3 fn l hl
 have fin:∃ v,(results fn a'.tmps).run P w'=.ok v w'/\∃ v1 r1 g',Ending.returned v=.returned v1/\r1.sub r/\ARep w' g' r1 v1/\After w st w' g':=by
  refine ⟨v,hv,v,_,g',Z,hR,hr,⟨h3.os,h3.out,h3.tape,h3.size,λ b hb=>h3.fr b hb,λ i b hi=>?_,h3.inj,h3.lt,h3.stf⟩⟩;have:=h3.own i b hi;exact ⟨Nat.le_of_not_lt this.2,this.1⟩
 rcases he with rfl|rfl
 ·exact ⟨h3.nd,fin⟩
 ·exact ⟨h3.nd,fin⟩
def yg (k d i:Nat):Option Nat:=bif Nat.beq i k then some d else bif Nat.beq i d then none else some i
def Lg (k d:Nat):List (Nat×AV)->Option (List (Nat×AV))
 | []=>some []
 | (i,x)::r=>match x.mapA (yg k d),Lg k d r with
  | some y,some q=>some ((i,y)::q)
  | _,_=>none
theorem wt {k d:Nat}:∀ {sl q:List (Nat×AV)},Lg k d sl=some q->∀ i,match look sl i,look q i with
  | some x,some y=>x.mapA (yg k d)=some y
  | none,none=>True
  | _,_=>False
 | [],q,h,i=>by simp only [Lg,bt] at h; subst h; simp [look]
 | (j,x)::r,q,h,i=>by
  simp only [Lg] at h;split at h
  ·rename_i y q' hy hq
   cases h
   have ih:=wt hq i;simp only [aZ];by_cases e:j=i
   ·simp [e,hy]
   ·simp only [if_neg e]; exact ih
  ·cases h
theorem Lp {k d:Nat}(_UK:k≠d):∀ i j x,yg k d i=some x->yg k d j=some x->i=j:=by
 intro i j x h1 h2;unfold yg at h1 h2;have hb:∀ {a b:Nat},Nat.beq a b=true->a=b:=la;have hf:∀ {a b:Nat},Nat.beq a b=false->a≠b:=λ h e=>by subst e; simp at h
 cases a1:Nat.beq i k <;> cases b1:Nat.beq j k <;> simp only [a1,b1,cond_true,cond_false] at h1 h2
 ·cases a2:Nat.beq i d <;> cases b2:Nat.beq j d <;> simp only [a2,b2,cond_true,cond_false,reduceCtorEq,bt] at h1 h2
  rw [h1,h2]
 ·cases a2:Nat.beq i d <;> simp only [a2,cond_true,cond_false,reduceCtorEq,bt] at h1 h2
  exact absurd (h1.trans h2.symm) (hf a2)
 ·cases b2:Nat.beq j d <;> simp only [b2,cond_true,cond_false,reduceCtorEq,bt] at h1 h2
  exact absurd (h2.trans h1.symm) (hf b2)
 ·rw [hb a1,hb b1]
theorem xa {m:Nat->Option Nat}(hinj:∀ i j x,m i=some x->m j=some x->i=j):∀ {l l':List (Nat×List AV)},il m l=some l'->∀ {j:Nat} {cs':List AV},look l' j=some cs'->∃ i cs,look l i=some cs/\m i=some j/\AV.mapA.go m cs=some cs'
 | [],l',h,j,cs',hc=>by simp only [il,bt] at h; subst h; simp [look] at hc
 | (i,ds)::r,l',h,j,cs',hc=>by
  simp only [il] at h;split at h
  ·rename_i j0 l0 q hj hgo hq
   cases h
   rw [aZ] at hc;by_cases e:j0=j
   ·rw [if_pos e] at hc
    cases hc; subst e
    exact ⟨i,ds,by simp [aZ],hj,hgo⟩
   ·rw [if_neg e] at hc;obtain ⟨i',cs,h1,h2,h3⟩:=xa hinj hq hc;refine ⟨i',cs,?_,h2,h3⟩;rw [aZ,if_neg]
    ·exact h1
    ·intro e2; subst e2;rw [hj] at h2; cases h2; exact e rfl
  ·cases h
theorem cb {C:Cx}{sl sl':List (Nat×AV)}{ob ob':List (Nat×List AV)}(k d:Nat)(hkd:Nat.beq k d=false)(hk:Nat.blt k M1=true)(hd:Nat.blt d M1=true)(hs':Lg k d sl=some sl')(ho':il (yg k d) ob=some ob'):cO C ⟨sl,ob⟩ ⟨sl',ob'⟩:=by
 intro g a w hs;have hk':k<M1:=py ▸ hk;have hd':d<M1:=py ▸ hd;have UK:k≠d:=λ e=>by subst e; simp at hkd
 let g':Gh:=⟨g.st,λ i=>if i=d then g.ow k else if i=k then none else g.ow i⟩
 have hm:∀ i j b,yg k d i=some j->g.ow i=some b->g'.ow j=some b:=by
  intro i j b h hb;unfold yg at h
  cases h1:Nat.beq i k
  ·rw [h1,cond_false] at h
   cases h2:Nat.beq i d
   ·rw [h2,cond_false] at h; cases h;have e1:i≠k:=λ e=>by subst e; simp at h1
    have e2:i≠d:=λ e=>by subst e; simp at h2
    simp only [g',if_neg e2,if_neg e1]; exact hb
   ·rw [h2,cond_true] at h; cases h
  ·rw [h1,cond_true] at h; cases h;have:=la h1;subst this;simp only [g',if_true]; exact hb
 refine ⟨g',hs.nd,hs.sz,λ i=>?_,λ id cs hc=>?_,λ i j b h1 h2=>?_,λ i b h=>?_,hs.lt,hs.fl,hs.fr,hs.os,hs.out,hs.tape,hs.size,hs.stf,λ i hi hz=>?_,hs.shf,hs.nst,hs.ev0⟩
 ·have h1:=wt hs' i;have h2:=hs.sl i;simp only [AS.get] at h2 ⊢
  cases e1:look sl i with
  | none=>
   rw [e1] at h1
   cases e2:look sl' i with
   | none=>exact .undef _
   | some y=>rw [e2] at h1; exact h1.elim
  | some x=>
   rw [e1] at h1 h2
   cases e2:look sl' i with
   | none=>exact .undef _
   | some y=>
    rw [e2] at h1;exact oN (g:=g) (g':=g') rfl hm (by simpa using h2) h1
 ·obtain ⟨i,ds,h1,h2,h3⟩:=xa (Lp UK) ho' hc
  exact pV (g:=g) (g':=g') Z hm (show il (yg k d) [(i,ds)]=some [(id,cs)] by simp only [il,h2,h3]) (λ p hp=>by
   simp only [List.mem_singleton] at hp;subst hp
   exact hs.ob i ds h1) (id,cs) G
 ·simp only [g'] at h1 h2;by_cases a1:i=d <;> by_cases b1:j=d
  ·rw [a1,b1]
  ·rw [if_pos a1] at h1;rw [if_neg b1] at h2;split at h2
   ·cases h2
   ·rename_i b2; exact absurd (hs.inj k j b h1 h2).symm b2
  ·rw [if_pos b1] at h2;rw [if_neg a1] at h1;split at h1
   ·cases h1
   ·rename_i b2; exact absurd (hs.inj i k b h1 h2) b2
  ·rw [if_neg a1] at h1; rw [if_neg b1] at h2;split at h1
   ·cases h1
   ·split at h2
    ·cases h2
    ·exact hs.inj i j b h1 h2
 ·simp only [g'] at h;split at h
  ·exact hs.own k b h
  ·split at h
   ·cases h
   ·exact hs.own i b h
 ·simp only [g'];rw [if_neg O,if_neg O]; exact hs.owf i hi hz
theorem Aa {C:Cx}{sl sl0:List (Nat×AV)}{D:Nat->Bool}{ob ob':List (Nat×List AV)}(h:mc D ob=ob'):cO C ⟨sl,(dG D ⟨sl0,ob⟩).ob⟩ ⟨sl,ob'⟩:=by
 have:(dG D ⟨sl0,ob⟩).ob=ob':=h;rw [this]; exact aU _
theorem mM {C:Cx}{sl sl0:List (Nat×AV)}{D:Nat->Bool}{ob ob':List (Nat×List AV)}{x:Nat×List AV}(h:mc D ob=ob'):cO C ⟨sl,x::(dG D ⟨sl0,ob⟩).ob⟩ ⟨sl,x::ob'⟩:=by
 have:(dG D ⟨sl0,ob⟩).ob=ob':=h;rw [this]; exact aU _
def vU:List PV->List PV->Prop|[],[]=>True|c::cs,d::ds=>(c=d\/(c=.val (.slice none 0 0)/\d=.slice []))/\vU cs ds|_,_=>False
theorem qE {w:World}{st:Nat->Nat->Prop}:∀ {cs ds:List PV},vU cs ds->cs.length=ds.length/\∀ (i:Nat) c d v,cs[i]? = some c->ds[i]? = some d->PRep w st c v->PRep w st d v
 | [],[],_=>⟨Z,by simp⟩
 | [],_::_,h=>h.elim
 | _::_,[],h=>h.elim
 | c::cs,d::ds,h=>by
  obtain ⟨h1,h2⟩:=qE (w:=w) (st:=st) h.2;refine ⟨by simp [h1],λ i c' d' v hc hd hv=>?_⟩
  cases i with
  | zero=>
   simp only [List.getElem?_cons_zero,bt] at hc hd;subst hc hd;rcases h.1 with e|⟨e1,e2⟩
   ·rw [<- e]; exact hv
   ·rw [e1] at hv; rw [e2]; cases hv; exact .nils
  | succ i=>simp only [List.getElem?_cons_succ] at hc hd; exact h2 i c' d' v hc hd hv
theorem lh {cs ds:List PV}(h:vU cs ds):(AV.p (.agg cs)).sub (.p (.agg ds)):=by
 intro w g v hv;obtain ⟨h1,h2⟩:=qE (w:=w) (st:=g.st) h
 cases hv with
 | p hv=>
  cases hv with
  | agg hl hh=>
   refine .p (.agg (hl.trans h1) λ i d u hd hu=>?_);have hi:i<cs.length:=by have:=(List.getElem?_eq_some_iff.1 hd).1; omega
   exact h2 i cs[i] d u (List.getElem?_eq_getElem hi) hd (hh i _ u (List.getElem?_eq_getElem hi) hu)
theorem Kh {cs:List AV}{ds:List PV}(h:qG cs (ds.map .p)):(AV.agg cs).sub (.p (.agg ds)):=by
 intro w g v hv;obtain ⟨h1,h2⟩:=pp h
 cases hv with
 | agg hl hh=>
  refine .p (.agg (by rw [hl,h1,th]) λ i d u hd hu=>?_);have hi:i<cs.length:=by have:=(List.getElem?_eq_some_iff.1 hd).1; simp at h1; omega
  have:=h2 i cs[i] (.p d) (List.getElem?_eq_getElem hi) (by simp [hd]) w g u (hh i _ u (List.getElem?_eq_getElem hi) hu);exact xy
section
variable {C:Cx} {o:Oper} {K:AS->Prop} {sl:List (Nat×AV)} {ob:List (Nat×List AV)} {d:Nat}
theorem aK {α:Type}(f:α->PV)(l:List α){t e len:Nat}{parts:Array (Nat×Operand)}{i ie:TI}{es:List PV}(ho:o.op=.buildSlice t len parts)(hd:o.dst=some d)(hn:Nat.blt d C.n=true)
  (hi:look C.tt t=some i) (UA:i.k=.slice e) (hie:look C.tt e=some ie) (hes:om sl 0 parts.toList=some es) (M':Nat.beq es.length len=true) (hpos:Nat.blt 0 len=true)
  (hk:Nat.blt 0 ie.size=true) (hsm:Nat.ble (len*ie.size) 16777216=true) (Ul:tg ie.size es=true) (hzl:Nat.beq ie.zero.length ie.size=true) (he:es=l.map f)
  (hK:K ⟨(d,.p (eL f l))::sl,ob⟩):bc C o K ⟨sl,ob⟩ :=
 we ho hd hn hi UA hie hes M' hpos hk hsm Ul hzl (by rw [he]; exact hK)
theorem Ek {α:Type}(f:α->PV)(l:List α)(ty:Nat){t tx e e':TypeId}{x y:Operand}{Y0z:AV}{i ie j:TI}(ho:o.op=.call { callee:=.builtin .append,args:=#[x,y],argTypes:=#[t,tx] })(hd:o.dst=some d)(hn:Nat.blt d C.n=true)
  (hi:look C.tt t=some i) (UA:i.k=.slice e) (hie:look C.tt e=some ie) (hj:look C.tt tx=some j) (hjk:j.k=.slice e') (hx:evo sl x=some (.p (.val (.slice none 0 0))))
  (hy:evo sl y=some Y0z) (hY:Y0z.elems? = some (l.map f)) (Ul:∀ x,(f x).cells.length=ie.size) (h0:Nat.blt 0 ie.size=true) (hzl:Nat.beq ie.zero.length ie.size=true) (hby:Nat.blt 0 ie.bytes=true)
  (hty:(Nat.beq ty 0||Nat.beq ty (e+1))=true) (M':l.length*ie.bytes<=140737488355328)
  (hK:K ⟨(d,.vec d ie.size ty (l.map f))::(dG (λ i=>Nat.beq i d) ⟨sl,ob⟩).sl,(dG (λ i=>Nat.beq i d) ⟨sl,ob⟩).ob⟩):bc C o K ⟨sl,ob⟩:=by
 have hby':1<=ie.bytes:=Nat.succ_le_of_lt (by simpa using hby);have h1:l.length*1<=l.length*ie.bytes:=Nat.mul_le_mul_left _ hby';exact CE ty ho hd hn hi UA hie hj hjk hx hy hY (λ y hy=>by obtain ⟨x,_,rfl⟩:=List.mem_map.1 hy; exact Ul x) h0 hzl (by rw [th]; exact M') (by rw [th]; omega) hty hK
theorem ef {α:Type}(f:α->PV)(l0 l:List α){t tx e e':TypeId}{x y:Operand}{k sz ty:Nat}{Y0z:AV}{i ie j:TI}(ho:o.op=.call { callee:=.builtin .append,args:=#[x,y],argTypes:=#[t,tx] })(hd:o.dst=some d)(hn:Nat.blt d C.n=true)
  (hi:look C.tt t=some i) (UA:i.k=.slice e) (hie:look C.tt e=some ie) (hj:look C.tt tx=some j) (hjk:j.k=.slice e') (hx:evo sl x=some (.vec k sz ty (l0.map f))) (hk:Nat.blt k M1=true) (hiz:ie.size=sz)
  (hy:evo sl y=some Y0z) (hY:Y0z.elems? = some (l.map f)) (Ul:∀ x,(f x).cells.length=ie.size) (h0:Nat.blt 0 ie.size=true) (hzl:Nat.beq ie.zero.length ie.size=true) (hby:Nat.blt 0 ie.bytes=true)
  (hty:(Nat.beq ty 0||Nat.beq ty (e+1))=true) (M':(l0.length+l.length)*ie.bytes<=140737488355328)
  (hK:K ⟨(d,.vec d sz ty ((l0++l).map f))::(dG (λ i=>Nat.beq i k||Nat.beq i d) ⟨sl,ob⟩).sl,(dG (λ i=>Nat.beq i k||Nat.beq i d) ⟨sl,ob⟩).ob⟩):bc C o K ⟨sl,ob⟩:=by
 have hby':1<=ie.bytes:=Nat.succ_le_of_lt (by simpa using hby);have h1:(l0.length+l.length)*1<=(l0.length+l.length)*ie.bytes:=Nat.mul_le_mul_left _ hby'
 exact Dj ho hd hn hi UA hie hj hjk hx hk hiz hy hY (λ y hy=>by obtain ⟨x,_,rfl⟩:=List.mem_map.1 hy; exact Ul x) h0 hzl (by rw [th,th]; exact M') (by rw [th,th]; omega) hty
  (by rw [<- List.map_append]; exact hK)
end
variable {p:Prop}
theorem xJ (h:p:=by
 subst this;have h5:=(hsplit _ hq).2
 rw [hvD _ _ p1] at h5; cases h5):p:=h
theorem Cg (h:p:=by rw [<- Array.toList_map]; simpa using hv):p:=h
def V1:Nat:=900000
def wC (tt:List (Nat×TI))(fn:Func)(ts ids:List Nat)(R:AV->List (Nat×List AV)->Prop)(e:Exit)(s:AS):Prop :=(e=.normal\/e=.ret)/\∃ l r Uz obs',nh tt fn.results.toList s=some l/\(qW l).mapA (nC ts)=some r/\iA s.ob ids=some Uz/\il (nC ts) Uz=some obs'/\R r obs'
theorem Kw {tt:List (Nat×TI)}{fn:Func}{ts ids:List Nat}{R:AV->List (Nat×List AV)->Prop}{s:AS}{l:List AV}{r:AV}{Uz obs':List (Nat×List AV)}(h1:nh tt fn.results.toList s=some l)(h2:(qW l).mapA (nC ts)=some r)
  (h3:iA s.ob ids=some Uz) (h4:il (nC ts) Uz=some obs') (h5:R r obs'):wC tt fn ts ids R .ret s:=⟨.inr Z,l,r,Uz,obs',h1,h2,h3,h4,h5⟩
theorem G1 {tt:List (Nat×TI)}{fn:Func}{ts ids:List Nat}{R:AV->List (Nat×List AV)->Prop}{s:AS}{l:List AV}{r:AV}{Uz obs':List (Nat×List AV)}(h1:nh tt fn.results.toList s=some l)(h2:(qW l).mapA (nC ts)=some r)
  (h3:iA s.ob ids=some Uz) (h4:il (nC ts) Uz=some obs') (h5:R r obs'):wC tt fn ts ids R .normal s:=⟨.inl Z,l,r,Uz,obs',h1,h2,h3,h4,h5⟩
theorem yP (ts ids:List Nat)(hts:ts.all (λ i=>Nat.blt i M1)=true)(hnd:nodupB ts=true){n:Nat}{w w':World}{g g1:Gh}{df:List Deferred}{gl:ni w g.st}{lo:∀ i b,g.ow i=some b->i<MZ}{s':AS}{a':Act}
  (hown:∀ i b,g.ow i=some b->b<w.heap.size/\i<2*M1) (h3:St n ⟨w,g.st,g.ow,gl,lo,df⟩ (λ b=>b<w.heap.size/\∀ i,g.ow i≠some b) g1 s' a' w') {x r:AV} {v:Value} {obs1 obs':List (Nat×List AV)}
  (hvr:ARep w' g1 x v) (hr:x.mapA (nC ts)=some r) (hp:iA s'.ob ids=some obs1) (hm:il (nC ts) obs1=some obs'):∃ g',ARep w' g' r v/\(∀ p∈obs',jq w' g' p.1 p.2)/\oy w g w' g':=by
 have hown3:∀ i b,M1<=i->i<MZ->g1.ow i=some b->i<2*M1:=by
  intro i b hi hz hb;rw [h3.owf i hi hz] at hb
  grind
 have hmap:∀ i j b,nC ts i=some j->g1.ow i=some b->(if 2*M1<=j then (ts[j-2*M1]?).bind g1.ow else if M1<=j then g1.ow j else none)=some b:=by
  intro i j b hij hb;unfold nC at hij
  cases hle:Nat.ble M1 i
  ·rw [hle] at hij;simp only [cond_false] at hij;split at hij
   ·rename_i k hk
    cases hij
    rw [if_pos O,Nat.add_sub_cancel_left,kO hk];exact hb
   grind
  grind [Nat.le_of_ble_eq_true,Nat.blt_eq]
 have hts':∀ (k t:Nat),ts[k]? = some t->t<M1:=by
  intro k t hk;have:=ph.1 hts t (List.mem_of_getElem? hk)
  simp_all
 have inv:∀ j b,(if 2*M1<=j then (ts[j-2*M1]?).bind g1.ow else if M1<=j then g1.ow j else none)=some b ->
   (∃ t,ts[j-2*M1]? = some t/\2*M1<=j/\g1.ow t=some b)\/(M1<=j/\j<2*M1/\g1.ow j=some b):=by
  grind
 have hst0:(⟨g1.st,λ j=>if 2*M1<=j then (ts[j-2*M1]?).bind g1.ow else if M1<=j then g1.ow j else none⟩:Gh).st=g1.st:=rfl;refine ⟨⟨g1.st,λ j=>if 2*M1<=j then (ts[j-2*M1]?).bind g1.ow else if M1<=j then g1.ow j else none⟩,oN hst0 hmap hvr hr,pV hst0 hmap hm (λ p hp'=>h3.ob p.1 p.2 (sf hp p hp')),?_⟩;refine ⟨h3.os,h3.out,h3.tape,h3.size,λ b hb hno=>h3.fr b ⟨hb,hno⟩,λ i b hi=>?_,λ i j b hi hj=>?_,h3.lt,λ b hb hno=>h3.stf b ⟨hb,hno⟩,λ i h1 h2=>?_,h3.shf,h3.nst,h3.ev0⟩
 ·have key:∀ t,g1.ow t=some b->b<w'.heap.size/\(w.heap.size<=b\/∃ j,g.ow j=some b):=by
   intro t ht;obtain ⟨k1,k2⟩:=h3.own t b ht
   grind
  grind
 ·rcases inv i b hi with ⟨t,a1,a2,a3⟩|⟨a1,a2,a3⟩ <;> rcases inv j b hj with ⟨u,b1,b2,b3⟩|⟨b1,b2,b3⟩
  ·have:=h3.inj t u b a3 b3
   grind [jp]
  ·have:=h3.inj t j b a3 b3
   grind
  ·have:=h3.inj i u b a3 b3
   grind
  ·exact h3.inj i j b a3 b3
 ·dsimp only;rw [if_neg O,if_pos h1];exact h3.owf i h1 (Nat.lt_of_lt_of_le h2 AB)
theorem rJ {P:Program}{tt:List (Nat×TI)}(good:cS P tt){fn:Func}{c:Code}{args:List AV}{Uz:List (Nat×List AV)}{R:AV->List (Nat×List AV)->Prop}(ts ids:List Nat)(hn:args.length<=fn.ntmps)(hnl:Nat.ble fn.ntmps M1=true)(hts:ts.all (λ i=>Nat.blt i M1)=true)(hnd:nodupB ts=true)
  (h:∀ w0 F,awp ⟨P,tt,good,fn.ntmps,hnl,w0,F⟩ c (wC tt fn ts ids R) ⟨iu args,Uz⟩) {w:World} {g:Gh} {vs:Array Value} (hlt:Ok0 w g.st) (hown:∀ i b,g.ow i=some b->b<w.heap.size/\i<2*M1)
  (hinj:∀ i j b,g.ow i=some b->g.ow j=some b->i=j) (hnst:∀ i b,M1<=i->g.ow i=some b->∀ o,¬ g.st b o) (h1:vs.size=args.length)
  (h2:∀ (i:Nat) c v,args[i]? = some c->vs[i]? = some v->ARep w g c v) (hobs:∀ id cs,look Uz id=some cs->jq w g id cs) :
  c.wp P (bodyPost P fn λ e w'=>∃ v r obs' g',e=.returned v/\R r obs'/\ARep w' g' r v/\(∀ p∈obs',jq w' g' p.1 p.2)/\oy w g w' g') { tmps:=vs++Array.replicate (fn.ntmps-vs.size) Go.undef,defers:=[] } w:=by
 have hs:St fn.ntmps ⟨w,g.st,g.ow,hlt.gl,(λ i b h=>Nat.lt_of_lt_of_le (hown i b h).2 AB),[]⟩ (λ b=>b<w.heap.size/\∀ i,g.ow i≠some b) g ⟨iu args,Uz⟩ { tmps:=vs++Array.replicate (fn.ntmps-vs.size) Go.undef,defers:=[] } w:=by
  refine ⟨Z,?_,?_,hobs,hinj,?_,hlt.lt,?_,?_,Z,Z,Z,bx _,λ b _ o=>Iff.rfl,λ _ _ _=>rfl,kC.refl _ _,λ i b hi h=>hnst i b hi h,Ev.refl _ _⟩
  ·grind
  ·intro i;have:=pU args 0 i;simp only [AS.get,iu,this,rg,if_true,Nat.sub_zero]
   cases ha:args[i]? with
   | none=>exact .undef _
   | some x=>
    have hi:i<args.length:=(List.getElem?_eq_some_iff.1 ha).1;have hi2:i<vs.size:=by omega
    have e:(vs++Array.replicate (fn.ntmps-vs.size) Go.undef).getD i Go.undef=vs[i]:=by
     simp_all [Array.getElem?_append]
    simp only [ur];rw [e];exact h2 i x _ ha (Array.getElem?_eq_getElem hi2)
  ·grind
  ·grind
  grind
 refine wp_mono (h ⟨w,g.st,g.ow,hlt.gl,(by grind),[]⟩ _ g _ w hs) ?_;rintro e a' w' ⟨g1,s',h3,he,l,r,obs1,obs',hl,hr,hp,hm,hR⟩;obtain ⟨v,hv,hvr⟩:=pm good h3 fn l hl;obtain ⟨g',e1,e2,e3⟩:=yP ts ids hts hnd hown h3 hvr hr hp hm;rcases he with rfl|rfl
 ·exact ⟨h3.nd,v,hv,v,r,obs',g',Z,hR,e1,e2,e3⟩
 ·exact ⟨h3.nd,v,hv,v,r,obs',g',Z,hR,e1,e2,e3⟩
theorem tW {P:Program}{tt:List (Nat×TI)}(good:cS P tt){f:FuncId}{fn:Func}{c:Code}{args:List AV}{Uz:List (Nat×List AV)}{R:AV->List (Nat×List AV)->Prop}(ts ids:List Nat)(hf:P.funcs[f]? = some fn)(hb:fn.body=some c)
  (hn:args.length<=fn.ntmps) (hnl:Nat.ble fn.ntmps M1=true) (hts:ts.all (λ i=>Nat.blt i M1)=true) (hnd:nodupB ts=true)
  (h:∀ w0 F,awp ⟨P,tt,good,fn.ntmps,hnl,w0,F⟩ c (wC tt fn ts ids R) ⟨iu args,Uz⟩):co P f args Uz R:=λ _ _ _ k1 k2 k3 k4 k5 k6 k7=>calls_of_wp hf hb (rJ good ts ids hn hnl hts hnd h k1 k2 k3 k4 k5 k6 k7)
theorem qe {w:World}{g:Gh}{id:Nat}{cs ds:List AV}(h:jq w g id ds)(hs:CN cs ds):jq w g id cs:=by
 obtain ⟨k1,k2⟩:=mL hs;obtain ⟨b,c,e,n1,n2,n3,n4,n5⟩:=h;refine ⟨b,c,e,n1,n2,by omega,n4,λ i x hx=>?_⟩;have hi:i<ds.length:=by grind
 obtain ⟨v,hv,hr⟩:=n5 i ds[i] (List.getElem?_eq_getElem hi);exact ⟨v,hv,k2 i x _ hx (List.getElem?_eq_getElem hi) _ _ _ hr⟩
theorem uf {s:List (Nat×List AV)}:∀ {t:List (Nat×List AV)},leO s t->∀ p∈t,∃ ds,look s p.1=some ds/\CN p.2 ds
 | [],_,p,hp=>by simp at hp
 | (j,cs)::r,h,p,hp=>by
  rcases ro.1 hp with rfl|hp
  ·exact h.1
  ·exact uf h.2 p hp
theorem co.of_sub {P:Program}{f:FuncId}{args:List AV}{Uz rob:List (Nat×List AV)}{r:AV}(h:co P f args Uz (λ x y=>x.sub r/\leO y rob)):co P f args Uz (λ x y=>x=r/\y=rob) :=
 λ w g vs h1 h2 h3 h4 h5 h6 h7=>(h w g vs h1 h2 h3 h4 h5 h6 h7).mono λ e w' ⟨v,x,obs',g',k1,⟨k2,k3⟩,k4,k5,k6⟩=>
  ⟨v,r,rob,g',k1,⟨Z,Z⟩,k2 _ _ _ k4,λ p hp=>by
   obtain ⟨ds,m1,m2⟩:=uf k3 p hp
   exact qe (k5 (p.1,ds) (ig m1)) m2,k6⟩
theorem Rq {P:Program}{tt:List (Nat×TI)}(good:cS P tt){f:FuncId}{fn:Func}{c:Code}{args:List AV}{Uz rob:List (Nat×List AV)}{r:AV}(ts ids:List Nat)(hf:P.funcs[f]? = some fn)(hb:fn.body=some c)
  (hn:Nat.ble args.length fn.ntmps=true) (hnl:Nat.ble fn.ntmps M1=true) (hts:ts.all (λ i=>Nat.blt i M1)=true) (hnd:nodupB ts=true)
  (h:∀ w0 F,awp ⟨P,tt,good,fn.ntmps,hnl,w0,F⟩ c (wC tt fn ts ids (λ x y=>x.sub r/\leO y rob)) ⟨iu args,Uz⟩):co P f args Uz (λ x y=>x=r/\y=rob) :=
 co.of_sub (tW good ts ids hf hb (sm hn) hnl hts hnd h)
def kZ (ids Ug:List Nat)(i:Nat):Option Nat:=match ids.findIdx? (Nat.beq i) with
 | some k=>some (M1+k)
 | none=>match Ug.findIdx? (Nat.beq i) with
  | some k=>some (V1+k)
  | none=>none
def wl (NB NE i:Nat):Bool:=Nat.ble NB i&&Nat.blt i NE
def cp (Ug:List Nat)(NB NE i:Nat):Bool:=wl NB NE i||Ug.any (Nat.beq i)
section
variable {C:Cx} {o:Oper} {K:AS->Prop} {sl:List (Nat×AV)} {ob:List (Nat×List AV)} {d:Nat}
theorem qK (ids Ug:List Nat)(NB NE:Nat){l l' q:List AV}{Uz obs0 qo:List (Nat×List AV)}(hl':AV.mapA.go (kZ ids Ug) l=some l')(hq:qG l' q)(hpk:iA ob ids=some Uz)(hmo:il (kZ ids Ug) Uz=some obs0)(hqo:leO obs0 qo)
  (hnd:nodupB ids=true) (hids:ids.all (λ i=>Nat.blt i (2*M1))=true) (hil:Nat.ble ids.length M1=true) (hdl:Nat.ble NE M1=true) (hdis:ids.all (λ i=>!(cp Ug NB NE i))=true)
  (hvd:nodupB Ug=true) (hvl:Ug.all (λ i=>Nat.blt i M1)=true) (hvn:Nat.ble Ug.length 100000=true)
  {g:Gh} {a:Act} {w:World} (hs:St C.n C.w0 C.F g ⟨sl,ob⟩ a w) {avs:Array Value} (a1:avs.size=l.length) (a2:∀ (i:Nat) c v,l[i]? = some c->avs[i]? = some v->ARep w g c v) :
  ∃ gc:Gh,(Ok0 w gc.st/\(∀ i b,gc.ow i=some b->b<w.heap.size/\i<2*M1)/\(∀ i j b,gc.ow i=some b->gc.ow j=some b->i=j)/\(∀ i b,M1<=i->gc.ow i=some b->∀ o,¬ gc.st b o)/\avs.size=q.length /\
   (∀ (i:Nat) c v,q[i]? = some c->avs[i]? = some v->ARep w gc c v)/\(∀ id cs,look qo id=some cs->jq w gc id cs)) /\
   ∀ (w':World) (v:Value) (r r':AV) (obs' ob':List (Nat×List AV)) (g':Gh),ARep w' g' r v->(∀ p∈obs',jq w' g' p.1 p.2)->oy w gc w' g'->r.mapA (kM ids NB NE)=some r'->il (kM ids NB NE) obs'=some ob' ->
    ∃ g2,St C.n C.w0 C.F g2 ⟨(dG (cp Ug NB NE) ⟨sl,ob⟩).sl,ob'++(dG (cp Ug NB NE) ⟨sl,ob.filter λ p=>!(ids.any (Nat.beq p.1))⟩).ob⟩ a w'/\ARep w' g2 r' v:=by
 have hidl:∀ (k i:Nat),ids[k]? = some i->i<2*M1:=λ k i h=>by
  have:=ph.1 hids i (List.mem_of_getElem? h);exact py ▸ this
 have hvll:∀ (k i:Nat),Ug[k]? = some i->i<M1:=λ k i h=>by
  have:=ph.1 hvl i (List.mem_of_getElem? h);exact py ▸ this
 have hidD:∀ (k i:Nat),ids[k]? = some i->cp Ug NB NE i=false:=λ k i h=>by
  have:=ph.1 hdis i (List.mem_of_getElem? h);simpa only [Bool.not_eq_true'] using this
 have hDn:∀ i,wl NB NE i=true->NB<=i/\i<NE:=λ i h=>by
  unfold wl at h;simp only [n8] at h;exact ⟨sm h.1,py ▸ h.2⟩
 have hDv:∀ i,Ug.any (Nat.beq i)=true->∃ k,Ug[k]? = some i:=λ i h=>by
  obtain ⟨x,hx,he⟩:=List.any_eq_true.1 h;have:=la he;subst this;exact List.mem_iff_getElem?.1 hx
 have hvD:∀ (k i:Nat),Ug[k]? = some i->Ug.any (Nat.beq i)=true:=λ k i h=>List.any_eq_true.2 ⟨i,List.mem_of_getElem? h,by simp⟩
 have hsplit:∀ i,cp Ug NB NE i=false->wl NB NE i=false/\Ug.any (Nat.beq i)=false:=λ i h=>by
  unfold cp at h;simpa only [Bool.or_eq_false_iff] using h
 have hdl':=sm hdl;have hil':=sm hil;have hvn':=sm hvn;have hV1:V1+100000=M1:=rfl;obtain ⟨gc,hgc⟩:∃ gc:Gh,gc=⟨g.st,λ j=>if M1<=j then (ids[j-M1]?).bind g.ow else if V1<=j then (Ug[j-V1]?).bind g.ow else none⟩:=⟨_,rfl⟩
 have hgst:gc.st=g.st:=by rw [hgc]
 have gcinv:∀ j b,gc.ow j=some b->∃ i,g.ow i=some b/\((ids[j-M1]? = some i/\M1<=j/\j<2*M1)\/(Ug[j-V1]? = some i/\V1<=j/\j<M1)):=by
  intro j b h;rw [hgc] at h;dsimp only at h;by_cases e:M1<=j
  ·rw [if_pos e] at h;obtain ⟨i,h1,h2⟩:=Option.bind_eq_some_iff.1 h;have:=(List.getElem?_eq_some_iff.1 h1).1;exact ⟨i,h2,.inl ⟨h1,e,by omega⟩⟩
  ·rw [if_neg e] at h;by_cases e2:V1<=j
   ·rw [if_pos e2] at h;obtain ⟨i,h1,h2⟩:=Option.bind_eq_some_iff.1 h;exact ⟨i,h2,.inr ⟨h1,e2,by omega⟩⟩
   ·rw [if_neg e2] at h; cases h
 have hpm:∀ i j b,kZ ids Ug i=some j->g.ow i=some b->gc.ow j=some b:=by
  intro i j b h hb;unfold kZ at h;split at h
  ·rename_i k hk
   cases h
   rw [hgc];dsimp only;rw [if_pos O,Nat.add_sub_cancel_left,kO hk];exact hb
  ·split at h
   ·rename_i k hk
    cases h
    have hkl:=(List.getElem?_eq_some_iff.1 (kO hk)).1;rw [hgc];dsimp only;rw [if_neg O,if_pos O,Nat.add_sub_cancel_left,kO hk];exact hb
   ·cases h
 have hidob:∀ (k i:Nat),ids[k]? = some i->∃ cs,look ob i=some cs:=by
  have:∀ (ids:List Nat) (Uz:List (Nat×List AV)),iA ob ids=some Uz->∀ (k i:Nat),ids[k]? = some i->∃ cs,look ob i=some cs:=by
   intro ids
   induction ids with
   | nil=>intro Uz _ k i h; simp at h
   | cons x r ih=>
    intro Uz h k i hk;simp only [iA] at h;split at h
    ·rename_i cs l0 h1 h2
     cases k with
     | zero=>simp only [List.getElem?_cons_zero,bt] at hk; subst hk; exact ⟨cs,h1⟩
     | succ k=>simp only [List.getElem?_cons_succ] at hk; exact ih l0 h2 k i hk
    ·cases h
  exact this ids Uz hpk
 have hnst:∀ j b,M1<=j->gc.ow j=some b->∀ o,¬ g.st b o:=by
  intro j b hj h o ho;obtain ⟨i,h4,⟨h1,_,_⟩|⟨_,_,h3⟩⟩:=gcinv j b h
  ·obtain ⟨cs,Uw⟩:=hidob _ i h1;obtain ⟨b',c,e,k1,_,_,k4,_⟩:=hs.ob i cs Uw;rw [h4] at k1; cases k1;exact k4 o ho
  ·omega
 obtain ⟨m1,m2⟩:=uk hl';obtain ⟨b1,b2⟩:=pp hq
 have hargs:∀ (i:Nat) c v,q[i]? = some c->avs[i]? = some v->ARep w gc c v:=by
  intro i c v hc hv;have hi':i<l'.length:=by have:=(List.getElem?_eq_some_iff.1 hc).1; omega
  have hi:i<l.length:=by omega
  have h1:=a2 i _ v (List.getElem?_eq_getElem hi) hv;have h2:=oN hgst hpm h1 (m2 i _ _ (List.getElem?_eq_getElem hi) (List.getElem?_eq_getElem hi'));exact b2 i _ c (List.getElem?_eq_getElem hi') hc w gc v h2
 have hobs0:=pV hgst hpm hmo (λ p hp=>hs.ob p.1 p.2 (sf hpk p hp))
 have hqo':∀ id cs,look qo id=some cs->jq w gc id cs:=by
  intro id cs h;obtain ⟨ds,h1,h2⟩:=uP hqo id cs h;exact qe (hobs0 (id,ds) (ig h1)) h2
 have hpre:∀ {Z0z:Prop},(Ok0 w gc.st->(∀ i b,gc.ow i=some b->b<w.heap.size/\i<2*M1)->(∀ i j b,gc.ow i=some b->gc.ow j=some b->i=j)->(∀ i b,M1<=i->gc.ow i=some b->∀ o,¬ gc.st b o)->avs.size=q.length->(∀ (i:Nat) c v,q[i]? = some c->avs[i]? = some v->ARep w gc c v)->(∀ id cs,look qo id=some cs->jq w gc id cs)->Z0z)->Z0z:=λ k=>k (by rw [hgst]; exact hs.ok0) (λ j b h=>by
   obtain ⟨i,h4,⟨_,_,h3⟩|⟨_,_,h3⟩⟩:=gcinv j b h
   ·exact ⟨(hs.own i b h4).1,h3⟩
   ·exact ⟨(hs.own i b h4).1,by omega⟩) (λ i j b h1 h2=>by
   obtain ⟨i',p3,p⟩:=gcinv i b h1;obtain ⟨j',q3,q⟩:=gcinv j b h2;have:=hs.inj i' j' b p3 q3;subst this;rcases p with ⟨p1,p2,_⟩|⟨p1,p2,p4⟩ <;> rcases q with ⟨q1,q2,_⟩|⟨q1,q2,q4⟩
   ·have:=jp hnd _ _ _ p1 q1; omega
   ·have h5:=(hsplit _ (hidD _ _ p1)).2;rw [hvD _ _ q1] at h5; cases h5
   ·have h5:=(hsplit _ (hidD _ _ q1)).2;rw [hvD _ _ p1] at h5; cases h5
   ·have:=jp hvd _ _ _ p1 q1; omega) (λ j b hj h=>by rw [hgst]; exact hnst j b hj h) (a1.trans (m1.trans b1)) hargs hqo'
 refine ⟨gc,hpre λ k1 k2 k3 k4 k5 k6 k7=>⟨k1,k2,k3,k4,k5,k6,k7⟩,λ w' v r r' obs' ob' g' hr hob' hA hr' hmo'=>?_⟩
 have nogc:∀ i b,(∀ (k:Nat),ids[k]?≠some i)->(∀ (k:Nat),Ug[k]?≠some i)->g.ow i=some b->∀ j,gc.ow j≠some b:=by
  intro i b hi hv hb j hj;obtain ⟨i',p3,p⟩:=gcinv j b hj;have:=hs.inj i i' b hb p3;subst this;rcases p with ⟨p1,_⟩|⟨p1,_⟩
  ·exact hi _ p1
  ·exact hv _ p1
 obtain ⟨g2,hg2⟩:∃ g2:Gh,g2=⟨g'.st,λ i=>if wl NB NE i=true then g'.ow (2*M1+(i-NB)) else if Ug.any (Nat.beq i)=true then none else g.ow i⟩:=⟨_,rfl⟩
 have hg2st:g2.st=g'.st:=by rw [hg2]
 have g2old:∀ i,cp Ug NB NE i=false->g2.ow i=g.ow i:=λ i h=>by
  obtain ⟨h1,h2⟩:=hsplit i h;rw [hg2]; simp only [h1,h2,Bool.false_eq_true,if_false]
 have g2new:∀ i,wl NB NE i=true->g2.ow i=g'.ow (2*M1+(i-NB)):=λ i h=>by rw [hg2]; simp only [h,if_true]
 have g2cases:∀ i b,g2.ow i=some b->(wl NB NE i=true/\g'.ow (2*M1+(i-NB))=some b)\/(cp Ug NB NE i=false/\g.ow i=some b):=by
  intro i b h
  cases h1:wl NB NE i
  ·cases h2:Ug.any (Nat.beq i)
   ·have h3:cp Ug NB NE i=false:=by unfold cp; rw [h1,h2]; rfl
    exact .inr ⟨h3,by rw [<- g2old i h3]; exact h⟩
   ·rw [hg2] at h; simp only [h1,h2,Bool.false_eq_true,if_false,if_true] at h; cases h
  ·exact .inl ⟨Z,by rw [<- g2new i h1]; exact h⟩
 have hDM:∀ i,M1<=i->cp Ug NB NE i=false:=λ i hi=>by
  cases hq:cp Ug NB NE i
  ·rfl
  ·unfold cp at hq;simp only [Bool.or_eq_true] at hq;rcases hq with hq|hq
   ·exact absurd (Nat.lt_of_lt_of_le (Nat.lt_of_lt_of_le (hDn i hq).2 hdl') hi) (Nat.lt_irrefl _)
   ·obtain ⟨k,hk⟩:=hDv i hq;exact absurd (Nat.lt_of_lt_of_le (hvll k i hk) hi) (Nat.lt_irrefl _)
 have hbm:∀ j i b,kM ids NB NE j=some i->g'.ow j=some b->g2.ow i=some b:=by
  intro j i b h hb;rcases Bg h with ⟨k,rfl,rfl,h4⟩|⟨h3,h4,h5⟩
  ·rw [g2new (NB+k) (by
    unfold wl;simp only [n8]
    exact ⟨Nat.ble_eq_true_of_le (Nat.le_add_right _ _),by rw [py]; exact h4⟩),Nat.add_sub_cancel_left]
   exact hb
  ·rw [g2old i (hidD _ i h5)];rw [hA.owf j h3 h4] at hb;obtain ⟨i',p3,⟨p1,_,_⟩|⟨_,_,p5⟩⟩:=gcinv j b hb
   ·rw [h5] at p1; cases p1;exact p3
   ·omega
 have hE:EvO (cp Ug NB NE) w g w' g2:=by
  refine ⟨by rw [hg2st]; have:=hA.ev; rw [hgst] at this; exact this,λ id b hq h=>by rw [g2old id hq]; exact h,λ id b c e hq h0 h=>?shape,λ id b o hq h ho=>?_,λ id b es k hq h0 h=>?mpc,λ i hi=>hDM i (Eh hi),λ id b o hq h0 ho=>?stb⟩
  case stb=>
   have hlt:=(hs.own id b h0).1;by_cases hno:∃ j,gc.ow j=some b
   ·obtain ⟨j,hj⟩:=hno;obtain ⟨i',p3,⟨p1,_,_⟩|⟨p1,_,_⟩⟩:=gcinv j b hj
    ·obtain ⟨cs,Uw⟩:=hidob _ i' p1;obtain ⟨b',c,e,k1,k2,_,k4,_⟩:=hs.ob i' cs Uw;rw [p3] at k1; cases k1;exact absurd ho (k4 o)
    ·have:=hs.inj id i' b h0 p3;exact xJ
   ·exact hA.fr b hlt (λ j hj=>hno ⟨j,hj⟩)
  case mpc=>
   have hlt:=(hs.own id b h0).1;by_cases hno:∃ j,gc.ow j=some b
   ·obtain ⟨j,hj⟩:=hno;obtain ⟨i',p3,⟨p1,_,_⟩|⟨p1,_,_⟩⟩:=gcinv j b hj
    ·obtain ⟨cs,Uw⟩:=hidob _ i' p1;obtain ⟨b',c,e,k1,k2,_⟩:=hs.ob i' cs Uw;rw [p3] at k1; cases k1;rw [k2] at h; cases h
    ·have:=hs.inj id i' b h0 p3;exact xJ
   ·exact (hA.fr b hlt (λ j hj=>hno ⟨j,hj⟩)).trans h
  case shape=>
   have hlt:=(hs.own id b h0).1;by_cases hno:∃ j,gc.ow j=some b
   ·obtain ⟨j,hj⟩:=hno;obtain ⟨i',p3,⟨_,p2,_⟩|⟨p1,_,_⟩⟩:=gcinv j b hj
    ·exact hA.sh j b c e p2 hj h
    ·have:=hs.inj id i' b h0 p3;exact xJ
   ·exact ⟨c,(hA.fr b hlt (λ j hj=>hno ⟨j,hj⟩)).trans h,Z⟩
  rw [hg2st] at ho;have hlt:=(hs.own id b h).1;by_cases hno:∃ j,gc.ow j=some b
  ·obtain ⟨j,hj⟩:=hno;obtain ⟨i',p3,⟨_,p2,_⟩|⟨p1,_,_⟩⟩:=gcinv j b hj
   ·exact absurd ho (hA.nst j b p2 hj o)
   ·have:=hs.inj id i' b h p3;exact xJ
  ·have:=(hA.stf b hlt (λ j hj=>hno ⟨j,hj⟩) o).1 ho;rw [hgst] at this; exact this
 have hs':St C.n C.w0 C.F g2 ⟨(dG (cp Ug NB NE) ⟨sl,ob⟩).sl,ob'++(dG (cp Ug NB NE) ⟨sl,ob.filter λ p=>!(ids.any (Nat.beq p.1))⟩).ob⟩ a w':=by
  refine ⟨hs.nd,hs.sz,λ i=>?_,λ id cs h=>?_,λ i j b h1 h2=>?_,λ i b h=>?_,by rw [hg2st]; exact hA.lt,hs.fl,λ b h=>?_,hA.os.trans hs.os,hA.out.trans hs.out,hA.tape.trans hs.tape,Nat.le_trans hs.size hA.size,λ b h o=>?_,λ i h hz=>?_,hs.shf.next (λ i b c e hi hb h=>hE.shape i b c e (hDM i hi) ((hs.owf i hi (C.w0.lo i b hb)).trans hb) h),λ i b h1 h2 o h3=>?_,hs.ev0.trans hE.ev⟩
  ·have h:=(hs.sl i).dem hE;simp only [AS.get,dG,lN];simp only [AS.get] at h
   cases hl:look sl i with
   | none=>simp only [Option.map_none,Option.getD_none]; exact .undef _
   | some x=>rw [hl] at h; simpa using h
  ·dsimp only at h;rw [jd] at h;split at h
   ·rename_i x hx
    cases h
    exact pV hg2st hbm hmo' hob' (id,cs) (ig hx)
   ·have hf1:=lV (cp Ug NB NE) (ob.filter λ p=>!(ids.any (Nat.beq p.1))) id;simp only [dG,lN] at h;rw [hf1] at h
    cases hDi:cp Ug NB NE id
    ·simp only [hDi,Bool.false_eq_true,if_false,rd] at h;have hf:=lV (λ i=>ids.any (Nat.beq i)) ob id;rw [hf] at h
     cases hany:ids.any (Nat.beq id)
     ·rw [hany] at h;simp only [Bool.false_eq_true,if_false] at h;obtain ⟨ds,h1,rfl⟩:=h
      have hni:∀ (k:Nat),ids[k]?≠some id:=λ k hk=>by
       rw [List.any_eq_false] at hany;exact hany id (List.mem_of_getElem? hk) G
      have hnv:∀ (k:Nat),Ug[k]?≠some id:=λ k hk=>by
       have h5:=(hsplit _ hDi).2;rw [hvD _ _ hk] at h5; cases h5
      obtain ⟨b,c,e,k1,k2,k3,k4,k5⟩:=hs.ob id ds h1;have hlt:=(hs.own id b k1).1;have hno:=nogc id b hni hnv k1;refine ⟨b,c,e,by rw [g2old id hDi]; exact k1,(hA.fr b hlt hno).trans k2,by simpa [kP] using k3,λ o ho=>?_,λ i x hx=>?_⟩
      ·rw [hg2st] at ho;have:=(hA.stf b hlt hno o).1 ho;rw [hgst] at this; exact k4 o this
      ·exact Kb
     ·rw [hany] at h; simp at h
    ·simp [hDi] at h
  ·have cross:∀ i j b,wl NB NE i=true->g'.ow (2*M1+(i-NB))=some b->cp Ug NB NE j=false->g.ow j=some b->False:=by
    intro i j b hi h1 hj h2;have hlt:=(hs.own j b h2).1;rcases (hA.own _ b h1).2 with h3|⟨j',hj'⟩
    ·omega
    ·obtain ⟨i',p3,⟨p1,p2,p4⟩|⟨p1,_,_⟩⟩:=gcinv j' b hj'
     ·have h4:=hA.owf j' p2 p4;rw [hj'] at h4;have:=hA.inj _ _ b h1 h4;omega
     ·have:=hs.inj j i' b h2 p3;subst this;have h5:=(hsplit _ hj).2;rw [hvD _ _ p1] at h5; cases h5
   rcases g2cases i b h1 with ⟨x1,x2⟩|⟨x1,x2⟩ <;> rcases g2cases j b h2 with ⟨y1,y2⟩|⟨y1,y2⟩
   ·have:=hA.inj _ _ b x2 y2;have:=hDn i x1;have:=hDn j y1;omega
   ·exact (cross i j b x1 x2 y1 y2).elim
   ·exact (cross j i b y1 y2 x1 x2).elim
   ·exact hs.inj i j b x2 y2
  ·rcases g2cases i b h with ⟨x1,x2⟩|⟨x1,x2⟩
   ·obtain ⟨k1,k2⟩:=hA.own _ b x2;refine ⟨k1,λ hF=>?_⟩;rcases k2 with k2|⟨j,hj⟩
    ·have:=hs.fl b hF; have:=hs.size; omega
    ·obtain ⟨i',p3,_⟩:=gcinv j b hj;exact (hs.own i' b p3).2 hF
   ·have:=hs.own i b x2;have:=hA.size;exact ⟨by omega,(hs.own i b x2).2⟩
  ·have hlt:b<w.heap.size:=by have:=hs.fl b h; have:=hs.size; omega
   exact (hA.fr b hlt λ j hj=>by
    obtain ⟨i',p3,_⟩:=gcinv j b hj
    exact (hs.own i' b p3).2 h).trans (hs.fr b h)
  ·have hlt:b<w.heap.size:=by have:=hs.fl b h; have:=hs.size; omega
   rw [hg2st]
   have:=hA.stf b hlt (λ j hj=>by
    obtain ⟨i',p3,_⟩:=gcinv j b hj
    exact (hs.own i' b p3).2 h) o
   rw [hgst] at this;exact this.trans (hs.stf b h o)
  ·rw [g2old i (hDM i h)]; exact hs.owf i h hz
  ·rw [hg2st] at h3;have h4:g.ow i=some b:=(hs.owf i h1 (C.w0.lo i b h2)).trans h2;have hlt:=(hs.own i b h4).1;by_cases hin:∃ k:Nat,ids[k]? = some i
   ·obtain ⟨k,hk⟩:=hin
    have hj:gc.ow (M1+k)=some b:=by
     rw [hgc]; dsimp only; rw [if_pos O,Nat.add_sub_cancel_left,hk]; exact h4
    exact hA.nst (M1+k) b O hj o h3
   have hno:=nogc i b (λ k hk=>hin ⟨k,hk⟩) (λ k hk=>by have:=hvll k i hk; omega) h4;have:=(hA.stf b hlt hno o).1 h3;rw [hgst] at this;exact hs.nst i b h1 h2 o this
 exact ⟨g2,hs',oN hg2st hbm hr hr'⟩
theorem wJ (ids Ug:List Nat)(NB NE:Nat){f:FuncId}{l l' q:List AV}{Uz obs0 qo:List (Nat×List AV)}{R:AV->List (Nat×List AV)->Prop}(hc:co C.P f q qo R)
  (Zj:∀ g a w,St C.n C.w0 C.F g ⟨sl,ob⟩ a w->∃ vs:Array Value,(execOp a.eval o).run C.P w=.ok (.enter f vs) w/\vs.size=l.length/\∀ (i:Nat) c v,l[i]? = some c->vs[i]? = some v->ARep w g c v)
  (hd:o.dst=some d) (hn:Nat.blt d C.n=true) (hl':AV.mapA.go (kZ ids Ug) l=some l') (hq:qG l' q) (hpk:iA ob ids=some Uz) (hmo:il (kZ ids Ug) Uz=some obs0) (hqo:leO obs0 qo)
  (hnd:nodupB ids=true) (hids:ids.all (λ i=>Nat.blt i (2*M1))=true) (hil:Nat.ble ids.length M1=true) (hdl:Nat.ble NE M1=true) (hdis:ids.all (λ i=>!(cp Ug NB NE i))=true)
  (hvd:nodupB Ug=true) (hvl:Ug.all (λ i=>Nat.blt i M1)=true) (hvn:Nat.ble Ug.length 100000=true)
  (hK:∀ r obs',R r obs'->∃ r' ob',r.mapA (kM ids NB NE)=some r'/\il (kM ids NB NE) obs'=some ob' /\
   K ⟨(d,r')::(dG (cp Ug NB NE) ⟨sl,ob⟩).sl,ob'++(dG (cp Ug NB NE) ⟨sl,ob.filter λ p=>!(ids.any (Nat.beq p.1))⟩).ob⟩):bc C o K ⟨sl,ob⟩:=by
 intro g a w hs;obtain ⟨avs,hrun,a1,a2⟩:=Zj g a w hs;obtain ⟨gc,⟨k1,k2,k3,k4,k5,k6,k7⟩,hpost⟩:=qK ids Ug NB NE hl' hq hpk hmo hqo hnd hids hil hdl hdis hvd hvl hvn hs a1 a2;unfold Oper.wp;rw [hrun];simp only [Oper.upon];refine (hc w gc avs k1 k2 k3 k4 k5 k6 k7).mono λ e w' ⟨v,r,obs',g',he,hR,hr,hob',hA⟩=>?_;subst he;obtain ⟨r',ob',hr',hmo',hK'⟩:=hK r obs' hR;obtain ⟨g2,hs',hrep⟩:=hpost w' v r r' obs' ob' g' hr hob' hA hr' hmo';have hp:=hs'.put (d:=o.dst) (λ t ht=>by rw [hd] at ht; cases ht; exact py ▸ hn) hrep;rw [hd] at hp;simp only;rw [hd];exact ⟨_,_,hp,hK'⟩
theorem aV (ids Ug:List Nat)(NB NE:Nat){f:FuncId}{args:Array Operand}{ts:Array TypeId}{l l' q:List AV}{Uz obs0 qo rob ob':List (Nat×List AV)}{r r':AV}(hc:co C.P f q qo (λ x y=>x=r/\y=rob))(ho:o.op=.call { callee:=.value (.func f),args:=args,argTypes:=ts })
  (hd:o.dst=some d) (hn:Nat.blt d C.n=true) (hl:kW sl args.toList=some l) (hl':AV.mapA.go (kZ ids Ug) l=some l') (hq:qG l' q) (hpk:iA ob ids=some Uz) (hmo:il (kZ ids Ug) Uz=some obs0) (hqo:leO obs0 qo)
  (hnd:nodupB ids=true) (hids:ids.all (λ i=>Nat.blt i (2*M1))=true) (hil:Nat.ble ids.length M1=true) (hdl:Nat.ble NE M1=true) (hdis:ids.all (λ i=>!(cp Ug NB NE i))=true)
  (hvd:nodupB Ug=true) (hvl:Ug.all (λ i=>Nat.blt i M1)=true) (hvn:Nat.ble Ug.length 100000=true)
  (henter:∀ vs w,(callFunc f vs).run C.P w=.ok (.enter f vs) w) (hr:r.mapA (kM ids NB NE)=some r') (hob:il (kM ids NB NE) rob=some ob')
  (hK:K ⟨(d,r')::(dG (cp Ug NB NE) ⟨sl,ob⟩).sl,ob'++(dG (cp Ug NB NE) ⟨sl,ob.filter λ p=>!(ids.any (Nat.beq p.1))⟩).ob⟩):bc C o K ⟨sl,ob⟩ :=
 wJ ids Ug NB NE hc (λ g a w hs=>by
  obtain ⟨a1,a2⟩:=lq hs _ l hl
  exact ⟨args.map a.eval,by simp [execOp,ho,resolve,Act.eval,Deferred.ofValue,invoke,henter],by have:=a1.symm; simpa using this,λ i c v hc hv=>a2 i c v hc Cg⟩)
  hd hn hl' hq hpk hmo hqo hnd hids hil hdl hdis hvd hvl hvn λ x y ⟨e1,e2⟩=>by
  subst e1 e2;exact ⟨r',ob',hr,hob,hK⟩
theorem w7 (ids Ug:List Nat)(NB NE:Nat){f:FuncId}{caps:List AV}{t:Nat}{args:Array Operand}{ts:Array TypeId}{l l' q:List AV}{Uz obs0 qo rob ob':List (Nat×List AV)}{r r':AV}(hc:co C.P f q qo (λ x y=>x=r/\y=rob))(ho:o.op=.call { callee:=.value (.tmp t),args:=args,argTypes:=ts })
  (hd:o.dst=some d) (hn:Nat.blt d C.n=true) (hf:evo sl (.tmp t)=some (.func (.func f) caps)) (hl:kW sl args.toList=some l) (hl':AV.mapA.go (kZ ids Ug) (l++caps)=some l') (hq:qG l' q) (hpk:iA ob ids=some Uz) (hmo:il (kZ ids Ug) Uz=some obs0) (hqo:leO obs0 qo)
  (hnd:nodupB ids=true) (hids:ids.all (λ i=>Nat.blt i (2*M1))=true) (hil:Nat.ble ids.length M1=true) (hdl:Nat.ble NE M1=true) (hdis:ids.all (λ i=>!(cp Ug NB NE i))=true)
  (hvd:nodupB Ug=true) (hvl:Ug.all (λ i=>Nat.blt i M1)=true) (hvn:Nat.ble Ug.length 100000=true)
  (henter:∀ vs w,(callFunc f vs).run C.P w=.ok (.enter f vs) w) (hr:r.mapA (kM ids NB NE)=some r') (hob:il (kM ids NB NE) rob=some ob')
  (hK:K ⟨(d,r')::(dG (cp Ug NB NE) ⟨sl,ob⟩).sl,ob'++(dG (cp Ug NB NE) ⟨sl,ob.filter λ p=>!(ids.any (Nat.beq p.1))⟩).ob⟩):bc C o K ⟨sl,ob⟩ :=
 wJ ids Ug NB NE hc (λ g a w hs=>by
  obtain ⟨a1,a2⟩:=lq hs _ l hl;have hfr:=bQ hs hf;generalize hv:a.eval (.tmp t)=v at hfr
  cases hfr with
  | func Uw hcr=>
   rename_i vs;have a1':(args.map a.eval).size=l.length:=by have:=a1.symm; simpa using this
   refine ⟨args.map a.eval++vs,by simp [execOp,ho,resolve,hv,Deferred.ofValue,invoke,henter],by rw [Array.size_append,n7,a1',Uw],λ i c v hc hv=>?_⟩;rw [List.getElem?_append] at hc;rw [Array.getElem?_append] at hv;split at hc
   ·rename_i hlt;rw [if_pos O] at hv;exact a2 i c v hc Cg
   ·rename_i hge;rw [if_neg O,a1'] at hv
    exact hcr _ c v hc hv)
  hd hn hl' hq hpk hmo hqo hnd hids hil hdl hdis hvd hvl hvn λ x y ⟨e1,e2⟩=>by
  subst e1 e2;exact ⟨r',ob',hr,hob,hK⟩
end
theorem JF (h:p:=by
 cases hq:(k1::i::r).any (Nat.beq k) with
 | false=>rfl
 | true=>rw [hno k hq] at hk; cases hk):p:=h
theorem KO (h:p:=by
 exact hbnext (trL (S.D q) sl') (λ z x h=>by rw [rE,h]; rfl) z x hx):p:=h
theorem JK (h:p:=by
 intro z zi hz hb
 exact (hI.2.1 z zi hz).1 (lz hI.2.2 4 o zi hb hafter)):p:=h
theorem Jc (h:p:=by
 simp only [ro] at this ⊢;rcases this with h|h|h
 ·exact .inr (.inl h)
 ·exact .inl h
 ·exact .inr (.inr h)):p:=h
theorem Jd (h:p:=by
 cases hl:listed.getD k false with
 | false=>rfl
 | true=>have:=this.1 hl; omega):p:=h
theorem JW (h:p:=by
 intro e;have:=hsame i k _ _ hRk hp e;subst this
 rw [h1'] at hk; cases hk):p:=h
theorem GY (h:p:=by
 rw [hb,cond_true] at h
 cases h
 rw [cond_true];have:=la hb;subst this
 exact ⟨v1,rfl,e3.resolve_left (by rw [hk]; exact λ h=>by cases h)⟩):p:=h
theorem KQ (h:p:=by
 exfalso;rw [Array.getD_eq_getD_getElem?,Array.getElem?_replicate] at hk
 split at hk <;> simp at hk):p:=h
theorem Iz (h:p:=by
 cases hq:Nat.beq k2 k1
 ·rfl
 ·rw [la hq] at a1; rw [Nat.beq_refl] at a1; cases a1):p:=h
theorem qM (h:p:=by simpa using hq):p:=h
def iX (o:Oper)(k:Nat):Bool:=o.after.toList.any λ e=>Nat.beq e.on k&&Region.binds .any e
def m9 (ops:Array Oper):Nat->Oper->Nat->Bool|0,o,a=>iX o a|n+1,o,a=>iX o a||ops.toList.zipIdx.any λ p=>iX o p.2&&m9 ops n p.1 a
def nG (ops:Array Oper)(imp:List Nat)(o:Oper)(k j:Nat):Bool :=
 (imp.zipIdx.all λ p=>!(m9 ops 4 o p.1)||Nat.blt p.2 j)&&(imp.zipIdx.all λ p=>match ops.toList[p.1]? with
  | some oi=>!(iX oi k)||Nat.ble j p.2
  | none=>true)
def chainB (ops:Array Oper):List Nat->Bool
 | a::b::r=>(match ops.toList[b]? with|some o=>m9 ops 4 o a|none=>false)&&chainB ops (b::r)
 | _=>true
def loB (ops:Array Oper)(imp:List Nat)(o:Oper)(j:Nat):Bool:=imp.zipIdx.all λ p=>!(m9 ops 4 o p.1)||Nat.blt p.2 j
theorem lz {ops:Array Oper}{listed:Array Bool}(hcl:∀ (k:Nat) o,ops[k]? = some o->listed.getD k false=true->∀ e∈o.after,Region.binds .any e=true->listed.getD e.on false=true) :
  ∀ (n:Nat) (o:Oper) (a:Nat),m9 ops n o a=true->(∀ e∈o.after,Region.binds .any e=true->listed.getD e.on false=true)->listed.getD a false=true:=by
 have one:∀ (o:Oper) (a:Nat),iX o a=true->(∀ e∈o.after,Region.binds .any e=true->listed.getD e.on false=true)->listed.getD a false=true:=by
  intro o a h ha;obtain ⟨e,he,hbe⟩:=List.any_eq_true.1 h
  grind [Nat.eq_of_beq_eq_true]
 intro n
 induction n with
 | zero=>exact one
 | succ n ih=>
  grind [m9]
inductive Tr where
 | none
 | some (D:Nat->Bool)
 | fn (f:AV->AV)
def trA:Tr->AV->AV|.none,x=>x|.some D,x=>x.dem D|.fn f,x=>f x
def trL:Tr->List (Nat×AV)->List (Nat×AV)|.none,l=>l|.some D,l=>l.map λ p=>(p.1,p.2.dem D)|.fn f,l=>l.map λ p=>(p.1,f p.2)
theorem rE {D:Tr}{l:List (Nat×AV)}{i:Nat}:look (trL D l) i=(look l i).map (trA D):=by
 cases D with
 | none=>simp only [trL]; cases look l i <;> rfl
 | some D=>simp only [trL,lN]; rfl
 | fn f=>simp only [trL,lN]; rfl
abbrev fQ:=List (Nat×Nat×(Nat->AV))
def dh:fQ->Nat->Option (Nat×(Nat->AV))|[],_=>none|(j,p)::r,k=>bif Nat.beq j k then some p else dh r k
def dD:fQ->Nat->List (Nat×AV)|[],_=>[]|(_,d,v)::r,j=>(d,v j)::dD r j
def KnS (bas:List (Nat×AV))(o:Oper)(rev:fQ)(j:Nat):List (Nat×AV)->Prop|[]=>True|(i,x)::r=>(look bas i=some x\/∃ k v,iX o k=true/\dh rev k=some (i,v)/\v j=x)/\KnS bas o rev j r
structure eY where
 m:Nat
 imp:List Nat
 D:Nat->Tr
 bas:Nat->List (Nat×AV)
 obj:Nat->List (Nat×List AV)
def DS (C:Cx)(ops:Array Oper)(S:eY)(K:fQ->Prop):List Oper->Nat->fQ->Prop
 | [],_,rev=>K rev
 | o::rest,k,rev=>
  match S.imp.findIdx? (Nat.beq k) with
  | none=>∃ d v,o.dst=some d/\(rev.all λ p=>!(Nat.beq p.2.1 d))=true/\(∀ j,look (S.bas j) d=none)/\(∀ j,j<S.m->loB ops S.imp o j=true->v (j+1)=trA (S.D j) (v j)) /\
    (∀ j,j<=S.m->nG ops S.imp o k j=true->∃ kn,KnS (S.bas j) o rev j kn/\pJ C ops (S.obj j) o kn d (v j))/\DS C ops S K rest (k+1) ((k,d,v)::rev)
  | some i=>∃ kn,KnS (S.bas i) o rev i kn/\((∃ d v,o.dst=some d/\(rev.all λ p=>!(Nat.beq p.2.1 d))=true/\(∀ j,i<j->look (S.bas j) d=none)/\(∀ j,i<j->j<S.m->v (j+1)=trA (S.D j) (v j)) /\
     (∀ sl,(∀ i x,look kn i=some x->look sl i=some x)->∀ K:AS->Prop,K ⟨(d,v (i+1))::trL (S.D i) sl,S.obj (i+1)⟩->One C ops o K ⟨sl,S.obj i⟩)/\DS C ops S K rest (k+1) ((k,d,v)::rev)) \/
    (o.dst=none/\(∀ sl,(∀ i x,look kn i=some x->look sl i=some x)->∀ K:AS->Prop,K ⟨trL (S.D i) sl,S.obj (i+1)⟩->One C ops o K ⟨sl,S.obj i⟩)/\DS C ops S K rest (k+1) rev))
def pO (C:Cx)(ops:Array Oper)(S:eY)(R:Nat->Option (Nat×(Nat->AV)))(o:Oper)(k:Nat):Prop :=
 match S.imp.findIdx? (Nat.beq k) with
 | none=>∃ d v,R k=some (d,v)/\o.dst=some d/\(∀ j,look (S.bas j) d=none)/\(∀ j,j<S.m->loB ops S.imp o j=true->v (j+1)=trA (S.D j) (v j)) /\
   (∀ j,j<=S.m->nG ops S.imp o k j=true->∀ sl,(∀ i x,look (S.bas j) i=some x->look sl i=some x)->(∀ k' p,iX o k'=true->R k'=some p->look sl p.1=some (p.2 j))->∀ K:AS->Prop,K ⟨(d,v j)::sl,S.obj j⟩->One C ops o K ⟨sl,S.obj j⟩)
 | some i=>(∃ d v,R k=some (d,v)/\o.dst=some d/\(∀ j,i<j->look (S.bas j) d=none)/\(∀ j,i<j->j<S.m->v (j+1)=trA (S.D j) (v j)) /\
    (∀ sl,(∀ q x,look (S.bas i) q=some x->look sl q=some x)->(∀ k' p,iX o k'=true->R k'=some p->look sl p.1=some (p.2 i))->∀ K:AS->Prop,K ⟨(d,v (i+1))::trL (S.D i) sl,S.obj (i+1)⟩->One C ops o K ⟨sl,S.obj i⟩)) \/
   (R k=none/\o.dst=none/\(∀ sl,(∀ q x,look (S.bas i) q=some x->look sl q=some x)->(∀ k' p,iX o k'=true->R k'=some p->look sl p.1=some (p.2 i))->∀ K:AS->Prop,K ⟨trL (S.D i) sl,S.obj (i+1)⟩->One C ops o K ⟨sl,S.obj i⟩))
theorem rP {bas:List (Nat×AV)}{o:Oper}{rev:fQ}{j:Nat}{R:Nat->Option (Nat×(Nat->AV))}(hR:∀ k p,dh rev k=some p->R k=some p){sl:List (Nat×AV)}(h1:∀ i x,look bas i=some x->look sl i=some x)
  (h2:∀ k' p,iX o k'=true->R k'=some p->look sl p.1=some (p.2 j)):∀ {kn:List (Nat×AV)},KnS bas o rev j kn->∀ i x,look kn i=some x->look sl i=some x
 | [],_,i,x,h=>by simp [look] at h
 | (q,y)::r,hk,i,x,h=>by
  rw [aZ] at h;by_cases e:q=i
  ·rw [if_pos e] at h; cases h; subst e;rcases hk.1 with h3|⟨k,v,h3,h4,h5⟩
   ·grind
   grind
  ·rw [if_neg e] at h;exact rP hR h1 h2 hk.2 i x h
theorem vw {rev:fQ}{k:Nat}(h:∀ p∈rev,p.1<k):dh rev k=none:=by
 induction rev with
 | nil=>rfl
 | cons p r ih=>
  grind [dh,Nat.eq_of_beq_eq_true]
theorem yN {C:Cx}{ops:Array Oper}{S:eY}{K:fQ->Prop}:∀ {l:List Oper} {k:Nat} {rev:fQ},DS C ops S K l k rev->(∀ p∈rev,p.1<k) ->
  ∃ fin:fQ,K fin/\(∀ i,i<k->dh fin i=dh rev i)/\(∀ p∈fin,p.1<k+l.length) /\
   (∀ (i:Nat) o,l[i]? = some o->pO C ops S (dh fin) o (k+i)) /\
   (∃ pre:fQ,fin=pre++rev/\(∀ p∈pre,∀ q∈rev,p.2.1≠q.2.1)/\(∀ (i j:Nat) p q,pre[i]? = some p->pre[j]? = some q->p.2.1=q.2.1->i=j)/\(∀ p∈pre,k<=p.1)/\∀ (i j:Nat) p q,pre[i]? = some p->pre[j]? = some q->p.1=q.1->i=j)
 | [],k,rev,h,hlt=>⟨rev,h,λ _ _=>rfl,hlt,λ i o h=>by simp at h,[],Z,by simp,by simp,by simp,by simp⟩
 | o::rest,k,rev,h,hlt=>by
  -- one more result
  have more:∀ (d:Nat) (v:Nat->AV),(rev.all λ p=>!(Nat.beq p.2.1 d))=true->DS C ops S K rest (k+1) ((k,d,v)::rev) ->
    (∀ fin:fQ,(∀ q p,dh rev q=some p->dh fin q=some p)->dh fin k=some (d,v)->pO C ops S (dh fin) o k)->∃ fin:fQ,K fin/\(∀ i,i<k->dh fin i=dh rev i)/\(∀ p∈fin,p.1<k+(rest.length+1)) /\
     (∀ (i:Nat) o',(o::rest)[i]? = some o'->pO C ops S (dh fin) o' (k+i)) /\
     (∃ pre:fQ,fin=pre++rev/\(∀ p∈pre,∀ q∈rev,p.2.1≠q.2.1)/\(∀ (i j:Nat) p q,pre[i]? = some p->pre[j]? = some q->p.2.1=q.2.1->i=j)/\(∀ p∈pre,k<=p.1)/\∀ (i j:Nat) p q,pre[i]? = some p->pre[j]? = some q->p.1=q.1->i=j):=by
   intro d v hf hrest howes
   obtain ⟨fin,f1,f2,f3,f4,pre,f5,f6,f7,f8,f9⟩:=yN hrest (λ p hp=>by
    grind)
   have hkk:dh fin k=some (d,v):=by
    rw [f2 k (Nat.lt_succ_self k)];simp [dh]
   have hsub:∀ q,q<k->dh fin q=dh rev q:=by
    grind [dh,Nat.eq_of_beq_eq_true]
   have hfrd:∀ q∈rev,q.2.1≠d:=λ q hq e=>by
    have:=ph.1 hf q hq;simp [e] at this
   refine ⟨fin,f1,hsub,λ p hp=>by grind,λ i o' ho'=>?_,pre++[(k,d,v)],by grind,λ p hp q hq=>?_,λ i j p q hi hj e=>?_,λ p hp=>?_,λ i j p q hi hj e=>?_⟩
   ·cases i with
    | zero=>
     grind [vw]
    | succ i=>
     grind
   ·grind
   ·grind
   ·grind
   grind
  unfold DS at h
  cases hi:S.imp.findIdx? (Nat.beq k) with
  | none=>
   rw [hi] at h;obtain ⟨d,v,hd,hf,hb,hv,hs,hrest⟩:=h;refine more d v hf hrest λ fin hR hk=>?_;unfold pO;rw [hi];refine ⟨d,v,hk,hd,hb,hv,λ j hj hal sl h1 h2 K hK=>?_⟩;obtain ⟨kn,hkn,Uv⟩:=hs j hj hal;exact Uv sl (rP hR h1 h2 hkn) K hK
  | some i=>
   rw [hi] at h;obtain ⟨kn,hkn,⟨d,v,hd,hf,hb,hv,Uv,hrest⟩|⟨hd,Uv,hrest⟩⟩:=h
   ·refine more d v hf hrest λ fin hR hk=>?_;unfold pO;rw [hi];exact .inl ⟨d,v,hk,hd,hb,hv,λ sl h1 h2 K hK=>Uv sl (rP hR h1 h2 hkn) K hK⟩
   ·obtain ⟨fin,f1,f2,f3,f4,pre,f5,f6,f7,f8,f9⟩:=yN hrest (by grind);refine ⟨fin,f1,λ q hq=>f2 q (Nat.lt_succ_of_lt hq),λ p hp=>by grind,λ q o' ho'=>?_,pre,f5,f6,f7,λ p hp=>by grind,f9⟩
    cases q with
    | zero=>
     simp only [List.getElem?_cons_zero,bt] at ho';subst ho'
     have hkn':dh fin k=none:=by
      grind [vw]
     unfold pO;rw [Nat.add_zero,hi];refine .inr ⟨hkn',hd,λ sl h1 h2 K hK=>Uv sl (rP (λ q p hq=>?_) h1 h2 hkn) K hK⟩
     grind [vw]
    | succ q=>
     grind
theorem oJ:∀ {rev:fQ} {k:Nat} {p:Nat×(Nat->AV)},dh rev k=some p->(k,p)∈rev
 | [],k,p,h=>by simp [dh] at h
 | (j,q)::r,k,p,h=>by
  simp only [dh] at h
  cases hb:Nat.beq j k
  ·rw [hb,cond_false] at h;exact List.mem_cons_of_mem _ (oJ h)
  simp_all
theorem uJ:∀ {rev:fQ} {j i:Nat} {x:AV},(i,x)∈dD rev j->∃ k v,(k,i,v)∈rev/\v j=x
 | [],j,i,x,h=>by simp [dD] at h
 | (k,d,v)::r,j,i,x,h=>by
  simp only [dD] at h;rcases ro.1 h with e|h
  ·grind
  ·obtain ⟨k',v',h1,h2⟩:=uJ h
   grind
theorem kl {ops:Array Oper}:∀ {imp:List Nat},chainB ops imp=true->∀ (i a b:Nat) o,imp[i]? = some a->imp[i+1]? = some b->ops[b]? = some o->m9 ops 4 o a=true
 | [],_,i,a,b,o,h,_,_=>by simp at h
 | [x],_,i,a,b,o,h1,h2,_=>by
  grind
 | x::y::r,hc,i,a,b,o,h1,h2,h3=>by
  simp only [chainB,n8] at hc
  cases i with
  | zero=>
   grind
  | succ i=>
   simp only [List.getElem?_cons_succ] at h1 h2;exact kl hc.2 i a b o h1 (by grind) h3
theorem Ak {ops:Array Oper}{listed:Array Bool}(hs:listed.size=ops.size)(hord:∀ (j:Nat) o,ops[j]? = some o->∀ e∈o.after,Region.binds .any e=true->e.on<j)(h:Region.ready .any ops listed=[]) :
  ∀ j,j<ops.size->listed.getD j false=true:=by
 intro j
 induction j using Nat.strongRecOn with
 | ind j ih=>
  intro hj
  cases hv:listed.getD j false with
  | true=>rfl
  | false=>
   have hjl:j<listed.size:=by omega
   have:j∈Region.ready .any ops listed:=by
    rw [mem_ready];refine ⟨?_,ops[j],Array.getElem?_eq_getElem hj,λ e he hb=>?_⟩
    ·grind
    grind
   grind
structure Ax (C:Cx)(ops:Array Oper)(S:eY)(fin:fQ):Prop where
 owes:∀ (k:Nat) o,ops[k]? = some o->pO C ops S (dh fin) o k
 lt:∀ k p,dh fin k=some p->k<ops.size
 same:∀ k k' p p',dh fin k=some p->dh fin k'=some p'->p.1=p'.1->k=k'
 num:∀ (i j:Nat) p q,fin[i]? = some p->fin[j]? = some q->p.1=q.1->i=j
 len:S.imp.length=S.m
 bas:∀ j,j<S.m->eR (trL (S.D j) (S.bas j)) (S.bas (j+1))
 nd:nodupB S.imp=true
 inn:S.imp.all (λ i=>Nat.blt i ops.size)=true
 ord:∀ (j:Nat) o,ops[j]? = some o->∀ e∈o.after,Region.binds .any e=true->e.on<j
theorem Ax.mk' {C:Cx}{ops:Array Oper}{S:eY}{K:fQ->Prop}(M':S.imp.length=S.m)
  (hbas:∀ j,j<S.m->eR (trL (S.D j) (S.bas j)) (S.bas (j+1))) (hnd:nodupB S.imp=true) (hin:S.imp.all (λ i=>Nat.blt i ops.size)=true)
  (hord:(ops.toList.zipIdx.all λ p=>p.1.after.toList.all λ e=>!(Region.binds .any e)||Nat.blt e.on p.2)=true) (h:DS C ops S K ops.toList 0 []):∃ fin,K fin/\Ax C ops S fin:=by
 obtain ⟨fin,hfin,_,hfl,howes,pre,hpre,_,hdst,_,hnum⟩:=yN h G;rw [List.append_nil] at hpre;subst hpre;simp only [Nat.zero_add,Array.length_toList] at hfl howes;have howes':∀ (k:Nat) o,ops[k]? = some o->pO C ops S (dh fin) o k:=λ k o ho=>howes k o (by grind)
 have hord':∀ (j:Nat) o,ops[j]? = some o->∀ e∈o.after,Region.binds .any e=true->e.on<j:=by
  intro j o ho e he hbe
  have h1:=ph.1 hord (o,j) (by
   grind)
  grind [Nat.blt_eq]
 have hlt:∀ k p,dh fin k=some p->k<ops.size:=λ k p h=>hfl _ (oJ h)
 have hsame:∀ k k' p p',dh fin k=some p->dh fin k'=some p'->p.1=p'.1->k=k':=by
  intro k k' p p' h1 h2 e;obtain ⟨i,hi⟩:=List.mem_iff_getElem?.1 (oJ h1);obtain ⟨i',hi'⟩:=List.mem_iff_getElem?.1 (oJ h2)
  grind
 have hdstOf:∀ k o p,ops[k]? = some o->dh fin k=some p->o.dst=some p.1:=by
  grind [pO]
 exact ⟨fin,hfin,howes',hlt,hsame,hnum,M',hbas,hnd,hin,hord'⟩
def CI (ops:Array Oper)(S:eY)(listed:Array Bool)(j:Nat):Prop:=j<=S.m/\(∀ (i k:Nat),S.imp[i]? = some k->(listed.getD k false=true↔i<j))/\(∀ (k:Nat) o,ops[k]? = some o->listed.getD k false=true->∀ e∈o.after,Region.binds .any e=true->listed.getD e.on false=true)
def PKn (S:eY)(fin:fQ)(listed:Array Bool)(j:Nat)(sl':List (Nat×AV)):Prop:=(∀ i x,look (S.bas j) i=some x->look sl' i=some x)/\(∀ k p,listed.getD k false=true->dh fin k=some p->look sl' p.1=some (p.2 j))
structure PAt (C:Cx)(ops:Array Oper)(S:eY)(fin:fQ)(fuel:Nat)(listed:Array Bool)(g:Gh)(a:Act)(w:World)(sl':List (Nat×AV))(j:Nat):Prop where
 sz:listed.size=ops.size
 un:unl ops.size listed=fuel
 inv:CI ops S listed j
 kn:PKn S fin listed j sl'
 st:St C.n C.w0 C.F g ⟨sl',S.obj j⟩ a w
theorem AS.le_refl (s:AS):s.le s:=⟨λ j x h=>by grind [AS.get,AV.sub_refl],λ id cs h=>⟨cs,h,bx _,λ i c d h1 h2=>by grind [AV.sub_refl]⟩⟩
theorem oH {C:Cx}{ops:Array Oper}{Q:Exit->AS->Prop}{S:eY}{fin:fQ}(hP:Ax C ops S fin){t:AS}(hle:(⟨dD fin S.m++S.bas S.m,S.obj S.m⟩:AS).le t)(hfin:Q .normal t)(j0:Nat)
  (hsw:∀ (fuel:Nat) (listed:Array Bool) (g:Gh) (a:Act) (w:World) (sl':List (Nat×AV)) (j:Nat),j0<=j->PAt C ops S fin (fuel+1) listed g a w sl' j->∀ i q,i∈Region.ready .any ops listed->S.imp[q]? = some i->j<q ->
   wpOp C.P ops (λ e a' w'=>∃ g' s',St C.n C.w0 C.F g' s' a' w'/\Q e s') i (wpAny C.P .any ops (λ e a' w'=>∃ g' s',St C.n C.w0 C.F g' s' a' w'/\Q e s') fuel (listed.setIfInBounds i true)) a w) :
  (∀ (fuel:Nat) (listed:Array Bool) (g:Gh) (a:Act) (w:World) (sl':List (Nat×AV)) (j:Nat),j0<=j->PAt C ops S fin fuel listed g a w sl' j->wpAny C.P .any ops (λ e a' w'=>∃ g' s',St C.n C.w0 C.F g' s' a' w'/\Q e s') fuel listed a w) /\
  (∀ (fuel:Nat) (listed:Array Bool) (g:Gh) (a:Act) (w:World) (sl':List (Nat×AV)) (j i:Nat),(j0<=j\/(j0<=j+1/\S.imp[j]? = some i))->i∈Region.ready .any ops listed->PAt C ops S fin (fuel+1) listed g a w sl' j ->
   wpOp C.P ops (λ e a' w'=>∃ g' s',St C.n C.w0 C.F g' s' a' w'/\Q e s') i (wpAny C.P .any ops (λ e a' w'=>∃ g' s',St C.n C.w0 C.F g' s' a' w'/\Q e s') fuel (listed.setIfInBounds i true)) a w):=by
 obtain ⟨howes',hlt,hsame,hnum,M',hbas,hnd,hin,hord'⟩:=hP;have himp:∀ {k i:Nat},S.imp.findIdx? (Nat.beq k)=some i->S.imp[i]? = some k:=λ h=>kO h
 have himp2:∀ {k i:Nat},S.imp[i]? = some k->S.imp.findIdx? (Nat.beq k)=some i:=by
  intro k i h
  cases hf:S.imp.findIdx? (Nat.beq k) with
  | none=>
   have:=List.findIdx?_eq_none_iff.1 hf k (List.mem_of_getElem? h);simp at this
  | some i'=>
   have:=jp hnd _ _ _ (himp hf) h;rw [this]
 have done:∀ (listed:Array Bool) (g:Gh) (a:Act) (w:World) (sl':List (Nat×AV)) (j:Nat),(∀ k,k<ops.size->listed.getD k false=true)->CI ops S listed j->PKn S fin listed j sl'->St C.n C.w0 C.F g ⟨sl',S.obj j⟩ a w ->
   ∃ g' s',St C.n C.w0 C.F g' s' a w/\Q .normal s':=by
  intro listed g a w sl' j hall hI hK hs
  have hj:j=S.m:=by
   rcases Nat.lt_or_ge j S.m with hlt|hge
   ·exfalso;have hjl:j<S.imp.length:=by omega
    have h1:=(hI.2.1 j S.imp[j] (List.getElem?_eq_getElem hjl)).1 (hall _ (by
     have:=ph.1 hin S.imp[j] (List.getElem_mem hjl)
     exact py ▸ this))
    omega
   ·exact Nat.le_antisymm hI.1 hge
  subst hj;refine ⟨g,t,(hs.weaken (t:=⟨dD fin S.m++S.bas S.m,S.obj S.m⟩) ?_).weaken hle,hfin⟩;refine Hq λ i x hx=>?_;rw [jd] at hx
  cases hq:look (dD fin S.m) i with
  | none=>rw [hq] at hx; exact hK.1 i x (by simpa using hx)
  | some y=>
   rw [hq] at hx;simp only [bt] at hx;subst hx;obtain ⟨k,v,h1,h2⟩:=uJ (ig hq)
   have hk:dh fin k=some (i,v):=by
    obtain ⟨q,hq'⟩:=List.mem_iff_getElem?.1 h1
    cases hl:dh fin k with
    | none=>
     exfalso
     have hno:∀ {rev:fQ} {k:Nat} {p:Nat×(Nat->AV)},(k,p)∈rev->dh rev k≠none:=by
      intro rev
      induction rev with
      | nil=>intro k p h; simp at h
      | cons z r ih=>
       intro k p h;obtain ⟨j,q⟩:=z;simp only [dh]
       cases hb:Nat.beq j k
       ·rw [cond_false];rcases ro.1 h with e|h
        ·cases e; simp at hb
        ·exact ih h
       ·rw [cond_true]; simp
     exact hno h1 hl
    | some p=>
     obtain ⟨q2,hq2⟩:=List.mem_iff_getElem?.1 (oJ hl);have:=hnum q q2 _ _ hq' hq2 rfl;subst this;rw [hq'] at hq2; cases hq2; rfl
   have:=hK.2 k _ (hall k (hlt k _ hk)) hk;rw [<- h2]; exact this
 have step:∀ (fuel:Nat),(∀ (listed:Array Bool) (g:Gh) (a:Act) (w:World) (sl':List (Nat×AV)) (j:Nat),j0<=j->PAt C ops S fin fuel listed g a w sl' j->wpAny C.P .any ops (λ e a' w'=>∃ g' s',St C.n C.w0 C.F g' s' a' w'/\Q e s') fuel listed a w) ->
   ∀ (listed:Array Bool) (g:Gh) (a:Act) (w:World) (sl':List (Nat×AV)) (j i:Nat),(j0<=j\/(j0<=j+1/\S.imp[j]? = some i))->i∈Region.ready .any ops listed->PAt C ops S fin (fuel+1) listed g a w sl' j ->
    wpOp C.P ops (λ e a' w'=>∃ g' s',St C.n C.w0 C.F g' s' a' w'/\Q e s') i (wpAny C.P .any ops (λ e a' w'=>∃ g' s',St C.n C.w0 C.F g' s' a' w'/\Q e s') fuel (listed.setIfInBounds i true)) a w:=by
   intro fuel ih' listed g a w sl' j i hwhen hi Ux;have hi0:=hi;obtain ⟨Ul,hu,hI,hK,hs⟩:=Ux
   have ih:∀ (listed:Array Bool) (g:Gh) (a:Act) (w:World) (sl':List (Nat×AV)) (j:Nat),listed.size=ops.size->unl ops.size listed=fuel->CI ops S listed j->PKn S fin listed j sl'->St C.n C.w0 C.F g ⟨sl',S.obj j⟩ a w->j0<=j ->
     wpAny C.P .any ops (λ e a' w'=>∃ g' s',St C.n C.w0 C.F g' s' a' w'/\Q e s') fuel listed a w:=λ listed g a w sl' j h1 h2 h3 h4 h5 h6=>ih' listed g a w sl' j h6 ⟨h1,h2,h3,h4,h5⟩
   obtain ⟨h1,o,ho,hafter⟩:=mem_ready.1 hi;have hil:i<ops.size:=(Array.getElem?_eq_some_iff.1 ho).1
   have h1':listed.getD i false=false:=by
    have hil2:i<listed.size:=by omega
    simp only [Array.getD_eq_getD_getElem?,Array.getElem?_eq_getElem hil2,ur] at h1 ⊢;exact h1
   have hbo:∀ k,iX o k=true->listed.getD k false=true:=by
    intro k hk;obtain ⟨e,he,hbe⟩:=List.any_eq_true.1 hk;simp only [n8] at hbe;have:=la hbe.1;subst this;exact hafter e (Array.mem_toList_iff.1 he) hbe.2
   have hget:∀ q,(listed.setIfInBounds i true).getD q false=true->q=i\/listed.getD q false=true:=by
    intro q hq;by_cases e:q=i
    ·exact .inl e
    ·rw [getD_set_ne false (λ h=>e h.symm)] at hq; exact .inr hq
   have hget2:∀ q,listed.getD q false=true->(listed.setIfInBounds i true).getD q false=true:=by
    intro q hq;have UK:q≠i:=λ e=>by subst e; rw [h1'] at hq; cases hq
    rw [getD_set_ne false (λ h=>UK h.symm)]; exact hq
   have hgeti:(listed.setIfInBounds i true).getD i false=true:=by
    have hil2:i<listed.size:=by omega
    simp [Array.getD_eq_getD_getElem?,hil2]
   have hclosed:∀ k o',ops[k]? = some o'->(listed.setIfInBounds i true).getD k false=true->∀ e∈o'.after,Region.binds .any e=true->(listed.setIfInBounds i true).getD e.on false=true:=by
    intro k o' ho' hk e he hbe;rcases hget k hk with rfl|hk
    ·rw [ho] at ho'; cases ho';exact hget2 _ (hafter e he hbe)
    ·exact hget2 _ (hI.2.2 k o' ho' hk e he hbe)
   have howe:=howes' i o ho;unfold pO at howe
   cases hfi:S.imp.findIdx? (Nat.beq i) with
   | none=>
    rw [hfi] at howe;obtain ⟨d,v,hRk,hd,XO,hv,Uv⟩:=howe
    have hj0:j0<=j:=by
     rcases hwhen with h|⟨_,h⟩
     ·exact h
     ·rw [himp2 h] at hfi; cases hfi
    have hal:nG ops S.imp o i j=true:=by
     unfold nG;simp only [n8,ph];refine ⟨λ p hp=>?_,λ p hp=>?_⟩
     ·obtain ⟨q,hq⟩:=List.mem_iff_getElem?.1 hp;rw [List.getElem?_zipIdx] at hq;simp only [rd,Nat.zero_add] at hq;obtain ⟨x,hx,rfl⟩:=hq
      cases hbx:m9 ops 4 o x
      ·simp
      ·have:=(hI.2.1 q x hx).1 (lz hI.2.2 4 o x hbx hafter);simp only [Bool.not_true,Bool.false_or];rw [py]; exact this
     ·obtain ⟨q,hq⟩:=List.mem_iff_getElem?.1 hp;rw [List.getElem?_zipIdx] at hq;simp only [rd,Nat.zero_add] at hq;obtain ⟨x,hx,rfl⟩:=hq;simp only [Array.getElem?_toList]
      cases hox:ops[x]? with
      | none=>rfl
      | some ox=>
       simp only
       cases hbx:iX ox i
       ·simp
       ·simp only [Bool.not_true,Bool.false_or];refine Nat.ble_eq_true_of_le (Nat.le_of_not_lt λ hlt=>?_);have hl:=(hI.2.1 q x hx).2 hlt;obtain ⟨e,he,hbe⟩:=List.any_eq_true.1 hbx;simp only [n8] at hbe;have:=la hbe.1;subst this;have:=hI.2.2 x ox hox hl e (Array.mem_toList_iff.1 he) hbe.2;rw [h1'] at this; cases this
    have UD:=Uv j hI.1 hal sl' hK.1 (λ k' p hb hk'=>hK.2 k' p (hbo k' hb) hk') (λ s=>s=⟨(d,v j)::sl',S.obj j⟩) rfl i ho;refine uc (UD g a w hs) ?_;rintro a' w' ⟨g',s',hs',rfl⟩;refine ih _ g' a' w' ((d,v j)::sl') j (by simpa using Ul) ?_ ⟨hI.1,λ q k hq=>?_,hclosed⟩ ⟨λ q x hx=>?_,λ k p hk hp=>?_⟩ hs' hj0
    ·exact yj
    ·have UK:k≠i:=λ e=>by subst e; rw [himp2 hq] at hfi; cases hfi
     rw [getD_set_ne false (λ h=>UK h.symm)]; exact hI.2.1 q k hq
    ·rw [aZ,if_neg]
     ·exact hK.1 q x hx
     ·intro e; subst e; rw [XO j] at hx; cases hx
    ·rw [aZ];rcases hget k hk with rfl|hk
     ·rw [hRk] at hp; cases hp; rw [if_pos rfl]
     ·rw [if_neg]
      ·exact hK.2 k p hk hp
      ·exact JW
   | some q=>
    rw [hfi] at howe;have hq:=himp hfi
    -- its stage
    have h2:¬ q<j:=λ h=>by have:=(hI.2.1 q i hq).2 h; rw [h1'] at this; cases this
    by_cases hqj:j<q
    ·rcases hwhen with hj0|⟨_,hji⟩
     ·exact hsw fuel listed g a w sl' j hj0 ⟨Ul,hu,hI,hK,hs⟩ i q hi0 hq hqj
     ·have:=jp hnd _ _ _ hji hq; omega
    have hqj:q=j:=by omega
    have hj1:j0<=j+1:=by
     rcases hwhen with h|⟨h,_⟩ <;> omega
    subst hqj;have hqm:q<S.m:=by have:=(List.getElem?_eq_some_iff.1 hq).1; omega
    have hbnext:∀ (sl'':List (Nat×AV)),(∀ z x,look sl' z=some x->look sl'' z=some (trA (S.D q) x))->∀ z x,look (S.bas (q+1)) z=some x->look sl'' z=some x:=by
     intro sl'' Sk z x hx;have hx:=nT (hbas q hqm) z x hx;rw [rE,rd] at hx;obtain ⟨y,hy,rfl⟩:=hx;exact Sk z y (hK.1 z y hy)
    have hInext:CI ops S (listed.setIfInBounds i true) (q+1):=by
     refine ⟨hqm,λ z k hz=>?_,hclosed⟩;by_cases e:k=i
     ·subst e;have:=jp hnd _ _ _ hz hq;subst this;exact ⟨λ _=>Nat.lt_succ_self _,λ _=>hgeti⟩
     ·rw [getD_set_ne false (λ h=>e h.symm),hI.2.1 z k hz];constructor
      ·intro h; omega
      ·intro h;rcases Nat.lt_or_ge z q with h5|h5
       ·exact h5
       ·have:z=q:=by omega
        subst this;rw [hq] at hz; cases hz; exact absurd rfl e
    have hvnext:∀ k p,listed.getD k false=true->dh fin k=some p->p.2 (q+1)=trA (S.D q) (p.2 q):=by
     intro k p hk hp;have hkl:=hlt k p hp;have hok:=howes' k ops[k] (Array.getElem?_eq_getElem hkl);unfold pO at hok;split at hok
     ·obtain ⟨d,v,e1,_,_,e2,_⟩:=hok;rw [hp] at e1; cases e1;refine e2 q hqm (ph.2 λ p hp'=>?_);obtain ⟨z,hz⟩:=List.mem_iff_getElem?.1 hp';rw [List.getElem?_zipIdx] at hz;simp only [rd,Nat.zero_add] at hz;obtain ⟨x,hx,rfl⟩:=hz
      cases hbx:m9 ops 4 ops[k] x
      ·rfl
      ·have:=(hI.2.1 z x hx).1 (lz hI.2.2 4 _ x hbx (hI.2.2 k _ (Array.getElem?_eq_getElem hkl) hk));simp only [Bool.not_true,Bool.false_or];rw [py]; exact this
     ·rename_i z hz;have hzq:z<q:=(hI.2.1 z k (himp hz)).1 hk;rcases hok with ⟨d,v,e1,_,_,e2,_⟩|⟨e1,_⟩
      ·rw [hp] at e1; cases e1; exact e2 q hzq hqm
      ·rw [hp] at e1; cases e1
    rcases howe with ⟨d,v,hRk,hd,XO,hv,Uv⟩|⟨hRk,hd,Uv⟩
    ·have UD:=Uv sl' hK.1 (λ k' p hb hk'=>hK.2 k' p (hbo k' hb) hk') (λ s=>s=⟨(d,v (q+1))::trL (S.D q) sl',S.obj (q+1)⟩) rfl i ho;refine uc (UD g a w hs) ?_;rintro a' w' ⟨g',s',hs',rfl⟩;refine ih _ g' a' w' ((d,v (q+1))::trL (S.D q) sl') (q+1) (by simpa using Ul) ?_ hInext ⟨λ z x hx=>?_,λ k p hk hp=>?_⟩ hs' hj1
     ·exact yj
     ·rw [aZ,if_neg]
      ·exact KO
      ·intro e; subst e; rw [XO (q+1) (Nat.lt_succ_self q)] at hx; cases hx
     ·rw [aZ];rcases hget k hk with rfl|hk
      ·rw [hRk] at hp; cases hp; rw [if_pos rfl]
      ·rw [if_neg]
       ·rw [rE,hK.2 k p hk hp,hvnext k p hk hp]; rfl
       ·exact JW
    ·have UD:=Uv sl' hK.1 (λ k' p hb hk'=>hK.2 k' p (hbo k' hb) hk') (λ s=>s=⟨trL (S.D q) sl',S.obj (q+1)⟩) rfl i ho;refine uc (UD g a w hs) ?_;rintro a' w' ⟨g',s',hs',rfl⟩;refine ih _ g' a' w' (trL (S.D q) sl') (q+1) (by simpa using Ul) ?_ hInext ⟨λ z x hx=>?_,λ k p hk hp=>?_⟩ hs' hj1
     ·exact yj
     ·exact KO
     ·rcases hget k hk with rfl|hk
      ·rw [hRk] at hp; cases hp
      ·rw [rE,hK.2 k p hk hp,hvnext k p hk hp]; rfl
 have main:∀ (fuel:Nat) (listed:Array Bool) (g:Gh) (a:Act) (w:World) (sl':List (Nat×AV)) (j:Nat),j0<=j->PAt C ops S fin fuel listed g a w sl' j->wpAny C.P .any ops (λ e a' w'=>∃ g' s',St C.n C.w0 C.F g' s' a' w'/\Q e s') fuel listed a w:=by
  intro fuel
  induction fuel with
  | zero=>
   intro listed g a w sl' j hj0 ⟨Ul,hu,hI,hK,hs⟩;have hall:=zm hu;refine ⟨?_,done listed g a w sl' j hall hI hK hs⟩;exact KP
  | succ fuel ih=>
   intro listed g a w sl' j hj0 Ux;exact ⟨λ hr=>done listed g a w sl' j (Ak Ux.sz hord' hr) Ux.inv Ux.kn Ux.st,λ i hi=>step fuel (λ listed g a w sl' j h1 h2=>ih listed g a w sl' j h1 h2) listed g a w sl' j i (.inl hj0) hi Ux⟩
 exact ⟨main,λ fuel listed g a w sl' j i=>step fuel (main fuel) listed g a w sl' j i⟩
theorem PAt.start {C:Cx}{ops:Array Oper}{S:eY}{fin:fQ}{sl:List (Nat×AV)}{g:Gh}{a:Act}{w:World}(hb:eR sl (S.bas 0))(hs:St C.n C.w0 C.F g ⟨sl,S.obj 0⟩ a w) :
  PAt C ops S fin ops.size (Array.replicate ops.size false) g a w sl 0:=by
 refine ⟨by simp,?_,⟨rg _,λ i k hk=>?_,λ k o ho hk=>?_⟩,⟨λ i x hx=>nT hb i x hx,λ k p hk _=>?_⟩,hs⟩
 ·exact HJ
 ·constructor
  ·intro h;exfalso;rw [Array.getD_eq_getD_getElem?,Array.getElem?_replicate] at h;split at h <;> simp at h
  ·intro h; omega
 ·exact KQ
 ·exact KQ
theorem FP {C:Cx}{id:Nat}{ops:Array Oper}{Q:Exit->AS->Prop}{sl:List (Nat×AV)}{ob:List (Nat×List AV)}(S:eY)(hm:C.P.follows .mixedOrders=true)(M':S.imp.length=S.m)(hob:S.obj 0=ob)(hb:eR sl (S.bas 0))
  (hbas:∀ j,j<S.m->eR (trL (S.D j) (S.bas j)) (S.bas (j+1))) (hnd:nodupB S.imp=true) (hin:S.imp.all (λ i=>Nat.blt i ops.size)=true) (hch:chainB ops S.imp=true)
  (hord:(ops.toList.zipIdx.all λ p=>p.1.after.toList.all λ e=>!(Region.binds .any e)||Nat.blt e.on p.2)=true) (h:DS C ops S (λ rev=>Q .normal ⟨dD rev S.m++S.bas S.m,S.obj S.m⟩) ops.toList 0 []):awp C (.region id ops true) Q ⟨sl,ob⟩:=by
 subst hob;intro g a w hs;obtain ⟨fin,hfin,hP⟩:=Ax.mk' M' hbas hnd hin hord h;refine wp_region_any hm ?_;refine (oH hP (AS.le_refl _) hfin 0 ?_).1 _ _ g a _ sl 0 (rg _) (PAt.start hb hs.drew);intro fuel listed g a w sl' j _ Ux i q hi hq hjq;exfalso;obtain ⟨h1,o,ho,hafter⟩:=mem_ready.1 hi
 cases q with
 | zero=>omega
 | succ q=>
  have hql:q<S.imp.length:=by have:=(List.getElem?_eq_some_iff.1 hq).1; omega
  have hb:=kl hch q S.imp[q] i o (List.getElem?_eq_getElem hql) hq ho;have h3:=lz Ux.inv.2.2 4 o S.imp[q] hb hafter;have:=(Ux.inv.2.1 q S.imp[q] (List.getElem?_eq_getElem hql)).1 h3;omega
def sH (imp:List Nat):fQ->fQ->Prop|(k,d,v)::r,(k',d',v')::r'=>(k=k'/\d=d'/\(imp.any (Nat.beq k)=true\/v 0=v' 0))/\sH imp r r'|[],[]=>True|_,_=>False
theorem tP {imp:List Nat}:∀ {r1 r2:fQ},sH imp r1 r2->∀ k p,imp.any (Nat.beq k)=false->dh r2 k=some p->∃ v,dh r1 k=some (p.1,v)/\v 0=p.2 0
 | [],[],_,k,p,_,h=>by cases h
 | (k1,d1,v1)::r,(k2,d2,v2)::r',⟨⟨e1,e2,e3⟩,hr⟩,k,p,hk,h=>by
  subst e1 e2;simp only [dh] at h ⊢
  cases hb:Nat.beq k1 k
  ·rw [hb,cond_false] at h;rw [cond_false];exact tP hr k p hk h
  ·exact GY
 | [],_::_,h,_,_,_,_=>h.elim
 | _::_,[],h,_,_,_,_=>h.elim
theorem Bt {C:Cx}{id:Nat}{ops:Array Oper}{Q:Exit->AS->Prop}{sl:List (Nat×AV)}{ob:List (Nat×List AV)}(S1 S2:eY){k1 k2:Nat}{r:List Nat}(hm:C.P.follows .mixedOrders=true)
  (hi1:S1.imp=k1::k2::r) (hi2:S2.imp=k2::k1::r) (hlen1:S1.imp.length=S1.m) (hlen2:S2.imp.length=S2.m) (hob1:S1.obj 0=ob) (hob2:S2.obj 0=ob) (hb:eR sl (S1.bas 0)) (hb2:S2.bas 0=S1.bas 0)
  (hbas1:∀ j,j<S1.m->eR (trL (S1.D j) (S1.bas j)) (S1.bas (j+1))) (hbas2:∀ j,j<S2.m->eR (trL (S2.D j) (S2.bas j)) (S2.bas (j+1)))
  (hnd:nodupB (k1::k2::r)=true) (hin:(k1::k2::r).all (λ i=>Nat.blt i ops.size)=true) (hch1:chainB ops (k1::r)=true) (hch2:chainB ops (k2::r)=true)
  (hord:(ops.toList.zipIdx.all λ p=>p.1.after.toList.all λ e=>!(Region.binds .any e)||Nat.blt e.on p.2)=true)
  (h:DS C ops S1 (λ rev1=>Q .normal ⟨dD rev1 S1.m++S1.bas S1.m,S1.obj S1.m⟩/\DS C ops S2 (λ rev2=>(⟨dD rev2 S2.m++S2.bas S2.m,S2.obj S2.m⟩:AS).le ⟨dD rev1 S1.m++S1.bas S1.m,S1.obj S1.m⟩/\sH (k1::k2::r) rev1 rev2) ops.toList 0 []) ops.toList 0 []):awp C (.region id ops true) Q ⟨sl,ob⟩:=by
 intro g a w hs
 have hnd2:nodupB S2.imp=true:=by
  rw [hi2];simp only [nodupB,List.any_cons,Bool.not_or,n8,Bool.not_eq_true'] at hnd ⊢;obtain ⟨⟨a1,a2⟩,a3,a4⟩:=hnd;refine ⟨⟨?_,a3⟩,a2,a4⟩;exact Iz
 have hin2:S2.imp.all (λ i=>Nat.blt i ops.size)=true:=by
  rw [hi2];simp only [List.all_cons,n8] at hin ⊢;exact ⟨hin.2.1,hin.1,hin.2.2⟩
 obtain ⟨fin1,⟨hf1,h2⟩,hP1⟩:=Ax.mk' hlen1 hbas1 (by rw [hi1]; exact hnd) (by rw [hi1]; exact hin) hord h;obtain ⟨fin2,⟨hf2,hag⟩,hP2⟩:=Ax.mk' hlen2 hbas2 hnd2 hin2 hord h2
 -- behind the first change the others come in order
 have chain:∀ (x y:Nat) (S:eY),S.imp=x::y::r->chainB ops (y::r)=true->chainB ops (x::r)=true->∀ (listed:Array Bool) (j i q:Nat),CI ops S listed j->i∈Region.ready .any ops listed->S.imp[q]? = some i->j<q->q=1/\j=0:=by
  intro x y S hS hcy hcx listed j i q hI hi hq hjq;obtain ⟨h1,o,ho,hafter⟩:=mem_ready.1 hi
  have use:∀ z zi,S.imp[z]? = some zi->m9 ops 4 o zi=true->z<j:=by
   exact JK
  match q,hq,hjq with
  | 0,_,hjq=>omega
  | 1,_,hjq=>exact ⟨Z,by omega⟩
  | q+2,hq,hjq=>
   exfalso;rw [hS] at hq;simp only [List.getElem?_cons_succ] at hq;have hql:q<r.length:=(List.getElem?_eq_some_iff.1 hq).1
   cases q with
   | zero=>
    have b1:=kl hcy 0 y i o Z qM ho;have:=use 1 y (by rw [hS]; rfl) b1;have b2:=kl hcx 0 x i o Z qM ho;omega
   | succ q=>
    have b1:=kl hcy (q+1) r[q] i o (by simp [List.getElem?_eq_getElem (show q<r.length by omega)]) qM ho;have:=use (q+2) r[q] (by rw [hS]; simp [List.getElem?_eq_getElem (show q<r.length by omega)]) b1;omega
 have two:=oH hP2 hf2 hf1 1 (λ fuel listed g a w sl' j hj Ux i q hi hq hjq=>by
  have:=chain k2 k1 S2 hi2 hch1 hch2 listed j i q Ux.inv hi hq hjq; omega)
 refine wp_region_any hm ?_;refine (oH hP1 (AS.le_refl _) hf1 0 ?_).1 _ _ g a _ sl 0 (rg _) (PAt.start hb (by rw [hob1]; exact hs.drew));intro fuel listed g a w sl' j _ Ux i q hi hq hjq;obtain ⟨rfl,rfl⟩:=chain k1 k2 S1 hi1 hch2 hch1 listed j i q Ux.inv hi hq hjq;have UA:i=k2:=by rw [hi1] at hq; simpa using hq.symm
 subst UA
 have hno:∀ k,(k1::i::r).any (Nat.beq k)=true->listed.getD k false=false:=by
  intro k hk;obtain ⟨x,hx,hkx⟩:=List.any_eq_true.1 hk;have:=la hkx;subst this;obtain ⟨z,hz⟩:=List.mem_iff_getElem?.1 hx;have:=Ux.inv.2.1 z k (by rw [hi1]; exact hz);exact Jd
 refine two.2 fuel listed g a w sl' 0 i (.inr ⟨bx _,by rw [hi2]; rfl⟩) hi ⟨Ux.sz,Ux.un,⟨rg _,λ z k hz=>?_,Ux.inv.2.2⟩,⟨λ z x hx=>Ux.kn.1 z x (by rw [<- hb2]; exact hx),λ k p hk hp=>?_⟩,by rw [hob2,<- hob1]; exact Ux.st⟩
 ·constructor
  ·intro hl
   have hmem:k∈(k1::i::r):=by
    have:=List.mem_of_getElem? hz;rw [hi2] at this;exact Jc
   rw [hno k (List.any_eq_true.2 ⟨k,hmem,by simp⟩)] at hl
   cases hl
  ·intro h; omega
 ·have hk':(k1::i::r).any (Nat.beq k)=false:=by
   exact JF
  obtain ⟨v,hv1,hv2⟩:=tP hag k p hk' hp;have:=Ux.kn.2 k _ hk hv1;rw [<- hv2]; exact this
def xR (P:Program)(f:FuncId)(args:List AV)(R:AV->Prop):Prop :=∀ (w:World) (st:Nat->Nat->Prop) (vs:Array Value),Ok0 w st->vs.size=args.length -> (∀ (i:Nat) c v,args[i]? = some c->vs[i]? = some v->ARep w ⟨st,λ _=>none⟩ c v) -> Calls P f vs w λ e w'=>∃ v r g',e=.returned v/\R r/\ARep w' g' r v/\After w st w' g'
theorem xR.of_sub {P:Program}{f:FuncId}{args:List AV}{r:AV}(h:xR P f args (λ x=>x.sub r)):xR P f args (·=r) :=
 λ w st vs h0 h1 h2=>(h w st vs h0 h1 h2).mono λ _e _w' ⟨v,_,g',h3,h4,h5,h6⟩=>⟨v,r,g',h3,Z,h4 _ _ _ h5,h6⟩
theorem bG.q {P:Program}{f:FuncId}{args:List PV}{R:AV->Prop}(h:bG P f args R):xR P f (args.map .p) R:=by
 intro w st vs h0 h1 h2;refine h w st vs h0 (by simpa using h1) λ i c v hc hv=>?_;have:=h2 i (.p c) v (by simp [hc]) hv;exact xy
section
variable {C:Cx} {o:Oper} {K:AS->Prop} {sl:List (Nat×AV)} {ob:List (Nat×List AV)} {d:Nat}
theorem Au {F:FuncId}{caps:Array Operand}{l:List AV}(ho:o.op=.makeFunc (.func F) #[] caps)(hd:o.dst=some d)(hn:Nat.blt d C.n=true)(hl:kW sl caps.toList=some l)
  (hK:K ⟨(d,.func (.func F) l)::sl,ob⟩):bc C o K ⟨sl,ob⟩:=by
 refine ok_one hd hn (λ g a w hs=>?_) hK;obtain ⟨a1,a2⟩:=lq hs _ l hl;refine ⟨.func (.func F) #[] (caps.map a.eval),by simp [execOp,ho,Instr.makeFunc],.func (by have:=a1.symm; simpa using this) λ i c v hc hv=>a2 i c v hc Cg⟩
end
end Go.Ab
namespace Go.Ab
def by2 {α:Type}(a b:α):Nat->α|0=>a|_+1=>b
def by3 {α:Type}(a b c:α):Nat->α|0=>a|1=>b|_+2=>c
def by4 {α:Type}(a b c e:α):Nat->α|0=>a|1=>b|2=>c|_+3=>e
def by5 {α:Type}(a0 a1 a2 a3 a4:α):Nat->α|0=>a0|1=>a1|2=>a2|3=>a3|_+4=>a4
theorem Hg {p:Nat->Prop}(h0:p 0)(h1:∀ j,p (j+1)):∀ j,p j
 | 0=>h0
 | j+1=>h1 j
theorem all3 {p:Nat->Prop}(h0:p 0)(h1:p 1)(h2:∀ j,p (j+2)):∀ j,p j
 | 0=>h0
 | 1=>h1
 | j+2=>h2 j
theorem F4 {p:Nat->Prop}(h0:p 0)(h1:p 1)(h2:p 2)(h3:∀ j,p (j+3)):∀ j,p j
 | 0=>h0
 | 1=>h1
 | 2=>h2
 | j+3=>h3 j
theorem all5 {p:Nat->Prop}(h0:p 0)(h1:p 1)(h2:p 2)(h3:p 3)(h4:∀ j,p (j+4)):∀ j,p j
 | 0=>h0
 | 1=>h1
 | 2=>h2
 | 3=>h3
 | j+4=>h4 j
theorem lt1 {p:Nat->Prop}(h0:p 0):∀ j,j<1->p j
 | 0,_=>h0
 | j+1,h=>absurd h O
theorem lt2 {p:Nat->Prop}(h0:p 0)(h1:p 1):∀ j,j<2->p j
 | 0,_=>h0
 | 1,_=>h1
 | j+2,h=>absurd h O
theorem lt3 {p:Nat->Prop}(h0:p 0)(h1:p 1)(h2:p 2):∀ j,j<3->p j
 | 0,_=>h0
 | 1,_=>h1
 | 2,_=>h2
 | j+3,h=>absurd h O
theorem lt4 {p:Nat->Prop}(h0:p 0)(h1:p 1)(h2:p 2)(h3:p 3):∀ j,j<4->p j
 | 0,_=>h0
 | 1,_=>h1
 | 2,_=>h2
 | 3,_=>h3
 | j+4,h=>absurd h O
def Stg (C:Cx)(ops:Array Oper)(S:eY)(o:Oper)(k:Nat)(rev:fQ)(d:Nat)(v:Nat->AV):Nat->Prop|0=>True|j+1=>(nG ops S.imp o k j=true->∃ kn,KnS (S.bas j) o rev j kn/\pJ C ops (S.obj j) o kn d (v j))/\Stg C ops S o k rev d v j
section
variable {C:Cx} {ops:Array Oper} {S:eY} {K:fQ->Prop} {o:Oper} {k:Nat} {rev:fQ} {d:Nat} {v:Nat->AV}
theorem lA:Stg C ops S o k rev d v 0:=trivial
theorem iW {j:Nat}(h:nG ops S.imp o k j=false)(r:Stg C ops S o k rev d v j):Stg C ops S o k rev d v (j+1):=⟨λ h'=>(Bool.noConfusion (h.symm.trans h')),r⟩
theorem hQ {j:Nat}(kn:List (Nat×AV))(h1:KnS (S.bas j) o rev j kn)(h2:pJ C ops (S.obj j) o kn d (v j))(r:Stg C ops S o k rev d v j):Stg C ops S o k rev d v (j+1):=⟨λ _=>⟨kn,h1,h2⟩,r⟩
theorem CV:∀ {m:Nat},Stg C ops S o k rev d v m->∀ j,j<m->nG ops S.imp o k j=true->∃ kn,KnS (S.bas j) o rev j kn/\pJ C ops (S.obj j) o kn d (v j)
 | 0,_,j,h,_=>absurd h (Nat.not_lt_zero _)
 | m+1,hm,j,h,ha=>by
  by_cases e:j=m
  ·subst e; exact hm.1 ha
  ·exact CV hm.2 j O ha
theorem jU {rest:List Oper}(v:Nat->AV)(hk:S.imp.findIdx? (Nat.beq k)=none)(hd:o.dst=some d)(hf:(rev.all λ p=>!(Nat.beq p.2.1 d))=true)(hb:∀ j,look (S.bas j) d=none)(hv:∀ j,j<S.m->v (j+1)=trA (S.D j) (v j))
  (hs:Stg C ops S o k rev d v (S.m+1)) (h:DS C ops S K rest (k+1) ((k,d,v)::rev)):DS C ops S K (o::rest) k rev:=by
 unfold DS;rw [hk];exact ⟨d,v,hd,hf,hb,λ j hj _=>hv j hj,λ j hj ha=>CV hs j O ha,h⟩
theorem rt {rest:List Oper}(v:Nat->AV)(hk:S.imp.findIdx? (Nat.beq k)=none)(hd:o.dst=some d)(hf:(rev.all λ p=>!(Nat.beq p.2.1 d))=true)(hb:∀ j,look (S.bas j) d=none)(hv:∀ j,j<S.m->loB ops S.imp o j=true->v (j+1)=trA (S.D j) (v j))
  (hs:Stg C ops S o k rev d v (S.m+1)) (h:DS C ops S K rest (k+1) ((k,d,v)::rev)):DS C ops S K (o::rest) k rev:=by
 unfold DS;rw [hk];exact ⟨d,v,hd,hf,hb,hv,λ j hj ha=>CV hs j O ha,h⟩
theorem nl {b:Bool}{p:Prop}(hb:b=false)(h:b=true):p:=Bool.noConfusion (hb.symm.trans h)
theorem ra {rest:List Oper}{i:Nat}(v:Nat->AV)(kn:List (Nat×AV))(hk:S.imp.findIdx? (Nat.beq k)=some i)(hkn:KnS (S.bas i) o rev i kn)(hd:o.dst=some d)(hf:(rev.all λ p=>!(Nat.beq p.2.1 d))=true)(hb:∀ j,look (S.bas (j+(i+1))) d=none)
  (hv:∀ j,j<S.m->i<j->v (j+1)=trA (S.D j) (v j))
  (Uv:∀ sl,(∀ i x,look kn i=some x->look sl i=some x)->∀ K:AS->Prop,K ⟨(d,v (i+1))::trL (S.D i) sl,S.obj (i+1)⟩->One C ops o K ⟨sl,S.obj i⟩) (h:DS C ops S K rest (k+1) ((k,d,v)::rev)):DS C ops S K (o::rest) k rev:=by
 unfold DS;rw [hk];exact ⟨kn,hkn,.inl ⟨d,v,hd,hf,λ j hj=>by have:=hb (j-(i+1)); rwa [show j-(i+1)+(i+1)=j by omega] at this,λ j h1 h2=>hv j h2 h1,Uv,h⟩⟩
theorem lZ {rest:List Oper}{i:Nat}(kn:List (Nat×AV))(hk:S.imp.findIdx? (Nat.beq k)=some i)(hkn:KnS (S.bas i) o rev i kn)(hd:o.dst=none)
  (Uv:∀ sl,(∀ i x,look kn i=some x->look sl i=some x)->∀ K:AS->Prop,K ⟨trL (S.D i) sl,S.obj (i+1)⟩->One C ops o K ⟨sl,S.obj i⟩) (h:DS C ops S K rest (k+1) rev):DS C ops S K (o::rest) k rev:=by
 unfold DS;rw [hk];exact ⟨kn,hkn,.inr ⟨hd,Uv,h⟩⟩
theorem eT (h:K rev):DS C ops S K [] k rev:=h
theorem xL {K1 K2:fQ->Prop}(h2:K2 rev)(h:K1 rev):DS C ops S (λ rev=>K1 rev/\K2 rev) [] k rev:=⟨h,h2⟩
end
theorem d5 {sl:List (Nat×AV)}{k:Nat}:om sl k []=some []:=rfl
theorem cU {sl:List (Nat×AV)}{k:Nat}{x:Operand}{r:List (Nat×Operand)}{y:AV}{z:PV}{l:List PV}(h1:evo sl x=some y)(h2:y.toPV=some z)(h3:om sl (k+1) r=some l):om sl k ((k,x)::r)=some (z::l):=by
 have hb:Nat.beq k k=true:=by simp
 simp only [om,hb,cond_true,h1,h3,h2]
theorem sG {C:Cx}{c:Code}{Q:Exit->AS->Prop}{s:AS}(h:awp C c (λ e s=>∃ t,cO C s t/\Q e t) s):awp C c Q s:=by
 intro g a w hs;refine wp_mono (h g a w hs) ?_;rintro e a' w' ⟨g',s',h3,t,hg,hq⟩;obtain ⟨g2,h4⟩:=hg g' a' w' h3;exact ⟨g2,t,h4,hq⟩
def vE (C:Cx)(tt:List (Nat×TI))(fn:Func)(ts ids:List Nat)(r:AV)(rob:List (Nat×List AV))(e:Exit)(s:AS):Prop :=∃ t,cO C s t/\wC tt fn ts ids (λ x y=>x.sub r/\leO y rob) e t
theorem sw {P:Program}{tt:List (Nat×TI)}(good:cS P tt){f:FuncId}{fn:Func}{c:Code}{args:List AV}{Uz rob:List (Nat×List AV)}{r:AV}(ts ids:List Nat)(hf:P.funcs[f]? = some fn)(hb:fn.body=some c)
  (hn:Nat.ble args.length fn.ntmps=true) (hnl:Nat.ble fn.ntmps M1=true) (hts:ts.all (λ i=>Nat.blt i M1)=true) (hnd:nodupB ts=true)
  (h:∀ w0 F,awp ⟨P,tt,good,fn.ntmps,hnl,w0,F⟩ c (vE ⟨P,tt,good,fn.ntmps,hnl,w0,F⟩ tt fn ts ids r rob) ⟨iu args,Uz⟩):co P f args Uz (λ x y=>x=r/\y=rob) :=
 Rq good ts ids hf hb hn hnl hts hnd λ w0 F=>sG (h w0 F)
theorem Oz {C:Cx}{tt:List (Nat×TI)}{fn:Func}{ts ids:List Nat}{r r1:AV}{rob Uz obs':List (Nat×List AV)}{s t:AS}{l:List AV}(hg:cO C s t)(h1:nh tt fn.results.toList t=some l)(h2:(qW l).mapA (nC ts)=some r1)
  (h3:iA t.ob ids=some Uz) (h4:il (nC ts) Uz=some obs') (h5:r1.sub r) (h6:leO obs' rob):vE C tt fn ts ids r rob .ret s:=⟨t,hg,Kw h1 h2 h3 h4 ⟨h5,h6⟩⟩
theorem NA {C:Cx}{tt:List (Nat×TI)}{fn:Func}{ts ids:List Nat}{r r1:AV}{rob Uz obs':List (Nat×List AV)}{s t:AS}{l:List AV}(hg:cO C s t)(h1:nh tt fn.results.toList t=some l)(h2:(qW l).mapA (nC ts)=some r1)
  (h3:iA t.ob ids=some Uz) (h4:il (nC ts) Uz=some obs') (h5:r1.sub r) (h6:leO obs' rob):vE C tt fn ts ids r rob .normal s:=⟨t,hg,G1 h1 h2 h3 h4 ⟨h5,h6⟩⟩
section
variable {C:Cx} {o:Oper} {K:AS->Prop} {sl:List (Nat×AV)} {ob:List (Nat×List AV)} {d:Nat}
theorem jt {a:Int}(h:inR a):IntKind.wrap .i64 a=a:=IntWalk.i64_in a h
def dvI:BinOp->Int->Int->Option Int|.rem,a,b=>some (a.tmod b)|.quo,a,b=>some (IntKind.wrap .i64 (a.tdiv b))|_,_,_=>none
theorem Jz {P:Program}{w:World}{op:BinOp}{t:TypeId}{a b c:Int}(hb:b≠0)(h:dvI op a b=some c) :
  (binOp op t (.int .i64 a) (.int .i64 b)).run P w=.ok (.int .i64 c) w:=by
 cases op <;> simp only [dvI,bt,reduceCtorEq] at h <;> subst h <;> simp [binOp,Op.intDiv,hb]
theorem LA {op:BinOp}{t t':TypeId}{x y:Operand}{a b c:Int}(ho:o.op=.binOp op t x y t')(hd:o.dst=some d)(hn:Nat.blt d C.n=true)
  (hx:evo sl x=some (.p (.val (.int .i64 a)))) (hy:evo sl y=some (.p (.val (.int .i64 b)))) (hc:dvI op a b=some c) (hb:b≠0)
  (hK:K ⟨(d,.p (.val (.int .i64 c)))::sl,ob⟩):bc C o K ⟨sl,ob⟩ :=
 ok_one hd hn (λ g a w hs=>⟨_,by
  simp only [execOp,ho,b8 hs hx,b8 hs hy,Sem.run_bind,lW,Result.andThen_ok,Jz hb hc,Sem.run_pure],.p (.val _)⟩) hK
end
open Go.Proofs
def tt:List (Nat×TI):=[(2,⟨.int .i64,1,8,[.int .i64 0]⟩),(3,⟨.int .i64,1,8,[.int .i64 0]⟩),(4,⟨.bool,1,1,[.bool false]⟩),(5,⟨.int .u8,1,1,[.int .u8 0]⟩),(6,⟨.int .u8,1,1,[.int .u8 0]⟩),(7,⟨.struct [(0,2),(1,3),(2,4),(3,6)],4,24,[.int .i64 0,.int .i64 0,.bool false,.int .u8 0]⟩),(8,⟨.struct [(0,2),(1,3),(2,4),(3,6)],4,24,[.int .i64 0,.int .i64 0,.bool false,.int .u8 0]⟩),(9,⟨.string,1,16,[.string ⟨#[]⟩]⟩),(10,⟨.string,1,16,[.string ⟨#[]⟩]⟩),(11,⟨.string,1,16,[.string ⟨#[]⟩]⟩),(12,⟨.int .u64,1,8,[.int .u64 0]⟩),(13,⟨.struct [(0,9),(1,12)],2,24,[.string ⟨#[]⟩,.int .u64 0]⟩),(14,⟨.struct [(0,9),(1,12)],2,24,[.string ⟨#[]⟩,.int .u64 0]⟩),(15,⟨.ptr 219,1,8,[.pointer none]⟩),(16,⟨.ptr 222,1,8,[.pointer none]⟩),(17,⟨.ptr 229,1,8,[.pointer none]⟩),(18,⟨.struct [(0,17)],1,8,[.pointer none]⟩),(19,⟨.struct [(0,17)],1,8,[.pointer none]⟩),(20,⟨.iface,1,16,[.nilIface]⟩),(21,⟨.int .i32,1,4,[.int .i32 0]⟩),(22,⟨.int .i64,1,8,[.int .i64 0]⟩),(23,⟨.int .i64,1,8,[.int .i64 0]⟩),(24,⟨.int .i64,1,8,[.int .i64 0]⟩),(25,⟨.slice 28,1,24,[.slice none 0 0]⟩),(26,⟨.slice 9,1,24,[.slice none 0 0]⟩),(27,⟨.struct [(0,24),(1,3),(2,9),(3,25),(4,26)],5,80,[.int .i64 0,.int .i64 0,.string ⟨#[]⟩,.slice none 0 0,.slice none 0 0]⟩),(28,⟨.struct [(0,24),(1,3),(2,9),(3,25),(4,26)],5,80,[.int .i64 0,.int .i64 0,.string ⟨#[]⟩,.slice none 0 0,.slice none 0 0]⟩),(29,⟨.slice 31,1,24,[.slice none 0 0]⟩),(30,⟨.struct [(0,22),(1,23),(2,9),(3,9),(4,28),(9,29),(10,3)],11,160,[.int .i64 0,.int .i64 0,.string ⟨#[]⟩,.string ⟨#[]⟩,.int .i64 0,.int .i64 0,.string ⟨#[]⟩,.slice none 0 0,.slice none 0 0,.slice none 0 0,.int .i64 0]⟩),(31,⟨.struct [(0,22),(1,23),(2,9),(3,9),(4,28),(9,29),(10,3)],11,160,[.int .i64 0,.int .i64 0,.string ⟨#[]⟩,.string ⟨#[]⟩,.int .i64 0,.int .i64 0,.string ⟨#[]⟩,.slice none 0 0,.slice none 0 0,.slice none 0 0,.int .i64 0]⟩),(34,⟨.int .i64,1,8,[.int .i64 0]⟩),(38,⟨.struct [(0,34),(1,3),(2,9)],3,32,[.int .i64 0,.int .i64 0,.string ⟨#[]⟩]⟩),(39,⟨.struct [(0,34),(1,3),(2,9)],3,32,[.int .i64 0,.int .i64 0,.string ⟨#[]⟩]⟩),(49,⟨.slice 87,1,24,[.slice none 0 0]⟩),(56,⟨.ptr 58,1,8,[.pointer none]⟩),(57,⟨.struct [(0,3)],1,8,[.int .i64 0]⟩),(58,⟨.struct [(0,3)],1,8,[.int .i64 0]⟩),(63,⟨.ptr 65,1,8,[.pointer none]⟩),(64,⟨.struct [(0,49),(1,3),(2,3),(3,39)],6,72,[.slice none 0 0,.int .i64 0,.int .i64 0,.int .i64 0,.int .i64 0,.string ⟨#[]⟩]⟩),(65,⟨.struct [(0,49),(1,3),(2,3),(3,39)],6,72,[.slice none 0 0,.int .i64 0,.int .i64 0,.int .i64 0,.int .i64 0,.string ⟨#[]⟩]⟩),(67,⟨.ptr 69,1,8,[.pointer none]⟩),(68,⟨.struct [(0,9),(1,3),(2,3),(3,3),(4,9),(5,29),(6,4)],7,88,[.string ⟨#[]⟩,.int .i64 0,.int .i64 0,.int .i64 0,.string ⟨#[]⟩,.slice none 0 0,.bool false]⟩),(69,⟨.struct [(0,9),(1,3),(2,3),(3,3),(4,9),(5,29),(6,4)],7,88,[.string ⟨#[]⟩,.int .i64 0,.int .i64 0,.int .i64 0,.string ⟨#[]⟩,.slice none 0 0,.bool false]⟩),(80,⟨.ptr 84,1,8,[.pointer none]⟩),(82,⟨.array 256 5,256,256,List.replicate 256 (.int .u8 0)⟩),(84,⟨.struct [(0,9),(1,3),(2,82),(258,3),(259,39)],262,320,[.string ⟨#[]⟩,.int .i64 0]++List.replicate 256 (.int .u8 0)++[.int .i64 0,.int .i64 0,.int .i64 0,.string ⟨#[]⟩]⟩),(85,⟨.int .i64,1,8,[.int .i64 0]⟩),(86,⟨.struct [(0,85),(1,9),(2,3)],3,32,[.int .i64 0,.string ⟨#[]⟩,.int .i64 0]⟩),(87,⟨.struct [(0,85),(1,9),(2,3)],3,32,[.int .i64 0,.string ⟨#[]⟩,.int .i64 0]⟩),(90,⟨.ptr 93,1,8,[.pointer none]⟩),(91,⟨.slice 5,1,24,[.slice none 0 0]⟩),(92,⟨.struct [(0,90),(1,91)],2,32,[.pointer none,.slice none 0 0]⟩),(93,⟨.struct [(0,90),(1,91)],2,32,[.pointer none,.slice none 0 0]⟩),(95,⟨.iface,1,16,[.nilIface]⟩),(96,⟨.iface,1,16,[.nilIface]⟩),(106,⟨.ptr 108,1,8,[.pointer none]⟩),(107,⟨.struct [(0,49),(1,3),(2,3),(3,3),(4,39)],7,80,[.slice none 0 0,.int .i64 0,.int .i64 0,.int .i64 0,.int .i64 0,.int .i64 0,.string ⟨#[]⟩]⟩),(108,⟨.struct [(0,49),(1,3),(2,3),(3,3),(4,39)],7,80,[.slice none 0 0,.int .i64 0,.int .i64 0,.int .i64 0,.int .i64 0,.int .i64 0,.string ⟨#[]⟩]⟩),(123,⟨.ptr 5,1,8,[.pointer none]⟩),(140,⟨.array 7 9,7,112,[.string ⟨#[]⟩,.string ⟨#[]⟩,.string ⟨#[]⟩,.string ⟨#[]⟩,.string ⟨#[]⟩,.string ⟨#[]⟩,.string ⟨#[]⟩]⟩),(152,⟨.other,1,8,[.nilFunc]⟩),(160,⟨.array 13 9,13,208,[.string ⟨#[]⟩,.string ⟨#[]⟩,.string ⟨#[]⟩,.string ⟨#[]⟩,.string ⟨#[]⟩,.string ⟨#[]⟩,.string ⟨#[]⟩,.string ⟨#[]⟩,.string ⟨#[]⟩,.string ⟨#[]⟩,.string ⟨#[]⟩,.string ⟨#[]⟩,.string ⟨#[]⟩]⟩),(166,⟨.int .u64,1,8,[.int .u64 0]⟩),(167,⟨.struct [(0,5),(1,5)],2,2,[.int .u8 0,.int .u8 0]⟩),(168,⟨.struct [(0,5),(1,5)],2,2,[.int .u8 0,.int .u8 0]⟩),(169,⟨.array 16 168,32,32,[.int .u8 0,.int .u8 0,.int .u8 0,.int .u8 0,.int .u8 0,.int .u8 0,.int .u8 0,.int .u8 0,.int .u8 0,.int .u8 0,.int .u8 0,.int .u8 0,.int .u8 0,.int .u8 0,.int .u8 0,.int .u8 0,.int .u8 0,.int .u8 0,.int .u8 0,.int .u8 0,.int .u8 0,.int .u8 0,.int .u8 0,.int .u8 0,.int .u8 0,.int .u8 0,.int .u8 0,.int .u8 0,.int .u8 0,.int .u8 0,.int .u8 0,.int .u8 0]⟩),(176,⟨.int .u32,1,4,[.int .u32 0]⟩),(191,⟨.int .u64,1,8,[.int .u64 0]⟩),(192,⟨.int .i64,1,8,[.int .i64 0]⟩),(195,⟨.ptr 200,1,8,[.pointer none]⟩),(199,⟨.struct [(0,9),(1,9),(2,96)],3,48,[.string ⟨#[]⟩,.string ⟨#[]⟩,.nilIface]⟩),(200,⟨.struct [(0,9),(1,9),(2,96)],3,48,[.string ⟨#[]⟩,.string ⟨#[]⟩,.nilIface]⟩),(202,⟨.ptr 204,1,8,[.pointer none]⟩),(203,⟨.struct [(0,9)],1,16,[.string ⟨#[]⟩]⟩),(204,⟨.struct [(0,9)],1,16,[.string ⟨#[]⟩]⟩),(206,⟨.array 24 5,24,24,[.int .u8 0,.int .u8 0,.int .u8 0,.int .u8 0,.int .u8 0,.int .u8 0,.int .u8 0,.int .u8 0,.int .u8 0,.int .u8 0,.int .u8 0,.int .u8 0,.int .u8 0,.int .u8 0,.int .u8 0,.int .u8 0,.int .u8 0,.int .u8 0,.int .u8 0,.int .u8 0,.int .u8 0,.int .u8 0,.int .u8 0,.int .u8 0]⟩),(212,⟨.array 20 191,20,160,[.int .u64 0,.int .u64 0,.int .u64 0,.int .u64 0,.int .u64 0,.int .u64 0,.int .u64 0,.int .u64 0,.int .u64 0,.int .u64 0,.int .u64 0,.int .u64 0,.int .u64 0,.int .u64 0,.int .u64 0,.int .u64 0,.int .u64 0,.int .u64 0,.int .u64 0,.int .u64 0]⟩),(216,⟨.array 32 5,32,32,[.int .u8 0,.int .u8 0,.int .u8 0,.int .u8 0,.int .u8 0,.int .u8 0,.int .u8 0,.int .u8 0,.int .u8 0,.int .u8 0,.int .u8 0,.int .u8 0,.int .u8 0,.int .u8 0,.int .u8 0,.int .u8 0,.int .u8 0,.int .u8 0,.int .u8 0,.int .u8 0,.int .u8 0,.int .u8 0,.int .u8 0,.int .u8 0,.int .u8 0,.int .u8 0,.int .u8 0,.int .u8 0,.int .u8 0,.int .u8 0,.int .u8 0,.int .u8 0]⟩),(218,⟨.struct [(0,17),(1,17),(2,17),(3,9)],4,40,[.pointer none,.pointer none,.pointer none,.string ⟨#[]⟩]⟩),(219,⟨.struct [(0,17),(1,17),(2,17),(3,9)],4,40,[.pointer none,.pointer none,.pointer none,.string ⟨#[]⟩]⟩),(220,⟨.array 0 16,0,0,[]⟩),(221,⟨.struct [(0,220)],0,0,[]⟩),(222,⟨.struct [(0,220)],0,0,[]⟩),(223,⟨.int .u8,1,1,[.int .u8 0]⟩),(224,⟨.int .u8,1,1,[.int .u8 0]⟩),(226,⟨.int .i32,1,4,[.int .i32 0]⟩),(227,⟨.int .i32,1,4,[.int .i32 0]⟩),(228,⟨.struct [(0,12),(1,12),(2,176),(3,223),(4,5),(5,5),(6,224),(7,225),(8,123),(9,226),(10,227)],11,48,[.int .u64 0,.int .u64 0,.int .u32 0,.int .u8 0,.int .u8 0,.int .u8 0,.int .u8 0,.nilFunc,.pointer none,.int .i32 0,.int .i32 0]⟩),(229,⟨.struct [(0,12),(1,12),(2,176),(3,223),(4,5),(5,5),(6,224),(7,225),(8,123),(9,226),(10,227)],11,48,[.int .u64 0,.int .u64 0,.int .u32 0,.int .u8 0,.int .u8 0,.int .u8 0,.int .u8 0,.nilFunc,.pointer none,.int .i32 0,.int .i32 0]⟩)]
theorem good:cS Tryz.prog tt:=by
 unfold tt;simp only [cS];refine ⟨?_,?_,?_,?_,?_,?_,?_,?_,?_,?_,?_,?_,?_,?_,?_,?_,?_,?_,?_,?_,?_,?_,?_,?_,?_,?_,?_,?_,?_,?_,?_,?_,?_,?_,?_,?_,?_,?_,?_,?_,?_,?_,?_,?_,?_,?_,?_,?_,?_,?_,?_,?_,?_,?_,?_,?_,?_,?_,?_,?_,?_,?_,?_,?_,?_,?_,?_,?_,?_,?_,?_,?_,?_,?_,?_,?_,?_,?_,?_,?_,?_,?_,?_,?_,?_,?_,?_,?_,?_,trivial⟩
 all_goals exact ⟨by kernel_rfl,by kernel_rfl⟩
end Go.Ab
end
section
namespace Go.Ab
variable {p:Prop}
theorem IR (h:p:=by
 cases r with
 | nil=>simpa [eqF] using this
 | cons g r=>simp [eqF,this]):p:=h
def bK (k:IntKind)(a b:Int):Int:=k.wrap ((BitVec.ofInt k.bits a &&& BitVec.ofInt k.bits b).toNat:Nat)
def iOr (k:IntKind)(a b:Int):Int:=k.wrap ((BitVec.ofInt k.bits a ||| BitVec.ofInt k.bits b).toNat:Nat)
def iXor (k:IntKind)(a b:Int):Int:=k.wrap ((BitVec.ofInt k.bits a ^^^ BitVec.ofInt k.bits b).toNat:Nat)
def Ed (k:IntKind)(a b:Int):Int:=k.wrap ((BitVec.ofInt k.bits a &&& ~~~(BitVec.ofInt k.bits b)).toNat:Nat)
def Ox (k:IntKind):BinOp->Int->Int->Option Int|.and,a,b=>some (bK k a b)|.or,a,b=>some (iOr k a b)|.xor,a,b=>some (iXor k a b)|.andNot,a,b=>some (Ed k a b)|_,_,_=>none
def lc (k:IntKind)(a b:Int):Int:=k.wrap (a*2^(min b.toNat k.bits))
def cV (k:IntKind)(a b:Int):Int:=a.fdiv (2^(min b.toNat k.bits))
def shI (k:IntKind):BinOp->Int->Int->Option Int|.shl,a,b=>some (lc k a b)|.shr,a,b=>some (cV k a b)|_,_,_=>none
theorem EP {P:Program}{w:World}{op:BinOp}{t:TypeId}{k:IntKind}{a b c:Int}(h:Ox k op a b=some c) :
  (binOp op t (.int k a) (.int k b)).run P w=.ok (.int k c) w:=by
 cases op <;> simp only [Ox,bt,reduceCtorEq] at h <;> subst h <;> simp [binOp,Op.intBits,bK,iOr,iXor,Ed]
theorem HA {P:Program}{w:World}{op:BinOp}{t:TypeId}{k k':IntKind}{a b c:Int}(hb:0<=b)(h:shI k op a b=some c) :
  (binOp op t (.int k a) (.int k' b)).run P w=.ok (.int k c) w:=by
 have hb':¬ b<0:=by omega
 cases op <;> simp only [shI,bt,reduceCtorEq] at h <;> subst h <;> simp [binOp,Op.shift,hb',lc,cV]
section
variable {C:Cx} {o:Oper} {K:AS->Prop} {sl:List (Nat×AV)} {ob:List (Nat×List AV)} {d:Nat}
theorem Pq {op:BinOp}{t t':TypeId}{x y:Operand}{k:IntKind}{a b c:Int}(ho:o.op=.binOp op t x y t')(hd:o.dst=some d)(hn:Nat.blt d C.n=true)
  (hx:evo sl x=some (.p (.val (.int k a)))) (hy:evo sl y=some (.p (.val (.int k b)))) (hc:Ox k op a b=some c)
  (hK:K ⟨(d,.p (.val (.int k c)))::sl,ob⟩):bc C o K ⟨sl,ob⟩ :=
 ok_one hd hn (λ g a w hs=>⟨_,by
  simp only [execOp,ho,b8 hs hx,b8 hs hy,Sem.run_bind,lW,Result.andThen_ok,EP hc,Sem.run_pure],.p (.val _)⟩) hK
theorem kY {op:BinOp}{t t':TypeId}{x y:Operand}{k k':IntKind}{a b c:Int}(ho:o.op=.binOp op t x y t')(hd:o.dst=some d)(hn:Nat.blt d C.n=true)
  (hx:evo sl x=some (.p (.val (.int k a)))) (hy:evo sl y=some (.p (.val (.int k' b)))) (hc:shI k op a b=some c) (hb:0<=b)
  (hK:K ⟨(d,.p (.val (.int k c)))::sl,ob⟩):bc C o K ⟨sl,ob⟩ :=
 ok_one hd hn (λ g a w hs=>⟨_,by
  simp only [execOp,ho,b8 hs hx,b8 hs hy,Sem.run_bind,lW,Result.andThen_ok,HA hb hc,Sem.run_pure],.p (.val _)⟩) hK
end
def eqC:Option PV->Option PV->Prop|some (.val (.int _ a)),some (.val (.int _ b))=>a=b|some (.val (.bool a)),some (.val (.bool b))=>a=b|some (.val (.string a)),some (.val (.string b))=>a.data.toList=b.data.toList|_,_=>False
def eqF (cs ds:List PV):List (Nat×Nat)->Prop|[]=>True|[f]=>eqC cs[f.1]? ds[f.1]?|f::g::r=>eqC cs[f.1]? ds[f.1]?/\eqF cs ds (g::r)
def C3 (k:Option TI)(x y:Option PV):Bool:=match k,x,y with
 | some ⟨.int q,_,_,_⟩,some (.val (.int k _)),some (.val (.int k' _))=>(q==k)&&(q==k')
 | some ⟨.bool,_,_,_⟩,some (.val (.bool _)),some (.val (.bool _))=>true
 | some ⟨.string,_,_,_⟩,some (.val (.string _)),some (.val (.string _))=>true
 | _,_,_=>false
def xT (tt:List (Nat×TI))(cs ds:List PV):List (Nat×Nat)->Bool|[]=>true|f::r=>C3 (look tt f.2) cs[f.1]? ds[f.1]?&&xT tt cs ds r
def ue:List Field->Bool
 | []=>true
 | f::r=>f.name != "_" && ue r
def eqOk (P:Program)(t:TypeId):Bool:=ue (P.fieldsOf t).toList&&!P.stoodInHeld t&&!P.eqGuardType P.depth t
theorem oT {P:Program}{tt:List (Nat×TI)}(good:cS P tt){t:Nat}{i:TI}(h:look tt t=some i)(ha:i.k.isAgg=false){cs:Array Value}{off:Nat}{v:Value}(hv:cs[off]? = some v)(w:World) :
  (part t cs off).run P w=.ok v w:=by
 simp [part,mT good h,ha,hv]
theorem mH {w:World}{st:Nat->Nat->Prop}{cs:List PV}{vs:Array Value}(h:PRep w st (.agg cs) (.agg vs)){j:Nat}{u:Value}(hc:cs[j]? = some (.val u)):vs[j]? = some u:=by
 cases h with
 | agg hl h=>
  have hj:j<vs.size:=by
   rw [hl];exact (List.getElem?_eq_some_iff.1 hc).1
  have h1:=h j _ _ hc (Array.getElem?_eq_getElem hj)
  cases h1
  exact Array.getElem?_eq_getElem hj
theorem zC {P:Program}{tt:List (Nat×TI)}(good:cS P tt){w:World}{st:Nat->Nat->Prop}{cs ds:List PV}{xs ys:Array Value}(hx:PRep w st (.agg cs) (.agg xs))(hy:PRep w st (.agg ds) (.agg ys)){t off:Nat}
  (h:C3 (look tt t) cs[off]? ds[off]? = true) (d:Nat):∃ a b r,(part t xs off).run P w=.ok a w/\(part t ys off).run P w=.ok b w/\(Op.equalIn (d+1) t a b).run P w=.ok r w/\(r=true↔eqC cs[off]? ds[off]?):=by
 unfold C3 at h;split at h
 ·rename_i q s z l k u k' u' hl hc hd;simp only [n8,beq_iff_eq] at h;obtain ⟨rfl,rfl⟩:=h;obtain ⟨ud,h1,h2⟩:=bR good hl;have h3:=lQ h2;subst h3;refine ⟨_,_,_,oT good hl rfl (mH hx hc) w,oT good hl rfl (mH hy hd) w,run_equalIn_int w d t _ _ u u' h1,?_⟩;rw [hc,hd];exact beq_iff_eq
 ·rename_i s z l u u' hl hc hd;obtain ⟨ud,h1,h2⟩:=bR good hl;have h3:=qd h2;subst h3;refine ⟨_,_,_,oT good hl rfl (mH hx hc) w,oT good hl rfl (mH hy hd) w,run_equalIn_bool' w d t u u' h1,?_⟩;rw [hc,hd];exact beq_iff_eq
 ·rename_i s z l u u' hl hc hd;obtain ⟨ud,h1,h2⟩:=bR good hl;have h3:=iB h2;subst h3;refine ⟨_,_,_,oT good hl rfl (mH hx hc) w,oT good hl rfl (mH hy hd) w,run_equalIn_string w d t u u' h1,?_⟩;rw [hc,hd];simp only [eqC,beq_iff_eq,ByteArray.toList_eq]
 ·cases h
theorem DU {P:Program}{tt:List (Nat×TI)}(good:cS P tt){w:World}{st:Nat->Nat->Prop}{cs ds:List PV}{xs ys:Array Value}(hx:PRep w st (.agg cs) (.agg xs))(hy:PRep w st (.agg ds) (.agg ys))(d:Nat) :
  ∀ fs:List Field,ue fs=true->xT tt cs ds (fs.map λ f=>(f.offset,f.type))=true ->
   ∃ r,(Op.eqFields (d+1) xs ys fs).run P w=.ok r w/\(r=true↔eqF cs ds (fs.map λ f=>(f.offset,f.type)))
 | [],_,_=>⟨true,Z,by simp [eqF]⟩
 | f::r,hn,hp=>by
  simp only [ue,n8,bne_iff_ne,ne_eq] at hn;simp only [dg,xT,n8] at hp;obtain ⟨a,b,r1,e1,e2,e3,e4⟩:=zC good hx hy hp.1 d;obtain ⟨r2,e5,e6⟩:=DU good hx hy d r hn.2 hp.2
  cases r1 with
  | false=>
   refine ⟨false,by simp [Op.eqFields,hn.1,e1,e2,e3],?_⟩;have:¬ eqC cs[f.offset]? ds[f.offset]?:=λ h=>by cases e4.2 h
   exact IR
  | true=>
   refine ⟨r2,by simp [Op.eqFields,hn.1,e1,e2,e3,e5],?_⟩;rw [e6];have:=e4.1 rfl;exact IR
theorem Pt {C:Cx}{o:Oper}{K:AS->Prop}{sl:List (Nat×AV)}{ob:List (Nat×List AV)}{d:Nat}{op:BinOp}{t t':TypeId}{x y:Operand}{cs ds:List PV}{i:TI}{fs:List (Nat×Nat)}{r:Bool}(p:Prop) [Decidable p]
  (ho:o.op=.binOp op t x y t') (hd:o.dst=some d) (hn:Nat.blt d C.n=true) (hi:look C.tt t=some i) (UA:i.k=.struct fs) (hx:evo sl x=some (.p (.agg cs))) (hy:evo sl y=some (.p (.agg ds)))
  (hok:eqOk C.P t=true) (hpl:xT C.tt cs ds fs=true) (hp:p=eqF cs ds fs) (hop:op=.eql/\r=decide p\/op=.neq/\r=!decide p)
  (hK:K ⟨(d,.p (.val (.bool r)))::sl,ob⟩):bc C o K ⟨sl,ob⟩:=by
 subst hp;obtain ⟨u,h1,h2⟩:=bR C.good hi;obtain ⟨fa,rfl,h3⟩:=iC (h2.trans UA);have hfo:C.P.fieldsOf t=fa:=by unfold Program.fieldsOf; rw [h1]
 simp only [eqOk,n8,Bool.not_eq_true',hfo] at hok;refine ok_one hd hn (λ g a w hs=>?_) hK;have hxr:=bQ hs hx;have hyr:=bQ hs hy
 cases hxr with
 | p hxr=>
  cases hyr with
  | p hyr=>
   generalize hxv:a.eval x=vx at hxr;generalize hyv:a.eval y=vy at hyr
   cases hxr with
   | @agg _ xs hl1 hh1=>
    cases hyr with
    | @agg _ ys hl2 hh2=>
     obtain ⟨rr,e1,e2⟩:=DU C.good (.agg hl1 hh1) (.agg hl2 hh2) 9998 fa.toList hok.1.1 (by rw [h3]; exact hpl);rw [h3] at e2;have e3:=run_equalIn_struct w 9999 t xs ys (by rw [hfo]; exact h1) hok.1.2;rw [hfo] at e3
     have hrr:rr=decide (eqF cs ds fs):=by
      cases rr with
      | true=>exact (decide_eq_true (e2.1 Z)).symm
      | false=>exact (decide_eq_false (λ h=>by cases e2.2 h)).symm
     rcases hop with ⟨rfl,rfl⟩|⟨rfl,rfl⟩
     ·refine ⟨_,?_,.p (.val _)⟩;simp only [execOp,ho,hxv,hyv,Sem.run_bind,run_eqGuard_agg w _ t x y xs ys hok.2,Result.andThen_ok,run_eql_struct,e3,e1,Sem.run_pure,hrr]
     ·refine ⟨_,?_,.p (.val _)⟩;simp only [execOp,ho,hxv,hyv,Sem.run_bind,run_eqGuard_agg w _ t x y xs ys hok.2,Result.andThen_ok,run_neq_struct,e3,e1,Sem.run_pure,hrr]
def eU (b:UInt8):PV:=.val (.int .u8 (b.toNat:Int))
def u8 (n:Int):UInt8:=UInt8.ofNat n.toNat
theorem kh {n:Int}(h:(0:Int)<=n/\n<256):eK .u8 n=eU (u8 n):=by
 unfold eK eU u8
 have:(((UInt8.ofNat n.toNat).toNat:Nat):Int)=n:=by
  rw [UInt8.toNat_ofNat',Nat.mod_eq_of_lt O]; omega
 rw [this]
theorem PH (b:UInt8):u8 (b.toNat:Int)=b:=by simp [u8]
section
variable {C:Cx} {o:Oper} {K:AS->Prop} {sl:List (Nat×AV)} {ob:List (Nat×List AV)} {d:Nat}
def eE (b:Bool):PV:=bif b then .ifc else .val .nilIface
theorem PC (b:Bool):AV.toPV (.p (eE b))=some (eE b):=by cases b <;> rfl
theorem C6:AV.settle.go []=some []:=rfl
theorem tJ {x:AV}{y:PV}{r l:List AV}(h:x.toPV=some y)(h':AV.settle.go r=some l):AV.settle.go (x::r)=some (.p y::l):=by simp only [AV.settle.go,h,h']
theorem FE {l l':List AV}(h:AV.settle.go l=some l'):AV.settle (.tuple l)=some (.tuple l'):=by simp only [AV.settle,h]
theorem Dq {u:TypeDesc}(h:kindOf u=.iface):∃ ms,u=.interface ms:=by cases u <;> simp [kindOf] at h; exact ⟨_,rfl⟩
theorem sP {P:Program}{t:TypeId}{ms:Array (String×TypeId)}(h:P.underlying t=some (.interface ms))(w:World):(Op.equal t .nilIface .nilIface).run P w=.ok true w:=by
 have:∀ d,(Op.equalIn (d+1) t .nilIface .nilIface).run P w=.ok true w:=λ d=>by simp [Op.equalIn,run_underlying h]
 exact this 9999
theorem sK {P:Program}{t:TypeId}{ms:Array (String×TypeId)}(h:P.underlying t=some (.interface ms))(w:World)(t':TypeId)(v:Value):(Op.equal t (.iface t' v) .nilIface).run P w=.ok false w:=by
 have:∀ d,(Op.equalIn (d+1) t (.iface t' v) .nilIface).run P w=.ok false w:=λ d=>by simp [Op.equalIn,run_underlying h]
 exact this 9999
theorem Rp {op:BinOp}{t t':TypeId}{x:Operand}{b c:Bool}{i:TI}(ho:o.op=.binOp op t x (.const .nilIface) t')(hd:o.dst=some d)(hn:Nat.blt d C.n=true)
  (hi:look C.tt t=some i) (UA:i.k=.iface)
  (hx:evo sl x=some (.p (eE b))) (hc:(op=.eql/\c=!b)\/(op=.neq/\c=b))
  (hK:K ⟨(d,.p (eB c))::sl,ob⟩):bc C o K ⟨sl,ob⟩:=by
 obtain ⟨u,h1,h2⟩:=bR C.good hi;obtain ⟨ms,rfl⟩:=Dq (h2.trans UA);refine ok_one hd hn (λ g a w hs=>⟨.bool c,?_,.p (.val _)⟩) hK;have hr:=bQ hs hx;generalize hv:a.eval x=v at hr;have hcn:a.eval (.const .nilIface)=.nilIface:=rfl
 cases b with
 | true=>
  cases hr with
  | p h=>
   cases h with
   | ifc t2 v2=>rcases hc with ⟨rfl,rfl⟩|⟨rfl,rfl⟩ <;> simp [execOp,ho,hv,hcn,eqGuard,binOp,sK h1]
 | false=>
  cases hr with
  | p h=>
   cases h with
   | val=>rcases hc with ⟨rfl,rfl⟩|⟨rfl,rfl⟩ <;> simp [execOp,ho,hv,hcn,eqGuard,binOp,sP h1]
theorem Kf {st dt:TypeId}{x:Operand}{k k':IntKind}{a:Int}{i j:TI}(ho:o.op=.convert st dt x)(hd:o.dst=some d)(hn:Nat.blt d C.n=true)
  (hi:look C.tt st=some i) (UA:i.k=.int k') (hj:look C.tt dt=some j) (hjk:j.k=.int k) (hx:evo sl x=some (.p (.val (.int k' a))))
  (hK:K ⟨(d,.p (.val (.int k (k.wrap a))))::sl,ob⟩):bc C o K ⟨sl,ob⟩:=by
 obtain ⟨u,h1,h2⟩:=bR C.good hj;have h3:=lQ (h2.trans hjk);obtain ⟨u',h1',h2'⟩:=bR C.good hi;have h3':=lQ (h2'.trans UA);subst h3 h3';exact ok_one hd hn (λ g b w hs=>⟨_,by simp [execOp,ho,b8 hs hx,convert,run_underlying h1,run_underlying h1',Conv.intToInt],.p (.val _)⟩) hK
end
theorem rb {u:TypeDesc}{n e:Nat}(h:kindOf u=.array n e):u=.array n e:=by cases u <;> simp [kindOf] at h; obtain ⟨rfl,rfl⟩:=h; rfl
section
variable {C:Cx} {o:Oper} {K:AS->Prop} {sl:List (Nat×AV)} {ob:List (Nat×List AV)} {d:Nat}
theorem zP {t m e:Nat}{parts:Array (Nat×Operand)}{i ie:TI}{ps:List (Nat×AV)}{cs:List AV}{y:AV}(ho:o.op=.build t parts)(hd:o.dst=some d)(hn:Nat.blt d C.n=true)
  (hi:look C.tt t=some i) (UA:i.k=.array m e) (hie:look C.tt e=some ie) (hps:ik sl parts.toList=some ps) (hf:tC (λ (k:Nat)=>some (k*ie.size,ie.size)) (f0 i) ps=some cs) (hy:some (nb cs)=some y)
  (hK:K ⟨(d,y)::sl,ob⟩):bc C o K ⟨sl,ob⟩:=by
 cases hy
 obtain ⟨u,h1,h2⟩:=bR C.good hi;have h3:=rb (h2.trans UA);subst h3;refine ok_one hd hn (λ g a w hs=>?_) hK;obtain ⟨z,hz1,hz2⟩:=lD C.good hi w;obtain ⟨q1,q2⟩:=pD hs _ ps hps
 obtain ⟨c',f1,f2,f3⟩:=sO (place:=λ (k:Nat)=>some (k*ie.size,ie.size)) ps (parts.toList.map λ p=>(p.1,a.eval p.2)) (f0 i) cs z.cells q1 q2 (by simp [f0,<- hz2]) (λ k x v hx hv=>by
  simp only [f0,List.getElem?_map,rd,<- hz2,Array.getElem?_toList] at hx;obtain ⟨u,hu,rfl⟩:=hx;rw [hv] at hu; cases hu
  exact .p (.val _)) hf
 refine ⟨.agg c',?_,qk f2 f3⟩;have e1:(parts.map λ (i,x)=>(i,a.eval x)).toList=parts.toList.map λ p=>(p.1,a.eval p.2):=by rw [Array.toList_map]
 simp only [execOp,ho,Instr.build,Sem.run_bind,hz1,Result.andThen_ok,run_underlying h1,run_sizeOf C.good hie,e1,f1,Sem.run_pure]
theorem gA {t m e:Nat}{x y:Operand}{i ie:TI}{k:IntKind}{n:Int}{id q:Nat}(ho:o.op=.indexAddr t x y)(hd:o.dst=some d)(hn:Nat.blt d C.n=true)
  (hi:look C.tt t=some i) (UA:i.k=.array m e) (hie:look C.tt e=some ie) (hx:evo sl x=some (.ptr id q))
  (hy:evo sl y=some (.p (.val (.int k n)))) (hb:0<=n/\n<m)
  (hK:K ⟨(d,.ptr id (q+n.toNat*ie.size))::sl,ob⟩):bc C o K ⟨sl,ob⟩:=by
 obtain ⟨u,h1,h2⟩:=bR C.good hi;have h3:=rb (h2.trans UA);subst h3;refine ok_one hd hn (λ g a w hs=>?_) hK;have h5:=bQ hs hx;generalize hv:a.eval x=v at h5
 cases h5 with
 | ptr how=>
  rename_i b;exact ⟨.pointer (some ⟨b,q+n.toNat*ie.size,none⟩),by simp [execOp,ho,hv,b8 hs hy,Instr.indexAt,Instr.sureAddr,asIntOf,run_underlying h1,hb.1,hb.2,run_sizeOf C.good hie,add_lit],.ptr how⟩
theorem cF {t m e:Nat}{x y:Operand}{i ie:TI}{k:IntKind}{n:Int}{id:Nat}(ho:o.op=.indexAddr t x y)(hd:o.dst=some d)(hn:Nat.blt d C.n=true)
  (hi:look C.tt t=some i) (UA:i.k=.array m e) (hie:look C.tt e=some ie) (hs1:ie.size=1) (hx:evo sl x=some (.ptr id 0))
  (hy:evo sl y=some (.p (.val (.int k n)))) (hb:0<=n/\n<m)
  (hK:K ⟨(d,.ptr id n.toNat)::sl,ob⟩):bc C o K ⟨sl,ob⟩ :=
 gA ho hd hn hi UA hie hx hy hb (by rw [hs1,Nat.mul_one,Nat.zero_add]; exact hK)
end
theorem GP (h:p:=by
 by_cases h:p
 ·simpa only [if_pos h] using h1 h
 ·simpa only [if_neg h] using h2 h):p:=h
theorem bv {c:Int}(h1:-9223372036854775808<=c)(h2:c<=9223372036854775807):inR c:=⟨h1,h2⟩
theorem cH (l:Bk)(k:Nat):byt l (k:Int)=((l.getD k 0).toNat:Int):=rfl
theorem yr {α:Type} [Inhabited α] (l:List α)(k:Nat):lat l (k:Int)=l.getD k default:=rfl
theorem uh {α:Type}(l:List α)(i j:Nat):sub l (i:Int) (j:Int)=(l.take j).drop i:=rfl
theorem km {α:Type}(l:List α)(i:Int):sub l i (l.length:Int)=l.drop i.toNat:=by
 show (l.take (l.length:Int).toNat).drop i.toNat=_;rw [Int.toNat_natCast,List.take_length]
theorem Qq {α β:Type}(v:α)(k:α->Option β):jn (some (.inl v)) k=k v:=rfl
theorem Rr {α β:Type}(x:β)(k:α->Option β):jn (some (.inr x)) k=some x:=rfl
end Go.Ab
namespace Go.Ab
def Ev2 {α:Type}(f:Nat->Nat->Option α)(P:α->Prop):Prop:=∃ r,P r/\∃ N,∀ n m,N<=n->N<=m->f n m=some r
section
variable {α β γ:Type} {P:α->Prop} {Q:β->Prop}
theorem aa {r:α}(h:P r):Ev2 (λ _ _=>some r) P:=⟨r,h,0,λ _ _ _ _=>rfl⟩
theorem ag {p:Prop} [Decidable p] {f:Nat->Nat->Option α}(hp:p)(h:Ev2 f P):Ev2 (λ n m=>ck p (f n m)) P:=by
 obtain ⟨r,h1,N,h2⟩:=h;exact ⟨r,h1,N,λ n m hn hm=>(cn hp).trans (h2 n m hn hm)⟩
theorem av {p:Prop} [Decidable p] {f g:Nat->Nat->Option α}(h1:p->Ev2 f P)(h2:¬p->Ev2 g P):Ev2 (λ n m=>if p then f n m else g n m) P:=by
 exact GP
theorem ae {p:Prop} [Decidable p] {f g:Nat->Nat->Option α}(hp:p)(h:Ev2 f P):Ev2 (λ n m=>if p then f n m else g n m) P:=av (λ _=>h) (λ k=>absurd hp k)
theorem af {p:Prop} [Decidable p] {f g:Nat->Nat->Option α}(hp:¬p)(h:Ev2 g P):Ev2 (λ n m=>if p then f n m else g n m) P:=av (λ k=>absurd k hp) (λ _=>h)
theorem aO {f:Nat->Nat->Option α}{P':α->Prop}(h:Ev2 f P)(hp:∀ r,P r->P' r):Ev2 f P':=by
 obtain ⟨r,h1,h2⟩:=h;exact ⟨r,hp r h1,h2⟩
theorem NY {g:Nat->Nat->Option β}{k:Nat->Nat->β->Option α}(h:Ev2 g (λ x=>Ev2 (λ n m=>k n m x) P)):Ev2 (λ n m=>(g n m).bind (k n m)) P:=by
 obtain ⟨x,⟨r,h1,N,h2⟩,M,h3⟩:=h;exact ⟨r,h1,N+M,λ n m hn hm=>(congrArg (λ o=>Option.bind o (k n m)) (h3 n m O O)).trans (h2 n m O O)⟩
theorem ah {g:Nat->Nat->Option β}{k:Nat->Nat->β->Option α}(Q:β->Prop)(h:Ev2 g Q)(hk:∀ x,Q x->Ev2 (λ n m=>k n m x) P):Ev2 (λ n m=>(g n m).bind (k n m)) P :=
 NY (aO h hk)
theorem cj {g:Nat->Nat->Option (β⊕α)}{k:Nat->Nat->β->Option α}(h:Ev2 g (λ s=>match s with|.inl x=>Ev2 (λ n m=>k n m x) P|.inr y=>P y)):Ev2 (λ n m=>jn (g n m) (k n m)) P:=by
 obtain ⟨s,h1,M,h3⟩:=h
 cases s with
 | inl x=>
  obtain ⟨r,h1,N,h2⟩:=h1;exact ⟨r,h1,N+M,λ n m hn hm=>(congrArg (λ o=>jn o (k n m)) (h3 n m O O)).trans (h2 n m O O)⟩
 | inr y=>exact ⟨y,h1,M,λ n m hn hm=>(congrArg (λ o=>jn o (k n m)) (h3 n m hn hm)).trans Z⟩
theorem ek {g:Nat->Nat->Option (β⊕α)}{k:Nat->Nat->β->Option α}(x:β)(h:Ev2 g (·=.inl x))(hk:Ev2 (λ n m=>k n m x) P):Ev2 (λ n m=>jn (g n m) (k n m)) P :=
 cj (aO h λ r hr=>by subst hr; exact hk)
theorem iV {g:Nat->Nat->Option (β⊕α)}{k:Nat->Nat->β->Option α}(y:α)(h:Ev2 g (·=.inr y))(hy:P y):Ev2 (λ n m=>jn (g n m) (k n m)) P :=
 cj (aO h λ r hr=>by subst hr; exact hy)
theorem aS {f:Nat->Option α}(h:Ev2 (λ n _=>f (n+1)) P):Ev2 (λ n _=>f n) P:=by
 obtain ⟨r,h1,N,h2⟩:=h;refine ⟨r,h1,N+1,λ n m hn hm=>?_⟩;obtain ⟨n,rfl⟩:∃ k,n=k+1:=⟨n-1,by omega⟩
 exact h2 n n O O
theorem aw {f:Nat->Nat->Option α}(h:Ev2 (λ n m=>f n (m+1)) P):Ev2 f P:=by
 obtain ⟨r,h1,N,h2⟩:=h;refine ⟨r,h1,N+1,λ n m hn hm=>?_⟩;obtain ⟨m,rfl⟩:∃ k,m=k+1:=⟨m-1,by omega⟩
 exact h2 n m O O
theorem aN {f:Nat->Nat->Option α}(h:Ev2 f P):Ev2 (λ n _=>f n n) P:=by
 obtain ⟨r,h1,N,h2⟩:=h;exact ⟨r,h1,N,λ n _ hn _=>h2 n n hn hn⟩
theorem Pf {f:Nat->Option α}(h:Ev2 (λ n _=>f n) P):∃ n r,f n=some r/\P r:=by
 obtain ⟨r,h1,N,h2⟩:=h;exact ⟨N,r,h2 N N (bx _) (bx _),h1⟩
theorem ax {o:Option α}{r:α}(h:o=some r)(hp:P r):Ev2 (λ _ _=>o) P:=⟨r,hp,0,λ _ _ _ _=>h⟩
theorem O9 {f:Nat->Nat->Option α}{r:α}(h:Ev2 f (·=r))(hp:P r):Ev2 f P:=aO h λ _ e=>e ▸ hp
end
theorem QM {i:Int}{l:Nat}(h:0<=i/\i<(l:Int)):∃ k:Nat,i=k/\k<l:=⟨i.toNat,by omega,by omega⟩
theorem nW {α:Type} [Inhabited α] (l:List α)(k:Nat)(h:k<l.length):lat l (k:Int)=l[k]:=by
 rw [yr,List.getD_eq_getElem?_getD,List.getElem?_eq_getElem h]; rfl
theorem xc {α:Type} [Inhabited α] {l:List α}{i:Int}(h:0<=i/\i<(l.length:Int)):lat l i∈l:=by
 obtain ⟨k,rfl,hk⟩:=QM h;rw [nW l k hk]; exact List.getElem_mem hk
variable {p:Prop}
theorem pn (h:p:=by
 exact pS (k:=k) h hM):p:=h
theorem Lc (h:p:=by
 by_cases hp:p
 ·rw [decide_eq_true hp] at hT; exact mG (vR hT) (h1 hp (Q9 hp h))
 ·rw [decide_eq_false hp] at hT; exact mG (vR hT) (h2 hp (if_f hp h))):p:=h
theorem uF (h:p:=by exact pS (k:=k) h hM):p:=h
class UW (p:Prop) (q:outParam Prop):Prop where
 go:q->p
class UO (p:Prop) (b:outParam Bool) (q:outParam Prop):Prop where
 go:b=false->q->p
section
variable {K P:AS->Prop} {Q:Exit->AS->Prop} {s:AS} {id id':Nat}
instance:UW (rK K Q .ret s) (Q .ret s):=⟨Fe⟩
instance:UW (rK K Q (.exit id) s) (Q (.exit id) s):=⟨CB⟩
instance:UW (kD id Q .ret s) (Q .ret s):=⟨Cc⟩
instance:UW (kD id Q .normal s) (Q .normal s):=⟨wg⟩
instance:UW (kD id Q (.exit id) s) (Q .normal s):=⟨tL⟩
instance:UO (kD id Q (.exit id') s) (Nat.beq id' id) (Q (.exit id') s):=⟨rF⟩
instance:UW (noGoto Q .ret s) (Q .ret s):=⟨noGoto_ret⟩
instance:UW (noGoto Q (.exit id) s) (Q (.exit id) s):=⟨noGoto_exit⟩
instance:UW (noGoto Q .normal s) (Q .normal s):=⟨noGoto_normal⟩
instance:UW (exQ id P Q (.exit id) s) (P s):=⟨NP⟩
instance:UO (exQ id P Q (.exit id') s) (Nat.beq id' id) (Q (.exit id') s):=⟨wF⟩
instance:UW (exQ id P Q .ret s) (Q .ret s):=⟨DY⟩
instance:UW (exQ id P Q .normal s) (Q .normal s):=⟨vG⟩
end
theorem oi {α:Type}{a b:α}(h:some a=some b):a=b:=Option.some.inj h
theorem dt {p:Prop} [Decidable p] (h:p):decide p=true:=decide_eq_true h
theorem df {p:Prop} [Decidable p] (h:¬p):decide p=false:=decide_eq_false h
theorem sr {x:AV}:x.sub x:=AV.sub_refl x
theorem er {s:List (Nat×AV)}{j:Nat}{x:AV}(h:look s j=some x):∃ y,look s j=some y/\y.sub x:=⟨x,h,sr⟩
end Go.Ab
namespace Go.Ab
def Le {α:Type}(o o':Option α):Prop:=∀ r,o=some r->o'=some r
section
variable {α β:Type}
theorem aF (o:Option α):Le o o:=λ _ h=>h
end
end Go.Ab
namespace Go.Ab
open Go.RowKit
theorem qq {C:Cx}{o:Oper}{K:AS->Prop}{sl:List (Nat×AV)}{ob:List (Nat×List AV)}{d:Nat}(l:List UInt8){st dt e:TypeId}{x:Operand}{y:AV}{i ie j:TI}(ho:o.op=.convert st dt x)(hd:o.dst=some d)(hn:Nat.blt d C.n=true)
  (hi:look C.tt st=some i) (UA:i.k=.slice e) (hie:look C.tt e=some ie) (hiek:ie.k=.int .u8) (hj:look C.tt dt=some j) (hjk:j.k=.string) (hx:evo sl x=some y) (hy:y.elems? = some (l.map eU))
  (hK:K ⟨(d,.p (eS l))::sl,ob⟩):bc C o K ⟨sl,ob⟩:=by
 obtain ⟨u,h1,h2⟩:=bR C.good hi;have h3:=de (h2.trans UA);obtain ⟨u1,g1,g2⟩:=bR C.good hie;have g3:=lQ (g2.trans hiek);obtain ⟨u2,k1,k2⟩:=bR C.good hj;have k3:=iB (k2.trans hjk);subst h3 g3 k3;refine ok_one hd hn (λ g a w hs=>⟨.string (str l),?_,.p (.val _)⟩) hK;have hv:=nB hy (bQ hs hx);generalize hq:a.eval x=v at hv;generalize hes:l.map eU=es at hv;have hnil:es=[]->l=[]:=λ q=>by simp_all
 cases hv with
 | nils=>
  rw [hnil rfl];simp only [execOp,ho,hq];rw [Sem.run_bind,run_convert_bytes_string w st dt e none 0 0 h1 g1 k1]
  rfl
 | nile a'=>
  rw [hnil rfl];simp only [execOp,ho,hq];rw [Sem.run_bind];have:=run_convert_bytes_back (P:=C.P) w st dt e a' 0 [] h1 g1 k1 (by grind);rw [show ([]:List UInt8).length=0 from rfl] at this;rw [this]
  rfl
 | slice sz cf hcap Ul UD hc hr=>
  rename_i b off cap;subst hes;simp only [execOp,ho,hq];rw [th,Sem.run_bind]
  have:=run_convert_bytes_back (P:=C.P) w st dt e ⟨b,off,none⟩ cap l h1 g1 k1 (λ j hj=>by
   have hj2:(l.map eU)[j]? = some (eU l[j]):=by simp [hj]
   have hz:sz=1:=(Ul (eU l[j]) (List.mem_of_getElem? hj2)).symm;have c1:=hc j (eU l[j]) 0 (eU l[j]) hj2 rfl;have c2:=hr j (eU l[j]) 0 (eU l[j]) hj2 rfl;rw [hz,Nat.mul_one,Nat.add_zero] at c1;rw [add_lit,c1.2];generalize cf j 0=v at c2
   cases c2
   rfl)
  rw [this]
  rfl
end Go.Ab
namespace Go.Ab
/- The steps that occur most,their closed facts by themselves. -/
end Go.Ab
namespace Go.Ab
section
variable {C:Cx} {ops:Array Oper} {K:AS->Prop} {sl base:List (Nat×AV)} {ob:List (Nat×List AV)} {r:List Oper} {o:Oper} {d k:Nat} {rev:Rev}
def mvX:Op->Option Operand|.move x=>some x|.assign x=>some x|_=>none
def mvF (n:Nat)(o:Oper)(sl:List (Nat×AV)):Option (Nat×AV) :=
 match mvX o.op with
 | some x=>(match o.dst with
  | some d=>bif Nat.blt d n then (match evo sl x with|some y=>some (d,y)|none=>none) else none
  | none=>none)
 | none=>none
def gdF (ops:Array Oper)(o:Oper)(sl:List (Nat×AV)):Option (Bool×AV) :=
 match o.guard with
 | some (j,w)=>(match (ops.toList[j]?).bind (·.dst) with
  | some t=>(match look sl t with|some x=>some (w,x)|none=>none)
  | none=>none)
 | none=>none
theorem xG {w:Bool}{x:AV}(h:gdF ops o sl=some (w,x)):∃ j t,o.guard=some (j,w)/\(ops.toList[j]?).bind (·.dst)=some t/\look sl t=some x:=by
 grind [gdF]
theorem gy {w b:Bool}(hb:b=w)(h:gdF ops o sl=some (w,.p (.val (.bool b))))(h1:bc C o (hH C ops r K) ⟨sl,ob⟩):hH C ops (o::r) K ⟨sl,ob⟩:=by
 grind [xG,vv]
def dsF (n:Nat)(o:Oper):Option Nat:=match o.dst with
 | some d=>bif Nat.blt d n then some d else none
 | none=>none
theorem pc {n:Nat}(h:dsF n o=some d):o.dst=some d/\Nat.blt d n=true:=by
 grind [dsF]
def knK:Rev->Nat->Option Nat|[],_=>none|(k,i,_)::r,j=>bif Nat.beq i j then some k else knK r j
def knX (base:List (Nat×AV))(o:Oper)(rev:Rev)(i:Nat):Option AV :=
 match look base i with
 | some x=>some x
 | none=>(match knK rev i with
  | some k=>bif (o.after.toList.any λ e=>Nat.beq e.on k&&Region.binds .any e) then (match u3 rev k with
    | some (j,x)=>bif Nat.beq j i then some x else none
    | none=>none) else none
  | none=>none)
def HN (base:List (Nat×AV))(o:Oper)(rev:Rev):List Nat->Option (List (Nat×AV))
 | []=>some []
 | i::r=>match knX base o rev i with
  | some x=>(match HN base o rev r with|some l=>some ((i,x)::l)|none=>none)
  | none=>none
theorem Ji {i:Nat}{x:AV}(h:knX base o rev i=some x):look base i=some x\/∃ k,(o.after.toList.any λ e=>Nat.beq e.on k&&Region.binds .any e)=true/\u3 rev k=some (i,x):=by
 grind [knX,Nat.eq_of_beq_eq_true]
theorem El:∀ {l:List Nat} {kn:List (Nat×AV)},HN base o rev l=some kn->Fx base o rev kn
 | [],kn,h=>by cases h; trivial
 | i::l,kn,h=>by
  unfold HN at h
  cases hx:knX base o rev i with
  | none=>grind
  | some x=>
   rw [hx] at h;simp only at h
   cases hr:HN base o rev l with
   | none=>grind
   | some m=>rw [hr] at h; cases h; exact ⟨Ji hx,El hr⟩
def nwF (base:List (Nat×AV))(rev:Rev)(o:Oper):Option Nat:=match o.dst with
 | some d=>bif (rev.all λ p=>!(Nat.beq p.2.1 d)) then (match look base d with|none=>some d|some _=>none) else none
 | none=>none
theorem np (h:nwF base rev o=some d):o.dst=some d/\(rev.all λ p=>!(Nat.beq p.2.1 d))=true/\look base d=none:=by
 grind [nwF]
theorem dq {rest:List Oper}{kn:List (Nat×AV)}(x:AV)(l:List Nat)(hk:HN base o rev l=some kn)(hs:pJ C ops ob o kn d x)(hn:nwF base rev o=some d)(h:DQ C ops base ob K rest (k+1) ((k,d,x)::rev)):DQ C ops base ob K (o::rest) k rev :=
 yu x kn (El hk) hs (np hn).1 (np hn).2.1 (np hn).2.2 h
theorem jh {kn:List (Nat×AV)}(hs:∀ i x,look kn i=some x->look sl i=some x){x:Operand}{y:AV}(h:evo kn x=some y):evo sl x=some y:=by
 cases x with
 | tmp t=>exact hs _ _ h
 | const v=>exact h
 | func f=>exact h
 | global g=>exact h
end
abbrev fa:=@qH
abbrev l1:=@sU
abbrev st:=@oW
abbrev cs:=@kR
abbrev cc:=@sT
abbrev sq:=@Eg
abbrev sk:=@AG
abbrev gl:=@d3
end Go.Ab
namespace Go.Ab
inductive Fr where
 | sq (y:Code)
 | bk (id:Nat)
 | ng
 | jo (P:AS->Prop)
 | je (id:Nat) (P:AS->Prop)
inductive Ct where
 | cd (c:Code)
 | op (ops:Array Oper) (r:List Oper)
 | ex (e:Exit)
structure Cf where
 c:Ct
 k:List Fr
 s:AS
def dn (C:Cx)(Q:Exit->AS->Prop):List Fr->Exit->AS->Prop|[]=>λ e s=>∃ t,cO C s t/\Q e t|.sq y::k=>rK (awp C y (dn C Q k)) (dn C Q k)|.bk id::k=>kD id (dn C Q k)|.ng::k=>noGoto (dn C Q k)|.jo P::k=>rK (λ s=>∃ t,cO C s t/\P t) (dn C Q k)|.je id P::k=>exQ id (λ s=>∃ t,cO C s t/\P t) (dn C Q k)
def M (C:Cx)(Q:Exit->AS->Prop):Cf->Prop|⟨.cd c,k,s⟩=>awp C c (dn C Q k) s|⟨.op ops r,k,s⟩=>hH C ops r (dn C Q k .normal) s|⟨.ex e,k,s⟩=>dn C Q k e s
def pop:List Fr->Exit->AS->Option Cf
 | [],e,s=>some ⟨.ex e,[],s⟩
 | .sq y::k,.normal,s=>some ⟨.cd y,k,s⟩
 | .sq _::k,.exit i,s=>pop k (.exit i) s
 | .sq _::k,.ret,s=>pop k .ret s
 | .bk _::k,.normal,s=>pop k .normal s
 | .bk id::k,.exit i,s=>(match Nat.beq i id with|true=>pop k .normal s|false=>pop k (.exit i) s)
 | .bk _::k,.ret,s=>pop k .ret s
 | .ng::k,.normal,s=>pop k .normal s
 | .ng::k,.exit i,s=>pop k (.exit i) s
 | .ng::k,.ret,s=>pop k .ret s
 | .jo P::k,.normal,s=>some ⟨.ex .normal,.jo P::k,s⟩
 | .jo _::k,.exit i,s=>pop k (.exit i) s
 | .jo _::k,.ret,s=>pop k .ret s
 | .je _ _::k,.normal,s=>pop k .normal s
 | .je id P::k,.exit i,s=>(match Nat.beq i id with|true=>some ⟨.ex (.exit i),.je id P::k,s⟩|false=>pop k (.exit i) s)
 | .je _ _::k,.ret,s=>pop k .ret s
 | _,_,_=>none
section
variable {C:Cx} {Q:Exit->AS->Prop} {ops:Array Oper} {K:AS->Prop} {sl:List (Nat×AV)} {ob:List (Nat×List AV)} {r:List Oper} {o:Oper} {d:Nat} {s s':AS} {k:List Fr}
theorem pS:∀ {k:List Fr} {e:Exit} {c:Cf},pop k e s=some c->M C Q c->dn C Q k e s
 | [],e,c,h,hM=>by simp only [pop,bt] at h; subst h; exact hM
 | .sq y::k,e,c,h,hM=>by
  cases e <;> simp only [pop,bt,reduceCtorEq] at h
  ·subst h; exact hM
  ·exact pn
  ·exact pn
 | .bk id::k,e,c,h,hM=>by
  cases e <;> simp only [pop,reduceCtorEq] at h
  ·exact pn
  ·rename_i i;split at h
   ·rename_i hb;rw [la hb];exact tL uF
   ·rename_i hb; exact rF hb uF
  ·exact pn
 | .ng::k,e,c,h,hM=>by
  cases e <;> simp only [pop,reduceCtorEq] at h
  ·exact pn
  ·exact pn
  ·exact pn
 | .jo P::k,e,c,h,hM=>by
  cases e <;> simp only [pop,bt,reduceCtorEq] at h
  ·subst h; exact hM
  ·exact pn
  ·exact pn
 | .je id P::k,e,c,h,hM=>by
  cases e <;> simp only [pop,reduceCtorEq] at h
  ·exact vG uF
  ·rename_i i;split at h
   ·rename_i hb
    cases h; exact hM
   ·rename_i hb; exact wF hb uF
  ·exact DY uF
def Ag (C:Cx)(o:Oper):AS->AV->Option AS
 | ⟨sl,ob⟩,y=>match o.dst with
  | some d=>(match Nat.blt d C.n with|true=>some ⟨(d,y)::sl,ob⟩|false=>none)
  | none=>none
theorem xO {y:AV}(h:Ag C o ⟨sl,ob⟩ y=some s'):∃ d,o.dst=some d/\Nat.blt d C.n=true/\s'=⟨(d,y)::sl,ob⟩:=by
 grind [Ag]
def ikE (a b:IntKind):Bool:=Nat.beq a.ctorIdx b.ctorIdx
theorem Ju {a b:IntKind}(h:ikE a b=true):a=b:=by cases a <;> cases b <;> first|rfl|cases h
def pkP (sl:List (Nat×AV))(x y:Operand):Option AV->Option AV|some (.p (.val (.bool true)))=>evo sl x|some (.p (.val (.bool false)))=>evo sl y|_=>none
def bnP (C:Cx)(op:BinOp)(t:TypeId):Option AV->Option AV->Option AV
 | some (.p (.val (.int k a))),some (.p (.val (.int k' b)))=>(match ikE k' k with
  | true=>(match Ol op a b with
   | some c=>some (.p (.val (.bool c)))
   | none=>(match Ox k op a b with
    | some c=>some (.p (.val (.int k c)))
    | none=>(match ikE k .i64 with
     | true=>none
     | false=>(match arI op a b with
      | some c=>some (.p (.val (.int k (k.wrap c))))
      | none=>none))))
  | false=>none)
 | some (.p (.val (.bool a))),some (.p (.val (.bool b)))=>(match look C.tt t with
  | some i=>(match i.k with
   | .bool=>(match Ru op a b with|some c=>some (.p (.val (.bool c)))|none=>none)
   | _=>none)
  | none=>none)
 | _,_=>none
def faP (C:Cx)(t f:Nat)(X:Option AV):Option AV:=match look C.tt t with
 | some i=>(match i.k with
  | .struct fs=>(match fs[f]? with
   | some (off,ft)=>(match look C.tt ft with
    | some j=>(match Nat.beq j.size 0 with
     | false=>(match X with
      | some (.ptr id k)=>some (.ptr id (k+off))
      | some (.rptr cs)=>some (.rptr (cs.drop off))
      | _=>none)
     | true=>none)
    | none=>none)
   | none=>none)
  | _=>none)
 | none=>none
def ldP (C:Cx)(ob:List (Nat×List AV))(t:Nat)(X:Option AV):Option AV:=match look C.tt t with
 | some i=>(match X with
  | some (.ptr id k)=>(match look ob id with
   | some cs=>(match i.k.isAgg with
    | false=>cs[k]?
    | true=>(match Nat.ble (k+i.size) cs.length with
     | true=>(match nb ((cs.drop k).take i.size) with
      | .p y=>some (.p y)
      | .agg l=>some (.agg l)
      | _=>none)
     | false=>none))
   | none=>none)
  | some (.rptr cs)=>(match i.k.isAgg with
   | false=>(match cs.head? with|some y=>some (.p y)|none=>none)
   | true=>(match Nat.ble i.size cs.length with
    | true=>some (.p (.agg (cs.take i.size)))
    | false=>none))
  | _=>none)
 | none=>none
def nrm {α:Type}:List α->Option (List α)
 | []=>some []
 | x::r=>(match nrm r with|some l=>some (x::l)|none=>none)
theorem se {α:Type}:∀ {l l':List α},nrm l=some l'->l'=l
 | [],l',h=>by cases h; rfl
 | x::r,l',h=>by
  unfold nrm at h;split at h
  ·rename_i m hm; cases h; rw [se hm]
  ·cases h
def stP (C:Cx)(o:Oper)(sl:List (Nat×AV))(ob:List (Nat×List AV))(t:Nat)(x v:Operand):Option AS:=match o.dst with
 | none=>(match look C.tt t with
  | some i=>(match evo sl x with
   | some (.ptr id k)=>(match evo sl v with
    | some y=>(match y.cellsA with
     | some xs=>(match Nat.beq xs.length i.size with
      | true=>(match look ob id with
       | some cs=>(match Nat.ble (k+xs.length) cs.length with
        | true=>(match nrm (oq cs k xs) with
         | some ds=>some ⟨sl,(id,ds)::ob⟩
         | none=>none)
        | false=>none)
       | none=>none)
      | false=>none)
     | none=>none)
    | none=>none)
   | _=>none)
  | none=>none)
 | some _=>none
def frc:AV->Option AV|.undef=>some .undef|.p x=>some (.p x)|.agg cs=>some (.agg cs)|.vec a b c e=>some (.vec a b c e)|.arr a b c e=>some (.arr a b c e)|.ptr a b=>some (.ptr a b)|.bptr a b c=>some (.bptr a b c)|.rptr cs=>some (.rptr cs)|.tuple vs=>some (.tuple vs)|.func f cs=>some (.func f cs)|.mp a b=>some (.mp a b)|.mpr a b c d e=>some (.mpr a b c d e)|.stk a b c=>some (.stk a b c)|.sem R=>some (.sem R)|.it a b c=>some (.it a b c)|.vecp a b c e=>some (.vecp a b c e)|.elp a b=>some (.elp a b)
theorem Co {x y:AV}(h:frc x=some y):y=x:=by cases x <;> (cases h; rfl)
def dmS (D:Nat->Bool):List (Nat×AV)->Option (List (Nat×AV))
 | []=>some []
 | (i,x)::r=>(match frc (x.dem D) with
  | some y=>(match dmS D r with|some l=>some ((i,y)::l)|none=>none)
  | none=>none)
theorem uT {D:Nat->Bool}:∀ {l l':List (Nat×AV)},dmS D l=some l'->l'=l.map λ p=>(p.1,p.2.dem D)
 | [],l',h=>by cases h; rfl
 | (i,x)::r,l',h=>by
  unfold dmS at h;split at h
  ·rename_i y hy;split at h
   ·rename_i m hm; cases h; rw [Co hy,uT hm]; rfl
   ·cases h
  ·cases h
def dmC (D:Nat->Bool):List AV->Option (List AV)
 | []=>some []
 | x::r=>(match frc (x.dem D) with
  | some y=>(match dmC D r with|some l=>some (y::l)|none=>none)
  | none=>none)
theorem Cm {D:Nat->Bool}:∀ {l l':List AV},dmC D l=some l'->l'=o6 D l
 | [],l',h=>by cases h; rfl
 | x::r,l',h=>by
  unfold dmC at h;split at h
  ·rename_i y hy;split at h
   ·rename_i m hm; cases h; rw [Co hy,Cm hm]; rfl
   ·cases h
  ·cases h
def dmO (D:Nat->Bool):List (Nat×List AV)->Option (List (Nat×List AV))
 | []=>some []
 | (i,cs)::r=>(match D i with
  | true=>dmO D r
  | false=>(match dmC D cs with
   | some ds=>(match dmO D r with|some l=>some ((i,ds)::l)|none=>none)
   | none=>none))
theorem tc {D:Nat->Bool}:∀ {l l':List (Nat×List AV)},dmO D l=some l'->l'=(l.filter λ p=>!D p.1).map λ p=>(p.1,o6 D p.2)
 | [],l',h=>by cases h; rfl
 | (i,cs)::r,l',h=>by
  unfold dmO at h;split at h
  ·rename_i hD; rw [tc h]; grind
  ·rename_i hD;split at h
   ·rename_i ds hds;split at h
    ·rename_i m hm; cases h; rw [Cm hds,tc hm]; grind
    ·cases h
   ·cases h
def nwP (C:Cx)(o:Oper)(sl0:List (Nat×AV))(ob0:List (Nat×List AV))(cs:List AV):Option AS:=match o.dst with
 | some d=>(match Nat.blt d C.n with
  | true=>(match dmS (λ i=>Nat.beq i d) sl0 with
   | some sl=>(match dmC (λ i=>Nat.beq i d) cs with
    | some ds=>(match dmO (λ i=>Nat.beq i d) ob0 with
     | some ob=>some ⟨(d,.ptr d 0)::sl,(d,ds)::ob⟩
     | none=>none)
    | none=>none)
   | none=>none)
  | false=>none)
 | none=>none
theorem LZ {cs:List AV}(h:nwP C o sl ob cs=some s'):∃ d,o.dst=some d/\Nat.blt d C.n=true/\s'=⟨(d,.ptr d 0)::(dG (λ i=>Nat.beq i d) ⟨sl,ob⟩).sl,(d,o6 (λ i=>Nat.beq i d) cs)::(dG (λ i=>Nat.beq i d) ⟨sl,ob⟩).ob⟩:=by
 unfold nwP at h;split at h
 ·rename_i d hd;split at h
  ·rename_i hn;split at h
   ·rename_i a ha;split at h
    ·rename_i b hb;split at h
     ·rename_i c hc
      cases h
      exact ⟨d,hd,hn,by rw [uT ha,Cm hb,tc hc]; rfl⟩
     ·cases h
    ·cases h
   ·cases h
  ·cases h
 ·cases h
def ncP:Option AV->Option AV|some (.ptr id k)=>some (.ptr id k)|_=>none
def xtP (k:Nat):Option AV->Option AV|some (.tuple l)=>l[k]?|_=>none
def ntP:Option AV->Option AV|some (.p (.val (.bool b)))=>some (.p (.val (.bool (!b))))|_=>none
def flP (C:Cx)(t f:Nat)(X:Option AV):Option AV:=match look C.tt t with
 | some i=>(match i.k with
  | .struct fs=>(match fs[f]? with
   | some (off,ft)=>(match look C.tt ft with
    | some j=>(match X with
     | some (.p (.agg cs))=>(match j.k.isAgg with
      | false=>(match cs[off]? with|some c=>some (.p c)|none=>none)
      | true=>(match Nat.ble (off+j.size) cs.length with
       | true=>(match nrm ((cs.drop off).take j.size) with
        | some ds=>some (.p (.agg ds))
        | none=>none)
       | false=>none))
     | _=>none)
    | none=>none)
   | none=>none)
  | _=>none)
 | none=>none
def cvP (C:Cx)(st dt:Nat)(X:Option AV):Option AV:=match look C.tt st with
 | some i=>(match i.k with
  | .int k'=>(match look C.tt dt with
   | some j=>(match j.k with
    | .int k=>(match X with
     | some (.p (.val (.int k2 a)))=>(match ikE k2 k' with
      | true=>(match ikE k .i64 with
       | true=>none
       | false=>some (.p (.val (.int k (k.wrap a)))))
      | false=>none)
     | _=>none)
    | _=>none)
   | none=>none)
  | _=>none)
 | none=>none
def agP (cs:List AV):Option AV:=match nrm cs with
 | some ds=>(match nb ds with
  | .p y=>some (.p y)
  | .agg l=>some (.agg l)
  | _=>none)
 | none=>none
def buP (C:Cx)(t:Nat)(X:Option (List (Nat×AV))):Option AV:=match look C.tt t with
 | some i=>(match i.k with
  | .struct fs=>(match qv C.tt fs with
   | some pl=>(match X with
    | some ps=>(match tC (λ (i:Nat)=>pl[i]?) (f0 i) ps with
     | some cs=>agP cs
     | none=>none)
    | none=>none)
   | none=>none)
  | .array _ e=>(match look C.tt e with
   | some ie=>(match X with
    | some ps=>(match tC (λ (k:Nat)=>some (k*ie.size,ie.size)) (f0 i) ps with
     | some cs=>agP cs
     | none=>none)
    | none=>none)
   | none=>none)
  | _=>none)
 | none=>none
def laP (C:Cx)(c:Call)(sl:List (Nat×AV)):Option AV:=match c with
 | ⟨.builtin .len,⟨[x]⟩,⟨[t]⟩⟩=>(match look C.tt t with
  | some i=>(match i.k with
   | .slice _=>(match evo sl x with
    | some (.arr _ _ _ m)=>some (.p (.val (.int .i64 (m:Int))))
    | _=>none)
   | _=>none)
  | none=>none)
 | _=>none
def alP (C:Cx)(o:Oper)(sl:List (Nat×AV))(ob:List (Nat×List AV))(t:Nat):Option AS:=match look C.tt t with
 | some i=>(match AV.cellsA (.agg (f0 i)) with
  | some cs=>(match nrm cs with|some ds=>nwP C o sl ob ds|none=>none)
  | none=>none)
 | none=>none
def bxP (C:Cx)(o:Oper)(sl:List (Nat×AV))(ob:List (Nat×List AV))(v:Operand):Option AS:=match evo sl v with
 | some x=>(match x.cellsA with
  | some cs=>(match nrm cs with|some ds=>nwP C o sl ob ds|none=>none)
  | none=>none)
 | none=>none
def opV (C:Cx)(o:Oper)(sl:List (Nat×AV))(ob:List (Nat×List AV)):Option AV:=match o.op with
 | .move x=>evo sl x
 | .assign x=>evo sl x
 | .pick c x y=>pkP sl x y (evo sl c)
 | .binOp op t x y _=>bnP C op t (evo sl x) (evo sl y)
 | .unOp .not _ x=>ntP (evo sl x)
 | .fieldAddr t x f=>faP C t f (evo sl x)
 | .load t x=>ldP C ob t (evo sl x)
 | .nilCheck x=>ncP (evo sl x)
 | .extract x k=>xtP k (evo sl x)
 | .field t x f=>flP C t f (evo sl x)
 | .convert st dt x=>cvP C st dt (evo sl x)
 | .build t parts=>buP C t (ik sl parts.toList)
 | .call c=>laP C c sl
 | _=>none
def opF (C:Cx)(o:Oper):AS->Option AS
 | ⟨sl,ob⟩=>match o.op with
 | .store t x v=>stP C o sl ob t x v
 | .box _ v=>bxP C o sl ob v
 | .alloc t=>alP C o sl ob t
 | .move x=>(match evo sl x with
  | some y=>Ag C o ⟨sl,ob⟩ y
  | none=>Ag C o ⟨sl,ob⟩ .undef)
 | .assign x=>(match evo sl x with
  | some y=>Ag C o ⟨sl,ob⟩ y
  | none=>Ag C o ⟨sl,ob⟩ .undef)
 | _=>(match opV C o sl ob with
  | some y=>Ag C o ⟨sl,ob⟩ y
  | none=>none)
theorem RG {c x y:Operand}{z:AV}(ho:o.op=.pick c x y)(h:pkP sl x y (evo sl c)=some z)(hd:o.dst=some d)(hn:Nat.blt d C.n=true)(hK:K ⟨(d,z)::sl,ob⟩):bc C o K ⟨sl,ob⟩:=by
 generalize hc:evo sl c=v at h;unfold pkP at h
 grind [mB,oh]
theorem Qo {op:BinOp}{t t':TypeId}{x y:Operand}{z:AV}(ho:o.op=.binOp op t x y t')(h:bnP C op t (evo sl x) (evo sl y)=some z)(h1:o.dst=some d)(h2:Nat.blt d C.n=true)(hK:K ⟨(d,z)::sl,ob⟩):bc C o K ⟨sl,ob⟩:=by
 generalize hx:evo sl x=X at h;generalize hy:evo sl y=Y0z at h;unfold bnP at h
 grind [Ju,PX,Pq,J3,NW]
theorem Pj {t f:Nat}{x:Operand}{z:AV}(ho:o.op=.fieldAddr t x f)(h:faP C t f (evo sl x)=some z)(h1:o.dst=some d)(h2:Nat.blt d C.n=true)(hK:K ⟨(d,z)::sl,ob⟩):bc C o K ⟨sl,ob⟩:=by
 generalize hx:evo sl x=X at h;unfold faP at h;split at h
 ·rename_i i hi;split at h
  ·grind [qH,wd]
  ·cases h
 ·cases h
theorem P6 {t:Nat}{x:Operand}{z:AV}(ho:o.op=.load t x)(h:ldP C ob t (evo sl x)=some z)(h1:o.dst=some d)(h2:Nat.blt d C.n=true)(hK:K ⟨(d,z)::sl,ob⟩):bc C o K ⟨sl,ob⟩:=by
 generalize hx:evo sl x=X at h;unfold ldP at h;split at h
 ·grind [sU,tq,E3,FG]
 ·cases h
theorem P9 {t:Nat}{x v:Operand}(ho:o.op=.store t x v)(h:stP C o sl ob t x v=some s')(hK:K s'):bc C o K ⟨sl,ob⟩:=by
 unfold stP at h;split at h
 ·rename_i hd;split at h
  ·rename_i i hi;split at h
   ·rename_i id k hx;split at h
    ·grind [se,oW,Nat.eq_of_beq_eq_true,Nat.le_of_ble_eq_true]
    ·cases h
   ·cases h
  ·cases h
 ·cases h
theorem Rj {t:Nat}{v:Operand}(ho:o.op=.box t v)(h:bxP C o sl ob v=some s')(hK:K s'):bc C o K ⟨sl,ob⟩:=by
 unfold bxP at h
 grind [LZ,se,CF]
theorem Ra {t:Nat}(ho:o.op=.alloc t)(h:alP C o sl ob t=some s')(hK:K s'):bc C o K ⟨sl,ob⟩:=by
 unfold alP at h
 grind [LZ,se,AV.cellsA,fU]
theorem RA {x:Operand}{z:AV}(ho:o.op=.nilCheck x)(h:ncP (evo sl x)=some z)(h1:o.dst=some d)(h2:Nat.blt d C.n=true)(hK:K ⟨(d,z)::sl,ob⟩):bc C o K ⟨sl,ob⟩:=by
 generalize hx:evo sl x=X at h;unfold ncP at h
 grind [xA]
theorem QT {x:Operand}{n:Nat}{z:AV}(ho:o.op=.extract x n)(h:xtP n (evo sl x)=some z)(h1:o.dst=some d)(h2:Nat.blt d C.n=true)(hK:K ⟨(d,z)::sl,ob⟩):bc C o K ⟨sl,ob⟩:=by
 generalize hx:evo sl x=X at h;unfold xtP at h
 grind [Ch]
theorem QH {t:TypeId}{x:Operand}{z:AV}(ho:o.op=.unOp .not t x)(h:ntP (evo sl x)=some z)(h1:o.dst=some d)(h2:Nat.blt d C.n=true)(hK:K ⟨(d,z)::sl,ob⟩):bc C o K ⟨sl,ob⟩:=by
 generalize hx:evo sl x=X at h;unfold ntP at h
 grind [PN]
theorem QG {t f:Nat}{x:Operand}{z:AV}(ho:o.op=.field t x f)(h:flP C t f (evo sl x)=some z)(h1:o.dst=some d)(h2:Nat.blt d C.n=true)(hK:K ⟨(d,z)::sl,ob⟩):bc C o K ⟨sl,ob⟩:=by
 generalize hx:evo sl x=X at h;unfold flP at h;split at h
 ·rename_i i hi;split at h
  ·rename_i fs hk;split at h
   ·grind [Fc,se,EZ]
   ·cases h
  ·cases h
 ·cases h
theorem Ry {st dt:Nat}{x:Operand}{z:AV}(ho:o.op=.convert st dt x)(h:cvP C st dt (evo sl x)=some z)(h1:o.dst=some d)(h2:Nat.blt d C.n=true)(hK:K ⟨(d,z)::sl,ob⟩):bc C o K ⟨sl,ob⟩:=by
 generalize hx:evo sl x=X at h;unfold cvP at h;split at h
 ·rename_i i hi;split at h
  ·grind [Ju,Kf]
  ·cases h
 ·cases h
theorem JB {cs:List AV}{z:AV}(h:agP cs=some z):some (nb cs)=some z:=by
 grind [agP,se]
theorem Ro {t:Nat}{parts:Array (Nat×Operand)}{z:AV}(ho:o.op=.build t parts)(h:buP C t (ik sl parts.toList)=some z)(h1:o.dst=some d)(h2:Nat.blt d C.n=true)(hK:K ⟨(d,z)::sl,ob⟩):bc C o K ⟨sl,ob⟩:=by
 generalize hps:ik sl parts.toList=X at h;unfold buP at h;split at h
 ·rename_i i hi;split at h
  ·grind [AD,JB]
  ·grind [zP,JB]
  ·cases h
 ·cases h
theorem QQ {c:Call}{z:AV}(ho:o.op=.call c)(h:laP C c sl=some z)(h1:o.dst=some d)(h2:Nat.blt d C.n=true)(hK:K ⟨(d,z)::sl,ob⟩):bc C o K ⟨sl,ob⟩:=by
 unfold laP at h
 grind [NT]
theorem vp {y:AV}(h:opV C o sl ob=some y)(h1:o.dst=some d)(h2:Nat.blt d C.n=true)(hK:K ⟨(d,y)::sl,ob⟩):bc C o K ⟨sl,ob⟩:=by
 grind [opV,D6,sM,RG,Qo,QH,Pj,P6,RA,QT,QG,Ry,Ro,QQ]
theorem CG (h:opF C o ⟨sl,ob⟩=some s')(hK:K s'):bc C o K ⟨sl,ob⟩:=by
 grind [opF,P9,Rj,Ra,xO,D6,AA,sM,wn,vp]
def isU:Value->Bool|.tuple a=>Nat.beq a.size 0|_=>false
theorem I7 {v:Value}(h:isU v=true):v=Go.undef:=by
 unfold isU at h;split at h
 ·rename_i a;have:=la h;have:=Array.eq_empty_of_size_eq_zero this;subst this; rfl
 ·cases h
def DI (C:Cx)(o:Oper)(s:AS):Option AS:=Ag C o s (.p (.val Go.undef))
def guF (C:Cx)(o:Oper)(s:AS):Option (Bool×AV)->Option AS
 | some (true,.p (.val (.bool true)))=>opF C o s
 | some (true,.p (.val (.bool false)))=>DI C o s
 | some (false,.p (.val (.bool true)))=>DI C o s
 | some (false,.p (.val (.bool false)))=>opF C o s
 | some (_,.p (.val v))=>(match isU v with|true=>DI C o s|false=>none)
 | _=>none
def oF (C:Cx)(ops:Array Oper)(o:Oper):AS->Option AS
 | ⟨sl,ob⟩=>match o.guard with
  | none=>opF C o ⟨sl,ob⟩
  | some _=>guF C o ⟨sl,ob⟩ (gdF ops o sl)
theorem To (h:oF C ops o ⟨sl,ob⟩=some s')(hK:hH C ops r K s'):hH C ops (o::r) K ⟨sl,ob⟩:=by
 unfold oF at h;dsimp only at h;split at h
 ·grind [DW,CG]
 ·rename_i p hg
  have pass:∀ {w:Bool} {b:Bool},gdF ops o sl=some (w,.p (.val (.bool b)))->b=(!w)->DI C o ⟨sl,ob⟩=some s'->hH C ops (o::r) K ⟨sl,ob⟩:=by
   intro w b hgd hb hp;obtain ⟨d,h1,h2,rfl⟩:=xO hp
   grind [xG,wh]
  generalize hgd:gdF ops o sl=G0z at h;unfold guF at h;split at h
  ·grind [gy,CG]
  ·grind
  ·grind
  ·grind [gy,CG]
  ·rename_i v hno1 hno2 hno3 hno4;split at h
   ·rename_i hu;have:=I7 hu; subst this;obtain ⟨d,h1,h2,rfl⟩:=xO h
    grind [xG,tR]
   ·cases h
  ·cases h
def cdE (s:AS)(x:Operand):Option AV:=match s with|⟨sl,_⟩=>evo sl x
def cdF (_C:Cx)(k:List Fr)(s:AS):Code->Option Cf
 | .seq x y=>some ⟨.cd x,.sq y::k,s⟩
 | .block id x=>some ⟨.cd x,.bk id::k,s⟩
 | .scope x=>some ⟨.cd x,.ng::k,s⟩
 | .skip=>pop k .normal s
 | .label _=>pop k .normal s
 | .exit id=>pop k (.exit id) s
 | .ret=>pop k .ret s
 | .region _ ops draw=>(match draw with|false=>some ⟨.op ops ops.toList,k,s⟩|true=>none)
 | .cond c x y=>(match cdE s c with
  | some (.p (.val (.bool true)))=>some ⟨.cd x,k,s⟩
  | some (.p (.val (.bool false)))=>some ⟨.cd y,k,s⟩
  | _=>none)
 | _=>none
def stp (C:Cx):Cf->Option Cf
 | ⟨.ex e,k,s⟩=>pop k e s
 | ⟨.op _ [],k,s⟩=>pop k .normal s
 | ⟨.op ops (o::r),k,s⟩=>(match oF C ops o s with|some s'=>some ⟨.op ops r,k,s'⟩|none=>none)
 | ⟨.cd c,k,s⟩=>cdF C k s c
theorem P4 {c:Code}{c':Cf}(h:cdF C k s c=some c')(hM:M C Q c'):awp C c (dn C Q k) s:=by
 unfold cdF at h;split at h
 ·cases h; exact Eg hM
 ·cases h; exact FN hM
 ·cases h; exact F1 hM
 ·exact AG (pS h hM)
 ·exact EV (pS h hM)
 ·exact HI (pS h hM)
 ·exact N8 (pS h hM)
 ·split at h
  ·cases h; exact N7 hM
  ·cases h
 ·have hs:∀ c,cdE s c=evo s.sl c:=λ c=>by cases s; rfl
  split at h
  ·rename_i hc; cases h; exact JD (Hz ((hs _).symm.trans hc)) rfl hM
  ·rename_i hc; cases h; exact Gc (Hz ((hs _).symm.trans hc)) rfl hM
  ·cases h
 ·cases h
theorem Cd {c c':Cf}(h:stp C c=some c')(hM:M C Q c'):M C Q c:=by
 unfold stp at h;split at h
 ·exact pS h hM
 ·exact Ij (pS h hM)
 ·split at h
  ·rename_i s0 hs; cases h; exact To hs hM
  ·cases h
 ·exact P4 h hM
def run (C:Cx):Nat->Cf->Option Cf
 | 0,c=>some c
 | n+1,c=>(match stp C c with|some c'=>run C n c'|none=>none)
theorem nx:∀ (n:Nat) {c c':Cf},run C n c=some c'->M C Q c'->M C Q c
 | 0,c,c',h,hM=>by cases h; exact hM
 | n+1,c,c',h,hM=>by
  unfold run at h;split at h
  ·rename_i c1 h1; exact Cd h1 (nx n h hM)
  ·cases h
theorem qc:∀ {k:List Fr} {e:Exit} {s t:AS},cO C s t->dn C Q k e t->dn C Q k e s
 | [],e,s,t,hg,⟨u,h1,h2⟩=>⟨u,bm hg h1,h2⟩
 | .sq y::k,e,s,t,hg,h=>by
  cases e with
  | normal=>exact tb hg h
  | _=>exact qc (k:=k) hg h
 | .bk id::k,e,s,t,hg,h=>by
  cases e with
  | exit i=>
   simp only [dn,kD] at h ⊢;split
   ·rename_i e; rw [if_pos e] at h; exact qc (k:=k) hg h
   ·rename_i e; rw [if_neg e] at h; exact qc (k:=k) hg h
  | _=>exact qc (k:=k) hg h
 | .ng::k,e,s,t,hg,h=>by
  cases e with
  | goto l=>exact h
  | _=>exact qc (k:=k) hg h
 | .jo P::k,e,s,t,hg,h=>by
  cases e with
  | normal=>obtain ⟨u,h1,h2⟩:=h; exact ⟨u,bm hg h1,h2⟩
  | _=>exact qc (k:=k) hg h
 | .je id P::k,e,s,t,hg,h=>by
  cases e with
  | exit i=>
   simp only [dn,exQ] at h ⊢;split
   ·grind [bm]
   ·rename_i e; rw [if_neg e] at h; exact qc (k:=k) hg h
  | _=>exact qc (k:=k) hg h
theorem mG {c:Ct}{t:AS}(hg:cO C s t)(h:M C Q ⟨c,k,t⟩):M C Q ⟨c,k,s⟩:=by
 cases c with
 | cd c=>exact tb hg h
 | op ops r=>exact BV hg h
 | ex e=>exact qc hg h
theorem kX {c:Code}{σ:Type}(A:σ->Prop)(mk:σ->AS)(h2:∀ v,A v->M C Q ⟨.ex .normal,k,mk v⟩)(h1:M C Q ⟨.cd c,.jo (λ t=>∃ v,A v/\t=mk v)::k,s⟩):M C Q ⟨.cd c,k,s⟩ :=
 LK _ (λ _s' ⟨_,hg,v,hv,e⟩=>qc hg (e ▸ h2 v hv)) h1
theorem kEx (id:Nat){c:Code}{σ:Type}(A:σ->Prop)(mk:σ->AS)(h2:∀ v,A v->M C Q ⟨.ex (.exit id),k,mk v⟩)(h1:M C Q ⟨.cd c,.je id (λ t=>∃ v,A v/\t=mk v)::k,s⟩):M C Q ⟨.cd c,k,s⟩ :=
 IB id _ (λ _s' ⟨_,hg,v,hv,e⟩=>qc hg (e ▸ h2 v hv)) h1
theorem eX {σ:Type}{A:σ->Prop}{mk:σ->AS}(v:σ)(hv:A v)(hg:cO C s (mk v)):M C Q ⟨.ex .normal,.jo (λ t=>∃ v,A v/\t=mk v)::k,s⟩:=⟨mk v,hg,v,hv,rfl⟩
theorem eXi {σ:Type}{A:σ->Prop}{mk:σ->AS}{id:Nat}(v:σ)(hv:A v)(hg:cO C s (mk v)):M C Q ⟨.ex (.exit id),.je id (λ t=>∃ v,A v/\t=mk v)::k,s⟩:=by
 show dn C Q (.je id (λ t=>∃ v,A v/\t=mk v)::k) (.exit id) s;simp only [dn,exQ,if_true]; grind
theorem lG {c:Code}{σ O0z:Type}(mk:σ->AS)(lp:Nat->σ->Option O0z)(hz:∀ q,lp 0 q=none){o:O0z}{n:Nat}(q0:σ)(h0:lp n q0=some o)(hle:cO C s (mk q0))
  (round:∀ m q,lp (m+1) q=some o->M C Q ⟨.cd c,.jo (λ t=>∃ q',lp m q'=some o/\t=mk q')::k,mk q⟩):M C Q ⟨.cd (.loop c),k,s⟩:=by
 refine FK mk lp hz q0 h0 hle λ m q hq=>p8 (λ e s' h=>?_) (round m q hq)
 cases e with
 | normal=>obtain ⟨u,hg,q',h1,rfl⟩:=h; exact ⟨q',h1,hg⟩
 | _=>exact h
def lks (sl:List (Nat×AV)):List Nat->Option (List AV)
 | []=>some []
 | t::r=>(match look sl t with
  | some x=>(match lks sl r with|some l=>some (x::l)|none=>none)
  | none=>none)
def stB (b:Bool)(sl:List (Nat×AV)):List Nat->List (Nat×AV)|[]=>sl|t::r=>(t,.p (.val (.bool b)))::stB b sl r
theorem K5 {b:Bool}:∀ {T:List Nat},lks sl T=some (T.map λ _=>.p (.val (.bool b)))->∀ j x,look (stB b sl T) j=some x->look sl j=some x
 | [],_,j,x,h=>h
 | t::r,hT,j,x,h=>by
  unfold lks at hT;split at hT
  ·rename_i y hy;split at hT
   ·rename_i l hl;simp only [dg,bt,List.cons.injEq] at hT;simp only [stB,aZ] at h;split at h
    ·grind
    ·exact K5 (hl.trans (congrArg some hT.2)) j x h
   ·cases hT
  ·cases hT
theorem vR {b:Bool}{T:List Nat}(hT:lks sl T=some (T.map λ _=>.p (.val (.bool b)))):cO C ⟨sl,ob⟩ ⟨stB b sl T,ob⟩ :=
 d3 ⟨λ j x hx=>by
  grind [K5,AS.get,AV.sub_refl],λ id cs h=>⟨cs,h,bx _,λ i c d hc hd=>by grind [AV.sub_refl]⟩⟩
theorem fD {c:Ct}{p:Prop} [Decidable p] {α:Type}{a b:Option α}{v:α}(T:List Nat)(h:(if p then a else b)=some v)(hT:lks sl T=some (T.map λ _=>.p (.val (.bool (decide p)))))
  (h1:p->a=some v->M C Q ⟨c,k,⟨stB true sl T,ob⟩⟩) (h2:¬p->b=some v->M C Q ⟨c,k,⟨stB false sl T,ob⟩⟩):M C Q ⟨c,k,⟨sl,ob⟩⟩:=by
 exact Lc
theorem fN {c:Ct}{p:Prop} [Decidable p] {α:Type}{a b:Option α}{v:α}(T:List Nat)(h:(if p then a else b)=some v)(hT:lks sl T=some (T.map λ _=>.p (.val (.bool (!decide p)))))
  (h1:p->a=some v->M C Q ⟨c,k,⟨stB false sl T,ob⟩⟩) (h2:¬p->b=some v->M C Q ⟨c,k,⟨stB true sl T,ob⟩⟩):M C Q ⟨c,k,⟨sl,ob⟩⟩:=by
 exact Lc
theorem fB {c:Ct}{p:Bool}{α:Type}{a b:Option α}{v:α}(T:List Nat)(h:(if p=true then a else b)=some v)(hT:lks sl T=some (T.map λ _=>.p (.val (.bool p))))
  (h1:p=true->a=some v->M C Q ⟨c,k,⟨stB true sl T,ob⟩⟩) (h2:p=false->b=some v->M C Q ⟨c,k,⟨stB false sl T,ob⟩⟩):M C Q ⟨c,k,⟨sl,ob⟩⟩:=by
 cases p
 ·exact mG (vR hT) (h2 Z (Ty Z h))
 ·exact mG (vR hT) (h1 Z (Q9 Z h))
theorem lT {c:Ct}{q b:Bool}(T:List Nat)(hb:q=b)(hT:lks sl T=some (T.map λ _=>.p (.val (.bool q))))(h:M C Q ⟨c,k,⟨stB b sl T,ob⟩⟩):M C Q ⟨c,k,⟨sl,ob⟩⟩:=by
 subst hb; exact mG (vR hT) h
def gF (ops:Array Oper)(o:Oper)(sl:List (Nat×AV)):Bool:=match o.guard with
 | none=>true
 | some _=>(match gdF ops o sl with
  | some (true,.p (.val (.bool true)))=>true
  | some (false,.p (.val (.bool false)))=>true
  | _=>false)
theorem mO (hg:gF ops o sl=true)(h:bc C o (λ s'=>M C Q ⟨.op ops r,k,s'⟩) ⟨sl,ob⟩):M C Q ⟨.op ops (o::r),k,⟨sl,ob⟩⟩:=by
 unfold gF at hg;split at hg
 ·rename_i hn; exact DW hn h
 ·generalize hgd:gdF ops o sl=G0z at hg;split at hg
  ·exact gy Z hgd h
  ·exact gy Z hgd h
  ·cases hg
theorem bd {α β:Type}{g:Prop}{p:Option α}{f:α->Option β}{v:β}(h:p.bind f=some v)(H:∀ x,p=some x->f x=some v->g):g:=by
 obtain ⟨x,h1,h2⟩:=Lh h
 grind
theorem cc' {α:Type}{g:Prop}{p:Prop} [Decidable p] {a:Option α}{v:α}(h:ck p a=some v)(H:p->a=some v->g):g:=by
 grind [og]
def biF (C:Cx)(ops:Array Oper)(o:Oper)(sl:List (Nat×AV)):Option (Nat×BinOp×AV×AV):=match gF ops o sl with
 | true=>(match dsF C.n o with
  | some d=>(match o.op with
   | .binOp op _ x y _=>(match evo sl x with
    | some X=>(match evo sl y with
     | some Y0z=>some (d,op,X,Y0z)
     | none=>none)
    | none=>none)
   | _=>none)
  | none=>none)
 | false=>none
theorem Cy {op:BinOp}{X Y0z:AV}(h:biF C ops o sl=some (d,op,X,Y0z)):gF ops o sl=true/\o.dst=some d/\Nat.blt d C.n=true/\∃ t x y t',o.op=.binOp op t x y t'/\evo sl x=some X/\evo sl y=some Y0z:=by
 unfold biF at h;split at h
 ·grind [pc]
 ·cases h
theorem oA {α:Type}{a:Option α}{v:α}{op:BinOp}{x y c:Int}(h:ck (inR c) a=some v)(hb:biF C ops o sl=some (d,op,.p (.val (.int .i64 x)),.p (.val (.int .i64 y))))(hc:arI op x y=some c)
  (H:inR c->a=some v->M C Q ⟨.op ops r,k,⟨(d,.p (eI c))::sl,ob⟩⟩):M C Q ⟨.op ops (o::r),k,⟨sl,ob⟩⟩:=by
 obtain ⟨hg,hd,hn,t,X,Y,t',ho,hx,hy⟩:=Cy hb;obtain ⟨h1,h2⟩:=og h;exact mO hg (fM ho hd hn hx hy hc h1 (H h1 h2))
theorem oS {op:BinOp}{x y:Bk}{c:Bool}(hb:biF C ops o sl=some (d,op,.p (.val (.string (str x))),.p (.val (.string (str y)))))(hc:Nk op x y=some c)
  (H:M C Q ⟨.op ops r,k,⟨(d,.p (eB c))::sl,ob⟩⟩):M C Q ⟨.op ops (o::r),k,⟨sl,ob⟩⟩:=by
 obtain ⟨hg,hd,hn,t,X,Y,t',ho,hx,hy⟩:=Cy hb;exact mO hg (kR ho hd hn hx hy hc H)
theorem oC {α:Type}{a:Option α}{v:α}{x y:Bk}(h:ck (x.length+y.length<=9223372036854775807) a=some v)(hb:biF C ops o sl=some (d,.add,.p (.val (.string (str x))),.p (.val (.string (str y)))))
  (H:x.length+y.length<=9223372036854775807->a=some v->M C Q ⟨.op ops r,k,⟨(d,.p (eS (x++y)))::sl,ob⟩⟩):M C Q ⟨.op ops (o::r),k,⟨sl,ob⟩⟩:=by
 obtain ⟨hg,hd,hn,t,X,Y,t',ho,hx,hy⟩:=Cy hb;obtain ⟨h1,h2⟩:=og h;exact mO hg (sT ho hd hn hx hy h1 (H h1 h2))
def lnF (C:Cx)(ops:Array Oper)(o:Oper)(sl:List (Nat×AV)):Option (Nat×Bool×AV):=match gF ops o sl with
 | true=>(match dsF C.n o with
  | some d=>(match o.op with
   | .call ⟨.builtin .len,⟨[x]⟩,⟨[t]⟩⟩=>(match look C.tt t with
    | some i=>(match evo sl x with
     | some X=>(match i.k with
      | .string=>some (d,true,X)
      | .slice _=>some (d,false,X)
      | _=>none)
     | none=>none)
    | none=>none)
   | _=>none)
  | none=>none)
 | false=>none
theorem oLs {x:Bk}(hb:lnF C ops o sl=some (d,true,.p (.val (.string (str x)))))(H:M C Q ⟨.op ops r,k,⟨(d,.p (eI (x.length:Int)))::sl,ob⟩⟩):M C Q ⟨.op ops (o::r),k,⟨sl,ob⟩⟩:=by
 unfold lnF at hb;split at hb
 ·rename_i hg;split at hb
  ·rename_i e hd;split at hb
   ·rename_i z t ho;split at hb
    ·rename_i i hi;split at hb
     ·rename_i X hx;split at hb
      ·rename_i hk; cases hb; exact mO hg (nU ho (pc hd).1 (pc hd).2 hi hk hx H)
      ·cases hb
      ·cases hb
     ·cases hb
    ·cases hb
   ·cases hb
  ·cases hb
 ·cases hb
theorem oLl {α:Type}{f:α->PV}{l:List α}{X:AV}(hb:lnF C ops o sl=some (d,false,X))(hX:X.elems? = some (l.map f))(H:M C Q ⟨.op ops r,k,⟨(d,.p (eI (l.length:Int)))::sl,ob⟩⟩):M C Q ⟨.op ops (o::r),k,⟨sl,ob⟩⟩:=by
 unfold lnF at hb;split at hb
 ·rename_i hg;split at hb
  ·rename_i e hd;split at hb
   ·grind [mO,nR,pc]
   ·cases hb
  ·cases hb
 ·cases hb
def ixF (C:Cx)(ops:Array Oper)(o:Oper)(sl:List (Nat×AV)):Option (Nat×AV×AV):=match gF ops o sl with
 | true=>(match dsF C.n o with
  | some d=>(match o.op with
   | .index t x y=>(match look C.tt t with
    | some i=>(match i.k with
     | .string=>(match evo sl x with
      | some X=>(match evo sl y with|some Y0z=>some (d,X,Y0z)|none=>none)
      | none=>none)
     | _=>none)
    | none=>none)
   | _=>none)
  | none=>none)
 | false=>none
theorem oI {α:Type}{a:Option α}{v:α}{x:Bk}{i:IntKind}{j:Int}(h:ck ((0:Int)<=j/\j<(x.length:Int)) a=some v)(hb:ixF C ops o sl=some (d,.p (.val (.string (str x))),.p (.val (.int i j))))
  (H:(0:Int)<=j/\j<(x.length:Int)->a=some v->M C Q ⟨.op ops r,k,⟨(d,.p (eK .u8 (byt x j)))::sl,ob⟩⟩):M C Q ⟨.op ops (o::r),k,⟨sl,ob⟩⟩:=by
 obtain ⟨h1,h2⟩:=og h;unfold ixF at hb;split at hb
 ·rename_i hg;split at hb
  ·rename_i e hd;split at hb
   ·grind [mO,fK,pc]
   ·cases hb
  ·cases hb
 ·cases hb
def slF (C:Cx)(ops:Array Oper)(o:Oper)(sl:List (Nat×AV)):Option (Nat×AV×Option Operand×Option Operand):=match gF ops o sl with
 | true=>(match dsF C.n o with
  | some d=>(match o.op with
   | .slice t x lo hi none=>(match look C.tt t with
    | some i=>(match i.k with
     | .string=>(match evo sl x with
      | some X=>some (d,X,lo,hi)
      | none=>none)
     | _=>none)
    | none=>none)
   | _=>none)
  | none=>none)
 | false=>none
theorem oP {α:Type}{a:Option α}{v:α}{x:Bk}{i j:Int}{lo hi:Option Operand}(h:ck ((0:Int)<=i/\i<=j/\j<=(x.length:Int)) a=some v)(hb:slF C ops o sl=some (d,.p (.val (.string (str x))),lo,hi))(hlo:loI sl lo=some i)(hhi:hiI sl (x.length:Int) hi=some j)
  (H:(0:Int)<=i/\i<=j/\j<=(x.length:Int)->a=some v->M C Q ⟨.op ops r,k,⟨(d,.p (eS (sub x i j)))::sl,ob⟩⟩):M C Q ⟨.op ops (o::r),k,⟨sl,ob⟩⟩:=by
 obtain ⟨h1,h2⟩:=og h;unfold slF at hb;split at hb
 ·rename_i hg;split at hb
  ·grind [mO,fH,pc]
  ·cases hb
 ·cases hb
def atF (C:Cx)(ops:Array Oper)(o:Oper)(sl:List (Nat×AV)):Option (Nat×Nat×AV×AV):=match gF ops o sl with
 | true=>(match dsF C.n o with
  | some d=>(match o.op with
   | .indexAddr t x y=>(match look C.tt t with
    | some i=>(match i.k with
     | .slice e=>(match look C.tt e with
      | some ie=>(match evo sl x with
       | some X=>(match evo sl y with|some Y0z=>some (d,ie.size,X,Y0z)|none=>none)
       | none=>none)
      | none=>none)
     | _=>none)
    | none=>none)
   | _=>none)
  | none=>none)
 | false=>none
theorem oE {α β:Type} [Inhabited α] {a:Option β}{v:β}{f:α->PV}{l:List α}{cs:α->List PV}{X:AV}{sz:Nat}{i:IntKind}{j:Int}(h:ck ((0:Int)<=j/\j<(l.length:Int)) a=some v)(Uw:∀ x,(f x).cells=cs x)(hb:atF C ops o sl=some (d,sz,X,.p (.val (.int i j))))(hX:X.elems? = some (l.map f))(Ul:∀ x,(cs x).length=sz)
  (H:(0:Int)<=j/\j<(l.length:Int)->a=some v->M C Q ⟨.op ops r,k,⟨(d,.rptr (cs (lat l j)))::sl,ob⟩⟩):M C Q ⟨.op ops (o::r),k,⟨sl,ob⟩⟩:=by
 obtain ⟨h1,h2⟩:=og h;unfold atF at hb;split at hb
 ·rename_i hg;split at hb
  ·rename_i e hd;split at hb
   ·rename_i t X Y0z ho;split at hb
    ·rename_i i hi;split at hb
     ·rename_i hk;split at hb
      ·rename_i ie hie;split at hb
       ·rename_i hx;split at hb
        ·rename_i hy; cases hb; exact mO hg (jG cs ho (pc hd).1 (pc hd).2 hi hk hie hx hX hy h1 Uw Ul (H h1 h2))
        ·cases hb
       ·cases hb
      ·cases hb
     ·cases hb
    ·cases hb
   ·cases hb
  ·cases hb
 ·cases hb
def clF (C:Cx)(ops:Array Oper)(o:Oper)(sl:List (Nat×AV)):Option (Nat×FuncId×List AV):=match gF ops o sl with
 | true=>(match dsF C.n o with
  | some d=>(match o.op with
   | .call ⟨.value (.func f),args,_⟩=>(match kW sl args.toList with
    | some l=>some (d,f,l)
    | none=>none)
   | _=>none)
  | none=>none)
 | false=>none
theorem oK {f:FuncId}{l:List AV}{q:List PV}{x x':AV}(hc:bG C.P f q (·=x))(hb:clF C ops o sl=some (d,f,l))(hq:zV l q)(henter:∀ vs w,(callFunc f vs).run C.P w=.ok (.enter f vs) w)(hr:x.settle=some x')
  (H:M C Q ⟨.op ops r,k,⟨(d,x')::sl,ob⟩⟩):M C Q ⟨.op ops (o::r),k,⟨sl,ob⟩⟩:=by
 unfold clF at hb
 grind [mO,cW,pc]
def tO:Operand->List Nat->List Nat|.tmp t,l=>t::l|_,l=>l
def tOs:List Operand->List Nat|[]=>[]|x::r=>tO x (tOs r)
def tms (o:Oper):List Nat:=match o.op with
 | .move x=>tO x []
 | .assign x=>tO x []
 | .pick c x y=>tO c (tO x (tO y []))
 | .binOp _ _ x y _=>tO x (tO y [])
 | .unOp _ _ x=>tO x []
 | .fieldAddr _ x _=>tO x []
 | .load _ x=>tO x []
 | .nilCheck x=>tO x []
 | .extract x _=>tO x []
 | .field _ x _=>tO x []
 | .convert _ _ x=>tO x []
 | .build _ parts=>tOs (parts.toList.map (·.2))
 | .call c=>tOs c.args.toList
 | _=>[]
def gdT (ops:Array Oper)(o:Oper)(l:List Nat):List Nat:=match o.guard with
 | some (j,_)=>(match (ops.toList[j]?).bind (·.dst) with
  | some t=>t::l
  | none=>l)
 | none=>l
def knL (base:List (Nat×AV))(o:Oper)(rev:Rev):List Nat->List (Nat×AV)
 | []=>[]
 | i::r=>(match knX base o rev i with
  | some x=>(i,x)::knL base o rev r
  | none=>knL base o rev r)
theorem yL {base:List (Nat×AV)}{rev:Rev}:∀ {l:List Nat},Fx base o rev (knL base o rev l)
 | []=>trivial
 | i::r=>by
  unfold knL;split
  ·rename_i x hx; exact ⟨Ji hx,yL⟩
  ·exact yL
theorem oc {kn:List (Nat×AV)}(hs:∀ i x,look kn i=some x->look sl i=some x)(x:Operand):evo kn x=none\/evo kn x=evo sl x:=by
 cases h:evo kn x with
 | none=>grind
 | some y=>grind [jh]
theorem ww {kn:List (Nat×AV)}(hs:∀ i x,look kn i=some x->look sl i=some x):∀ {l:List (Nat×Operand)} {ps:List (Nat×AV)},ik kn l=some ps->ik sl l=some ps
 | [],ps,h=>h
 | (i,x)::r,ps,h=>by
  unfold ik at h ⊢;split at h
  ·rename_i y l hy hl; cases h; rw [jh hs hy,ww hs hl]
  ·cases h
theorem HY {kn:List (Nat×AV)}{y:AV}(hs:∀ i x,look kn i=some x->look sl i=some x)(h:opV C o kn ob=some y):opV C o sl ob=some y:=by
 unfold opV at h ⊢;split at h
 ·exact jh hs h
 ·exact jh hs h
 ·rename_i c x y _;rcases oc hs c with e|e
  ·rw [e] at h; cases h
  ·rw [<- e];generalize evo kn c=z at h;unfold pkP at h ⊢
   grind [jh]
 ·grind [oc,bnP]
 ·rename_i x _; rcases oc hs x with e|e
  ·rw [e] at h; cases h
  grind
 ·rename_i t x f _; rcases oc hs x with e|e
  ·rw [e] at h; unfold faP at h; (repeat' split at h) <;> first|grind|cases h
  grind
 ·grind [oc,ldP]
 ·rename_i x _; rcases oc hs x with e|e
  ·rw [e] at h; cases h
  grind
 ·rename_i x n _; rcases oc hs x with e|e
  ·rw [e] at h; cases h
  grind
 ·rename_i t x f _; rcases oc hs x with e|e
  ·rw [e] at h; unfold flP at h; grind
  grind
 ·rename_i s t x _; rcases oc hs x with e|e
  ·rw [e] at h; unfold cvP at h; grind
  grind
 ·rename_i t parts _
  cases e:ik kn parts.toList with
  | none=>rw [e] at h; unfold buP at h; grind
  | some ps=>grind [ww]
 ·rename_i c _;unfold laP at h ⊢
  grind [oc]
 ·cases h
def oV (C:Cx)(ops:Array Oper)(o:Oper)(sl:List (Nat×AV))(ob:List (Nat×List AV)):Option AV:=match o.guard with
 | none=>opV C o sl ob
 | some _=>(match gdF ops o sl with
  | some (true,.p (.val (.bool true)))=>opV C o sl ob
  | some (true,.p (.val (.bool false)))=>some (.p (.val Go.undef))
  | some (false,.p (.val (.bool true)))=>some (.p (.val Go.undef))
  | some (false,.p (.val (.bool false)))=>opV C o sl ob
  | some (_,.p (.val v))=>(match isU v with|true=>some (.p (.val Go.undef))|false=>none)
  | _=>none)
def drF (C:Cx)(ops:Array Oper)(base:List (Nat×AV))(ob:List (Nat×List AV))(o:Oper)(rev:Rev):Option (Nat×AV):=match nwF base rev o with
 | some d=>(match Nat.blt d C.n with
  | true=>(match oV C ops o (knL base o rev (gdT ops o (tms o))) ob with
   | some y=>some (d,y)
   | none=>none)
  | false=>none)
 | none=>none
theorem M8 {kn:List (Nat×AV)}{y:AV}(h:oV C ops o kn ob=some y)(hd:o.dst=some d)(hn:Nat.blt d C.n=true):pJ C ops ob o kn d y:=by
 intro sl hs K hK;unfold oV at h;split at h
 ·grind [ap,vp,HY]
 grind [xG,cx,vp,HY,GM,I7,zr]
def drw (C:Cx)(ops:Array Oper)(base:List (Nat×AV))(ob:List (Nat×List AV)):Nat->List Oper->Nat->Rev->Option (List Oper×Nat×Rev)
 | 0,l,i,rev=>some (l,i,rev)
 | n+1,o::l,i,rev=>(match drF C ops base ob o rev with
  | some (d,y)=>drw C ops base ob n l (i+1) ((i,d,y)::rev)
  | none=>none)
 | _+1,[],_,_=>none
theorem dR {base:List (Nat×AV)}:∀ (n:Nat) {l l':List Oper} {i i':Nat} {rev rev':Rev},drw C ops base ob n l i rev=some (l',i',rev')->DQ C ops base ob K l' i' rev'->DQ C ops base ob K l i rev
 | 0,l,l',i,i',rev,rev',h,hK=>by cases h; exact hK
 | n+1,[],l',i,i',rev,rev',h,hK=>by cases h
 | n+1,o::l,l',i,i',rev,rev',h,hK=>by
  unfold drw at h;split at h
  ·rename_i d y hd;unfold drF at hd;split at hd
   ·rename_i e he;split at hd
    ·rename_i hn;split at hd
     ·rename_i z hz
      cases hd
      exact yu y _ yL (M8 hz (np he).1 hn) (np he).1 (np he).2.1 (np he).2.2 (dR n h hK)
     ·cases hd
    ·cases hd
   ·cases hd
  ·cases h
theorem mD (base:List (Nat×AV)){id:Nat}(hm:C.P.follows .mixedOrders=true)(hb:eR sl base)(hord:(ops.toList.zipIdx.all λ p=>p.1.after.toList.all λ e=>!(Region.binds .any e)||Nat.blt e.on p.2)=true)
  (h:DQ C ops base ob (λ s'=>M C Q ⟨.ex .normal,k,s'⟩) ops.toList 0 []):M C Q ⟨.cd (.region id ops true),k,⟨sl,ob⟩⟩:=FY base hm hb hord h
def Nb:Rev->List (Nat×AV)->Option (List (Nat×AV))
 | [],b=>some b
 | (_,p)::r,b=>(match Nb r b with|some l=>some (p::l)|none=>none)
theorem DZ:∀ {rev:Rev} {b l:List (Nat×AV)},Nb rev b=some l->l=p6 rev++b
 | [],b,l,h=>by cases h; rfl
 | (i,p)::r,b,l,h=>by
  unfold Nb at h;split at h
  ·rename_i m hm; cases h; rw [DZ hm]; rfl
  ·cases h
theorem dE {base l:List (Nat×AV)}{i:Nat}{rev:Rev}(h:Nb rev base=some l)(hM:M C Q ⟨.ex .normal,k,⟨l,ob⟩⟩):DQ C ops base ob (λ s'=>M C Q ⟨.ex .normal,k,s'⟩) [] i rev :=
 Rc (by grind [DZ])
theorem dL {base:List (Nat×AV)}{l:List Oper}{i:Nat}{rev:Rev}{q b:Bool}(hb:q=b)(h:drF C ops base ob o rev=some (d,.p (.val (.bool q))))(hK:DQ C ops base ob K l (i+1) ((i,d,.p (.val (.bool b)))::rev)):DQ C ops base ob K (o::l) i rev:=by
 subst hb;refine dR 1 (l':=l) (i':=i+1) (rev':=(i,d,.p (.val (.bool q)))::rev) ?_ hK
 grind [drw]
theorem mS (S:eY){id:Nat}(hm:C.P.follows .mixedOrders=true)(M':S.imp.length=S.m)(hob:S.obj 0=ob)(hb:eR sl (S.bas 0))
  (hbas:∀ j,j<S.m->eR (trL (S.D j) (S.bas j)) (S.bas (j+1))) (hnd:nodupB S.imp=true) (hin:S.imp.all (λ i=>Nat.blt i ops.size)=true) (hch:chainB ops S.imp=true)
  (hord:(ops.toList.zipIdx.all λ p=>p.1.after.toList.all λ e=>!(Region.binds .any e)||Nat.blt e.on p.2)=true) (h:DS C ops S (λ rev=>M C Q ⟨.ex .normal,k,⟨dD rev S.m++S.bas S.m,S.obj S.m⟩⟩) ops.toList 0 []):M C Q ⟨.cd (.region id ops true),k,⟨sl,ob⟩⟩ :=
 FP S hm M' hob hb hbas hnd hin hch hord h
def lkO (ob:List (Nat×List AV)):List Nat->Option (List (List AV))
 | []=>some []
 | t::r=>(match look ob t with
  | some x=>(match lkO ob r with|some l=>some (x::l)|none=>none)
  | none=>none)
theorem x7 {sl:List (Nat×AV)}:∀ {q:List (Nat×AV)},lks sl (q.map (·.1))=some (q.map (·.2))->∀ j x,look q j=some x->look sl j=some x
 | [],_,j,x,h=>by cases h
 | (i,y)::r,hT,j,x,h=>by
  simp only [dg] at hT;unfold lks at hT;split at hT
  ·rename_i z hz;split at hT
   ·rename_i l hl;simp only [bt,List.cons.injEq] at hT;rw [aZ] at h;split at h
    ·grind
    ·exact x7 (hl.trans (congrArg some hT.2)) j x h
   ·cases hT
  ·cases hT
theorem HK {ob:List (Nat×List AV)}:∀ {q:List (Nat×List AV)},lkO ob (q.map (·.1))=some (q.map (·.2))->∀ j x,look q j=some x->look ob j=some x
 | [],_,j,x,h=>by cases h
 | (i,y)::r,hT,j,x,h=>by
  simp only [dg] at hT;unfold lkO at hT;split at hT
  ·rename_i z hz;split at hT
   ·rename_i l hl;simp only [bt,List.cons.injEq] at hT;rw [aZ] at h;split at h
    ·grind
    ·exact HK (hl.trans (congrArg some hT.2)) j x h
   ·cases hT
  ·cases hT
def lkE (a b:List (Nat×List AV)):List (Nat×List AV)->Prop|[]=>True|(i,_)::r=>look b i=look a i/\lkE a b r
theorem C1 {a b:List (Nat×List AV)}:∀ {l:List (Nat×List AV)},lkE a b l->∀ i x,look l i=some x->look b i=look a i
 | [],_,i,x,h=>by cases h
 | (j,y)::r,⟨h1,h2⟩,i,x,h=>by
  rw [aZ] at h;by_cases e:j=i
  ·grind
  ·rw [if_neg e] at h; exact C1 h2 i x h
theorem LI {C:Cx}{ops:Array Oper}{S1 S2:eY}{k:Nat}{r1 r2:fQ}{imp:List Nat}(h1:lks (dD r2 S2.m++S2.bas S2.m) ((dD r1 S1.m++S1.bas S1.m).map (·.1))=some ((dD r1 S1.m++S1.bas S1.m).map (·.2)))
  (h2:lkE (S1.obj S1.m) (S2.obj S2.m) (S1.obj S1.m)) (h3:sH imp r1 r2) :
  DS C ops S2 (λ rev2=>(⟨dD rev2 S2.m++S2.bas S2.m,S2.obj S2.m⟩:AS).le ⟨dD r1 S1.m++S1.bas S1.m,S1.obj S1.m⟩/\sH imp r1 rev2) [] k r2:=by
 refine ⟨⟨λ j x h=>?_,λ id cs h=>⟨cs,(C1 h2 id cs h).trans h,bx _,λ i c d a b=>by grind [AV.sub_refl]⟩⟩,h3⟩
 grind [x7,AS.get,AV.sub_refl]
theorem mSS {C:Cx}{Q:Exit->AS->Prop}{k:List Fr}{ops:Array Oper}{sl:List (Nat×AV)}{ob:List (Nat×List AV)}(S1 S2:eY){id k1 k2:Nat}{r:List Nat}(hm:C.P.follows .mixedOrders=true)
  (hi1:S1.imp=k1::k2::r) (hi2:S2.imp=k2::k1::r) (hlen1:S1.imp.length=S1.m) (hlen2:S2.imp.length=S2.m) (hob1:S1.obj 0=ob) (hob2:S2.obj 0=ob) (hb:eR sl (S1.bas 0)) (hb2:S2.bas 0=S1.bas 0)
  (hbas1:∀ j,j<S1.m->eR (trL (S1.D j) (S1.bas j)) (S1.bas (j+1))) (hbas2:∀ j,j<S2.m->eR (trL (S2.D j) (S2.bas j)) (S2.bas (j+1)))
  (hnd:nodupB (k1::k2::r)=true) (hin:(k1::k2::r).all (λ i=>Nat.blt i ops.size)=true) (hch1:chainB ops (k1::r)=true) (hch2:chainB ops (k2::r)=true)
  (hord:(ops.toList.zipIdx.all λ p=>p.1.after.toList.all λ e=>!(Region.binds .any e)||Nat.blt e.on p.2)=true)
  (h:DS C ops S1 (λ rev1=>M C Q ⟨.ex .normal,k,⟨dD rev1 S1.m++S1.bas S1.m,S1.obj S1.m⟩⟩/\DS C ops S2 (λ rev2=>(⟨dD rev2 S2.m++S2.bas S2.m,S2.obj S2.m⟩:AS).le ⟨dD rev1 S1.m++S1.bas S1.m,S1.obj S1.m⟩/\sH (k1::k2::r) rev1 rev2) ops.toList 0 []) ops.toList 0 []) :
  M C Q ⟨.cd (.region id ops true),k,⟨sl,ob⟩⟩ :=
 Bt S1 S2 hm hi1 hi2 hlen1 hlen2 hob1 hob2 hb hb2 hbas1 hbas2 hnd hin hch1 hch2 hord h
theorem gE {s t:AS}(h1:lks s.sl (t.sl.map (·.1))=some (t.sl.map (·.2)))(h2:lkO s.ob (t.ob.map (·.1))=some (t.ob.map (·.2))):cO C s t :=
 d3 ⟨λ j x hx=>by
  grind [x7,AS.get,AV.sub_refl],λ id cs h=>⟨cs,HK h2 id cs h,bx _,λ i c d hc hd=>by grind [AV.sub_refl]⟩⟩
theorem mP {β:Type}{v0:β}{tt:List (Nat×TI)}{fn:Func}{c:Code}(mk:β->AV)(h:M C (λ e s=>∃ v,v=v0/\zY tt fn (λ x=>x.sub (mk v)) e s) ⟨.cd c,[],s⟩):awp C c (zY tt fn (λ x=>x.sub (mk v0))) s :=
 p8 (λ e s h=>by obtain ⟨t,h1,v,rfl,h2⟩:=h; grind) h |> sG
theorem mQ {β:Type}{v v0:β}{tt:List (Nat×TI)}{fn:Func}{mk:β->AV}{l:List AV}(e:v=v0)(h:nh tt fn.results.toList s=some l)(hR:(qW l).sub (mk v)):M C (λ e s=>∃ v,v=v0/\zY tt fn (λ x=>x.sub (mk v)) e s) ⟨.ex .ret,[],s⟩ :=
 ⟨s,aU s,v,e,Nh h hR⟩
theorem mQn {β:Type}{v v0:β}{tt:List (Nat×TI)}{fn:Func}{mk:β->AV}{l:List AV}(e:v=v0)(h:nh tt fn.results.toList s=some l)(hR:(qW l).sub (mk v)):M C (λ e s=>∃ v,v=v0/\zY tt fn (λ x=>x.sub (mk v)) e s) ⟨.ex .normal,[],s⟩ :=
 ⟨s,aU s,v,e,OG h hR⟩
theorem mPo {β:Type}{v0:β}{tt:List (Nat×TI)}{fn:Func}{ts ids:List Nat}{c:Code}(mk:β->AV)(mo:β->List (Nat×List AV))(h:M C (λ e s=>∃ v,v=v0/\vE C tt fn ts ids (mk v) (mo v) e s) ⟨.cd c,[],s⟩):awp C c (vE C tt fn ts ids (mk v0) (mo v0)) s :=
 p8 (λ e s h=>by obtain ⟨t,h1,v,rfl,h2⟩:=h; grind) h |> sG
theorem mQo {β:Type}{v v0:β}{tt:List (Nat×TI)}{fn:Func}{ts ids:List Nat}{mk:β->AV}{mo:β->List (Nat×List AV)}{r1:AV}{Uz obs':List (Nat×List AV)}{t:AS}{l:List AV}(e:v=v0)(hg:cO C s t)(h1:nh tt fn.results.toList t=some l)(h2:(qW l).mapA (nC ts)=some r1)
  (h3:iA t.ob ids=some Uz) (h4:il (nC ts) Uz=some obs') (h5:r1.sub (mk v)) (h6:leO obs' (mo v)):M C (λ e s=>∃ v,v=v0/\vE C tt fn ts ids (mk v) (mo v) e s) ⟨.ex .ret,[],s⟩ :=
 ⟨s,aU s,v,e,Oz hg h1 h2 h3 h4 h5 h6⟩
theorem M7 {β:Type}{v v0:β}{tt:List (Nat×TI)}{fn:Func}{ts ids:List Nat}{mk:β->AV}{mo:β->List (Nat×List AV)}{r1:AV}{Uz obs':List (Nat×List AV)}{t:AS}{l:List AV}(e:v=v0)(hg:cO C s t)(h1:nh tt fn.results.toList t=some l)(h2:(qW l).mapA (nC ts)=some r1)
  (h3:iA t.ob ids=some Uz) (h4:il (nC ts) Uz=some obs') (h5:r1.sub (mk v)) (h6:leO obs' (mo v)):M C (λ e s=>∃ v,v=v0/\vE C tt fn ts ids (mk v) (mo v) e s) ⟨.ex .normal,[],s⟩ :=
 ⟨s,aU s,v,e,NA hg h1 h2 h3 h4 h5 h6⟩
theorem kN {c:Code}{σ:Type}(w:σ)(mk:σ->AS)(h2:M C Q ⟨.ex .normal,k,mk w⟩)(h1:M C Q ⟨.cd c,.jo (λ t=>∃ v,w=v/\t=mk v)::k,s⟩):M C Q ⟨.cd c,k,s⟩ :=
 kX (λ v=>w=v) mk (λ _ e=>e ▸ h2) h1
theorem kE (id:Nat){c:Code}{σ:Type}(w:σ)(mk:σ->AS)(h2:M C Q ⟨.ex (.exit id),k,mk w⟩)(h1:M C Q ⟨.cd c,.je id (λ t=>∃ v,w=v/\t=mk v)::k,s⟩):M C Q ⟨.cd c,k,s⟩ :=
 kEx id (λ v=>w=v) mk (λ _ e=>e ▸ h2) h1
end
end Go.Ab
namespace Go.Ab
/- What holds no identity is not touched by the marks of a box or a new object. -/
open Go.Proofs Go.RowKit Go
variable {p:Prop}
theorem La (h:p:=by
 simp only [List.getElem?_cons_zero,bt] at hx; subst hx;refine ⟨p,rfl,?_⟩;rcases hp with rfl|rfl
 ·exact .bptrn how h Z
 ·exact .bptr how h Z):p:=h
theorem uB (h:p:=by
 rw [Lib.cell_of_heap this]; rfl):p:=h
theorem II (h:p:=by exact ⟨by rw [h.size]; exact (hown _ _ h1).1,.inr ⟨_,h1⟩⟩):p:=h
structure bY where
 I':Bk
def gM (b:bY):Option bY:=some b
def fY (b:bY):Option (Bk×bY):=ck (b.I'.length<=9223372036854775807)<|some (b.I',b)
theorem OW:∃ j,Tryz.prog.info? 93=some j/\j.size=2:=by
 have h:(Tryz.prog.info? 93).map (·.size)=some 2:=by kernel_rfl
 obtain ⟨j,hj,hs⟩:=rd.1 h;exact ⟨j,hj,hs⟩
set_option maxRecDepth 100000 in
theorem vQ (b:Nat)(w:World)(h0:w.cell? ⟨b,0,none⟩=some (.pointer (some ⟨b,0,none⟩))) :
  Calls Tryz.prog 91 #[.pointer (some ⟨b,0,none⟩)] w λ e w'=>e=.returned (.tuple #[])/\w'=w:=by
 obtain ⟨j,hj,_⟩:=OW
 go_enter Tryz.func91,Tryz.ntmps91
 go_wp2
 rw [Lib.run_neq_ptr_same w _ Tryz.underlying90 hj]
 go_wp2
 go_end0
 exact ⟨Z,Z⟩
set_option maxRecDepth 100000 in
theorem tS (b:Nat)(w:World)(h0:w.cell? ⟨b,0,none⟩=some (.pointer none))(hsh:w.shape? b=some (93,2))(hfz:w.frozen? ⟨b,0,none⟩=false) :
  Calls Tryz.prog 91 #[.pointer (some ⟨b,0,none⟩)] w λ e w'=>e=.returned (.tuple #[])/\w'=w.setCell ⟨b,0,none⟩ (.pointer (some ⟨b,0,none⟩)):=by
 obtain ⟨j,hj,hjs⟩:=OW
 go_enter Tryz.func91,Tryz.ntmps91
 go_wp2
 rw [Lib.run_to_unsafe w ⟨b,0,none⟩ Tryz.underlying90 Tryz.underlying142 hj (by rw [hjs]; decide) hsh (Nat.zero_lt_succ 1)];simp only [Result.andThen];rw [Oper.upon_value]
 go_wp2
 rw [run_callFunc_extern Tryz.func136 (by kernel_rfl) (by kernel_rfl) (by kernel_rfl) (e:=Extern.AbiNoEscape.same) (by kernel_rfl)];rw [Lib.run_noEscape];simp only [Result.andThen];rw [Oper.upon_value]
 go_wp2
 rw [Lib.run_from_unsafe w ⟨b,0,none⟩ Tryz.underlying142 Tryz.underlying90 hj hsh (by kernel_rfl)];simp only [Result.andThen];rw [Oper.upon_value]
 go_wp2
 go_end0
 exact ⟨Z,Z⟩
structure DF (b:Nat)(w w':World):Prop where
 os:w'.os=w.os
 out:w'.output=w.output
 tape:w'.tape=w.tape
 size:w'.heap.size=w.heap.size
 other:∀ k,k≠b->w'.heap[k]? = w.heap[k]?
def back (i:Nat):Option Nat:=if i=900000 then some 2000000 else if i=1000000 then some 1000000 else none
def ghB (g:Gh):Gh:=⟨g.st,λ i=>if i=2000000 then g.ow 900000 else if M1<=i/\i<2*M1 then g.ow i else none⟩
theorem yh {g:Gh}{i b:Nat}(h:(ghB g).ow i=some b):(i=2000000/\g.ow 900000=some b)\/(M1<=i/\i<2*M1/\g.ow i=some b):=by
 simp only [ghB] at h;split at h
 ·exact .inl ⟨‹_›,h⟩
 ·split at h
  ·rename_i h1; exact .inr ⟨h1.1,h1.2,h⟩
  ·cases h
theorem AH {g:Gh}:∀ i j b,back i=some j->g.ow i=some b->(ghB g).ow j=some b:=by
 intro i j b h hb;unfold back at h;split at h
 ·cases h; subst_vars; simp only [ghB,if_true]; exact hb
 ·split at h
  ·cases h; subst_vars
   simp only [ghB];rw [if_neg (by decide),if_pos (by decide)]; exact hb
  ·cases h
theorem Et {w w':World}{g:Gh}{b:Nat}(hok:Ok0 w g.st)(hown:∀ i b,g.ow i=some b->b<w.heap.size/\i<2*M1)
  (hinj:∀ i j b,g.ow i=some b->g.ow j=some b->i=j) (hnst:∀ i b,M1<=i->g.ow i=some b->∀ o,¬ g.st b o)
  (hb:g.ow 1000000=some b) (h:DF b w w')
  (hsh:∀ (c:Array Value) (e:TypeId),w.heap[b]? = some (.cells c e (0,0))->∃ c':Array Value,w'.heap[b]? = some (.cells c' e (0,0))/\c'.size=c.size):oy w g w' (ghB g):=by
 have hbs:∀ o,¬ g.st b o:=hnst _ b (bx _) hb
 have Us:Ev w g.st w' g.st:=λ k o hk=>⟨hk,by
  have:k≠b:=λ e=>hbs o (e ▸ hk)
  simp only [World.cell?,h.other k this]⟩
 refine ⟨h.os,h.out,h.tape,by rw [h.size]; exact bx _,λ k hk hno=>h.other k (λ e=>hno 1000000 (e ▸ hb)),λ i k hi=>?_,λ i j k hi hj=>?_,λ k o hk=>by rw [h.size]; exact hok.lt k o hk,λ k hk _ o=>Iff.rfl,λ i h1 h2=>?_,λ i k c e h1 h2 h3=>?_,λ i k hi hk o=>hnst i k hi hk o,Us⟩
 ·rcases yh hi with ⟨_,h1⟩|⟨_,_,h1⟩
  ·exact II
  ·exact II
 ·rcases yh hi with ⟨e1,h1⟩|⟨a1,a2,h1⟩ <;> rcases yh hj with ⟨e2,h2⟩|⟨b1,b2,h2⟩
  ·omega
  ·have:=hinj _ _ _ h1 h2; unfold M1 at *; omega
  ·have:=hinj _ _ _ h1 h2; unfold M1 at *; omega
  ·exact hinj _ _ _ h1 h2
 ·simp only [ghB];rw [if_neg (by unfold M1 at *; omega),if_pos ⟨h1,h2⟩]
 ·by_cases e1:k=b
  ·subst e1; exact hsh c e h3
  ·exact ⟨c,(h.other k e1).trans h3,Z⟩
theorem TG {w w':World}{g:Gh}{b:Nat}(hbs:∀ o,¬ g.st b o)(h:DF b w w')(hc:∃ c e,w.heap[b]? = some (.cells c e (0,0)))
  (hsh:∀ (c:Array Value) (e:TypeId),w.heap[b]? = some (.cells c e (0,0))->∃ c':Array Value,w'.heap[b]? = some (.cells c' e (0,0))/\c'.size=c.size):EvO (λ _=>false) w g w' g:=by
 refine ⟨λ k o hk=>⟨hk,?_⟩,λ _ _ _ h=>h,λ id k c e _ _ hk=>?_,λ _ _ _ _ _ h=>h,λ id k es k' _ _ hk=>(h.other k (λ e=>by subst e; obtain ⟨c,t,hc⟩:=hc; rw [hc] at hk; cases hk)).trans hk,λ _ _=>rfl,λ id k o _ _ ho=>h.other k (λ e=>hbs o (e ▸ ho))⟩
 ·have:k≠b:=λ e=>hbs o (e ▸ hk);simp only [World.cell?,h.other k this]
 ·by_cases e1:k=b
  ·subst e1; exact hsh c e hk
  ·exact ⟨c,(h.other k e1).trans hk,Z⟩
theorem LB {w:World}{g:Gh}{es:List PV}{vs:Array Value}{T ty:Nat}(Ul:vs.size=1)
  (hargs:∀ (i:Nat) c v,[AV.ptr 1000000 0][i]? = some c->vs[i]? = some v->ARep w g c v)
  (hobs:∀ id cs,look [(1000000,[AV.bptr T 2 1000000,AV.vec 900000 1 ty es])] id=some cs->jq w g id cs) :
  ∃ b p q,g.ow 1000000=some b/\vs=#[.pointer (some ⟨b,0,none⟩)]/\w.heap[b]? = some (.cells #[p,q] T (0,0))/\(∀ o,¬ g.st b o) /\
   (p=.pointer none\/p=.pointer (some ⟨b,0,none⟩))/\ARep w g (.vec 900000 1 ty es) q:=by
 obtain ⟨b,c,e,h1,h2,h3,h4,h5⟩:=hobs 1000000 _ rfl;obtain ⟨p,hp,hpr⟩:=h5 0 _ rfl;obtain ⟨q,hq,hqr⟩:=h5 1 _ rfl;have hv0:vs[0]? = some vs[0]:=Array.getElem?_eq_getElem O;have ha:=hargs 0 _ _ rfl hv0
 have hvs:vs=#[vs[0]]:=by
  apply Array.ext
  ·simp [Ul]
  ·intro i h1 h2;have:i=0:=by omega
   subst this; rfl
 have hc:∀ c1:Array Value,c1=c->c1.size=2->c=#[p,q]:=by
  rintro c1 rfl h;apply Array.ext
  ·simp [h]
  ·intro i k1 k2
   match i,k2 with
   | 0,_=>rw [Array.getElem?_eq_getElem k1] at hp; simpa using hp
   | 1,_=>rw [Array.getElem?_eq_getElem k1] at hq; simpa using hq
 have hav:vs[0]=.pointer (some ⟨b,0,none⟩):=by
  generalize vs[0]=v at ha
  cases ha with
  | ptr how=>rw [h1] at how; cases how; rfl
 refine ⟨b,p,q,h1,by rw [hvs,hav],?_,h4,?_,hqr⟩
 ·cases hpr with
  | bptrn how hb Uw=>rw [h1] at how; cases how; rw [h2] at hb; cases hb; rw [h2,hc _ rfl Uw]
  | bptr how hb Uw=>rw [h1] at how; cases how; rw [h2] at hb; cases hb; rw [h2,hc _ rfl Uw]
 ·cases hpr with
  | bptrn how hb Uw=>exact .inl Z
  | bptr how hb Uw=>rw [h1] at how; cases how; exact .inr rfl
theorem ob_B {w':World}{g:Gh}{es:List PV}{T ty b:Nat}{p q:Value}(hb:g.ow 1000000=some b)(h4:∀ o,¬ g.st b o)(h:w'.heap[b]? = some (.cells #[p,q] T (0,0)))
  (hp:p=.pointer none\/p=.pointer (some ⟨b,0,none⟩)) (hq:ARep w' g (.vec 900000 1 ty es) q):jq w' (ghB g) 1000000 [.bptr T 2 1000000,.vec 2000000 1 ty es]:=by
 have how:(ghB g).ow 1000000=some b:=AH 1000000 1000000 b Z hb;refine ⟨b,#[p,q],T,how,h,by simp,h4,λ i x hx=>?_⟩
 match i,hx with
 | 0,hx=>
  exact La
 | 1,hx=>
  simp only [List.getElem?_cons_succ,List.getElem?_cons_zero,bt] at hx; subst hx;exact ⟨q,rfl,oN (m:=back) (g:=g) (g':=ghB g) rfl AH hq rfl⟩
 | n+2,hx=>simp at hx
theorem ml (b_0:bY)(r:bY)(h0:gM b_0=some r):co Tryz.prog 91 [.ptr 1000000 0] [(1000000,[.bptr 93 2 1000000,.vec 900000 1 (5+1) (b_0.I'.map eU)])]
  (λ x y=>x=.tuple []/\y=[(1000000,[.bptr 93 2 1000000,.vec 2000000 1 (5+1) (r.I'.map eU)])]):=by
 cases h0
 intro w g vs hok hown hinj hnst Ul hargs hobs;obtain ⟨b,p,q,hb,rfl,hheap,hbs,hp,hq⟩:=LB Ul hargs hobs;have hc0:w.cell? ⟨b,0,none⟩=some p:=by simp [World.cell?,hheap]
 rcases hp with rfl|rfl
 ·refine (tS b w hc0 (by simp [World.shape?,hheap]) (by simp [World.frozen?,hheap])).mono ?_;rintro e w' ⟨rfl,rfl⟩;have hO:DF b w (w.setCell ⟨b,0,none⟩ (.pointer (some ⟨b,0,none⟩))):=⟨rfl,rfl,rfl,by simp [World.setCell],λ k hk=>Below.heap_setCell _ _ _ _ hk⟩
  have hheap':(w.setCell ⟨b,0,none⟩ (.pointer (some ⟨b,0,none⟩))).heap[b]? = some (.cells #[.pointer (some ⟨b,0,none⟩),q] 93 (0,0)):=by
   simp [World.setCell,Array.getElem?_modify,hheap]
  have hsh:∀ (c:Array Value) (e:TypeId),w.heap[b]? = some (.cells c e (0,0))->∃ c':Array Value,(w.setCell ⟨b,0,none⟩ (.pointer (some ⟨b,0,none⟩))).heap[b]? = some (.cells c' e (0,0))/\c'.size=c.size:=λ c e h=>by
   rw [hheap] at h; cases h; exact ⟨_,hheap',rfl⟩
  refine ⟨_,_,_,ghB g,Z,⟨Z,Z⟩,.tuple Z G,λ x hx=>?_,Et hok hown hinj hnst hb hO hsh⟩;simp only [List.mem_singleton] at hx; subst hx;exact ob_B hb hbs hheap' (.inr Z) (hq.mono (TG hbs hO ⟨_,_,hheap⟩ hsh))
 ·refine (vQ b w hc0).mono ?_;rintro e w' ⟨rfl,rfl⟩;have hO:DF b w' w':=⟨rfl,rfl,rfl,rfl,λ k hk=>rfl⟩
  refine ⟨_,_,_,ghB g,Z,⟨Z,Z⟩,.tuple Z G,λ x hx=>?_,Et hok hown hinj hnst hb hO (λ c e h=>⟨c,h,Z⟩)⟩;simp only [List.mem_singleton] at hx; subst hx;exact ob_B hb hbs hheap (.inr Z) hq
theorem xB:Tryz.prog.follows .mixedOrders=true:=by kernel_rfl
theorem qS (w:World):Below w.heap.size w w.drew:=Below.drew (Below.refl _ w)
set_option maxRecDepth 100000 in
theorem Bz (b:Nat)(p:Value)(w:World)(hbk:w.heap[b]? = some (.cells #[p,.slice none 0 0] 93 (0,0))) :
  Calls Tryz.prog 59 #[.pointer (some ⟨b,0,none⟩)] w λ e w'=>e=.returned (.string ⟨#[]⟩)/\Below w.heap.size w w':=by
 have mixed:=xB;have hUS:∀ (W:World) (q:Option Addr),(Builtin.unsafeString_ #[123,3] 9 #[.pointer q,.int .i64 0]).run Tryz.prog W=.ok (.string .empty) W:=λ W q=>Lib.run_unsafeString_none W _ _ _ q
 have c1:w.drew.cell? ⟨b,1,none⟩=some (.slice none 0 0):=by
  have:w.drew.heap[b]? = some (.cells #[p,.slice none 0 0] 93 (0,0)):=hbk;exact uB
 have hSD:(Builtin.unsafeSliceData_ #[91] 123 #[.slice none 0 0]).run Tryz.prog w.drew=.ok (.pointer none) w.drew:=rfl
 go_enter Tryz.func59,Tryz.ntmps59
 go_wp2
 go_region_o
 all_goals (go_wp2; go_ret; exact ⟨Z,qS w⟩)
set_option maxRecDepth 100000 in
theorem Al (b g cap:Nat)(p:Value)(w:World)(hc0:cap≠0)(hbk:w.heap[b]? = some (.cells #[p,.slice (some ⟨g,0,none⟩) 0 cap] 93 (0,0))) :
  Calls Tryz.prog 59 #[.pointer (some ⟨b,0,none⟩)] w λ e w'=>e=.returned (.string ⟨#[]⟩)/\Below w.heap.size w w':=by
 have mixed:=xB;have hUS:∀ (W:World) (q:Option Addr),(Builtin.unsafeString_ #[123,3] 9 #[.pointer q,.int .i64 0]).run Tryz.prog W=.ok (.string .empty) W:=λ W q=>Lib.run_unsafeString_none W _ _ _ q
 have c1:w.drew.cell? ⟨b,1,none⟩=some (.slice (some ⟨g,0,none⟩) 0 cap):=by
  have:w.drew.heap[b]? = some (.cells #[p,.slice (some ⟨g,0,none⟩) 0 cap] 93 (0,0)):=hbk;exact uB
 have hSD:(Builtin.unsafeSliceData_ #[91] 123 #[.slice (some ⟨g,0,none⟩) 0 cap]).run Tryz.prog w.drew=.ok (.pointer (some ⟨g,0,none⟩)) w.drew:=Lib.run_unsafeSliceData_row _ _ _ _ _ _ hc0
 clear hc0
 go_enter Tryz.func59,Tryz.ntmps59
 go_wp2
 go_region_o
 all_goals (go_wp2; go_ret; exact ⟨Z,qS w⟩)
set_option maxRecDepth 100000 in
theorem wm (b g:Nat)(p:Value)(cur:Array Value)(w:World)(hbk:w.heap[b]? = some (.cells #[p,.slice (some ⟨g,0,none⟩) 0 0] 93 (0,0)))(hg:w.heap[g]? = some (.cells cur 5 (0,0))) :
  Calls Tryz.prog 59 #[.pointer (some ⟨b,0,none⟩)] w λ e w'=>e=.returned (.string ⟨#[]⟩)/\Below w.heap.size w w':=by
 have mixed:=xB;have hUS:∀ (W:World) (q:Option Addr),(Builtin.unsafeString_ #[123,3] 9 #[.pointer q,.int .i64 0]).run Tryz.prog W=.ok (.string .empty) W:=λ W q=>Lib.run_unsafeString_none W _ _ _ q
 have hlt:b<w.heap.size:=by
  rcases Nat.lt_or_ge b w.heap.size with h'|h'
  ·exact h'
  ·simp [Array.getElem?_eq_none h'] at hbk
 have c1:w.drew.cell? ⟨b,1,none⟩=some (.slice (some ⟨g,0,none⟩) 0 0):=by
  have:w.drew.heap[b]? = some (.cells #[p,.slice (some ⟨g,0,none⟩) 0 0] 93 (0,0)):=hbk;exact uB
 have hSD:(Builtin.unsafeSliceData_ #[91] 123 #[.slice (some ⟨g,0,none⟩) 0 0]).run Tryz.prog w.drew=.ok (.pointer (some ⟨w.drew.heap.size,0,none⟩)) (w.drew.alloc (.view ⟨g,0,none⟩ 5)) :=
  Lib.run_unsafeSliceData_zero w.drew _ _ 5 Tryz.underlying123 ⟨g,0,none⟩ 0 (5,cur.size) (by have hg':w.drew.heap[g]? = some (.cells cur 5 (0,0)):=hg; simp [World.shape?,hg'])
 have c2:(w.drew.alloc (.view ⟨g,0,none⟩ 5)).cell? ⟨b,1,none⟩=some (.slice (some ⟨g,0,none⟩) 0 0):=by
  have:(w.drew.alloc (.view ⟨g,0,none⟩ 5)).heap[b]? = _:=(Lib.alloc_old w.drew _ b hlt).trans hbk;exact uB
 have c3:(w.alloc (.view ⟨g,0,none⟩ 5)).drew.cell? ⟨b,1,none⟩=some (.slice (some ⟨g,0,none⟩) 0 0):=c2;have c0:w.cell? ⟨b,1,none⟩=some (.slice (some ⟨g,0,none⟩) 0 0):=c1
 go_enter Tryz.func59,Tryz.ntmps59
 go_wp2
 go_region_o
 all_goals (go_wp2; go_ret; exact ⟨Z,(qS w).alloc (bx _) _⟩)
set_option maxRecDepth 100000 in
theorem CH (b g cap:Nat)(p:Value)(cur:Array Value)(l:List UInt8)(w:World)(h0:l≠[])(hbk:w.heap[b]? = some (.cells #[p,.slice (some ⟨g,0,none⟩) l.length cap] 93 (0,0)))(hg:w.heap[g]? = some (.cells cur 5 (0,0)))
  (hnc:l.length<=cap) (Uw:cur.size=cap) (hcm:l.length<=9223372036854775807) (Up:∀ (j:Nat) x,l[j]? = some x->w.cell? ⟨g,j,none⟩=some (.int .u8 x.toNat)) :
  Calls Tryz.prog 59 #[.pointer (some ⟨b,0,none⟩)] w λ e w'=>e=.returned (.string ⟨l.toArray⟩)/\w'=(w.drew.freeze ⟨g,0,none⟩ l.length):=by
 have mixed:=xB;have hl0:l.length≠0:=by simpa using h0
 have c1:w.drew.cell? ⟨b,1,none⟩=some (.slice (some ⟨g,0,none⟩) l.length cap):=by
  have:w.drew.heap[b]? = some (.cells #[p,.slice (some ⟨g,0,none⟩) l.length cap] 93 (0,0)):=hbk;exact uB
 have hSD:(Builtin.unsafeSliceData_ #[91] 123 #[.slice (some ⟨g,0,none⟩) l.length cap]).run Tryz.prog w.drew=.ok (.pointer (some ⟨g,0,none⟩)) w.drew:=Lib.run_unsafeSliceData_row _ _ _ _ _ _ O
 have hUS:(Builtin.unsafeString_ #[123,3] 9 #[.pointer (some ⟨g,0,none⟩),.int .i64 l.length]).run Tryz.prog w.drew=.ok (.string ⟨l.toArray⟩) (w.drew.freeze ⟨g,0,none⟩ l.length):=by
  refine Lib.run_unsafeString_row w.drew 123 3 9 5 Tryz.underlying123 (by kernel_rfl) g cur.size (by have hg':w.drew.heap[g]? = some (.cells cur 5 (0,0)):=hg; simp [World.shape?,hg']) l h0 O hcm ?_;intro j x hx;have:=Up j x hx;rw [add_lit,Nat.zero_add,World.cell?_drew]; exact this
 clear Up Uw hcm hnc h0 hl0
 go_enter Tryz.func59,Tryz.ntmps59
 go_wp2
 go_region_o
 all_goals (go_wp2; go_ret; exact ⟨Z,Z⟩)
theorem yy (w:World)(g n k:Nat)(h:k≠g):(w.freeze ⟨g,0,none⟩ n).heap[k]? = w.heap[k]?:=by
 unfold World.freeze;split
 ·rfl
 ·simp only [Array.getElem?_modify];rw [if_neg (λ e=>h e.symm)]
theorem AL (w:World)(g n:Nat)(a:Addr):(w.freeze ⟨g,0,none⟩ n).cell? a=w.cell? a:=by
 unfold World.freeze;split
 ·rfl
 ·simp only [World.cell?,Array.getElem?_modify];by_cases h:g=a.block
  ·simp only [h,if_true]
   cases w.heap[a.block]? with
   | none=>rfl
   | some o=>cases o <;> rfl
  ·simp only [h,if_false]
theorem Ap (w:World)(g n:Nat):(w.freeze ⟨g,0,none⟩ n).heap.size=w.heap.size:=by
 unfold World.freeze; split <;> simp
theorem Ah (w:World)(g n:Nat):(w.freeze ⟨g,0,none⟩ n).os=w.os/\(w.freeze ⟨g,0,none⟩ n).output=w.output/\(w.freeze ⟨g,0,none⟩ n).tape=w.tape:=by
 unfold World.freeze; split <;> exact ⟨Z,Z,Z⟩
def ghS (g:Gh):Gh:=⟨g.st,λ i=>if M1<=i/\i<2*M1 then g.ow i else none⟩
theorem yb {g:Gh}{i b:Nat}(h:(ghS g).ow i=some b):M1<=i/\i<2*M1/\g.ow i=some b:=by
 simp only [ghS] at h;split at h
 ·rename_i h1; exact ⟨h1.1,h1.2,h⟩
 ·cases h
theorem D5 {w w':World}{g:Gh}{q:Nat}(hok:Ok0 w g.st)(hown:∀ i b,g.ow i=some b->b<w.heap.size/\i<2*M1)
  (hinj:∀ i j b,g.ow i=some b->g.ow j=some b->i=j) (hnst:∀ i b,M1<=i->g.ow i=some b->∀ o,¬ g.st b o)
  (hq:g.ow 900000=some q\/w.heap.size<=q) (os:w'.os=w.os) (out:w'.output=w.output) (tape:w'.tape=w.tape) (size:w.heap.size<=w'.heap.size)
  (other:∀ k,k<w.heap.size->k≠q->w'.heap[k]? = w.heap[k]?) (cell:∀ b o,b<w.heap.size->w'.cell? ⟨b,o,none⟩=w.cell? ⟨b,o,none⟩):oy w g w' (ghS g):=by
 have Us:Ev w g.st w' g.st:=λ k o hk=>⟨hk,cell k o (hok.lt k o hk)⟩
 refine ⟨os,out,tape,size,λ k hk hno=>other k hk (λ e=>?_),λ i k hi=>?_,λ i j k hi hj=>?_,λ k o hk=>Nat.lt_of_lt_of_le (hok.lt k o hk) size,λ k hk _ o=>Iff.rfl,λ i h1 h2=>?_,λ i k c e h1 h2 h3=>?_,λ i k hi hk o=>hnst i k hi hk o,Us⟩
 ·rcases hq with hq|hq
  ·exact hno _ (e ▸ hq)
  ·omega
 ·obtain ⟨_,_,h1⟩:=yb hi;exact ⟨Nat.lt_of_lt_of_le (hown _ _ h1).1 size,.inr ⟨_,h1⟩⟩
 ·exact hinj _ _ _ (yb hi).2.2 (yb hj).2.2
 ·simp only [ghS]; rw [if_pos ⟨h1,h2⟩]
 ·refine ⟨c,(other k (hown _ _ h2).1 (λ e=>?_)).trans h3,rfl⟩;rcases hq with hq|hq
  ·have:=hinj _ _ _ h2 (e ▸ hq); unfold M1 at *; omega
  ·have:=(hown _ _ h2).1; omega
theorem ob_S {w':World}{g:Gh}{es:List PV}{T b:Nat}{p q:Value}(hb:g.ow 1000000=some b)(h4:∀ o,¬ g.st b o)(h:w'.heap[b]? = some (.cells #[p,q] T (0,0)))
  (hp:p=.pointer none\/p=.pointer (some ⟨b,0,none⟩)) (hq:PRep w' g.st (.slice es) q):jq w' (ghS g) 1000000 [.bptr T 2 1000000,.p (.slice es)]:=by
 have how:(ghS g).ow 1000000=some b:=by simp only [ghS]; rw [if_pos (by decide)]; exact hb
 refine ⟨b,#[p,q],T,how,h,by simp,h4,λ i x hx=>?_⟩
 match i,hx with
 | 0,hx=>
  exact La
 | 1,hx=>
  simp only [List.getElem?_cons_succ,List.getElem?_cons_zero,bt] at hx; subst hx;exact ⟨q,rfl,.p hq⟩
 | n+2,hx=>simp at hx
theorem nN (b_0:bY)(r:Bk×bY)(h0:fY b_0=some r):co Tryz.prog 59 [.ptr 1000000 0] [(1000000,[.bptr 93 2 1000000,.vec 900000 1 (5+1) (b_0.I'.map eU)])]
  (λ x y=>x=.p (eS r.1)/\y=[(1000000,[.bptr 93 2 1000000,.p (eL eU r.2.I')])]):=by
 obtain ⟨hmax,h0⟩:=og h0
 cases h0
 intro w g vs hok hown hinj hnst Ul hargs hobs;obtain ⟨b,p,q,hb,rfl,hheap,hbs,hp,hq⟩:=LB Ul hargs hobs;have hbl:b<w.heap.size:=(hown _ _ hb).1;obtain ⟨l,hl⟩:∃ l,l=b_0.I':=⟨_,rfl⟩
 rw [<- hl] at hq ⊢
 -- a builder that holds nothing
 have none_:∀ q0,l=[]->q=q0->(Calls Tryz.prog 59 #[.pointer (some ⟨b,0,none⟩)] w λ e w'=>e=.returned (.string ⟨#[]⟩)/\Below w.heap.size w w')->PRep w g.st (.slice []) q0 ->
   Calls Tryz.prog 59 #[.pointer (some ⟨b,0,none⟩)] w λ e w'=>∃ v r obs' g',e=.returned v/\(r=.p (eS l)/\obs'=[(1000000,[.bptr 93 2 1000000,.p (eL eU l)])])/\ARep w' g' r v/\(∀ p∈obs',jq w' g' p.1 p.2)/\oy w g w' g':=by
  rintro q0 rfl rfl hc hr;refine hc.mono ?_;rintro e w' ⟨rfl,hB⟩;have Up:∀ b o,b<w.heap.size->w'.cell? ⟨b,o,none⟩=w.cell? ⟨b,o,none⟩:=λ b o h=>hB.cell (p:=⟨b,o,none⟩) h;refine ⟨_,_,_,ghS g,rfl,⟨rfl,rfl⟩,.p (.val _),λ x hx=>?_,D5 (q:=w.heap.size) hok hown hinj hnst (.inr (bx _)) hB.os hB.output hB.tape hB.size (λ k hk _=>hB.block k hk) Up⟩;simp only [List.mem_singleton] at hx; subst hx;exact ob_S hb hbs ((hB.block b hbl).trans hheap) hp (hr.mono (w':=w') (st':=g.st) (λ k o hk=>⟨hk,Up k o (hok.lt k o hk)⟩))
 generalize hes:l.map eU=es at hq
 cases hq with
 | vecn=>
  have e:l=[]:=by simpa using hes
  exact none_ _ e Z (Bz b p w hheap) .nils
 | vec how hb2 Uw hsz2 Uv hr hty=>
  rename_i g2 off2 cap c e2
  have he2:e2=5/\off2=0:=by
   rcases hty with h|h
   ·cases h
   ·exact ⟨(Nat.succ.inj h.1).symm,h.2⟩
  obtain ⟨rfl,rfl⟩:=he2;rw [Nat.zero_add] at Uw;simp only [Nat.zero_add] at Uv;have hgl:g2<w.heap.size:=(hown _ _ how).1;subst hes;simp only [th] at hheap;by_cases hl0:l=[]
  ·subst hl0;by_cases hc0:cap=0
   ·subst hc0;exact none_ _ Z Z (wm b g2 p c w hheap hb2) (by simpa using hr)
   ·exact none_ _ Z Z (Al b g2 cap p w hc0 hheap) (by simpa using hr)
  ·have hcap:l.length<=cap:=by
    obtain ⟨a',cap',he,hle⟩:=pC hr
    cases he
    simpa using hle
   have Up:∀ (j:Nat) x,l[j]? = some x->w.cell? ⟨g2,j,none⟩=some (.int .u8 x.toNat):=by
    intro j x hx;have hinv:=Ob hsz2 hb2 hr;obtain ⟨_,u,hu,hru⟩:=hinv j (eU x) 0 (eU x) (by simp [hx]) rfl
    cases hru
    simp only [World.cell?,hb2];simpa using hu
   refine (CH b g2 cap p c l w hl0 (by simpa using hheap) hb2 hcap (by simpa using Uw) ?_ Up).mono ?_
   ·rw [hl]; exact hmax
   rintro e w' ⟨rfl,rfl⟩;have hother:∀ k,k≠g2->(w.drew.freeze ⟨g2,0,none⟩ l.length).heap[k]? = w.heap[k]?:=λ k hk=>yy w.drew g2 _ k hk;have hcell2:∀ b o,(w.drew.freeze ⟨g2,0,none⟩ l.length).cell? ⟨b,o,none⟩=w.cell? ⟨b,o,none⟩:=λ b o=>AL w.drew g2 _ _;obtain ⟨r1,r2,r3⟩:=Ah w.drew g2 l.length;refine ⟨_,_,_,ghS g,rfl,⟨rfl,rfl⟩,.p (.val _),λ x hx=>?_,D5 (q:=g2) hok hown hinj hnst (.inl how) r1 r2 r3 (by rw [Ap]; exact bx _) (λ k _ hk=>hother k hk) (λ b o _=>hcell2 b o)⟩;simp only [List.mem_singleton] at hx; subst hx;have UK:b≠g2:=λ e=>by subst e; have:=hinj _ _ _ hb how; omega
   exact ob_S hb hbs ((hother b UK).trans (by simpa using hheap)) hp (by simpa using hr.mono (w':=w.drew.freeze ⟨g2,0,none⟩ l.length) (st':=g.st) (λ k o hk=>⟨hk,hcell2 k o⟩))
end Go.Ab
end
section
namespace Go.Ab.RB
open Go.Proofs Go.Ab
variable {p:Prop}
theorem CQ (h:p:=by
  exact nx 2 Z (eX _ (oi h1).symm (gE Z Z))):p:=h
theorem x6 (h:p:=by
  exact nx 5 Z (eX _ (oi h1).symm (gE Z Z))):p:=h
attribute [local irreducible] awp hH bc bG co AV.sub M cO
def dd (OF:List UInt8)(UG:Int):Option (List UInt8) :=if IntKind.wrap .u32 (UG)<=2047 then ck ((0:Int)<=6)<|ck ((0:Int)<=iOr .u8 192 (IntKind.wrap .u8 (cV .i32 UG 6))/\iOr .u8 192 (IntKind.wrap .u8 (cV .i32 UG 6))<256)<|ck ((0:Int)<=iOr .u8 128 (bK .u8 (IntKind.wrap .u8 (UG)) 63)/\iOr .u8 128 (bK .u8 (IntKind.wrap .u8 (UG)) 63)<256)<|ck ((OF.length+[u8 (iOr .u8 192 (IntKind.wrap .u8 (cV .i32 UG 6))),u8 (iOr .u8 128 (bK .u8 (IntKind.wrap .u8 (UG)) 63))].length)*1<=140737488355328)<|some (OF++[u8 (iOr .u8 192 (IntKind.wrap .u8 (cV .i32 UG 6))),u8 (iOr .u8 128 (bK .u8 (IntKind.wrap .u8 (UG)) 63))])else(if IntKind.wrap .u32 (UG)<55296 then some true else if 57343<IntKind.wrap .u32 (UG) then some (decide (IntKind.wrap .u32 (UG)<=65535))else some false : Option Bool).bind λ t8=>if t8=true then ck ((0:Int)<=12)<|ck ((0:Int)<=6)<|ck ((0:Int)<=iOr .u8 224 (IntKind.wrap .u8 (cV .i32 UG 12))/\iOr .u8 224 (IntKind.wrap .u8 (cV .i32 UG 12))<256)<|ck ((0:Int)<=iOr .u8 128 (bK .u8 (IntKind.wrap .u8 (cV .i32 UG 6)) 63)/\iOr .u8 128 (bK .u8 (IntKind.wrap .u8 (cV .i32 UG 6)) 63)<256)<|ck ((0:Int)<=iOr .u8 128 (bK .u8 (IntKind.wrap .u8 (UG)) 63)/\iOr .u8 128 (bK .u8 (IntKind.wrap .u8 (UG)) 63)<256)<|ck ((OF.length+[u8 (iOr .u8 224 (IntKind.wrap .u8 (cV .i32 UG 12))),u8 (iOr .u8 128 (bK .u8 (IntKind.wrap .u8 (cV .i32 UG 6)) 63)),u8 (iOr .u8 128 (bK .u8 (IntKind.wrap .u8 (UG)) 63))].length)*1<=140737488355328)<|some (OF++[u8 (iOr .u8 224 (IntKind.wrap .u8 (cV .i32 UG 12))),u8 (iOr .u8 128 (bK .u8 (IntKind.wrap .u8 (cV .i32 UG 6)) 63)),u8 (iOr .u8 128 (bK .u8 (IntKind.wrap .u8 (UG)) 63))])else(if 65535<IntKind.wrap .u32 (UG) then some (decide (IntKind.wrap .u32 (UG)<=1114111))else some false : Option Bool).bind λ t17=>if t17=true then ck ((0:Int)<=18)<|ck ((0:Int)<=12)<|ck ((0:Int)<=6)<|ck ((0:Int)<=iOr .u8 240 (IntKind.wrap .u8 (cV .i32 UG 18))/\iOr .u8 240 (IntKind.wrap .u8 (cV .i32 UG 18))<256)<|ck ((0:Int)<=iOr .u8 128 (bK .u8 (IntKind.wrap .u8 (cV .i32 UG 12)) 63)/\iOr .u8 128 (bK .u8 (IntKind.wrap .u8 (cV .i32 UG 12)) 63)<256)<|ck ((0:Int)<=iOr .u8 128 (bK .u8 (IntKind.wrap .u8 (cV .i32 UG 6)) 63)/\iOr .u8 128 (bK .u8 (IntKind.wrap .u8 (cV .i32 UG 6)) 63)<256)<|ck ((0:Int)<=iOr .u8 128 (bK .u8 (IntKind.wrap .u8 (UG)) 63)/\iOr .u8 128 (bK .u8 (IntKind.wrap .u8 (UG)) 63)<256)<|ck ((OF.length+[u8 (iOr .u8 240 (IntKind.wrap .u8 (cV .i32 UG 18))),u8 (iOr .u8 128 (bK .u8 (IntKind.wrap .u8 (cV .i32 UG 12)) 63)),u8 (iOr .u8 128 (bK .u8 (IntKind.wrap .u8 (cV .i32 UG 6)) 63)),u8 (iOr .u8 128 (bK .u8 (IntKind.wrap .u8 (UG)) 63))].length)*1<=140737488355328)<|some (OF++[u8 (iOr .u8 240 (IntKind.wrap .u8 (cV .i32 UG 18))),u8 (iOr .u8 128 (bK .u8 (IntKind.wrap .u8 (cV .i32 UG 12)) 63)),u8 (iOr .u8 128 (bK .u8 (IntKind.wrap .u8 (cV .i32 UG 6)) 63)),u8 (iOr .u8 128 (bK .u8 (IntKind.wrap .u8 (UG)) 63))])else ck ((OF.length+[(239:UInt8),(191:UInt8),(189:UInt8)].length)*1<=140737488355328)<|some (OF++[(239:UInt8),(191:UInt8),(189:UInt8)])
theorem jY (OF:List UInt8)(UG:Int)(r:(List UInt8))(h0:dd OF UG=some r):co Tryz.prog 207 [.vec 900000 1 (5+1) (OF.map eU),.p (eK .i32 UG)] [] (λ x y=>x=.vec 2000000 1 (5+1) (r.map eU)/\y=[]):=by
 unfold dd at h0;refine sw good [800000] [] Tryz.func207 Z Z Z Z Z λ w0 F=>mPo (λ v:(List UInt8)=>.vec 2000000 1 (5+1) (v.map eU)) (λ v=>[]) ?_;refine nx 17 Z (fD [11,13] h0 Z (λ c1 h0=>?_) λ c1 h0=>?_)
 ·refine nx 5 Z (cc' h0 λ Wz h0=>?_);refine mO Z (kY Z Z Z Z Z Z Wz ?_);refine nx 6 Z (cc' h0 λ Yq h0=>?_);refine cc' h0 λ YF h0=>mO Z (aK eU [u8 (iOr .u8 192 (IntKind.wrap .u8 (cV .i32 UG 6))),u8 (iOr .u8 128 (bK .u8 (IntKind.wrap .u8 (UG)) 63))] Z Z Z Z Z Z Z Z Z Z Z Z Z (congr (congrArg List.cons (kh Yq)) (congr (congrArg List.cons (kh YF)) Z)) ?_);refine cc' h0 λ hk5 h0=>mO Z (ef eU OF [u8 (iOr .u8 192 (IntKind.wrap .u8 (cV .i32 UG 6))),u8 (iOr .u8 128 (bK .u8 (IntKind.wrap .u8 (UG)) 63))] Z Z Z Z Z Z Z Z Z Z Z Z Z Y Z Z Z Z hk5 ?_);exact nx 3 Z (mQo (oi h0) (bm (cb 24 800000 Z Z Z Z Z) (aU _)) Z Z Z Z (sr) trivial)
 refine nx 2 Z (bd h0 λ ZA h1 h0=>?_);refine kN ZA (λ Yn=>⟨[(0,.vec 900000 1 (5+1) (OF.map eU)),(1,.p (eK .i32 UG)),(5,.p (eK .u32 (IntKind.wrap .u32 (UG)))),(25,.p (eB Yn))],[]⟩) ?_ ?_
 ·refine nx 1 Z (fB [25] h0 Z (λ c9 h0=>?_) λ c9 h0=>?_)
  ·refine nx 5 Z (cc' h0 λ Xh h0=>?_);refine mO Z (kY Z Z Z Z Z Z Xh ?_);refine nx 3 Z (cc' h0 λ WV h0=>?_);refine mO Z (kY Z Z Z Z Z Z WV ?_);refine nx 7 Z (cc' h0 λ WU h0=>?_);refine cc' h0 λ WA h0=>cc' h0 λ Zi h0=>mO Z (aK eU [u8 (iOr .u8 224 (IntKind.wrap .u8 (cV .i32 UG 12))),u8 (iOr .u8 128 (bK .u8 (IntKind.wrap .u8 (cV .i32 UG 6)) 63)),u8 (iOr .u8 128 (bK .u8 (IntKind.wrap .u8 (UG)) 63))] Z Z Z Z Z Z Z Z Z Z Z Z Z (congr (congrArg List.cons (kh WU)) (congr (congrArg List.cons (kh WA)) (congr (congrArg List.cons (kh Zi)) Z))) ?_);refine cc' h0 λ Wr h0=>mO Z (ef eU OF [u8 (iOr .u8 224 (IntKind.wrap .u8 (cV .i32 UG 12))),u8 (iOr .u8 128 (bK .u8 (IntKind.wrap .u8 (cV .i32 UG 6)) 63)),u8 (iOr .u8 128 (bK .u8 (IntKind.wrap .u8 (UG)) 63))] Z Z Z Z Z Z Z Z Z Z Z Z Z Y Z Z Z Z Wr ?_);exact nx 3 Z (mQo (oi h0) (bm (cb 49 800000 Z Z Z Z Z) (aU _)) Z Z Z Z (sr) trivial)
  refine nx 2 Z (bd h0 λ XL h1 h0=>?_);refine kN XL (λ ZE=>⟨[(0,.vec 900000 1 (5+1) (OF.map eU)),(1,.p (eK .i32 UG)),(50,.p (eB ZE))],[]⟩) ?_ ?_
  ·refine nx 1 Z (fB [50] h0 Z (λ c18 h0=>?_) λ c18 h0=>?_)
   ·refine nx 5 Z (cc' h0 λ Wq h0=>?_);refine mO Z (kY Z Z Z Z Z Z Wq ?_);refine nx 3 Z (cc' h0 λ WT h0=>?_);refine mO Z (kY Z Z Z Z Z Z WT ?_);refine nx 4 Z (cc' h0 λ Wp h0=>?_);refine mO Z (kY Z Z Z Z Z Z Wp ?_);refine nx 7 Z (cc' h0 λ WS h0=>?_);refine cc' h0 λ Zh h0=>cc' h0 λ abV h0=>cc' h0 λ X7 h0=>mO Z (aK eU [u8 (iOr .u8 240 (IntKind.wrap .u8 (cV .i32 UG 18))),u8 (iOr .u8 128 (bK .u8 (IntKind.wrap .u8 (cV .i32 UG 12)) 63)),u8 (iOr .u8 128 (bK .u8 (IntKind.wrap .u8 (cV .i32 UG 6)) 63)),u8 (iOr .u8 128 (bK .u8 (IntKind.wrap .u8 (UG)) 63))] Z Z Z Z Z Z Z Z Z Z Z Z Z (congr (congrArg List.cons (kh WS)) (congr (congrArg List.cons (kh Zh)) (congr (congrArg List.cons (kh abV)) (congr (congrArg List.cons (kh X7)) Z)))) ?_);refine cc' h0 λ X6 h0=>mO Z (ef eU OF [u8 (iOr .u8 240 (IntKind.wrap .u8 (cV .i32 UG 18))),u8 (iOr .u8 128 (bK .u8 (IntKind.wrap .u8 (cV .i32 UG 12)) 63)),u8 (iOr .u8 128 (bK .u8 (IntKind.wrap .u8 (cV .i32 UG 6)) 63)),u8 (iOr .u8 128 (bK .u8 (IntKind.wrap .u8 (UG)) 63))] Z Z Z Z Z Z Z Z Z Z Z Z Z Y Z Z Z Z X6 ?_);exact nx 3 Z (mQo (oi h0) (bm (cb 77 800000 Z Z Z Z Z) (aU _)) Z Z Z Z (sr) trivial)
   refine nx 4 Z (mO Z (aK eU [(239:UInt8),(191:UInt8),(189:UInt8)] Z Z Z Z Z Z Z Z Z Z Z Z Z Z ?_));refine cc' h0 λ X5 h0=>mO Z (ef eU OF [(239:UInt8),(191:UInt8),(189:UInt8)] Z Z Z Z Z Z Z Z Z Z Z Z Z Y Z Z Z Z X5 ?_);exact nx 3 Z (mQo (oi h0) (bm (cb 10 800000 Z Z Z Z Z) (aU _)) Z Z Z Z (sr) trivial)
  refine nx 4 Z (fD [52,53] h1 Z (λ YI h1=>?_) λ YI h1=>?_)
  ·exact x6
  exact x6
 refine nx 6 Z (fD [25,27] h1 Z (λ c6 h1=>?_) λ c6 h1=>?_)
 ·exact CQ
 refine nx 5 Z (fD [29,30] h1 Z (λ c7 h1=>?_) λ c7 h1=>?_)
 ·exact x6
 exact x6
def d6 (OF:List UInt8)(UG:Int):Option (List UInt8) :=if IntKind.wrap .u32 (UG)<=127 then ck ((0:Int)<=IntKind.wrap .u8 (UG)/\IntKind.wrap .u8 (UG)<256)<|ck ((OF.length+[u8 (IntKind.wrap .u8 (UG))].length)*1<=140737488355328)<|some (OF++[u8 (IntKind.wrap .u8 (UG))])else(dd OF UG).bind λ r4=>some r4
theorem ny (OF:List UInt8)(UG:Int)(r:(List UInt8))(h0:d6 OF UG=some r):co Tryz.prog 193 [.vec 900000 1 (5+1) (OF.map eU),.p (eK .i32 UG)] [] (λ x y=>x=.vec 2000000 1 (5+1) (r.map eU)/\y=[]):=by
 unfold d6 at h0;refine sw good [800000] [] Tryz.func193 Z Z Z Z Z λ w0 F=>mPo (λ v:(List UInt8)=>.vec 2000000 1 (5+1) (v.map eU)) (λ v=>[]) ?_;refine nx 11 Z (fD [7] h0 Z (λ c1 h0=>?_) λ c1 h0=>?_)
 ·refine nx 6 Z (cc' h0 λ Wz h0=>?_);refine mO Z (aK eU [u8 (IntKind.wrap .u8 (UG))] Z Z Z Z Z Z Z Z Z Z Z Z Z (congr (congrArg List.cons (kh Wz)) Z) ?_);refine cc' h0 λ YF h0=>mO Z (ef eU OF [u8 (IntKind.wrap .u8 (UG))] Z Z Z Z Z Z Z Z Z Z Z Z Z Y Z Z Z Z YF ?_);exact nx 3 Z (mQo (oi h0) (bm (cb 12 800000 Z Z Z Z Z) (aU _)) Z Z Z Z (sr) trivial)
 refine nx 6 Z (bd h0 λ r4 e5 h0=>?_);refine mO Z (aV [] [900000] 101000 101001 (jY OF UG _ e5) Z Z Z Z Z ⟨sr,sr,trivial⟩ Z Z trivial Z Z Z Z Z Z Z Z Tryz.call207 Z Z ?_);exact nx 3 Z (mQo (oi h0) (bm (cb 101000 800000 Z Z Z Z Z) (aU _)) Z Z Z Z (sr) trivial)
def dB (b_0:bY)(UG:Int):Option (Int×Bool×bY) :=(gM (bY.mk b_0.I')).bind λ r1=>(d6 r1.I' UG).bind λ r3=>ck (inR ((r3.length:Int)-(r1.I'.length:Int)))<|some ((r3.length:Int)-(r1.I'.length:Int),false,(bY.mk r3))
theorem mn (b_0:bY)(UG:Int)(r:Int×Bool×bY)(h0:dB b_0 UG=some r):co Tryz.prog 175 [.ptr 1000000 0,.p (eK .i32 UG)] [(1000000,[.bptr 93 2 1000000,.vec 900000 1 (5+1) (b_0.I'.map eU)])] (λ x y=>x=.tuple [.p (eI r.1),.p (eE r.2.1)]/\y=[(1000000,[.bptr 93 2 1000000,.vec 2000000 1 (5+1) (r.2.2.I'.map eU)])]):=by
 unfold dB at h0;refine sw good [800000] [1000000] Tryz.func175 Z Z Z Z Z λ w0 F=>mPo (λ v:Int×Bool×bY=>.tuple [.p (eI v.1),.p (eE v.2.1)]) (λ v=>[(1000000,[.bptr 93 2 1000000,.vec 2000000 1 (5+1) (v.2.2.I'.map eU)])]) ?_;refine nx 8 Z (bd h0 λ r1 e2 h0=>?_);refine mO Z (aV [1000000] [900000] 101000 101001 (ml (bY.mk b_0.I') _ e2) Z Z Z Z Z ⟨sr,trivial⟩ Z Z ⟨⟨_,Z,⟨sr,sr,trivial⟩⟩,trivial⟩ Z Z Z Z Z Z Z Z Tryz.call91 Z Z ?_);refine nx 7 Z (oLl (f:=eU) Z Z ?_);refine nx 10 Z (bd h0 λ r3 e4 h0=>?_);refine mO Z (aV [] [101000] 102000 102001 (ny r1.I' UG _ e4) Z Z Z Z Z ⟨sr,sr,trivial⟩ Z Z trivial Z Z Z Z Z Z Z Z Tryz.call193 Z Z ?_);refine nx 10 Z (oLl (f:=eU) Z Z ?_);refine nx 1 Z (oA h0 Z Z λ hk5 h0=>?_);refine nx 3 Z (mG (gE (t:=⟨[(4,.p (eI ((r3.length:Int)-(r1.I'.length:Int)))),(5,.p (eE false))],[(1000000,[.bptr 93 2 1000000,.vec 102000 1 (5+1) (r3.map eU)])]⟩) Z Z) ?_);exact nx 1 Z (mQo (oi h0) (bm (cb 102000 800000 Z Z Z Z Z) (aU _)) Z Z Z Z (kf ⟨sr,sr,trivial⟩) ⟨⟨_,Z,⟨sr,sr,trivial⟩⟩,trivial⟩)
def jH (b_0:bY):Option (Int×bY) :=some ((b_0.I'.length:Int),(bY.mk b_0.I'))
theorem pw (b_0:bY)(r:Int×bY)(h0:jH b_0=some r):co Tryz.prog 176 [.ptr 1000000 0] [(1000000,[.bptr 93 2 1000000,.vec 900000 1 (5+1) (b_0.I'.map eU)])] (λ x y=>x=.p (eI r.1)/\y=[(1000000,[.bptr 93 2 1000000,.vec 2000000 1 (5+1) (r.2.I'.map eU)])]):=by
 unfold jH at h0;refine sw good [800000] [1000000] Tryz.func176 Z Z Z Z Z λ w0 F=>mPo (λ v:Int×bY=>.p (eI v.1)) (λ v=>[(1000000,[.bptr 93 2 1000000,.vec 2000000 1 (5+1) (v.2.I'.map eU)])]) ?_;refine nx 10 Z (oLl (f:=eU) Z Z ?_);exact nx 3 Z (mQo (oi h0) (bm (cb 900000 800000 Z Z Z Z Z) (aU _)) Z Z Z Z (sr) ⟨⟨_,Z,⟨sr,sr,trivial⟩⟩,trivial⟩)
end Go.Ab.RB
end
section
namespace Go.Ab
open Go.RowKit
theorem bG.of_calls {P:Program}{f:FuncId}{l:List Value}{r:AV}
  (h:∀ (w:World) (st:Nat->Nat->Prop),Ok0 w st->Calls P f l.toArray w λ e w'=>∃ v,e=.returned v/\Below w.heap.size w w'/\∀ g',ARep w' g' r v):bG P f (l.map PV.val) (·=r):=by
 intro w st vs hok Ul hargs
 have e:vs=l.toArray:=by
  apply Array.ext
  ·simpa using Ul
  ·intro i h1 h2;have hi:i<l.length:=by simpa using h2
   have:=hargs i (.val l[i]) vs[i] (by simp [hi]) (Array.getElem?_eq_getElem h1);generalize hv:vs[i]=v at this
   cases this
   simp
 subst e;refine (h w st hok).mono ?_;rintro e w' ⟨v,rfl,hB,hr⟩;refine ⟨v,r,⟨st,λ _=>none⟩,rfl,rfl,hr _,⟨hB.os,hB.output,hB.tape,hB.size,λ b hb=>hB.block b hb,?_,?_,λ b o hb=>Nat.lt_of_lt_of_le (hok.lt b o hb) hB.size,λ b _ o=>Iff.rfl⟩⟩
 ·intro i b hi; cases hi
 ·intro i j b hi; cases hi
theorem uD {w:World}{st:Nat->Nat->Prop}(h:ni w st){g j:Nat}{l:List GC}{k:IntKind}{n:Int}(hl:look um g=some l)(hj:l[j]? = some (.int k n)):w.cell? ⟨g,j,none⟩=some (.int k n):=by
 obtain ⟨_,v,h2,h3⟩:=(h g (l.map GC.pv) (by rw [qi,hl]; rfl)).1 j (.val (.int k n)) (by rw [List.getElem?_map,hj]; rfl)
 cases h3
 exact h2
theorem zN {w:World}{st:Nat->Nat->Prop}(h:ni w st){g j:Nat}{l:List GC}(hl:look um g=some l)(hj:l[j]? = some .ifc):∃ t v,w.cell? ⟨g,j,none⟩=some (.iface t v):=by
 obtain ⟨_,v,h2,h3⟩:=(h g (l.map GC.pv) (by rw [qi,hl]; rfl)).1 j .ifc (by rw [List.getElem?_map,hj]; rfl)
 cases h3 with
 | ifc t v=>exact ⟨t,v,h2⟩
theorem kL (s:Bk):(str s).data.toList=s:=by simp [str]
theorem uv (w:World):Below w.heap.size w w:=Below.refl _ w
end Go.Ab
end
section
namespace Go.Proofs
open Go.Shelf
variable {p:Prop}
theorem Tbc3aa (h:p:=by exact congrArg some (by kernel_rfl)):p:=h
def Tryz.lays119_ren:Go.Shelf.Ren:=⟨λ|119=>206|n=>n,λ|21=>21|4=>4|n=>n,λ|n=>n⟩
theorem Tryz.lays119:Go.Proofs.Lays.n119 Tryz.prog Tryz.lays119_ren:={
 mixed:=by kernel_rfl
 f119:=Tryz.func206.trans Tbc3aa
 t4:=Tryz.underlying4
 a4:=Tryz.isAgg4
 z4:=Tryz.sizeOf4
 v4:=Tryz.zeroValue4
 t21:=Tryz.underlying21
 a21:=Tryz.isAgg21
 z21:=Tryz.sizeOf21
 v21:=Tryz.zeroValue21 }
theorem Tryz.utf8_ValidRune (r:Int)(w:World) :
  Calls Tryz.prog 206 #[.int .i32 r] w λ e w'=>e=.returned (.bool (Lib.validRune r))/\w'=w:=Any.utf8_ValidRune Tryz.lays119 r w
def Tryz.lays137_ren:Go.Shelf.Ren:=⟨λ|137=>85|217=>131|266=>163|n=>n,λ|9=>9|5=>5|3=>3|n=>n,λ|n=>n⟩
theorem Tryz.lays137:Go.Proofs.Lays.n137 Tryz.prog Tryz.lays137_ren:={
 mixed:=by kernel_rfl
 f137:=Tryz.func85.trans Tbc3aa
 f217:=Tryz.func131.trans Tbc3aa
 f266:=Tryz.func163.trans Tbc3aa
 t3:=Tryz.underlying3
 a3:=Tryz.isAgg3
 z3:=Tryz.sizeOf3
 v3:=Tryz.zeroValue3
 t5:=Tryz.underlying5
 a5:=Tryz.isAgg5
 z5:=Tryz.sizeOf5
 v5:=Tryz.zeroValue5
 t9:=Tryz.underlying9
 a9:=Tryz.isAgg9
 z9:=Tryz.sizeOf9
 v9:=Tryz.zeroValue9 }
open Go.RowKit in
theorem Tryz.strings_IndexByte (s:ByteArray)(c:Int)(w:World) :
  Calls Tryz.prog 85 #[.string s,.int .u8 c] w λ e w'=>e=.returned (.int .i64 (Lib.indexByte s.data.toList c.toNat.toUInt8))/\w'=w:=Any.strings_IndexByte Tryz.lays137 s c w
def Tryz.lays99_ren:Go.Shelf.Ren:=⟨λ|99=>75|206=>123|n=>n,λ|9=>9|4=>4|3=>3|n=>n,λ|n=>n⟩
theorem Tryz.lays99:Go.Proofs.Lays.n99 Tryz.prog Tryz.lays99_ren:={
 mixed:=by kernel_rfl
 f99:=Tryz.func75.trans Tbc3aa
 f206:=Tryz.func123.trans Tbc3aa
 t3:=Tryz.underlying3
 a3:=Tryz.isAgg3
 z3:=Tryz.sizeOf3
 v3:=Tryz.zeroValue3
 t4:=Tryz.underlying4
 a4:=Tryz.isAgg4
 z4:=Tryz.sizeOf4
 v4:=Tryz.zeroValue4
 t9:=Tryz.underlying9
 a9:=Tryz.isAgg9
 z9:=Tryz.sizeOf9
 v9:=Tryz.zeroValue9 }
open Go.RowKit Go.Lib in
theorem Tryz.strings_HasPrefix (s p:ByteArray)(w:World) :
  Calls Tryz.prog 75 #[.string s,.string p] w λ e w'=>e=.returned (.bool (Lib.hasPrefix s.data.toList p.data.toList))/\w'=w:=Any.strings_HasPrefix Tryz.lays99 s p w
def Tryz.laysC174_ren:Go.Shelf.Ren:=⟨λ|174=>209|247=>221|245=>222|287=>227|279=>228|280=>229|281=>230|282=>231|321=>232|322=>233|316=>234|171=>236|205=>235|243=>237|246=>238|283=>239|284=>240|285=>241|286=>242|129=>244|317=>243|318=>245|319=>246|320=>247|337=>248|338=>249|n=>n,λ|9=>9|3=>3|2=>2|75=>96|85=>183|4=>4|167=>192|5=>5|53=>191|175=>193|46=>166|168=>195|37=>91|0=>0|210=>200|21=>21|127=>123|145=>204|143=>202|171=>206|173=>209|212=>212|51=>176|20=>20|213=>213|232=>216|233=>217|80=>100|n=>n,λ|15=>3|16=>4|17=>5|18=>6|19=>7|n=>n⟩
theorem Tryz.laysC174:Go.Proofs.LaysC.n174 Tryz.prog Tryz.laysC174_ren:={
 mixed:=by kernel_rfl
 f129:=Tryz.func244.trans Tbc3aa
 f171:=Tryz.func236.trans Tbc3aa
 f174:=Tryz.func209.trans Tbc3aa
 f205:=Tryz.func235.trans Tbc3aa
 f243:=Tryz.func237.trans Tbc3aa
 f245:=Tryz.func222.trans Tbc3aa
 f246:=Tryz.func238.trans Tbc3aa
 f247:=Tryz.func221.trans Tbc3aa
 f279:=Tryz.func228.trans Tbc3aa
 f280:=Tryz.func229.trans Tbc3aa
 f281:=Tryz.func230.trans Tbc3aa
 f282:=Tryz.func231.trans Tbc3aa
 f283:=Tryz.func239.trans Tbc3aa
 f284:=Tryz.func240.trans Tbc3aa
 f285:=Tryz.func241.trans Tbc3aa
 f286:=Tryz.func242.trans Tbc3aa
 f287:=Tryz.func227.trans Tbc3aa
 f316:=Tryz.func234.trans Tbc3aa
 f317:=Tryz.func243.trans Tbc3aa
 f318:=Tryz.func245.trans Tbc3aa
 f319:=Tryz.func246.trans Tbc3aa
 f320:=Tryz.func247.trans Tbc3aa
 f321:=Tryz.func232.trans Tbc3aa
 f322:=Tryz.func233.trans Tbc3aa
 f337:=Tryz.func248.trans Tbc3aa
 f338:=Tryz.func249.trans Tbc3aa
 t0:=Tryz.underlying0
 a0:=Tryz.isAgg0
 z0:=Tryz.sizeOf0
 v0:=Tryz.zeroValue0
 t2:=Tryz.underlying2
 a2:=Tryz.isAgg2
 z2:=Tryz.sizeOf2
 v2:=Tryz.zeroValue2
 t3:=Tryz.underlying3
 a3:=Tryz.isAgg3
 z3:=Tryz.sizeOf3
 v3:=Tryz.zeroValue3
 t4:=Tryz.underlying4
 a4:=Tryz.isAgg4
 z4:=Tryz.sizeOf4
 v4:=Tryz.zeroValue4
 t5:=Tryz.underlying5
 a5:=Tryz.isAgg5
 z5:=Tryz.sizeOf5
 v5:=Tryz.zeroValue5
 t9:=Tryz.underlying9
 a9:=Tryz.isAgg9
 z9:=Tryz.sizeOf9
 v9:=Tryz.zeroValue9
 t20:=Tryz.underlying20
 a20:=Tryz.isAgg20
 z20:=Tryz.sizeOf20
 v20:=Tryz.zeroValue20
 t21:=Tryz.underlying21
 a21:=Tryz.isAgg21
 z21:=Tryz.sizeOf21
 v21:=Tryz.zeroValue21
 t37:=Tryz.underlying91
 a37:=Tryz.isAgg91
 z37:=Tryz.sizeOf91
 v37:=Tryz.zeroValue91
 t46:=Tryz.underlying166
 a46:=Tryz.isAgg166
 z46:=Tryz.sizeOf166
 v46:=Tryz.zeroValue166
 t51:=Tryz.underlying176
 a51:=Tryz.isAgg176
 z51:=Tryz.sizeOf176
 v51:=Tryz.zeroValue176
 t53:=Tryz.underlying191
 a53:=Tryz.isAgg191
 z53:=Tryz.sizeOf191
 v53:=Tryz.zeroValue191
 t75:=Tryz.underlying96
 a75:=Tryz.isAgg96
 z75:=Tryz.sizeOf96
 v75:=Tryz.zeroValue96
 t85:=Tryz.underlying183
 a85:=Tryz.isAgg183
 z85:=Tryz.sizeOf183
 v85:=Tryz.zeroValue183
 t127:=Tryz.underlying123
 a127:=Tryz.isAgg123
 z127:=Tryz.sizeOf123
 v127:=Tryz.zeroValue123
 t143:=Tryz.underlying202
 a143:=Tryz.isAgg202
 z143:=Tryz.sizeOf202
 v143:=Tryz.zeroValue202
 t145:=Tryz.underlying204
 a145:=Tryz.isAgg204
 z145:=Tryz.sizeOf204
 v145:=Tryz.zeroValue204
 t167:=Tryz.underlying192
 a167:=Tryz.isAgg192
 z167:=Tryz.sizeOf192
 v167:=Tryz.zeroValue192
 t168:=Tryz.underlying195
 a168:=Tryz.isAgg195
 z168:=Tryz.sizeOf195
 v168:=Tryz.zeroValue195
 t171:=Tryz.underlying206
 a171:=Tryz.isAgg206
 z171:=Tryz.sizeOf206
 v171:=Tryz.zeroValue206
 t173:=Tryz.underlying209
 a173:=Tryz.isAgg209
 z173:=Tryz.sizeOf209
 v173:=Tryz.zeroValue209
 t175:=Tryz.underlying193
 a175:=Tryz.isAgg193
 z175:=Tryz.sizeOf193
 v175:=Tryz.zeroValue193
 t210:=Tryz.underlying200
 a210:=Tryz.isAgg200
 z210:=Tryz.sizeOf200
 v210:=Tryz.zeroValue200
 t212:=Tryz.underlying212
 a212:=Tryz.isAgg212
 z212:=Tryz.sizeOf212
 v212:=Tryz.zeroValue212
 t213:=Tryz.underlying213
 a213:=Tryz.isAgg213
 z213:=Tryz.sizeOf213
 t232:=Tryz.underlying216
 a232:=Tryz.isAgg216
 z232:=Tryz.sizeOf216
 v232:=Tryz.zeroValue216
 t233:=Tryz.underlying217
 a233:=Tryz.isAgg217
 z233:=Tryz.sizeOf217
 v233:=Tryz.zeroValue217
 g15:=by kernel_rfl
 g16:=by kernel_rfl
 g17:=by kernel_rfl
 g18:=by kernel_rfl
 g19:=by kernel_rfl
 t80:=Tryz.underlying100
 a80:=Tryz.isAgg100
 z80:=Tryz.sizeOf100
 v80:=Tryz.zeroValue100
 i0:=by kernel_rfl
 i2:=by kernel_rfl
 i3:=by kernel_rfl
 i4:=by kernel_rfl
 i5:=by kernel_rfl
 i9:=by kernel_rfl
 i20:=by kernel_rfl
 i21:=by kernel_rfl
 i37:=by kernel_rfl
 i46:=by kernel_rfl
 i51:=by kernel_rfl
 i53:=by kernel_rfl
 i75:=by kernel_rfl
 i80:=by kernel_rfl
 i85:=by kernel_rfl
 i127:=by kernel_rfl
 i143:=by kernel_rfl
 i145:=by kernel_rfl
 i167:=by kernel_rfl
 i168:=by kernel_rfl
 i171:=by kernel_rfl
 i173:=by kernel_rfl
 i175:=by kernel_rfl
 i210:=by kernel_rfl
 i212:=by kernel_rfl
 i232:=by kernel_rfl
 i233:=by kernel_rfl
 m15:=by kernel_rfl
 m16:=by kernel_rfl
 m17:=by kernel_rfl
 m18:=by kernel_rfl
 m19:=by kernel_rfl
 c0:=by kernel_rfl
 c2:=by kernel_rfl
 c3:=by kernel_rfl
 c4:=by kernel_rfl
 c5:=by kernel_rfl
 c9:=by kernel_rfl
 c20:=by kernel_rfl
 c21:=by kernel_rfl
 c37:=by kernel_rfl
 c46:=by kernel_rfl
 c51:=by kernel_rfl
 c53:=by kernel_rfl
 c75:=by kernel_rfl
 c80:=by kernel_rfl
 c85:=by kernel_rfl
 c127:=by kernel_rfl
 c143:=by kernel_rfl
 c145:=by kernel_rfl
 c167:=by kernel_rfl
 c168:=by kernel_rfl
 c171:=by kernel_rfl
 c173:=by kernel_rfl
 c175:=by kernel_rfl
 c210:=by kernel_rfl
 c212:=by kernel_rfl
 c213:=by kernel_rfl
 c232:=by kernel_rfl
 c233:=by kernel_rfl }
open Go.RowKit in
theorem Tryz.strconv_ParseInt_10_at64_ok (s:ByteArray)(hmax:s.size<=9223372036854775806)(v:Int)(h:Lib.parseIntB 64 s.data.toList=.ok v)(w:World) :
  Calls Tryz.prog 209 #[.string s,.int .i64 10,.int .i64 64] w λ e w'=>e=.returned (.tuple #[.int .i64 v,.nilIface])/\(w'=w\/∃ t,w'=Lib.bytesWorld w 5 t):=Any.strconv_ParseInt_10_at64_ok Tryz.laysC174 s hmax v h w
open Go.RowKit in
theorem Tryz.strconv_ParseInt_10_at64_range (s:ByteArray)(hlim:s.size<=281474976710656)(h:Lib.parseIntB 64 s.data.toList=.range)(ev:Value)(w:World)(hv:w.cell? ⟨4,0,none⟩=some ev)(Us:ev=.nilIface\/∃ te pe,ev=.iface te pe) :
  Calls Tryz.prog 209 #[.string s,.int .i64 10,.int .i64 64] w λ e w'=>∃ N,e=.returned (.tuple #[.int .i64 (Lib.intSat 64 s.data.toList),.iface 195 (.pointer (some ⟨N,0,none⟩))])/\w.heap.size<=N/\w'.heap[N]? = some (.cells #[.string ⟨#[80,97,114,115,101,73,110,116]⟩,.string s,ev] 200 (0,0))/\Below w.heap.size w w':=Any.strconv_ParseInt_10_at64_range Tryz.laysC174 s hlim h ev w hv Us
open Go.RowKit in
theorem Tryz.strconv_ParseInt_10_at64_syntax (s:ByteArray)(hlim:s.size<=281474976710656)(h:Lib.parseIntB 64 s.data.toList=Lib.parseIntB 64 [])(ev:Value)(w:World)(hv:w.cell? ⟨3,0,none⟩=some ev)(Us:ev=.nilIface\/∃ te pe,ev=.iface te pe) :
  Calls Tryz.prog 209 #[.string s,.int .i64 10,.int .i64 64] w λ e w'=>∃ N,e=.returned (.tuple #[.int .i64 (0),.iface 195 (.pointer (some ⟨N,0,none⟩))])/\w.heap.size<=N/\w'.heap[N]? = some (.cells #[.string ⟨#[80,97,114,115,101,73,110,116]⟩,.string s,ev] 200 (0,0))/\Below w.heap.size w w':=Any.strconv_ParseInt_10_at64_syntax Tryz.laysC174 s hlim h ev w hv Us
def Tryz.lays197_ren:Go.Shelf.Ren:=⟨λ|197=>126|260=>159|n=>n,λ|9=>9|21=>21|3=>3|4=>4|5=>5|105=>138|119=>82|0=>0|46=>166|139=>169|138=>168|n=>n,λ|3=>0|4=>1|n=>n⟩
theorem Tryz.lays197:Go.Proofs.Lays.n197 Tryz.prog Tryz.lays197_ren:={
 mixed:=by kernel_rfl
 f197:=Tryz.func126.trans Tbc3aa
 f260:=Tryz.func159.trans Tbc3aa
 t0:=Tryz.underlying0
 a0:=Tryz.isAgg0
 z0:=Tryz.sizeOf0
 v0:=Tryz.zeroValue0
 t3:=Tryz.underlying3
 a3:=Tryz.isAgg3
 z3:=Tryz.sizeOf3
 v3:=Tryz.zeroValue3
 t4:=Tryz.underlying4
 a4:=Tryz.isAgg4
 z4:=Tryz.sizeOf4
 v4:=Tryz.zeroValue4
 t5:=Tryz.underlying5
 a5:=Tryz.isAgg5
 z5:=Tryz.sizeOf5
 v5:=Tryz.zeroValue5
 t9:=Tryz.underlying9
 a9:=Tryz.isAgg9
 z9:=Tryz.sizeOf9
 v9:=Tryz.zeroValue9
 t21:=Tryz.underlying21
 a21:=Tryz.isAgg21
 z21:=Tryz.sizeOf21
 v21:=Tryz.zeroValue21
 t46:=Tryz.underlying166
 a46:=Tryz.isAgg166
 z46:=Tryz.sizeOf166
 v46:=Tryz.zeroValue166
 t105:=Tryz.underlying138
 a105:=Tryz.isAgg138
 z105:=Tryz.sizeOf138
 v105:=Tryz.zeroValue138
 t119:=Tryz.underlying82
 a119:=Tryz.isAgg82
 z119:=Tryz.sizeOf82
 t138:=Tryz.underlying168
 a138:=Tryz.isAgg168
 z138:=Tryz.sizeOf168
 v138:=Tryz.zeroValue168
 t139:=Tryz.underlying169
 a139:=Tryz.isAgg169
 z139:=Tryz.sizeOf169
 v139:=Tryz.zeroValue169
 g3:=by kernel_rfl
 g4:=by kernel_rfl }
open Go.RowKit Go.Lib in
theorem Tryz.utf8_DecodeRuneInString (s:ByteArray)(w:World)(hT:Lib.Utf8Tabs 0 1 w) :
  Calls Tryz.prog 126 #[.string s] w λ e w'=>e=.returned (.tuple #[.int .i32 (Lib.decodeGo s).1,.int .i64 (Lib.decodeGo s).2])/\Below w.heap.size w w':=Any.utf8_DecodeRuneInString Tryz.lays197 s w hT
def Tryz.lays196_ren:Go.Shelf.Ren:=⟨λ|196=>204|259=>220|n=>n,λ|9=>9|4=>4|3=>3|5=>5|12=>12|119=>82|0=>0|46=>166|139=>169|138=>168|53=>191|n=>n,λ|3=>0|4=>1|n=>n⟩
theorem Tryz.lays196:Go.Proofs.Lays.n196 Tryz.prog Tryz.lays196_ren:={
 mixed:=by kernel_rfl
 f196:=Tryz.func204.trans Tbc3aa
 f259:=Tryz.func220.trans Tbc3aa
 t0:=Tryz.underlying0
 a0:=Tryz.isAgg0
 z0:=Tryz.sizeOf0
 v0:=Tryz.zeroValue0
 t3:=Tryz.underlying3
 a3:=Tryz.isAgg3
 z3:=Tryz.sizeOf3
 v3:=Tryz.zeroValue3
 t4:=Tryz.underlying4
 a4:=Tryz.isAgg4
 z4:=Tryz.sizeOf4
 v4:=Tryz.zeroValue4
 t5:=Tryz.underlying5
 a5:=Tryz.isAgg5
 z5:=Tryz.sizeOf5
 v5:=Tryz.zeroValue5
 t9:=Tryz.underlying9
 a9:=Tryz.isAgg9
 z9:=Tryz.sizeOf9
 v9:=Tryz.zeroValue9
 t12:=Tryz.underlying12
 a12:=Tryz.isAgg12
 z12:=Tryz.sizeOf12
 v12:=Tryz.zeroValue12
 t46:=Tryz.underlying166
 a46:=Tryz.isAgg166
 z46:=Tryz.sizeOf166
 v46:=Tryz.zeroValue166
 t53:=Tryz.underlying191
 a53:=Tryz.isAgg191
 z53:=Tryz.sizeOf191
 v53:=Tryz.zeroValue191
 t119:=Tryz.underlying82
 a119:=Tryz.isAgg82
 z119:=Tryz.sizeOf82
 t138:=Tryz.underlying168
 a138:=Tryz.isAgg168
 z138:=Tryz.sizeOf168
 v138:=Tryz.zeroValue168
 t139:=Tryz.underlying169
 a139:=Tryz.isAgg169
 z139:=Tryz.sizeOf169
 v139:=Tryz.zeroValue169
 g3:=by kernel_rfl
 g4:=by kernel_rfl }
open Go.RowKit Go.Lib in
theorem Tryz.utf8_ValidString (s:ByteArray)(w:World)(hs:s.size<=9223372036854775807)(hT:Lib.Utf8Tabs 0 1 w):Calls Tryz.prog 204 #[.string s] w λ e w'=>e=.returned (.bool (Lib.validD s.data.toList))/\Below w.heap.size w w':=Any.utf8_ValidString Tryz.lays196 s w hs hT
def Tryz.lays144_ren:Go.Shelf.Ren:=⟨λ|144=>90|143=>135|219=>164|217=>131|225=>181|224=>182|267=>183|266=>163|314=>195|n=>n,λ|9=>9|4=>4|3=>3|5=>5|46=>166|146=>177|51=>176|n=>n,λ|1=>2|n=>n⟩
theorem Tryz.lays144:Go.Proofs.Lays.n144 Tryz.prog Tryz.lays144_ren:={
 mixed:=by kernel_rfl
 f143:=Tryz.func135.trans Tbc3aa
 f144:=Tryz.func90.trans Tbc3aa
 f217:=Tryz.func131.trans Tbc3aa
 f219:=Tryz.func164.trans Tbc3aa
 f224:=Tryz.func182.trans Tbc3aa
 f225:=Tryz.func181.trans Tbc3aa
 f266:=Tryz.func163.trans Tbc3aa
 f267:=Tryz.func183.trans Tbc3aa
 f314:=Tryz.func195.trans Tbc3aa
 t3:=Tryz.underlying3
 a3:=Tryz.isAgg3
 z3:=Tryz.sizeOf3
 v3:=Tryz.zeroValue3
 t4:=Tryz.underlying4
 a4:=Tryz.isAgg4
 z4:=Tryz.sizeOf4
 v4:=Tryz.zeroValue4
 t5:=Tryz.underlying5
 a5:=Tryz.isAgg5
 z5:=Tryz.sizeOf5
 v5:=Tryz.zeroValue5
 t9:=Tryz.underlying9
 a9:=Tryz.isAgg9
 z9:=Tryz.sizeOf9
 v9:=Tryz.zeroValue9
 t46:=Tryz.underlying166
 a46:=Tryz.isAgg166
 z46:=Tryz.sizeOf166
 v46:=Tryz.zeroValue166
 t51:=Tryz.underlying176
 a51:=Tryz.isAgg176
 z51:=Tryz.sizeOf176
 v51:=Tryz.zeroValue176
 t146:=Tryz.underlying177
 a146:=Tryz.isAgg177
 z146:=Tryz.sizeOf177
 v146:=Tryz.zeroValue177
 g1:=by kernel_rfl }
open Go.RowKit Go.Lib in
theorem Tryz.strings_Contains_one (s:ByteArray)(c:UInt8)(w:World) :
  Calls Tryz.prog 90 #[.string s,.string ⟨#[c]⟩] w λ e w'=>e=.returned (.bool (decide (0<=Lib.indexByte s.data.toList c)))/\w'=w:=Any.strings_Contains_one Tryz.lays144 s c w
end Go.Proofs
end
section
namespace Go.Ab
open Go.Proofs Go.RowKit
variable {p:Prop}
theorem xS (h:p:=by
 exact ⟨_,Z,uv _,λ _=>.p (.val _)⟩):p:=h
def strings_IndexByte (s:Bk)(c:Int):Option Int:=some (Lib.indexByte s c.toNat.toUInt8)
theorem lY (Mr:Bk)(c_1:Int)(r:Int)(h0:strings_IndexByte Mr c_1=some r):bG Tryz.prog 85 [eS Mr,eK .u8 c_1] (·=.p (eI r)):=by
 cases h0
 refine bG.of_calls (l:=[.string (str Mr),.int .u8 c_1]) λ w st hok=>(Tryz.strings_IndexByte _ _ w).mono ?_;rintro e w' ⟨rfl,rfl⟩;rw [kL];exact xS
def cD (r:Int):Option Bool:=some (Lib.validRune r)
theorem nJ (r_0:Int)(r:Bool)(h0:cD r_0=some r):bG Tryz.prog 206 [eK .i32 r_0] (·=.p (eB r)):=by
 cases h0
 refine bG.of_calls (l:=[.int .i32 r_0]) λ w st hok=>(Tryz.utf8_ValidRune _ w).mono ?_;rintro e w' ⟨rfl,rfl⟩;exact xS
theorem zW {w:World}{g:Gh}{a b:Value}:ARep w g (.tuple [.p (.val a),.p (.val b)]) (.tuple #[a,b]):=by
 refine .tuple Z λ i c v h1 h2=>?_
 match i,h1,h2 with
 | 0,h1,h2=>simp at h1 h2; subst h1 h2; exact .p (.val _)
 | 1,h1,h2=>simp at h1 h2; subst h1 h2; exact .p (.val _)
 | n+2,h1,_=>simp at h1
def strings_HasPrefix (s p:Bk):Option Bool:=some (Lib.hasPrefix s p)
theorem dk (Mr p_1:Bk)(r:Bool)(h0:strings_HasPrefix Mr p_1=some r):bG Tryz.prog 75 [eS Mr,eS p_1] (·=.p (eB r)):=by
 cases h0
 refine bG.of_calls (l:=[.string (str Mr),.string (str p_1)]) λ w st hok=>(Tryz.strings_HasPrefix _ _ w).mono ?_;rintro e w' ⟨rfl,rfl⟩;rw [kL,kL];exact xS
theorem Fo:(List.range 256).all (λ c=>match KR[c]? with|some (.int .u8 n)=>n==(Lib.firstT c:Int)|_=>false)=true:=by kernel_rfl
theorem Oi:(List.range 16).all (λ c=>(match Lx[2*c]? with|some (.int .u8 n)=>n==(Lib.accLo c:Int)|_=>false)&&(match Lx[2*c+1]? with|some (.int .u8 n)=>n==(Lib.accHi c:Int)|_=>false))=true:=by kernel_rfl
theorem Hn {o:Option GC}{m:Int}(h:(match o with|some (.int .u8 n)=>n==m|_=>false)=true):o=some (.int .u8 m):=by
 split at h
 ·rw [eq_of_beq h]
 ·cases h
theorem zb {w:World}{st:Nat->Nat->Prop}(h:ni w st):Lib.Utf8Tabs 0 1 w:=by
 refine ⟨λ c hc=>uD h Z (Hn (ph.1 Fo c (by simpa using hc))),λ i hi=>?_⟩;have:=ph.1 Oi i (by simpa using hi);simp only [n8] at this;exact ⟨uD h Z (Hn this.1),uD h Z (Hn this.2)⟩
def bn (s:Bk):Option (Int×Int):=some ((Lib.decodeGo (str s)).1,(Lib.decodeGo (str s)).2)
theorem dX (Mr:Bk)(r:Int×Int)(h0:bn Mr=some r):bG Tryz.prog 126 [eS Mr] (·=.tuple [.p (eK .i32 r.1),.p (eI r.2)]):=by
 cases h0
 refine bG.of_calls (l:=[.string (str Mr)]) λ w st hok=>(Tryz.utf8_DecodeRuneInString _ w (zb hok.gl)).mono ?_;rintro e w' ⟨rfl,hB⟩;exact ⟨_,rfl,hB,λ _=>zW⟩
def dN (s:Bk):Option Bool:=ck (s.length<=9223372036854775807)<|some (Lib.validD s)
theorem mz (Mr:Bk)(r:Bool)(h0:dN Mr=some r):bG Tryz.prog 204 [eS Mr] (·=.p (eB r)):=by
 obtain ⟨hl,h0⟩:=og h0
 cases h0
 refine bG.of_calls (l:=[.string (str Mr)]) λ w st hok=>(Tryz.utf8_ValidString _ w (by rw [jI]; exact hl) (zb hok.gl)).mono ?_;rintro e w' ⟨rfl,hB⟩;rw [kL];exact ⟨_,rfl,hB,λ _=>.p (.val _)⟩
theorem AF (w:World)(e:TypeId)(t:ByteArray):Below w.heap.size w (Lib.bytesWorld w e t) :=
 ⟨Z,Z,Z,by rw [Lib.bytesWorld_size]; omega,λ k hk=>Lib.bytesWorld_at_old w e t k hk⟩
def jy (s:Bk)(b z:Int):Option (Int×Bool):=ck (b=10/\z=64/\s.length<=281474976710656)<|some (match Lib.parseIntB 64 s with|.ok v=>(v,false)|.range=>(Lib.intSat 64 s,true)|_=>(0,true))
theorem Du {w:World}{g:Gh}{a:Int}{t:TypeId}{v:Value}:ARep w g (.tuple [.p (eI a),.p (eE true)]) (.tuple #[.int .i64 a,.iface t v]):=by
 refine .tuple Z λ i c v h1 h2=>?_
 match i,h1,h2 with
 | 0,h1,h2=>simp at h1 h2; subst h1 h2; exact .p (.val _)
 | 1,h1,h2=>simp at h1 h2; subst h1 h2; exact .p (.ifc _ _)
 | n+2,h1,_=>simp at h1
theorem qz (Mr:Bk)(base_1 bitSize_2:Int)(r:Int×Bool)(h0:jy Mr base_1 bitSize_2=some r):bG Tryz.prog 209 [eS Mr,eI base_1,eI bitSize_2] (·=.tuple [.p (eI r.1),.p (eE r.2)]):=by
 obtain ⟨⟨rfl,rfl,hl⟩,h1⟩:=og h0;have Ul:(str Mr).size<=281474976710656:=by rw [jI]; exact hl
 refine bG.of_calls (l:=[.string (str Mr),.int .i64 10,.int .i64 64]) λ w st hok=>?_
 cases hp:Lib.parseIntB 64 Mr with
 | ok v=>
  rw [hp] at h1; cases h1;refine (Tryz.strconv_ParseInt_10_at64_ok (str Mr) O v (by rw [kL]; exact hp) w).mono ?_;rintro e w' ⟨rfl,h⟩;refine ⟨_,rfl,?_,λ _=>zW⟩;rcases h with rfl|⟨t,rfl⟩
  ·exact uv _
  ·exact AF _ _ _
 | range=>
  rw [hp] at h1; cases h1;obtain ⟨t,v,hv⟩:=zN hok.gl (g:=4) (j:=0) rfl rfl;refine (Tryz.strconv_ParseInt_10_at64_range (str Mr) Ul (by rw [kL]; exact hp) _ w hv (.inr ⟨_,_,rfl⟩)).mono ?_;rintro e w' ⟨N,rfl,_,_,hB⟩;rw [kL];exact ⟨_,rfl,hB,λ _=>Du⟩
 | _=>
  rw [hp] at h1; cases h1;obtain ⟨t,v,hv⟩:=zN hok.gl (g:=3) (j:=0) rfl rfl;refine (Tryz.strconv_ParseInt_10_at64_syntax (str Mr) Ul (by rw [kL]; exact hp) _ w hv (.inr ⟨_,_,rfl⟩)).mono ?_;rintro e w' ⟨N,rfl,_,_,hB⟩;exact ⟨_,rfl,hB,λ _=>Du⟩
end Go.Ab
namespace Go.Ab
open Go.Proofs Go.RowKit Go
def hexDigit (n:Nat):UInt8:=if n<10 then UInt8.ofNat (48+n) else UInt8.ofNat (87+n)
def nX (u:Nat):Bk:=if u<16 then [hexDigit u] else [hexDigit (u / 16),hexDigit (u%16)]
end Go.Ab
namespace Go.Ab
open Go.Proofs Go.RowKit Go
theorem decN (n b0 b1 b2 b3:Nat)(hn:1<=n)(h0:b0<256):1<=(Lib.decodeN n b0 b1 b2 b3).2/\(Lib.decodeN n b0 b1 b2 b3).2<=n/\(Lib.decodeN n b0 b1 b2 b3).2<=4 /\
  ((Lib.decodeN n b0 b1 b2 b3).1<128->(Lib.decodeN n b0 b1 b2 b3).2=1/\(Lib.decodeN n b0 b1 b2 b3).1=b0) /\
  (128<=(Lib.decodeN n b0 b1 b2 b3).1->128<=b0/\(2<=(Lib.decodeN n b0 b1 b2 b3).2->128<=b1)/\(3<=(Lib.decodeN n b0 b1 b2 b3).2->128<=b2)/\(4<=(Lib.decodeN n b0 b1 b2 b3).2->128<=b3)) /\
  ((Lib.decodeN n b0 b1 b2 b3).1<55296\/(57343<(Lib.decodeN n b0 b1 b2 b3).1/\(Lib.decodeN n b0 b1 b2 b3).1<=1114111)):=by
 unfold Lib.decodeN
 repeat' split
 all_goals (refine ⟨by dsimp only; omega,by dsimp only; omega,by dsimp only; omega,λ h=>⟨by dsimp only at h ⊢; first|done|omega,by dsimp only at h ⊢; first|done|omega⟩,λ h=>⟨by dsimp only at h; omega,λ k=>by dsimp only at k; omega,λ k=>by dsimp only at k; omega,λ k=>by dsimp only at k; omega⟩,by dsimp only; omega⟩)
def strings_Contains (s p:Bk):Option Bool:=ck (p.length=1)<|some (decide (0<=Lib.indexByte s (p.getD 0 0)))
theorem qB (Mr substr_1:Bk)(r:Bool)(h0:strings_Contains Mr substr_1=some r):bG Tryz.prog 90 [eS Mr,eS substr_1] (·=.p (eB r)):=by
 obtain ⟨h1,h0⟩:=og h0
 cases h0
 obtain ⟨c,rfl⟩:=List.length_eq_one_iff.1 h1;refine bG.of_calls (l:=[.string (str Mr),.string (str [c])]) λ w st hok=>(Tryz.strings_Contains_one (str Mr) c w).mono ?_;rintro e w' ⟨rfl,rfl⟩;rw [kL];exact xS
end Go.Ab
end
section
namespace Go.Ab
open Go.MapKept
section
variable {C:Cx} {o:Oper} {K:AS->Prop} {sl:List (Nat×AV)} {ob:List (Nat×List AV)} {d:Nat}
theorem Ih {d:Nat}(hd:d<M1):∀ i,Nat.beq i d=true->i<M1:=λ i hi=>by have:=la hi; omega
end
/- As 'dem',for identities of any size; what is known of maps of rows is given up. -/
variable {p:Prop}
theorem Bp (h:p:=by
 simp only [List.getElem?_map,rd] at h1;obtain ⟨c0,h1,rfl⟩:=h1
 exact ih i c0 v h1 h2):p:=h
mutual
def AV.dm2 (D:Nat->Bool):AV->AV|.undef=>.undef|.p x=>.p x|.agg cs=>.agg (FM D cs)|.vec tok sz ty es=>bif D tok then .p (.slice es) else .vec tok sz ty es|.arr id sz off n=>bif D id then .undef else .arr id sz off n|.ptr id off=>bif D id then .undef else .ptr id off|.bptr T sz id=>bif D id then .undef else .bptr T sz id|.rptr cs=>.rptr cs|.tuple cs=>.tuple (FM D cs)|.func f cs=>.func f (FM D cs)|.mp tok kvs=>bif D tok then .undef else .mp tok kvs|.mpr ..=>.undef|.stk tok sz es=>bif D tok then .undef else .stk tok sz es|.sem _=>.undef|.it ..=>.undef|.vecp ..=>.undef|.elp ..=>.undef
def FM (D:Nat->Bool):List AV->List AV|[]=>[]|x::r=>x.dm2 D::FM D r
end
theorem uo (D:Nat->Bool):∀ l,FM D l=l.map (AV.dm2 D)
 | []=>rfl
 | x::r=>by simp [FM,uo D r]
theorem ARep.dm2 {D:Nat->Bool}{w w':World}{g g':Gh}(ev:Ev w g.st w' g'.st)(ow:∀ id b,D id=false->g.ow id=some b->g'.ow id=some b)
  (shape:∀ id b c e,D id=false->g.ow id=some b->w.heap[b]? = some (.cells c e (0,0))->∃ c':Array Value,w'.heap[b]? = some (.cells c' e (0,0))/\c'.size=c.size)
  (tip:∀ id b o,D id=false->g.ow id=some b->g'.st b o->g.st b o)
  (mp:∀ id b es k,D id=false->g.ow id=some b->w.heap[b]? = some (.map es k)->w'.heap[b]? = some (.map es k))
  (stab:∀ id b o,D id=false->g.ow id=some b->g.st b o->w'.heap[b]? = w.heap[b]?) {x:AV} {v:Value} (h:ARep w g x v):ARep w' g' (x.dm2 D) v:=by
 induction h with
 | undef v=>simp only [AV.dm2]; exact .undef _
 | p h=>simp only [AV.dm2]; exact .p (h.mono ev)
 | agg hl h ih=>
  simp only [AV.dm2,uo];refine .agg (by simpa using hl) λ i c v h1 h2=>?_;exact Bp
 | vecn tok sz ty=>
  simp only [AV.dm2]
  cases D tok
  ·exact .vecn _ _ _
  ·exact .p .nils
 | vece tok sz a=>
  simp only [AV.dm2]
  cases D tok
  ·exact .vece _ _ _
  ·exact .p (.nile a)
 | vec how hb Uw Ul Uv hr hty=>
  simp only [AV.dm2]
  cases hD:D _
  ·obtain ⟨c',hb',hs'⟩:=shape _ _ _ _ hD how hb;exact .vec (ow _ _ hD how) hb' (hs'.trans Uw) Ul (λ o=>⟨λ h=>(Uv o).1 (tip _ _ o hD how h),λ h=>(ev _ _ ((Uv o).2 h)).1⟩) (hr.mono ev) hty
  ·exact .p (hr.mono ev)
 | arr how hb Uw hn=>
  simp only [AV.dm2]
  cases hD:D _
  ·obtain ⟨c',hb',hs'⟩:=shape _ _ _ _ hD how hb;exact .arr (ow _ _ hD how) hb' (hs'.trans Uw) hn
  ·exact gZ
 | ptr how=>
  simp only [AV.dm2]
  cases hD:D _
  ·exact .ptr (ow _ _ hD how)
  ·exact gZ
 | bptrn how hb Uw=>
  simp only [AV.dm2]
  cases hD:D _
  ·obtain ⟨c',hb',hs'⟩:=shape _ _ _ _ hD how hb;exact .bptrn (ow _ _ hD how) hb' (hs'.trans Uw)
  ·exact gZ
 | bptr how hb Uw=>
  simp only [AV.dm2]
  cases hD:D _
  ·obtain ⟨c',hb',hs'⟩:=shape _ _ _ _ hD how hb;exact .bptr (ow _ _ hD how) hb' (hs'.trans Uw)
  ·exact gZ
 | rptr cf hc hr=>
  simp only [AV.dm2];exact .rptr cf (λ j c h=>⟨(ev _ _ (hc j c h).1).1,(ev _ _ (hc j c h).1).2.trans (hc j c h).2⟩) (λ j c h=>(hr j c h).mono ev)
 | tuple hl h ih=>
  simp only [AV.dm2,uo];refine .tuple (by simpa using hl) λ i c v h1 h2=>?_;exact Bp
 | func hl h ih=>
  simp only [AV.dm2,uo];refine .func (by simpa using hl) λ i c v h1 h2=>?_;exact Bp
 | mp how hb hn hd hk hv=>
  simp only [AV.dm2]
  cases hD:D _
  ·exact .mp (ow _ _ hD how) (mp _ _ _ _ hD how hb) hn hd hk (λ i e kv h1 h2=>(hv i e kv h1 h2).mono ev)
  ·exact gZ
 | mpr=>simp only [AV.dm2]; exact .undef _
 | stkn tok sz=>
  simp only [AV.dm2]
  cases D tok
  ·exact .stkn _ _
  ·exact gZ
 | stke tok sz a=>
  simp only [AV.dm2]
  cases D tok
  ·exact .stke _ _ _
  ·exact gZ
 | stk how hb Uw M' Ul UD Uv hr=>
  simp only [AV.dm2]
  cases hD:D _
  ·exact .stk (ow _ _ hD how) ((stab _ _ _ hD how ((Uv _).2 rfl)).trans hb) Uw M' Ul UD (λ o=>⟨λ h=>(Uv o).1 (tip _ _ o hD how h),λ h=>(ev _ _ ((Uv o).2 h)).1⟩) (λ i x j p h1 h2=>by obtain ⟨v,h3,h4⟩:=hr i x j p h1 h2; exact ⟨v,h3,h4.mono ev⟩)
  ·exact gZ
 | sem=>simp only [AV.dm2]; exact .undef _
 | it=>simp only [AV.dm2]; exact .undef _
 | vecp=>simp only [AV.dm2]; exact .undef _
 | elp=>simp only [AV.dm2]; exact .undef _
def T0 (e t:Nat)(i:Nat):Bool:=Nat.beq i e||Nat.beq i t||Nat.ble MZ i
def tkA (tok e:Nat)(y x:AV):AV:=match x with
 | .mpr t _ _ _ _=>bif Nat.beq t tok then y else .undef
 | x=>x.dm2 (T0 e tok)
def tkS (tok e:Nat)(y:AV):List (Nat×AV)->Option (List (Nat×AV))
 | []=>some []
 | (i,x)::r=>(match frc (tkA tok e y x) with
  | some z=>(match tkS tok e y r with|some l=>some ((i,z)::l)|none=>none)
  | none=>none)
end Go.Ab
end
section
namespace Go.Ab
theorem OS (D:Nat->Bool):∀ (l:List PV),dmC D (l.map .p)=some (l.map .p)
 | []=>rfl
 | x::r=>by
  have h:=OS D r;simp only [dg,dmC,AV.dem,h]
  first|rfl|(simp [frc])
theorem MA {D:Nat->Bool}{i:Nat}{l:List PV}{r r':List (Nat×List AV)}(h:D i=false)(hr:dmO D r=some r'):dmO D ((i,l.map .p)::r)=some ((i,l.map .p)::r'):=by
 simp only [dmO,h,OS,hr]
theorem Jg {D:Nat->Bool}{i:Nat}{cs:List AV}{r r':List (Nat×List AV)}(h:D i=true)(hr:dmO D r=some r'):dmO D ((i,cs)::r)=some r':=by
 simp only [dmO,h,hr]
theorem M5 {D:Nat->Bool}{i:Nat}{cs ds:List AV}{r r':List (Nat×List AV)}(h:D i=false)(hc:dmC D cs=some ds)(hr:dmO D r=some r'):dmO D ((i,cs)::r)=some ((i,ds)::r'):=by
 simp only [dmO,h,hc,hr]
end Go.Ab
end
