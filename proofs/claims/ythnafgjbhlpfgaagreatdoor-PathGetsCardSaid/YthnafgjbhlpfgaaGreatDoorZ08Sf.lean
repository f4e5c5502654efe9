/- Texts of the proof, one behind the other. No statement is proved here. -/
import Derived.Test.YthnafgjbhlpfgaaGreatDoorZ08Sa
import Derived.Test.YthnafgjbhlpfgaaGreatDoorZ08Sb
import Derived.Test.YthnafgjbhlpfgaaGreatDoorZ08Sc
import Derived.Test.YthnafgjbhlpfgaaGreatDoorZ08Sd
import Derived.Test.YthnafgjbhlpfgaaGreatDoorZ08Se
section
namespace Go.Ab.R06
open Go.Ab Go.Ab.RB Go.Lib
mutual
theorem pq:∀ (v:aa) (lv c:Nat),(gn v lv c).1=0->(gn v lv c).2=c+bZ v
 | .mk k x s l ks,lv,c,h=>by
  simp only [gn] at h ⊢;split
  ·rename_i q; rw [if_pos q] at h; cases h
  ·rename_i q1; rw [if_neg q1] at h;split
   ·rename_i q; rw [if_pos q] at h; cases h
   ·rename_i q2; rw [if_neg q2] at h;split
    ·rename_i q; rw [if_pos q] at h; exact absurd h q
    ·rename_i q3; rw [if_neg q3] at h;rw [pn l _ _ h,bZ]; omega
theorem pn:∀ (l:List aa) (lv c:Nat),(gV l lv c).1=0->(gV l lv c).2=c+bw l
 | [],lv,c,h=>by simp only [gV,bw]; omega
 | x::r,lv,c,h=>by
  simp only [gV] at h ⊢;split
  ·rename_i q; rw [if_pos q] at h; exact absurd h q
  ·rename_i q; rw [if_neg q] at h;rw [pn r _ _ h,pq x lv c (by simpa using q),bw]; omega
end
theorem oX:∀ {l:List aa} {lv c:Nat} {x:aa},(gV l lv c).1=0->x∈l->∃ c',(gn x lv c').1=0
 | [],lv,c,x,_,hx=>by cases hx
 | y::r,lv,c,x,h,hx=>by
  simp only [gV] at h;split at h
  ·rename_i q; exact absurd h q
  ·rename_i q;rcases ro.1 hx with rfl|hx
   ·exact ⟨c,by simpa using q⟩
   ·exact oX h hx
theorem rb {v:aa}{lv c:Nat}(h:(gn v lv c).1=0):lv<=32/\c<4096/\iA v=0/\(gV v.Ar (lv+1) (c+1)).1=0:=by
 rw [oG] at h;split at h
 ·cases h
 ·split at h
  ·cases h
  ·split at h
   ·rename_i q; exact absurd h q
   ·rename_i q1 q2 q3; exact ⟨by omega,by omega,by simpa using q3,h⟩
theorem B6 {v:aa}(hb:aa.Bd v):∀ (lv c:Nat),(gn v lv c).1=0->GV v:=by
 have hb0:=hb
 induction hb with
 | @mk x bKind bNum bStr bItems eItems bKeys eKeys ih=>
  intro lv c h;obtain ⟨_,_,h1,h2⟩:=rb h;exact .mk (wL hb0 h1) λ y hy=>by obtain ⟨c',h3⟩:=oX h2 hy; exact ih y hy (eItems y hy) _ c' h3
theorem u7 {v:aa}(hb:aa.Bd v)(h:(gn v 1 0).1=0):VV v :=
 ⟨B6 hb 1 0 h,hb,by have h1:=pq v 1 0 h; have h2:=mz v 1 0 O; omega⟩
theorem mZ {α:Type}{p:α->α->Bool}:∀ {l:List α},(∀ x∈l,p x x=true)->bK p l l=true
 | [],_=>rfl
 | x::r,h=>by simp only [bK,h x G,Bool.true_and]; exact mZ λ y hy=>h y (List.mem_cons_of_mem _ hy)
theorem lc {v:aa}(hb:aa.Bd v):eqV v v=true:=by
 induction hb with
 | @mk x bKind bNum bStr bItems eItems bKeys eKeys ih=>
  rw [rA,mZ (λ k _=>by simp [eqS]),mZ ih];simp [eqS]
def pb:List Bk->List aa->Bk->Option aa|k::ks,x::xs,q=>if k=q then some x else pb ks xs q|_,_,_=>none
theorem qE:∀ (ks:List Bk) (xs:List aa) (q:Bk),q ∉ ks->pb ks xs q=none
 | [],xs,q,h=>by cases xs <;> rfl
 | _::_,[],q,h=>rfl
 | k::ks,x::xs,q,h=>by
  simp only [pb];rw [if_neg (λ e=>h (by rw [e]; exact List.mem_cons_self))];exact qE ks xs q (λ m=>h (List.mem_cons_of_mem _ m))
theorem vR:∀ (ks:List Bk) (xs:List aa),ks.Pairwise (λ a b=>Op.bytesLess a b=true)->ks.length=xs.length->∀ (t:Nat) (ht:t<ks.length),pb ks xs ks[t]=xs[t]?
 | [],_,_,_,t,ht=>by simp at ht
 | _::_,[],_,h,_,_=>by simp at h
 | k::ks,x::xs,hp,hl,0,ht=>by simp [pb]
 | k::ks,x::xs,hp,hl,t+1,ht=>by
  have hp2:=List.pairwise_cons.1 hp;have ht2:t<ks.length:=by simpa using ht
  have CQ:¬ k=ks[t]:=λ e=>by
   have:=hp2.1 ks[t] (List.getElem_mem ht2);rw [<- e,jk] at this; cases this
  simp only [List.getElem_cons_succ,pb,if_neg CQ,List.getElem?_cons_succ];exact vR ks xs hp2.2 (by simpa using hl) t ht2
theorem pf:∀ (k:Nat) (ks:List Bk) (xs:List aa) (q:Bk) (x:aa) (p:Bk),q ∉ ks->k<=ks.length->ks.length=xs.length->pb (eF ks k q) (eF xs k x) p=if p=q then some x else pb ks xs p
 | 0,ks,xs,q,x,p,hq,hk,hl=>by
  have e:∀ {α:Type} (l:List α) (y:α),eF l 0 y=y::l:=λ l y=>rfl;rw [e,e];simp only [pb];by_cases h:q=p
  ·subst h; simp
  ·rw [if_neg h,if_neg (λ e=>h e.symm)]
 | k+1,[],xs,q,x,p,hq,hk,hl=>by simp at hk
 | k+1,y::ks,[],q,x,p,hq,hk,hl=>by simp at hl
 | k+1,y::ks,z::xs,q,x,p,hq,hk,hl=>by
  have e:∀ {α:Type} (a:α) (l:List α) (y:α),eF (a::l) (k+1) y=a::eF l k y:=λ a l y=>rfl;rw [e,e];simp only [pb];have CQ:¬ y=q:=λ e=>hq (by rw [e]; exact List.mem_cons_self);rw [pf k ks xs q x p (λ m=>hq (List.mem_cons_of_mem _ m)) (by simpa using hk) (by simpa using hl)];by_cases h:y=p
  ·rw [if_pos h,if_pos h,if_neg (λ e=>CQ (h.trans e))]
  ·rw [if_neg h,if_neg h]
theorem mr {l:List Bk}(h:Inc l)(q:Bk):lY l q↔q∈l:=by
 constructor
 ·rintro ⟨h1,h2⟩;rw [<- h2]; exact Go.Ab.dU O
 ·intro hq;obtain ⟨t,ht,rfl⟩:=List.getElem_of_mem hq;have e:=A1 h ht;exact ⟨by rw [e]; exact ht,by rw [e]; exact cY _ _ ht⟩
theorem pZ {v:aa}(hv:jz v)(h5:v.AT=5){s:ac}(hi:s.Cu=false)(p:List ac) :
  dm (s::p) v=match pb v.AI v.Ar s.BY with|some y=>dm p y|none=>(iV,16):=by
 have hl:=hv.len h5;simp only [dm];rw [mJ O hi h5];by_cases hh:lY v.AI s.BY
 ·rw [if_pos hh,if_pos rfl];have h1:=hh.1;have e:=vR v.AI v.Ar (nc hv.inc) hl (pK v.AI s.BY) h1;rw [<- cY _ _ h1,hh.2,List.getElem?_eq_getElem O] at e;rw [e];simp only;rw [cY _ _ O]
 ·rw [if_neg hh,if_neg (by decide),qE _ _ _ (λ q=>hh ((mr hv.inc _).2 q))]
theorem oo (k n:Int)(s:Bk)(l:List aa)(ks:List Bk):(aa.mk k n s l ks).AT=k:=rfl
theorem ek (k n:Int)(s:Bk)(l:List aa)(ks:List Bk):(aa.mk k n s l ks).Ar=l:=rfl
theorem oH (k n:Int)(s:Bk)(l:List aa)(ks:List Bk):(aa.mk k n s l ks).AI=ks:=rfl
theorem nu (v:aa)(l:List aa)(hl:l.length=v.Ar.length)(s:ac):dM (aa.mk v.AT v.A' v.By l v.AI) s=dM v s:=by
 simp only [dM,oo,ek,oH,hl]; rfl
theorem y8 {v:aa}{s t:ac}(hs:gd s)(ht:gd t){i:Int}(h1:dM v s=(i,0))(h2:dM v t=(i,0)):s=t:=by
 by_cases h6:v.AT=6
 ·rw [sD h6] at h1; cases h1
 refine (vp s t).1 ?_
 cases a:s.Cu <;> cases b:t.Cu
 ·by_cases h5:v.AT=5
  ·rw [mJ h6 a h5] at h1;rw [mJ h6 b h5] at h2;split at h1
   ·split at h2
    ·rename_i q1 q2
     injection h1 with e1 _
     injection h2 with e2 _
     refine ⟨Z,by rw [(hs.nm a).1,(ht.nm b).1],?_⟩;rw [<- q1.2,<- q2.2,e1,e2]
    ·cases h2
   ·cases h1
  ·rw [lm h6 a h5] at h1; cases h1
 ·by_cases h5:v.AT=5
  ·rw [kb h6 b O] at h2; cases h2
  ·rw [lm h6 a h5] at h1; cases h1
 ·by_cases h5:v.AT=5
  ·rw [kb h6 a O] at h1; cases h1
  ·rw [lm h6 b h5] at h2; cases h2
 ·by_cases h4:v.AT=4
  ·rw [su h6 a h4] at h1;rw [su h6 b h4] at h2;split at h1
   ·cases h1
   ·split at h2
    ·cases h2
    ·injection h1 with e1 _
     injection h2 with e2 _
     exact ⟨Z,by rw [e1,e2],by rw [hs.ix a,ht.ix b]⟩
  ·rw [kb h6 a h4] at h1; cases h1
theorem pQ {x v w:aa}{s:ac}{p:List ac}(hv:jz v)(hs:gd s)(h:gg x (s::p) v=(w,0)) :
  (p=[]/\s.Cu=false/\v.AT=5/\¬ lY v.AI s.BY/\w=qB v s.BY x) \/
  ∃ (i:Nat) (y:aa),dM v s=((i:Int),0)/\i<v.Ar.length/\gg x p (lat v.Ar (i:Int))=(y,0)/\w=aa.mk v.AT v.A' v.By (v.Ar.set i y) v.AI:=by
 simp only [gg] at h;split at h
 ·rename_i hc;obtain ⟨a,b⟩:=rB hc.1 hc.2.2
  cases h
  exact .inl ⟨List.length_eq_zero_iff.1 hc.2.1,hc.2.2,a,b,Z⟩
 ·split at h
  ·rename_i h0; injection h with _ h; exact absurd h h0
  ·rename_i h0;obtain ⟨i,e,hi⟩:=iJ hv hs.num.1 (by simpa using h0);rw [e] at h;simp only at h;split at h
   ·rename_i h1; injection h with _ h; exact absurd h h1
   ·rename_i h1
    injection h with h _
    refine .inr ⟨i,(gg x p (lat v.Ar (i:Int))).1,e,hi,?_,?_⟩
    ·exact Prod.ext Z (by simpa using h1)
    ·rw [<- h,Int.toNat_natCast]
theorem pD {v x:aa}{q:Bk}(h:¬ lY v.AI q):qB v q x=aa.mk v.AT v.A' v.By (eF v.Ar (pK v.AI q) x) (eF v.AI (pK v.AI q) q):=by
 unfold qB; rw [if_neg h]
theorem wq {l:List aa}{i j:Nat}(hi:i<l.length)(hj:j<l.length)(y:aa):lat (l.set i y) (j:Int)=if i=j then y else lat l (j:Int):=by
 rw [cY _ _ (by rw [List.length_set]; exact hj),List.getElem_set,cY _ _ hj]
theorem ww {x:aa}:∀ (p:List ac) (v w:aa),GV v->GV w->(∀ s∈p,gd s)->gg x p v=(w,0)->dm p w=(x,0)
 | [],v,w,hv,hw,hs,h=>by
  simp only [gg] at h
  cases h
  rfl
 | s::p,v,w,hv,hw,hs,h=>by
  have hn:=hv.node;have hs0:=hs s G;rcases pQ hn hs0 h with ⟨rfl,hi,h5,hh,rfl⟩|⟨i,y,e,hi,hy,rfl⟩
  ·have hl:=hn.len h5;have hle:=pB v.AI s.BY;have hn2:=hw.node;rw [pD hh] at hn2 ⊢;rw [pZ hn2 h5 hi];simp only [oH,ek];have:=pf (pK v.AI s.BY) v.AI v.Ar s.BY x s.BY (λ q=>hh ((mr hn.inc _).2 q)) hle hl;rw [if_pos Z] at this;rw [this]
   rfl
  ·simp only [dm];rw [nu _ _ (by rw [List.length_set]),e,if_pos rfl];simp only [ek];rw [wq hi hi,if_pos rfl];refine ww p _ _ (hv.its _ (Go.Ab.dU O)) (hw.its _ ?_) (λ t ht=>hs t (List.mem_cons_of_mem _ ht)) hy;exact List.mem_iff_getElem.2 ⟨i,by simp only [ek,List.length_set]; exact hi,by simp [ek]⟩
theorem pI {x:aa}:∀ (p q:List ac) (v w:aa),GV v->GV w->(∀ s∈p,gd s)->(∀ s∈q,gd s)->gg x p v=(w,0)->¬ p <+: q->¬ q <+: p->dm q v=dm q w
 | [],q,v,w,_,_,_,_,_,h1,_=>absurd (List.nil_prefix) h1
 | s::p,[],v,w,_,_,_,_,_,_,h2=>absurd (List.nil_prefix) h2
 | s::p,t::q,v,w,hv,hw,hs,ht,h,h1,h2=>by
  have hn:=hv.node;have hs0:=hs s G;have ht0:=ht t G;rcases pQ hn hs0 h with ⟨rfl,hi,h5,hh,rfl⟩|⟨i,y,e,hi,hy,rfl⟩
  ·have hl:=hn.len h5;have hle:=pB v.AI s.BY;have hn2:=hw.node;rw [pD hh] at hn2 ⊢
   cases hti:t.Cu
   ·have CQ:t.BY≠s.BY:=λ e=>h1 (by
     have:s=t:=(vp s t).1 ⟨hi.trans hti.symm,by rw [(hs0.nm hi).1,(ht0.nm hti).1],e.symm⟩
     rw [this]; exact List.prefix_cons_inj t |>.2 List.nil_prefix)
    rw [pZ hn h5 hti,pZ hn2 h5 hti];simp only [oH,ek];rw [pf (pK v.AI s.BY) v.AI v.Ar s.BY x t.BY (λ q=>hh ((mr hn.inc _).2 q)) hle hl,if_neg CQ]
   ·simp only [dm];rw [kb O hti O,kb (by rw [oo]; omega) hti (by rw [oo]; omega)];rw [if_neg (by decide),if_neg (by decide)]
  ·simp only [dm];rw [nu _ _ (by rw [List.length_set])];by_cases h0:(dM v t).2=0
   ·obtain ⟨j,e2,hj⟩:=iJ hn ht0.num.1 h0;rw [e2,if_pos rfl,if_pos rfl];simp only [ek];rw [wq hi hj];by_cases hij:i=j
    ·subst hij;have CN:=y8 hs0 ht0 e e2;subst CN;rw [if_pos rfl];refine pI p q _ _ (hv.its _ (Go.Ab.dU O)) (hw.its _ ?_) (λ t ht=>hs t (List.mem_cons_of_mem _ ht)) (λ s hs=>ht s (List.mem_cons_of_mem _ hs)) hy (λ k=>h1 ((List.prefix_cons_inj s).2 k)) (λ k=>h2 ((List.prefix_cons_inj s).2 k));exact List.mem_iff_getElem.2 ⟨i,by simp only [ek,List.length_set]; exact hi,by simp [ek]⟩
    ·rw [if_neg hij]
   ·rw [if_neg h0,if_neg h0]
theorem zT (a b:List ac)(ha:a.length<=1000000000000000):Ev2 (λ n _=>fg n a b) (·=decide (a=b)):=by
 by_cases h:a=b
 ·subst h;rw [decide_eq_true rfl];exact xe a ha
 ·refine fI (xY a b ha) (λ r hr=>?_);rw [decide_eq_false h]
  cases r with
  | false=>rfl
  | true=>exact absurd (hr Z) h
theorem ln (p q:List ac)(hp:p.length<=1000000)(hq:q.length<=1000000):Ev2 (λ n _=>d6 n p q) (·=decide (q <+: p)):=by
 simp only [d6];refine ay (decide (q <+: p)) (aw (λ h=>ax O ?_) (λ h=>ai ?_)) (ai rfl)
 ·refine ay _ (zT _ _ (by rw [show sub p 0 (q.length:Int)=(p.take q.length).drop 0 from rfl,List.drop_zero,sm]; omega)) (ai ?_);rw [show sub p 0 (q.length:Int)=(p.take q.length).drop 0 from rfl,List.drop_zero];refine decide_eq_decide.2 ?_;rw [List.prefix_iff_eq_take];exact ⟨λ e=>e.symm,λ e=>e.symm⟩
 ·exact (decide_eq_false (λ k=>h (by have:=k.length_le; omega))).symm
theorem uI {v x:aa}{p q:List ac}(hv:aa.Bd v)(hx:aa.Bd x)(hp:p.length<=1000000000000000)(hq:q.length<=1000000000000000)(hp2:∀ s∈p,s.BY.length<=1000000000000000)(hq2:∀ s∈q,s.BY.length<=1000000000000000) :
  Ev2 (λ n _=>fG n v p x q) (·=true):=by
 simp only [fG];refine bI (λ t=>t=false->VV v/\(p.length<=32/\∀ s∈p,gd s)/\(q.length<=32/\∀ s∈q,gd s)) ?_ (λ t ht=>?_)
 ·refine bI _ (ul hv) (λ r hr=>aw (λ _=>ai (λ k=>by cases k)) (λ h=>?_));obtain ⟨g,hn⟩:=hr (by simpa using h);refine bI _ (ul hx) (λ r2 hr2=>aw (λ _=>ai (λ k=>by cases k)) (λ h2=>?_));refine bI _ (pr p hp hp2) (λ b hb=>aw (λ _=>ai (λ k=>by cases k)) (λ h3=>?_));refine bI _ (pr q hq hq2) (λ b2 hb2=>aw (λ _=>ai (λ k=>by cases k)) (λ h4=>?_));have s1:=hb (by simpa using h3); have s2:=hb2 (by simpa using h4);refine ay _ (mU p (λ s hs=>by have:=s1 s hs; omega)) (aw (λ h5=>?_) (λ _=>ai (λ k=>by cases k)));refine ay _ (mU q (λ s hs=>by have:=s2 s hs; omega)) (ai (λ h6=>?_));exact ⟨⟨g,hv,by omega⟩,oY.1 h5,oY.1 (by simpa using h6)⟩
 ·refine aw (λ _=>ay _ ik (ai rfl)) (λ h=>?_);obtain ⟨vv,⟨pl,ps⟩,⟨ql,qs⟩⟩:=ht (by simpa using h);refine ay _ (sB vv hx ps pl) (aw (λ h0=>?_) (λ _=>ay _ ik (ai rfl)))
  obtain ⟨w,e1,e2,e3⟩:∃ w,gg x p v=(w,0)/\(gn w 1 0).1=0/\(qA v p x).1=w:=by
   unfold qA at h0 ⊢;split at h0
   ·rename_i k; exact absurd h0 k
   ·rename_i k;split at h0
    ·rename_i k2; exact absurd h0 k2
    ·rename_i k2;refine ⟨(gg x p v).1,Prod.ext rfl (by simpa using k),by simpa using k2,?_⟩;rw [if_neg k,if_neg k2]
  have wb:aa.Bd w:=by have:=mu hx p v vv ps; rw [e1] at this; exact this
  have wv:=u7 wb e2;rw [e3];refine ay _ (l6 wv ps O) ?_;rw [ww p v w vv.g wv.g ps e1];refine ay false (aI rfl (ay _ (kd hx x) (ai (by rw [lc hx]; rfl)))) (aE (by decide) ?_);refine bI (λ t=>t=false->¬ p <+: q/\¬ q <+: p) (ay _ (ln p q O O) (aw (λ _=>ai (λ k=>by cases k)) (λ h1=>ay _ (ln q p O O) (ai (λ h2=>⟨by simpa using h2,by simpa using h1⟩))))) (λ t ht=>?_);refine aw (λ _=>ay _ ik (ai rfl)) (λ h2=>?_);obtain ⟨n1,n2⟩:=ht (by simpa using h2);have e:=pI p q v w vv.g wv.g ps qs e1 n1 n2;refine ay _ (l6 vv qs O) (ay _ (l6 wv qs O) ?_);rw [<- e]
  have gb:aa.Bd (dm q v).1:=by
   by_cases k:(dm q v).2=0
   ·exact (uf qs vv k).b
   ·have:∀ (q:List ac) (v:aa),(dm q v).2≠0->(dm q v).1=iV:=by
     intro q
     induction q with
     | nil=>intro v h; exact absurd rfl h
     | cons s q ih=>
      intro v h;simp only [dm] at h ⊢;split
      ·rename_i k; rw [if_pos k] at h; exact ih _ h
      ·rfl
    rw [this q v k]; exact lh
  exact ay true (aI Z (ay _ (kd gb _) (aI (lc gb) (ay _ ik (ai Z))))) (ai Z)
end Go.Ab.R06
end
section
namespace Go.Ab.R06
open Go.Proofs Go.Ab Go.Ab.RB
theorem ia {n:Nat}{a:PV}(h1:WTf tt n 33 a.cells)(h2:a=mkE (((look tt 33).map (·.k.isAgg)).getD false) a.cells):∃ v:aa,a=.agg (aa.cs v)/\aa.Bd v:=by
 obtain ⟨v,e,b⟩:=aa.dec n _ h1;exact ⟨v,yT e h2,b⟩
end Go.Ab.R06
end
