/- Texts of the proof, one behind the other. No statement is proved here. -/
import Derived.Lib.AppendZeros
import Derived.Test.YtgdcfenbmcflkaaGreatDoorZ42Fa
import Derived.Test.YtgdcfenbmcflkaaGreatDoorZ42Fb
import Derived.Test.YtgdcfenbmcflkaaGreatDoorZ42Fc
set_option maxHeartbeats 4000000
section
namespace Go.Ab
section
variable {C:Cx} {o:Oper} {K:AS→Prop} {sl:List (Nat×AV)} {ob:List (Nat×List AV)} {d:Nat}
theorem wZ {es ys:List PV}{t tx e e':TypeId}{i ie j:TI}{y:Operand}{Y0z:AV}{k:Nat}(D:Nat→Bool)(hDl:∀ i,D i=true→i < M1)(hDk:D k=true)
  (hi:look C.tt t=some i) (hik:i.k=.slice e) (hie:look C.tt e=some ie) (hj:look C.tt tx=some j) (hjk:j.k=.slice e')
  (hy:evo sl y=some Y0z) (hY:Y0z.elems? = some ys) (hsz:∀ y∈es++ys,y.cells=[y]∧y.one=true) (h1s:ie.size=1) (hzl:ie.zero.length=ie.size)
  (hlen:(es.length+ys.length)*ie.bytes≤140737488355328) (hlen':es.length+ys.length≤9223372036854775807)
  {g:Gh} {a:Act} {w:World} (hs:St C.n C.w0 C.F g ⟨sl,ob⟩ a w) (base:Option Addr) (cap:Nat) (olds:List Value)
  (hold:(Builtin.firstCells ie.size es.length (.slice base es.length cap)).run C.P w.drew=.ok olds.toArray w.drew) (hol:olds.length=es.length)
  (hoc:∀ (i:Nat) x,es[i]? = some x→∃ u,olds[i]? = some u∧PRep w g.st x u)
  (hg:cap < es.length+ys.length) (ty:TypeId) (hn:Nat.blt d C.n=true) :
  ∃ v w' g',(Builtin.append_ #[t,tx] ty #[.slice base es.length cap,a.eval y]).run C.P w=.ok v w' ∧
   St C.n C.w0 C.F g' ⟨(d,.stk k 1 (es++ys))::(ct D ⟨sl,ob⟩).sl,(ct D ⟨sl,ob⟩).ob⟩ (a.put (some d) v) w':=by
 obtain ⟨u,h1,h2⟩:=bc C.good hi
 have h3:=bn (h2.trans hik)
 subst h3
 obtain ⟨u',h1',h2'⟩:=bc C.good hj
 have h3':=bn (h2'.trans hjk)
 subst h3'
 obtain ⟨info,hf1,hf2,hf3,z,hf4,hf5⟩:=fR C.good hie
 have hyv:=fp hY (bq hs hy)
 have hszy:∀ y∈ys,y.cells=[y]:=λ y hy=>(hsz y (List.mem_append_right _ hy)).1
 obtain ⟨news,hsrc,hnews⟩:=pd (P:=C.P) (sz:=ie.size) h1' hyv (λ y hy=>by rw [hszy y hy,h1s]; rfl) O
 have hfit:=growslice_fits (bytes:=ie.bytes) hg hlen
 have hrun:=run_append_grow_src w t tx ty e info z h1 hf1 hf4 base es.length cap olds (by rw [hf2]; exact hold) (a.eval y) ys.length news (by rw [hf2]; exact hsrc) hg O (by rw [hf3]; exact hfit)
 obtain ⟨q,hq⟩:∃ q,q=grownCap w (es.length+ys.length) cap e:=⟨_,rfl⟩
 rw [← hq] at hrun
 have hqn:es.length+ys.length≤q:=by
  rw [hq]; unfold grownCap; simp only [Question.cut]; omega
 have hzs:z.cells.size=1:=by rw [← h1s,← hzl,← hf5,Array.length_toList]
 have hnl:news.length=ys.length:=by rw [hsrc.newsLen,h1s,Nat.mul_one]
 obtain ⟨c,hc⟩:∃ c,c=(olds++news).toArray++Builtin.zeroCells z.cells (q - (es.length+ys.length)):=⟨_,rfl⟩
 rw [← hc] at hrun
 have hcs:c.size=q:=by
  rw [hc]
  simp only [Array.size_append,List.size_toArray,List.length_append,hol,hnl,size_zeroCells,hzs]
  omega
 have hf:=hs.drew.fresh D hDl k hDk (λ o=>o=q*1) c e
 have hev:=j2 (w:=w.drew) (T:=λ o=>o=q*1) (ob:=.cells c e) hs.drew.lt
 have hlenA:(es++ys).length=es.length+ys.length:=List.length_append
 have hrep:ARep (w.drew.alloc (.cells c e)) ⟨λ b o=>g.st b o∨(b=w.drew.heap.size∧o=q*1),λ i=>if i=k then some w.drew.heap.size else if D i then none else g.ow i⟩ (.stk k 1 (es++ys)) (.slice (some ⟨w.drew.heap.size,0,none⟩) (es++ys).length q):=by
  refine .stk G cK O O  (λ x hx=>by rw [(hsz x hx).1]; rfl) (λ x hx c hc=>by rw [(hsz x hx).1] at hc; obtain rfl:=List.mem_singleton.1 hc; exact (hsz c hx).2) (λ o=>?_) (λ i x j p hx hp=>?_)
  ·constructor
   ·rintro (h | ⟨_,h⟩)
    ·exact absurd (hs.lt _ _ h) (Nat.lt_irrefl _)
    ·exact h
   ·intro h; exact .inr ⟨rfl,h⟩
  ·rw [(hsz x (List.mem_of_getElem? hx)).1] at hp
   have hj:j=0:=by
    have:=(List.getElem?_eq_some_iff.1 hp).1
    simpa using this
   subst hj
   simp only [List.getElem?_cons_zero,Option.some.injEq] at hp
   subst hp
   have hil:i < (es++ys).length:=(List.getElem?_eq_some_iff.1 hx).1
   have hget:c[i]? = if i < es.length then olds[i]? else news[i - es.length]?:=by
    rw [hc,Array.getElem?_append]
    simp only [List.size_toArray,List.length_append,hol,hnl]
    rw [if_pos O,List.getElem?_toArray,List.getElem?_append,hol]
   rw [Nat.mul_one,Nat.add_zero]
   rw [List.getElem?_append] at hx
   split at hx
   ·rename_i hlt
    obtain ⟨u,hu,hr⟩:=hoc i x hx
    exact ⟨u,by rw [hget,if_pos hlt]; exact hu,(PRep.mono (w:=w) (w':=w.drew) (st:=g.st) (st':=g.st) (λ b o h=>⟨h,Z⟩) hr).mono hev⟩
   ·rename_i hge
    obtain ⟨k1,u,hu,hr⟩:=hnews (i - es.length) x 0 x hx (by rw [hszy x (List.mem_of_getElem? hx)]; rfl)
    rw [h1s,Nat.mul_one,Nat.add_zero] at hu
    exact ⟨u,by rw [hget,if_neg hge]; exact hu,(PRep.mono (w:=w) (w':=w.drew) (st:=g.st) (st':=g.st) (λ b o h=>⟨h,Z⟩) hr).mono hev⟩
 rw [hlenA] at hrep
 have hp:=hf.put (d:=some d) (λ t ht=>by cases ht; exact Nat.blt_eq ▸ hn) hrep
 exact ⟨_,_,_,hrun,hp⟩
theorem xS {t tx e e':TypeId}{x y:Operand}{k:Nat}{es:List PV}{Y0z:AV}{ys:List PV}{i ie j:TI}(ho:o.op=.call { callee:=.builtin .append,args:=#[x,y],argTypes:=#[t,tx] })(hd:o.dst=some d)(hn:Nat.blt d C.n=true)
  (hi:look C.tt t=some i) (hik:i.k=.slice e) (hie:look C.tt e=some ie) (hj:look C.tt tx=some j) (hjk:j.k=.slice e') (hx:evo sl x=some (.stk k 1 es)) (hk:Nat.blt k M1=true)
  (hy:evo sl y=some Y0z) (hY:Y0z.elems? = some ys) (hsz:∀ y∈es++ys,y.cells=[y]∧y.one=true) (hys:0 < ys.length) (h1s:ie.size=1) (hzl:Nat.beq ie.zero.length ie.size=true)
  (hlen:(es.length+ys.length)*ie.bytes≤140737488355328) (hlen':es.length+ys.length≤9223372036854775807)
  (hK:K ⟨(d,.stk k 1 (es++ys))::(ct (λ i=>Nat.beq i k) ⟨sl,ob⟩).sl,(ct (λ i=>Nat.beq i k) ⟨sl,ob⟩).ob⟩):aW C o K ⟨sl,ob⟩:=by
 have hzl':=Nat.eq_of_beq_eq_true hzl
 have hk':k < M1:=Nat.blt_eq ▸ hk
 have hDl:∀ i,(Nat.beq i k)=true→i < M1:=by
  intro i hi
  have:=Nat.eq_of_beq_eq_true hi; omega
 intro g a w hs
 have hxr:=bq hs hx
 generalize hxv:a.eval x=xv at hxr
 have hrun0:∀ v w',(Builtin.append_ #[t,tx] o.type #[xv,a.eval y]).run C.P w=.ok v w'→(execOp a.eval o).run C.P w=.ok (.value v) w':=by
  intro v w' h
  rw [d9 ho]
  simp [builtin,hxv,h]
 cases hxr with
 | stkn =>
  obtain ⟨v,w',g',hr',hst'⟩:=wZ (es:=[]) (k:=k) (λ i=>Nat.beq i k) hDl G hi hik hie hj hjk hy hY hsz h1s hzl' hlen hlen' hs none 0 [] (run_firstCells_none w.drew ie.size 0 0 0) rfl (λ i x hx=>by simp at hx) (by simpa using hys) o.type hn
  unfold Oper.wp
  rw [hrun0 _ _ hr']
  simp only [Oper.upon,hd]
  exact ⟨g',_,hst',hK⟩
 | stke =>
  rename_i a0
  obtain ⟨v,w',g',hr',hst'⟩:=wZ (es:=[]) (k:=k) (λ i=>Nat.beq i k) hDl G hi hik hie hj hjk hy hY hsz h1s hzl' hlen hlen' hs (some a0) 0 [] (run_firstCells_some w.drew ie.size 0 a0 0 0 [] G G) rfl (λ i x hx=>by simp at hx) (by simpa using hys) o.type hn
  unfold Oper.wp
  rw [hrun0 _ _ hr']
  simp only [Oper.upon,hd]
  exact ⟨g',_,hst',hK⟩
 | stk how hb hcs hlenc hszc hone hst hr =>
  rename_i b cap c e0
  rw [Nat.mul_one] at hcs
  have hcell:∀ (i:Nat) x,es[i]? = some x→∃ u,c[i]? = some u∧PRep w g.st x u:=by
   intro i x hx
   obtain ⟨v,h1,h2⟩:=hr i x 0 x hx (by rw [(hsz x (List.mem_append_left _ (List.mem_of_getElem? hx))).1]; rfl)
   exact ⟨v,by rw [Nat.mul_one,Nat.add_zero] at h1; exact h1,h2⟩
  by_cases hroom:es.length+ys.length≤cap
  ·obtain ⟨u,h1,h2⟩:=bc C.good hi
   have h3:=bn (h2.trans hik)
   subst h3
   obtain ⟨u',h1',h2'⟩:=bc C.good hj
   have h3':=bn (h2'.trans hjk)
   subst h3'
   obtain ⟨info,hf1,hf2,hf3,z,hf4,hf5⟩:=fR C.good hie
   have hyv:=fp hY (bq hs hy)
   have hszy:∀ y∈ys,y.cells=[y]:=λ y hy=>(hsz y (List.mem_append_right _ hy)).1
   obtain ⟨news,hsrc,hnews⟩:=pd (P:=C.P) (sz:=ie.size) h1' hyv (λ y hy=>by rw [hszy y hy,h1s]; rfl) O
   have hnl:news.length=ys.length:=by rw [hsrc.newsLen,h1s,Nat.mul_one]
   have hstc:=run_storeCells_at C.P b (es.length*ie.size) e0 news 0 c w hb (by rw [h1s]; simp; omega) hsrc.one
   simp only [Nat.add_zero] at hstc
   rw [h1s,Nat.mul_one] at hstc
   obtain ⟨c',hc'⟩:∃ c',c'=(c.toList.take es.length++news++c.toList.drop (es.length+news.length)).toArray:=⟨_,rfl⟩
   rw [← hc'] at hstc
   have hrr:=kr t tx o.type e info h1 hf1 b es.length cap (a.eval y) ys.length news (by rw [hf2]; exact hsrc) hroom (by rw [hf2,h1s,Nat.mul_one]; exact hstc)
   have hcell':∀ j,c'[j]? = if es.length≤j∧j < es.length+news.length then news[j - es.length]? else c[j]?:=by
    intro j
    rw [hc']
    have:=jx c.toList news es.length (by simp; omega) j
    simpa using this
   have hcs':c'.size=cap:=by rw [← hcs,hc']; simp; omega
   have hin:=hs.inplace (λ i=>Nat.beq i k) hDl (k:=k) (d:=k) how G G  hb (c':=c') (hcs'.trans hcs.symm) (λ o h=>by
    have:=(hst o).1 h
    rw [Array.getElem?_eq_none O,Array.getElem?_eq_none O]) (λ o=>o=cap*1) (λ o h=>(hst o).1 h)
   have hEv:Ev w g.st (w.setRow b c') (λ b' o=>(b'=b∧o=cap*1)∨(b'≠b∧g.st b' o)):=by
    intro b' o h
    by_cases e1:b'=b
    ·subst e1
     have ho:=(hst o).1 h
     refine ⟨.inl ⟨Z,ho⟩,?_⟩
     simp only [World.cell?,setRow_heap w b' c c' e0 (0,0) hb,hb]
     rw [Array.getElem?_eq_none O,Array.getElem?_eq_none O]
    ·exact ⟨.inr ⟨e1,h⟩,by simp only [World.cell?,setRow_other w b b' c' e1]⟩
   have hlenA:(es++ys).length=es.length+ys.length:=List.length_append
   have hrep:ARep (w.setRow b c') ⟨λ b' o=>(b'=b∧o=cap*1)∨(b'≠b∧g.st b' o),λ i=>if i=k then some b else if (Nat.beq i k) then none else g.ow i⟩ (.stk k 1 (es++ys)) (.slice (some ⟨b,0,none⟩) (es++ys).length cap):=by
    refine .stk G (setRow_heap w b c c' e0 (0,0) hb) O O  (λ x hx=>by rw [(hsz x hx).1]; rfl) (λ x hx c hc=>by rw [(hsz x hx).1] at hc; obtain rfl:=List.mem_singleton.1 hc; exact (hsz c hx).2) (λ o=>?_) (λ i x j p hx hp=>?_)
    ·constructor
     ·rintro (⟨_,h⟩ | ⟨h,_⟩)
      ·exact h
      ·exact absurd Z h
     ·intro h; exact .inl ⟨rfl,h⟩
    ·rw [(hsz x (List.mem_of_getElem? hx)).1] at hp
     have hj:j=0:=by
      have:=(List.getElem?_eq_some_iff.1 hp).1
      simpa using this
     subst hj
     simp only [List.getElem?_cons_zero,Option.some.injEq] at hp
     subst hp
     rw [Nat.mul_one,Nat.add_zero]
     rw [List.getElem?_append] at hx
     split at hx
     ·rename_i hlt
      obtain ⟨u,hu,hr⟩:=hcell i x hx
      exact ⟨u,by rw [hcell',if_neg O]; exact hu,hr.mono hEv⟩
     ·rename_i hge
      have hi2:i - es.length < ys.length:=(List.getElem?_eq_some_iff.1 hx).1
      obtain ⟨_,u,hu,hr⟩:=hnews (i - es.length) x 0 x hx (by rw [hszy x (List.mem_of_getElem? hx)]; rfl)
      rw [h1s,Nat.mul_one,Nat.add_zero] at hu
      exact ⟨u,by rw [hcell',if_pos O]; exact hu,hr.mono hEv⟩
   rw [hlenA] at hrep
   have hp:=hin.put (d:=some d) (λ t ht=>by cases ht; exact Nat.blt_eq ▸ hn) hrep
   unfold Oper.wp
   rw [hrun0 _ _ hrr]
   simp only [Oper.upon,hd]
   exact ⟨_,_,hp,hK⟩
  ·have hlenT:(c.toList.take es.length).length=es.length:=by
    rw [List.length_take,show c.toList.length=cap from Array.length_toList.trans hcs]; omega
   have hold:(Builtin.firstCells ie.size es.length (.slice (some ⟨b,0,none⟩) es.length cap)).run C.P w.drew=.ok (c.toList.take es.length).toArray w.drew:=by
    refine run_firstCells_some w.drew ie.size es.length ⟨b,0,none⟩ es.length cap _ (by rw [hlenT,h1s,Nat.mul_one]) (λ j v hv=>?_)
    rw [List.getElem?_take] at hv
    split at hv
    ·rw [add_lit,Nat.zero_add,World.cell?_drew]
     simp only [World.cell?,hb]
     simpa using hv
    ·cases hv
   obtain ⟨v,w',g',hr',hst'⟩:=wZ (es:=es) (k:=k) (λ i=>Nat.beq i k) hDl G hi hik hie hj hjk hy hY hsz h1s hzl' hlen hlen' hs (some ⟨b,0,none⟩) cap (c.toList.take es.length)
    hold hlenT (λ i x hx=>by
     obtain ⟨u,hu,hr⟩:=hcell i x hx
     exact ⟨u,by rw [List.getElem?_take,if_pos (List.getElem?_eq_some_iff.1 hx).1]; simpa using hu,hr⟩) O o.type hn
   unfold Oper.wp
   rw [hrun0 _ _ hr']
   simp only [Oper.upon,hd]
   exact ⟨g',_,hst',hK⟩
theorem Db {t e:TypeId}{x:Operand}{i:TI}{k sz:Nat}{es:List PV}(ho:o.op=.call { callee:=.builtin .len,args:=#[x],argTypes:=#[t] })(hd:o.dst=some d)(hn:Nat.blt d C.n=true)
  (hi:look C.tt t=some i) (hik:i.k=.slice e) (hx:evo sl x=some (.stk k sz es))
  (hK:K ⟨(d,.p (.val (.int .i64 (es.length:Int))))::sl,ob⟩):aW C o K ⟨sl,ob⟩:=by
 obtain ⟨u,h1,h2⟩:=bc C.good hi
 have h3:=bn (h2.trans hik)
 subst h3
 refine ok_one hd hn (λ g a w hs=>?_) hK
 have h5:=bq hs hx
 generalize hv:a.eval x=v at h5
 cases h5 with
 | stkn=>exact ⟨.int .i64 0,by rw [d9 ho]; simp [builtin,hv,Builtin.len_,run_underlying h1,goInt],.p (.val _)⟩
 | stke=>exact ⟨.int .i64 0,by rw [d9 ho]; simp [builtin,hv,Builtin.len_,run_underlying h1,goInt],.p (.val _)⟩
 | stk how hb hcs hlenc hszc hone hst hr=>exact ⟨.int .i64 (es.length:Int),by rw [d9 ho]; simp [builtin,hv,Builtin.len_,run_underlying h1,goInt],.p (.val _)⟩
theorem tC {t e:TypeId}{x y:Operand}{i ie:TI}{k:IntKind}{n:Int}{id:Nat}{es:List PV}(ho:o.op=.indexAddr t x y)(hd:o.dst=some d)(hn:Nat.blt d C.n=true)
  (hi:look C.tt t=some i) (hik:i.k=.slice e) (hie:look C.tt e=some ie) (hx:evo sl x=some (.stk id 1 es))
  (hy:evo sl y=some (.p (.val (.int k n)))) (hsz:ie.size=1) (hb:0≤n∧n < (es.length:Int))
  (hK:K ⟨(d,.ptr id n.toNat)::sl,ob⟩):aW C o K ⟨sl,ob⟩:=by
 obtain ⟨u,h1,h2⟩:=bc C.good hi
 have h3:=bn (h2.trans hik)
 subst h3
 refine ok_one hd hn (λ g a w hs=>?_) hK
 have h5:=bq hs hx
 generalize hv:a.eval x=v at h5
 cases h5 with
 | stkn=>simp at hb; omega
 | stke=>simp at hb; omega
 | stk how hb' hcs hlenc hszc hone hst hr =>
  rename_i b cap c e'
  exact ⟨.pointer (some ⟨b,n.toNat,none⟩),by simp [execOp,ho,hv,bJ hs hy,Instr.indexAt,asIntOf,run_underlying h1,hb.1,hb.2,run_sizeOf C.good hie,hsz,add_lit],.ptr how⟩
theorem zZ {t:TypeId}{x:Operand}{i:TI}{id n q:Nat}{es:List PV}{y:PV}(ho:o.op=.load t x)(hd:o.dst=some d)(hn:Nat.blt d C.n=true)
  (hi:look C.tt t=some i) (hia:i.k.isAgg=false) (hx:evo sl x=some (.ptr id n)) (hq:look sl q=some (.stk id 1 es)) (hy:es[n]? = some y) (hyc:y.cells=[y])
  (hK:K ⟨(d,.p y)::sl,ob⟩):aW C o K ⟨sl,ob⟩:=by
 refine ok_one hd hn (λ g a w hs=>?_) hK
 have h5:=bq hs hx
 generalize hv:a.eval x=v at h5
 cases h5 with
 | ptr how =>
  rename_i b
  have h6:=hs.sl q
  simp only [AS.get,hq,Option.getD_some] at h6
  generalize a.tmps.getD q Go.undef=vq at h6
  cases h6 with
  | stkn=>simp at hy
  | stke=>simp at hy
  | stk how2 hb hcs hlen hsz hone hst hr =>
   rw [how] at how2; cases how2
   obtain ⟨u,hu,hr2⟩:=hr n y 0 y hy (by rw [hyc]; rfl)
   rw [Nat.mul_one,Nat.add_zero] at hu
   have hc:=(kg hs hb n).trans hu
   exact ⟨u,by simp [execOp,ho,hv,Instr.loadAt,Instr.sureAddr,kB C.good hi hia hc],.p hr2⟩
theorem yz {t e:TypeId}{x:Operand}{hi:Option Operand}{id:Nat}{es:List PV}{h:Int}{i ie:TI}(ho:o.op=.slice t x none hi none)(hd:o.dst=some d)(hn:Nat.blt d C.n=true)
  (hi':look C.tt t=some i) (hik:i.k=.slice e) (hie:look C.tt e=some ie) (hx:evo sl x=some (.stk id 1 es)) (hhi:hiI sl (es.length:Int) hi=some h)
  (hb:0≤h∧h≤es.length) (hsz1:ie.size=1) (hK:K ⟨(d,.stk id 1 (es.take h.toNat))::sl,ob⟩):aW C o K ⟨sl,ob⟩:=by
 obtain ⟨u,h1,h2⟩:=bc C.good hi'
 have h3:=bn (h2.trans hik)
 subst h3
 refine ok_one hd hn (λ g a w hs=>?_) hK
 have hv:=bq hs hx
 generalize hq:a.eval x=v at hv
 cases hv with
 | stkn =>
  simp only [List.length_nil] at hb hhi
  have e2:h=0:=by omega
  subst e2
  have e:=nN (P:=C.P) hs true 0 0 none hi (l:=0) Z hhi O (Nat.le_refl _)
  refine ⟨.slice none 0 0,?_,by simpa using ARep.stkn _ _⟩
  simp at e
  simp [execOp,ho,hq,Instr.sliceAt,Instr.slice,run_underlying h1,e,run_sizeOf C.good hie]
 | stke =>
  rename_i a0
  simp only [List.length_nil] at hb hhi
  have e2:h=0:=by omega
  subst e2
  have e:=nN (P:=C.P) hs true 0 0 none hi (l:=0) Z hhi O (Nat.le_refl _)
  refine ⟨.slice (some a0) 0 0,?_,by simpa using ARep.stke _ _ a0⟩
  simp at e
  simp [execOp,ho,hq,Instr.sliceAt,Instr.slice,run_underlying h1,e,run_sizeOf C.good hie]
 | stk how hb2 hcs hlen hszc hone hst hr =>
  rename_i b cap c e0
  have e:=nN (P:=C.P) hs true es.length cap none hi (l:=0) Z hhi ⟨by omega,hb.1,by omega⟩ hlen
  have hlt:(es.take h.toNat).length=h.toNat:=by rw [List.length_take]; omega
  refine ⟨.slice (some ⟨b,0,none⟩) (es.take h.toNat).length cap,?_,.stk how hb2 hcs O (λ x hx=>hszc x (List.mem_of_mem_take hx)) (λ x hx=>hone x (List.mem_of_mem_take hx)) hst (λ i x j p hx hp=>?_)⟩
  ·simp at e
   simp [execOp,ho,hq,Instr.sliceAt,Instr.slice,run_underlying h1,e,run_sizeOf C.good hie,add_lit,hlt]
   try omega
  ·rw [List.getElem?_take] at hx
   split at hx
   ·exact hr i x j p hx hp
   ·cases hx
end
theorem Ez (D:Nat→Bool):∀ (l:List PV),dmC D (l.map .p)=some (l.map .p)
 | []=>rfl
 | x::r=>by
  have h:=Ez D r
  simp only [List.map_cons,dmC,AV.dem,h]
  first | rfl | (simp [frc])
theorem nA {D:Nat→Bool}{i:Nat}{l:List PV}{r r':List (Nat×List AV)}(h:D i=false)(hr:dmO D r=some r'):dmO D ((i,l.map .p)::r)=some ((i,l.map .p)::r'):=by
 simp only [dmO,h,Ez,hr]
theorem nO {D:Nat→Bool}{i:Nat}{cs ds:List AV}{r r':List (Nat×List AV)}(h:D i=false)(hc:dmC D cs=some ds)(hr:dmO D r=some r'):dmO D ((i,cs)::r)=some ((i,ds)::r'):=by
 simp only [dmO,h,hc,hr]
theorem AV.sub_nilstk (tok sz:Nat):(AV.p (.val (.slice none 0 0))).sub (.stk tok sz []):=by
 intro w g v h
 cases h with
 | p h=>cases h; exact .stkn _ _
section
variable {C:Cx} {o:Oper} {K:AS→Prop} {sl:List (Nat×AV)} {ob:List (Nat×List AV)} {d:Nat}
theorem vH {α:Type}(f:α→PV)(L:List (Bytes×α))(z:α){t kt et:TypeId}{x y:Operand}{i j:TI}{tok:Nat}{k:Bytes}{zv:Value}(ho:o.op=.lookup t x y false)(hd:o.dst=some d)(hn:Nat.blt d C.n=true)
  (hi:look C.tt t=some i) (hik:i.k=.map kt et) (hj:look C.tt kt=some j) (hjk:j.k=.string) (hz:(C.P.info? et).map (·.zero)=some (some zv)) (hfz:f z=.val zv)
  (hx:evo sl x=some (.mp tok (L.map λ p=>(p.1,f p.2)))) (hy:evo sl y=some (.p (eS k))) (hK:K ⟨(d,.p (f ((db L k).getD z)))::sl,ob⟩):aW C o K ⟨sl,ob⟩:=by
 refine CX ho hd hn hi hik hj hjk hz hx hy ?_ hK
 rw [pq]
 cases db L k with
 | none=>exact hfz.symm
 | some v=>rfl
theorem xJ {α:Type}(f:α→PV)(L:List (Bytes×α))(u:α){t kt et:TypeId}{x y v:Operand}{i j:TI}{tok:Nat}{k:Bytes}{sl':List (Nat×AV)}{ob':List (Nat×List AV)}(ho:o.op=.mapUpdate t x y v)(hd:o.dst=none)
  (hi:look C.tt t=some i) (hik:i.k=.map kt et) (hj:look C.tt kt=some j) (hjk:j.k=.string)
  (hx:evo sl x=some (.mp tok (L.map λ p=>(p.1,f p.2)))) (hy:evo sl y=some (.p (eS k))) (hv:evo sl v=some (.p (f u))) (htok:Nat.blt tok M1=true)
  (h1:upS tok ((lx L k u).map λ p=>(p.1,f p.2)) sl=some sl') (h2:dmO (Nat.beq · tok) ob=some ob') (hK:K ⟨sl',ob'⟩):aW C o K ⟨sl,ob⟩ :=
 DU ho hd hi hik hj hjk hx hy hv htok (uM f L k u) h1 h2 hK
theorem zQ {α:Type}(f:α→PV)(L:List (Bytes×List α)){t kt et:TypeId}{x y:Operand}{i j:TI}{tok sz ty:Nat}{k:Bytes}{sl':List (Nat×AV)}{ob':List (Nat×List AV)}(ho:o.op=.lookup t x y false)(hd:o.dst=some d)(hn:Nat.blt d C.n=true)
  (hi:look C.tt t=some i) (hik:i.k=.map kt et) (hj:look C.tt kt=some j) (hjk:j.k=.string) (hz:(C.P.info? et).map (·.zero)=some (some (.slice none 0 0)))
  (hx:evo sl x=some (.mpr tok sz ty none (L.map λ p=>(p.1,p.2.map f)))) (hy:evo sl y=some (.p (eS k))) (htok:Nat.blt tok M1=true) (hdt:Nat.beq d tok=false)
  (h1:tkS tok d (.mpr tok sz ty (some k) (L.map λ p=>(p.1,p.2.map f))) sl=some sl') (h2:tkO d tok ob=some ob') (hK:K ⟨(d,.vec d sz ty (((db L k).getD []).map f))::sl',ob'⟩):aW C o K ⟨sl,ob⟩:=by
 refine C5 ho hd hn hi hik hj hjk hz hx hy ?_ htok hdt h1 h2 hK
 rw [pq (λ l:List α=>l.map f)]
 cases db L k with
 | none=>rfl
 | some v=>rfl
theorem Bz {α:Type}(f:α→PV)(L:List (Bytes×List α))(u:List α){t kt et:TypeId}{x y v:Operand}{i j:TI}{tok sz ty e:Nat}{k:Bytes}{sl':List (Nat×AV)}{ob':List (Nat×List AV)}(ho:o.op=.mapUpdate t x y v)(hd:o.dst=none)
  (hi:look C.tt t=some i) (hik:i.k=.map kt et) (hj:look C.tt kt=some j) (hjk:j.k=.string)
  (hx:evo sl x=some (.mpr tok sz ty (some k) (L.map λ p=>(p.1,p.2.map f)))) (hy:evo sl y=some (.p (eS k))) (hv:evo sl v=some (.vec e sz ty (u.map f))) (htok:Nat.blt tok M1=true) (hel:Nat.blt e M1=true) (het:Nat.beq e tok=false)
  (h1:tkS tok e (.mpr tok sz ty none ((lx L k u).map λ p=>(p.1,p.2.map f))) sl=some sl') (h2:tkO e tok ob=some ob') (hK:K ⟨sl',ob'⟩):aW C o K ⟨sl,ob⟩ :=
 Ec ho hd hi hik hj hjk hx hy hv htok hel het (uM (λ l:List α=>l.map f) L k u) h1 h2 hK
theorem tE {α:Type}(f:α→PV)(hf:∀ x,(f x).cells=[f x]∧(f x).one=true)(l0 l:List α){t tx e e':TypeId}{x y:Operand}{k:Nat}{Y0z:AV}{i ie j:TI}{sl':List (Nat×AV)}{ob':List (Nat×List AV)}(ho:o.op=.call { callee:=.builtin .append,args:=#[x,y],argTypes:=#[t,tx] })(hd:o.dst=some d)(hn:Nat.blt d C.n=true)
  (hi:look C.tt t=some i) (hik:i.k=.slice e) (hie:look C.tt e=some ie) (hj:look C.tt tx=some j) (hjk:j.k=.slice e') (hx:evo sl x=some (.stk k 1 (l0.map f))) (hk:Nat.blt k M1=true)
  (hy:evo sl y=some Y0z) (hY:Y0z.elems? = some (l.map f)) (hys:0 < l.length) (h1s:ie.size=1) (hzl:Nat.beq ie.zero.length ie.size=true) (hby:Nat.blt 0 ie.bytes=true)
  (hlen:(l0.length+l.length)*ie.bytes≤140737488355328) (h1:dmS (λ i=>Nat.beq i k) sl=some sl') (h2:dmO (λ i=>Nat.beq i k) ob=some ob')
  (hK:K ⟨(d,.stk k 1 ((l0++l).map f))::sl',ob'⟩):aW C o K ⟨sl,ob⟩:=by
 have hby':1≤ie.bytes:=Nat.succ_le_of_lt (by simpa using hby)
 have h3:(l0.length+l.length)*1≤(l0.length+l.length)*ie.bytes:=Nat.mul_le_mul_left _ hby'
 refine xS ho hd hn hi hik hie hj hjk hx hk hy hY (λ y hy=>?_) (by simpa using hys) h1s hzl (by rw [List.length_map,List.length_map]; exact hlen) (by rw [List.length_map,List.length_map]; omega) ?_
 ·rw [← List.map_append] at hy
  obtain ⟨x,_,rfl⟩:=List.mem_map.1 hy
  exact hf x
 ·rw [← List.map_append]
  simp only [ct]
  rw [← wY h1,← p9 h2]
  exact hK
theorem nj {α:Type}(f:α→PV)(l:List α){t e:TypeId}{x:Operand}{i:TI}{k sz:Nat}(ho:o.op=.call { callee:=.builtin .len,args:=#[x],argTypes:=#[t] })(hd:o.dst=some d)(hn:Nat.blt d C.n=true)
  (hi:look C.tt t=some i) (hik:i.k=.slice e) (hx:evo sl x=some (.stk k sz (l.map f))) (hK:K ⟨(d,.p (eI (l.length:Int)))::sl,ob⟩):aW C o K ⟨sl,ob⟩ :=
 Db ho hd hn hi hik hx (by rw [List.length_map]; exact hK)
theorem pb {α:Type}(f:α→PV)(l:List α){t e:TypeId}{x y:Operand}{i ie:TI}{k:IntKind}{n:Int}{id:Nat}(ho:o.op=.indexAddr t x y)(hd:o.dst=some d)(hn:Nat.blt d C.n=true)
  (hi:look C.tt t=some i) (hik:i.k=.slice e) (hie:look C.tt e=some ie) (hx:evo sl x=some (.stk id 1 (l.map f)))
  (hy:evo sl y=some (.p (.val (.int k n)))) (hsz:ie.size=1) (hb:0≤n∧n < (l.length:Int)) (hK:K ⟨(d,.ptr id n.toNat)::sl,ob⟩):aW C o K ⟨sl,ob⟩ :=
 tC ho hd hn hi hik hie hx hy hsz (by rw [List.length_map]; exact hb) hK
theorem A4 {α:Type} [Inhabited α] (f:α→PV)(hf:∀ x,(f x).cells=[f x]∧(f x).one=true)(l:List α)(q:Nat){t:TypeId}{x:Operand}{i:TI}{id:Nat}{n:Int}(ho:o.op=.load t x)(hd:o.dst=some d)(hn:Nat.blt d C.n=true)
  (hi:look C.tt t=some i) (hia:i.k.isAgg=false) (hx:evo sl x=some (.ptr id n.toNat)) (hq:look sl q=some (.stk id 1 (l.map f))) (hb:0≤n∧n < (l.length:Int))
  (hK:K ⟨(d,.p (f (lat l n)))::sl,ob⟩):aW C o K ⟨sl,ob⟩:=by
 refine zZ ho hd hn hi hia hx hq ?_ (hf _).1 hK
 obtain ⟨m,rfl⟩:∃ m:Nat,n=m:=⟨n.toNat,by omega⟩
 have hm:m < l.length:=by omega
 rw [Int.toNat_natCast,List.getElem?_map,List.getElem?_eq_getElem hm,co l m hm]
 rfl
theorem tV {α:Type}(f:α→PV)(l:List α){t e:TypeId}{x:Operand}{hi:Option Operand}{id:Nat}{h:Int}{i ie:TI}(ho:o.op=.slice t x none hi none)(hd:o.dst=some d)(hn:Nat.blt d C.n=true)
  (hi':look C.tt t=some i) (hik:i.k=.slice e) (hie:look C.tt e=some ie) (hx:evo sl x=some (.stk id 1 (l.map f))) (hhi:hiI sl (l.length:Int) hi=some h)
  (hb:0≤h∧h≤(l.length:Int)) (hsz1:ie.size=1) (hK:K ⟨(d,.stk id 1 ((l.take h.toNat).map f))::sl,ob⟩):aW C o K ⟨sl,ob⟩ :=
 yz ho hd hn hi' hik hie hx (by rw [List.length_map]; exact hhi) (by rw [List.length_map]; exact hb) hsz1 (by rw [← List.map_take]; exact hK)
end
end Go.Ab
end
section
namespace Go.Ab
section
variable {C:Cx} {o:Oper} {K:AS→Prop} {sl:List (Nat×AV)} {ob:List (Nat×List AV)} {d:Nat}
theorem Ac {t e:TypeId}{i ie:TI}(ho:o.op=.buildSlice t 0 #[])(hd:o.dst=some d)(hn:Nat.blt d C.n=true)
  (hi:look C.tt t=some i) (hik:i.k=.slice e) (hie:look C.tt e=some ie) (tok sz:Nat)
  (hK:K ⟨(d,.stk tok sz [])::sl,ob⟩):aW C o K ⟨sl,ob⟩:=by
 obtain ⟨u,h1,h2⟩:=bc C.good hi
 have h3:=bn (h2.trans hik)
 subst h3
 obtain ⟨j,hj,hj1,hj2,z,hz1,hz2⟩:=fR C.good hie
 intro g a w hs
 have hrun:(execOp a.eval o).run C.P w=.ok (.value (.slice (some ⟨w.heap.size,0,none⟩) 0 0)) (w.alloc (.cells #[] e)):=by
  simp [execOp,ho,Instr.buildSlice,run_underlying h1,sizeOf,typeInfo,hj,Instr.fill,newRow]
  congr 2
  apply Array.ext <;> simp
 unfold Oper.wp
 rw [hrun]
 have hst:=(hs.settled (λ _=>False) #[] e).put (d:=some d) (λ t ht=>by cases ht; exact Nat.blt_eq ▸ hn) (.stke tok sz ⟨w.heap.size,0,none⟩)
 simp only [Oper.upon,hd]
 exact ⟨_,_,hst,hK⟩
theorem AQ {t tx e e':TypeId}{x y:Operand}{k:Nat}{es:List PV}{Y0z:AV}{i ie j:TI}(ho:o.op=.call { callee:=.builtin .append,args:=#[x,y],argTypes:=#[t,tx] })(hd:o.dst=some d)(hn:Nat.blt d C.n=true)
  (hi:look C.tt t=some i) (hik:i.k=.slice e) (hie:look C.tt e=some ie) (hj:look C.tt tx=some j) (hjk:j.k=.slice e') (hx:evo sl x=some (.stk k 1 es))
  (hy:evo sl y=some Y0z) (hY:Y0z.elems? = some []) (h1s:ie.size=1)
  (hK:K ⟨(d,.stk k 1 es)::sl,ob⟩):aW C o K ⟨sl,ob⟩:=by
 refine ok_one hd hn (λ g a w hs=>?_) hK
 obtain ⟨u,h1,h2⟩:=bc C.good hi
 have h3:=bn (h2.trans hik)
 subst h3
 obtain ⟨u',h1',h2'⟩:=bc C.good hj
 have h3':=bn (h2'.trans hjk)
 subst h3'
 obtain ⟨info,hf1,hf2,hf3,z,hf4,hf5⟩:=fR C.good hie
 have hyv:=fp hY (bq hs hy)
 obtain ⟨news,hsrc,hnews⟩:=pd (P:=C.P) (sz:=ie.size) h1' hyv (λ y hy=>by cases hy) O
 have hnl:news=[]:=by have:=hsrc.newsLen; simpa using this
 subst hnl
 have hxr:=bq hs hx
 generalize hxv:a.eval x=xv at hxr
 have hrun0:∀ v w',(Builtin.append_ #[t,tx] o.type #[xv,a.eval y]).run C.P w=.ok v w'→(execOp a.eval o).run C.P w=.ok (.value v) w':=by
  intro v w' h
  rw [d9 ho]
  simp [builtin,hxv,h]
 cases hxr with
 | stkn=>exact ⟨_,hrun0 _ _ (run_append_nothing w t tx o.type e info h1 hf1 none 0 0 (Nat.le_refl _) (a.eval y) (by rw [hf2]; exact hsrc)),.stkn _ _⟩
 | stke=>exact ⟨_,hrun0 _ _ (run_append_nothing w t tx o.type e info h1 hf1 _ 0 0 (Nat.le_refl _) (a.eval y) (by rw [hf2]; exact hsrc)),.stke _ _ _⟩
 | stk how hb hcs hlenc hszc hone hst hr =>
  exact ⟨_,hrun0 _ _ (run_append_nothing w t tx o.type e info h1 hf1 _ _ _ hlenc (a.eval y) (by rw [hf2]; exact hsrc)),.stk how hb hcs hlenc hszc hone hst hr⟩
theorem y9 {D:Nat→Bool}{ob ob':List (Nat×List AV)}(h:dmO D ob=some ob'):(ct D ⟨sl,ob⟩).ob=ob':=(p9 h).symm
theorem qj {α:Type}(f:α→PV)(b0:α){t e:Nat}{x y:Operand}{i ie:TI}{k k':IntKind}{n:Int}{z:Value}{ob':List (Nat×List AV)}(ho:o.op=.makeSlice t x y)(hd:o.dst=some d)(hn:Nat.blt d C.n=true)
  (hi:look C.tt t=some i) (hik:i.k=.slice e) (hie:look C.tt e=some ie) (hs1:ie.size=1) (hz:ie.zero=[z]) (hf:f b0=.val z) (hx:evo sl x=some (.p (.val (.int k n)))) (hy:evo sl y=some (.p (.val (.int k' n))))
  (hb:0≤n∧n≤9223372036854775807∧(ie.bytes:Int)*n≤281474976710656) (h2:dmO (λ i=>Nat.beq i d) ob=some ob')
  (hK:K ⟨(d,.arr d 1 0 (List.replicate n.toNat b0).length)::sl.map λ p=>(p.1,p.2.dem λ i=>Nat.beq i d),(d,((List.replicate n.toNat b0).map f).map .p)::ob'⟩):aW C o K ⟨sl,ob⟩:=by
 refine wT ho hd hn hi hik hie hs1 hz hx hy hb ?_
 rw [y9 h2]
 rw [List.map_replicate,hf,List.length_replicate] at hK
 exact hK
theorem zg {t:TypeId}{v:Operand}{x:AV}{cs ds:List AV}{ob':List (Nat×List AV)}(ho:o.op=.box t v)(hd:o.dst=some d)(hn:Nat.blt d C.n=true)(hx:evo sl v=some x)(hc:x.cellsA=some cs)
  (hds:ls (λ i=>Nat.beq i d) cs=ds) (h2:dmO (λ i=>Nat.beq i d) ob=some ob')
  (hK:K ⟨(d,.ptr d 0)::sl.map λ p=>(p.1,p.2.dem λ i=>Nat.beq i d),(d,ds)::ob'⟩):aW C o K ⟨sl,ob⟩:=by
 refine B4 ho hd hn hx hc ?_
 subst hds
 rw [y9 h2]
 exact hK
theorem ye {α:Type} [Inhabited α] (f:α→PV)(hf:∀ x,(f x).cells=[f x]∧(f x).one=true)(l:List α)(q j:Nat){cs:List AV}{t:TypeId}{x:Operand}{i:TI}{id:Nat}{n:Int}(ho:o.op=.load t x)(hd:o.dst=some d)(hn:Nat.blt d C.n=true)
  (hi:look C.tt t=some i) (hia:i.k.isAgg=false) (hx:evo sl x=some (.ptr id n.toNat)) (hq:look ob q=some cs) (hj:cs[j]? = some (.stk id 1 (l.map f))) (hb:0≤n∧n < (l.length:Int))
  (hK:K ⟨(d,.p (f (lat l n)))::sl,ob⟩):aW C o K ⟨sl,ob⟩:=by
 obtain ⟨m,rfl⟩:∃ m:Nat,n=m:=⟨n.toNat,by omega⟩
 have hm:m < l.length:=by omega
 refine ok_one hd hn (λ g a w hs=>?_) hK
 have h5:=bq hs hx
 generalize hv:a.eval x=v at h5
 cases h5 with
 | ptr how =>
  rename_i b
  obtain ⟨_,c0,_,_,_,_,_,hcs⟩:=hs.ob q cs hq
  obtain ⟨u0,_,h6⟩:=hcs j _ hj
  have hy:(l.map f)[m]? = some (f (lat l (m:Int))):=by rw [List.getElem?_map,List.getElem?_eq_getElem hm,co l m hm]; rfl
  generalize l.map f=es at h6 hy
  cases h6 with
  | stkn=>simp at hy
  | stke=>simp at hy
  | stk how2 hb hcs hlen hsz hone hst hr =>
   rw [how] at how2; cases how2
   obtain ⟨u,hu,hr2⟩:=hr m _ 0 _ hy (by rw [(hf _).1]; rfl)
   rw [Nat.mul_one,Nat.add_zero] at hu
   have hc:=(kg hs hb m).trans hu
   exact ⟨u,by simp [execOp,ho,hv,Instr.loadAt,Instr.sureAddr,kB C.good hi hia hc],.p hr2⟩
theorem yE (tok sz ty i:Nat)(kv:Bytes×List PV):nr tok sz ty none i kv=.vec (tok+MZ*(i+1)) sz ty kv.2:=by simp [nr]
theorem Aa (tok sz ty:Nat){α:Type}(f:α→PV)(L:List (Bytes×List α)):(AV.mpr tok sz ty none (L.map λ p=>(p.1,p.2.map f))).sub (.mp tok (L.map λ p=>(p.1,eL f p.2))):=by
 intro w g v h
 cases h with
 | mpr how hb hn hd hk hv =>
  refine .mp how hb (by simpa using hn) ?_ (λ i e kv h1 h2=>?_) (λ i e kv h1 h2=>?_)
  ·rw [List.map_map] at hd ⊢; exact hd
  ·rw [List.getElem?_map,Option.map_eq_some_iff] at h2
   obtain ⟨p,hp,rfl⟩:=h2
   exact hk i e (p.1,p.2.map f) h1 (by rw [List.getElem?_map,hp]; rfl)
  ·rw [List.getElem?_map,Option.map_eq_some_iff] at h2
   obtain ⟨p,hp,rfl⟩:=h2
   have:=hv i e (p.1,p.2.map f) h1 (by rw [List.getElem?_map,hp]; rfl)
   rw [yE] at this
   have h3:=AV.sub_vec _ _ _ _ w g _ this
   cases h3 with
   | p h=>exact h
theorem Ag {α:Type}(f:α→PV)(L:List (Bytes×List α)){t kt et:TypeId}{x y:Operand}{i j:TI}{tok:Nat}{k:Bytes}(ho:o.op=.lookup t x y false)(hd:o.dst=some d)(hn:Nat.blt d C.n=true)
  (hi:look C.tt t=some i) (hik:i.k=.map kt et) (hj:look C.tt kt=some j) (hjk:j.k=.string) (hz:(C.P.info? et).map (·.zero)=some (some (.slice none 0 0)))
  (hx:evo sl x=some (.mp tok (L.map λ p=>(p.1,eL f p.2)))) (hy:evo sl y=some (.p (eS k))) (hK:K ⟨(d,.p (eL f ((db L k).getD [])))::sl,ob⟩):aW C o K ⟨sl,ob⟩:=by
 refine vV ho hd hn hi hik hj hjk hz hx hy (λ w st v h=>?_) hK
 rw [pq (λ l:List α=>eL f l) L k] at h
 cases hk:db L k with
 | none=>rw [hk] at h; cases h; exact .nils
 | some l=>rw [hk] at h; exact h
theorem wI (tok e:Nat)(y:AV):∀ (l:List (Nat×AV)),tkS tok e y l=some (l.map λ p=>(p.1,tkA tok e y p.2))
 | []=>rfl
 | (i,x)::r=>by
  have h:∀ z:AV,frc z=some z:=λ z=>by cases z <;> rfl
  simp only [tkS,h,wI tok e y r,List.map_cons]
theorem yN {α:Type}(f:α→PV)(L:List (Bytes×List α)){t kt et:TypeId}{x y:Operand}{i j:TI}{tok sz ty:Nat}{k:Bytes}{ob':List (Nat×List AV)}(ho:o.op=.lookup t x y false)(hd:o.dst=some d)(hn:Nat.blt d C.n=true)
  (hi:look C.tt t=some i) (hik:i.k=.map kt et) (hj:look C.tt kt=some j) (hjk:j.k=.string) (hz:(C.P.info? et).map (·.zero)=some (some (.slice none 0 0)))
  (hx:evo sl x=some (.mpr tok sz ty none (L.map λ p=>(p.1,p.2.map f)))) (hy:evo sl y=some (.p (eS k))) (htok:Nat.blt tok M1=true) (hdt:Nat.beq d tok=false)
  (h2:tkO d tok ob=some ob') (hK:K ⟨(d,.vec d sz ty (((db L k).getD []).map f))::trL (.fn (tkA tok d (.mpr tok sz ty (some k) (L.map λ p=>(p.1,p.2.map f))))) sl,ob'⟩):aW C o K ⟨sl,ob⟩ :=
 zQ f L ho hd hn hi hik hj hjk hz hx hy htok hdt (wI _ _ _ _) h2 hK
theorem Ay {α:Type}(f:α→PV)(L:List (Bytes×List α))(u:List α){t kt et:TypeId}{x y v:Operand}{i j:TI}{tok sz ty e:Nat}{k:Bytes}{ob':List (Nat×List AV)}(ho:o.op=.mapUpdate t x y v)(hd:o.dst=none)
  (hi:look C.tt t=some i) (hik:i.k=.map kt et) (hj:look C.tt kt=some j) (hjk:j.k=.string)
  (hx:evo sl x=some (.mpr tok sz ty (some k) (L.map λ p=>(p.1,p.2.map f)))) (hy:evo sl y=some (.p (eS k))) (hv:evo sl v=some (.vec e sz ty (u.map f))) (htok:Nat.blt tok M1=true) (hel:Nat.blt e M1=true) (het:Nat.beq e tok=false)
  (h2:tkO e tok ob=some ob') (hK:K ⟨trL (.fn (tkA tok e (.mpr tok sz ty none ((lx L k u).map λ p=>(p.1,p.2.map f))))) sl,ob'⟩):aW C o K ⟨sl,ob⟩ :=
 Bz f L u ho hd hi hik hj hjk hx hy hv htok hel het (wI _ _ _ _) h2 hK
end
end Go.Ab
end
section
namespace Go.Ab
open Go.Proofs Go.Ab
attribute [local irreducible] awp eC aW aA bN BW AV.sub
theorem cM (l:List Bytes)(hlen:l.length*16≤140737488355328):aA Tryz.prog 65 [eL eS l] (·=.p (eL eS l)):=by
 refine ba good Tryz.func65 Z Z Z λ w0=>?_
 refine bI ?_
 refine cj ?_
 refine aZ Z ?_
 refine bp Z Z Z Z ?_
 refine bz ?_
 (repeat (first | refine aI ?_ | refine aM ?_ | refine b9 ?_ | refine bg Z ?_ | refine b4 ?_ | refine aV ?_ | refine aJ ?_ | refine ar ?_ | refine aD ?_ | refine ax Z ?_ | refine noGoto_ret ?_ | refine noGoto_exit ?_ | refine noGoto_normal ?_))
 refine bI ?_
 refine bI ?_
 refine cj ?_
 refine aZ Z ?_
 refine cR Z Z Z Z ?_
 refine aZ Z ?_
 refine nf Z Z Z Z Z Z Z Z (λ b hb=>?_)
 refine bz ?_
 (repeat (first | refine aI ?_ | refine aM ?_ | refine b9 ?_ | refine bg Z ?_ | refine b4 ?_ | refine aV ?_ | refine aJ ?_ | refine ar ?_ | refine aD ?_ | refine ax Z ?_ | refine noGoto_ret ?_ | refine noGoto_exit ?_ | refine noGoto_normal ?_))
 refine iz Z (λ hc=>?_) (λ hc=>?_)
 ·have he:l=[]:=by simpa using hb hc
  subst he
  refine bI ?_
  refine cj ?_
  refine aZ Z ?_
  refine bp Z Z Z Z ?_
  refine bz ?_
  (repeat (first | refine aI ?_ | refine aM ?_ | refine b9 ?_ | refine bg Z ?_ | refine b4 ?_ | refine aV ?_ | refine aJ ?_ | refine ar ?_ | refine aD ?_ | refine ax Z ?_ | refine noGoto_ret ?_ | refine noGoto_exit ?_ | refine noGoto_normal ?_))
  refine di ?_
  (repeat (first | refine aI ?_ | refine aM ?_ | refine b9 ?_ | refine bg Z ?_ | refine b4 ?_ | refine aV ?_ | refine aJ ?_ | refine ar ?_ | refine aD ?_ | refine ax Z ?_ | refine noGoto_ret ?_ | refine noGoto_exit ?_ | refine noGoto_normal ?_))
  refine nF Z ?_
  exact jm _
 ·skip
  refine de ?_
  (repeat (first | refine aI ?_ | refine aM ?_ | refine b9 ?_ | refine bg Z ?_ | refine b4 ?_ | refine aV ?_ | refine aJ ?_ | refine ar ?_ | refine aD ?_ | refine ax Z ?_ | refine noGoto_ret ?_ | refine noGoto_exit ?_ | refine noGoto_normal ?_))
  refine bI ?_
  refine cj ?_
  refine aZ Z ?_
  refine uo Z Z Z Z Z Z Z 5 1 ?_
  refine aZ Z ?_
  refine cR Z Z Z Z ?_
  refine aZ Z ?_
  refine gB eS [] l Z Z Z Z Z Z Z Z Z Z Z Z Z Y Z Z Z Z (by simpa using hlen) ?_
  refine aZ Z ?_
  refine bp Z Z Z Z ?_
  refine bz ?_
  (repeat (first | refine aI ?_ | refine aM ?_ | refine b9 ?_ | refine bg Z ?_ | refine b4 ?_ | refine aV ?_ | refine aJ ?_ | refine ar ?_ | refine aD ?_ | refine ax Z ?_ | refine noGoto_ret ?_ | refine noGoto_exit ?_ | refine noGoto_normal ?_))
  refine di ?_
  (repeat (first | refine aI ?_ | refine aM ?_ | refine b9 ?_ | refine bg Z ?_ | refine b4 ?_ | refine aV ?_ | refine aJ ?_ | refine ar ?_ | refine aD ?_ | refine ax Z ?_ | refine noGoto_ret ?_ | refine noGoto_exit ?_ | refine noGoto_normal ?_))
  refine nF Z ?_
  exact AV.sub_vec _ _ _ _
theorem kl (l:List Bytes)(hlen:l.length*16≤140737488355328):bN Tryz.prog 65 [.p (eL eS l)] [] (λ x y=>x=.stk 2000000 1 (l.map eS)∧y=[]):=by
 refine gR good [800000] [] Tryz.func65 Z Z Z Z Z λ w0 F=>?_
 refine bI ?_
 refine cj ?_
 refine aZ Z ?_
 refine bp Z Z Z Z ?_
 refine bz ?_
 (repeat (first | refine aI ?_ | refine aM ?_ | refine b9 ?_ | refine bg Z ?_ | refine b4 ?_ | refine aV ?_ | refine aJ ?_ | refine ar ?_ | refine aD ?_ | refine ax Z ?_ | refine noGoto_ret ?_ | refine noGoto_exit ?_ | refine noGoto_normal ?_))
 refine bI ?_
 refine bI ?_
 refine cj ?_
 refine aZ Z ?_
 refine cR Z Z Z Z ?_
 refine aZ Z ?_
 refine nf Z Z Z Z Z Z Z Z (λ b hb=>?_)
 refine bz ?_
 (repeat (first | refine aI ?_ | refine aM ?_ | refine b9 ?_ | refine bg Z ?_ | refine b4 ?_ | refine aV ?_ | refine aJ ?_ | refine ar ?_ | refine aD ?_ | refine ax Z ?_ | refine noGoto_ret ?_ | refine noGoto_exit ?_ | refine noGoto_normal ?_))
 refine iz Z (λ hc=>?_) (λ hc=>?_)
 ·have he:l=[]:=by simpa using hb hc
  subst he
  refine bI ?_
  refine cj ?_
  refine aZ Z ?_
  refine bp Z Z Z Z ?_
  refine bz ?_
  (repeat (first | refine aI ?_ | refine aM ?_ | refine b9 ?_ | refine bg Z ?_ | refine b4 ?_ | refine aV ?_ | refine aJ ?_ | refine ar ?_ | refine aD ?_ | refine ax Z ?_ | refine noGoto_ret ?_ | refine noGoto_exit ?_ | refine noGoto_normal ?_))
  refine di ?_
  (repeat (first | refine aI ?_ | refine aM ?_ | refine b9 ?_ | refine bg Z ?_ | refine b4 ?_ | refine aV ?_ | refine aJ ?_ | refine ar ?_ | refine aD ?_ | refine ax Z ?_ | refine noGoto_ret ?_ | refine noGoto_exit ?_ | refine noGoto_normal ?_))
  exact pn (bW _) Z Z Z Z (AV.sub_nilstk _ _) trivial
 ·skip
  refine de ?_
  (repeat (first | refine aI ?_ | refine aM ?_ | refine b9 ?_ | refine bg Z ?_ | refine b4 ?_ | refine aV ?_ | refine aJ ?_ | refine ar ?_ | refine aD ?_ | refine ax Z ?_ | refine noGoto_ret ?_ | refine noGoto_exit ?_ | refine noGoto_normal ?_))
  refine bI ?_
  refine cj ?_
  refine aZ Z ?_
  refine Ac Z Z Z Z Z Z 5 1 ?_
  refine aZ Z ?_
  refine cR Z Z Z Z ?_
  refine aZ Z ?_
  by_cases hl:l=[]
  ·subst hl
   refine AQ Z Z Z Z Z Z Z Z Z Z Z Z ?_
   refine aZ Z ?_
   refine bp Z Z Z Z ?_
   refine bz ?_
   (repeat (first | refine aI ?_ | refine aM ?_ | refine b9 ?_ | refine bg Z ?_ | refine b4 ?_ | refine aV ?_ | refine aJ ?_ | refine ar ?_ | refine aD ?_ | refine ax Z ?_ | refine noGoto_ret ?_ | refine noGoto_exit ?_ | refine noGoto_normal ?_))
   refine di ?_
   (repeat (first | refine aI ?_ | refine aM ?_ | refine b9 ?_ | refine bg Z ?_ | refine b4 ?_ | refine aV ?_ | refine aJ ?_ | refine ar ?_ | refine aD ?_ | refine ax Z ?_ | refine noGoto_ret ?_ | refine noGoto_exit ?_ | refine noGoto_normal ?_))
   exact pn (bB 5 800000 Z Z Z Z Z) Z Z Z Z (AV.sub_refl _) trivial
  ·refine tE eS (λ _=>⟨Z,Z⟩) [] l Z Z Z Z Z Z Z Z Z Z Z Z (List.length_pos_iff.2 hl) Z Z Z (by simpa using hlen) Z Z ?_
   refine aZ Z ?_
   refine bp Z Z Z Z ?_
   refine bz ?_
   (repeat (first | refine aI ?_ | refine aM ?_ | refine b9 ?_ | refine bg Z ?_ | refine b4 ?_ | refine aV ?_ | refine aJ ?_ | refine ar ?_ | refine aD ?_ | refine ax Z ?_ | refine noGoto_ret ?_ | refine noGoto_exit ?_ | refine noGoto_normal ?_))
   refine di ?_
   (repeat (first | refine aI ?_ | refine aM ?_ | refine b9 ?_ | refine bg Z ?_ | refine b4 ?_ | refine aV ?_ | refine aJ ?_ | refine ar ?_ | refine aD ?_ | refine ax Z ?_ | refine noGoto_ret ?_ | refine noGoto_exit ?_ | refine noGoto_normal ?_))
   exact pn (bB 5 800000 Z Z Z Z Z) Z Z Z Z (AV.sub_refl _) trivial
theorem iX (l:List ay)(h:l.isEmpty=true):aA Tryz.prog 90 [eL b5 l] (·=.p (eL b5 [])):=by
 obtain rfl:l=[]:=by simpa using h
 refine ba good Tryz.func90 Z Z Z λ w0=>?_
 refine bI ?_
 refine cj ?_
 refine aZ Z ?_
 refine bp Z Z Z Z ?_
 refine bz ?_
 (repeat (first | refine aI ?_ | refine aM ?_ | refine b9 ?_ | refine bg Z ?_ | refine b4 ?_ | refine aV ?_ | refine aJ ?_ | refine ar ?_ | refine aD ?_ | refine ax Z ?_ | refine noGoto_ret ?_ | refine noGoto_exit ?_ | refine noGoto_normal ?_))
 refine bI ?_
 refine bI ?_
 refine cj ?_
 refine aZ Z ?_
 refine cR Z Z Z Z ?_
 refine aZ Z ?_
 refine nf Z Z Z Z Z Z Z Z (λ b hb=>?_)
 refine bz ?_
 (repeat (first | refine aI ?_ | refine aM ?_ | refine b9 ?_ | refine bg Z ?_ | refine b4 ?_ | refine aV ?_ | refine aJ ?_ | refine ar ?_ | refine aD ?_ | refine ax Z ?_ | refine noGoto_ret ?_ | refine noGoto_exit ?_ | refine noGoto_normal ?_))
 refine iz Z (λ hc=>?_) (λ hc=>?_)
 ·skip
  refine bI ?_
  refine cj ?_
  refine aZ Z ?_
  refine bp Z Z Z Z ?_
  refine bz ?_
  (repeat (first | refine aI ?_ | refine aM ?_ | refine b9 ?_ | refine bg Z ?_ | refine b4 ?_ | refine aV ?_ | refine aJ ?_ | refine ar ?_ | refine aD ?_ | refine ax Z ?_ | refine noGoto_ret ?_ | refine noGoto_exit ?_ | refine noGoto_normal ?_))
  refine di ?_
  (repeat (first | refine aI ?_ | refine aM ?_ | refine b9 ?_ | refine bg Z ?_ | refine b4 ?_ | refine aV ?_ | refine aJ ?_ | refine ar ?_ | refine aD ?_ | refine ax Z ?_ | refine noGoto_ret ?_ | refine noGoto_exit ?_ | refine noGoto_normal ?_))
  refine nF Z ?_
  exact jm _
 ·skip
  refine de ?_
  (repeat (first | refine aI ?_ | refine aM ?_ | refine b9 ?_ | refine bg Z ?_ | refine b4 ?_ | refine aV ?_ | refine aJ ?_ | refine ar ?_ | refine aD ?_ | refine ax Z ?_ | refine noGoto_ret ?_ | refine noGoto_exit ?_ | refine noGoto_normal ?_))
  refine bI ?_
  refine cj ?_
  refine aZ Z ?_
  refine uo Z Z Z Z Z Z Z 5 5 ?_
  refine aZ Z ?_
  refine cR Z Z Z Z ?_
  refine aZ Z ?_
  refine gB b5 [] [] Z Z Z Z Z Z Z Z Z Z Z Z Z (λ x=>congrArg List.length (ay.cells_eq x)) Z Z Z Z (by decide) ?_
  refine aZ Z ?_
  refine bp Z Z Z Z ?_
  refine bz ?_
  (repeat (first | refine aI ?_ | refine aM ?_ | refine b9 ?_ | refine bg Z ?_ | refine b4 ?_ | refine aV ?_ | refine aJ ?_ | refine ar ?_ | refine aD ?_ | refine ax Z ?_ | refine noGoto_ret ?_ | refine noGoto_exit ?_ | refine noGoto_normal ?_))
  refine di ?_
  (repeat (first | refine aI ?_ | refine aM ?_ | refine b9 ?_ | refine bg Z ?_ | refine b4 ?_ | refine aV ?_ | refine aJ ?_ | refine ar ?_ | refine aD ?_ | refine ax Z ?_ | refine noGoto_ret ?_ | refine noGoto_exit ?_ | refine noGoto_normal ?_))
  refine nF Z ?_
  exact AV.sub_vec _ _ _ _
theorem iY (l:List ay)(h:l.isEmpty=false)(hlen:l.length*80≤140737488355328):bN Tryz.prog 90 [.p (eL b5 l)] [] (λ x y=>x=.arr 2000000 5 0 l.length∧y=[(2000000,iZ b5 l)]):=by
 refine gR good [800000] [800000] Tryz.func90 Z Z Z Z Z λ w0 F=>?_
 refine bI ?_
 refine cj ?_
 refine aZ Z ?_
 refine bp Z Z Z Z ?_
 refine bz ?_
 (repeat (first | refine aI ?_ | refine aM ?_ | refine b9 ?_ | refine bg Z ?_ | refine b4 ?_ | refine aV ?_ | refine aJ ?_ | refine ar ?_ | refine aD ?_ | refine ax Z ?_ | refine noGoto_ret ?_ | refine noGoto_exit ?_ | refine noGoto_normal ?_))
 refine bI ?_
 refine bI ?_
 refine cj ?_
 refine aZ Z ?_
 refine cR Z Z Z Z ?_
 refine aZ Z ?_
 refine nf Z Z Z Z Z Z Z Z (λ b hb=>?_)
 refine bz ?_
 (repeat (first | refine aI ?_ | refine aM ?_ | refine b9 ?_ | refine bg Z ?_ | refine b4 ?_ | refine aV ?_ | refine aJ ?_ | refine ar ?_ | refine aD ?_ | refine ax Z ?_ | refine noGoto_ret ?_ | refine noGoto_exit ?_ | refine noGoto_normal ?_))
 refine iz Z (λ hc=>?_) (λ hc=>?_)
 ·have he:l=[]:=by simpa using hb hc
  subst he
  cases h
 ·skip
  refine de ?_
  (repeat (first | refine aI ?_ | refine aM ?_ | refine b9 ?_ | refine bg Z ?_ | refine b4 ?_ | refine aV ?_ | refine aJ ?_ | refine ar ?_ | refine aD ?_ | refine ax Z ?_ | refine noGoto_ret ?_ | refine noGoto_exit ?_ | refine noGoto_normal ?_))
  refine bI ?_
  refine cj ?_
  refine aZ Z ?_
  refine wc Z Z Z Z Z Z 5 ?_
  refine aZ Z ?_
  refine cR Z Z Z Z ?_
  refine aZ Z ?_
  refine zL b5 [] l Z Z Z Z Z Z Z Z Z Z Z Z Z Z Z (λ x=>congrArg List.length (ay.cells_eq x)) Z Z Z (by simpa using hlen) ?_
  refine aZ Z ?_
  refine bp Z Z Z Z ?_
  refine bz ?_
  (repeat (first | refine aI ?_ | refine aM ?_ | refine b9 ?_ | refine bg Z ?_ | refine b4 ?_ | refine aV ?_ | refine aJ ?_ | refine ar ?_ | refine aD ?_ | refine ax Z ?_ | refine noGoto_ret ?_ | refine noGoto_exit ?_ | refine noGoto_normal ?_))
  refine di ?_
  (repeat (first | refine aI ?_ | refine aM ?_ | refine b9 ?_ | refine bg Z ?_ | refine b4 ?_ | refine aV ?_ | refine aJ ?_ | refine ar ?_ | refine aD ?_ | refine ax Z ?_ | refine noGoto_ret ?_ | refine noGoto_exit ?_ | refine noGoto_normal ?_))
  exact pn (bB 7 800000 Z Z Z Z (aK Z (aN _) Z)) Z Z Z (aK Z (aN _) Z) (AV.sub_of_eq (congrArg (AV.arr 2000000 5 0) G)) ⟨⟨_,Z,ah _⟩,trivial⟩
end Go.Ab
end
section
namespace Go.Ab.Glob
def star (l:List UInt8)(i:Nat):Prop:=((l.getD i 0).toNat:Int)=42
instance (l:List UInt8) (i:Nat):Decidable (star l i):=inferInstanceAs (Decidable (_=_))
def incLast (es:List Int):List Int:=es.set (es.length - 1) (es.getD (es.length - 1) 0+1)
def gr (l:List UInt8):Nat→List Int
 | 0=>[]
 | k+1=>if star l k then (if 0 < k∧star l (k - 1) then incLast (gr l k) else gr l k++[1]) else gr l k
theorem incLast_length (es:List Int):(incLast es).length=es.length:=by simp [incLast]
theorem gr_len (l:List UInt8):∀ k,(gr l k).length≤k
 | 0=>by simp [gr]
 | k+1=>by
  have:=gr_len l k
  simp only [gr]
  split
  ·split
   ·rw [incLast_length]; omega
   ·simp; omega
  ·omega
theorem gr_bd (l:List UInt8):∀ k,∀ x∈gr l k,1≤x∧x≤k
 | 0=>by simp [gr]
 | k+1=>by
  intro x hx
  simp only [gr] at hx
  split at hx
  ·split at hx
   ·unfold incLast at hx
    rcases List.mem_or_eq_of_mem_set hx with h | h
    ·have:=gr_bd l k x h; omega
    ·by_cases hl:(gr l k).length=0
     ·have:gr l k=[]:=List.length_eq_zero_iff.1 hl
      rw [this] at hx; simp at hx
     ·have hm:(gr l k).getD ((gr l k).length - 1) 0∈gr l k:=by
       rw [List.getD_eq_getElem?_getD,List.getElem?_eq_getElem O]
       exact List.getElem_mem _
      have:=gr_bd l k _ hm; omega
   ·rcases List.mem_append.1 hx with h | h
    ·have:=gr_bd l k x h; omega
    ·simp at h; omega
  ·have:=gr_bd l k x hx; omega
theorem gr_ne (l:List UInt8):∀ k,0 < k→star l (k - 1)→gr l k≠[]
 | 0,h,_=>by omega
 | k+1,_,hs=>by
  simp only [Nat.add_sub_cancel] at hs
  simp only [gr,if_pos hs]
  split
  ·rename_i h
   have:=gr_ne l k h.1 h.2
   intro e
   have h2:=congrArg List.length e
   rw [incLast_length] at h2
   exact this (List.length_eq_zero_iff.1 h2)
  ·simp
def rgN (l:List UInt8):Nat→Int
 | 0=>0
 | k+1=>if star l k then (if 0 < k∧star l (k - 1) then rgN l k else rgN l k+1) else rgN l k
def rgR (l:List UInt8):Nat→Int
 | 0=>0
 | k+1=>if star l k then rgR l k+1 else 0
def rgM (l:List UInt8):Nat→Int
 | 0=>0
 | k+1=>if star l k then (if rgM l k < rgR l k+1 then rgR l k+1 else rgM l k) else rgM l k
theorem rgR_pos (l:List UInt8)(k:Nat):0≤rgR l k∧rgR l k≤k∧(0 < rgR l k↔0 < k∧star l (k - 1)):=by
 induction k with
 | zero=>simp [rgR]
 | succ k ih =>
  simp only [rgR,Nat.add_sub_cancel]
  split
  ·rename_i h; refine ⟨by omega,by omega,?_⟩; simp [h]; omega
  ·rename_i h; simp [h]; omega
theorem rgN_bd (l:List UInt8)(k:Nat):0≤rgN l k∧rgN l k≤k:=by
 induction k with
 | zero=>simp [rgN]
 | succ k ih=>simp only [rgN]; split <;> (try split) <;> omega
theorem rgM_bd (l:List UInt8)(k:Nat):0≤rgM l k∧rgM l k≤k:=by
 induction k with
 | zero=>simp [rgM]
 | succ k ih=>have:=rgR_pos l k; simp only [rgM]; split <;> (try split) <;> omega
theorem rgN_gr (l:List UInt8)(k:Nat):((gr l k).length:Int)=rgN l k:=by
 induction k with
 | zero=>rfl
 | succ k ih =>
  simp only [gr,rgN]
  split
  ·split
   ·rw [incLast_length]; exact ih
   ·simp [ih]
  ·exact ih
theorem getD_last (es:List Int)(x:Int):(es++[x]).getD ((es++[x]).length - 1) 0=x:=by
 simp [List.getD_eq_getElem?_getD]
theorem incLast_snoc (es:List Int)(x:Int):incLast (es++[x])=es++[x+1]:=by
 unfold incLast
 rw [getD_last]
 simp
theorem gr_last (l:List UInt8):∀ k,0 < k→star l (k - 1)→∃ es,gr l k=es++[rgR l k]
 | 0,h,_=>by omega
 | k+1,_,hs=>by
  simp only [Nat.add_sub_cancel] at hs
  simp only [gr,rgR,if_pos hs]
  by_cases h:0 < k∧star l (k - 1)
  ·obtain ⟨es,he⟩:=gr_last l k h.1 h.2
   rw [if_pos h,he,incLast_snoc]
   exact ⟨es,Z⟩
  ·rw [if_neg h]
   have:=(rgR_pos l k)
   have h0:rgR l k=0:=by
    have h1:¬ 0 < rgR l k:=λ h2=>h (this.2.2.1 h2)
    omega
   rw [h0]
   exact ⟨gr l k,Z⟩
theorem gr_most (l:List UInt8)(k:Nat):(∀ m:Int,0≤m→((∃ x∈gr l k,m < x)↔m < rgM l k)):=by
 induction k with
 | zero=>intro m hm; simp [gr,rgM]; omega
 | succ k ih =>
  intro m hm
  have hR:=rgR_pos l k
  simp only [gr,rgM]
  by_cases h:star l k
  ·rw [if_pos h,if_pos h]
   by_cases h2:0 < k∧star l (k - 1)
   ·obtain ⟨es,he⟩:=gr_last l k h2.1 h2.2
    rw [if_pos h2,he,incLast_snoc]
    have:=ih m hm
    rw [he] at this
    constructor
    ·rintro ⟨x,hx,hmx⟩
     rcases List.mem_append.1 hx with hx | hx
     ·have h3:=this.1 ⟨x,List.mem_append.2 (.inl hx),hmx⟩
      split <;> omega
     ·simp at hx; split <;> omega
    ·intro hlt
     split at hlt
     ·exact ⟨rgR l k+1,by simp,hlt⟩
     ·obtain ⟨x,hx,hmx⟩:=this.2 hlt
      rcases List.mem_append.1 hx with hx | hx
      ·exact ⟨x,List.mem_append.2 (.inl hx),hmx⟩
      ·simp at hx; exact ⟨rgR l k+1,by simp,by omega⟩
   ·rw [if_neg h2]
    have h0:rgR l k=0:=by
     have h1:¬ 0 < rgR l k:=λ h3=>h2 (hR.2.2.1 h3)
     omega
    have:=ih m hm
    constructor
    ·rintro ⟨x,hx,hmx⟩
     rcases List.mem_append.1 hx with hx | hx
     ·have h3:=this.1 ⟨x,hx,hmx⟩
      split <;> omega
     ·simp at hx; split <;> omega
    ·intro hlt
     split at hlt
     ·exact ⟨1,by simp,by omega⟩
     ·obtain ⟨x,hx,hmx⟩:=this.2 hlt
      exact ⟨x,List.mem_append.2 (.inl hx),hmx⟩
  ·rw [if_neg h,if_neg h]
   exact ih m hm
def check (l:List UInt8):Int :=
 if 1024 < (l.length:Int) then 3 else if 16 < ((gr l l.length).length:Int) then 14 else if (gr l l.length).any (λ x=>decide (2 < x)) then 2 else if l=[] then 2 else 0
def rcheck (l:List UInt8):Int :=
 if 1024 < (l.length:Int) then 3 else if 16 < rgN l l.length then 14 else if (l.length:Int)=0∨2 < rgM l l.length then 2 else 0
theorem check_eq (l:List UInt8):check l=rcheck l:=by
 unfold check rcheck
 have h:=gr_most l l.length 2 O
 rw [rgN_gr]
 split
 ·rfl
 ·split
  ·rfl
  ·by_cases h1:(gr l l.length).any (λ x=>decide (2 < x))=true
   ·rw [if_pos h1,if_pos]
    right
    obtain ⟨x,hx,hd⟩:=List.any_eq_true.1 h1
    exact h.1 ⟨x,hx,of_decide_eq_true hd⟩
   ·rw [if_neg h1]
    have h2:¬ 2 < rgM l l.length:=λ hlt=>h1 (by
     obtain ⟨x,hx,hd⟩:=h.2 hlt
     exact List.any_eq_true.2 ⟨x,hx,decide_eq_true hd⟩)
    by_cases h3:l=[]
    ·rw [if_pos h3,if_pos (.inl (by simp [h3]))]
    ·rw [if_neg h3,if_neg]
     rintro (h4 | h4)
     ·exact h3 (List.length_eq_zero_iff.1 O)
     ·exact h2 h4
def spr (s:List UInt8)(gu:Bool)(r:List Bool):Nat→List Bool
 | 0=>r
 | k+1=>if (spr s gu r k).getD k false=true∧(gu=true∨¬ ((s.getD k 0).toNat:Int)=46) then (spr s gu r k).set (k+1) true else spr s gu r k
theorem spr_len (s:List UInt8)(gu:Bool)(r:List Bool)(k:Nat):(spr s gu r k).length=r.length:=by
 induction k with
 | zero=>rfl
 | succ k ih=>simp only [spr]; split <;> simp [ih]
def nxt (s:List UInt8)(c:UInt8)(r:List Bool):Nat→List Bool
 | 0=>List.replicate r.length false
 | k+1=>if r.getD k false=true∧((s.getD k 0).toNat:Int)=(c.toNat:Int) then (nxt s c r k).set (k+1) true else nxt s c r k
def som (s:List UInt8)(c:UInt8)(r:List Bool):Nat→Bool
 | 0=>false
 | k+1=>if r.getD k false=true∧((s.getD k 0).toNat:Int)=(c.toNat:Int) then true else som s c r k
theorem nxt_len (s:List UInt8)(c:UInt8)(r:List Bool)(k:Nat):(nxt s c r k).length=r.length:=by
 induction k with
 | zero=>simp [nxt]
 | succ k ih=>simp only [nxt]; split <;> simp [ih]
def hasP:List UInt8→List UInt8→Bool
 | _,[]=>true
 | [],_::_=>false
 | a::x,b::y=>decide (a=b)&&hasP x y
theorem hasP_take:∀ (s p:List UInt8),hasP s p=(decide (p.length≤s.length)&&decide (s.take p.length=p))
 | s,[]=>by simp [hasP]
 | [],_::_=>by simp [hasP]
 | a::x,b::y=>by
  simp only [hasP,hasP_take x y,List.length_cons,List.take_succ_cons,List.cons.injEq,Nat.add_le_add_iff_right]
  by_cases h:a=b <;> simp [h]
def mg (p s:List UInt8):Nat→Nat→List Bool→Nat×List Bool
 | 0,i,r=>(i,r)
 | f+1,i,r=>if i < p.length then
   (if hasP (p.drop i) [42,42]=true then mg p s f (i+2) (spr s true r s.length)
    else if star p i then mg p s f (i+1) (spr s false r s.length)
    else if som s (p.getD i 0) r s.length=true then mg p s f (i+1) (nxt s (p.getD i 0) r s.length) else (i,nxt s (p.getD i 0) r s.length))
  else (i,r)
def ini (s:List UInt8):List Bool:=(List.replicate (s.length+1) false).set 0 true
def matchL (p s:List UInt8):Bool :=
 if check p=0 then (if (mg p s p.length 0 (ini s)).1=p.length then (mg p s p.length 0 (ini s)).2.getD s.length false else false) else false
def anyL (ps:List (List UInt8))(s:List UInt8):Bool:=ps.any λ p=>matchL p s
end Go.Ab.Glob
section
namespace Go.Ab.Glob
open Go.Proofs Go.Ab
attribute [local irreducible] awp eC aW aA bN AV.sub
def vI (n:Int):PV:=.val (.int .i64 n)
def vS (l:List UInt8):PV:=.val (.string (str l))
def vB (b:Bool):PV:=.val (.bool b)
def outAt:List Int→AV
 | []=>.p (.val (.slice none 0 0))
 | x::r=>.arr 33 1 0 (x::r).length
def obAt:List Int→List (Nat×List AV)
 | []=>[]
 | x::r=>[(33,((x::r).map vI).map .p)]
theorem vI_one (es:List Int):(∀ x∈es.map vI,x.cells=[x])∧(∀ x∈es.map vI,x.one=true):=by
 constructor <;> (intro x hx; obtain ⟨n,_,rfl⟩:=List.mem_map.1 hx; rfl)
theorem groups_ok (l:List UInt8)(hl:l.length≤65536):aA Tryz.prog 47 [vS l] (·=.p (.slice ((gr l l.length).map vI))):=by
 refine uY good Tryz.func47 Z Z Z λ w0=>?_
 (repeat (first | refine bI ?_ | refine cj ?_ | refine aZ Z ?_ | refine bz ?_ | refine cR Z Z Z Z ?_ | refine bp Z Z Z Z ?_ | refine ib Z Z Z Z Z Z ?_ | refine eq Z Z Z Z Z Z O ?_ | refine eD Z Z Z Z Z Z ?_ | refine du Z Z Z Z Z Z Z O ?_ | refine dC Z Z Z Z Z Z Z O ?_ | refine cQ Z Z Z Z Z Z ?_ | refine lg Z Z Z (by first | rfl | assumption | exact decide_eq_true V | exact aR V) ?_ | refine kO Z Z Z (by first | rfl | assumption | exact decide_eq_false V | exact aE V) ?_ | refine kU Z Z Z (by first | rfl | assumption | exact decide_eq_false V | exact aE V) Z Z ?_ | refine kF Z Z Z (by first | rfl | assumption | exact decide_eq_true V | exact aR V) Z Z ?_ | refine ge Z Z Z Z Z ?_ | refine b7 Z Z Z Z (by first | rfl | assumption | exact decide_eq_true V | exact aR V) Z ?_ | refine bP Z Z Z Z (by first | rfl | assumption | exact decide_eq_false V | exact aE V) Z ?_ | refine iB Z (by first | rfl | assumption | exact decide_eq_true V | exact aR V) ?_ | refine iy Z (by first | rfl | assumption | exact decide_eq_false V | exact aE V) ?_ | refine ii Z Z Z Z ?_ | refine dc Z Z Z Z Z ?_ | refine dX Z Z Z Z Z Z Z Z O ?_ | refine fS Z Z Z Z Z Z ?_ | refine fV Z Z Z Z Z Z Z ?_ | refine fQ Z Z Z Z Z Z Z ?_ | refine bK Z Z Z Z Z Z Z Z Z O ?_ | refine aG Z Z Z Z Z Z Z Z Z O ?_ | refine aw false Z Z Z Z Z Z Z Z Z O Y ?_ | refine aw (0:Int) Z Z Z Z Z Z Z Z Z O Y ?_ | refine aw ([]:List UInt8) Z Z Z Z Z Z Z Z Z O Y ?_ | refine az false Z Z Z Z Z Z Z Z Z O Y ?_ | refine az (0:Int) Z Z Z Z Z Z Z Z Z O Y ?_ | refine az ([]:List UInt8) Z Z Z Z Z Z Z Z Z O Y ?_ | refine dV Z Z Z Z Z Z Z ?_ | refine dQ Z Z Z Z Z Z Z ?_ | refine bo (0:Int) Z Z Z Z Z Z Z O ?_ | refine bo false Z Z Z Z Z Z Z O ?_ | refine bV Z Z Z Z Z Z Z Z O ?_ | refine cg Z Z Z Z Z Z Z Z Z ?_ | refine ci Z Z Z Z Z Z Z Z Z ?_ | refine ce Z Z Z Z Z Z Z Z Z Z Z Z Z ?_ | refine ij Z Z Z Z Z ?_ | refine dW ?_ | refine dU ?_ | refine aM ?_ | refine aI ?_ | refine aJ ?_ | refine ar ?_ | refine aD ?_ | refine ax Z ?_ | refine noGoto_ret ?_ | refine noGoto_exit ?_ | refine noGoto_normal ?_ | refine de ?_ | refine dT ?_ | refine di ?_ | refine eF ?_ | refine bu Z Z Z Z Z (by simp only [List.length_append,List.length_cons,List.length_nil] <;> omega) ?_))
 refine nh (σ:=Nat) (λ k=>⟨[(0,.p (.val (.string (str l)))),(3,outAt (gr l k)),(6,.p (.val (.int .i64 (l.length:Int)))),(7,.p (.val (.int .i64 (k:Int))))],obAt (gr l k)⟩)
  (λ k=>k≤l.length) (λ k=>l.length - k) 0 (Nat.zero_le _) (bm ⟨⟨_,Z,AV.sub_refl _⟩,⟨_,Z,AV.sub_refl _⟩,⟨_,Z,AV.sub_refl _⟩,⟨_,Z,AV.sub_refl _⟩,trivial⟩ trivial) ?_
 intro k hk
 have hg:=gr_len l k
 have hb:=gr_bd l k
 have hne:=gr_ne l k
 have hsuc:gr l (k+1)=if star l k then (if 0 < k∧star l (k - 1) then incLast (gr l k) else gr l k++[1]) else gr l k:=rfl
 have htn:((k:Int) - 1).toNat=k - 1:=by omega
 generalize he:gr l k=es at *
 cases es with
 | nil =>
  (repeat' (first | refine xO Z Z Z Z Z Z Z Z Z Z Z (by intro y hy; simp at hy; subst hy; rfl) (Nat.le_of_ble_eq_true Z) Z Z (Nat.le_of_ble_eq_true Z) (Nat.le_of_ble_eq_true Z) ?_ | refine bI ?_ | refine cj ?_ | refine aZ Z ?_ | refine bz ?_ | refine cR Z Z Z Z ?_ | refine bp Z Z Z Z ?_ | refine ib Z Z Z Z Z Z ?_ | refine eq Z Z Z Z Z Z O ?_ | refine eD Z Z Z Z Z Z ?_ | refine du Z Z Z Z Z Z Z O ?_ | refine dC Z Z Z Z Z Z Z O ?_ | refine cQ Z Z Z Z Z Z ?_ | refine lg Z Z Z (by first | rfl | assumption | exact decide_eq_true V | exact aR V) ?_ | refine kO Z Z Z (by first | rfl | assumption | exact decide_eq_false V | exact aE V) ?_ | refine kU Z Z Z (by first | rfl | assumption | exact decide_eq_false V | exact aE V) Z Z ?_ | refine kF Z Z Z (by first | rfl | assumption | exact decide_eq_true V | exact aR V) Z Z ?_ | refine ge Z Z Z Z Z ?_ | refine b7 Z Z Z Z (by first | rfl | assumption | exact decide_eq_true V | exact aR V) Z ?_ | refine bP Z Z Z Z (by first | rfl | assumption | exact decide_eq_false V | exact aE V) Z ?_ | refine iB Z (by first | rfl | assumption | exact decide_eq_true V | exact aR V) ?_ | refine iy Z (by first | rfl | assumption | exact decide_eq_false V | exact aE V) ?_ | refine ii Z Z Z Z ?_ | refine dc Z Z Z Z Z ?_ | refine dX Z Z Z Z Z Z Z Z O ?_ | refine fS Z Z Z Z Z Z ?_ | refine fV Z Z Z Z Z Z Z ?_ | refine fQ Z Z Z Z Z Z Z ?_ | refine bK Z Z Z Z Z Z Z Z Z O ?_ | refine aG Z Z Z Z Z Z Z Z Z O ?_ | refine aw false Z Z Z Z Z Z Z Z Z O Y ?_ | refine aw (0:Int) Z Z Z Z Z Z Z Z Z O Y ?_ | refine aw ([]:List UInt8) Z Z Z Z Z Z Z Z Z O Y ?_ | refine az false Z Z Z Z Z Z Z Z Z O Y ?_ | refine az (0:Int) Z Z Z Z Z Z Z Z Z O Y ?_ | refine az ([]:List UInt8) Z Z Z Z Z Z Z Z Z O Y ?_ | refine dV Z Z Z Z Z Z Z ?_ | refine dQ Z Z Z Z Z Z Z ?_ | refine bo (0:Int) Z Z Z Z Z Z Z O ?_ | refine bo false Z Z Z Z Z Z Z O ?_ | refine bV Z Z Z Z Z Z Z Z O ?_ | refine cg Z Z Z Z Z Z Z Z Z ?_ | refine ci Z Z Z Z Z Z Z Z Z ?_ | refine ce Z Z Z Z Z Z Z Z Z Z Z Z Z ?_ | refine ij Z Z Z Z Z ?_ | refine dW ?_ | refine dU ?_ | refine aM ?_ | refine aI ?_ | refine aJ ?_ | refine ar ?_ | refine aD ?_ | refine ax Z ?_ | refine noGoto_ret ?_ | refine noGoto_exit ?_ | refine noGoto_normal ?_ | refine de ?_ | refine dT ?_ | refine di ?_ | refine eF ?_ | refine bu Z Z Z Z Z (by simp only [List.length_append,List.length_cons,List.length_nil] <;> omega) ?_ | refine rJ Z Z Z (λ h=>?_) (λ h=>?_) | refine gd_N Z Z Z (λ h=>?_) (λ h=>?_) | refine rt Z Z Z (λ h=>?_) (λ h=>?_) | refine kj Z (λ h=>?_) (λ h=>?_) | refine kw Z (λ h=>?_) (λ h=>?_) | refine iz Z (λ h=>?_) (λ h=>?_)))
  ·have hn:=hsuc.trans (if_neg (show ¬ star l k by assumption))
   exact cp (k+1) O O  (bm ⟨⟨_,Z,AV.sub_refl _⟩,⟨_,Z,AV.sub_of_eq (by rw [hn] <;> rfl)⟩,⟨_,Z,AV.sub_refl _⟩,⟨_,Z,b6 O⟩,trivial⟩ (by rw [hn]; exact trivial))
  ·rw [htn] at *
   exact absurd Z (hne O (show star l (k - 1) by assumption))
  ·rw [htn] at *
   have hn:=(hsuc.trans (if_pos (show star l k by assumption))).trans (if_neg (λ h=>absurd h.2 (by assumption)))
   exact cp (k+1) O O  (bm ⟨⟨_,Z,AV.sub_refl _⟩,⟨_,Z,AV.sub_of_eq (by rw [hn] <;> rfl)⟩,⟨_,Z,AV.sub_refl _⟩,⟨_,Z,b6 O⟩,trivial⟩ (by rw [hn]; exact ⟨⟨_,Z,ah _⟩,trivial⟩))
  ·have hn:=(hsuc.trans (if_pos (show star l k by assumption))).trans (if_neg O)
   exact cp (k+1) O O  (bm ⟨⟨_,Z,AV.sub_refl _⟩,⟨_,Z,AV.sub_of_eq (by rw [hn] <;> rfl)⟩,⟨_,Z,AV.sub_refl _⟩,⟨_,Z,b6 O⟩,trivial⟩ (by rw [hn]; exact ⟨⟨_,Z,ah _⟩,trivial⟩))
  ·obtain rfl:k=l.length:=by omega
   refine iD Z ?_
   rw [he]
   exact AV.sub_nilv
 | cons x r =>
  have hp:0 < (x::r).length:=Nat.zero_lt_succ _
  have hx:∀ n:Int,0≤n→n < (x::r).length→1≤(x::r).getD n.toNat 0∧(x::r).getD n.toNat 0≤k:=by
   intro n h1 h2
   refine hb _ ?_
   rw [List.getD_eq_getElem?_getD,List.getElem?_eq_getElem O]
   exact List.getElem_mem _
  have hx1:=hx ((x::r).length - 1) O O
  (repeat' (first | refine x8 (c:=.ret) 2 Z Z Z G (vI_one _).1 (vI_one _).2 ?_ | refine yV Z Z Z Z Z Z Z Z Z Z Z G rfl Z (by intro y hy; simp at hy; subst hy; rfl) Z Z (by simp only [List.length_map,List.length_cons,List.length_nil]; show _*8≤_; simp only [List.length_cons] at hg; omega) (by simp only [List.length_map,List.length_cons,List.length_nil]; simp only [List.length_cons] at hg; omega) ?_ | refine bI ?_ | refine cj ?_ | refine aZ Z ?_ | refine bz ?_ | refine cR Z Z Z Z ?_ | refine bp Z Z Z Z ?_ | refine ib Z Z Z Z Z Z ?_ | refine eq Z Z Z Z Z Z O ?_ | refine eD Z Z Z Z Z Z ?_ | refine du Z Z Z Z Z Z Z O ?_ | refine dC Z Z Z Z Z Z Z O ?_ | refine cQ Z Z Z Z Z Z ?_ | refine lg Z Z Z (by first | rfl | assumption | exact decide_eq_true V | exact aR V) ?_ | refine kO Z Z Z (by first | rfl | assumption | exact decide_eq_false V | exact aE V) ?_ | refine kU Z Z Z (by first | rfl | assumption | exact decide_eq_false V | exact aE V) Z Z ?_ | refine kF Z Z Z (by first | rfl | assumption | exact decide_eq_true V | exact aR V) Z Z ?_ | refine ge Z Z Z Z Z ?_ | refine b7 Z Z Z Z (by first | rfl | assumption | exact decide_eq_true V | exact aR V) Z ?_ | refine bP Z Z Z Z (by first | rfl | assumption | exact decide_eq_false V | exact aE V) Z ?_ | refine iB Z (by first | rfl | assumption | exact decide_eq_true V | exact aR V) ?_ | refine iy Z (by first | rfl | assumption | exact decide_eq_false V | exact aE V) ?_ | refine ii Z Z Z Z ?_ | refine dc Z Z Z Z Z ?_ | refine dX Z Z Z Z Z Z Z Z O ?_ | refine fS Z Z Z Z Z Z ?_ | refine fV Z Z Z Z Z Z Z ?_ | refine fQ Z Z Z Z Z Z Z ?_ | refine bK Z Z Z Z Z Z Z Z Z O ?_ | refine aG Z Z Z Z Z Z Z Z Z O ?_ | refine aw false Z Z Z Z Z Z Z Z Z O Y ?_ | refine aw (0:Int) Z Z Z Z Z Z Z Z Z O Y ?_ | refine aw ([]:List UInt8) Z Z Z Z Z Z Z Z Z O Y ?_ | refine az false Z Z Z Z Z Z Z Z Z O Y ?_ | refine az (0:Int) Z Z Z Z Z Z Z Z Z O Y ?_ | refine az ([]:List UInt8) Z Z Z Z Z Z Z Z Z O Y ?_ | refine dV Z Z Z Z Z Z Z ?_ | refine dQ Z Z Z Z Z Z Z ?_ | refine bo (0:Int) Z Z Z Z Z Z Z O ?_ | refine bo false Z Z Z Z Z Z Z O ?_ | refine bV Z Z Z Z Z Z Z Z O ?_ | refine cg Z Z Z Z Z Z Z Z Z ?_ | refine ci Z Z Z Z Z Z Z Z Z ?_ | refine ce Z Z Z Z Z Z Z Z Z Z Z Z Z ?_ | refine ij Z Z Z Z Z ?_ | refine dW ?_ | refine dU ?_ | refine aM ?_ | refine aI ?_ | refine aJ ?_ | refine ar ?_ | refine aD ?_ | refine ax Z ?_ | refine noGoto_ret ?_ | refine noGoto_exit ?_ | refine noGoto_normal ?_ | refine de ?_ | refine dT ?_ | refine di ?_ | refine eF ?_ | refine bu Z Z Z Z Z (by simp only [List.length_append,List.length_cons,List.length_nil] <;> omega) ?_ | refine rJ Z Z Z (λ h=>?_) (λ h=>?_) | refine gd_N Z Z Z (λ h=>?_) (λ h=>?_) | refine rt Z Z Z (λ h=>?_) (λ h=>?_) | refine kj Z (λ h=>?_) (λ h=>?_) | refine kw Z (λ h=>?_) (λ h=>?_) | refine iz Z (λ h=>?_) (λ h=>?_)))
  ·have hn:=hsuc.trans (if_neg (show ¬ star l k by assumption))
   exact cp (k+1) O O  (bm ⟨⟨_,Z,AV.sub_refl _⟩,⟨_,Z,AV.sub_of_eq (by rw [hn] <;> rfl)⟩,⟨_,Z,AV.sub_refl _⟩,⟨_,Z,b6 O⟩,trivial⟩ (by rw [hn]; exact ⟨⟨_,Z,ah _⟩,trivial⟩))
  ·rw [htn] at *
   have hn:=(hsuc.trans (if_pos (show star l k by assumption))).trans (if_pos ⟨by omega,show star l (k - 1) by assumption⟩)
   obtain ⟨y,q,hq⟩:∃ y q,incLast (x::r)=y::q:=by
    cases hi:incLast (x::r) with
    | nil=>have:=congrArg List.length hi; rw [incLast_length] at this; simp at this
    | cons y q=>exact ⟨y,q,Z⟩
   have hql:(y::q).length=(x::r).length:=by rw [← hq,incLast_length]
   exact cp (k+1) O O  (bm ⟨⟨_,Z,AV.sub_refl _⟩,⟨_,Z,AV.sub_of_eq (by rw [hn]; rw [hq]; simp only [outAt,hql])⟩,⟨_,Z,AV.sub_refl _⟩,⟨_,Z,b6 O⟩,trivial⟩ (by rw [hn]; exact by rw [hq]; exact ⟨⟨_,Z,fO (by rw [← hq,incLast,show (((x::r).length:Int) - 1).toNat=(x::r).length - 1 by omega])⟩,trivial⟩))
  ·rw [htn] at *
   have hn:=(hsuc.trans (if_pos (show star l k by assumption))).trans (if_neg (λ h=>absurd h.2 (by assumption)))
   exact cp (k+1) O O  (bm ⟨⟨_,Z,AV.sub_refl _⟩,⟨_,Z,AV.sub_of_eq (by rw [hn]; simp [outAt])⟩,⟨_,Z,AV.sub_refl _⟩,⟨_,Z,b6 O⟩,trivial⟩ (by rw [hn]; exact ⟨⟨_,Z,fO (by simp [vI])⟩,trivial⟩))
  ·obtain rfl:k=l.length:=by omega
   refine iD Z ?_
   rw [he]
   exact AV.sub_refl _
theorem rgroups_ok (l:List UInt8)(hl:l.length≤65536):aA Tryz.prog 48 [vS l] (·=.tuple [.p (vI (rgN l l.length)),.p (vI (rgM l l.length))]):=by
 refine uY good Tryz.func48 Z Z Z λ w0=>?_
 (repeat (first | refine bI ?_ | refine cj ?_ | refine aZ Z ?_ | refine bz ?_ | refine cR Z Z Z Z ?_ | refine bp Z Z Z Z ?_ | refine ib Z Z Z Z Z Z ?_ | refine eq Z Z Z Z Z Z O ?_ | refine eD Z Z Z Z Z Z ?_ | refine du Z Z Z Z Z Z Z O ?_ | refine dC Z Z Z Z Z Z Z O ?_ | refine cQ Z Z Z Z Z Z ?_ | refine lg Z Z Z (by first | rfl | assumption | exact decide_eq_true V | exact aR V) ?_ | refine kO Z Z Z (by first | rfl | assumption | exact decide_eq_false V | exact aE V) ?_ | refine kU Z Z Z (by first | rfl | assumption | exact decide_eq_false V | exact aE V) Z Z ?_ | refine kF Z Z Z (by first | rfl | assumption | exact decide_eq_true V | exact aR V) Z Z ?_ | refine ge Z Z Z Z Z ?_ | refine b7 Z Z Z Z (by first | rfl | assumption | exact decide_eq_true V | exact aR V) Z ?_ | refine bP Z Z Z Z (by first | rfl | assumption | exact decide_eq_false V | exact aE V) Z ?_ | refine iB Z (by first | rfl | assumption | exact decide_eq_true V | exact aR V) ?_ | refine iy Z (by first | rfl | assumption | exact decide_eq_false V | exact aE V) ?_ | refine ii Z Z Z Z ?_ | refine dc Z Z Z Z Z ?_ | refine dX Z Z Z Z Z Z Z Z O ?_ | refine fS Z Z Z Z Z Z ?_ | refine fV Z Z Z Z Z Z Z ?_ | refine fQ Z Z Z Z Z Z Z ?_ | refine bK Z Z Z Z Z Z Z Z Z O ?_ | refine aG Z Z Z Z Z Z Z Z Z O ?_ | refine aw false Z Z Z Z Z Z Z Z Z O Y ?_ | refine aw (0:Int) Z Z Z Z Z Z Z Z Z O Y ?_ | refine aw ([]:List UInt8) Z Z Z Z Z Z Z Z Z O Y ?_ | refine az false Z Z Z Z Z Z Z Z Z O Y ?_ | refine az (0:Int) Z Z Z Z Z Z Z Z Z O Y ?_ | refine az ([]:List UInt8) Z Z Z Z Z Z Z Z Z O Y ?_ | refine dV Z Z Z Z Z Z Z ?_ | refine dQ Z Z Z Z Z Z Z ?_ | refine bo (0:Int) Z Z Z Z Z Z Z O ?_ | refine bo false Z Z Z Z Z Z Z O ?_ | refine bV Z Z Z Z Z Z Z Z O ?_ | refine cg Z Z Z Z Z Z Z Z Z ?_ | refine ci Z Z Z Z Z Z Z Z Z ?_ | refine ce Z Z Z Z Z Z Z Z Z Z Z Z Z ?_ | refine ij Z Z Z Z Z ?_ | refine dW ?_ | refine dU ?_ | refine aM ?_ | refine aI ?_ | refine aJ ?_ | refine ar ?_ | refine aD ?_ | refine ax Z ?_ | refine noGoto_ret ?_ | refine noGoto_exit ?_ | refine noGoto_normal ?_ | refine de ?_ | refine dT ?_ | refine di ?_ | refine eF ?_ | refine bu Z Z Z Z Z (by simp only [List.length_append,List.length_cons,List.length_nil] <;> omega) ?_))
 refine nh (σ:=Nat) (λ k=>⟨[(0,.p (.val (.string (str l)))),(4,.p (.val (.int .i64 (rgN l k)))),(5,.p (.val (.int .i64 (rgM l k)))),(6,.p (.val (.int .i64 (rgR l k)))),(7,.p (.val (.int .i64 (k:Int))))],[]⟩)
  (λ k=>k≤l.length) (λ k=>l.length - k) 0 (Nat.zero_le _) (bm ⟨⟨_,Z,AV.sub_refl _⟩,⟨_,Z,AV.sub_refl _⟩,⟨_,Z,AV.sub_refl _⟩,⟨_,Z,AV.sub_refl _⟩,⟨_,Z,AV.sub_refl _⟩,trivial⟩ trivial) ?_
 intro k hk
 have h1:=rgR_pos l k
 have h2:=rgN_bd l k
 have h3:=rgM_bd l k
 have hpos:(0 < rgR l k)↔0 < k∧star l (k - 1):=h1.2.2
 have b1:0≤rgR l k∧rgR l k≤k:=⟨h1.1,h1.2.1⟩
 clear h1
 have n1:rgN l (k+1)=if star l k then (if 0 < k∧star l (k - 1) then rgN l k else rgN l k+1) else rgN l k:=rfl
 have n2:rgM l (k+1)=if star l k then (if rgM l k < rgR l k+1 then rgR l k+1 else rgM l k) else rgM l k:=rfl
 have n3:rgR l (k+1)=if star l k then rgR l k+1 else 0:=rfl
 (repeat' (first | refine bI ?_ | refine cj ?_ | refine aZ Z ?_ | refine bz ?_ | refine cR Z Z Z Z ?_ | refine bp Z Z Z Z ?_ | refine ib Z Z Z Z Z Z ?_ | refine eq Z Z Z Z Z Z O ?_ | refine eD Z Z Z Z Z Z ?_ | refine du Z Z Z Z Z Z Z O ?_ | refine dC Z Z Z Z Z Z Z O ?_ | refine cQ Z Z Z Z Z Z ?_ | refine lg Z Z Z (by first | rfl | assumption | exact decide_eq_true V | exact aR V) ?_ | refine kO Z Z Z (by first | rfl | assumption | exact decide_eq_false V | exact aE V) ?_ | refine kU Z Z Z (by first | rfl | assumption | exact decide_eq_false V | exact aE V) Z Z ?_ | refine kF Z Z Z (by first | rfl | assumption | exact decide_eq_true V | exact aR V) Z Z ?_ | refine ge Z Z Z Z Z ?_ | refine b7 Z Z Z Z (by first | rfl | assumption | exact decide_eq_true V | exact aR V) Z ?_ | refine bP Z Z Z Z (by first | rfl | assumption | exact decide_eq_false V | exact aE V) Z ?_ | refine iB Z (by first | rfl | assumption | exact decide_eq_true V | exact aR V) ?_ | refine iy Z (by first | rfl | assumption | exact decide_eq_false V | exact aE V) ?_ | refine ii Z Z Z Z ?_ | refine dc Z Z Z Z Z ?_ | refine dX Z Z Z Z Z Z Z Z O ?_ | refine fS Z Z Z Z Z Z ?_ | refine fV Z Z Z Z Z Z Z ?_ | refine fQ Z Z Z Z Z Z Z ?_ | refine bK Z Z Z Z Z Z Z Z Z O ?_ | refine aG Z Z Z Z Z Z Z Z Z O ?_ | refine aw false Z Z Z Z Z Z Z Z Z O Y ?_ | refine aw (0:Int) Z Z Z Z Z Z Z Z Z O Y ?_ | refine aw ([]:List UInt8) Z Z Z Z Z Z Z Z Z O Y ?_ | refine az false Z Z Z Z Z Z Z Z Z O Y ?_ | refine az (0:Int) Z Z Z Z Z Z Z Z Z O Y ?_ | refine az ([]:List UInt8) Z Z Z Z Z Z Z Z Z O Y ?_ | refine dV Z Z Z Z Z Z Z ?_ | refine dQ Z Z Z Z Z Z Z ?_ | refine bo (0:Int) Z Z Z Z Z Z Z O ?_ | refine bo false Z Z Z Z Z Z Z O ?_ | refine bV Z Z Z Z Z Z Z Z O ?_ | refine cg Z Z Z Z Z Z Z Z Z ?_ | refine ci Z Z Z Z Z Z Z Z Z ?_ | refine ce Z Z Z Z Z Z Z Z Z Z Z Z Z ?_ | refine ij Z Z Z Z Z ?_ | refine dW ?_ | refine dU ?_ | refine aM ?_ | refine aI ?_ | refine aJ ?_ | refine ar ?_ | refine aD ?_ | refine ax Z ?_ | refine noGoto_ret ?_ | refine noGoto_exit ?_ | refine noGoto_normal ?_ | refine de ?_ | refine dT ?_ | refine di ?_ | refine eF ?_ | refine bu Z Z Z Z Z (by simp only [List.length_append,List.length_cons,List.length_nil] <;> omega) ?_ | refine rJ Z Z Z (λ h=>?_) (λ h=>?_) | refine gd_N Z Z Z (λ h=>?_) (λ h=>?_) | refine rt Z Z Z (λ h=>?_) (λ h=>?_) | refine kj Z (λ h=>?_) (λ h=>?_) | refine kw Z (λ h=>?_) (λ h=>?_) | refine iz Z (λ h=>?_) (λ h=>?_)))
 ·have hs:¬ star l k:=by assumption
  rw [if_neg hs] at n1 n2 n3
  exact cp (k+1) O O  (bm ⟨⟨_,Z,AV.sub_refl _⟩,⟨_,Z,b6 n1.symm⟩,⟨_,Z,b6 n2.symm⟩,⟨_,Z,b6 n3.symm⟩,⟨_,Z,b6 O⟩,trivial⟩ trivial)
 ·have hs:star l k:=by assumption
  rw [if_pos hs] at n1 n2 n3
  have h0:rgR l k+1=1:=by assumption
  rw [if_neg (λ h=>by have:=hpos.2 h; omega)] at n1
  exact cp (k+1) O O  (bm ⟨⟨_,Z,AV.sub_refl _⟩,⟨_,Z,b6 n1.symm⟩,⟨_,Z,b6 n2.symm⟩,⟨_,Z,b6 n3.symm⟩,⟨_,Z,b6 O⟩,trivial⟩ trivial)
 ·have hs:star l k:=by assumption
  rw [if_pos hs] at n1 n2 n3
  have h0:¬ rgR l k+1=1:=by assumption
  rw [if_pos (hpos.1 O)] at n1
  exact cp (k+1) O O  (bm ⟨⟨_,Z,AV.sub_refl _⟩,⟨_,Z,b6 n1.symm⟩,⟨_,Z,b6 n2.symm⟩,⟨_,Z,b6 n3.symm⟩,⟨_,Z,b6 O⟩,trivial⟩ trivial)
 ·obtain rfl:k=l.length:=by omega
  exact iD Z (AV.sub_refl _)
theorem rcheck_ok (l:List UInt8)(hl:l.length≤65536):aA Tryz.prog 29 [vS l] (·=.p (vI (rcheck l))):=by
 refine uY good Tryz.func29 Z Z Z λ w0=>?_
 (repeat' (first | refine bw (rgroups_ok l hl) Z Z Z Z ⟨AV.sub_refl _,trivial⟩ Tryz.call48 Z ?_ | refine bI ?_ | refine cj ?_ | refine aZ Z ?_ | refine bz ?_ | refine cR Z Z Z Z ?_ | refine bp Z Z Z Z ?_ | refine ib Z Z Z Z Z Z ?_ | refine eq Z Z Z Z Z Z O ?_ | refine eD Z Z Z Z Z Z ?_ | refine du Z Z Z Z Z Z Z O ?_ | refine dC Z Z Z Z Z Z Z O ?_ | refine cQ Z Z Z Z Z Z ?_ | refine lg Z Z Z (by first | rfl | assumption | exact decide_eq_true V | exact aR V) ?_ | refine kO Z Z Z (by first | rfl | assumption | exact decide_eq_false V | exact aE V) ?_ | refine kU Z Z Z (by first | rfl | assumption | exact decide_eq_false V | exact aE V) Z Z ?_ | refine kF Z Z Z (by first | rfl | assumption | exact decide_eq_true V | exact aR V) Z Z ?_ | refine ge Z Z Z Z Z ?_ | refine b7 Z Z Z Z (by first | rfl | assumption | exact decide_eq_true V | exact aR V) Z ?_ | refine bP Z Z Z Z (by first | rfl | assumption | exact decide_eq_false V | exact aE V) Z ?_ | refine iB Z (by first | rfl | assumption | exact decide_eq_true V | exact aR V) ?_ | refine iy Z (by first | rfl | assumption | exact decide_eq_false V | exact aE V) ?_ | refine ii Z Z Z Z ?_ | refine dc Z Z Z Z Z ?_ | refine dX Z Z Z Z Z Z Z Z O ?_ | refine fS Z Z Z Z Z Z ?_ | refine fV Z Z Z Z Z Z Z ?_ | refine fQ Z Z Z Z Z Z Z ?_ | refine bK Z Z Z Z Z Z Z Z Z O ?_ | refine aG Z Z Z Z Z Z Z Z Z O ?_ | refine aw false Z Z Z Z Z Z Z Z Z O Y ?_ | refine aw (0:Int) Z Z Z Z Z Z Z Z Z O Y ?_ | refine aw ([]:List UInt8) Z Z Z Z Z Z Z Z Z O Y ?_ | refine az false Z Z Z Z Z Z Z Z Z O Y ?_ | refine az (0:Int) Z Z Z Z Z Z Z Z Z O Y ?_ | refine az ([]:List UInt8) Z Z Z Z Z Z Z Z Z O Y ?_ | refine dV Z Z Z Z Z Z Z ?_ | refine dQ Z Z Z Z Z Z Z ?_ | refine bo (0:Int) Z Z Z Z Z Z Z O ?_ | refine bo false Z Z Z Z Z Z Z O ?_ | refine bV Z Z Z Z Z Z Z Z O ?_ | refine cg Z Z Z Z Z Z Z Z Z ?_ | refine ci Z Z Z Z Z Z Z Z Z ?_ | refine ce Z Z Z Z Z Z Z Z Z Z Z Z Z ?_ | refine ij Z Z Z Z Z ?_ | refine dW ?_ | refine dU ?_ | refine aM ?_ | refine aI ?_ | refine aJ ?_ | refine ar ?_ | refine aD ?_ | refine ax Z ?_ | refine noGoto_ret ?_ | refine noGoto_exit ?_ | refine noGoto_normal ?_ | refine de ?_ | refine dT ?_ | refine di ?_ | refine eF ?_ | refine bu Z Z Z Z Z (by simp only [List.length_append,List.length_cons,List.length_nil] <;> omega) ?_ | refine rJ Z Z Z (λ h=>?_) (λ h=>?_) | refine gd_N Z Z Z (λ h=>?_) (λ h=>?_) | refine rt Z Z Z (λ h=>?_) (λ h=>?_) | refine kj Z (λ h=>?_) (λ h=>?_) | refine kw Z (λ h=>?_) (λ h=>?_) | refine iz Z (λ h=>?_) (λ h=>?_)))
 all_goals (refine iD Z ?_; refine b6 ?_; unfold rcheck)
 ·rw [if_pos (by assumption)]
 ·rw [if_neg (by assumption),if_pos (by assumption)]
 ·rw [if_neg (by assumption),if_neg (by assumption),if_pos (.inl (by assumption))]
 ·rw [if_neg (by assumption),if_neg (by assumption),if_pos (.inr (by assumption))]
 ·rw [if_neg (by assumption),if_neg (by assumption),if_neg (λ h=>h.elim (by assumption) (by assumption))]
theorem check_ok (l:List UInt8)(hl:l.length≤65536):aA Tryz.prog 28 [vS l] (·=.p (vI (check l))):=by
 refine uY good Tryz.func28 Z Z Z λ w0=>?_
 have hg:=gr_len l l.length
 generalize hes:gr l l.length=es at hg
 have hc:check l=if 1024 < (l.length:Int) then 3 else if 16 < (es.length:Int) then 14 else if es.any (λ x=>decide (2 < x)) then 2 else if l=[] then 2 else 0:=by rw [← hes]; rfl
 have hgo:=groups_ok l hl
 rw [hes] at hgo
 (repeat' (first | refine bw hgo Z Z Z Z ⟨AV.sub_refl _,trivial⟩ Tryz.call47 Z ?_ | refine bI ?_ | refine cj ?_ | refine aZ Z ?_ | refine bz ?_ | refine cR Z Z Z Z ?_ | refine bp Z Z Z Z ?_ | refine ib Z Z Z Z Z Z ?_ | refine eq Z Z Z Z Z Z O ?_ | refine eD Z Z Z Z Z Z ?_ | refine du Z Z Z Z Z Z Z O ?_ | refine dC Z Z Z Z Z Z Z O ?_ | refine cQ Z Z Z Z Z Z ?_ | refine lg Z Z Z (by first | rfl | assumption | exact decide_eq_true V | exact aR V) ?_ | refine kO Z Z Z (by first | rfl | assumption | exact decide_eq_false V | exact aE V) ?_ | refine kU Z Z Z (by first | rfl | assumption | exact decide_eq_false V | exact aE V) Z Z ?_ | refine kF Z Z Z (by first | rfl | assumption | exact decide_eq_true V | exact aR V) Z Z ?_ | refine ge Z Z Z Z Z ?_ | refine b7 Z Z Z Z (by first | rfl | assumption | exact decide_eq_true V | exact aR V) Z ?_ | refine bP Z Z Z Z (by first | rfl | assumption | exact decide_eq_false V | exact aE V) Z ?_ | refine iB Z (by first | rfl | assumption | exact decide_eq_true V | exact aR V) ?_ | refine iy Z (by first | rfl | assumption | exact decide_eq_false V | exact aE V) ?_ | refine ii Z Z Z Z ?_ | refine dc Z Z Z Z Z ?_ | refine dX Z Z Z Z Z Z Z Z O ?_ | refine fS Z Z Z Z Z Z ?_ | refine fV Z Z Z Z Z Z Z ?_ | refine fQ Z Z Z Z Z Z Z ?_ | refine bK Z Z Z Z Z Z Z Z Z O ?_ | refine aG Z Z Z Z Z Z Z Z Z O ?_ | refine aw false Z Z Z Z Z Z Z Z Z O Y ?_ | refine aw (0:Int) Z Z Z Z Z Z Z Z Z O Y ?_ | refine aw ([]:List UInt8) Z Z Z Z Z Z Z Z Z O Y ?_ | refine az false Z Z Z Z Z Z Z Z Z O Y ?_ | refine az (0:Int) Z Z Z Z Z Z Z Z Z O Y ?_ | refine az ([]:List UInt8) Z Z Z Z Z Z Z Z Z O Y ?_ | refine dV Z Z Z Z Z Z Z ?_ | refine dQ Z Z Z Z Z Z Z ?_ | refine bo (0:Int) Z Z Z Z Z Z Z O ?_ | refine bo false Z Z Z Z Z Z Z O ?_ | refine bV Z Z Z Z Z Z Z Z O ?_ | refine cg Z Z Z Z Z Z Z Z Z ?_ | refine ci Z Z Z Z Z Z Z Z Z ?_ | refine ce Z Z Z Z Z Z Z Z Z Z Z Z Z ?_ | refine ij Z Z Z Z Z ?_ | refine dW ?_ | refine dU ?_ | refine aM ?_ | refine aI ?_ | refine aJ ?_ | refine ar ?_ | refine aD ?_ | refine ax Z ?_ | refine noGoto_ret ?_ | refine noGoto_exit ?_ | refine noGoto_normal ?_ | refine de ?_ | refine dT ?_ | refine di ?_ | refine eF ?_ | refine bu Z Z Z Z Z (by simp only [List.length_append,List.length_cons,List.length_nil] <;> omega) ?_ | refine rJ Z Z Z (λ h=>?_) (λ h=>?_) | refine gd_N Z Z Z (λ h=>?_) (λ h=>?_) | refine rt Z Z Z (λ h=>?_) (λ h=>?_) | refine kj Z (λ h=>?_) (λ h=>?_) | refine kw Z (λ h=>?_) (λ h=>?_) | refine iz Z (λ h=>?_) (λ h=>?_)))
 ·refine iD Z ?_; refine b6 ?_; rw [hc,if_pos (by assumption)]
 ·refine iD Z ?_; refine b6 ?_; rw [hc,if_neg (by assumption),if_pos (by assumption)]
 rw [if_neg (by assumption),if_neg (by assumption)] at hc
 refine nh (σ:=Nat) (λ k=>⟨[(0,.p (.val (.string (str l)))),(14,.p (.slice (es.map vI))),(15,.p (.val (.int .i64 (es.length:Int)))),(16,.p (.val (.int .i64 (k:Int))))],[]⟩)
  (λ k=>k≤es.length∧∀ j,j < k→¬ 2 < es.getD j 0) (λ k=>es.length - k) 0 ⟨Nat.zero_le _,λ j h=>absurd h (Nat.not_lt_zero j)⟩ (bm ⟨⟨_,Z,AV.sub_refl _⟩,⟨_,Z,AV.sub_refl _⟩,⟨_,Z,AV.sub_refl _⟩,⟨_,Z,AV.sub_refl _⟩,trivial⟩ trivial) ?_
 rintro k ⟨hk,hj⟩
 (repeat' (first | refine bI ?_ | refine cj ?_ | refine aZ Z ?_ | refine bz ?_ | refine cR Z Z Z Z ?_ | refine bp Z Z Z Z ?_ | refine ib Z Z Z Z Z Z ?_ | refine eq Z Z Z Z Z Z O ?_ | refine eD Z Z Z Z Z Z ?_ | refine du Z Z Z Z Z Z Z O ?_ | refine dC Z Z Z Z Z Z Z O ?_ | refine cQ Z Z Z Z Z Z ?_ | refine lg Z Z Z (by first | rfl | assumption | exact decide_eq_true V | exact aR V) ?_ | refine kO Z Z Z (by first | rfl | assumption | exact decide_eq_false V | exact aE V) ?_ | refine kU Z Z Z (by first | rfl | assumption | exact decide_eq_false V | exact aE V) Z Z ?_ | refine kF Z Z Z (by first | rfl | assumption | exact decide_eq_true V | exact aR V) Z Z ?_ | refine ge Z Z Z Z Z ?_ | refine b7 Z Z Z Z (by first | rfl | assumption | exact decide_eq_true V | exact aR V) Z ?_ | refine bP Z Z Z Z (by first | rfl | assumption | exact decide_eq_false V | exact aE V) Z ?_ | refine iB Z (by first | rfl | assumption | exact decide_eq_true V | exact aR V) ?_ | refine iy Z (by first | rfl | assumption | exact decide_eq_false V | exact aE V) ?_ | refine ii Z Z Z Z ?_ | refine dc Z Z Z Z Z ?_ | refine dX Z Z Z Z Z Z Z Z O ?_ | refine fS Z Z Z Z Z Z ?_ | refine fV Z Z Z Z Z Z Z ?_ | refine fQ Z Z Z Z Z Z Z ?_ | refine bK Z Z Z Z Z Z Z Z Z O ?_ | refine aG Z Z Z Z Z Z Z Z Z O ?_ | refine aw false Z Z Z Z Z Z Z Z Z O Y ?_ | refine aw (0:Int) Z Z Z Z Z Z Z Z Z O Y ?_ | refine aw ([]:List UInt8) Z Z Z Z Z Z Z Z Z O Y ?_ | refine az false Z Z Z Z Z Z Z Z Z O Y ?_ | refine az (0:Int) Z Z Z Z Z Z Z Z Z O Y ?_ | refine az ([]:List UInt8) Z Z Z Z Z Z Z Z Z O Y ?_ | refine dV Z Z Z Z Z Z Z ?_ | refine dQ Z Z Z Z Z Z Z ?_ | refine bo (0:Int) Z Z Z Z Z Z Z O ?_ | refine bo false Z Z Z Z Z Z Z O ?_ | refine bV Z Z Z Z Z Z Z Z O ?_ | refine cg Z Z Z Z Z Z Z Z Z ?_ | refine ci Z Z Z Z Z Z Z Z Z ?_ | refine ce Z Z Z Z Z Z Z Z Z Z Z Z Z ?_ | refine ij Z Z Z Z Z ?_ | refine dW ?_ | refine dU ?_ | refine aM ?_ | refine aI ?_ | refine aJ ?_ | refine ar ?_ | refine aD ?_ | refine ax Z ?_ | refine noGoto_ret ?_ | refine noGoto_exit ?_ | refine noGoto_normal ?_ | refine de ?_ | refine dT ?_ | refine di ?_ | refine eF ?_ | refine bu Z Z Z Z Z (by simp only [List.length_append,List.length_cons,List.length_nil] <;> omega) ?_ | refine rJ Z Z Z (λ h=>?_) (λ h=>?_) | refine gd_N Z Z Z (λ h=>?_) (λ h=>?_) | refine rt Z Z Z (λ h=>?_) (λ h=>?_) | refine kj Z (λ h=>?_) (λ h=>?_) | refine kw Z (λ h=>?_) (λ h=>?_) | refine iz Z (λ h=>?_) (λ h=>?_)))
 ·have h2:2 < es.getD k 0:=by assumption
  have h3:es.any (λ x=>decide (2 < x))=true:=List.any_eq_true.2 ⟨es.getD k 0,by rw [List.getD_eq_getElem?_getD,List.getElem?_eq_getElem O]; exact List.getElem_mem _,decide_eq_true h2⟩
  refine iD Z ?_; refine b6 ?_; rw [hc,if_pos h3]
 ·have h2:¬ 2 < es.getD k 0:=by assumption
  refine cp (k+1) ?_ O (bm ⟨⟨_,Z,AV.sub_refl _⟩,⟨_,Z,AV.sub_refl _⟩,⟨_,Z,AV.sub_refl _⟩,⟨_,Z,b6 O⟩,trivial⟩ trivial)
  refine ⟨by omega,λ j h=>?_⟩
  by_cases e:j=k
  ·subst e; exact h2
  ·exact hj j O
 all_goals
  have h3:¬ es.any (λ x=>decide (2 < x))=true:=λ h=>by
   obtain ⟨x,hx,hd⟩:=List.any_eq_true.1 h
   obtain ⟨j,hjl,rfl⟩:=List.getElem_of_mem hx
   have:=hj j O
   rw [List.getD_eq_getElem?_getD,List.getElem?_eq_getElem hjl] at this
   exact this (of_decide_eq_true hd)
  rw [if_neg h3] at hc
 ·refine iD Z ?_; refine b6 ?_; rw [hc,if_pos (by assumption)]
 ·refine iD Z ?_; refine b6 ?_; rw [hc,if_neg (by assumption)]
theorem spread_ok (s:List UInt8)(gu:Bool)(r:List Bool)(hs:s.length≤65536)(hr:r.length=s.length+1) :
  bN Tryz.prog 69 [.arr M1 1 0 r.length,.p (vS s),.p (vB gu)] [(M1,(r.map vB).map .p)] (λ x y=>x=.tuple []∧y=[(M1,((spr s gu r s.length).map vB).map .p)]):=by
 refine oJ good [] [M1] Tryz.func69 Z (Nat.le_of_ble_eq_true Z) Z Z Z λ w0 F=>?_
 (repeat (first | refine bI ?_ | refine cj ?_ | refine aZ Z ?_ | refine bz ?_ | refine cR Z Z Z Z ?_ | refine bp Z Z Z Z ?_ | refine ib Z Z Z Z Z Z ?_ | refine eq Z Z Z Z Z Z O ?_ | refine eD Z Z Z Z Z Z ?_ | refine du Z Z Z Z Z Z Z O ?_ | refine dC Z Z Z Z Z Z Z O ?_ | refine cQ Z Z Z Z Z Z ?_ | refine lg Z Z Z (by first | rfl | assumption | exact decide_eq_true V | exact aR V) ?_ | refine kO Z Z Z (by first | rfl | assumption | exact decide_eq_false V | exact aE V) ?_ | refine kU Z Z Z (by first | rfl | assumption | exact decide_eq_false V | exact aE V) Z Z ?_ | refine kF Z Z Z (by first | rfl | assumption | exact decide_eq_true V | exact aR V) Z Z ?_ | refine ge Z Z Z Z Z ?_ | refine b7 Z Z Z Z (by first | rfl | assumption | exact decide_eq_true V | exact aR V) Z ?_ | refine bP Z Z Z Z (by first | rfl | assumption | exact decide_eq_false V | exact aE V) Z ?_ | refine iB Z (by first | rfl | assumption | exact decide_eq_true V | exact aR V) ?_ | refine iy Z (by first | rfl | assumption | exact decide_eq_false V | exact aE V) ?_ | refine ii Z Z Z Z ?_ | refine dc Z Z Z Z Z ?_ | refine dX Z Z Z Z Z Z Z Z O ?_ | refine fS Z Z Z Z Z Z ?_ | refine fV Z Z Z Z Z Z Z ?_ | refine fQ Z Z Z Z Z Z Z ?_ | refine bK Z Z Z Z Z Z Z Z Z O ?_ | refine aG Z Z Z Z Z Z Z Z Z O ?_ | refine aw false Z Z Z Z Z Z Z Z Z O Y ?_ | refine aw (0:Int) Z Z Z Z Z Z Z Z Z O Y ?_ | refine aw ([]:List UInt8) Z Z Z Z Z Z Z Z Z O Y ?_ | refine az false Z Z Z Z Z Z Z Z Z O Y ?_ | refine az (0:Int) Z Z Z Z Z Z Z Z Z O Y ?_ | refine az ([]:List UInt8) Z Z Z Z Z Z Z Z Z O Y ?_ | refine dV Z Z Z Z Z Z Z ?_ | refine dQ Z Z Z Z Z Z Z ?_ | refine bo (0:Int) Z Z Z Z Z Z Z O ?_ | refine bo false Z Z Z Z Z Z Z O ?_ | refine bV Z Z Z Z Z Z Z Z O ?_ | refine cg Z Z Z Z Z Z Z Z Z ?_ | refine ci Z Z Z Z Z Z Z Z Z ?_ | refine ce Z Z Z Z Z Z Z Z Z Z Z Z Z ?_ | refine ij Z Z Z Z Z ?_ | refine dW ?_ | refine dU ?_ | refine aM ?_ | refine aI ?_ | refine aJ ?_ | refine ar ?_ | refine aD ?_ | refine ax Z ?_ | refine noGoto_ret ?_ | refine noGoto_exit ?_ | refine noGoto_normal ?_ | refine de ?_ | refine dT ?_ | refine di ?_ | refine eF ?_ | refine bu Z Z Z Z Z (by simp only [List.length_append,List.length_cons,List.length_nil] <;> omega) ?_))
 refine nh (σ:=Nat) (λ k=>⟨[(0,.arr M1 1 0 r.length),(1,.p (.val (.string (str s)))),(2,.p (.val (.bool gu))),(8,.p (.val (.int .i64 (s.length:Int)))),(9,.p (.val (.int .i64 (k:Int))))],[(M1,((spr s gu r k).map vB).map .p)]⟩)
  (λ k=>k≤s.length) (λ k=>s.length - k) 0 (Nat.zero_le _) (bm ⟨⟨_,Z,AV.sub_refl _⟩,⟨_,Z,AV.sub_refl _⟩,⟨_,Z,AV.sub_refl _⟩,⟨_,Z,AV.sub_refl _⟩,⟨_,Z,AV.sub_refl _⟩,trivial⟩ ⟨⟨_,Z,ah _⟩,trivial⟩) ?_
 intro k hk
 have hl:=spr_len s gu r k
 have hsuc:spr s gu r (k+1)=if (spr s gu r k).getD k false=true∧(gu=true∨¬ ((s.getD k 0).toNat:Int)=46) then (spr s gu r k).set (k+1) true else spr s gu r k:=rfl
 generalize he:spr s gu r k=q at *
 (repeat' (first | refine bI ?_ | refine cj ?_ | refine aZ Z ?_ | refine bz ?_ | refine cR Z Z Z Z ?_ | refine bp Z Z Z Z ?_ | refine ib Z Z Z Z Z Z ?_ | refine eq Z Z Z Z Z Z O ?_ | refine eD Z Z Z Z Z Z ?_ | refine du Z Z Z Z Z Z Z O ?_ | refine dC Z Z Z Z Z Z Z O ?_ | refine cQ Z Z Z Z Z Z ?_ | refine lg Z Z Z (by first | rfl | assumption | exact decide_eq_true V | exact aR V) ?_ | refine kO Z Z Z (by first | rfl | assumption | exact decide_eq_false V | exact aE V) ?_ | refine kU Z Z Z (by first | rfl | assumption | exact decide_eq_false V | exact aE V) Z Z ?_ | refine kF Z Z Z (by first | rfl | assumption | exact decide_eq_true V | exact aR V) Z Z ?_ | refine ge Z Z Z Z Z ?_ | refine b7 Z Z Z Z (by first | rfl | assumption | exact decide_eq_true V | exact aR V) Z ?_ | refine bP Z Z Z Z (by first | rfl | assumption | exact decide_eq_false V | exact aE V) Z ?_ | refine iB Z (by first | rfl | assumption | exact decide_eq_true V | exact aR V) ?_ | refine iy Z (by first | rfl | assumption | exact decide_eq_false V | exact aE V) ?_ | refine ii Z Z Z Z ?_ | refine dc Z Z Z Z Z ?_ | refine dX Z Z Z Z Z Z Z Z O ?_ | refine fS Z Z Z Z Z Z ?_ | refine fV Z Z Z Z Z Z Z ?_ | refine fQ Z Z Z Z Z Z Z ?_ | refine bK Z Z Z Z Z Z Z Z Z O ?_ | refine aG Z Z Z Z Z Z Z Z Z O ?_ | refine aw false Z Z Z Z Z Z Z Z Z O Y ?_ | refine aw (0:Int) Z Z Z Z Z Z Z Z Z O Y ?_ | refine aw ([]:List UInt8) Z Z Z Z Z Z Z Z Z O Y ?_ | refine az false Z Z Z Z Z Z Z Z Z O Y ?_ | refine az (0:Int) Z Z Z Z Z Z Z Z Z O Y ?_ | refine az ([]:List UInt8) Z Z Z Z Z Z Z Z Z O Y ?_ | refine dV Z Z Z Z Z Z Z ?_ | refine dQ Z Z Z Z Z Z Z ?_ | refine bo (0:Int) Z Z Z Z Z Z Z O ?_ | refine bo false Z Z Z Z Z Z Z O ?_ | refine bV Z Z Z Z Z Z Z Z O ?_ | refine cg Z Z Z Z Z Z Z Z Z ?_ | refine ci Z Z Z Z Z Z Z Z Z ?_ | refine ce Z Z Z Z Z Z Z Z Z Z Z Z Z ?_ | refine ij Z Z Z Z Z ?_ | refine dW ?_ | refine dU ?_ | refine aM ?_ | refine aI ?_ | refine aJ ?_ | refine ar ?_ | refine aD ?_ | refine ax Z ?_ | refine noGoto_ret ?_ | refine noGoto_exit ?_ | refine noGoto_normal ?_ | refine de ?_ | refine dT ?_ | refine di ?_ | refine eF ?_ | refine bu Z Z Z Z Z (by simp only [List.length_append,List.length_cons,List.length_nil] <;> omega) ?_ | refine rJ Z Z Z (λ h=>?_) (λ h=>?_) | refine gd_N Z Z Z (λ h=>?_) (λ h=>?_) | refine rt Z Z Z (λ h=>?_) (λ h=>?_) | refine kj Z (λ h=>?_) (λ h=>?_) | refine kw Z (λ h=>?_) (λ h=>?_) | refine iz Z (λ h=>?_) (λ h=>?_)))
 ·have hn:=hsuc.trans (if_pos ⟨by assumption,.inl (by assumption)⟩)
  exact cp (k+1) O O  (bm ⟨⟨_,Z,AV.sub_refl _⟩,⟨_,Z,AV.sub_refl _⟩,⟨_,Z,AV.sub_refl _⟩,⟨_,Z,AV.sub_refl _⟩,⟨_,Z,b6 O⟩,trivial⟩ (by rw [hn]; exact ⟨⟨_,Z,fO (by rw [show ((k:Int)+1).toNat=k+1 by omega])⟩,trivial⟩))
 ·have hn:=hsuc.trans (if_pos ⟨by assumption,.inr (by assumption)⟩)
  exact cp (k+1) O O  (bm ⟨⟨_,Z,AV.sub_refl _⟩,⟨_,Z,AV.sub_refl _⟩,⟨_,Z,AV.sub_refl _⟩,⟨_,Z,AV.sub_refl _⟩,⟨_,Z,b6 O⟩,trivial⟩ (by rw [hn]; exact ⟨⟨_,Z,fO (by rw [show ((k:Int)+1).toNat=k+1 by omega])⟩,trivial⟩))
 ·have hn:=hsuc.trans (if_neg (λ h=>h.2.elim (by simp [*]) (λ h=>h (by assumption))))
  exact cp (k+1) O O  (bm ⟨⟨_,Z,AV.sub_refl _⟩,⟨_,Z,AV.sub_refl _⟩,⟨_,Z,AV.sub_refl _⟩,⟨_,Z,AV.sub_refl _⟩,⟨_,Z,b6 O⟩,trivial⟩ (by rw [hn]; exact ⟨⟨_,Z,fO Z⟩,trivial⟩))
 ·have hn:=hsuc.trans (if_neg (λ h=>by have:=h.1; simp_all))
  exact cp (k+1) O O  (bm ⟨⟨_,Z,AV.sub_refl _⟩,⟨_,Z,AV.sub_refl _⟩,⟨_,Z,AV.sub_refl _⟩,⟨_,Z,AV.sub_refl _⟩,⟨_,Z,b6 O⟩,trivial⟩ (by rw [hn]; exact ⟨⟨_,Z,fO Z⟩,trivial⟩))
 ·obtain rfl:k=s.length:=by omega
  rw [he]
  exact Dx Z Z Z (aK Z (aN _) Z) ⟨Z,Z⟩
theorem step_ok (s:List UInt8)(c:UInt8)(r:List Bool)(hs:s.length≤65536)(hr:r.length=s.length+1) :
  bN Tryz.prog 70 [.arr M1 1 0 r.length,.p (vS s),.p (.val (.int .u8 (c.toNat:Int)))] [(M1,(r.map vB).map .p)]
   (λ x y=>x=.tuple [.arr (2*M1) 1 0 r.length,.p (vB (som s c r s.length))]∧y=[(2*M1,((nxt s c r s.length).map vB).map .p),(M1,(r.map vB).map .p)]):=by
 refine oJ good [13] [13,M1] Tryz.func70 Z (Nat.le_of_ble_eq_true Z) Z Z Z λ w0 F=>?_
 (repeat (first | refine xW Z Z Z Z Z Z Z Z Z Z (by refine ⟨by omega,by omega,?_⟩; show (1:Int)*_≤_; omega) (by repeat (first | exact iP _ | apply demOb_drop Z | apply dd Z (mB _ _) | apply dd Z Z)) ?_ | refine bI ?_ | refine cj ?_ | refine aZ Z ?_ | refine bz ?_ | refine cR Z Z Z Z ?_ | refine bp Z Z Z Z ?_ | refine ib Z Z Z Z Z Z ?_ | refine eq Z Z Z Z Z Z O ?_ | refine eD Z Z Z Z Z Z ?_ | refine du Z Z Z Z Z Z Z O ?_ | refine dC Z Z Z Z Z Z Z O ?_ | refine cQ Z Z Z Z Z Z ?_ | refine lg Z Z Z (by first | rfl | assumption | exact decide_eq_true V | exact aR V) ?_ | refine kO Z Z Z (by first | rfl | assumption | exact decide_eq_false V | exact aE V) ?_ | refine kU Z Z Z (by first | rfl | assumption | exact decide_eq_false V | exact aE V) Z Z ?_ | refine kF Z Z Z (by first | rfl | assumption | exact decide_eq_true V | exact aR V) Z Z ?_ | refine ge Z Z Z Z Z ?_ | refine b7 Z Z Z Z (by first | rfl | assumption | exact decide_eq_true V | exact aR V) Z ?_ | refine bP Z Z Z Z (by first | rfl | assumption | exact decide_eq_false V | exact aE V) Z ?_ | refine iB Z (by first | rfl | assumption | exact decide_eq_true V | exact aR V) ?_ | refine iy Z (by first | rfl | assumption | exact decide_eq_false V | exact aE V) ?_ | refine ii Z Z Z Z ?_ | refine dc Z Z Z Z Z ?_ | refine dX Z Z Z Z Z Z Z Z O ?_ | refine fS Z Z Z Z Z Z ?_ | refine fV Z Z Z Z Z Z Z ?_ | refine fQ Z Z Z Z Z Z Z ?_ | refine bK Z Z Z Z Z Z Z Z Z O ?_ | refine aG Z Z Z Z Z Z Z Z Z O ?_ | refine aw false Z Z Z Z Z Z Z Z Z O Y ?_ | refine aw (0:Int) Z Z Z Z Z Z Z Z Z O Y ?_ | refine aw ([]:List UInt8) Z Z Z Z Z Z Z Z Z O Y ?_ | refine az false Z Z Z Z Z Z Z Z Z O Y ?_ | refine az (0:Int) Z Z Z Z Z Z Z Z Z O Y ?_ | refine az ([]:List UInt8) Z Z Z Z Z Z Z Z Z O Y ?_ | refine dV Z Z Z Z Z Z Z ?_ | refine dQ Z Z Z Z Z Z Z ?_ | refine bo (0:Int) Z Z Z Z Z Z Z O ?_ | refine bo false Z Z Z Z Z Z Z O ?_ | refine bV Z Z Z Z Z Z Z Z O ?_ | refine cg Z Z Z Z Z Z Z Z Z ?_ | refine ci Z Z Z Z Z Z Z Z Z ?_ | refine ce Z Z Z Z Z Z Z Z Z Z Z Z Z ?_ | refine ij Z Z Z Z Z ?_ | refine dW ?_ | refine dU ?_ | refine aM ?_ | refine aI ?_ | refine aJ ?_ | refine ar ?_ | refine aD ?_ | refine ax Z ?_ | refine noGoto_ret ?_ | refine noGoto_exit ?_ | refine noGoto_normal ?_ | refine de ?_ | refine dT ?_ | refine di ?_ | refine eF ?_ | refine bu Z Z Z Z Z (by simp only [List.length_append,List.length_cons,List.length_nil] <;> omega) ?_))
 refine nh (σ:=Nat) (λ k=>⟨[(0,.arr M1 1 0 r.length),(1,.p (.val (.string (str s)))),(2,.p (.val (.int .u8 (c.toNat:Int)))),(8,.arr 13 1 0 r.length),(9,.p (.val (.bool (som s c r k)))),(15,.p (.val (.int .i64 (s.length:Int)))),(16,.p (.val (.int .i64 (k:Int))))],
   [(13,((nxt s c r k).map vB).map .p),(M1,(r.map vB).map .p)]⟩)
  (λ k=>k≤s.length) (λ k=>s.length - k) 0 (Nat.zero_le _) ?_ ?_
 ·refine bm ⟨⟨_,Z,AV.sub_refl _⟩,⟨_,Z,AV.sub_refl _⟩,⟨_,Z,AV.sub_refl _⟩,⟨_,Z,AV.sub_refl _⟩,⟨_,Z,AV.sub_refl _⟩,⟨_,Z,AV.sub_refl _⟩,⟨_,Z,AV.sub_refl _⟩,trivial⟩ ⟨⟨_,Z,fO ?_⟩,⟨_,Z,ah _⟩,trivial⟩
  simp [nxt,vB]
 intro k hk
 have hl:=nxt_len s c r k
 have n1:nxt s c r (k+1)=if r.getD k false=true∧((s.getD k 0).toNat:Int)=(c.toNat:Int) then (nxt s c r k).set (k+1) true else nxt s c r k:=rfl
 have n2:som s c r (k+1)=if r.getD k false=true∧((s.getD k 0).toNat:Int)=(c.toNat:Int) then true else som s c r k:=rfl
 generalize he:nxt s c r k=q at *
 generalize he2:som s c r k=b at *
 (repeat' (first | refine bI ?_ | refine cj ?_ | refine aZ Z ?_ | refine bz ?_ | refine cR Z Z Z Z ?_ | refine bp Z Z Z Z ?_ | refine ib Z Z Z Z Z Z ?_ | refine eq Z Z Z Z Z Z O ?_ | refine eD Z Z Z Z Z Z ?_ | refine du Z Z Z Z Z Z Z O ?_ | refine dC Z Z Z Z Z Z Z O ?_ | refine cQ Z Z Z Z Z Z ?_ | refine lg Z Z Z (by first | rfl | assumption | exact decide_eq_true V | exact aR V) ?_ | refine kO Z Z Z (by first | rfl | assumption | exact decide_eq_false V | exact aE V) ?_ | refine kU Z Z Z (by first | rfl | assumption | exact decide_eq_false V | exact aE V) Z Z ?_ | refine kF Z Z Z (by first | rfl | assumption | exact decide_eq_true V | exact aR V) Z Z ?_ | refine ge Z Z Z Z Z ?_ | refine b7 Z Z Z Z (by first | rfl | assumption | exact decide_eq_true V | exact aR V) Z ?_ | refine bP Z Z Z Z (by first | rfl | assumption | exact decide_eq_false V | exact aE V) Z ?_ | refine iB Z (by first | rfl | assumption | exact decide_eq_true V | exact aR V) ?_ | refine iy Z (by first | rfl | assumption | exact decide_eq_false V | exact aE V) ?_ | refine ii Z Z Z Z ?_ | refine dc Z Z Z Z Z ?_ | refine dX Z Z Z Z Z Z Z Z O ?_ | refine fS Z Z Z Z Z Z ?_ | refine fV Z Z Z Z Z Z Z ?_ | refine fQ Z Z Z Z Z Z Z ?_ | refine bK Z Z Z Z Z Z Z Z Z O ?_ | refine aG Z Z Z Z Z Z Z Z Z O ?_ | refine aw false Z Z Z Z Z Z Z Z Z O Y ?_ | refine aw (0:Int) Z Z Z Z Z Z Z Z Z O Y ?_ | refine aw ([]:List UInt8) Z Z Z Z Z Z Z Z Z O Y ?_ | refine az false Z Z Z Z Z Z Z Z Z O Y ?_ | refine az (0:Int) Z Z Z Z Z Z Z Z Z O Y ?_ | refine az ([]:List UInt8) Z Z Z Z Z Z Z Z Z O Y ?_ | refine dV Z Z Z Z Z Z Z ?_ | refine dQ Z Z Z Z Z Z Z ?_ | refine bo (0:Int) Z Z Z Z Z Z Z O ?_ | refine bo false Z Z Z Z Z Z Z O ?_ | refine bV Z Z Z Z Z Z Z Z O ?_ | refine cg Z Z Z Z Z Z Z Z Z ?_ | refine ci Z Z Z Z Z Z Z Z Z ?_ | refine ce Z Z Z Z Z Z Z Z Z Z Z Z Z ?_ | refine ij Z Z Z Z Z ?_ | refine dW ?_ | refine dU ?_ | refine aM ?_ | refine aI ?_ | refine aJ ?_ | refine ar ?_ | refine aD ?_ | refine ax Z ?_ | refine noGoto_ret ?_ | refine noGoto_exit ?_ | refine noGoto_normal ?_ | refine de ?_ | refine dT ?_ | refine di ?_ | refine eF ?_ | refine bu Z Z Z Z Z (by simp only [List.length_append,List.length_cons,List.length_nil] <;> omega) ?_ | refine rJ Z Z Z (λ h=>?_) (λ h=>?_) | refine gd_N Z Z Z (λ h=>?_) (λ h=>?_) | refine rt Z Z Z (λ h=>?_) (λ h=>?_) | refine kj Z (λ h=>?_) (λ h=>?_) | refine kw Z (λ h=>?_) (λ h=>?_) | refine iz Z (λ h=>?_) (λ h=>?_)))
 ·rw [if_pos ⟨by assumption,by assumption⟩] at n1 n2
  exact cp (k+1) O O  (bm ⟨⟨_,Z,AV.sub_refl _⟩,⟨_,Z,AV.sub_refl _⟩,⟨_,Z,AV.sub_refl _⟩,⟨_,Z,AV.sub_refl _⟩,⟨_,Z,cD (by rw [n2])⟩,⟨_,Z,AV.sub_refl _⟩,⟨_,Z,b6 O⟩,trivial⟩ (by rw [n1]; exact ⟨⟨_,Z,fO (by rw [show ((k:Int)+1).toNat=k+1 by omega])⟩,⟨_,Z,ah _⟩,trivial⟩))
 ·rw [if_neg (λ h=>absurd h.2 (by assumption))] at n1 n2
  exact cp (k+1) O O  (bm ⟨⟨_,Z,AV.sub_refl _⟩,⟨_,Z,AV.sub_refl _⟩,⟨_,Z,AV.sub_refl _⟩,⟨_,Z,AV.sub_refl _⟩,⟨_,Z,cD (by rw [n2])⟩,⟨_,Z,AV.sub_refl _⟩,⟨_,Z,b6 O⟩,trivial⟩ (by rw [n1]; exact ⟨⟨_,Z,fO Z⟩,⟨_,Z,ah _⟩,trivial⟩))
 ·rw [if_neg (λ h=>by have:=h.1; simp_all)] at n1 n2
  exact cp (k+1) O O  (bm ⟨⟨_,Z,AV.sub_refl _⟩,⟨_,Z,AV.sub_refl _⟩,⟨_,Z,AV.sub_refl _⟩,⟨_,Z,AV.sub_refl _⟩,⟨_,Z,cD (by rw [n2])⟩,⟨_,Z,AV.sub_refl _⟩,⟨_,Z,b6 O⟩,trivial⟩ (by rw [n1]; exact ⟨⟨_,Z,fO Z⟩,⟨_,Z,ah _⟩,trivial⟩))
 ·obtain rfl:k=s.length:=by omega
  rw [he,he2]
  exact Dh Z Z Z (aK Z (aN _) (aK Z (aN _) Z)) ⟨Z,Z⟩
theorem hp1_ok (s p:List UInt8)(hs:s.length≤65536)(hp:p.length≤65536):aA Tryz.prog 91 [vS s,vS p] (·=.p (vB (hasP s p))):=by
 refine uY good Tryz.func91 Z Z Z λ w0=>?_
 have he:=hasP_take s p
 (repeat' (first | refine bI ?_ | refine cj ?_ | refine aZ Z ?_ | refine bz ?_ | refine cR Z Z Z Z ?_ | refine bp Z Z Z Z ?_ | refine ib Z Z Z Z Z Z ?_ | refine eq Z Z Z Z Z Z O ?_ | refine eD Z Z Z Z Z Z ?_ | refine du Z Z Z Z Z Z Z O ?_ | refine dC Z Z Z Z Z Z Z O ?_ | refine cQ Z Z Z Z Z Z ?_ | refine lg Z Z Z (by first | rfl | assumption | exact decide_eq_true V | exact aR V) ?_ | refine kO Z Z Z (by first | rfl | assumption | exact decide_eq_false V | exact aE V) ?_ | refine kU Z Z Z (by first | rfl | assumption | exact decide_eq_false V | exact aE V) Z Z ?_ | refine kF Z Z Z (by first | rfl | assumption | exact decide_eq_true V | exact aR V) Z Z ?_ | refine ge Z Z Z Z Z ?_ | refine b7 Z Z Z Z (by first | rfl | assumption | exact decide_eq_true V | exact aR V) Z ?_ | refine bP Z Z Z Z (by first | rfl | assumption | exact decide_eq_false V | exact aE V) Z ?_ | refine iB Z (by first | rfl | assumption | exact decide_eq_true V | exact aR V) ?_ | refine iy Z (by first | rfl | assumption | exact decide_eq_false V | exact aE V) ?_ | refine ii Z Z Z Z ?_ | refine dc Z Z Z Z Z ?_ | refine dX Z Z Z Z Z Z Z Z O ?_ | refine fS Z Z Z Z Z Z ?_ | refine fV Z Z Z Z Z Z Z ?_ | refine fQ Z Z Z Z Z Z Z ?_ | refine bK Z Z Z Z Z Z Z Z Z O ?_ | refine aG Z Z Z Z Z Z Z Z Z O ?_ | refine aw false Z Z Z Z Z Z Z Z Z O Y ?_ | refine aw (0:Int) Z Z Z Z Z Z Z Z Z O Y ?_ | refine aw ([]:List UInt8) Z Z Z Z Z Z Z Z Z O Y ?_ | refine az false Z Z Z Z Z Z Z Z Z O Y ?_ | refine az (0:Int) Z Z Z Z Z Z Z Z Z O Y ?_ | refine az ([]:List UInt8) Z Z Z Z Z Z Z Z Z O Y ?_ | refine dV Z Z Z Z Z Z Z ?_ | refine dQ Z Z Z Z Z Z Z ?_ | refine bo (0:Int) Z Z Z Z Z Z Z O ?_ | refine bo false Z Z Z Z Z Z Z O ?_ | refine bV Z Z Z Z Z Z Z Z O ?_ | refine cg Z Z Z Z Z Z Z Z Z ?_ | refine ci Z Z Z Z Z Z Z Z Z ?_ | refine ce Z Z Z Z Z Z Z Z Z Z Z Z Z ?_ | refine ij Z Z Z Z Z ?_ | refine dW ?_ | refine dU ?_ | refine aM ?_ | refine aI ?_ | refine aJ ?_ | refine ar ?_ | refine aD ?_ | refine ax Z ?_ | refine noGoto_ret ?_ | refine noGoto_exit ?_ | refine noGoto_normal ?_ | refine de ?_ | refine dT ?_ | refine di ?_ | refine eF ?_ | refine bu Z Z Z Z Z (by simp only [List.length_append,List.length_cons,List.length_nil] <;> omega) ?_ | refine rJ Z Z Z (λ h=>?_) (λ h=>?_) | refine gd_N Z Z Z (λ h=>?_) (λ h=>?_) | refine rt Z Z Z (λ h=>?_) (λ h=>?_) | refine kj Z (λ h=>?_) (λ h=>?_) | refine kw Z (λ h=>?_) (λ h=>?_) | refine iz Z (λ h=>?_) (λ h=>?_)))
 ·refine iD Z ?_; refine cD ?_
  rw [he,decide_eq_true (show p.length≤s.length by omega),Bool.true_and]
  rw [show ((p.length:Int).toNat)=p.length from rfl]
  simp
 ·refine iD Z ?_; refine cD ?_
  rw [he,decide_eq_false (show ¬ p.length≤s.length by omega),Bool.false_and]
theorem hp_ok (s p:List UInt8)(hs:s.length≤65536)(hp:p.length≤65536):aA Tryz.prog 68 [vS s,vS p] (·=.p (vB (hasP s p))):=by
 refine uY good Tryz.func68 Z Z Z λ w0=>?_
 (repeat' (first | refine bw (hp1_ok s p hs hp) Z Z Z Z ⟨AV.sub_refl _,AV.sub_refl _,trivial⟩ Tryz.call91 Z ?_ | refine bI ?_ | refine cj ?_ | refine aZ Z ?_ | refine bz ?_ | refine cR Z Z Z Z ?_ | refine bp Z Z Z Z ?_ | refine ib Z Z Z Z Z Z ?_ | refine eq Z Z Z Z Z Z O ?_ | refine eD Z Z Z Z Z Z ?_ | refine du Z Z Z Z Z Z Z O ?_ | refine dC Z Z Z Z Z Z Z O ?_ | refine cQ Z Z Z Z Z Z ?_ | refine lg Z Z Z (by first | rfl | assumption | exact decide_eq_true V | exact aR V) ?_ | refine kO Z Z Z (by first | rfl | assumption | exact decide_eq_false V | exact aE V) ?_ | refine kU Z Z Z (by first | rfl | assumption | exact decide_eq_false V | exact aE V) Z Z ?_ | refine kF Z Z Z (by first | rfl | assumption | exact decide_eq_true V | exact aR V) Z Z ?_ | refine ge Z Z Z Z Z ?_ | refine b7 Z Z Z Z (by first | rfl | assumption | exact decide_eq_true V | exact aR V) Z ?_ | refine bP Z Z Z Z (by first | rfl | assumption | exact decide_eq_false V | exact aE V) Z ?_ | refine iB Z (by first | rfl | assumption | exact decide_eq_true V | exact aR V) ?_ | refine iy Z (by first | rfl | assumption | exact decide_eq_false V | exact aE V) ?_ | refine ii Z Z Z Z ?_ | refine dc Z Z Z Z Z ?_ | refine dX Z Z Z Z Z Z Z Z O ?_ | refine fS Z Z Z Z Z Z ?_ | refine fV Z Z Z Z Z Z Z ?_ | refine fQ Z Z Z Z Z Z Z ?_ | refine bK Z Z Z Z Z Z Z Z Z O ?_ | refine aG Z Z Z Z Z Z Z Z Z O ?_ | refine aw false Z Z Z Z Z Z Z Z Z O Y ?_ | refine aw (0:Int) Z Z Z Z Z Z Z Z Z O Y ?_ | refine aw ([]:List UInt8) Z Z Z Z Z Z Z Z Z O Y ?_ | refine az false Z Z Z Z Z Z Z Z Z O Y ?_ | refine az (0:Int) Z Z Z Z Z Z Z Z Z O Y ?_ | refine az ([]:List UInt8) Z Z Z Z Z Z Z Z Z O Y ?_ | refine dV Z Z Z Z Z Z Z ?_ | refine dQ Z Z Z Z Z Z Z ?_ | refine bo (0:Int) Z Z Z Z Z Z Z O ?_ | refine bo false Z Z Z Z Z Z Z O ?_ | refine bV Z Z Z Z Z Z Z Z O ?_ | refine cg Z Z Z Z Z Z Z Z Z ?_ | refine ci Z Z Z Z Z Z Z Z Z ?_ | refine ce Z Z Z Z Z Z Z Z Z Z Z Z Z ?_ | refine ij Z Z Z Z Z ?_ | refine dW ?_ | refine dU ?_ | refine aM ?_ | refine aI ?_ | refine aJ ?_ | refine ar ?_ | refine aD ?_ | refine ax Z ?_ | refine noGoto_ret ?_ | refine noGoto_exit ?_ | refine noGoto_normal ?_ | refine de ?_ | refine dT ?_ | refine di ?_ | refine eF ?_ | refine bu Z Z Z Z Z (by simp only [List.length_append,List.length_cons,List.length_nil] <;> omega) ?_ | refine rJ Z Z Z (λ h=>?_) (λ h=>?_) | refine gd_N Z Z Z (λ h=>?_) (λ h=>?_) | refine rt Z Z Z (λ h=>?_) (λ h=>?_) | refine kj Z (λ h=>?_) (λ h=>?_) | refine kw Z (λ h=>?_) (λ h=>?_) | refine iz Z (λ h=>?_) (λ h=>?_)))
 exact iD Z (AV.sub_refl _)
theorem ok_makeM {C:Cx}{o:Oper}{K:AS→Prop}{sl:List (Nat×AV)}{ob ob':List (Nat×List AV)}{d:Nat}{α:Type}(f:α→PV)(b0:α){t e:Nat}{x y:Operand}{i ie:TI}{k k':IntKind}{n:Int}{z:Value}(ho:o.op=.makeSlice t x y)(hd:o.dst=some d)(hn:Nat.blt d C.n=true)
  (hi:look C.tt t=some i) (hik:i.k=.slice e) (hie:look C.tt e=some ie) (hs1:ie.size=1) (hz:ie.zero=[z]) (hf:f b0=.val z) (hx:evo sl x=some (.p (.val (.int k n)))) (hy:evo sl y=some (.p (.val (.int k' n))))
  (hb:0≤n∧n≤9223372036854775807∧(ie.bytes:Int)*n≤281474976710656) (hdo:lY (λ i=>Nat.beq i d) ob=ob')
  (hK:K ⟨(d,.arr d 1 0 n.toNat)::(ct (λ i=>Nat.beq i d) ⟨sl,ob⟩).sl,(d,((List.replicate n.toNat b0).map f).map .p)::ob'⟩):aW C o K ⟨sl,ob⟩ :=
 xW ho hd hn hi hik hie hs1 hz hx hy hb hdo (by rw [List.map_replicate,hf] at hK; exact hK)
theorem mg_more (p s:List UInt8):∀ (f g i:Nat) (r:List Bool),p.length≤i+f→f≤g→mg p s g i r=mg p s f i r:=by
 intro f
 induction f with
 | zero =>
  intro g i r h _
  cases g with
  | zero=>rfl
  | succ g=>simp only [mg]; rw [if_neg O]
 | succ f ih =>
  intro g i r h hg
  obtain ⟨g,rfl⟩:∃ g',g=g'+1:=⟨g - 1,by omega⟩
  simp only [mg]
  by_cases hi:i < p.length
  ·rw [if_pos hi,if_pos hi]
   rw [ih g (i+2) _ O O,ih g (i+1) _ O O,ih g (i+1) _ O O]
  ·rw [if_neg hi,if_neg hi]
theorem mg_step (p s:List UInt8)(i:Nat)(r:List Bool)(hi:i < p.length):mg p s p.length i r =
  (if hasP (p.drop i) [42,42]=true then mg p s p.length (i+2) (spr s true r s.length)
    else if star p i then mg p s p.length (i+1) (spr s false r s.length)
    else if som s (p.getD i 0) r s.length=true then mg p s p.length (i+1) (nxt s (p.getD i 0) r s.length) else (i,nxt s (p.getD i 0) r s.length)):=by
 obtain ⟨f,hf⟩:∃ f,p.length=f+1:=⟨p.length - 1,by omega⟩
 have h1:=mg_more p s f (f+1) (i+2) (spr s true r s.length) O O
 have h2:=mg_more p s f (f+1) (i+1) (spr s false r s.length)
 have h3:=mg_more p s f (f+1) (i+1) (nxt s (p.getD i 0) r s.length)
 by_cases hi0:i+1+f < p.length
 ·omega
 ·rw [hf] at hi ⊢
  conv=>lhs; rw [mg]
  rw [if_pos (by rw [hf]; exact hi),h1,h2 O O,h3 O O]
theorem mg_end (p s:List UInt8)(i:Nat)(r:List Bool)(hi:¬ i < p.length):mg p s p.length i r=(i,r):=by
 cases hp:p.length with
 | zero=>rfl
 | succ f=>rw [mg,if_neg hi]
theorem hasP2_lt (p:List UInt8)(i:Nat)(h:hasP (p.drop i) [42,42]=true):i+2≤p.length:=by
 rw [hasP_take] at h
 simp only [Bool.and_eq_true,decide_eq_true_eq,List.length_cons,List.length_nil,List.length_drop] at h
 omega
theorem match_ok (p s:List UInt8)(hp:p.length≤65536)(hs:s.length≤32768):aA Tryz.prog 49 [vS p,vS s] (·=.p (vB (matchL p s))):=by
 refine uY good Tryz.func49 Z Z Z λ w0=>?_
 have hmd:matchL p s=if check p=0 then (if (mg p s p.length 0 (ini s)).1=p.length then (mg p s p.length 0 (ini s)).2.getD s.length false else false) else false:=rfl
 generalize hR:mg p s p.length 0 (ini s)=R at hmd
 (repeat' (first | refine bw (check_ok p hp) Z Z Z Z ⟨AV.sub_refl _,trivial⟩ Tryz.call28 Z ?_ | refine ok_makeM vB false Z Z Z Z Z Z Z Z Z Z Z (by refine ⟨by omega,by omega,?_⟩; show (1:Int)*_≤_; omega) (by repeat (first | exact iP _ | apply demOb_drop Z | apply dd Z (mB _ _) | apply dd Z Z)) ?_ | refine bV Z Z Z Z Z Z Z Z (by rw [List.length_replicate]; omega) ?_ | refine bI ?_ | refine cj ?_ | refine aZ Z ?_ | refine bz ?_ | refine cR Z Z Z Z ?_ | refine bp Z Z Z Z ?_ | refine ib Z Z Z Z Z Z ?_ | refine eq Z Z Z Z Z Z O ?_ | refine eD Z Z Z Z Z Z ?_ | refine du Z Z Z Z Z Z Z O ?_ | refine dC Z Z Z Z Z Z Z O ?_ | refine cQ Z Z Z Z Z Z ?_ | refine lg Z Z Z (by first | rfl | assumption | exact decide_eq_true V | exact aR V) ?_ | refine kO Z Z Z (by first | rfl | assumption | exact decide_eq_false V | exact aE V) ?_ | refine kU Z Z Z (by first | rfl | assumption | exact decide_eq_false V | exact aE V) Z Z ?_ | refine kF Z Z Z (by first | rfl | assumption | exact decide_eq_true V | exact aR V) Z Z ?_ | refine ge Z Z Z Z Z ?_ | refine b7 Z Z Z Z (by first | rfl | assumption | exact decide_eq_true V | exact aR V) Z ?_ | refine bP Z Z Z Z (by first | rfl | assumption | exact decide_eq_false V | exact aE V) Z ?_ | refine iB Z (by first | rfl | assumption | exact decide_eq_true V | exact aR V) ?_ | refine iy Z (by first | rfl | assumption | exact decide_eq_false V | exact aE V) ?_ | refine ii Z Z Z Z ?_ | refine dc Z Z Z Z Z ?_ | refine dX Z Z Z Z Z Z Z Z O ?_ | refine fS Z Z Z Z Z Z ?_ | refine fV Z Z Z Z Z Z Z ?_ | refine fQ Z Z Z Z Z Z Z ?_ | refine bK Z Z Z Z Z Z Z Z Z O ?_ | refine aG Z Z Z Z Z Z Z Z Z O ?_ | refine aw false Z Z Z Z Z Z Z Z Z O Y ?_ | refine aw (0:Int) Z Z Z Z Z Z Z Z Z O Y ?_ | refine aw ([]:List UInt8) Z Z Z Z Z Z Z Z Z O Y ?_ | refine az false Z Z Z Z Z Z Z Z Z O Y ?_ | refine az (0:Int) Z Z Z Z Z Z Z Z Z O Y ?_ | refine az ([]:List UInt8) Z Z Z Z Z Z Z Z Z O Y ?_ | refine dV Z Z Z Z Z Z Z ?_ | refine dQ Z Z Z Z Z Z Z ?_ | refine bo (0:Int) Z Z Z Z Z Z Z O ?_ | refine bo false Z Z Z Z Z Z Z O ?_ | refine bV Z Z Z Z Z Z Z Z O ?_ | refine cg Z Z Z Z Z Z Z Z Z ?_ | refine ci Z Z Z Z Z Z Z Z Z ?_ | refine ce Z Z Z Z Z Z Z Z Z Z Z Z Z ?_ | refine ij Z Z Z Z Z ?_ | refine dW ?_ | refine dU ?_ | refine aM ?_ | refine aI ?_ | refine aJ ?_ | refine ar ?_ | refine aD ?_ | refine ax Z ?_ | refine noGoto_ret ?_ | refine noGoto_exit ?_ | refine noGoto_normal ?_ | refine de ?_ | refine dT ?_ | refine di ?_ | refine eF ?_ | refine bu Z Z Z Z Z (by simp only [List.length_append,List.length_cons,List.length_nil] <;> omega) ?_ | refine rJ Z Z Z (λ h=>?_) (λ h=>?_) | refine gd_N Z Z Z (λ h=>?_) (λ h=>?_) | refine rt Z Z Z (λ h=>?_) (λ h=>?_) | refine kj Z (λ h=>?_) (λ h=>?_) | refine kw Z (λ h=>?_) (λ h=>?_) | refine iz Z (λ h=>?_) (λ h=>?_)))
 ·refine iD Z ?_; refine cD ?_
  rw [hmd,if_neg (by assumption)]
 rw [if_pos (by assumption)] at hmd
 refine nh (σ:=Nat×Nat×List Bool) (λ q=>⟨[(0,.p (.val (.string (str p)))),(1,.p (.val (.string (str s)))),(5,.arr q.1 1 0 q.2.2.length),(6,.p (.val (.int .i64 (q.2.1:Int))))],[(q.1,(q.2.2.map vB).map .p)]⟩)
  (λ q=>(q.1=15∨q.1=5000∨q.1=6000)∧q.2.1≤p.length∧q.2.2.length=s.length+1∧mg p s p.length q.2.1 q.2.2=R) (λ q=>p.length - q.2.1) (15,0,ini s) ⟨.inl Z,Nat.zero_le _,by simp [ini],hR⟩ ?_ ?_
 ·refine bm ⟨⟨_,Z,AV.sub_refl _⟩,⟨_,Z,AV.sub_refl _⟩,⟨_,Z,AV.sub_of_eq ?_⟩,⟨_,Z,AV.sub_refl _⟩,trivial⟩ ⟨⟨_,Z,fO ?_⟩,trivial⟩
  ·simp [ini]
  ·simp [ini]
 rintro ⟨id,i,r⟩ ⟨hid,hi,hr,hm⟩
 dsimp only at hid hi hr hm ⊢
 have hst:=mg_step p s i r
 have hen:=mg_end p s i r
 have hlt2:=hasP2_lt p i
 have hl1:∀ gu,(spr s gu r s.length).length=s.length+1:=λ gu=>(spr_len _ _ _ _).trans hr
 have hl2:∀ c,(nxt s c r s.length).length=s.length+1:=λ c=>(nxt_len _ _ _ _).trans hr
 have hpre:=hp_ok (p.drop i) [42,42] (by simp; omega) G
 by_cases hip:i < p.length
 ·have hst:=hst hip
  clear hen
  rcases hid with rfl | rfl | rfl
  all_goals
   (repeat' (first | refine bw hpre Z Z Z Z ⟨Eg G,AV.sub_refl _,trivial⟩ Tryz.call68 Z ?_ | refine iL [15] 5000 5010 (spread_ok s true r O hr) Z Z Z Z Z ⟨AV.sub_refl _,AV.sub_refl _,AV.sub_refl _,trivial⟩ Z (aK Z (aN _) Z) ⟨⟨_,Z,ah _⟩,trivial⟩ Z Z Z Z Z Tryz.call69 Z (aK Z (aN _) Z) ?_ | refine iL [15] 5000 5010 (spread_ok s false r O hr) Z Z Z Z Z ⟨AV.sub_refl _,AV.sub_refl _,AV.sub_refl _,trivial⟩ Z (aK Z (aN _) Z) ⟨⟨_,Z,ah _⟩,trivial⟩ Z Z Z Z Z Tryz.call69 Z (aK Z (aN _) Z) ?_ | refine iL [15] 5000 5010 (step_ok s (p.getD i 0) r O hr) Z Z Z Z Z ⟨AV.sub_refl _,AV.sub_refl _,AV.sub_refl _,trivial⟩ Z (aK Z (aN _) Z) ⟨⟨_,Z,ah _⟩,trivial⟩ Z Z Z Z Z Tryz.call70 Z (aK Z (aN _) (aK Z (aN _) Z)) ?_ | refine iL [5000] 6000 6010 (spread_ok s true r O hr) Z Z Z Z Z ⟨AV.sub_refl _,AV.sub_refl _,AV.sub_refl _,trivial⟩ Z (aK Z (aN _) Z) ⟨⟨_,Z,ah _⟩,trivial⟩ Z Z Z Z Z Tryz.call69 Z (aK Z (aN _) Z) ?_ | refine iL [5000] 6000 6010 (spread_ok s false r O hr) Z Z Z Z Z ⟨AV.sub_refl _,AV.sub_refl _,AV.sub_refl _,trivial⟩ Z (aK Z (aN _) Z) ⟨⟨_,Z,ah _⟩,trivial⟩ Z Z Z Z Z Tryz.call69 Z (aK Z (aN _) Z) ?_ | refine iL [5000] 6000 6010 (step_ok s (p.getD i 0) r O hr) Z Z Z Z Z ⟨AV.sub_refl _,AV.sub_refl _,AV.sub_refl _,trivial⟩ Z (aK Z (aN _) Z) ⟨⟨_,Z,ah _⟩,trivial⟩ Z Z Z Z Z Tryz.call70 Z (aK Z (aN _) (aK Z (aN _) Z)) ?_ | refine iL [6000] 5000 5010 (spread_ok s true r O hr) Z Z Z Z Z ⟨AV.sub_refl _,AV.sub_refl _,AV.sub_refl _,trivial⟩ Z (aK Z (aN _) Z) ⟨⟨_,Z,ah _⟩,trivial⟩ Z Z Z Z Z Tryz.call69 Z (aK Z (aN _) Z) ?_ | refine iL [6000] 5000 5010 (spread_ok s false r O hr) Z Z Z Z Z ⟨AV.sub_refl _,AV.sub_refl _,AV.sub_refl _,trivial⟩ Z (aK Z (aN _) Z) ⟨⟨_,Z,ah _⟩,trivial⟩ Z Z Z Z Z Tryz.call69 Z (aK Z (aN _) Z) ?_ | refine iL [6000] 5000 5010 (step_ok s (p.getD i 0) r O hr) Z Z Z Z Z ⟨AV.sub_refl _,AV.sub_refl _,AV.sub_refl _,trivial⟩ Z (aK Z (aN _) Z) ⟨⟨_,Z,ah _⟩,trivial⟩ Z Z Z Z Z Tryz.call70 Z (aK Z (aN _) (aK Z (aN _) Z)) ?_ | refine bI ?_ | refine cj ?_ | refine aZ Z ?_ | refine bz ?_ | refine cR Z Z Z Z ?_ | refine bp Z Z Z Z ?_ | refine ib Z Z Z Z Z Z ?_ | refine eq Z Z Z Z Z Z O ?_ | refine eD Z Z Z Z Z Z ?_ | refine du Z Z Z Z Z Z Z O ?_ | refine dC Z Z Z Z Z Z Z O ?_ | refine cQ Z Z Z Z Z Z ?_ | refine lg Z Z Z (by first | rfl | assumption | exact decide_eq_true V | exact aR V) ?_ | refine kO Z Z Z (by first | rfl | assumption | exact decide_eq_false V | exact aE V) ?_ | refine kU Z Z Z (by first | rfl | assumption | exact decide_eq_false V | exact aE V) Z Z ?_ | refine kF Z Z Z (by first | rfl | assumption | exact decide_eq_true V | exact aR V) Z Z ?_ | refine ge Z Z Z Z Z ?_ | refine b7 Z Z Z Z (by first | rfl | assumption | exact decide_eq_true V | exact aR V) Z ?_ | refine bP Z Z Z Z (by first | rfl | assumption | exact decide_eq_false V | exact aE V) Z ?_ | refine iB Z (by first | rfl | assumption | exact decide_eq_true V | exact aR V) ?_ | refine iy Z (by first | rfl | assumption | exact decide_eq_false V | exact aE V) ?_ | refine ii Z Z Z Z ?_ | refine dc Z Z Z Z Z ?_ | refine dX Z Z Z Z Z Z Z Z O ?_ | refine fS Z Z Z Z Z Z ?_ | refine fV Z Z Z Z Z Z Z ?_ | refine fQ Z Z Z Z Z Z Z ?_ | refine bK Z Z Z Z Z Z Z Z Z O ?_ | refine aG Z Z Z Z Z Z Z Z Z O ?_ | refine aw false Z Z Z Z Z Z Z Z Z O Y ?_ | refine aw (0:Int) Z Z Z Z Z Z Z Z Z O Y ?_ | refine aw ([]:List UInt8) Z Z Z Z Z Z Z Z Z O Y ?_ | refine az false Z Z Z Z Z Z Z Z Z O Y ?_ | refine az (0:Int) Z Z Z Z Z Z Z Z Z O Y ?_ | refine az ([]:List UInt8) Z Z Z Z Z Z Z Z Z O Y ?_ | refine dV Z Z Z Z Z Z Z ?_ | refine dQ Z Z Z Z Z Z Z ?_ | refine bo (0:Int) Z Z Z Z Z Z Z O ?_ | refine bo false Z Z Z Z Z Z Z O ?_ | refine bV Z Z Z Z Z Z Z Z O ?_ | refine cg Z Z Z Z Z Z Z Z Z ?_ | refine ci Z Z Z Z Z Z Z Z Z ?_ | refine ce Z Z Z Z Z Z Z Z Z Z Z Z Z ?_ | refine ij Z Z Z Z Z ?_ | refine dW ?_ | refine dU ?_ | refine aM ?_ | refine aI ?_ | refine aJ ?_ | refine ar ?_ | refine aD ?_ | refine ax Z ?_ | refine noGoto_ret ?_ | refine noGoto_exit ?_ | refine noGoto_normal ?_ | refine de ?_ | refine dT ?_ | refine di ?_ | refine eF ?_ | refine bu Z Z Z Z Z (by simp only [List.length_append,List.length_cons,List.length_nil] <;> omega) ?_ | refine rJ Z Z Z (λ h=>?_) (λ h=>?_) | refine gd_N Z Z Z (λ h=>?_) (λ h=>?_) | refine rt Z Z Z (λ h=>?_) (λ h=>?_) | refine kj Z (λ h=>?_) (λ h=>?_) | refine kw Z (λ h=>?_) (λ h=>?_) | refine iz Z (λ h=>?_) (λ h=>?_)))
  ·refine cp (k:=(15,i,r)) (15,i+2,spr s true r s.length) ?_ ?_ (bm ?_ ?_)
   ·have h2:=hlt2 (by assumption)
    rw [if_pos (by assumption)] at hst; exact ⟨.inl rfl,h2,hl1 _,hst.symm.trans hm⟩
   ·dsimp only; omega
   ·refine ⟨⟨_,Z,AV.sub_refl _⟩,⟨_,Z,AV.sub_refl _⟩,⟨_,Z,AV.sub_of_eq ?_⟩,⟨_,Z,b6 ?_⟩,trivial⟩
    ·dsimp only; rw [hl1,hr] <;> rfl
    ·dsimp only; omega
   ·exact ⟨⟨_,Z,ah _⟩,trivial⟩
  ·refine cp (k:=(15,i,r)) (15,i+1,spr s false r s.length) ?_ ?_ (bm ?_ ?_)
   ·rename_i hf
    rw [if_neg (by rw [hf]; exact Bool.false_ne_true),if_pos (show star p i from h)] at hst; exact ⟨.inl rfl,hip,hl1 _,hst.symm.trans hm⟩
   ·dsimp only; omega
   ·refine ⟨⟨_,Z,AV.sub_refl _⟩,⟨_,Z,AV.sub_refl _⟩,⟨_,Z,AV.sub_of_eq ?_⟩,⟨_,Z,b6 ?_⟩,trivial⟩
    ·dsimp only; rw [hl1,hr] <;> rfl
    ·dsimp only; omega
   ·exact ⟨⟨_,Z,ah _⟩,trivial⟩
  ·refine iD Z ?_; refine cD ?_
   rename_i hf hs
   rw [if_neg (by rw [hf]; exact Bool.false_ne_true),if_neg (show ¬ star p i from hs),if_neg (by intro h9; rw [h9] at h; exact Bool.false_ne_true h)] at hst
   rw [hmd,if_neg (by rw [← hm,hst]; dsimp only; omega)]
  ·refine cp (k:=(15,i,r)) (5000,i+1,nxt s (p.getD i 0) r s.length) ?_ ?_ (bm ?_ ?_)
   ·rename_i hf hs
    rw [if_neg (by rw [hf]; exact Bool.false_ne_true),if_neg (show ¬ star p i from hs),if_pos (by revert h; cases som s (p.getD i 0) r s.length <;> simp)] at hst; exact ⟨.inr (.inl rfl),hip,hl2 _,hst.symm.trans hm⟩
   ·dsimp only; omega
   ·refine ⟨⟨_,Z,AV.sub_refl _⟩,⟨_,Z,AV.sub_refl _⟩,⟨_,Z,AV.sub_of_eq ?_⟩,⟨_,Z,b6 ?_⟩,trivial⟩
    ·dsimp only; rw [hl2,hr] <;> rfl
    ·dsimp only; omega
   ·exact ⟨⟨_,Z,ah _⟩,trivial⟩
  ·refine cp (k:=(5000,i,r)) (5000,i+2,spr s true r s.length) ?_ ?_ (bm ?_ ?_)
   ·have h2:=hlt2 (by assumption)
    rw [if_pos (by assumption)] at hst; exact ⟨.inr (.inl rfl),h2,hl1 _,hst.symm.trans hm⟩
   ·dsimp only; omega
   ·refine ⟨⟨_,Z,AV.sub_refl _⟩,⟨_,Z,AV.sub_refl _⟩,⟨_,Z,AV.sub_of_eq ?_⟩,⟨_,Z,b6 ?_⟩,trivial⟩
    ·dsimp only; rw [hl1,hr] <;> rfl
    ·dsimp only; omega
   ·exact ⟨⟨_,Z,ah _⟩,trivial⟩
  ·refine cp (k:=(5000,i,r)) (5000,i+1,spr s false r s.length) ?_ ?_ (bm ?_ ?_)
   ·rename_i hf
    rw [if_neg (by rw [hf]; exact Bool.false_ne_true),if_pos (show star p i from h)] at hst; exact ⟨.inr (.inl rfl),hip,hl1 _,hst.symm.trans hm⟩
   ·dsimp only; omega
   ·refine ⟨⟨_,Z,AV.sub_refl _⟩,⟨_,Z,AV.sub_refl _⟩,⟨_,Z,AV.sub_of_eq ?_⟩,⟨_,Z,b6 ?_⟩,trivial⟩
    ·dsimp only; rw [hl1,hr] <;> rfl
    ·dsimp only; omega
   ·exact ⟨⟨_,Z,ah _⟩,trivial⟩
  ·refine iD Z ?_; refine cD ?_
   rename_i hf hs
   rw [if_neg (by rw [hf]; exact Bool.false_ne_true),if_neg (show ¬ star p i from hs),if_neg (by intro h9; rw [h9] at h; exact Bool.false_ne_true h)] at hst
   rw [hmd,if_neg (by rw [← hm,hst]; dsimp only; omega)]
  ·refine cp (k:=(5000,i,r)) (6000,i+1,nxt s (p.getD i 0) r s.length) ?_ ?_ (bm ?_ ?_)
   ·rename_i hf hs
    rw [if_neg (by rw [hf]; exact Bool.false_ne_true),if_neg (show ¬ star p i from hs),if_pos (by revert h; cases som s (p.getD i 0) r s.length <;> simp)] at hst; exact ⟨.inr (.inr rfl),hip,hl2 _,hst.symm.trans hm⟩
   ·dsimp only; omega
   ·refine ⟨⟨_,Z,AV.sub_refl _⟩,⟨_,Z,AV.sub_refl _⟩,⟨_,Z,AV.sub_of_eq ?_⟩,⟨_,Z,b6 ?_⟩,trivial⟩
    ·dsimp only; rw [hl2,hr] <;> rfl
    ·dsimp only; omega
   ·exact ⟨⟨_,Z,ah _⟩,trivial⟩
  ·refine cp (k:=(6000,i,r)) (6000,i+2,spr s true r s.length) ?_ ?_ (bm ?_ ?_)
   ·have h2:=hlt2 (by assumption)
    rw [if_pos (by assumption)] at hst; exact ⟨.inr (.inr rfl),h2,hl1 _,hst.symm.trans hm⟩
   ·dsimp only; omega
   ·refine ⟨⟨_,Z,AV.sub_refl _⟩,⟨_,Z,AV.sub_refl _⟩,⟨_,Z,AV.sub_of_eq ?_⟩,⟨_,Z,b6 ?_⟩,trivial⟩
    ·dsimp only; rw [hl1,hr] <;> rfl
    ·dsimp only; omega
   ·exact ⟨⟨_,Z,ah _⟩,trivial⟩
  ·refine cp (k:=(6000,i,r)) (6000,i+1,spr s false r s.length) ?_ ?_ (bm ?_ ?_)
   ·rename_i hf
    rw [if_neg (by rw [hf]; exact Bool.false_ne_true),if_pos (show star p i from h)] at hst; exact ⟨.inr (.inr rfl),hip,hl1 _,hst.symm.trans hm⟩
   ·dsimp only; omega
   ·refine ⟨⟨_,Z,AV.sub_refl _⟩,⟨_,Z,AV.sub_refl _⟩,⟨_,Z,AV.sub_of_eq ?_⟩,⟨_,Z,b6 ?_⟩,trivial⟩
    ·dsimp only; rw [hl1,hr] <;> rfl
    ·dsimp only; omega
   ·exact ⟨⟨_,Z,ah _⟩,trivial⟩
  ·refine iD Z ?_; refine cD ?_
   rename_i hf hs
   rw [if_neg (by rw [hf]; exact Bool.false_ne_true),if_neg (show ¬ star p i from hs),if_neg (by intro h9; rw [h9] at h; exact Bool.false_ne_true h)] at hst
   rw [hmd,if_neg (by rw [← hm,hst]; dsimp only; omega)]
  ·refine cp (k:=(6000,i,r)) (5000,i+1,nxt s (p.getD i 0) r s.length) ?_ ?_ (bm ?_ ?_)
   ·rename_i hf hs
    rw [if_neg (by rw [hf]; exact Bool.false_ne_true),if_neg (show ¬ star p i from hs),if_pos (by revert h; cases som s (p.getD i 0) r s.length <;> simp)] at hst; exact ⟨.inr (.inl rfl),hip,hl2 _,hst.symm.trans hm⟩
   ·dsimp only; omega
   ·refine ⟨⟨_,Z,AV.sub_refl _⟩,⟨_,Z,AV.sub_refl _⟩,⟨_,Z,AV.sub_of_eq ?_⟩,⟨_,Z,b6 ?_⟩,trivial⟩
    ·dsimp only; rw [hl2,hr] <;> rfl
    ·dsimp only; omega
   ·exact ⟨⟨_,Z,ah _⟩,trivial⟩
 ·have hen:=hen hip
  have hR1:R=(i,r):=hm.symm.trans hen
  rcases hid with rfl | rfl | rfl
  all_goals
   (repeat' (first | refine bI ?_ | refine cj ?_ | refine aZ Z ?_ | refine bz ?_ | refine cR Z Z Z Z ?_ | refine bp Z Z Z Z ?_ | refine ib Z Z Z Z Z Z ?_ | refine eq Z Z Z Z Z Z O ?_ | refine eD Z Z Z Z Z Z ?_ | refine du Z Z Z Z Z Z Z O ?_ | refine dC Z Z Z Z Z Z Z O ?_ | refine cQ Z Z Z Z Z Z ?_ | refine lg Z Z Z (by first | rfl | assumption | exact decide_eq_true V | exact aR V) ?_ | refine kO Z Z Z (by first | rfl | assumption | exact decide_eq_false V | exact aE V) ?_ | refine kU Z Z Z (by first | rfl | assumption | exact decide_eq_false V | exact aE V) Z Z ?_ | refine kF Z Z Z (by first | rfl | assumption | exact decide_eq_true V | exact aR V) Z Z ?_ | refine ge Z Z Z Z Z ?_ | refine b7 Z Z Z Z (by first | rfl | assumption | exact decide_eq_true V | exact aR V) Z ?_ | refine bP Z Z Z Z (by first | rfl | assumption | exact decide_eq_false V | exact aE V) Z ?_ | refine iB Z (by first | rfl | assumption | exact decide_eq_true V | exact aR V) ?_ | refine iy Z (by first | rfl | assumption | exact decide_eq_false V | exact aE V) ?_ | refine ii Z Z Z Z ?_ | refine dc Z Z Z Z Z ?_ | refine dX Z Z Z Z Z Z Z Z O ?_ | refine fS Z Z Z Z Z Z ?_ | refine fV Z Z Z Z Z Z Z ?_ | refine fQ Z Z Z Z Z Z Z ?_ | refine bK Z Z Z Z Z Z Z Z Z O ?_ | refine aG Z Z Z Z Z Z Z Z Z O ?_ | refine aw false Z Z Z Z Z Z Z Z Z O Y ?_ | refine aw (0:Int) Z Z Z Z Z Z Z Z Z O Y ?_ | refine aw ([]:List UInt8) Z Z Z Z Z Z Z Z Z O Y ?_ | refine az false Z Z Z Z Z Z Z Z Z O Y ?_ | refine az (0:Int) Z Z Z Z Z Z Z Z Z O Y ?_ | refine az ([]:List UInt8) Z Z Z Z Z Z Z Z Z O Y ?_ | refine dV Z Z Z Z Z Z Z ?_ | refine dQ Z Z Z Z Z Z Z ?_ | refine bo (0:Int) Z Z Z Z Z Z Z O ?_ | refine bo false Z Z Z Z Z Z Z O ?_ | refine bV Z Z Z Z Z Z Z Z O ?_ | refine cg Z Z Z Z Z Z Z Z Z ?_ | refine ci Z Z Z Z Z Z Z Z Z ?_ | refine ce Z Z Z Z Z Z Z Z Z Z Z Z Z ?_ | refine ij Z Z Z Z Z ?_ | refine dW ?_ | refine dU ?_ | refine aM ?_ | refine aI ?_ | refine aJ ?_ | refine ar ?_ | refine aD ?_ | refine ax Z ?_ | refine noGoto_ret ?_ | refine noGoto_exit ?_ | refine noGoto_normal ?_ | refine de ?_ | refine dT ?_ | refine di ?_ | refine eF ?_ | refine bu Z Z Z Z Z (by simp only [List.length_append,List.length_cons,List.length_nil] <;> omega) ?_ | refine rJ Z Z Z (λ h=>?_) (λ h=>?_) | refine gd_N Z Z Z (λ h=>?_) (λ h=>?_) | refine rt Z Z Z (λ h=>?_) (λ h=>?_) | refine kj Z (λ h=>?_) (λ h=>?_) | refine kw Z (λ h=>?_) (λ h=>?_) | refine iz Z (λ h=>?_) (λ h=>?_)))
  all_goals
   refine iD Z ?_; refine cD ?_
   rw [hmd,hR1]; dsimp only; rw [if_pos O]
end Go.Ab.Glob
end
end
section
namespace Go.Ab.R06
open Go.Proofs Go.Ab Go.Ab.RB
attribute [local irreducible] awp eC aW aA bN AV.sub M dY
def bX (s7:Bytes):Nat→Int→Option (Unit⊕Bool)
 | 0,_=>none
 | m+1,t16 =>
 if t16 < (s7.length:Int) then
  (
    ck ((0:Int)≤t16∧t16 < (s7.length:Int)) <|
    if byt s7 t16 < 48 then
     some true
    else
     ck ((0:Int)≤t16∧t16 < (s7.length:Int)) <|
     some (decide (57 < byt s7 t16))
   : Option Bool).bind λ t21 =>
  if t21=true then
   some (.inr false)
  else
   ck (inR (t16+1)) <|
   bX s7 m (t16+1)
 else
  some (.inl ())
def d8 (n:Nat)(s_0:Bytes):Option Bool :=
 jn (
   (
     if 0 < (s_0.length:Int) then
      ck ((0:Int)≤0∧0 < (s_0.length:Int)) <|
      some (decide (byt s_0 0=45))
     else
      some false
    : Option Bool).bind λ t3 =>
   if t3=true then
    ck ((0:Int)≤1∧1≤(s_0.length:Int)∧(s_0.length:Int)≤(s_0.length:Int)) <|
    if sub s_0 1 (s_0.length:Int)=([48]:Bytes) then
     some (.inr false)
    else
     some (.inl (sub s_0 1 (s_0.length:Int)))
   else
    some (.inl s_0)
  : Option (Bytes⊕Bool)) λ s7 =>
 jn (bX s7 n 0) λ q31 =>
 (
   if s7=([]:Bytes) then
    some false
   else
    ck ((0:Int)≤0∧0 < (s7.length:Int)) <|
    if byt s7 0=48 then
     some (decide ((s7.length:Int)=1))
    else
     some true
  : Option Bool).bind λ t28 =>
 some t28
theorem pK (n:Nat)(s_0:Bytes)(r:Bool)(h0:d8 n s_0=some r):aA Tryz.prog 123 [eS s_0] (·=.p (eB r)):=by
 unfold d8 at h0
 refine ba good Tryz.func123 Z Z Z λ w0=>mP (λ v:Bool=>.p (eB v)) ?_
 refine nx 5 Z ?_
 obtain ⟨o34,h1,hL0,hR0⟩:=fx h0
 refine kX (λ v35:Bytes=>o34=.inl v35) (λ v35=>⟨[(0,.p (eS v35))],[]⟩) (λ v35 hv=>?_) ?_
 ·have h0:=hL0 _ hv
  refine nx 5 Z (oLs Z (nx 3 Z ?_))
  obtain ⟨o36,h1,hL0,hR0⟩:=fx h0
  refine kEx 0 (λ v37:Unit=>o36=.inl v37) (λ v37=>⟨[(0,.p (eS v35))],[]⟩) (λ v37 hv=>?_) ?_
  ·have h0:=hL0 _ hv
   refine nx 2 Z (bd h0 λ o38 h1 h0=>?_)
   refine kN o38 (λ v39=>⟨[(2,.p (eB v39))],[]⟩) ?_ ?_
   ·exact nx 2 Z (mQ (oi h0) Z (sr))
   refine nx 2 Z (oS Z Z (nx 1 Z (fN [33,34] h1 Z (λ c25 h1=>?_) λ c25 h1=>?_)))
   ·exact nx 11 Z (eX _ (oi h1).symm (gE Z Z))
   refine nx 1 Z (oI h1 Z λ hk26 h1=>nx 2 Z (fN [37,38] h1 Z (λ c27 h1=>?_) λ c27 h1=>?_))
   ·exact nx 1 Z (oLs Z (nx 5 Z (eX _ (oi h1).symm (gE Z Z))))
   exact nx 7 Z (eX _ (oi h1).symm (gE Z Z))
  refine lG (λ (q40:Int)=>⟨[(0,.p (eS v35)),(17,.p (eI (v35.length:Int))),(18,.p (eI q40))],[]⟩) (λ m (q40:Int)=>bX v35 m q40) Y 0 h1 (gE Z Z) ?_
  rintro m t16 h1
  replace h1:bX v35 (m+1) t16=some o36:=h1
  rw [bX] at h1
  refine nx 5 Z (fD [19] h1 Z (λ c17 h1=>?_) λ c17 h1=>?_)
  ·refine nx 10 Z (bd h1 λ o41 h2 h1=>?_)
   refine kN o41 (λ v42=>⟨[(0,.p (eS v35)),(17,.p (eI (v35.length:Int))),(18,.p (eI t16)),(30,.p (eB v42))],[]⟩) ?_ ?_
   ·refine nx 1 Z (fB [30] h1 Z (λ c22 h1=>?_) λ c22 h1=>?_)
    ·exact nx 6 Z (mQ (hR0 _ (oi h1).symm) Z (sr))
    exact nx 3 Z (oA h1 Z Z λ hk23 h1=>nx 2 Z (eX (t16+1) h1 (gE Z Z)))
   refine nx 3 Z (oI h2 Z λ hk18 h2=>nx 2 Z (fD [24,25] h2 Z (λ c19 h2=>?_) λ c19 h2=>?_))
   ·exact nx 6 Z (eX _ (oi h2).symm (gE Z Z))
   exact nx 2 Z (oI h2 Z λ hk20 h2=>nx 3 Z (eX _ (oi h2).symm (gE Z Z)))
  exact nx 2 Z (eXi _ (oi h1).symm (gE Z Z))
 refine nx 1 Z (bd h1 λ o43 h2 h1=>?_)
 refine kN o43 (λ v44=>⟨[(0,.p (eS s_0)),(11,.p (eB v44))],[]⟩) ?_ ?_
 ·refine nx 1 Z (fB [11] h1 Z (λ c4 h1=>?_) λ c4 h1=>?_)
  ·refine nx 4 Z (oP h1 Z Z Z λ hk5 h1=>nx 5 Z (oS Z Z (nx 1 Z (fD [15] h1 Z (λ c6 h1=>?_) λ c6 h1=>?_))))
   ·exact nx 6 Z (mQ (hR0 _ (oi h1).symm) Z (sr))
   exact nx 2 Z (eX _ (oi h1).symm (gE Z Z))
  exact nx 2 Z (eX _ (oi h1).symm (gE Z Z))
 refine nx 2 Z (oLs Z (nx 2 Z (fD [6,7] h2 Z (λ c1 h2=>?_) λ c1 h2=>?_)))
 ·exact nx 1 Z (oI h2 Z λ hk2 h2=>nx 3 Z (eX _ (oi h2).symm (gE Z Z)))
 exact nx 5 Z (eX _ (oi h2).symm (gE Z Z))
def jS (n_0:Int):Option Bool :=
 (
   if (-9007199254740992)≤n_0 then
    some (decide (n_0≤9007199254740992))
   else
    some false
  : Option Bool).bind λ t2 =>
 some t2
theorem sZ (n_0:Int)(r:Bool)(h0:jS n_0=some r):aA Tryz.prog 125 [eI n_0] (·=.p (eB r)):=by
 unfold jS at h0
 refine ba good Tryz.func125 Z Z Z λ w0=>mP (λ v:Bool=>.p (eB v)) ?_
 refine nx 5 Z (bd h0 λ o4 h1 h0=>?_)
 refine kN o4 (λ v5=>⟨[(2,.p (eB v5))],[]⟩) ?_ ?_
 ·exact nx 2 Z (mQ (oi h0) Z (sr))
 refine nx 4 Z (fD [4,5] h1 Z (λ c1 h1=>?_) λ c1 h1=>?_)
 ·exact nx 5 Z (eX _ (oi h1).symm (gE Z Z))
 exact nx 5 Z (eX _ (oi h1).symm (gE Z Z))
def gg (n:Nat)(s_0:Bytes):Option (Int×Int) :=
 (d8 n s_0).bind λ r1 =>
 if (!r1)=true then
  some (0,2)
 else
  (iN s_0 10 64).bind λ r4 =>
  (
    if r4.2=true then
     some true
    else
     (jS r4.1).bind λ r7 =>
     some (!r7)
   : Option Bool).bind λ t9 =>
  if t9=true then
   some (0,5)
  else
   some (r4.1,0)
theorem sR (n:Nat)(s_0:Bytes)(r:Int×Int)(h0:gg n s_0=some r):aA Tryz.prog 98 [eS s_0] (·=.tuple [.p (eI r.1),.p (eI r.2)]):=by
 unfold gg at h0
 refine ba good Tryz.func98 Z Z Z λ w0=>mP (λ v:Int×Int=>.tuple [.p (eI v.1),.p (eI v.2)]) ?_
 refine nx 9 Z (bd h0 λ r1 e2 h0=>oK (pK _ s_0 _ e2) Z ⟨sr,trivial⟩ Tryz.call123 Z (nx 2 Z ?_))
 refine fB [8] h0 Z (λ c3 h0=>?_) λ c3 h0=>?_
 ·exact nx 7 Z (mQ (oi h0) Z (aC ⟨sr,sr,trivial⟩))
 refine nx 5 Z (bd h0 λ r4 e5 h0=>oK (pH s_0 10 64 _ e5) Z ⟨sr,sr,sr,trivial⟩ Tryz.call124 (AC (sx Z (sx (EE _) yP))) (nx 8 Z (bd h0 λ o12 h1 h0=>kN o12 (λ v13=>⟨[(4,.p (eI r4.1)),(20,.p (eB v13))],[]⟩) ?_ ?_)))
 ·refine nx 1 Z (fB [20] h0 Z (λ c10 h0=>?_) λ c10 h0=>?_)
  ·exact nx 7 Z (mQ (oi h0) Z (aC ⟨sr,sr,trivial⟩))
  exact nx 9 Z (mQ (oi h0) Z (aC ⟨sr,sr,trivial⟩))
 refine nx 2 Z (mO Z (FA Z Z Z Z Z Z (.inr ⟨Z,Z⟩) (nx 1 Z (fB [15,16] h1 Z (λ c6 h1=>?_) λ c6 h1=>?_))))
 ·exact nx 5 Z (eX _ (oi h1).symm (gE Z Z))
 exact nx 1 Z (bd h1 λ r7 e8 h1=>oK (sZ r4.1 _ e8) Z ⟨sr,trivial⟩ Tryz.call125 Z (nx 3 Z (eX _ (oi h1).symm (gE Z Z))))
def cT (s_0:Bytes):Nat→Int→(List UInt8)→Option (List UInt8)
 | 0,_,_=>none
 | m+1,t37,f38 =>
 if t37 < (s_0.length:Int) then
  ck ((0:Int)≤t37∧t37 < (s_0.length:Int)) <|
  (
    if byt s_0 t37=10 then
     (bh (aH.mk f38) ([92,110]:Bytes)).bind λ r42 =>
     some r42.2.2.fbuf
    else
     if byt s_0 t37=13 then
      (bh (aH.mk f38) ([92,114]:Bytes)).bind λ r45 =>
      some r45.2.2.fbuf
     else
      if byt s_0 t37=9 then
       (bh (aH.mk f38) ([92,116]:Bytes)).bind λ r48 =>
       some r48.2.2.fbuf
      else
       (
         if byt s_0 t37=34 then
          some true
         else
          some (decide (byt s_0 t37=92))
        : Option Bool).bind λ t51 =>
       if t51=true then
        (bQ (aH.mk f38) 92).bind λ r53 =>
        (bQ (aH.mk r53.2.fbuf) (byt s_0 t37)).bind λ r55 =>
        some r55.2.fbuf
       else
        (
          if byt s_0 t37 < 32 then
           some true
          else
           some (decide (byt s_0 t37=127))
         : Option Bool).bind λ t58 =>
        if t58=true then
         ck (inR (byt s_0 t37)) <|
         (iq (byt s_0 t37) 16).bind λ r61 =>
         ck (([92,117,123]:Bytes).length+r61.length≤9223372036854775807) <|
         ck ((([92,117,123]:Bytes)++r61).length+([125]:Bytes).length≤9223372036854775807) <|
         (bh (aH.mk f38) ((([92,117,123]:Bytes)++r61)++([125]:Bytes))).bind λ r65 =>
         some r65.2.2.fbuf
        else
         (bQ (aH.mk f38) (byt s_0 t37)).bind λ r67 =>
         some r67.2.fbuf
   : Option (List UInt8)).bind λ f69 =>
  ck (inR (t37+1)) <|
  cT s_0 m (t37+1) f69
 else
  some f38
def fu (n:Nat)(s_0:Bytes):Option Bytes :=
 (bQ (aH.mk []) 34).bind λ r1 =>
 (cT s_0 n 0 r1.2.fbuf).bind λ f73 =>
 (bQ (aH.mk f73) 34).bind λ r74 =>
 (dF (aH.mk r74.2.fbuf)).bind λ r76 =>
 some r76.1
theorem oa (n:Nat)(s_0:Bytes)(r:Bytes)(h0:fu n s_0=some r):aA Tryz.prog 96 [eS s_0] (·=.p (eS r)):=by
 unfold fu at h0
 refine ba good Tryz.func96 Z Z Z λ w0=>mP (λ v:Bytes=>.p (eS v)) ?_
 refine nx 6 Z (mO Z (ru Z Z Z Z Z Z Z (nx 3 Z (bd h0 λ r1 e2 h0=>mO Z (b8 [3] [890000] 101000 101001 (cU (aH.mk []) 34 _ e2) Z Z Z Z Z ⟨sr,sr,trivial⟩ Z Z ⟨⟨_,Z,⟨sr,AV.sub_nilvec _ _ _,trivial⟩⟩,trivial⟩ Z Z Z Z Z Z Z Z Tryz.call120 Z Z (nx 5 Z (oLs Z (nx 3 Z (bd h0 λ o82 h1 h0=>?_)))))))))
 refine kE 0 o82 (λ v83=>⟨[(3,.ptr 3 0)],[(3,[.bptr 110 2 3,.vec 108000 1 (5+1) (v83.map eU)])]⟩) ?_ ?_
 ·exact nx 3 Z (bd h0 λ r74 e75 h0=>mO Z (b8 [3] [108000] 116000 116001 (cU (aH.mk o82) 34 _ e75) Z Z Z Z Z ⟨sr,sr,trivial⟩ Z Z ⟨⟨_,Z,⟨sr,sr,trivial⟩⟩,trivial⟩ Z Z Z Z Z Z Z Z Tryz.call120 Z Z (nx 3 Z (bd h0 λ r76 e77 h0=>mO Z (b8 [3] [116000] 117000 117000 (fX (aH.mk r74.2.fbuf) _ e77) Z Z Z Z Z ⟨sr,trivial⟩ Z Z ⟨⟨_,Z,⟨sr,sr,trivial⟩⟩,trivial⟩ Z Z Z Z Z Z Z Z Tryz.call80 Z Z (nx 3 Z (mQ (oi h0) Z (sr))))))))
 refine lG (λ (q84:Int×(List UInt8))=>⟨[(0,.p (eS s_0)),(3,.ptr 3 0),(8,.p (eI (s_0.length:Int))),(9,.p (eI q84.1))],[(3,[.bptr 110 2 3,.vec 108000 1 (5+1) (q84.2.map eU)])]⟩) (λ m (q84:Int×(List UInt8))=>cT s_0 m q84.1 q84.2) Y (0,r1.2.fbuf) h1 (bD (bB 101000 108000 Z Z Z Z Z) (gE Z Z)) ?_
 rintro m ⟨t37,f38⟩ h1
 replace h1:cT s_0 (m+1) t37 f38=some o82:=h1
 rw [cT] at h1
 refine nx 5 Z (fD [10] h1 Z (λ c39 h1=>?_) λ c39 h1=>?_)
 ·refine nx 13 Z (oI h1 Z λ hk40 h1=>nx 2 Z (bd h1 λ o85 h2 h1=>?_))
  refine kN o85 (λ v86=>⟨[(0,.p (eS s_0)),(3,.ptr 3 0),(8,.p (eI (s_0.length:Int))),(9,.p (eI t37))],[(3,[.bptr 110 2 3,.vec 115000 1 (5+1) (v86.map eU)])]⟩) ?_ ?_
  ·exact nx 2 Z (oA h1 Z Z λ hk70 h1=>nx 2 Z (eX (t37+1,o85) h1 (bD (bB 115000 108000 Z Z Z Z Z) (gE Z Z))))
  refine nx 7 Z (fD [17,19] h2 Z (λ c41 h2=>?_) λ c41 h2=>?_)
  ·exact nx 2 Z (bd h2 λ r42 e43 h2=>mO Z (b8 [3] [108000] 109000 109001 (bU (aH.mk f38) ([92,110]:Bytes) _ e43) Z Z Z Z Z ⟨sr,sr,trivial⟩ Z Z ⟨⟨_,Z,⟨sr,sr,trivial⟩⟩,trivial⟩ Z Z Z Z Z Z Z Z Tryz.call78 Z Z (nx 1 Z (eX _ (oi h2).symm (bD (bB 109000 115000 Z Z Z Z Z) (gE Z Z))))))
  refine nx 7 Z (fD [21,23] h2 Z (λ c44 h2=>?_) λ c44 h2=>?_)
  ·exact nx 2 Z (bd h2 λ r45 e46 h2=>mO Z (b8 [3] [108000] 110000 110001 (bU (aH.mk f38) ([92,114]:Bytes) _ e46) Z Z Z Z Z ⟨sr,sr,trivial⟩ Z Z ⟨⟨_,Z,⟨sr,sr,trivial⟩⟩,trivial⟩ Z Z Z Z Z Z Z Z Tryz.call78 Z Z (nx 1 Z (eX _ (oi h2).symm (bD (bB 110000 115000 Z Z Z Z Z) (gE Z Z))))))
  refine nx 7 Z (fD [25,27] h2 Z (λ c47 h2=>?_) λ c47 h2=>?_)
  ·exact nx 2 Z (bd h2 λ r48 e49 h2=>mO Z (b8 [3] [108000] 111000 111001 (bU (aH.mk f38) ([92,116]:Bytes) _ e49) Z Z Z Z Z ⟨sr,sr,trivial⟩ Z Z ⟨⟨_,Z,⟨sr,sr,trivial⟩⟩,trivial⟩ Z Z Z Z Z Z Z Z Tryz.call78 Z Z (nx 1 Z (eX _ (oi h2).symm (bD (bB 111000 115000 Z Z Z Z Z) (gE Z Z))))))
  refine nx 2 Z (bd h2 λ o87 h3 h2=>?_)
  refine kN o87 (λ v88=>⟨[(0,.p (eS s_0)),(3,.ptr 3 0),(5,.p (eK .u8 (byt s_0 t37))),(8,.p (eI (s_0.length:Int))),(9,.p (eI t37)),(29,.p (eB v88))],[(3,[.bptr 110 2 3,.vec 108000 1 (5+1) (f38.map eU)])]⟩) ?_ ?_
  ·refine nx 1 Z (fB [29] h2 Z (λ c52 h2=>?_) λ c52 h2=>?_)
   ·exact nx 3 Z (bd h2 λ r53 e54 h2=>mO Z (b8 [3] [108000] 112000 112001 (cU (aH.mk f38) 92 _ e54) Z Z Z Z Z ⟨sr,sr,trivial⟩ Z Z ⟨⟨_,Z,⟨sr,sr,trivial⟩⟩,trivial⟩ Z Z Z Z Z Z Z Z Tryz.call120 Z Z (nx 3 Z (bd h2 λ r55 e56 h2=>mO Z (b8 [3] [112000] 113000 113001 (cU (aH.mk r53.2.fbuf) (byt s_0 t37) _ e56) Z Z Z Z Z ⟨sr,sr,trivial⟩ Z Z ⟨⟨_,Z,⟨sr,sr,trivial⟩⟩,trivial⟩ Z Z Z Z Z Z Z Z Tryz.call120 Z Z (nx 1 Z (eX _ (oi h2).symm (bD (bB 113000 115000 Z Z Z Z Z) (gE Z Z)))))))))
   refine nx 2 Z (bd h2 λ o89 h3 h2=>?_)
   refine kN o89 (λ v90=>⟨[(0,.p (eS s_0)),(3,.ptr 3 0),(5,.p (eK .u8 (byt s_0 t37))),(8,.p (eI (s_0.length:Int))),(9,.p (eI t37)),(39,.p (eB v90))],[(3,[.bptr 110 2 3,.vec 108000 1 (5+1) (f38.map eU)])]⟩) ?_ ?_
   ·refine nx 1 Z (fB [39] h2 Z (λ c59 h2=>?_) λ c59 h2=>?_)
    ·exact nx 3 Z (cc' h2 λ hk60 h2=>mO Z (d5 Z Z Z Z Z Z Z Z (g0 hk60) (bd h2 λ r61 e62 h2=>oK (oG (byt s_0 t37) 16 _ e62) Z ⟨sr,sr,trivial⟩ Tryz.call121 Z (oC h2 Z λ hk63 h2=>oC h2 Z λ hk64 h2=>bd h2 λ r65 e66 h2=>mO Z (b8 [3] [108000] 114000 114001 (bU (aH.mk f38) ((([92,117,123]:Bytes)++r61)++([125]:Bytes)) _ e66) Z Z Z Z Z ⟨sr,sr,trivial⟩ Z Z ⟨⟨_,Z,⟨sr,sr,trivial⟩⟩,trivial⟩ Z Z Z Z Z Z Z Z Tryz.call78 Z Z (nx 1 Z (eX _ (oi h2).symm (bD (bB 114000 115000 Z Z Z Z Z) (gE Z Z)))))))))
    exact nx 3 Z (bd h2 λ r67 e68 h2=>mO Z (b8 [3] [108000] 115000 115001 (cU (aH.mk f38) (byt s_0 t37) _ e68) Z Z Z Z Z ⟨sr,sr,trivial⟩ Z Z ⟨⟨_,Z,⟨sr,sr,trivial⟩⟩,trivial⟩ Z Z Z Z Z Z Z Z Tryz.call120 Z Z (nx 1 Z (eX _ (oi h2).symm (gE Z Z)))))
   refine nx 4 Z (fD [41,42] h3 Z (λ c57 h3=>?_) λ c57 h3=>?_)
   ·exact nx 5 Z (eX _ (oi h3).symm (gE Z Z))
   exact nx 5 Z (eX _ (oi h3).symm (gE Z Z))
  refine nx 4 Z (fD [31,32] h3 Z (λ c50 h3=>?_) λ c50 h3=>?_)
  ·exact nx 5 Z (eX _ (oi h3).symm (gE Z Z))
  exact nx 5 Z (eX _ (oi h3).symm (gE Z Z))
 exact nx 2 Z (eXi _ (oi h1).symm (gE Z Z))
def bS (s_0:Bytes):Nat→Int→Int→Option (Int×Int)
 | 0,_,_=>none
 | m+1,n11,i12 =>
 (
   if i12 < (s_0.length:Int) then
    some (decide (i12 < 6))
   else
    some false
  : Option Bool).bind λ t14 =>
 if t14=true then
  ck ((0:Int)≤i12∧i12 < (s_0.length:Int)) <|
  (strings_IndexByte ([48,49,50,51,52,53,54,55,56,57,97,98,99,100,101,102]:Bytes) (byt s_0 i12)).bind λ r17 =>
  if r17 < 0 then
   some (n11,i12)
  else
   ck (inR (i12+1)) <|
   bS s_0 m (IntKind.wrap .i32 ((IntKind.wrap .i32 (16*n11))+(IntKind.wrap .i32 (r17)))) (i12+1)
 else
  some (n11,i12)
def cO (n:Nat)(s_0:Bytes):Option (Int×Int×Int) :=
 (bS s_0 n 0 0).bind λ q39 =>
 if q39.2=(s_0.length:Int) then
  some (0,0,40)
 else
  (
    ck ((0:Int)≤q39.2∧q39.2 < (s_0.length:Int)) <|
    if byt s_0 q39.2=125 then
     if q39.2=0 then
      some true
     else
      if 1 < q39.2 then
       ck ((0:Int)≤0∧0 < (s_0.length:Int)) <|
       if byt s_0 0=48 then
        some true
       else
        (dD q39.1).bind λ r32 =>
        some (!r32)
      else
       (dD q39.1).bind λ r34 =>
       some (!r34)
    else
     some true
   : Option Bool).bind λ t36 =>
  if t36=true then
   some (0,0,2)
  else
   ck (inR (q39.2+1)) <|
   some (q39.1,q39.2+1,0)
theorem oj (n:Nat)(s_0:Bytes)(r:Int×Int×Int)(h0:cO n s_0=some r):aA Tryz.prog 138 [eS s_0] (·=.tuple [.p (eK .i32 r.1),.p (eI r.2.1),.p (eI r.2.2)]):=by
 unfold cO at h0
 refine ba good Tryz.func138 Z Z Z λ w0=>mP (λ v:Int×Int×Int=>.tuple [.p (eK .i32 v.1),.p (eI v.2.1),.p (eI v.2.2)]) ?_
 refine nx 13 Z (bd h0 λ o42 h1 h0=>?_)
 refine kE 0 o42 (λ v43=>⟨[(0,.p (eS s_0)),(5,.p (eK .i32 v43.1)),(6,.p (eI v43.2))],[]⟩) ?_ ?_
 ·refine nx 6 Z (oLs Z (nx 2 Z (fD [32] h0 Z (λ c25 h0=>?_) λ c25 h0=>?_)))
  ·exact nx 8 Z (mQ (oi h0) Z (aC ⟨sr,sr,sr,trivial⟩))
  refine nx 4 Z (bd h0 λ o44 h1 h0=>?_)
  refine kN o44 (λ v45=>⟨[(5,.p (eK .i32 o42.1)),(6,.p (eI o42.2)),(54,.p (eB v45))],[]⟩) ?_ ?_
  ·refine nx 1 Z (fB [54] h0 Z (λ c37 h0=>?_) λ c37 h0=>?_)
   ·exact nx 8 Z (mQ (oi h0) Z (aC ⟨sr,sr,sr,trivial⟩))
   exact nx 6 Z (oA h0 Z Z λ hk38 h0=>nx 5 Z (mQ (oi h0) Z (aC ⟨sr,sr,sr,trivial⟩)))
  refine nx 3 Z (oI h1 Z λ hk26 h1=>nx 2 Z (fN [36,37] h1 Z (λ c27 h1=>?_) λ c27 h1=>?_))
  ·refine nx 4 Z (fD [39,40,41] h1 Z (λ c28 h1=>?_) λ c28 h1=>?_)
   ·exact nx 14 Z (eX _ (oi h1).symm (gE Z Z))
   refine nx 3 Z (fD [43,44] h1 Z (λ c29 h1=>?_) λ c29 h1=>?_)
   ·refine nx 1 Z (oI h1 Z λ hk30 h1=>nx 4 Z (fD [47,48,49,50] h1 Z (λ c31 h1=>?_) λ c31 h1=>?_))
    ·exact nx 5 Z (eX _ (oi h1).symm (gE Z Z))
    exact nx 1 Z (bd h1 λ r32 e33 h1=>oK (iR o42.1 _ e33) Z ⟨sr,trivial⟩ Tryz.call134 Z (nx 3 Z (eX _ (oi h1).symm (gE Z Z))))
   exact nx 7 Z (bd h1 λ r34 e35 h1=>oK (iR o42.1 _ e35) Z ⟨sr,trivial⟩ Tryz.call134 Z (nx 3 Z (eX _ (oi h1).symm (gE Z Z))))
  exact nx 18 Z (eX _ (oi h1).symm (gE Z Z))
 refine lG (λ (q46:Int×Int)=>⟨[(0,.p (eS s_0)),(5,.p (eK .i32 q46.1)),(6,.p (eI q46.2))],[]⟩) (λ m (q46:Int×Int)=>bS s_0 m q46.1 q46.2) Y (0,0) h1 (gE Z Z) ?_
 rintro m ⟨n11,i12⟩ h1
 replace h1:bS s_0 (m+1) n11 i12=some o42:=h1
 rw [bS] at h1
 refine nx 2 Z (bd h1 λ o47 h2 h1=>?_)
 refine kN o47 (λ v48=>⟨[(0,.p (eS s_0)),(5,.p (eK .i32 n11)),(6,.p (eI i12)),(15,.p (eB v48))],[]⟩) ?_ ?_
 ·refine nx 1 Z (fB [15] h1 Z (λ c15 h1=>?_) λ c15 h1=>?_)
  ·refine nx 8 Z (oI h1 Z λ hk16 h1=>bd h1 λ r17 e18 h1=>oK (kQ ([48,49,50,51,52,53,54,55,56,57,97,98,99,100,101,102]:Bytes) (byt s_0 i12) _ e18) Z ⟨sr,sr,trivial⟩ Tryz.call97 Z (nx 8 Z ?_))
   refine fD [23] h1 Z (λ c19 h1=>?_) λ c19 h1=>?_
   ·exact nx 2 Z (eXi _ (oi h1).symm (gE Z Z))
   exact nx 12 Z (oA h1 Z Z λ hk20 h1=>nx 2 Z (eX (IntKind.wrap .i32 ((IntKind.wrap .i32 (16*n11))+(IntKind.wrap .i32 (r17))),i12+1) h1 (gE Z Z)))
  exact nx 2 Z (eXi _ (oi h1).symm (gE Z Z))
 refine nx 3 Z (oLs Z (nx 2 Z (fD [11,12] h2 Z (λ c13 h2=>?_) λ c13 h2=>?_)))
 ·exact nx 4 Z (eX _ (oi h2).symm (gE Z Z))
 exact nx 4 Z (eX _ (oi h2).symm (gE Z Z))
def fC (n:Nat)(s_0:Bytes):Option (Int×Int×Int) :=
 if s_0=([]:Bytes) then
  some (0,0,40)
 else
  ck ((0:Int)≤0∧0 < (s_0.length:Int)) <|
  if byt s_0 0=110 then
   some (10,1,0)
  else
   if byt s_0 0=114 then
    some (13,1,0)
   else
    if byt s_0 0=116 then
     some (9,1,0)
    else
     (
       if byt s_0 0=34 then
        some true
       else
        some (decide (byt s_0 0=92))
      : Option Bool).bind λ t7 =>
     if t7=true then
      ck ((0:Int)≤0∧0 < (s_0.length:Int)) <|
      some (IntKind.wrap .i32 (byt s_0 0),1,0)
     else
      if byt s_0 0=117 then
       if (s_0.length:Int)=1 then
        some (0,0,40)
       else
        ck ((0:Int)≤1∧1 < (s_0.length:Int)) <|
        if byt s_0 1=123 then
         ck ((0:Int)≤2∧2≤(s_0.length:Int)∧(s_0.length:Int)≤(s_0.length:Int)) <|
         (cO n (sub s_0 2 (s_0.length:Int))).bind λ r15 =>
         ck (inR (r15.2.1+2)) <|
         some (r15.1,r15.2.1+2,r15.2.2)
        else
         some (0,0,2)
      else
       some (0,0,2)
theorem rV (n:Nat)(s_0:Bytes)(r:Int×Int×Int)(h0:fC n s_0=some r):aA Tryz.prog 117 [eS s_0] (·=.tuple [.p (eK .i32 r.1),.p (eI r.2.1),.p (eI r.2.2)]):=by
 unfold fC at h0
 refine ba good Tryz.func117 Z Z Z λ w0=>mP (λ v:Int×Int×Int=>.tuple [.p (eK .i32 v.1),.p (eI v.2.1),.p (eI v.2.2)]) ?_
 refine nx 10 Z (oS Z Z (nx 1 Z (fD [9] h0 Z (λ c1 h0=>?_) λ c1 h0=>?_)))
 ·exact nx 8 Z (mQ (oi h0) Z (aC ⟨sr,sr,sr,trivial⟩))
 refine nx 6 Z (oI h0 Z λ hk2 h0=>nx 7 Z (fD [12,13] h0 Z (λ c3 h0=>?_) λ c3 h0=>?_))
 ·exact nx 8 Z (mQ (oi h0) Z (aC ⟨sr,sr,sr,trivial⟩))
 refine nx 6 Z (fD [14,15] h0 Z (λ c4 h0=>?_) λ c4 h0=>?_)
 ·exact nx 8 Z (mQ (oi h0) Z (aC ⟨sr,sr,sr,trivial⟩))
 refine nx 6 Z (fD [16,17] h0 Z (λ c5 h0=>?_) λ c5 h0=>?_)
 ·exact nx 8 Z (mQ (oi h0) Z (aC ⟨sr,sr,sr,trivial⟩))
 refine nx 2 Z (bd h0 λ o19 h1 h0=>?_)
 refine kN o19 (λ v20=>⟨[(0,.p (eS s_0)),(11,.p (eK .u8 (byt s_0 0))),(18,.p (eB v20))],[]⟩) ?_ ?_
 ·refine nx 1 Z (fB [18] h0 Z (λ c8 h0=>?_) λ c8 h0=>?_)
  ·exact nx 4 Z (oI h0 Z λ hk9 h0=>nx 6 Z (mQ (oi h0) Z (aC ⟨sr,sr,sr,trivial⟩)))
  refine nx 6 Z (fD [24,25] h0 Z (λ c10 h0=>?_) λ c10 h0=>?_)
  ·refine nx 5 Z (oLs Z (nx 2 Z (fD [28] h0 Z (λ c11 h0=>?_) λ c11 h0=>?_)))
   ·exact nx 8 Z (mQ (oi h0) Z (aC ⟨sr,sr,sr,trivial⟩))
   refine nx 6 Z (oI h0 Z λ hk12 h0=>nx 2 Z (fN [31] h0 Z (λ c13 h0=>?_) λ c13 h0=>?_))
   ·exact nx 5 Z (oP h0 Z Z Z λ hk14 h0=>bd h0 λ r15 e16 h0=>oK (oj _ (sub s_0 2 (s_0.length:Int)) _ e16) Z ⟨sr,trivial⟩ Tryz.call138 Z (nx 12 Z (oA h0 Z Z λ hk17 h0=>nx 5 Z (mG (gE (t:=⟨[(2,.p (eK .i32 r15.1)),(3,.p (eI (r15.2.1+2))),(4,.p (eI r15.2.2))],[]⟩) Z Z) (nx 1 Z (mQ (oi h0) Z (aC ⟨sr,sr,sr,trivial⟩)))))))
   exact nx 8 Z (mQ (oi h0) Z (aC ⟨sr,sr,sr,trivial⟩))
  exact nx 9 Z (mQ (oi h0) Z (aC ⟨sr,sr,sr,trivial⟩))
 refine nx 5 Z (fD [18,19] h1 Z (λ c6 h1=>?_) λ c6 h1=>?_)
 ·exact nx 2 Z (eX _ (oi h1).symm (gE Z Z))
 exact nx 5 Z (eX _ (oi h1).symm (gE Z Z))
def cJ (n:Nat)(s_0:Bytes):Nat→Int→(List UInt8)→Option ((Int×(List UInt8))⊕(Bytes×Int×Int))
 | 0,_,_=>none
 | m+1,at31,f32 =>
 (
   if at31 < (s_0.length:Int) then
    ck ((0:Int)≤at31∧at31 < (s_0.length:Int)) <|
    some (!decide (byt s_0 at31=34))
   else
    some false
  : Option Bool).bind λ t35 =>
 if t35=true then
  ck ((0:Int)≤at31∧at31≤(s_0.length:Int)∧(s_0.length:Int)≤(s_0.length:Int)) <|
  (dp (sub s_0 at31 (s_0.length:Int))).bind λ r38 =>
  jn (
    if r38.1=92 then
     ck (inR (at31+1)) <|
     ck ((0:Int)≤at31+1∧at31+1≤(s_0.length:Int)∧(s_0.length:Int)≤(s_0.length:Int)) <|
     (fC n (sub s_0 (at31+1) (s_0.length:Int))).bind λ r43 =>
     if r43.2.2=0 then
      ck (inR (r43.2.1+1)) <|
      some (.inl (r43.1,r43.2.1+1))
     else
      some (.inr (.inr (([]:Bytes),0,r43.2.2)))
    else
     (
       if r38.1=65533 then
        if r38.2=1 then
         some true
        else
         if r38.1 < 32 then
          some true
         else
          some (decide (r38.1=127))
       else
        if r38.1 < 32 then
         some true
        else
         some (decide (r38.1=127))
      : Option Bool).bind λ t51 =>
     if t51=true then
      some (.inr (.inr (([]:Bytes),0,2)))
     else
      some (.inl (r38.1,r38.2))
   : Option ((Int×Int)⊕((Int×(List UInt8))⊕(Bytes×Int×Int)))) λ q71 =>
  (dG (aH.mk f32) q71.1).bind λ r55 =>
  ck (inR (at31+q71.2)) <|
  cJ n s_0 m (at31+q71.2) r55.2.2.fbuf
 else
  some (.inl (at31,f32))
def eQ (n:Nat)(s_0:Bytes):Option (Bytes×Int×Int) :=
 if s_0=([]:Bytes) then
  some (([]:Bytes),0,40)
 else
  ck ((0:Int)≤0∧0 < (s_0.length:Int)) <|
  if byt s_0 0=34 then
   jn (cJ n s_0 n 1 []) λ q69 =>
   if q69.1=(s_0.length:Int) then
    some (([]:Bytes),0,40)
   else
    (iU (aH.mk q69.2)).bind λ r63 =>
    if 4096 < r63.1 then
     some (([]:Bytes),0,3)
    else
     (dF (aH.mk r63.2.fbuf)).bind λ r66 =>
     ck (inR (q69.1+1)) <|
     some (r66.1,q69.1+1,0)
  else
   some (([]:Bytes),0,2)
theorem qS (n:Nat)(s_0:Bytes)(r:Bytes×Int×Int)(h0:eQ n s_0=some r):aA Tryz.prog 95 [eS s_0] (·=.tuple [.p (eS r.1),.p (eI r.2.1),.p (eI r.2.2)]):=by
 unfold eQ at h0
 refine ba good Tryz.func95 Z Z Z λ w0=>mP (λ v:Bytes×Int×Int=>.tuple [.p (eS v.1),.p (eI v.2.1),.p (eI v.2.2)]) ?_
 refine nx 10 Z (oS Z Z (nx 1 Z (fD [13] h0 Z (λ c1 h0=>?_) λ c1 h0=>?_)))
 ·exact nx 8 Z (mQ (oi h0) Z (aC ⟨sr,sr,sr,trivial⟩))
 refine nx 6 Z (oI h0 Z λ hk2 h0=>nx 2 Z (fN [16] h0 Z (λ c3 h0=>?_) λ c3 h0=>?_))
 ·refine nx 4 Z (mO Z (ru Z Z Z Z Z Z Z (nx 7 Z ?_)))
  obtain ⟨o73,h1,hL0,hR0⟩:=fx h0
  refine kEx 0 (λ v74:Int×(List UInt8)=>o73=.inl v74) (λ v74=>⟨[(0,.p (eS s_0)),(5,.ptr 5 0),(6,.p (eI v74.1))],[(5,[.bptr 110 2 5,.vec 101000 1 (5+1) (v74.2.map eU)])]⟩) (λ v74 hv=>?_) ?_
  ·have h0:=hL0 _ hv
   refine nx 6 Z (oLs Z (nx 2 Z (fD [73] h0 Z (λ c62 h0=>?_) λ c62 h0=>?_)))
   ·exact nx 8 Z (mQ (oi h0) Z (aC ⟨sr,sr,sr,trivial⟩))
   refine nx 5 Z (bd h0 λ r63 e64 h0=>mO Z (b8 [5] [101000] 103000 103001 (nR (aH.mk v74.2) _ e64) Z Z Z Z Z ⟨sr,trivial⟩ Z Z ⟨⟨_,Z,⟨sr,sr,trivial⟩⟩,trivial⟩ Z Z Z Z Z Z Z Z Tryz.call119 Z Z (nx 2 Z (fD [75] h0 Z (λ c65 h0=>?_) λ c65 h0=>?_))))
   ·exact nx 8 Z (mQ (oi h0) Z (aC ⟨sr,sr,sr,trivial⟩))
   exact nx 4 Z (bd h0 λ r66 e67 h0=>mO Z (b8 [5] [103000] 104000 104000 (fX (aH.mk r63.2.fbuf) _ e67) Z Z Z Z Z ⟨sr,trivial⟩ Z Z ⟨⟨_,Z,⟨sr,sr,trivial⟩⟩,trivial⟩ Z Z Z Z Z Z Z Z Tryz.call80 Z Z (nx 1 Z (oA h0 Z Z λ hk68 h0=>nx 5 Z (mQ (oi h0) Z (aC ⟨sr,sr,sr,trivial⟩))))))
  refine lG (λ (q75:Int×(List UInt8))=>⟨[(0,.p (eS s_0)),(5,.ptr 5 0),(6,.p (eI q75.1))],[(5,[.bptr 110 2 5,.vec 101000 1 (5+1) (q75.2.map eU)])]⟩) (λ m (q75:Int×(List UInt8))=>cJ n s_0 m q75.1 q75.2) Y (1,[]) h1 (aP (bm ⟨er Z,er Z,er Z,trivial⟩ ⟨⟨_,Z,⟨sr,AV.sub_nilvec _ _ _,trivial⟩⟩,trivial⟩)) ?_
  rintro m ⟨at31,f32⟩ h1
  replace h1:cJ n s_0 (m+1) at31 f32=some o73:=h1
  rw [cJ] at h1
  refine nx 2 Z (bd h1 λ o76 h2 h1=>?_)
  refine kN o76 (λ v77=>⟨[(0,.p (eS s_0)),(5,.ptr 5 0),(6,.p (eI at31)),(26,.p (eB v77))],[(5,[.bptr 110 2 5,.vec 101000 1 (5+1) (f32.map eU)])]⟩) ?_ ?_
  ·refine nx 1 Z (fB [26] h1 Z (λ c36 h1=>?_) λ c36 h1=>?_)
   ·refine nx 7 Z (oP h1 Z Z Z λ hk37 h1=>bd h1 λ r38 e39 h1=>oK (ju (sub s_0 at31 (s_0.length:Int)) _ e39) Z ⟨sr,trivial⟩ Tryz.call116 Z (nx 7 Z ?_))
    obtain ⟨o78,h2,hL1,hR1⟩:=fx h1
    refine kX (λ v79:Int×Int=>o78=.inl v79) (λ v79=>⟨[(0,.p (eS s_0)),(5,.ptr 5 0),(6,.p (eI at31)),(7,.p (eK .i32 v79.1)),(8,.p (eI v79.2))],[(5,[.bptr 110 2 5,.vec 101000 1 (5+1) (f32.map eU)])]⟩) (λ v79 hv=>?_) ?_
    ·have h1:=hL1 _ hv
     exact nx 4 Z (bd h1 λ r55 e56 h1=>mO Z (b8 [5] [101000] 102000 102001 (lm (aH.mk f32) v79.1 _ e56) Z Z Z Z Z ⟨sr,sr,trivial⟩ Z Z ⟨⟨_,Z,⟨sr,sr,trivial⟩⟩,trivial⟩ Z Z Z Z Z Z Z Z Tryz.call118 Z Z (nx 4 Z (oA h1 Z Z λ hk57 h1=>nx 2 Z (eX (at31+v79.2,r55.2.2.fbuf) h1 (bD (bB 102000 101000 Z Z Z Z Z) (gE Z Z)))))))
    refine nx 5 Z (fD [35] h2 Z (λ c40 h2=>?_) λ c40 h2=>?_)
    ·refine nx 5 Z (oA h2 Z Z λ hk41 h2=>oP h2 Z Z Z λ hk42 h2=>bd h2 λ r43 e44 h2=>oK (rV _ (sub s_0 (at31+1) (s_0.length:Int)) _ e44) Z ⟨sr,trivial⟩ Tryz.call117 Z (nx 14 Z ?_))
     refine fN [46] h2 Z (λ c45 h2=>?_) λ c45 h2=>?_
     ·exact nx 5 Z (oA h2 Z Z λ hk46 h2=>nx 3 Z (eX _ (oi h2).symm (gE Z Z)))
     exact nx 8 Z (mG (gE (t:=⟨[(2,.p (eS ([]:Bytes))),(3,.p (eI 0)),(4,.p (eI r43.2.2))],[]⟩) Z Z) (nx 1 Z (mQ (hR0 _ (hR1 _ (oi h2).symm).symm) Z (aC ⟨sr,sr,sr,trivial⟩))))
    refine nx 2 Z (bd h2 λ o80 h3 h2=>?_)
    refine kN o80 (λ v81=>⟨[(0,.p (eS s_0)),(5,.ptr 5 0),(6,.p (eI at31)),(7,.p (eK .i32 r38.1)),(8,.p (eI r38.2)),(64,.p (eB v81))],[(5,[.bptr 110 2 5,.vec 101000 1 (5+1) (f32.map eU)])]⟩) ?_ ?_
    ·refine nx 1 Z (fB [64] h2 Z (λ c52 h2=>?_) λ c52 h2=>?_)
     ·exact nx 8 Z (mQ (hR0 _ (hR1 _ (oi h2).symm).symm) Z (aC ⟨sr,sr,sr,trivial⟩))
     exact nx 2 Z (eX _ (oi h2).symm (gE Z Z))
    refine nx 4 Z (fD [52,53] h3 Z (λ c47 h3=>?_) λ c47 h3=>?_)
    ·refine nx 4 Z (fD [55,56,57] h3 Z (λ c48 h3=>?_) λ c48 h3=>?_)
     ·exact nx 8 Z (eX _ (oi h3).symm (gE Z Z))
     refine nx 4 Z (fD [59,60,61] h3 Z (λ c49 h3=>?_) λ c49 h3=>?_)
     ·exact nx 4 Z (eX _ (oi h3).symm (gE Z Z))
     exact nx 4 Z (eX _ (oi h3).symm (gE Z Z))
    refine nx 8 Z (fD [59,60,61] h3 Z (λ c50 h3=>?_) λ c50 h3=>?_)
    ·exact nx 4 Z (eX _ (oi h3).symm (gE Z Z))
    exact nx 4 Z (eX _ (oi h3).symm (gE Z Z))
   exact nx 2 Z (eXi _ (oi h1).symm (gE Z Z))
  refine nx 3 Z (oLs Z (nx 2 Z (fD [20,21] h2 Z (λ c33 h2=>?_) λ c33 h2=>?_)))
  ·exact nx 2 Z (oI h2 Z λ hk34 h2=>nx 3 Z (eX _ (oi h2).symm (gE Z Z)))
  exact nx 6 Z (eX _ (oi h2).symm (gE Z Z))
 exact nx 8 Z (mQ (oi h0) Z (aC ⟨sr,sr,sr,trivial⟩))
def jQ (s_0:Bytes):Option Bool :=
 (
   if (s_0.length:Int)≤4096 then
    (eO s_0).bind λ r2 =>
    some r2
   else
    some false
  : Option Bool).bind λ t4 =>
 some t4
theorem sN (s_0:Bytes)(r:Bool)(h0:jQ s_0=some r):aA Tryz.prog 126 [eS s_0] (·=.p (eB r)):=by
 unfold jQ at h0
 refine ba good Tryz.func126 Z Z Z λ w0=>mP (λ v:Bool=>.p (eB v)) ?_
 refine nx 5 Z (bd h0 λ o6 h1 h0=>?_)
 refine kN o6 (λ v7=>⟨[(2,.p (eB v7))],[]⟩) ?_ ?_
 ·exact nx 2 Z (mQ (oi h0) Z (sr))
 refine nx 2 Z (oLs Z (nx 2 Z (fD [5,6] h1 Z (λ c1 h1=>?_) λ c1 h1=>?_)))
 ·exact nx 1 Z (bd h1 λ r2 e3 h1=>oK (lz s_0 _ e3) Z ⟨sr,trivial⟩ Tryz.call144 Z (nx 3 Z (eX _ (oi h1).symm (gE Z Z))))
 exact nx 5 Z (eX _ (oi h1).symm (gE Z Z))
abbrev im:List AV:=[.p (.val (.slice none 0 0)),.p (eB false),.p (eS ([]:Bytes)),.p (eS ([]:Bytes)),.p (eI 0),.p (eI 0),.p (eS ([]:Bytes))]
abbrev pt:List AV:=[.p (eI 0),.p (eI 0),.p (eS ([]:Bytes))]
def eJ (r_0:am)(s_1:Bytes):Option (Bool×am) :=
 (strings_CutPrefix r_0.frest s_1).bind λ r1 =>
 some (r1.2,(am.mk r1.1 r_0.fbad))
theorem ig (r_0:am)(s_1:Bytes)(r:Bool×am)(h0:eJ r_0 s_1=some r):bN Tryz.prog 71 [.ptr 1000000 0,.p (eS s_1)] [(1000000,((am.cs r_0).map .p))] (λ x y=>x=.p (eB r.1)∧y=[(1000000,((am.cs r.2).map .p))]):=by
 unfold eJ at h0
 refine gR good [] [1000000] Tryz.func71 Z Z Z Z Z λ w0 F=>mPo (λ v:Bool×am=>.p (eB v.1)) (λ v=>[(1000000,((am.cs v.2).map .p))]) ?_
 exact nx 11 Z (bd h0 λ r1 e2 h0=>oK (kK r_0.frest s_1 _ e2) Z ⟨sr,sr,trivial⟩ Tryz.call92 Z (nx 20 Z (Ca h0 Z)))
def bR (s_0:Bytes):Nat→Int→Option (Unit⊕Bool)
 | 0,_=>none
 | m+1,t19 =>
 if t19 < (s_0.length:Int) then
  ck ((0:Int)≤t19∧t19 < (s_0.length:Int)) <|
  (
    ck ((0:Int)≤t19∧t19 < (s_0.length:Int)) <|
    if byt s_0 t19=95 then
     some false
    else
     if iOr .u8 (byt s_0 t19) 32 < 97 then
      if t19=0 then
       some true
      else
       ck ((0:Int)≤t19∧t19 < (s_0.length:Int)) <|
       if byt s_0 t19 < 48 then
        some true
       else
        ck ((0:Int)≤t19∧t19 < (s_0.length:Int)) <|
        some (decide (57 < byt s_0 t19))
     else
      if 122 < iOr .u8 (byt s_0 t19) 32 then
       if t19=0 then
        some true
       else
        ck ((0:Int)≤t19∧t19 < (s_0.length:Int)) <|
        if byt s_0 t19 < 48 then
         some true
        else
         ck ((0:Int)≤t19∧t19 < (s_0.length:Int)) <|
         some (decide (57 < byt s_0 t19))
      else
       some false
   : Option Bool).bind λ t34 =>
  if t34=true then
   some (.inr false)
  else
   ck (inR (t19+1)) <|
   bR s_0 m (t19+1)
 else
  some (.inl ())
def cm (n:Nat)(s_0:Bytes):Option Bool :=
 jn (bR s_0 n 0) λ q40 =>
 (
   if s_0=([]:Bytes) then
    some false
   else
    some (decide ((s_0.length:Int)≤64))
  : Option Bool).bind λ t39 =>
 some t39
theorem fU (n:Nat)(s_0:Bytes)(r:Bool)(h0:cm n s_0=some r):aA Tryz.prog 94 [eS s_0] (·=.p (eB r)):=by
 unfold cm at h0
 refine ba good Tryz.func94 Z Z Z λ w0=>mP (λ v:Bool=>.p (eB v)) ?_
 refine nx 8 Z (oLs Z (nx 3 Z ?_))
 obtain ⟨o43,h1,hL0,hR0⟩:=fx h0
 refine kEx 0 (λ v44:Unit=>o43=.inl v44) (λ v44=>⟨[(0,.p (eS s_0))],[]⟩) (λ v44 hv=>?_) ?_
 ·have h0:=hL0 _ hv
  refine nx 2 Z (bd h0 λ o45 h1 h0=>?_)
  refine kN o45 (λ v46=>⟨[(2,.p (eB v46))],[]⟩) ?_ ?_
  ·exact nx 2 Z (mQ (oi h0) Z (sr))
  refine nx 2 Z (oS Z Z (nx 1 Z (fN [44,45] h1 Z (λ c38 h1=>?_) λ c38 h1=>?_)))
  ·exact nx 6 Z (eX _ (oi h1).symm (gE Z Z))
  exact nx 1 Z (oLs Z (nx 4 Z (eX _ (oi h1).symm (gE Z Z))))
 refine lG (λ (q47:Int)=>⟨[(0,.p (eS s_0)),(6,.p (eI (s_0.length:Int))),(7,.p (eI q47))],[]⟩) (λ m (q47:Int)=>bR s_0 m q47) Y 0 h1 (gE Z Z) ?_
 rintro m t19 h1
 replace h1:bR s_0 (m+1) t19=some o43:=h1
 rw [bR] at h1
 refine nx 5 Z (fD [8] h1 Z (λ c20 h1=>?_) λ c20 h1=>?_)
 ·refine nx 13 Z (oI h1 Z λ hk21 h1=>nx 4 Z (bd h1 λ o48 h2 h1=>?_))
  refine kN o48 (λ v49=>⟨[(0,.p (eS s_0)),(6,.p (eI (s_0.length:Int))),(7,.p (eI t19)),(41,.p (eB v49))],[]⟩) ?_ ?_
  ·refine nx 1 Z (fB [41] h1 Z (λ c35 h1=>?_) λ c35 h1=>?_)
   ·exact nx 6 Z (mQ (hR0 _ (oi h1).symm) Z (sr))
   exact nx 3 Z (oA h1 Z Z λ hk36 h1=>nx 2 Z (eX (t19+1) h1 (gE Z Z)))
  refine nx 3 Z (oI h2 Z λ hk22 h2=>nx 2 Z (fN [17,18] h2 Z (λ c23 h2=>?_) λ c23 h2=>?_))
  ·exact nx 24 Z (eX _ (oi h2).symm (gE Z Z))
  refine nx 3 Z (fD [20,21] h2 Z (λ c24 h2=>?_) λ c24 h2=>?_)
  ·refine nx 8 Z (fD [28,29] h2 Z (λ c25 h2=>?_) λ c25 h2=>?_)
   ·exact nx 13 Z (eX _ (oi h2).symm (gE Z Z))
   refine nx 2 Z (oI h2 Z λ hk26 h2=>nx 3 Z (fD [33,34,35] h2 Z (λ c27 h2=>?_) λ c27 h2=>?_))
   ·exact nx 7 Z (eX _ (oi h2).symm (gE Z Z))
   exact nx 2 Z (oI h2 Z λ hk28 h2=>nx 4 Z (eX _ (oi h2).symm (gE Z Z)))
  refine nx 5 Z (fD [23,24,25,26] h2 Z (λ c29 h2=>?_) λ c29 h2=>?_)
  ·refine nx 3 Z (fD [28,29] h2 Z (λ c30 h2=>?_) λ c30 h2=>?_)
   ·exact nx 13 Z (eX _ (oi h2).symm (gE Z Z))
   refine nx 2 Z (oI h2 Z λ hk31 h2=>nx 3 Z (fD [33,34,35] h2 Z (λ c32 h2=>?_) λ c32 h2=>?_))
   ·exact nx 7 Z (eX _ (oi h2).symm (gE Z Z))
   exact nx 2 Z (oI h2 Z λ hk33 h2=>nx 4 Z (eX _ (oi h2).symm (gE Z Z)))
  exact nx 16 Z (eX _ (oi h2).symm (gE Z Z))
 exact nx 2 Z (eXi _ (oi h1).symm (gE Z Z))
def cq (n:Nat)(r_0:am):Option (Bytes×am) :=
 (strings_IndexAny r_0.frest ([46,91]:Bytes)).bind λ r1 =>
 (
   if r1 < 0 then
    some (r_0.frest.length:Int)
   else
    some r1
  : Option Int).bind λ n4 =>
 ck ((0:Int)≤0∧0≤n4∧n4≤(r_0.frest.length:Int)) <|
 ck ((0:Int)≤n4∧n4≤(r_0.frest.length:Int)∧(r_0.frest.length:Int)≤(r_0.frest.length:Int)) <|
 (
   if r_0.fbad=true then
    some true
   else
    (cm n (sub r_0.frest 0 n4)).bind λ r8 =>
    some (!r8)
  : Option Bool).bind λ f10 =>
 some (sub r_0.frest 0 n4,(am.mk (sub r_0.frest n4 (r_0.frest.length:Int)) f10))
theorem gY (n:Nat)(r_0:am)(r:Bytes×am)(h0:cq n r_0=some r):bN Tryz.prog 74 [.ptr 1000000 0] [(1000000,((am.cs r_0).map .p))] (λ x y=>x=.p (eS r.1)∧y=[(1000000,((am.cs r.2).map .p))]):=by
 unfold cq at h0
 refine gR good [] [1000000] Tryz.func74 Z Z Z Z Z λ w0 F=>mPo (λ v:Bytes×am=>.p (eS v.1)) (λ v=>[(1000000,((am.cs v.2).map .p))]) ?_
 refine nx 10 Z (bd h0 λ r1 e2 h0=>oK (pL r_0.frest ([46,91]:Bytes) _ e2) Z ⟨sr,sr,trivial⟩ Tryz.call93 Z (nx 3 Z (bd h0 λ o13 h1 h0=>kN o13 (λ v14=>⟨[(0,.ptr 1000000 0),(3,.p (eI v14))],[(1000000,((am.cs r_0).map .p))]⟩) ?_ ?_)))
 ·refine nx 8 Z (oP h0 Z Z Z λ hk5 h0=>nx 10 Z (oP h0 Z Z Z λ hk6 h0=>nx 5 Z (bd h0 λ o15 h1 h0=>?_)))
  refine kN o15 (λ v16=>⟨[(4,.p (eS (sub r_0.frest 0 o13)))],[(1000000,[.p (eS (sub r_0.frest o13 (r_0.frest.length:Int))),.p (eB v16)])]⟩) ?_ ?_
  ·exact nx 7 Z (Ca h0 Z)
  refine nx 7 Z (fB [36,37] h1 Z (λ c7 h1=>?_) λ c7 h1=>?_)
  ·exact nx 8 Z (eX _ (oi h1).symm (gE Z Z))
  exact nx 1 Z (bd h1 λ r8 e9 h1=>oK (fU _ (sub r_0.frest 0 o13) _ e9) Z ⟨sr,trivial⟩ Tryz.call94 Z (nx 6 Z (eX _ (oi h1).symm (gE Z Z))))
 refine nx 5 Z (fD [11] h1 Z (λ c3 h1=>?_) λ c3 h1=>?_)
 ·exact nx 6 Z (oLs Z (nx 2 Z (eX _ (oi h1).symm (gE Z Z))))
 exact nx 2 Z (eX _ (oi h1).symm (gE Z Z))
def dH (r_0:am)(s_1:Bytes):Option am :=
 (strings_CutPrefix r_0.frest s_1).bind λ r1 =>
 if r_0.fbad=true then
  some (am.mk r1.1 true)
 else
  some (am.mk r1.1 (!r1.2))
theorem g6 (r_0:am)(s_1:Bytes)(r:am)(h0:dH r_0 s_1=some r):bN Tryz.prog 73 [.ptr 1000000 0,.p (eS s_1)] [(1000000,((am.cs r_0).map .p))] (λ x y=>x=.tuple []∧y=[(1000000,((am.cs r).map .p))]):=by
 unfold dH at h0
 refine gR good [] [1000000] Tryz.func73 Z Z Z Z Z λ w0 F=>mPo (λ v:am=>.tuple []) (λ v=>[(1000000,((am.cs v).map .p))]) ?_
 refine nx 7 Z (bd h0 λ r1 e2 h0=>oK (kK r_0.frest s_1 _ e2) Z ⟨sr,sr,trivial⟩ Tryz.call92 Z (nx 21 Z ?_))
 refine fB [23,24] h0 Z (λ c3 h0=>?_) λ c3 h0=>?_
 ·exact nx 7 Z (BH (oi h0) (bW _) Z Z Z Z (sr) ⟨⟨_,Z,⟨sr,sr,trivial⟩⟩,trivial⟩)
 exact nx 7 Z (BH (oi h0) (bW _) Z Z Z Z (sr) ⟨⟨_,Z,⟨sr,sr,trivial⟩⟩,trivial⟩)
def cP (n:Nat)(r_0:am):Option (bT×am) :=
 (
   if r_0.fbad=true then
    some (true,r_0.frest,r_0.fbad)
   else
    (eJ r_0 ([91]:Bytes)).bind λ r2 =>
    some (!r2.1,r2.2.frest,r2.2.fbad)
  : Option (Bool×Bytes×Bool)).bind λ q35 =>
 if q35.1=true then
  some ((bT.mk 0 0 ([]:Bytes)),(am.mk q35.2.1 q35.2.2))
 else
  jn (
    (strings_HasPrefix q35.2.1 ([34]:Bytes)).bind λ r8 =>
    if r8=true then
     (eQ n q35.2.1).bind λ r11 =>
     (
       if r11.2.2=0 then
        (fu n r11.1).bind λ r14 =>
        ck ((0:Int)≤0∧0≤r11.2.1∧r11.2.1≤(q35.2.1.length:Int)) <|
        some (!decide (r14=sub q35.2.1 0 r11.2.1))
       else
        some true
      : Option Bool).bind λ t17 =>
     if t17=true then
      some (.inr ((bT.mk 0 0 ([]:Bytes)),(am.mk q35.2.1 true)))
     else
      ck ((0:Int)≤r11.2.1∧r11.2.1≤(q35.2.1.length:Int)∧(q35.2.1.length:Int)≤(q35.2.1.length:Int)) <|
      some (.inl (2,0,r11.1,sub q35.2.1 r11.2.1 (q35.2.1.length:Int),q35.2.2))
    else
     (strings_IndexByte q35.2.1 93).bind λ r20 =>
     ck ((0:Int)≤0∧0≤(if r20 < 0 then 0 else r20)∧(if r20 < 0 then 0 else r20)≤(q35.2.1.length:Int)) <|
     (gg n (sub q35.2.1 0 (if r20 < 0 then 0 else r20))).bind λ r23 =>
     (
       if r23.2=0 then
        some (decide (r23.1 < 0))
       else
        some true
      : Option Bool).bind λ f26 =>
     ck ((0:Int)≤(if r20 < 0 then 0 else r20)∧(if r20 < 0 then 0 else r20)≤(q35.2.1.length:Int)∧(q35.2.1.length:Int)≤(q35.2.1.length:Int)) <|
     some (.inl (1,r23.1,([]:Bytes),sub q35.2.1 (if r20 < 0 then 0 else r20) (q35.2.1.length:Int),f26))
   : Option ((Int×Int×Bytes×Bytes×Bool)⊕(bT×am))) λ q36 =>
  (dH (am.mk q36.2.2.2.1 q36.2.2.2.2) ([93]:Bytes)).bind λ r33 =>
  some ((bT.mk q36.1 q36.2.1 q36.2.2.1),r33)
theorem j7 (n:Nat)(r_0:am)(r:bT×am)(h0:cP n r_0=some r):bN Tryz.prog 75 [.ptr 1000000 0] [(1000000,((am.cs r_0).map .p))] (λ x y=>x=.p (.agg (bT.cs r.1))∧y=[(1000000,((am.cs r.2).map .p))]):=by
 unfold cP at h0
 refine gR good [] [1000000] Tryz.func75 Z Z Z Z Z λ w0 F=>mPo (λ v:bT×am=>.p (.agg (bT.cs v.1))) (λ v=>[(1000000,((am.cs v.2).map .p))]) ?_
 refine nx 6 Z (bd h0 λ o39 h1 h0=>?_)
 refine kN o39 (λ v40=>⟨[(0,.ptr 1000000 0),(2,.ptr 2 0),(18,.p (eB v40.1))],[(2,pt),(1000000,[.p (eS v40.2.1),.p (eB v40.2.2)])]⟩) ?_ ?_
 ·refine nx 1 Z (fB [18] h0 Z (λ c7 h0=>?_) λ c7 h0=>?_)
  ·exact nx 7 Z (Ca h0 Z)
  refine nx 7 Z ?_
  obtain ⟨o41,h1,hL0,hR0⟩:=fx h0
  refine kX (λ v42:Int×Int×Bytes×Bytes×Bool=>o41=.inl v42) (λ v42=>⟨[(0,.ptr 1000000 0),(2,.ptr 2 0),(3,.ptr 3 0)],[(2,pt),(3,[.p (eI v42.1),.p (eI v42.2.1),.p (eS v42.2.2.1)]),(1000000,[.p (eS v42.2.2.2.1),.p (eB v42.2.2.2.2)])]⟩) (λ v42 hv=>?_) ?_
  ·have h0:=hL0 _ hv
   exact nx 4 Z (bd h0 λ r33 e34 h0=>mO Z (cVq [1000000] [] 102000 102000 (g6 (am.mk v42.2.2.2.1 v42.2.2.2.2) ([93]:Bytes) _ e34) Tryz.call73 Z (nx 7 Z (Ca h0 Z))))
  refine nx 6 Z (bd h1 λ r8 e9 h1=>oK (om o39.2.1 ([34]:Bytes) _ e9) Z ⟨sr,sr,trivial⟩ Tryz.call68 Z (nx 1 Z ?_))
  refine fB [24] h1 Z (λ c10 h1=>?_) λ c10 h1=>?_
  ·refine nx 7 Z (bd h1 λ r11 e12 h1=>oK (qS _ o39.2.1 _ e12) Z ⟨sr,trivial⟩ Tryz.call95 Z (nx 10 Z (bd h1 λ o43 h2 h1=>kN o43 (λ v44=>⟨[(0,.ptr 1000000 0),(2,.ptr 2 0),(3,.ptr 3 0),(4,.p (eS r11.1)),(5,.p (eI r11.2.1)),(46,.p (eB v44))],[(2,pt),(3,pt),(1000000,[.p (eS o39.2.1),.p (eB o39.2.2)])]⟩) ?_ ?_)))
   ·refine nx 1 Z (fB [46] h1 Z (λ c18 h1=>?_) λ c18 h1=>?_)
    ·exact nx 14 Z (mQo (hR0 _ (oi h1).symm) (bW _) Z Z Z Z (sr) ⟨⟨_,Z,⟨sr,sr,trivial⟩⟩,trivial⟩)
    exact nx 15 Z (oP h1 Z Z Z λ hk19 h1=>nx 4 Z (eX _ (oi h1).symm (gE Z Z)))
   refine fN (p:=r11.2.2=0) [] h2 Z (λ c13 h2=>?_) λ c13 h2=>?_
   ·exact bd h2 λ r14 e15 h2=>cc' h2 λ hk16 h2=>mD [(0,.ptr 1000000 0),(2,.ptr 2 0),(3,.ptr 3 0),(4,.p (eS r11.1)),(5,.p (eI r11.2.1)),(6,.p (eI r11.2.2))] Z ⟨Z,Z,Z,Z,Z,Z,trivial⟩ Z (dR 1 Z (dL (aE c13) Z (dR 2 Z (dq (.p (eS r14)) [36,37] Z (λ _ e _ q=>aX (bw (oa _ r11.1 _ e15) Z Z Z (aO (e _ _ Z) bA) ⟨sr,trivial⟩ Tryz.call96 Z q) Z Z (e _ _ Z) (rfl)) Z (dR 5 Z (dq (.p (eS (sub o39.2.1 0 r11.2.1))) [36,42,43] Z (λ _ e _ q=>aX (g9 (a:=o39.2.1) (l:=0) (h:=r11.2.1) Z Z Z Z Z (e _ _ Z) Z (qZ (e _ _ Z)) hk16 q) Z Z (e _ _ Z) (rfl)) Z (dq (.p (eB (!decide (r14=sub o39.2.1 0 r11.2.1)))) [36,38,44] Z (λ _ e _ q=>aX (cQ Z Z Z (e _ _ Z) (e _ _ Z) Z q) Z Z (e _ _ Z) (rfl)) Z (dR 1 Z (dE Z (nx 1 Z (eX _ (oi h2).symm (gE Z Z))))))))))))
   refine mD [(0,.ptr 1000000 0),(2,.ptr 2 0),(3,.ptr 3 0),(4,.p (eS r11.1)),(5,.p (eI r11.2.1)),(6,.p (eI r11.2.2))] Z ⟨Z,Z,Z,Z,Z,Z,trivial⟩ Z (dR 1 Z (dL (aR c13) Z (dR 11 Z ?_)))
   refine dE Z (nx 1 Z ?_)
   exact eX _ (oi h2).symm (gE Z Z)
  refine nx 7 Z (bd h1 λ r20 e21 h1=>oK (kQ o39.2.1 93 _ e21) Z ⟨sr,sr,trivial⟩ Tryz.call97 Z (mO Z (ij Z Z Z Z Z (nx 9 Z (oP h1 Z Z Z λ hk22 h1=>bd h1 λ r23 e24 h1=>oK (sR _ (sub o39.2.1 0 (if r20 < 0 then 0 else r20)) _ e24) Z ⟨sr,trivial⟩ Tryz.call98 Z (nx 7 Z (bd h1 λ o45 h2 h1=>kN o45 (λ v46=>⟨[(0,.ptr 1000000 0),(2,.ptr 2 0),(3,.ptr 3 0),(7,.p (eI (if r20 < 0 then 0 else r20))),(8,.p (eI r23.1))],[(2,pt),(3,pt),(1000000,[.p (eS o39.2.1),.p (eB v46)])]⟩) ?_ ?_)))))))
  ·exact nx 14 Z (oP h1 Z Z Z λ hk27 h1=>nx 4 Z (eX _ (oi h1).symm (gE Z Z)))
  refine nx 5 Z (fN [80,81] h2 Z (λ c25 h2=>?_) λ c25 h2=>?_)
  ·exact nx 7 Z (eX _ (oi h2).symm (gE Z Z))
  exact nx 7 Z (eX _ (oi h2).symm (gE Z Z))
 refine nx 6 Z (fB [13,14] h1 Z (λ c1 h1=>?_) λ c1 h1=>?_)
 ·exact nx 5 Z (eX _ (oi h1).symm (gE Z Z))
 exact nx 1 Z (bd h1 λ r2 e3 h1=>mO Z (cVq [1000000] [] 101000 101000 (ig r_0 ([91]:Bytes) _ e3) Tryz.call71 Z (nx 3 Z (eX _ (oi h1).symm (gE Z Z)))))
def da (n:Nat)(r_0:am):Option (ac×am) :=
 (cq n r_0).bind λ r1 =>
 (cP n r1.2).bind λ r3 =>
 some ((ac.mk r1.1 r3.1),r3.2)
theorem ny (n:Nat)(r_0:am)(r:ac×am)(h0:da n r_0=some r):bN Tryz.prog 72 [.ptr 1000000 0] [(1000000,((am.cs r_0).map .p))] (λ x y=>x=.p (.agg (ac.cs r.1))∧y=[(1000000,((am.cs r.2).map .p))]):=by
 unfold da at h0
 refine gR good [] [1000000] Tryz.func72 Z Z Z Z Z λ w0 F=>mPo (λ v:ac×am=>.p (.agg (ac.cs v.1))) (λ v=>[(1000000,((am.cs v.2).map .p))]) ?_
 exact nx 7 Z (bd h0 λ r1 e2 h0=>mO Z (cVq [1000000] [] 101000 101000 (gY _ r_0 _ e2) Tryz.call74 Z (nx 7 Z (bd h0 λ r3 e4 h0=>mO Z (cVq [1000000] [] 102000 102000 (j7 _ r1.2 _ e4) Tryz.call75 Z (nx 9 Z (Ca h0 Z)))))))
def ef (n:Nat)(s_0:Bytes):Option Bool :=
 (
   if s_0=([109,111,100,117,108,101]:Bytes) then
    some true
   else
    if s_0=([100,97,116,97]:Bytes) then
     some true
    else
     if s_0=([118,97,114]:Bytes) then
      some true
     else
      if s_0=([108,111,99,97,108]:Bytes) then
       some true
      else
       if s_0=([101,97,99,104]:Bytes) then
        some true
       else
        if s_0=([99,111,117,110,116]:Bytes) then
         some true
        else
         if s_0=([114,101,109,111,116,101]:Bytes) then
          some true
         else
          if s_0=([111,117,116,112,117,116]:Bytes) then
           some true
          else
           if s_0=([112,97,116,104]:Bytes) then
            some true
           else
            if s_0=([115,101,108,102]:Bytes) then
             some true
            else
             some (decide (s_0=([99,104,97,110,103,101]:Bytes)))
  : Option Bool).bind λ t11 =>
 if t11=true then
  some false
 else
  (cm n s_0).bind λ r13 =>
  some r13
theorem nY (n:Nat)(s_0:Bytes)(r:Bool)(h0:ef n s_0=some r):aA Tryz.prog 76 [eS s_0] (·=.p (eB r)):=by
 unfold ef at h0
 refine ba good Tryz.func76 Z Z Z λ w0=>mP (λ v:Bool=>.p (eB v)) ?_
 refine nx 11 Z (bd h0 λ o16 h1 h0=>?_)
 refine kN o16 (λ v17=>⟨[(0,.p (eS s_0)),(4,.p (eB v17))],[]⟩) ?_ ?_
 ·refine nx 1 Z (fB [4] h0 Z (λ c12 h0=>?_) λ c12 h0=>?_)
  ·exact nx 6 Z (mQ (oi h0) Z (sr))
  exact nx 5 Z (bd h0 λ r13 e14 h0=>oK (fU _ s_0 _ e14) Z ⟨sr,trivial⟩ Tryz.call94 Z (nx 3 Z (mQ (oi h0) Z (sr))))
 refine nx 2 Z (oS Z Z (nx 2 Z (fD [4,5] h1 Z (λ c1 h1=>?_) λ c1 h1=>?_)))
 ·exact nx 2 Z (eX _ (oi h1).symm (gE Z Z))
 refine nx 3 Z (oS Z Z (nx 2 Z (fD [4,6] h1 Z (λ c2 h1=>?_) λ c2 h1=>?_)))
 ·exact nx 2 Z (eX _ (oi h1).symm (gE Z Z))
 refine nx 3 Z (oS Z Z (nx 2 Z (fD [4,7] h1 Z (λ c3 h1=>?_) λ c3 h1=>?_)))
 ·exact nx 2 Z (eX _ (oi h1).symm (gE Z Z))
 refine nx 3 Z (oS Z Z (nx 2 Z (fD [4,8] h1 Z (λ c4 h1=>?_) λ c4 h1=>?_)))
 ·exact nx 2 Z (eX _ (oi h1).symm (gE Z Z))
 refine nx 3 Z (oS Z Z (nx 2 Z (fD [4,9] h1 Z (λ c5 h1=>?_) λ c5 h1=>?_)))
 ·exact nx 2 Z (eX _ (oi h1).symm (gE Z Z))
 refine nx 3 Z (oS Z Z (nx 2 Z (fD [4,10] h1 Z (λ c6 h1=>?_) λ c6 h1=>?_)))
 ·exact nx 2 Z (eX _ (oi h1).symm (gE Z Z))
 refine nx 3 Z (oS Z Z (nx 2 Z (fD [4,11] h1 Z (λ c7 h1=>?_) λ c7 h1=>?_)))
 ·exact nx 2 Z (eX _ (oi h1).symm (gE Z Z))
 refine nx 3 Z (oS Z Z (nx 2 Z (fD [4,12] h1 Z (λ c8 h1=>?_) λ c8 h1=>?_)))
 ·exact nx 2 Z (eX _ (oi h1).symm (gE Z Z))
 refine nx 3 Z (oS Z Z (nx 2 Z (fD [4,13] h1 Z (λ c9 h1=>?_) λ c9 h1=>?_)))
 ·exact nx 2 Z (eX _ (oi h1).symm (gE Z Z))
 refine nx 3 Z (oS Z Z (nx 2 Z (fD [4,14] h1 Z (λ c10 h1=>?_) λ c10 h1=>?_)))
 ·exact nx 2 Z (eX _ (oi h1).symm (gE Z Z))
 exact nx 2 Z (oS Z Z (nx 2 Z (eX _ (oi h1).symm (gE Z Z))))
def cX (n:Nat):Nat→(List ac)→Bytes→Bool→Option ((List ac)×Bytes×Bool)
 | 0,_,_,_=>none
 | m+1,f16,f17,f18 =>
 (
   if (!f18)=true then
    (eJ (am.mk f17 f18) ([109,111,100,117,108,101,46]:Bytes)).bind λ r20 =>
    some (r20.1,r20.2.frest,r20.2.fbad)
   else
    some (false,f17,f18)
  : Option (Bool×Bytes×Bool)).bind λ q55 =>
 if q55.1=true then
  (da n (am.mk q55.2.1 q55.2.2)).bind λ r26 =>
  ck ((f16.length+[r26.1].length)*48≤140737488355328) <|
  (dH r26.2 ([46]:Bytes)).bind λ r29 =>
  cX n m (f16++[r26.1]) r29.frest r29.fbad
 else
  some (f16,q55.2.1,q55.2.2)
def fF (n:Nat)(s_0:Bytes):Option (al×Int) :=
 (cX n n [] s_0 false).bind λ q54 =>
 (eJ (am.mk q54.2.1 q54.2.2) ([100,97,116,97,46]:Bytes)).bind λ r37 =>
 (cq n r37.2).bind λ r39 =>
 (dH r39.2 ([46]:Bytes)).bind λ r41 =>
 (cq n r41).bind λ r43 =>
 (cP n r43.2).bind λ r45 =>
 (
   if r45.2.fbad=true then
    some true
   else
    if r45.2.frest=([]:Bytes) then
     (ef n r39.1).bind λ r49 =>
     some (!r49)
    else
     some true
  : Option Bool).bind λ t51 =>
 if t51=true then
  some ((al.mk [] false ([]:Bytes) ([]:Bytes) (bT.mk 0 0 ([]:Bytes))),2)
 else
  if 16 < (q54.1.length:Int) then
   some ((al.mk [] false ([]:Bytes) ([]:Bytes) (bT.mk 0 0 ([]:Bytes))),4)
  else
   some ((al.mk q54.1 r37.1 r39.1 r43.1 r45.1),0)
theorem rB (n:Nat)(s_0:Bytes)(r:al×Int)(h0:fF n s_0=some r):aA Tryz.prog 50 [eS s_0] (·=.tuple [.p (.agg (al.cs r.1)),.p (eI r.2)]):=by
 unfold fF at h0
 refine ba good Tryz.func50 Z Z Z λ w0=>mP (λ v:al×Int=>.tuple [.p (.agg (al.cs v.1)),.p (eI v.2)]) ?_
 refine nx 18 Z (bd h0 λ o57 h1 h0=>?_)
 refine kE 0 o57 (λ v58=>⟨[(2,.ptr 2 0),(4,.ptr 8 0),(5,.ptr 5 0)],[(2,im),(5,[.vec 23 4 0 (v58.1.map ag),.p (eB false),.p (eS ([]:Bytes)),.p (eS ([]:Bytes)),.p (eI 0),.p (eI 0),.p (eS ([]:Bytes))]),(8,[.p (eS v58.2.1),.p (eB v58.2.2)])]⟩) ?_ ?_
 ·refine nx 4 Z (bd h0 λ r37 e38 h0=>mO Z (cVq [8] [] 107000 107000 (ig (am.mk o57.2.1 o57.2.2) ([100,97,116,97,46]:Bytes) _ e38) Tryz.call71 Z (nx 6 Z (bd h0 λ r39 e40 h0=>mO Z (cVq [8] [] 108000 108000 (gY _ r37.2 _ e40) Tryz.call74 Z (nx 6 Z (bd h0 λ r41 e42 h0=>mO Z (cVq [8] [] 109000 109000 (g6 r39.2 ([46]:Bytes) _ e42) Tryz.call73 Z (nx 4 Z (bd h0 λ r43 e44 h0=>?_))))))))))
  refine mO Z (cVq [8] [] 110000 110000 (gY _ r41 _ e44) Tryz.call74 Z (nx 6 Z (bd h0 λ r45 e46 h0=>mO Z (cVq [8] [] 111000 111000 (j7 _ r43.2 _ e46) Tryz.call75 Z (nx 5 Z (bd h0 λ o59 h1 h0=>?_))))))
  refine kN o59 (λ v60=>⟨[(2,.ptr 2 0),(5,.ptr 5 0),(57,.p (eB v60))],[(2,im),(5,[.vec 23 4 0 (o57.1.map ag),.p (eB r37.1),.p (eS r39.1),.p (eS r43.1),.p (eI r45.1.fKind),.p (eI r45.1.fNum),.p (eS r45.1.fStr)])]⟩) ?_ ?_
  ·refine nx 1 Z (fB [57] h0 Z (λ c52 h0=>?_) λ c52 h0=>?_)
   ·exact nx 8 Z (mQ (oi h0) Z (aC ⟨iI ⟨.inr ⟨Z,Z⟩,.inl Z,.inl Z,.inl Z,.inl Z,.inl Z,.inl Z,trivial⟩,sr,trivial⟩))
   refine nx 7 Z (oLl (f:=ag) Z Z (nx 2 Z (fD [62] h0 Z (λ c53 h0=>?_) λ c53 h0=>?_)))
   ·exact nx 8 Z (mQ (oi h0) Z (aC ⟨iI ⟨.inr ⟨Z,Z⟩,.inl Z,.inl Z,.inl Z,.inl Z,.inl Z,.inl Z,trivial⟩,sr,trivial⟩))
   exact nx 9 Z (mQ (oi h0) Z (aC ⟨qn ⟨AV.sub_vec _ _ _ _,sr,sr,sr,sr,sr,sr,trivial⟩,sr,trivial⟩))
  refine nx 6 Z (fB [44,45] h1 Z (λ c47 h1=>?_) λ c47 h1=>?_)
  ·exact nx 13 Z (eX _ (oi h1).symm (gE Z Z))
  refine nx 4 Z (oS Z Z (nx 2 Z (fN [50,51,52] h1 Z (λ c48 h1=>?_) λ c48 h1=>?_)))
  ·exact nx 2 Z (bd h1 λ r49 e50 h1=>oK (nY _ r39.1 _ e50) Z ⟨sr,trivial⟩ Tryz.call76 Z (nx 3 Z (eX _ (oi h1).symm (gE Z Z))))
  exact nx 6 Z (eX _ (oi h1).symm (gE Z Z))
 refine lG (λ (q61:(List ac)×Bytes×Bool)=>⟨[(2,.ptr 2 0),(4,.ptr 8 0),(5,.ptr 5 0)],[(2,im),(5,[.vec 23 4 0 (q61.1.map ag),.p (eB false),.p (eS ([]:Bytes)),.p (eS ([]:Bytes)),.p (eI 0),.p (eI 0),.p (eS ([]:Bytes))]),(8,[.p (eS q61.2.1),.p (eB q61.2.2)])]⟩) (λ m (q61:(List ac)×Bytes×Bool)=>cX n m q61.1 q61.2.1 q61.2.2) Y ([],s_0,false) h1 (aP (bm ⟨er Z,er Z,er Z,trivial⟩ ⟨⟨_,Z,⟨sr,sr,sr,sr,sr,sr,sr,trivial⟩⟩,⟨_,Z,⟨AV.sub_nilvec _ _ _,sr,sr,sr,sr,sr,sr,trivial⟩⟩,⟨_,Z,⟨sr,sr,trivial⟩⟩,trivial⟩)) ?_
 rintro m ⟨f16,f17,f18⟩ h1
 replace h1:cX n (m+1) f16 f17 f18=some o57:=h1
 rw [cX] at h1
 refine nx 2 Z (bd h1 λ o62 h2 h1=>?_)
 refine kN o62 (λ v63=>⟨[(2,.ptr 2 0),(4,.ptr 8 0),(5,.ptr 5 0),(17,.p (eB v63.1))],[(2,im),(5,[.vec 23 4 0 (f16.map ag),.p (eB false),.p (eS ([]:Bytes)),.p (eS ([]:Bytes)),.p (eI 0),.p (eI 0),.p (eS ([]:Bytes))]),(8,[.p (eS v63.2.1),.p (eB v63.2.2)])]⟩) ?_ ?_
 ·refine nx 1 Z (fB [17] h1 Z (λ c25 h1=>?_) λ c25 h1=>?_)
  ·refine nx 4 Z (bd h1 λ r26 e27 h1=>cc' h1 λ hk28 h1=>mG (gE (t:=⟨[(2,.ptr 2 0),(4,.ptr 8 0),(5,.ptr 5 0)],[(2,im),(5,[.vec 23 4 0 (f16.map ag),.p (eB false),.p (eS ([]:Bytes)),.p (eS ([]:Bytes)),.p (eI 0),.p (eI 0),.p (eS ([]:Bytes))]),(8,[.p (eS o62.2.1),.p (eB o62.2.2)])]⟩) Z Z) (mSq ⟨3,[3,5,7],(by4 (.some (eM [] 105000 105000)) (.some λ i=>Nat.beq i 23||Nat.beq i 23) .none .none),(λ _=>[(2,.ptr 2 0),(4,.ptr 8 0),(5,.ptr 5 0)]),(by4 ([(2,im),(5,[.vec 23 4 0 (f16.map ag),.p (eB false),.p (eS ([]:Bytes)),.p (eS ([]:Bytes)),.p (eI 0),.p (eI 0),.p (eS ([]:Bytes))]),(8,[.p (eS o62.2.1),.p (eB o62.2.2)])]) ([(8,((am.cs r26.2).map .p)),(2,im),(5,[.vec 23 4 0 (f16.map ag),.p (eB false),.p (eS ([]:Bytes)),.p (eS ([]:Bytes)),.p (eI 0),.p (eI 0),.p (eS ([]:Bytes))])]) ([(8,((am.cs r26.2).map .p)),(2,im),(5,[.p (eL ag f16),.p (eB false),.p (eS ([]:Bytes)),.p (eS ([]:Bytes)),.p (eI 0),.p (eI 0),.p (eS ([]:Bytes))])]) ([(5,[.vec 23 4 0 ((f16++[r26.1]).map ag),.p (eB false),.p (eS ([]:Bytes)),.p (eS ([]:Bytes)),.p (eI 0),.p (eI 0),.p (eS ([]:Bytes))]),(8,((am.cs r26.2).map .p)),(2,im),(5,[.p (eL ag f16),.p (eB false),.p (eS ([]:Bytes)),.p (eS ([]:Bytes)),.p (eI 0),.p (eI 0),.p (eS ([]:Bytes))])]))⟩ Z (dPc (.ptr 5 0) Z (dP (by4 (.vec 23 4 0 (f16.map ag)) (.vec 23 4 0 (f16.map ag)) (.p (eL ag f16)) (.p (eL ag f16))) Z (dPc (.ptr 8 0) Z (g5 (λ _=>.p (.agg (ac.cs r26.1))) [(20,_)] Z ⟨.inr ⟨2,_,Z,Z,Z⟩,trivial⟩ Z Z (wW Z Z Y) (lt3 (λ h=>absurd h (by decide)) Y Y) (λ sl hsl K hK=>av Z (b8 [8] [] 105000 105000 (ny _ (am.mk o62.2.1 o62.2.2) _ e27) Z Z Z (aO (hsl _ _ Z) bA) Z ⟨sr,trivial⟩ Z Z ⟨⟨_,Z,⟨sr,sr,trivial⟩⟩,trivial⟩ Z Z Z Z Z Z Z Z Tryz.call72 Z Z hK)) ?_))))))
   refine bE (λ _=>.p (eL ag [r26.1])) Z Z Z (qM Z Z Z Y) (lt3 Z Z Z) (bv Z (bv Z (bb [(21,_)] ⟨.inr ⟨3,_,Z,Z,Z⟩,trivial⟩ (λ sl hsl K hK=>av Z (bs ag [r26.1] Z Z Z Z Z Z (nu (hsl _ _ Z) Z po) Z Z Z Z Z Z (by first | rfl | (simp only [List.map_cons,List.map_nil,ac.agg_eq]; done) | (simp only [List.map_cons,List.map_nil,ac.agg_eq]; rfl)) hK)) (bv Z bC)))) (g5 (λ _=>.vec 23 4 0 ((f16++[r26.1]).map ag)) [(19,_),(22,_)] Z ⟨.inr ⟨1,_,Z,Z,Z⟩,.inr ⟨4,_,Z,Z,Z⟩,trivial⟩ Z Z (ic Z Y) (lt3 (λ h=>absurd h (by decide)) (λ h=>absurd h (by decide)) Y) (λ sl hsl K hK=>av Z (gB ag f16 [r26.1] Z Z Z Z Z Z Z Z (hsl _ _ Z) Z Z (hsl _ _ Z) Z (λ x=>congrArg List.length (ac.cells_eq x)) Z Z Z Z hk28 hK)) ?_)
   refine dPc (.ptr 5 0) Z (dS Z ?_)
   refine iS (nx 3 Z ?_)
   exact bd h1 λ r29 e30 h1=>mO Z (cVq [8] [] 106000 106000 (g6 r26.2 ([46]:Bytes) _ e30) Tryz.call73 Z (nx 1 Z (eX (f16++[r26.1],r29.frest,r29.fbad) h1 (gE Z Z))))
  exact nx 2 Z (eXi _ (oi h1).symm (gE Z Z))
 refine nx 7 Z (fB [13,14] h2 Z (λ c19 h2=>?_) λ c19 h2=>?_)
 ·exact nx 1 Z (bd h2 λ r20 e21 h2=>mO Z (cVq [8] [] 104000 104000 (ig (am.mk f17 f18) ([109,111,100,117,108,101,46]:Bytes) _ e21) Tryz.call71 Z (nx 2 Z (eX _ (oi h2).symm (gE Z Z)))))
 exact nx 4 Z (eX _ (oi h2).symm (gE Z Z))
def gv (k_0:bT):Option Bool :=
 if k_0.fKind=0 then
  some (decide (k_0.fKind=0∧k_0.fNum=0∧k_0.fStr=([]:Bytes)))
 else
  if k_0.fKind=1 then
   (
     if 0≤k_0.fNum then
      if k_0.fNum≤9007199254740992 then
       some (decide (k_0.fStr=([]:Bytes)))
      else
       some false
     else
      some false
    : Option Bool).bind λ t5 =>
   some t5
  else
   if k_0.fKind=2 then
    (
      if k_0.fNum=0 then
       (jQ k_0.fStr).bind λ r8 =>
       some r8
      else
       some false
     : Option Bool).bind λ t10 =>
    some t10
   else
    some false
theorem ki (k_0:bT)(r:Bool)(h0:gv k_0=some r):aA Tryz.prog 99 [.agg (bT.cs k_0)] (·=.p (eB r)):=by
 unfold gv at h0
 refine ba good Tryz.func99 Z Z Z λ w0=>mP (λ v:Bool=>.p (eB v)) ?_
 refine nx 17 Z (fD [5,6] h0 Z (λ c1 h0=>?_) λ c1 h0=>?_)
 ·exact nx 5 Z (mO Z (BF (k_0.fKind=0∧k_0.fNum=0∧k_0.fStr=([]:Bytes)) Z Z Z Z Z Z Z (by kernel_rfl) Z Z (.inl ⟨Z,Z⟩) (nx 3 Z (mQ (oi h0) Z (sr)))))
 refine nx 6 Z (fD [10,11] h0 Z (λ c2 h0=>?_) λ c2 h0=>?_)
 ·refine nx 2 Z (bd h0 λ o13 h1 h0=>?_)
  refine kN o13 (λ v14=>⟨[(2,.p (eB v14))],[]⟩) ?_ ?_
  ·exact nx 2 Z (mQ (oi h0) Z (sr))
  refine nx 5 Z (fD [14,15] h1 Z (λ c3 h1=>?_) λ c3 h1=>?_)
  ·refine nx 5 Z (fD [18,19,20] h1 Z (λ c4 h1=>?_) λ c4 h1=>?_)
   ·exact nx 2 Z (oS Z Z (nx 3 Z (eX _ (oi h1).symm (gE Z Z))))
   exact nx 6 Z (eX _ (oi h1).symm (gE Z Z))
  exact nx 11 Z (eX _ (oi h1).symm (gE Z Z))
 refine nx 6 Z (fD [25,26] h0 Z (λ c6 h0=>?_) λ c6 h0=>?_)
 ·refine nx 2 Z (bd h0 λ o15 h1 h0=>?_)
  refine kN o15 (λ v16=>⟨[(2,.p (eB v16))],[]⟩) ?_ ?_
  ·exact nx 2 Z (mQ (oi h0) Z (sr))
  refine nx 5 Z (fD [29,30] h1 Z (λ c7 h1=>?_) λ c7 h1=>?_)
  ·exact nx 2 Z (bd h1 λ r8 e9 h1=>oK (sN k_0.fStr _ e9) Z ⟨sr,trivial⟩ Tryz.call126 Z (nx 3 Z (eX _ (oi h1).symm (gE Z Z))))
  exact nx 6 Z (eX _ (oi h1).symm (gE Z Z))
 exact nx 7 Z (mQ (oi h0) Z (sr))
def cG (n:Nat)(a_0:al):Nat→Int→Option (Unit⊕Int)
 | 0,_=>none
 | m+1,t12 =>
 if t12 < (a_0.fModule.length:Int) then
  ck ((0:Int)≤t12∧t12 < (a_0.fModule.length:Int)) <|
  (cm n ((lat a_0.fModule t12).fName)).bind λ r15 =>
  if (!r15)=true then
   some (.inr 7)
  else
   (gv ((lat a_0.fModule t12).fKey)).bind λ r18 =>
   if (!r18)=true then
    some (.inr 1)
   else
    ck (inR (t12+1)) <|
    cG n a_0 m (t12+1)
 else
  some (.inl ())
def fH (n:Nat)(a_0:al):Option Int :=
 if 16 < (a_0.fModule.length:Int) then
  some 4
 else
  jn (cG n a_0 n 0) λ q33 =>
  (
    (ef n a_0.fType).bind λ r23 =>
    if (!r23)=true then
     some true
    else
     (cm n a_0.fName).bind λ r26 =>
     some (!r26)
   : Option Bool).bind λ t28 =>
  if t28=true then
   some 7
  else
   (gv a_0.fKey).bind λ r30 =>
   if (!r30)=true then
    some 1
   else
    some 0
theorem rW (n:Nat)(a_0:al)(r:Int)(h0:fH n a_0=some r):aA Tryz.prog 77 [.agg (al.cs a_0)] (·=.p (eI r)):=by
 unfold fH at h0
 refine ba good Tryz.func77 Z Z Z λ w0=>mP (λ v:Int=>.p (eI v)) ?_
 refine nx 10 Z (oLl (f:=ag) Z Z (nx 2 Z (fD [8] h0 Z (λ c1 h0=>?_) λ c1 h0=>?_)))
 ·exact nx 6 Z (mQ (oi h0) Z (sr))
 refine nx 7 Z (oLl (f:=ag) Z Z (nx 3 Z ?_))
 obtain ⟨o35,h1,hL0,hR0⟩:=fx h0
 refine kEx 0 (λ v36:Unit=>o35=.inl v36) (λ v36=>⟨[(1,.ptr 1 0)],[(1,(al.cs a_0).map .p)]⟩) (λ v36 hv=>?_) ?_
 ·have h0:=hL0 _ hv
  refine nx 3 Z (bd h0 λ o37 h1 h0=>?_)
  refine kN o37 (λ v38=>⟨[(1,.ptr 1 0),(34,.p (eB v38))],[(1,(al.cs a_0).map .p)]⟩) ?_ ?_
  ·refine nx 1 Z (fB [34] h0 Z (λ c29 h0=>?_) λ c29 h0=>?_)
   ·exact nx 6 Z (mQ (oi h0) Z (sr))
   refine nx 7 Z (bd h0 λ r30 e31 h0=>oK (ki a_0.fKey _ e31) Z ⟨sr,trivial⟩ Tryz.call99 Z (nx 2 Z ?_))
   refine fB [38] h0 Z (λ c32 h0=>?_) λ c32 h0=>?_
   ·exact nx 6 Z (mQ (oi h0) Z (sr))
   exact nx 7 Z (mQ (oi h0) Z (sr))
  refine nx 3 Z (bd h1 λ r23 e24 h1=>oK (nY _ a_0.fType _ e24) Z ⟨sr,trivial⟩ Tryz.call76 Z (nx 2 Z ?_))
  refine fB [28,29] h1 Z (λ c25 h1=>?_) λ c25 h1=>?_
  ·exact nx 6 Z (eX _ (oi h1).symm (gE Z Z))
  exact nx 2 Z (bd h1 λ r26 e27 h1=>oK (fU _ a_0.fName _ e27) Z ⟨sr,trivial⟩ Tryz.call94 Z (nx 3 Z (eX _ (oi h1).symm (gE Z Z))))
 refine lG (λ (q39:Int)=>⟨[(1,.ptr 1 0),(10,.p (eL ag a_0.fModule)),(11,.p (eI (a_0.fModule.length:Int))),(12,.p (eI q39))],[(1,(al.cs a_0).map .p)]⟩) (λ m (q39:Int)=>cG n a_0 m q39) Y 0 h1 (gE Z Z) ?_
 rintro m t12 h1
 replace h1:cG n a_0 (m+1) t12=some o35:=h1
 rw [cG] at h1
 refine nx 5 Z (fD [13] h1 Z (λ c13 h1=>?_) λ c13 h1=>?_)
 ·refine nx 6 Z (oE h1 ac.cells_eq Z Z Y λ hk14 h1=>nx 9 Z (bd h1 λ r15 e16 h1=>oK (fU _ ((lat a_0.fModule t12).fName) _ e16) Z ⟨sr,trivial⟩ Tryz.call94 Z (nx 2 Z ?_)))
  refine fB [19] h1 Z (λ c17 h1=>?_) λ c17 h1=>?_
  ·exact nx 6 Z (mQ (hR0 _ (oi h1).symm) Z (sr))
  refine nx 6 Z (bd h1 λ r18 e19 h1=>oK (ki ((lat a_0.fModule t12).fKey) _ e19) Z ⟨sr,trivial⟩ Tryz.call99 Z (nx 2 Z ?_))
  refine fB [23] h1 Z (λ c20 h1=>?_) λ c20 h1=>?_
  ·exact nx 6 Z (mQ (hR0 _ (oi h1).symm) Z (sr))
  exact nx 3 Z (oA h1 Z Z λ hk21 h1=>nx 2 Z (eX (t12+1) h1 (gE Z Z)))
 exact nx 2 Z (eXi _ (oi h1).symm (gE Z Z))
def jk (n_0:Int):Option Bytes :=
 (strconv_Itoa n_0).bind λ r1 =>
 some r1
theorem rn (n_0:Int)(r:Bytes)(h0:jk n_0=some r):aA Tryz.prog 101 [eI n_0] (·=.p (eS r)):=by
 unfold jk at h0
 refine ba good Tryz.func101 Z Z Z λ w0=>mP (λ v:Bytes=>.p (eS v)) ?_
 exact nx 7 Z (bd h0 λ r1 e2 h0=>oK (ta n_0 _ e2) Z ⟨sr,trivial⟩ Tryz.call128 Z (nx 3 Z (mQ (oi h0) Z (sr))))
def dj (n:Nat)(k_0:bT):Option Bytes :=
 (
   (gv k_0).bind λ r1 =>
   if (!r1)=true then
    some true
   else
    some (decide (k_0.fKind=0))
  : Option Bool).bind λ t4 =>
 if t4=true then
  some ([]:Bytes)
 else
  if k_0.fKind=1 then
   (jk k_0.fNum).bind λ r7 =>
   ck (([91]:Bytes).length+r7.length≤9223372036854775807) <|
   ck ((([91]:Bytes)++r7).length+([93]:Bytes).length≤9223372036854775807) <|
   some ((([91]:Bytes)++r7)++([93]:Bytes))
  else
   (fu n k_0.fStr).bind λ r11 =>
   ck (([91]:Bytes).length+r11.length≤9223372036854775807) <|
   ck ((([91]:Bytes)++r11).length+([93]:Bytes).length≤9223372036854775807) <|
   some ((([91]:Bytes)++r11)++([93]:Bytes))
theorem kL (n:Nat)(k_0:bT)(r:Bytes)(h0:dj n k_0=some r):aA Tryz.prog 79 [.agg (bT.cs k_0)] (·=.p (eS r)):=by
 unfold dj at h0
 refine ba good Tryz.func79 Z Z Z λ w0=>mP (λ v:Bytes=>.p (eS v)) ?_
 refine nx 8 Z (bd h0 λ o16 h1 h0=>?_)
 refine kN o16 (λ v17=>⟨[(1,.ptr 1 0),(3,.p (eB v17))],[(1,(bT.cs k_0).map .p)]⟩) ?_ ?_
 ·refine nx 1 Z (fB [3] h0 Z (λ c5 h0=>?_) λ c5 h0=>?_)
  ·exact nx 6 Z (mQ (oi h0) Z (sr))
  refine nx 8 Z (fD [12,15] h0 Z (λ c6 h0=>?_) λ c6 h0=>?_)
  ·exact nx 5 Z (bd h0 λ r7 e8 h0=>oK (rn k_0.fNum _ e8) Z ⟨sr,trivial⟩ Tryz.call101 Z (oC h0 Z λ hk9 h0=>oC h0 Z λ hk10 h0=>nx 3 Z (mQ (oi h0) Z (sr))))
  exact nx 6 Z (bd h0 λ r11 e12 h0=>oK (oa _ k_0.fStr _ e12) Z ⟨sr,trivial⟩ Tryz.call96 Z (oC h0 Z λ hk13 h0=>oC h0 Z λ hk14 h0=>nx 3 Z (mQ (oi h0) Z (sr))))
 refine nx 2 Z (bd h1 λ r1 e2 h1=>oK (ki k_0 _ e2) Z ⟨sr,trivial⟩ Tryz.call99 Z (nx 2 Z ?_))
 refine fB [6,7] h1 Z (λ c3 h1=>?_) λ c3 h1=>?_
 ·exact nx 6 Z (eX _ (oi h1).symm (gE Z Z))
 exact nx 6 Z (eX _ (oi h1).symm (gE Z Z))
def cv (n:Nat)(a_0:al):Nat→Int→(List UInt8)→Option (List UInt8)
 | 0,_,_=>none
 | m+1,t16,f17 =>
 if t16 < (a_0.fModule.length:Int) then
  ck ((0:Int)≤t16∧t16 < (a_0.fModule.length:Int)) <|
  ck (([109,111,100,117,108,101,46]:Bytes).length+((lat a_0.fModule t16).fName).length≤9223372036854775807) <|
  (dj n ((lat a_0.fModule t16).fKey)).bind λ r21 =>
  ck ((([109,111,100,117,108,101,46]:Bytes)++((lat a_0.fModule t16).fName)).length+r21.length≤9223372036854775807) <|
  ck (((([109,111,100,117,108,101,46]:Bytes)++((lat a_0.fModule t16).fName))++r21).length+([46]:Bytes).length≤9223372036854775807) <|
  (bh (aH.mk f17) (((([109,111,100,117,108,101,46]:Bytes)++((lat a_0.fModule t16).fName))++r21)++([46]:Bytes))).bind λ r25 =>
  ck (inR (t16+1)) <|
  cv n a_0 m (t16+1) r25.2.2.fbuf
 else
  some f17
def ff (n:Nat)(a_0:al):Option Bytes :=
 (fH n a_0).bind λ r1 =>
 if r1=0 then
  (cv n a_0 n 0 []).bind λ f30 =>
  (
    if a_0.fData=true then
     (bh (aH.mk f30) ([100,97,116,97,46]:Bytes)).bind λ r32 =>
     some r32.2.2.fbuf
    else
     some f30
   : Option (List UInt8)).bind λ f34 =>
  ck (a_0.fType.length+([46]:Bytes).length≤9223372036854775807) <|
  ck ((a_0.fType++([46]:Bytes)).length+a_0.fName.length≤9223372036854775807) <|
  (dj n a_0.fKey).bind λ r37 =>
  ck (((a_0.fType++([46]:Bytes))++a_0.fName).length+r37.length≤9223372036854775807) <|
  (bh (aH.mk f34) (((a_0.fType++([46]:Bytes))++a_0.fName)++r37)).bind λ r40 =>
  (dF (aH.mk r40.2.2.fbuf)).bind λ r42 =>
  some r42.1
 else
  some ([]:Bytes)
theorem qI (n:Nat)(a_0:al)(r:Bytes)(h0:ff n a_0=some r):aA Tryz.prog 51 [.agg (al.cs a_0)] (·=.p (eS r)):=by
 unfold ff at h0
 refine ba good Tryz.func51 Z Z Z λ w0=>mP (λ v:Bytes=>.p (eS v)) ?_
 refine nx 9 Z (bd h0 λ r1 e2 h0=>oK (rW _ a_0 _ e2) Z ⟨sr,trivial⟩ Tryz.call77 Z (nx 2 Z ?_))
 refine fN [8] h0 Z (λ c3 h0=>?_) λ c3 h0=>?_
 ·refine nx 4 Z (mO Z (ru Z Z Z Z Z Z Z (nx 6 Z (oLl (f:=ag) Z Z (nx 3 Z (bd h0 λ o46 h1 h0=>?_))))))
  refine kE 0 o46 (λ v47=>⟨[(1,.ptr 1 0),(3,.ptr 3 0)],[(1,(al.cs a_0).map .p),(3,[.bptr 110 2 3,.vec 101000 1 (5+1) (v47.map eU)])]⟩) ?_ ?_
  ·refine nx 2 Z (bd h0 λ o48 h1 h0=>?_)
   refine kN o48 (λ v49=>⟨[(1,.ptr 1 0),(3,.ptr 3 0)],[(1,(al.cs a_0).map .p),(3,[.bptr 110 2 3,.vec 103000 1 (5+1) (v49.map eU)])]⟩) ?_ ?_
   ·refine nx 2 Z (cc' h0 λ hk35 h0=>cc' h0 λ hk36 h0=>bd h0 λ r37 e38 h0=>cc' h0 λ hk39 h0=>bd h0 λ r40 e41 h0=>mG (gE (t:=⟨[(1,.ptr 1 0),(3,.ptr 3 0)],[(1,(al.cs a_0).map .p),(3,[.bptr 110 2 3,.vec 103000 1 (5+1) (o48.map eU)])]⟩) Z Z) (mSq ⟨1,[10],(by2 (.some (eM [103000] 104000 104001)) .none),(λ _=>[(1,.ptr 1 0),(3,.ptr 3 0)]),(by2 ([(1,((al.cs a_0).map .p)),(3,[.bptr 110 2 3,.vec 103000 1 (5+1) (o48.map eU)])]) ([(3,[.bptr 110 2 3,.vec 104000 1 (5+1) (r40.2.2.fbuf.map eU)]),(1,((al.cs a_0).map .p))]))⟩ Z (dPc (.ptr 1 2) Z (dPc (.p (eS a_0.fType)) Z ?_))))
    refine bE (λ _=>.p (eS (a_0.fType++([46]:Bytes)))) Z Z Z (ic Z Y) (lt1 Z) (bb [(30,_)] ⟨.inr ⟨1,_,Z,Z,Z⟩,trivial⟩ (λ sl hsl K hK=>av Z (bu Z Z Z (hsl _ _ Z) Z hk35 hK)) (bb [(30,_)] ⟨.inr ⟨1,_,Z,Z,Z⟩,trivial⟩ (λ sl hsl K hK=>av Z (bu Z Z Z (hsl _ _ Z) Z hk35 hK)) bC)) (dPc (.ptr 1 3) Z ?_)
    refine dPc (.p (eS a_0.fName)) Z (bE (λ _=>.p (eS ((a_0.fType++([46]:Bytes))++a_0.fName))) Z Z Z (ic Z Y) (lt1 Z) (bb [(31,_),(33,_)] ⟨.inr ⟨2,_,Z,Z,Z⟩,.inr ⟨4,_,Z,Z,Z⟩,trivial⟩ (λ sl hsl K hK=>av Z (bu Z Z Z (hsl _ _ Z) (hsl _ _ Z) hk36 hK)) (bb [(31,_),(33,_)] ⟨.inr ⟨2,_,Z,Z,Z⟩,.inr ⟨4,_,Z,Z,Z⟩,trivial⟩ (λ sl hsl K hK=>av Z (bu Z Z Z (hsl _ _ Z) (hsl _ _ Z) hk36 hK)) bC)) (dPc (.ptr 1 4) Z (dPc (.p (.agg (bT.cs a_0.fKey))) Z ?_)))
    refine bE (λ _=>.p (eS r37)) Z Z Z (ic Z Y) (lt1 Z) (bv Z (bb [(36,_)] ⟨.inr ⟨7,_,Z,Z,Z⟩,trivial⟩ (λ sl hsl K hK=>av Z (bw (kL _ a_0.fKey _ e38) Z Z Z (aO (hsl _ _ Z) bA) ⟨sr,trivial⟩ Tryz.call79 Z hK)) bC)) (bE (λ _=>.p (eS (((a_0.fType++([46]:Bytes))++a_0.fName)++r37))) Z Z Z (ic Z Y) (lt1 Z) (bv Z (bb [(34,_),(37,_)] ⟨.inr ⟨5,_,Z,Z,Z⟩,.inr ⟨8,_,Z,Z,Z⟩,trivial⟩ (λ sl hsl K hK=>av Z (bu Z Z Z (hsl _ _ Z) (hsl _ _ Z) hk39 hK)) bC)) ?_)
    refine g5 (λ _=>.tuple [.p (eI r40.1),.p (eE r40.2.1)]) [(3,_),(38,_)] Z ⟨.inl Z,.inr ⟨9,_,Z,Z,Z⟩,trivial⟩ Z Z Y (lt1 (λ h=>absurd h (by decide))) (λ sl hsl K hK=>av Z (b8 [3] [103000] 104000 104001 (bU (aH.mk o48) (((a_0.fType++([46]:Bytes))++a_0.fName)++r37) _ e41) Z Z Z (aO (hsl _ _ Z) (aO (hsl _ _ Z) bA)) Z ⟨sr,sr,trivial⟩ Z Z ⟨⟨_,Z,⟨sr,sr,trivial⟩⟩,trivial⟩ Z Z Z Z Z Z Z Z Tryz.call78 Z Z hK)) (iS ?_)
    exact nx 3 Z (bd h0 λ r42 e43 h0=>mO Z (cVq [3] [104000] 105000 105000 (fX (aH.mk r40.2.2.fbuf) _ e43) Tryz.call80 Z (nx 3 Z (mQ (oi h0) Z (sr)))))
   refine nx 5 Z (fB [27] h1 Z (λ c31 h1=>?_) λ c31 h1=>?_)
   ·exact nx 2 Z (bd h1 λ r32 e33 h1=>mO Z (cVq [3] [101000] 103000 103001 (bU (aH.mk o46) ([100,97,116,97,46]:Bytes) _ e33) Tryz.call78 Z (nx 1 Z (eX _ (oi h1).symm (gE Z Z)))))
   exact nx 2 Z (eX _ (oi h1).symm (bD (bB 101000 103000 Z Z Z Z Z) (gE Z Z)))
  refine lG (λ (q50:Int×(List UInt8))=>⟨[(1,.ptr 1 0),(3,.ptr 3 0),(10,.p (eL ag a_0.fModule)),(11,.p (eI (a_0.fModule.length:Int))),(12,.p (eI q50.1))],[(1,(al.cs a_0).map .p),(3,[.bptr 110 2 3,.vec 101000 1 (5+1) (q50.2.map eU)])]⟩) (λ m (q50:Int×(List UInt8))=>cv n a_0 m q50.1 q50.2) Y (0,[]) h1 (aP (bm ⟨er Z,er Z,er Z,er Z,er Z,trivial⟩ ⟨⟨_,Z,⟨sr,sr,sr,sr,sr,sr,sr,trivial⟩⟩,⟨_,Z,⟨sr,AV.sub_nilvec _ _ _,trivial⟩⟩,trivial⟩)) ?_
  rintro m ⟨t16,f17⟩ h1
  replace h1:cv n a_0 (m+1) t16 f17=some o46:=h1
  rw [cv] at h1
  refine nx 5 Z (fD [13] h1 Z (λ c18 h1=>?_) λ c18 h1=>?_)
  ·refine nx 6 Z (oE h1 ac.cells_eq Z Z Y λ hk19 h1=>nx 4 Z (cc' h1 λ hk20 h1=>bd h1 λ r21 e22 h1=>cc' h1 λ hk23 h1=>cc' h1 λ hk24 h1=>bd h1 λ r25 e26 h1=>mG (gE (t:=⟨[(1,.ptr 1 0),(3,.ptr 3 0),(5,.ptr 5 0),(10,.p (eL ag a_0.fModule)),(11,.p (eI (a_0.fModule.length:Int))),(12,.p (eI t16))],[(1,(al.cs a_0).map .p),(3,[.bptr 110 2 3,.vec 101000 1 (5+1) (f17.map eU)]),(5,(ac.cs (lat a_0.fModule t16)).map .p)]⟩) Z Z) (mSq ⟨1,[8],(by2 (.some (eM [101000] 102000 102001)) .none),(λ _=>[(1,.ptr 1 0),(3,.ptr 3 0),(5,.ptr 5 0),(10,.p (eL ag a_0.fModule)),(11,.p (eI (a_0.fModule.length:Int))),(12,.p (eI t16))]),(by2 ([(1,((al.cs a_0).map .p)),(3,[.bptr 110 2 3,.vec 101000 1 (5+1) (f17.map eU)]),(5,[.p (eS ((lat a_0.fModule t16).fName)),.p (eI (((lat a_0.fModule t16).fKey).fKind)),.p (eI (((lat a_0.fModule t16).fKey).fNum)),.p (eS (((lat a_0.fModule t16).fKey).fStr))])]) ([(3,[.bptr 110 2 3,.vec 102000 1 (5+1) (r25.2.2.fbuf.map eU)]),(1,((al.cs a_0).map .p)),(5,[.p (eS ((lat a_0.fModule t16).fName)),.p (eI (((lat a_0.fModule t16).fKey).fKind)),.p (eI (((lat a_0.fModule t16).fKey).fNum)),.p (eS (((lat a_0.fModule t16).fKey).fStr))])]))⟩ Z (dPc (.ptr 5 0) Z (dPc (.p (eS ((lat a_0.fModule t16).fName))) Z ?_)))))
   refine bE (λ _=>.p (eS (([109,111,100,117,108,101,46]:Bytes)++((lat a_0.fModule t16).fName)))) Z Z Z (ic Z Y) (lt1 Z) (bb [(17,_)] ⟨.inr ⟨1,_,Z,Z,Z⟩,trivial⟩ (λ sl hsl K hK=>av Z (bu Z Z Z Z (hsl _ _ Z) hk20 hK)) (bb [(17,_)] ⟨.inr ⟨1,_,Z,Z,Z⟩,trivial⟩ (λ sl hsl K hK=>av Z (bu Z Z Z Z (hsl _ _ Z) hk20 hK)) bC)) (dPc (.ptr 5 1) Z ?_)
   refine dPc (.p (.agg (bT.cs ((lat a_0.fModule t16).fKey)))) Z (bE (λ _=>.p (eS r21)) Z Z Z (ic Z Y) (lt1 Z) (bv Z (bb [(20,_)] ⟨.inr ⟨4,_,Z,Z,Z⟩,trivial⟩ (λ sl hsl K hK=>av Z (bw (kL _ ((lat a_0.fModule t16).fKey) _ e22) Z Z Z (aO (hsl _ _ Z) bA) ⟨sr,trivial⟩ Tryz.call79 Z hK)) bC)) ?_)
   refine bE (λ _=>.p (eS ((([109,111,100,117,108,101,46]:Bytes)++((lat a_0.fModule t16).fName))++r21))) Z Z Z (ic Z Y) (lt1 Z) (bb [(18,_),(21,_)] ⟨.inr ⟨2,_,Z,Z,Z⟩,.inr ⟨5,_,Z,Z,Z⟩,trivial⟩ (λ sl hsl K hK=>av Z (bu Z Z Z (hsl _ _ Z) (hsl _ _ Z) hk23 hK)) (bb [(18,_),(21,_)] ⟨.inr ⟨2,_,Z,Z,Z⟩,.inr ⟨5,_,Z,Z,Z⟩,trivial⟩ (λ sl hsl K hK=>av Z (bu Z Z Z (hsl _ _ Z) (hsl _ _ Z) hk23 hK)) bC)) (bE (λ _=>.p (eS (((([109,111,100,117,108,101,46]:Bytes)++((lat a_0.fModule t16).fName))++r21)++([46]:Bytes)))) Z Z Z (ic Z Y) (lt1 Z) (bv Z (bb [(22,_)] ⟨.inr ⟨6,_,Z,Z,Z⟩,trivial⟩ (λ sl hsl K hK=>av Z (bu Z Z Z (hsl _ _ Z) Z hk24 hK)) bC)) ?_)
   refine g5 (λ _=>.tuple [.p (eI r25.1),.p (eE r25.2.1)]) [(3,_),(23,_)] Z ⟨.inl Z,.inr ⟨7,_,Z,Z,Z⟩,trivial⟩ Z Z Y (lt1 (λ h=>absurd h (by decide))) (λ sl hsl K hK=>av Z (b8 [3] [101000] 102000 102001 (bU (aH.mk f17) (((([109,111,100,117,108,101,46]:Bytes)++((lat a_0.fModule t16).fName))++r21)++([46]:Bytes)) _ e26) Z Z Z (aO (hsl _ _ Z) (aO (hsl _ _ Z) bA)) Z ⟨sr,sr,trivial⟩ Z Z ⟨⟨_,Z,⟨sr,sr,trivial⟩⟩,trivial⟩ Z Z Z Z Z Z Z Z Tryz.call78 Z Z hK)) (iS ?_)
   exact nx 2 Z (oA h1 Z Z λ hk27 h1=>nx 2 Z (eX (t16+1,r25.2.2.fbuf) h1 (bD (bB 102000 101000 Z Z Z Z Z) (gE Z Z))))
  exact nx 2 Z (eXi _ (oi h1).symm (gE Z Z))
 exact nx 6 Z (mQ (oi h0) Z (sr))
def dJ:Nat→Option Unit
 | 0=>none
 | m+1 =>
 if 0 < (([]:List ac).length:Int) then
  ck ((0:Int)≤0∧0 < (([]:List ac).length:Int)) <|
  none
 else
  some ()
def cw (a_0:al):Nat→Int→(List ac)→Option (List ac)
 | 0,_,_=>none
 | m+1,t10,l11 =>
 if t10 < (a_0.fModule.length:Int) then
  ck ((0:Int)≤t10∧t10 < (l11.length:Int)) <|
  ck (inR (t10+1)) <|
  cw a_0 m (t10+1) (l11.set t10.toNat (ac.mk ((lat l11 t10).fName) (bT.mk 0 0 ([]:Bytes))))
 else
  some l11
def fj (n:Nat)(a_0:al):Option al :=
 if a_0.fModule.isEmpty=true then
  (dJ n ).bind λ q18 =>
  some (al.mk ([]:List ac) a_0.fData a_0.fType a_0.fName (bT.mk 0 0 ([]:Bytes)))
 else
  ck (a_0.fModule.length*48≤140737488355328) <|
  (cw a_0 n 0 a_0.fModule).bind λ l17 =>
  some (al.mk l17 a_0.fData a_0.fType a_0.fName (bT.mk 0 0 ([]:Bytes)))
theorem qE (n:Nat)(a_0:al)(r:al)(h0:fj n a_0=some r):aA Tryz.prog 52 [.agg (al.cs a_0)] (·=.p (.agg (al.cs r))):=by
 unfold fj at h0
 refine ba good Tryz.func52 Z Z Z λ w0=>mP (λ v:al=>.p (.agg (al.cs v))) ?_
 refine nx 21 Z (zl (b:=a_0.fModule.isEmpty) (λ c1=>?_) (λ c1=>?_))
 ·replace h0:=CS c1 h0
  refine mO Z (bw (gt a_0.fModule c1) Z Z Z Z ⟨sr,trivial⟩ Tryz.call81 Z (nx 8 Z (oLl (f:=ag) Z Z (nx 3 Z (bd h0 λ o20 h1 h0=>?_)))))
  refine kE 0 o20 (λ v21=>⟨[(2,.ptr 2 0),(3,.ptr 3 0)],[(2,im),(3,[.p (eL ag ([]:List ac)),.p (eB a_0.fData),.p (eS a_0.fType),.p (eS a_0.fName),.p (eI 0),.p (eI 0),.p (eS ([]:Bytes))])]⟩) ?_ ?_
  ·exact nx 7 Z (mQ (oi h0) Z (sr))
  refine lG (λ (q22:Unit)=>⟨[(2,.ptr 2 0),(3,.ptr 3 0),(14,.p (eI (([]:List ac).length:Int))),(15,.p (eI 0))],[(2,im),(3,[.p (eL ag ([]:List ac)),.p (eB a_0.fData),.p (eS a_0.fType),.p (eS a_0.fName),.p (eI 0),.p (eI 0),.p (eS ([]:Bytes))])]⟩) (λ m (q22:Unit)=>dJ m ) Y () h1 (gE Z Z) ?_
  rintro m _ h1
  replace h1:dJ (m+1)  = some o20:=h1
  rw [dJ] at h1
  refine nx 5 Z (fD [16] h1 Z (λ c3 h1=>?_) λ c3 h1=>?_)
  ·refine nx 14 Z (oE h1 ac.cells_eq Z Z Y λ hk4 h1=>nx 1 Z ?_)
   cases h1
  exact nx 2 Z (eXi _ (oi h1).symm (gE Z Z))
 replace h0:=Bo c1 h0
 refine cc' h0 λ hk2 h0=>mO Z (b8 [] [] 101000 101001 (gq a_0.fModule c1 hk2) Z Z Z Z Z ⟨sr,trivial⟩ Z Z trivial Z Z Z Z Z Z Z Z Tryz.call81 Z (aK Z (aN _) Z) (nx 12 Z (bd h0 λ o23 h1 h0=>?_)))
 refine kE 0 o23 (λ v24=>⟨[(2,.ptr 2 0),(3,.ptr 3 0)],[(2,im),(3,[.arr 101000 4 0 v24.length,.p (eB a_0.fData),.p (eS a_0.fType),.p (eS a_0.fName),.p (eI 0),.p (eI 0),.p (eS ([]:Bytes))]),(101000,iZ ag v24)]⟩) ?_ ?_
 ·exact nx 3 Z (mG (pX (sl':=[(2,.ptr 2 0),(3,.ptr 3 0)]) (ob':=[(2,im),(3,[.p (eL ag o23),.p (eB a_0.fData),.p (eS a_0.fType),.p (eS a_0.fName),.p (eI 0),.p (eI 0),.p (eS ([]:Bytes))])]) 101000 4 ag o23 Z Z Z (λ x=>⟨congrArg List.length (ac.cells_eq x),by rw [ac.cells_eq]; rfl⟩) ⟨⟨_,Z,.inl Z⟩,⟨_,Z,.inl Z⟩,trivial⟩ ⟨⟨Z,_,Z,⟨.inl Z,.inl Z,.inl Z,.inl Z,.inl Z,.inl Z,.inl Z,trivial⟩⟩,⟨Z,_,Z,⟨.inr ⟨G ,Z⟩,.inl Z,.inl Z,.inl Z,.inl Z,.inl Z,.inl Z,trivial⟩⟩,trivial⟩) (nx 4 Z (mQ (oi h0) Z (sr))))
 refine lG (λ (q25:Int×(List ac))=>⟨[(2,.ptr 2 0),(3,.ptr 3 0),(14,.p (eI (a_0.fModule.length:Int))),(15,.p (eI q25.1))],[(2,im),(3,[.arr 101000 4 0 q25.2.length,.p (eB a_0.fData),.p (eS a_0.fType),.p (eS a_0.fName),.p (eI 0),.p (eI 0),.p (eS ([]:Bytes))]),(101000,iZ ag q25.2)]⟩) (λ m (q25:Int×(List ac))=>cw a_0 m q25.1 q25.2) Y (0,a_0.fModule) h1 (aP (bm ⟨er Z,er Z,er Z,er Z,trivial⟩ ⟨⟨_,Z,⟨sr,sr,sr,sr,sr,sr,sr,trivial⟩⟩,⟨_,Z,⟨AV.sub_of_eq (congrArg (AV.arr 101000 4 0) G),sr,sr,sr,sr,sr,sr,trivial⟩⟩,⟨_,Z,ah _⟩,trivial⟩)) ?_
 rintro m ⟨t10,l11⟩ h1
 replace h1:cw a_0 (m+1) t10 l11=some o23:=h1
 rw [cw] at h1
 refine nx 5 Z (fD [16] h1 Z (λ c12 h1=>?_) λ c12 h1=>?_)
 ·exact nx 14 Z (cc' h1 λ hk13 h1=>mO Z (jf Z Z Z Z Z Z Z Z Z hk13 (nx 1 Z (mO Z (vb ag ac.cs l11 (ac.mk ((lat l11 t10).fName) (bT.mk 0 0 ([]:Bytes))) [eI 0,eI 0,eS ([]:Bytes)] Z Z Z Z Z Z Z Z Z Z hk13 ac.cells_eq Y Z (nx 2 Z (oA h1 Z Z λ hk14 h1=>nx 2 Z (eX (t10+1,l11.set t10.toNat (ac.mk ((lat l11 t10).fName) (bT.mk 0 0 ([]:Bytes)))) h1 (aP (bm ⟨er Z,er Z,er Z,er Z,trivial⟩ ⟨⟨_,Z,⟨sr,sr,sr,sr,sr,sr,sr,trivial⟩⟩,⟨_,Z,⟨AV.sub_of_eq (congrArg (AV.arr 101000 4 0) G),sr,sr,sr,sr,sr,sr,trivial⟩⟩,⟨_,Z,ah _⟩,trivial⟩))))))))))
 exact nx 2 Z (eXi _ (oi h1).symm (aP (bm ⟨er Z,er Z,trivial⟩ ⟨⟨_,Z,⟨sr,sr,sr,sr,sr,sr,sr,trivial⟩⟩,⟨_,Z,⟨AV.sub_of_eq (congrArg (AV.arr 101000 4 0) G),sr,sr,sr,sr,sr,sr,trivial⟩⟩,⟨_,Z,ah _⟩,trivial⟩)))
def eh (n:Nat)(s_0:Bytes):Option (Bytes×Int) :=
 (fF n s_0).bind λ r1 =>
 if r1.2=0 then
  (fj n r1.1).bind λ r4 =>
  (ff n r4).bind λ r6 =>
  some (r6,0)
 else
  some (([]:Bytes),r1.2)
theorem mj (n:Nat)(s_0:Bytes)(r:Bytes×Int)(h0:eh n s_0=some r):aA Tryz.prog 32 [eS s_0] (·=.tuple [.p (eS r.1),.p (eI r.2)]):=by
 unfold eh at h0
 refine ba good Tryz.func32 Z Z Z λ w0=>mP (λ v:Bytes×Int=>.tuple [.p (eS v.1),.p (eI v.2)]) ?_
 refine nx 8 Z (bd h0 λ r1 e2 h0=>oK (rB _ s_0 _ e2) Z ⟨sr,trivial⟩ Tryz.call50 Z (nx 13 Z ?_))
 refine fN [12] h0 Z (λ c3 h0=>?_) λ c3 h0=>?_
 ·exact nx 5 Z (bd h0 λ r4 e5 h0=>oK (qE _ r1.1 _ e5) Z ⟨sr,trivial⟩ Tryz.call52 Z (bd h0 λ r6 e7 h0=>oK (qI _ r4 _ e7) Z ⟨sr,trivial⟩ Tryz.call51 Z (nx 4 Z (mQ (oi h0) Z (aC ⟨sr,sr,trivial⟩)))))
 exact nx 8 Z (mQ (oi h0) Z (aC ⟨sr,sr,trivial⟩))
def eP (patterns_0:List Bytes)(s_1:Bytes):Nat→Int→Option (Unit⊕Bool)
 | 0,_=>none
 | m+1,t7 =>
 if t7 < (patterns_0.length:Int) then
  ck ((0:Int)≤t7∧t7 < (patterns_0.length:Int)) <|
  ck ((lat patterns_0 t7).length≤65536∧s_1.length≤32768) <|
  if (Glob.matchL (lat patterns_0 t7) s_1)=true then
   some (.inr true)
  else
   ck (inR (t7+1)) <|
   eP patterns_0 s_1 m (t7+1)
 else
  some (.inl ())
def jL (n:Nat)(patterns_0:List Bytes)(s_1:Bytes):Option Bool :=
 jn (eP patterns_0 s_1 n 0) λ q14 =>
 some false
theorem sF (n:Nat)(patterns_0:List Bytes)(s_1:Bytes)(r:Bool)(h0:jL n patterns_0 s_1=some r):aA Tryz.prog 31 [eL eS patterns_0,eS s_1] (·=.p (eB r)):=by
 unfold jL at h0
 refine ba good Tryz.func31 Z Z Z λ w0=>mP (λ v:Bool=>.p (eB v)) ?_
 refine nx 8 Z (oLl (f:=eS) Z Z (nx 3 Z ?_))
 obtain ⟨o15,h1,hL0,hR0⟩:=fx h0
 refine kEx 0 (λ v16:Unit=>o15=.inl v16) (λ v16=>⟨[],[]⟩) (λ v16 hv=>?_) ?_
 ·have h0:=hL0 _ hv
  exact nx 6 Z (mQ (oi h0) Z (sr))
 refine lG (λ (q17:Int)=>⟨[(1,.p (eS s_1)),(7,.p (eL eS patterns_0)),(8,.p (eI (patterns_0.length:Int))),(9,.p (eI q17))],[]⟩) (λ m (q17:Int)=>eP patterns_0 s_1 m q17) Y 0 h1 (gE Z Z) ?_
 rintro m t7 h1
 replace h1:eP patterns_0 s_1 (m+1) t7=some o15:=h1
 rw [eP] at h1
 refine nx 5 Z (fD [10] h1 Z (λ c8 h1=>?_) λ c8 h1=>?_)
 ·refine nx 6 Z (oE h1 Y Z Z Y λ hk9 h1=>nx 7 Z (cc' h1 λ hk10 h1=>oK (Glob.match_ok (lat patterns_0 t7) s_1 hk10.1 hk10.2) Z ⟨sr,sr,trivial⟩ Tryz.call49 Z (nx 1 Z ?_)))
  refine fB [15] h1 Z (λ c11 h1=>?_) λ c11 h1=>?_
  ·exact nx 6 Z (mQ (hR0 _ (oi h1).symm) Z (sr))
  exact nx 3 Z (oA h1 Z Z λ hk12 h1=>nx 2 Z (eX (t7+1) h1 (gE Z Z)))
 exact nx 2 Z (eXi _ (oi h1).symm (gE Z Z))
def fJ (l_0:List Bytes)(in_1:List (Bytes×Bool)):Nat→(List Bytes)→Int→Option (List Bytes)
 | 0,_,_=>none
 | m+1,out9,t10 =>
 if t10 < (l_0.length:Int) then
  (
    ck ((0:Int)≤t10∧t10 < (l_0.length:Int)) <|
    if ((db in_1 (lat l_0 t10)).getD false)=true then
     ck ((out9.length+[lat l_0 t10].length)*16≤140737488355328) <|
     some (out9++[lat l_0 t10])
    else
     some out9
   : Option (List Bytes)).bind λ out15 =>
  ck (inR (t10+1)) <|
  fJ l_0 in_1 m out15 (t10+1)
 else
  some out9
def jw (n:Nat)(l_0:List Bytes)(in_1:List (Bytes×Bool)):Option (List Bytes) :=
 (fJ l_0 in_1 n [] 0).bind λ out19 =>
 some out19
theorem pV (n:Nat)(l_0:List Bytes)(in_1:List (Bytes×Bool))(r:(List Bytes))(h0:jw n l_0 in_1=some r):bN Tryz.prog 57 [.p (eL eS l_0),.mp 900000 (in_1.map λ p:Bytes×Bool=>(p.1,eB p.2))] [] (λ x y=>x=.p (eL eS r)∧y=[]):=by
 unfold jw at h0
 refine gR good [] [] Tryz.func57 Z Z Z Z Z λ w0 F=>mPo (λ v:(List Bytes)=>.p (eL eS v)) (λ v=>[]) ?_
 refine nx 12 Z (oLl (f:=eS) Z Z (nx 3 Z (bd h0 λ o22 h1 h0=>?_)))
 refine kE 0 o22 (λ v23=>⟨[(5,.vec 20 1 0 (v23.map eS))],[]⟩) ?_ ?_
 ·exact nx 7 Z (mQo (oi h0) (bW _) Z Z Z Z (sr) trivial)
 refine lG (λ (q24:(List Bytes)×Int)=>⟨[(1,.mp 900000 (in_1.map λ p:Bytes×Bool=>(p.1,eB p.2))),(5,.vec 20 1 0 (q24.1.map eS)),(8,.p (eL eS l_0)),(9,.p (eI (l_0.length:Int))),(10,.p (eI q24.2))],[]⟩) (λ m (q24:(List Bytes)×Int)=>fJ l_0 in_1 m q24.1 q24.2) Y ([],0) h1 (aP (bm ⟨er Z,⟨_,Z,AV.sub_nilvec _ _ _⟩,er Z,er Z,er Z,trivial⟩ trivial)) ?_
 rintro m ⟨out9,t10⟩ h1
 replace h1:fJ l_0 in_1 (m+1) out9 t10=some o22:=h1
 rw [fJ] at h1
 refine nx 5 Z (fD [11] h1 Z (λ c11 h1=>?_) λ c11 h1=>?_)
 ·refine nx 3 Z (bd h1 λ o25 h2 h1=>?_)
  refine kN o25 (λ v26=>⟨[(1,.mp 900000 (in_1.map λ p:Bytes×Bool=>(p.1,eB p.2))),(5,.vec 20 1 0 (v26.map eS)),(8,.p (eL eS l_0)),(9,.p (eI (l_0.length:Int))),(10,.p (eI t10))],[]⟩) ?_ ?_
  ·exact nx 2 Z (oA h1 Z Z λ hk16 h1=>nx 2 Z (eX (o25,t10+1) h1 (gE Z Z)))
  refine nx 3 Z (oE h2 Y Z Z Y λ hk12 h2=>nx 7 Z (mO Z (vH eB in_1 false Z Z Z Z Z Z Z (by kernel_rfl) Z Z Z (nx 1 Z (fB [16] h2 Z (λ c13 h2=>?_) λ c13 h2=>?_)))))
  ·exact nx 4 Z (mO Z (bs eS [lat l_0 t10] Z Z Z Z Z Z Z Z Z Z Z Z Z Z (cc' h2 λ hk14 h2=>mO Z (gB eS out9 [lat l_0 t10] Z Z Z Z Z Z Z Z Z Z Z Z Z Y Z Z Z Z hk14 (nx 2 Z (eX _ (oi h2).symm (gE Z Z)))))))
  exact nx 2 Z (eX _ (oi h2).symm (gE Z Z))
 exact nx 2 Z (eXi _ (oi h1).symm (gE Z Z))
def gi (l_0:List Bytes):Nat→(List (Bytes×Bool))→Int→Option (List (Bytes×Bool))
 | 0,_,_=>none
 | m+1,out6,t7 =>
 if t7 < (l_0.length:Int) then
  ck ((0:Int)≤t7∧t7 < (l_0.length:Int)) <|
  ck (inR (t7+1)) <|
  gi l_0 m (lx out6 (lat l_0 t7) true) (t7+1)
 else
  some out6
def kh (n:Nat)(l_0:List Bytes):Option (List (Bytes×Bool)) :=
 (gi l_0 n ([]:List (Bytes×Bool)) 0).bind λ out13 =>
 some out13
theorem ql (n:Nat)(l_0:List Bytes)(r:(List (Bytes×Bool)))(h0:kh n l_0=some r):bN Tryz.prog 60 [.p (eL eS l_0)] [] (λ x y=>x=.mp 2000000 (r.map λ p:Bytes×Bool=>(p.1,eB p.2))∧y=[]):=by
 unfold kh at h0
 refine gR good [800000] [] Tryz.func60 Z Z Z Z Z λ w0 F=>mPo (λ v:(List (Bytes×Bool))=>.mp 2000000 (v.map λ p:Bytes×Bool=>(p.1,eB p.2))) (λ v=>[]) ?_
 refine nx 7 Z (oLl (f:=eS) Z Z (mO Z (xk Z Z Z Z Z Z Z Z (nx 6 Z (oLl (f:=eS) Z Z (nx 3 Z (bd h0 λ o15 h1 h0=>?_)))))))
 refine kE 0 o15 (λ v16=>⟨[(3,.mp 8 (v16.map λ p:Bytes×Bool=>(p.1,eB p.2)))],[]⟩) ?_ ?_
 ·exact nx 7 Z (mQo (oi h0) (bD (bB 8 800000 Z Z Z Z Z) (bW _)) Z Z Z Z (sr) trivial)
 refine lG (λ (q17:(List (Bytes×Bool))×Int)=>⟨[(3,.mp 8 (q17.1.map λ p:Bytes×Bool=>(p.1,eB p.2))),(9,.p (eL eS l_0)),(10,.p (eI (l_0.length:Int))),(11,.p (eI q17.2))],[]⟩) (λ m (q17:(List (Bytes×Bool))×Int)=>gi l_0 m q17.1 q17.2) Y (([]:List (Bytes×Bool)),0) h1 (gE Z Z) ?_
 rintro m ⟨out6,t7⟩ h1
 replace h1:gi l_0 (m+1) out6 t7=some o15:=h1
 rw [gi] at h1
 refine nx 5 Z (fD [12] h1 Z (λ c8 h1=>?_) λ c8 h1=>?_)
 ·exact nx 6 Z (oE h1 Y Z Z Y λ hk9 h1=>nx 6 Z (mO Z (xJ eB out6 true Z Z Z Z Z Z Z Z Z Z Z Z (nx 2 Z (oA h1 Z Z λ hk10 h1=>nx 2 Z (eX (lx out6 (lat l_0 t7) true,t7+1) h1 (gE Z Z)))))))
 exact nx 2 Z (eXi _ (oi h1).symm (gE Z Z))
def d6 (to_0:List (Bytes×(List Bytes)))(todo39:List Bytes):Nat→(List (Bytes×Bool))→(List Bytes)→Int→Option ((List (Bytes×Bool))×(List Bytes))
 | 0,_,_,_=>none
 | m+1,seen56,todo57,t58 =>
 if t58 < (((db to_0 (lat todo39 ((todo39.length:Int) - 1))).getD []).length:Int) then
  (
    ck ((0:Int)≤t58∧t58 < (((db to_0 (lat todo39 ((todo39.length:Int) - 1))).getD []).length:Int)) <|
    if (!((db seen56 (lat ((db to_0 (lat todo39 ((todo39.length:Int) - 1))).getD []) t58)).getD false))=true then
     ck ((todo57.length+([lat ((db to_0 (lat todo39 ((todo39.length:Int) - 1))).getD []) t58]).length)*16≤140737488355328) <|
     some (lx seen56 (lat ((db to_0 (lat todo39 ((todo39.length:Int) - 1))).getD []) t58) true,todo57++([lat ((db to_0 (lat todo39 ((todo39.length:Int) - 1))).getD []) t58]))
    else
     some (seen56,todo57)
   : Option ((List (Bytes×Bool))×(List Bytes))).bind λ q77 =>
  ck (inR (t58+1)) <|
  d6 to_0 todo39 m q77.1 q77.2 (t58+1)
 else
  some (seen56,todo57)
def d7 (n:Nat)(to_0:List (Bytes×(List Bytes))):Nat→(List (Bytes×Bool))→(List Bytes)→Option (List (Bytes×Bool))
 | 0,_,_=>none
 | m+1,seen38,todo39 =>
 if 0 < (todo39.length:Int) then
  ck (inR ((todo39.length:Int) - 1)) <|
  ck ((0:Int)≤(todo39.length:Int) - 1∧(todo39.length:Int) - 1 < (todo39.length:Int)) <|
  ck (inR ((todo39.length:Int) - 1)) <|
  ck ((0:Int)≤(todo39.length:Int) - 1∧(todo39.length:Int) - 1≤(todo39.length:Int)) <|
  (d6 to_0 todo39 n seen38 (todo39.take ((todo39.length:Int) - 1).toNat) 0).bind λ q76 =>
  d7 n to_0 m q76.1 q76.2
 else
  some seen38
def hC (n:Nat)(to_0:List (Bytes×(List Bytes)))(from_1:List Bytes):Option (List (Bytes×Bool)) :=
 (kh n from_1).bind λ r1 =>
 ck (from_1.length*16≤140737488355328) <|
 (d7 n to_0 n r1 from_1).bind λ seen74 =>
 some seen74
theorem rL (n:Nat)(to_0:List (Bytes×(List Bytes)))(from_1:List Bytes)(r:(List (Bytes×Bool)))(h0:hC n to_0 from_1=some r):bN Tryz.prog 58 [.mp 900000 (to_0.map λ p:Bytes×(List Bytes)=>(p.1,(eL eS) p.2)),.p (eL eS from_1)] [] (λ x y=>x=.mp 2000000 (r.map λ p:Bytes×Bool=>(p.1,eB p.2))∧y=[]):=by
 unfold hC at h0
 refine gR good [800000] [] Tryz.func58 Z Z Z Z Z λ w0 F=>mPo (λ v:(List (Bytes×Bool))=>.mp 2000000 (v.map λ p:Bytes×Bool=>(p.1,eB p.2))) (λ v=>[]) ?_
 refine nx 7 Z (bd h0 λ r1 e2 h0=>mO Z (b8 [] [] 101000 101001 (ql _ from_1 _ e2) Z Z Z Z Z ⟨sr,trivial⟩ Z Z trivial Z Z Z Z Z Z Z Z Tryz.call60 Z Z (nx 5 Z (cc' h0 λ hk3 h0=>mO Z (b8 [] [] 102000 102001 (kl from_1 hk3) Z Z Z Z Z ⟨sr,trivial⟩ Z Z trivial Z Z Z Z Z Z Z Z Tryz.call65 Z Z (nx 4 Z (bd h0 λ o78 h1 h0=>?_)))))))
 refine kE 0 o78 (λ v79=>⟨[(5,.mp 101000 (v79.map λ p:Bytes×Bool=>(p.1,eB p.2)))],[]⟩) ?_ ?_
 ·exact nx 7 Z (mQo (oi h0) (bD (bB 101000 800000 Z Z Z Z Z) (bW _)) Z Z Z Z (sr) trivial)
 refine lG (λ (q80:(List (Bytes×Bool))×(List Bytes))=>⟨[(0,.mp 900000 (to_0.map λ p:Bytes×(List Bytes)=>(p.1,(eL eS) p.2))),(5,.mp 101000 (q80.1.map λ p:Bytes×Bool=>(p.1,eB p.2))),(6,.stk 102000 1 (q80.2.map eS))],[]⟩) (λ m (q80:(List (Bytes×Bool))×(List Bytes))=>d7 n to_0 m q80.1 q80.2) Y (r1,from_1) h1 (gE Z Z) ?_
 rintro m ⟨seen38,todo39⟩ h1
 replace h1:d7 n to_0 (m+1) seen38 todo39=some o78:=h1
 rw [d7] at h1
 refine nx 4 Z (mO Z (nj eS todo39 Z Z Z Z Z Z (nx 2 Z (fD [16] h1 Z (λ c40 h1=>?_) λ c40 h1=>?_))))
 ·refine nx 7 Z (mO Z (nj eS todo39 Z Z Z Z Z Z (oA h1 Z Z λ hk41 h1=>cc' h1 λ hk42 h1=>mO Z (pb eS todo39 Z Z Z Z Z Z Z Z Z hk42 (mO Z (A4 eS (λ _=>⟨Z,Z⟩) todo39 6 Z Z Z Z Z Z Z hk42 (nx 6 Z (mO Z (nj eS todo39 Z Z Z Z Z Z (oA h1 Z Z λ hk43 h1=>cc' h1 λ hk44 h1=>mO Z (tV eS todo39 Z Z Z Z Z Z Z Z hk44 Z (nx 6 Z (mO Z (Ag eS to_0 Z Z Z Z Z Z Z (by kernel_rfl) Z Z (oLl (f:=eS) Z Z (nx 3 Z ?_))))))))))))))))
  refine bd h1 λ o81 h2 h1=>kE 2 o81 (λ v82=>⟨[(0,.mp 900000 (to_0.map λ p:Bytes×(List Bytes)=>(p.1,(eL eS) p.2))),(5,.mp 101000 (v82.1.map λ p:Bytes×Bool=>(p.1,eB p.2))),(6,.stk 102000 1 (v82.2.map eS))],[]⟩) ?_ ?_
  ·exact nx 1 Z (eX (o81.1,o81.2) h1 (gE Z Z))
  refine lG (λ (q83:(List (Bytes×Bool))×(List Bytes)×Int)=>⟨[(0,.mp 900000 (to_0.map λ p:Bytes×(List Bytes)=>(p.1,(eL eS) p.2))),(5,.mp 101000 (q83.1.map λ p:Bytes×Bool=>(p.1,eB p.2))),(6,.stk 102000 1 (q83.2.1.map eS)),(30,.p (eL eS ((db to_0 (lat todo39 ((todo39.length:Int) - 1))).getD []))),(31,.p (eI (((db to_0 (lat todo39 ((todo39.length:Int) - 1))).getD []).length:Int))),(32,.p (eI q83.2.2))],[]⟩) (λ m (q83:(List (Bytes×Bool))×(List Bytes)×Int)=>d6 to_0 todo39 m q83.1 q83.2.1 q83.2.2) Y (seen38,todo39.take ((todo39.length:Int) - 1).toNat,0) h2 (gE Z Z) ?_
  rintro m ⟨seen56,todo57,t58⟩ h2
  replace h2:d6 to_0 todo39 (m+1) seen56 todo57 t58=some o81:=h2
  rw [d6] at h2
  refine nx 5 Z (fD [33] h2 Z (λ c59 h2=>?_) λ c59 h2=>?_)
  ·refine nx 3 Z (bd h2 λ o84 h3 h2=>?_)
   refine kN o84 (λ v85=>⟨[(0,.mp 900000 (to_0.map λ p:Bytes×(List Bytes)=>(p.1,(eL eS) p.2))),(5,.mp 101000 (v85.1.map λ p:Bytes×Bool=>(p.1,eB p.2))),(6,.stk 102000 1 (v85.2.map eS)),(30,.p (eL eS ((db to_0 (lat todo39 ((todo39.length:Int) - 1))).getD []))),(31,.p (eI (((db to_0 (lat todo39 ((todo39.length:Int) - 1))).getD []).length:Int))),(32,.p (eI t58))],[]⟩) ?_ ?_
   ·exact nx 2 Z (oA h2 Z Z λ hk66 h2=>nx 2 Z (eX (o84.1,o84.2,t58+1) h2 (gE Z Z)))
   refine nx 3 Z (oE h3 Y Z Z Y λ hk60 h3=>nx 7 Z (mO Z (vH eB seen56 false Z Z Z Z Z Z Z (by kernel_rfl) Z Z Z (nx 2 Z (fB [39] h3 Z (λ c61 h3=>?_) λ c61 h3=>?_)))))
   ·exact nx 5 Z (mO Z (xJ eB seen56 true Z Z Z Z Z Z Z Z Z Z Z Z (nx 4 Z (mO Z (bs eS [lat ((db to_0 (lat todo39 ((todo39.length:Int) - 1))).getD []) t58] Z Z Z Z Z Z Z Z Z Z Z Z Z Z (cc' h3 λ hk62 h3=>mO Z (tE eS (λ _=>⟨Z,Z⟩) todo57 ([lat ((db to_0 (lat todo39 ((todo39.length:Int) - 1))).getD []) t58]) Z Z Z Z Z Z Z Z Z Z Z Z (Nat.zero_lt_succ _) Z Z Z hk62 Z Z (nx 2 Z (eX _ (oi h3).symm (gE Z Z))))))))))
   exact nx 2 Z (eX _ (oi h3).symm (gE Z Z))
  exact nx 2 Z (eXi _ (oi h2).symm (gE Z Z))
 exact nx 2 Z (eXi _ (oi h1).symm (gE Z Z))
def fG (g_0:gp):Nat→(List (Bytes×List Bytes))→Int→Option (List (Bytes×List Bytes))
 | 0,_,_=>none
 | m+1,out7,t8 =>
 if t8 < (g_0.fEdges.length:Int) then
  ck ((0:Int)≤t8∧t8 < (g_0.fEdges.length:Int)) <|
  ck ((((db out7 ((lat g_0.fEdges t8).fFrom)).getD []).length+[(lat g_0.fEdges t8).fTo].length)*16≤140737488355328) <|
  ck (inR (t8+1)) <|
  fG g_0 m (lx out7 ((lat g_0.fEdges t8).fFrom) (((db out7 ((lat g_0.fEdges t8).fFrom)).getD [])++[(lat g_0.fEdges t8).fTo])) (t8+1)
 else
  some out7
def ks (n:Nat)(g_0:gp):Option (List (Bytes×(List Bytes))) :=
 (fG g_0 n ([]:List (Bytes×List Bytes)) 0).bind λ out15 =>
 some out15
theorem u7 (n:Nat)(g_0:gp)(r:(List (Bytes×(List Bytes))))(h0:ks n g_0=some r):bN Tryz.prog 59 [.p (.agg (gp.cs g_0))] [] (λ x y=>x=.mp 2000000 (r.map λ p:Bytes×(List Bytes)=>(p.1,(eL eS) p.2))∧y=[]):=by
 unfold ks at h0
 refine gR good [800000] [] Tryz.func59 Z Z Z Z Z λ w0 F=>mPo (λ v:(List (Bytes×(List Bytes)))=>.mp 2000000 (v.map λ p:Bytes×(List Bytes)=>(p.1,(eL eS) p.2))) (λ v=>[]) ?_
 refine nx 9 Z (oLl (f:=eS) Z Z (mO Z (uH 1 0 Z Z Z Z Z Z Z Z (nx 7 Z (oLl (f:=mI) Z Z (nx 3 Z (bd h0 λ o17 h1 h0=>?_)))))))
 refine kE 0 o17 (λ v18=>⟨[(3,.mpr 9 1 0 none (v18.map λ p:Bytes×List Bytes=>(p.1,p.2.map eS)))],[]⟩) ?_ ?_
 ·exact nx 6 Z (mG (t:=⟨[(2,.mp 9 (o17.map λ p:Bytes×(List Bytes)=>(p.1,(eL eS) p.2)))],[]⟩) (aP (bm ⟨⟨_,Z,Aa _ _ _ eS o17⟩,trivial⟩ trivial)) (nx 1 Z (mQo (oi h0) (bD (bB 9 800000 Z Z Z Z Z) (bW _)) Z Z Z Z (sr) trivial)))
 refine lG (λ (q19:(List (Bytes×List Bytes))×Int)=>⟨[(3,.mpr 9 1 0 none (q19.1.map λ p:Bytes×List Bytes=>(p.1,p.2.map eS))),(11,.p (eL mI g_0.fEdges)),(12,.p (eI (g_0.fEdges.length:Int))),(13,.p (eI q19.2))],[]⟩) (λ m (q19:(List (Bytes×List Bytes))×Int)=>fG g_0 m q19.1 q19.2) Y (([]:List (Bytes×List Bytes)),0) h1 (gE Z Z) ?_
 rintro m ⟨out7,t8⟩ h1
 replace h1:fG g_0 (m+1) out7 t8=some o17:=h1
 rw [fG] at h1
 refine nx 5 Z (fD [14] h1 Z (λ c9 h1=>?_) λ c9 h1=>?_)
 ·refine nx 6 Z (oE h1 lR.cells_eq Z Z Y λ hk10 h1=>nx 4 Z (cc' h1 λ hk11 h1=>mG (gE (t:=⟨[(3,.mpr 9 1 0 none (out7.map λ p:Bytes×List Bytes=>(p.1,p.2.map eS))),(5,.ptr 5 0),(11,.p (eL mI g_0.fEdges)),(12,.p (eI (g_0.fEdges.length:Int))),(13,.p (eI t8))],[(5,(lR.cs (lat g_0.fEdges t8)).map .p)]⟩) Z Z) (mSq ⟨3,[6,10,11],(by4 (.fn (tkA 9 23 (.mpr 9 1 0 (some ((lat g_0.fEdges t8).fFrom)) (out7.map λ p:Bytes×List Bytes=>(p.1,p.2.map eS))))) (.some λ i=>Nat.beq i 23||Nat.beq i 27) (.fn (tkA 9 27 (.mpr 9 1 0 none ((lx out7 ((lat g_0.fEdges t8).fFrom) (((db out7 ((lat g_0.fEdges t8).fFrom)).getD [])++[(lat g_0.fEdges t8).fTo])).map λ p:Bytes×List Bytes=>(p.1,p.2.map eS))))) .none),(by4 [(3,.mpr 9 1 0 none (out7.map λ p:Bytes×List Bytes=>(p.1,p.2.map eS))),(5,.ptr 5 0),(11,.p (eL mI g_0.fEdges)),(12,.p (eI (g_0.fEdges.length:Int))),(13,.p (eI t8))] [(3,.mpr 9 1 0 (some ((lat g_0.fEdges t8).fFrom)) (out7.map λ p:Bytes×List Bytes=>(p.1,p.2.map eS))),(5,.ptr 5 0),(11,.p (eL mI g_0.fEdges)),(12,.p (eI (g_0.fEdges.length:Int))),(13,.p (eI t8))] [(3,.mpr 9 1 0 (some ((lat g_0.fEdges t8).fFrom)) (out7.map λ p:Bytes×List Bytes=>(p.1,p.2.map eS))),(5,.ptr 5 0),(11,.p (eL mI g_0.fEdges)),(12,.p (eI (g_0.fEdges.length:Int))),(13,.p (eI t8))] ([(3,.mpr 9 1 0 none ((lx out7 ((lat g_0.fEdges t8).fFrom) (((db out7 ((lat g_0.fEdges t8).fFrom)).getD [])++[(lat g_0.fEdges t8).fTo])).map λ p:Bytes×List Bytes=>(p.1,p.2.map eS))),(5,.ptr 5 0),(11,.p (eL mI g_0.fEdges)),(12,.p (eI (g_0.fEdges.length:Int))),(13,.p (eI t8))])),(λ _=>[(5,[.p (eS ((lat g_0.fEdges t8).fFrom)),.p (eS ((lat g_0.fEdges t8).fTo))])])⟩ Z (dP (by4 (.mpr 9 1 0 none (out7.map λ p:Bytes×List Bytes=>(p.1,p.2.map eS))) (.mpr 9 1 0 (some ((lat g_0.fEdges t8).fFrom)) (out7.map λ p:Bytes×List Bytes=>(p.1,p.2.map eS))) (.mpr 9 1 0 (some ((lat g_0.fEdges t8).fFrom)) (out7.map λ p:Bytes×List Bytes=>(p.1,p.2.map eS))) (.mpr 9 1 0 none ((lx out7 ((lat g_0.fEdges t8).fFrom) (((db out7 ((lat g_0.fEdges t8).fFrom)).getD [])++[(lat g_0.fEdges t8).fTo])).map λ p:Bytes×List Bytes=>(p.1,p.2.map eS)))) Z (dPc (.ptr 5 0) Z (dPc (.p (eS ((lat g_0.fEdges t8).fFrom))) Z (dP (by4 (.mpr 9 1 0 none (out7.map λ p:Bytes×List Bytes=>(p.1,p.2.map eS))) (.mpr 9 1 0 (some ((lat g_0.fEdges t8).fFrom)) (out7.map λ p:Bytes×List Bytes=>(p.1,p.2.map eS))) (.mpr 9 1 0 (some ((lat g_0.fEdges t8).fFrom)) (out7.map λ p:Bytes×List Bytes=>(p.1,p.2.map eS))) (.mpr 9 1 0 none ((lx out7 ((lat g_0.fEdges t8).fFrom) (((db out7 ((lat g_0.fEdges t8).fFrom)).getD [])++[(lat g_0.fEdges t8).fTo])).map λ p:Bytes×List Bytes=>(p.1,p.2.map eS)))) Z (dPc (.ptr 5 0) Z (dPc (.p (eS ((lat g_0.fEdges t8).fFrom))) Z ?_)))))))))
  refine g5 (by4 (.vec 23 1 0 (((db out7 ((lat g_0.fEdges t8).fFrom)).getD []).map eS)) (.vec 23 1 0 (((db out7 ((lat g_0.fEdges t8).fFrom)).getD []).map eS)) (.p (eL eS ((db out7 ((lat g_0.fEdges t8).fFrom)).getD []))) (.p (eL eS ((db out7 ((lat g_0.fEdges t8).fFrom)).getD [])))) [(20,_),(22,_)] Z ⟨.inr ⟨3,_,Z,Z,Z⟩,.inr ⟨5,_,Z,Z,Z⟩,trivial⟩ Z Z (wW Z Z Y) (lt3 (λ h=>absurd h (by decide)) Y Y) (λ sl hsl K hK=>av Z (yN eS out7 Z Z Z Z Z Z Z (by kernel_rfl) (hsl _ _ Z) (hsl _ _ Z) Z Z Z hK)) (dPc (.ptr 5 1) Z ?_)
  refine dPc (.p (eS ((lat g_0.fEdges t8).fTo))) Z (bE (λ _=>.p (eL eS [(lat g_0.fEdges t8).fTo])) Z Z Z (qM Z Z Z Y) (lt3 Z Z Z) (bv Z (bv Z (bb [(25,_)] ⟨.inr ⟨8,_,Z,Z,Z⟩,trivial⟩ (λ sl hsl K hK=>av Z (bs eS [(lat g_0.fEdges t8).fTo] Z Z Z Z Z Z (nu (hsl _ _ Z) Z po) Z Z Z Z Z Z Z hK)) (bb [(25,_)] ⟨.inr ⟨8,_,Z,Z,Z⟩,trivial⟩ (λ sl hsl K hK=>av Z (bs eS [(lat g_0.fEdges t8).fTo] Z Z Z Z Z Z (nu (hsl _ _ Z) Z po) Z Z Z Z Z Z Z hK)) bC)))) ?_)
  refine g5 (by4 (.vec 27 1 0 ((((db out7 ((lat g_0.fEdges t8).fFrom)).getD [])++[(lat g_0.fEdges t8).fTo]).map eS)) (.vec 27 1 0 ((((db out7 ((lat g_0.fEdges t8).fFrom)).getD [])++[(lat g_0.fEdges t8).fTo]).map eS)) (.vec 27 1 0 ((((db out7 ((lat g_0.fEdges t8).fFrom)).getD [])++[(lat g_0.fEdges t8).fTo]).map eS)) (.p (eL eS (((db out7 ((lat g_0.fEdges t8).fFrom)).getD [])++[(lat g_0.fEdges t8).fTo])))) [(23,_),(26,_)] Z ⟨.inr ⟨6,_,Z,Z,Z⟩,.inr ⟨9,_,Z,Z,Z⟩,trivial⟩ Z Z (ic Z Y) (lt3 (λ h=>absurd h (by decide)) (λ h=>absurd h (by decide)) Y) (λ sl hsl K hK=>av Z (gB eS ((db out7 ((lat g_0.fEdges t8).fFrom)).getD []) [(lat g_0.fEdges t8).fTo] Z Z Z Z Z Z Z Z (hsl _ _ Z) Z Z (hsl _ _ Z) Z Y Z Z Z Z hk11 hK)) (qR [(17,_),(19,_),(27,_)] Z ⟨.inr ⟨0,_,Z,Z,Z⟩,.inr ⟨2,_,Z,Z,Z⟩,.inr ⟨10,_,Z,Z,Z⟩,trivial⟩ Z (λ sl hsl K hK=>av Z (Ay eS out7 (((db out7 ((lat g_0.fEdges t8).fFrom)).getD [])++[(lat g_0.fEdges t8).fTo]) Z Z Z Z Z Z (hsl _ _ Z) (hsl _ _ Z) (hsl _ _ Z) Z Z Z Z hK)) ?_)
  refine iS (nx 2 Z ?_)
  exact oA h1 Z Z λ hk12 h1=>nx 2 Z (eX (lx out7 ((lat g_0.fEdges t8).fFrom) (((db out7 ((lat g_0.fEdges t8).fFrom)).getD [])++[(lat g_0.fEdges t8).fTo]),t8+1) h1 (gE Z Z))
 exact nx 2 Z (eXi _ (oi h1).symm (gE Z Z))
def jE (n:Nat)(g_0:gp)(from_1:List Bytes):Option (List Bytes) :=
 (ks n g_0).bind λ r1 =>
 (kh n from_1).bind λ r3 =>
 (jw n g_0.fNodes r3).bind λ r5 =>
 (hC n r1 r5).bind λ r7 =>
 (jw n g_0.fNodes r7).bind λ r9 =>
 some r9
theorem uN (n:Nat)(g_0:gp)(from_1:List Bytes)(r:(List Bytes))(h0:jE n g_0 from_1=some r):aA Tryz.prog 37 [.agg (gp.cs g_0),eL eS from_1] (·=.p (eL eS r)):=by
 unfold jE at h0
 refine ba good Tryz.func37 Z Z Z λ w0=>mP (λ v:(List Bytes)=>.p (eL eS v)) ?_
 refine nx 6 Z (bd h0 λ r1 e2 h0=>bd h0 λ r3 e4 h0=>bd h0 λ r5 e6 h0=>bd h0 λ r7 e8 h0=>bd h0 λ r9 e10 h0=>mG (gE (t:=⟨[(1,.p (eL eS from_1)),(2,.ptr 2 0)],[(2,(gp.cs g_0).map .p)]⟩) Z Z) (mSq ⟨5,[3,7,8,9,10],(by6 (.some (eM [] 101000 101001)) (.some (eM [] 102000 102001)) (.some (eM [102000] 103000 103000)) (.some (eM [101000] 104000 104001)) (.some (eM [104000] 105000 105000)) .none),(λ _=>[(1,.p (eL eS from_1)),(2,.ptr 2 0)]),(λ _=>[(2,((gp.cs g_0).map .p))])⟩ Z (dPc (.ptr 2 0) Z (dPc (.p (eL eS g_0.fNodes)) Z (dPc (.p (.agg (gp.cs g_0))) Z (g5 (by6 (.mp 101000 (r1.map λ p:Bytes×(List Bytes)=>(p.1,(eL eS) p.2))) (.mp 101000 (r1.map λ p:Bytes×(List Bytes)=>(p.1,(eL eS) p.2))) (.mp 101000 (r1.map λ p:Bytes×(List Bytes)=>(p.1,(eL eS) p.2))) (.mp 101000 (r1.map λ p:Bytes×(List Bytes)=>(p.1,(eL eS) p.2))) .undef .undef) [(7,_)] Z ⟨.inr ⟨2,_,Z,Z,Z⟩,trivial⟩ Z Z (all5 Z Z Z Z Y) (lt5 (λ h=>absurd h (by decide)) Y Y Y Y) (λ sl hsl K hK=>av Z (b8 [] [] 101000 101001 (u7 _ g_0 _ e2) Z Z Z (aO (hsl _ _ Z) bA) Z ⟨sr,trivial⟩ Z Z trivial Z Z Z Z Z Z Z Z Tryz.call59 Z Z hK)) (dPc (.ptr 2 0) Z (dPc (.p (eL eS g_0.fNodes)) Z (dPc (.p (eL eS from_1)) Z (g5 (by6 (.mp 102000 (r3.map λ p:Bytes×Bool=>(p.1,eB p.2))) (.mp 102000 (r3.map λ p:Bytes×Bool=>(p.1,eB p.2))) (.mp 102000 (r3.map λ p:Bytes×Bool=>(p.1,eB p.2))) .undef .undef .undef) [(11,_)] Z ⟨.inr ⟨6,_,Z,Z,Z⟩,trivial⟩ Z Z (qM Z Z Z Y) (lt5 (λ h=>absurd h (by decide)) (λ h=>absurd h (by decide)) Y Y Y) (λ sl hsl K hK=>av Z (b8 [] [] 102000 102001 (ql _ from_1 _ e4) Z Z Z (aO (hsl _ _ Z) bA) Z ⟨sr,trivial⟩ Z Z trivial Z Z Z Z Z Z Z Z Tryz.call60 Z Z hK)) ?_))))))))))
 refine g5 (λ _=>.p (eL eS r5)) [(10,_),(12,_)] Z ⟨.inr ⟨5,_,Z,Z,Z⟩,.inr ⟨7,_,Z,Z,Z⟩,trivial⟩ Z Z (wW Z Z Y) (lt5 (λ h=>absurd h (by decide)) (λ h=>absurd h (by decide)) (λ h=>absurd h (by decide)) Y Y) (λ sl hsl K hK=>av Z (b8 [] [102000] 103000 103000 (pV _ g_0.fNodes r3 _ e6) Z Z Z (aO (hsl _ _ Z) (aO (hsl _ _ Z) bA)) Z ⟨sr,sr,trivial⟩ Z Z trivial Z Z Z Z Z Z Z Z Tryz.call57 Z Z hK)) (g5 (by6 (.mp 104000 (r7.map λ p:Bytes×Bool=>(p.1,eB p.2))) (.mp 104000 (r7.map λ p:Bytes×Bool=>(p.1,eB p.2))) (.mp 104000 (r7.map λ p:Bytes×Bool=>(p.1,eB p.2))) (.mp 104000 (r7.map λ p:Bytes×Bool=>(p.1,eB p.2))) (.mp 104000 (r7.map λ p:Bytes×Bool=>(p.1,eB p.2))) .undef) [(8,_),(13,_)] Z ⟨.inr ⟨3,_,Z,Z,Z⟩,.inr ⟨8,_,Z,Z,Z⟩,trivial⟩ Z Z (ic Z Y) (lt5 (λ h=>absurd h (by decide)) (λ h=>absurd h (by decide)) (λ h=>absurd h (by decide)) (λ h=>absurd h (by decide)) Y) (λ sl hsl K hK=>av Z (b8 [] [101000] 104000 104001 (rL _ r1 r5 _ e8) Z Z Z (aO (hsl _ _ Z) (aO (hsl _ _ Z) bA)) Z ⟨sr,sr,trivial⟩ Z Z trivial Z Z Z Z Z Z Z Z Tryz.call58 Z Z hK)) ?_)
 refine g5 (λ _=>.p (eL eS r9)) [(6,_),(14,_)] Z ⟨.inr ⟨1,_,Z,Z,Z⟩,.inr ⟨9,_,Z,Z,Z⟩,trivial⟩ Z Z Y (lt5 (λ h=>absurd h (by decide)) (λ h=>absurd h (by decide)) (λ h=>absurd h (by decide)) (λ h=>absurd h (by decide)) (λ h=>absurd h (by decide))) (λ sl hsl K hK=>av Z (b8 [] [104000] 105000 105000 (pV _ g_0.fNodes r7 _ e10) Z Z Z (aO (hsl _ _ Z) (aO (hsl _ _ Z) bA)) Z ⟨sr,sr,trivial⟩ Z Z trivial Z Z Z Z Z Z Z Z Tryz.call57 Z Z hK)) (dPc (.p (eL eS r9)) Z ?_)
 refine iS (nx 2 Z ?_)
 exact mQ (oi h0) Z (sr)
end Go.Ab.R06
end
