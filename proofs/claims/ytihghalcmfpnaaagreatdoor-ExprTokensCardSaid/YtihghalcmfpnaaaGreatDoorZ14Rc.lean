/- Texts of the proof, one behind the other. No statement is proved here. -/
import Derived.Lib.AppendZeros
import Derived.Lib.OthersKept
import Derived.Defers
import Derived.Lib.MapLaws
import Derived.Lib.ValidLaws
import Derived.Test.YtihghalcmfpnaaaGreatDoorZ14Ra
import Derived.Test.YtihghalcmfpnaaaGreatDoorZ14Rb
set_option maxHeartbeats 4000000
section
namespace Go.Ab
open Go.MapKept
/- As 'dem',for identities of any size; what is known of maps of rows is given up. -/
mutual
def AV.dm2 (D:Nat→Bool):AV→AV
 | .undef=>.undef
 | .p x=>.p x
 | .agg cs=>.agg (zr D cs)
 | .vec tok sz ty es=>bif D tok then .p (.slice es) else .vec tok sz ty es
 | .arr id sz off n=>bif D id then .undef else .arr id sz off n
 | .ptr id off=>bif D id then .undef else .ptr id off
 | .bptr T sz id=>bif D id then .undef else .bptr T sz id
 | .rptr cs=>.rptr cs
 | .tuple cs=>.tuple (zr D cs)
 | .func f cs=>.func f (zr D cs)
 | .mp tok kvs=>bif D tok then .undef else .mp tok kvs
 | .mpr ..=>.undef
 | .stk tok sz es=>bif D tok then .undef else .stk tok sz es
 | .sem _=>.undef
 | .it ..=>.undef
 | .vecp ..=>.undef
 | .elp ..=>.undef
def zr (D:Nat→Bool):List AV→List AV
 | []=>[]
 | x::r=>x.dm2 D::zr D r
end
theorem qy (D:Nat→Bool):∀ l,zr D l=l.map (AV.dm2 D)
 | []=>rfl
 | x::r=>by simp [zr,qy D r]
theorem ARep.dm2 {D:Nat→Bool}{w w':World}{g g':Gh}(ev:Ev w g.st w' g'.st)(ow:∀ id b,D id=false→g.ow id=some b→g'.ow id=some b)
  (shape:∀ id b c e,D id=false→g.ow id=some b→w.heap[b]? = some (.cells c e (0,0))→∃ c':Array Value,w'.heap[b]? = some (.cells c' e (0,0))∧c'.size=c.size)
  (tip:∀ id b o,D id=false→g.ow id=some b→g'.st b o→g.st b o)
  (mp:∀ id b es k,D id=false→g.ow id=some b→w.heap[b]? = some (.map es k)→w'.heap[b]? = some (.map es k))
  (stab:∀ id b o,D id=false→g.ow id=some b→g.st b o→w'.heap[b]? = w.heap[b]?) {x:AV} {v:Value} (h:ARep w g x v):ARep w' g' (x.dm2 D) v:=by
 induction h with
 | undef v=>simp only [AV.dm2]; exact .undef _
 | p h=>simp only [AV.dm2]; exact .p (h.mono ev)
 | agg hl h ih =>
  simp only [AV.dm2,qy]
  refine .agg (by simpa using hl) λ i c v h1 h2=>?_
  simp only [List.getElem?_map,Option.map_eq_some_iff] at h1
  obtain ⟨c0,h1,rfl⟩:=h1
  exact ih i c0 v h1 h2
 | vecn tok sz ty =>
  simp only [AV.dm2]
  cases D tok
  ·exact .vecn _ _ _
  ·exact .p .nils
 | vece tok sz a =>
  simp only [AV.dm2]
  cases D tok
  ·exact .vece _ _ _
  ·exact .p (.nile a)
 | vec how hb hcs hsz hst hr hty =>
  simp only [AV.dm2]
  cases hD:D _
  ·obtain ⟨c',hb',hs'⟩:=shape _ _ _ _ hD how hb
   exact .vec (ow _ _ hD how) hb' (hs'.trans hcs) hsz (λ o=>⟨λ h=>(hst o).1 (tip _ _ o hD how h),λ h=>(ev _ _ ((hst o).2 h)).1⟩) (hr.mono ev) hty
  ·exact .p (hr.mono ev)
 | arr how hb hcs hn =>
  simp only [AV.dm2]
  cases hD:D _
  ·obtain ⟨c',hb',hs'⟩:=shape _ _ _ _ hD how hb
   exact .arr (ow _ _ hD how) hb' (hs'.trans hcs) hn
  ·exact .undef _
 | ptr how =>
  simp only [AV.dm2]
  cases hD:D _
  ·exact .ptr (ow _ _ hD how)
  ·exact .undef _
 | bptrn how hb hcs =>
  simp only [AV.dm2]
  cases hD:D _
  ·obtain ⟨c',hb',hs'⟩:=shape _ _ _ _ hD how hb
   exact .bptrn (ow _ _ hD how) hb' (hs'.trans hcs)
  ·exact .undef _
 | bptr how hb hcs =>
  simp only [AV.dm2]
  cases hD:D _
  ·obtain ⟨c',hb',hs'⟩:=shape _ _ _ _ hD how hb
   exact .bptr (ow _ _ hD how) hb' (hs'.trans hcs)
  ·exact .undef _
 | rptr cf hc hr =>
  simp only [AV.dm2]
  exact .rptr cf (λ j c h=>⟨(ev _ _ (hc j c h).1).1,(ev _ _ (hc j c h).1).2.trans (hc j c h).2⟩) (λ j c h=>(hr j c h).mono ev)
 | tuple hl h ih =>
  simp only [AV.dm2,qy]
  refine .tuple (by simpa using hl) λ i c v h1 h2=>?_
  simp only [List.getElem?_map,Option.map_eq_some_iff] at h1
  obtain ⟨c0,h1,rfl⟩:=h1
  exact ih i c0 v h1 h2
 | func hl h ih =>
  simp only [AV.dm2,qy]
  refine .func (by simpa using hl) λ i c v h1 h2=>?_
  simp only [List.getElem?_map,Option.map_eq_some_iff] at h1
  obtain ⟨c0,h1,rfl⟩:=h1
  exact ih i c0 v h1 h2
 | mp how hb hn hd hk hv =>
  simp only [AV.dm2]
  cases hD:D _
  ·exact .mp (ow _ _ hD how) (mp _ _ _ _ hD how hb) hn hd hk (λ i e kv h1 h2=>(hv i e kv h1 h2).mono ev)
  ·exact .undef _
 | mpr=>simp only [AV.dm2]; exact .undef _
 | stkn tok sz =>
  simp only [AV.dm2]
  cases D tok
  ·exact .stkn _ _
  ·exact .undef _
 | stke tok sz a =>
  simp only [AV.dm2]
  cases D tok
  ·exact .stke _ _ _
  ·exact .undef _
 | stk how hb hcs hlen hsz hone hst hr =>
  simp only [AV.dm2]
  cases hD:D _
  ·exact .stk (ow _ _ hD how) ((stab _ _ _ hD how ((hst _).2 rfl)).trans hb) hcs hlen hsz hone (λ o=>⟨λ h=>(hst o).1 (tip _ _ o hD how h),λ h=>(ev _ _ ((hst o).2 h)).1⟩) (λ i x j p h1 h2=>by obtain ⟨v,h3,h4⟩:=hr i x j p h1 h2; exact ⟨v,h3,h4.mono ev⟩)
  ·exact .undef _
 | sem=>simp only [AV.dm2]; exact .undef _
 | it=>simp only [AV.dm2]; exact .undef _
 | vecp=>simp only [AV.dm2]; exact .undef _
 | elp=>simp only [AV.dm2]; exact .undef _
def Gj (e t:Nat)(i:Nat):Bool:=Nat.beq i e||Nat.beq i t||Nat.ble MZ i
def tkA (tok e:Nat)(y x:AV):AV:=match x with
 | .mpr t _ _ _ _=>bif Nat.beq t tok then y else .undef
 | x=>x.dm2 (Gj e tok)
def tkS (tok e:Nat)(y:AV):List (Nat×AV)→Option (List (Nat×AV))
 | []=>some []
 | (i,x)::r=>(match frc (tkA tok e y x) with
  | some z=>(match tkS tok e y r with | some l=>some ((i,z)::l) | none=>none)
  | none=>none)
section
variable {C:Cx} {o:Oper} {K:AS→Prop} {sl:List (Nat×AV)} {ob:List (Nat×List AV)} {d:Nat}
end
end Go.Ab
end
section
namespace Go.Ab
section
variable {C:Cx} {o:Oper} {K:AS→Prop} {sl:List (Nat×AV)} {ob:List (Nat×List AV)} {d:Nat}
end
theorem Eb (D:Nat→Bool):∀ (l:List PV),dmC D (l.map .p)=some (l.map .p)
 | []=>rfl
 | x::r=>by
  have h:=Eb D r
  simp only [List.map_cons,dmC,AV.dem,h]
  first | rfl | (simp [frc])
theorem tI {D:Nat→Bool}{i:Nat}{l:List PV}{r r':List (Nat×List AV)}(h:D i=false)(hr:dmO D r=some r'):dmO D ((i,l.map .p)::r)=some ((i,l.map .p)::r'):=by
 simp only [dmO,h,Eb,hr]
theorem rx {D:Nat→Bool}{i:Nat}{cs:List AV}{r r':List (Nat×List AV)}(h:D i=true)(hr:dmO D r=some r'):dmO D ((i,cs)::r)=some r':=by
 simp only [dmO,h,hr]
theorem tX {D:Nat→Bool}{i:Nat}{cs ds:List AV}{r r':List (Nat×List AV)}(h:D i=false)(hc:dmC D cs=some ds)(hr:dmO D r=some r'):dmO D ((i,cs)::r)=some ((i,ds)::r'):=by
 simp only [dmO,h,hc,hr]
section
variable {C:Cx} {o:Oper} {K:AS→Prop} {sl:List (Nat×AV)} {ob:List (Nat×List AV)} {d:Nat}
end
end Go.Ab
end
section
namespace Go.Ab
section
variable {C:Cx} {o:Oper} {K:AS→Prop} {sl:List (Nat×AV)} {ob:List (Nat×List AV)} {d:Nat}
end
end Go.Ab
end
section
namespace Go.Ab
@[irreducible] def qj (n:Nat):List UInt8:=List.replicate n 0
section
variable {C:Cx} {o:Oper} {K:AS→Prop} {sl:List (Nat×AV)} {ob:List (Nat×List AV)} {d:Nat}
theorem ss {α:Type} [Inhabited α] (f:α→PV)(l:List α){t m e:Nat}{x y:Operand}{i ie:TI}{k:IntKind}{n:Int}(ho:o.op=.index t x y)(hd:o.dst=some d)(hn:Nat.blt d C.n=true)
  (hi:look C.tt t=some i) (hik:i.k=.array m e) (hie:look C.tt e=some ie) (hia:ie.k.isAgg=false) (hs1:ie.size=1) (hm:Nat.beq m l.length=true) (hx:evo sl x=some (.p (.agg (l.map f))))
  (hy:evo sl y=some (.p (.val (.int k n)))) (hb:0≤n∧n < (l.length:Int)) (hK:K ⟨(d,.p (f (lat l n)))::sl,ob⟩):bn C o K ⟨sl,ob⟩:=by
 obtain ⟨u,h1,h2⟩:=cw C.good hi
 have h3:=nM (h2.trans hik)
 subst h3
 have hm':=Nat.eq_of_beq_eq_true hm
 refine ok_one hd hn (λ g a w hs=>?_) hK
 have h5:=b7 hs hx
 generalize hv:a.eval x=v at h5
 cases h5 with
 | p h5 =>
  cases h5 with
  | agg hl hh =>
   rename_i vs
   have hlt:n.toNat < l.length:=by omega
   have hlt2:n.toNat < vs.size:=by rw [hl]; simpa using hlt
   have hnm:n < (m:Int):=by omega
   refine ⟨vs[n.toNat],by simp [execOp,ho,hv,cm hs hy,Instr.index,asIntOf,run_underlying h1,hb.1,hnm,run_sizeOf C.good hie,hs1,part,kQ C.good hie,hia,hlt2],.p (hh n.toNat (f (lat l n)) _ ?_ (Array.getElem?_eq_getElem hlt2))⟩
   simp [lat,List.getElem?_map,List.getElem?_eq_getElem hlt,List.getD_eq_getElem?_getD]
theorem aX {t:TypeId}{x:Operand}{i:TI}{id k:Nat}{cs:List AV}{y:AV}(ho:o.op=.load t x)(hd:o.dst=some d)(hn:Nat.blt d C.n=true)
  (hi:look C.tt t=some i) (hia:i.k.isAgg=false) (hx:evo sl x=some (.ptr id k)) (hob:look ob id=some cs) (hy:cs[k]? = some y) (hK:K ⟨(d,y)::sl,ob⟩):bn C o K ⟨sl,ob⟩ :=
 pG ho hd hn hi hia hx hob hy hK
theorem yB {t:TypeId}{x:Operand}{i:TI}{id k:Nat}{cs:List AV}{y:AV}(ho:o.op=.load t x)(hd:o.dst=some d)(hn:Nat.blt d C.n=true)
  (hi:look C.tt t=some i) (hia:i.k.isAgg=true) (hx:evo sl x=some (.ptr id k)) (hob:look ob id=some cs) (hl:Nat.ble (k+i.size) cs.length=true) (hy:jZ ((cs.drop k).take i.size)=y)
  (hK:K ⟨(d,y)::sl,ob⟩):bn C o K ⟨sl,ob⟩:=mY ho hd hn hi hia hx hob hl (congrArg some hy) hK
theorem eh {t:TypeId}{x v:Operand}{i:TI}{id k:Nat}{cs xs ds:List AV}{y:AV}(ho:o.op=.store t x v)(hd:o.dst=none)
  (hi:look C.tt t=some i) (hx:evo sl x=some (.ptr id k)) (hv:evo sl v=some y) (hc:y.cellsA=some xs) (hsz:Nat.beq xs.length i.size=true) (hob:look ob id=some cs) (hl:k+xs.length≤cs.length) (hu:kC cs k xs=ds)
  (hK:K ⟨sl,(id,ds)::ob⟩):bn C o K ⟨sl,ob⟩:=by
 subst hu
 exact lg ho hd hi hx hv hc (Nat.eq_of_beq_eq_true hsz) hob hl hK
theorem tf {α:Type}(f:α→PV)(hf:∀ x,(f x).one=true):∀ l:List α,AV.onesB ((l.map f).map .p)=true
 | []=>rfl
 | x::r=>by simp only [List.map_cons,AV.onesB,AV.one,hf x,tf f hf r,Bool.and_self]
theorem sU {α:Type}(f:α→PV)(l:List α){t:TypeId}{i:TI}{sl':List (Nat×AV)}{ob':List (Nat×List AV)}(hf:∀ x,(f x).one=true)(ho:o.op=.alloc t)(hd:o.dst=some d)(hn:Nat.blt d C.n=true)
  (hi:look C.tt t=some i) (hz:ek i=(l.map f).map .p) (h1:dmS (λ i=>Nat.beq i d) sl=some sl') (h2:dmO (λ i=>Nat.beq i d) ob=some ob') (hK:K ⟨(d,.ptr d 0)::sl',(d,(l.map f).map .p)::ob'⟩):bn C o K ⟨sl,ob⟩:=by
 refine gJ ho hd hn hi ?_ ?_
 ·rw [hz]; simp only [AV.cellsA,tf f hf l,cond_true]
 ·rw [hz,kA]
  have e1:(cX (λ i=>Nat.beq i d) ⟨sl,ob⟩).sl=sl':=(pg h1).symm
  have e2:(cX (λ i=>Nat.beq i d) ⟨sl,ob⟩).ob=ob':=(nH h2).symm
  rw [e1,e2]; exact hK
theorem CE (cs:List PV){t:TypeId}{v:Operand}{sl':List (Nat×AV)}{ob':List (Nat×List AV)}(ho:o.op=.box t v)(hd:o.dst=some d)(hn:Nat.blt d C.n=true)(hx:evo sl v=some (.p (.agg cs)))(h0:PV.onesB cs=true)
  (h1:dmS (λ i=>Nat.beq i d) sl=some sl') (h2:dmO (λ i=>Nat.beq i d) ob=some ob') (hK:K ⟨(d,.ptr d 0)::sl',(d,cs.map .p)::ob'⟩):bn C o K ⟨sl,ob⟩:=by
 refine wH ho hd hn hx (cs:=cs.map .p) (by simp only [AV.cellsA,h0,cond_true]) ?_
 rw [kA]
 have e1:(cX (λ i=>Nat.beq i d) ⟨sl,ob⟩).sl=sl':=(pg h1).symm
 have e2:(cX (λ i=>Nat.beq i d) ⟨sl,ob⟩).ob=ob':=(nH h2).symm
 rw [e1,e2]; exact hK
theorem yN {α:Type}(f:α→PV)(l:List α){t:TypeId}{x:Operand}{i:TI}{id:Nat}(ho:o.op=.load t x)(hd:o.dst=some d)(hn:Nat.blt d C.n=true)
  (hi:look C.tt t=some i) (hia:i.k.isAgg=true) (hx:evo sl x=some (.ptr id 0)) (hob:look ob id=some ((l.map f).map .p)) (hl:Nat.beq i.size l.length=true)
  (hK:K ⟨(d,.p (.agg (l.map f)))::sl,ob⟩):bn C o K ⟨sl,ob⟩:=by
 have hl':=Nat.eq_of_beq_eq_true hl
 refine mY ho hd hn hi hia hx hob (by simp [hl']) (y:=.p (.agg (l.map f))) (congrArg some ?_) hK
 have e:(((l.map f).map AV.p).drop 0).take i.size=(l.map f).map AV.p:=by
  rw [List.drop_zero,hl']; exact List.take_of_length_le G
 rw [e]
 have ha:∀ q:List PV,um (q.map .p)=some q:=by
  intro q
  induction q with
  | nil=>rfl
  | cons x r ih=>simp only [List.map_cons,um,ih]
 simp only [jZ,ha]
theorem ra:∀ q:List PV,um (q.map .p)=some q
 | []=>rfl
 | x::r=>by simp only [List.map_cons,um,ra r]
theorem C7 {α:Type}(f:α→PV)(l:List α){tt:List (Nat×TI)}{rs:List ResultVar}{s:AS}{c id:Nat}{t:TypeId}{i:TI}(hr:rs=[.cell c t])(hc:look s.sl c=some (.ptr id 0))(hob:look s.ob id=some ((l.map f).map .p))(hi:look tt t=some i)(hia:i.k.isAgg=true)
  (hl:Nat.beq i.size l.length=true):ke tt rs s=some [.p (.agg (l.map f))]:=by
 have hl':=Nat.eq_of_beq_eq_true hl
 subst hr
 have e:(((l.map f).map AV.p).drop 0).take i.size=(l.map f).map AV.p:=by
  rw [List.drop_zero,hl']; exact List.take_of_length_le G
 have e2:Nat.ble (0+i.size) ((l.map f).map AV.p).length=true:=by simp [hl']
 simp only [ke,hc,hob,hi,hia,cond_true,e,e2,jZ,ra]
theorem ws {α:Type}(f:α→PV)(l l2:List α){t:TypeId}{x v:Operand}{i:TI}{id:Nat}(ho:o.op=.store t x v)(hd:o.dst=none)
  (hi:look C.tt t=some i) (hx:evo sl x=some (.ptr id 0)) (hv:evo sl v=some (.p (.agg (l2.map f)))) (hob:look ob id=some ((l.map f).map .p)) (hf:∀ x,(f x).one=true) (hl:Nat.beq i.size l.length=true) (hl2:Nat.beq i.size l2.length=true)
  (hK:K ⟨sl,(id,(l2.map f).map .p)::ob⟩):bn C o K ⟨sl,ob⟩:=by
 have e1:=Nat.eq_of_beq_eq_true hl
 have e2:=Nat.eq_of_beq_eq_true hl2
 have ho1:∀ q:List α,PV.onesB (q.map f)=true:=by
  intro q
  induction q with
  | nil=>rfl
  | cons x r ih=>simp only [List.map_cons,PV.onesB,hf x,ih,Bool.and_self]
 refine eh (xs:=(l2.map f).map .p) ho hd hi hx hv (by simp only [AV.cellsA,ho1 l2,cond_true]) (by simp [e2]) hob (by simp; omega) ?_ hK
 unfold kC
 split
 ·rename_i y hy
  have h3:=congrArg List.length hy
  simp only [List.length_map,List.length_cons,List.length_nil] at h3
  rw [hy]
  match l,e1 with
  | [z],_=>rfl
  | [],e1=>simp at e1; omega
  | _::_::_,e1=>simp at e1; omega
 ·rw [List.take_zero,List.nil_append,List.drop_eq_nil_of_le (by simp; omega),List.append_nil]
theorem BN {t:TypeId}{x:Operand}{s:List UInt8}{i:TI}{sl':List (Nat×AV)}{ob':List (Nat×List AV)}(ho:o.op=.range t x)(hd:o.dst=some d)(hn:Nat.blt d C.n=true)
  (hi:look C.tt t=some i) (hik:i.k=.string) (hx:evo sl x=some (.p (.val (.string ⟨s.toArray⟩)))) (h1:dmS (Nat.beq · d) sl=some sl') (h2:dmO (Nat.beq · d) ob=some ob')
  (hK:K ⟨(d,.it d s 0)::sl',ob'⟩):bn C o K ⟨sl,ob⟩:=by
 obtain ⟨u,hu1,hu2⟩:=cw C.good hi
 have h3:=gK (hu2.trans hik)
 subst h3
 intro g a w hs
 have hdl:d < M1:=by have h1:=Nat.le_of_ble_eq_true C.nl; have h2:d < C.n:=Nat.blt_eq ▸ hn; omega
 unfold Oper.wp
 have hrun:(execOp a.eval o).run C.P w=.ok (.value (.pointer (some ⟨w.heap.size,0,none⟩))) (w.alloc (.stringIter ⟨s.toArray⟩ 0)):=by
  simp [execOp,ho,Instr.range,cm hs hx,run_underlying hu1,newObj,Sem.run,Result.andThen]
 rw [hrun]
 obtain ⟨g',hg'⟩:∃ g':Gh,g'=⟨λ b o=>g.st b o∨(b=w.heap.size∧o=0),λ i=>if i=d then some w.heap.size else g.ow i⟩:=⟨_,rfl⟩
 have hsz:(w.alloc (.stringIter ⟨s.toArray⟩ 0)).heap.size=w.heap.size+1:=by simp
 have hev:Ev w g.st (w.alloc (.stringIter ⟨s.toArray⟩ 0)) g'.st:=λ b o h=>⟨by rw [hg']; exact .inl h,World.cell?_alloc_lt w _ _ (hs.lt b o h)⟩
 have hs':St C.n C.w0 C.F g' (cX (Nat.beq · d) ⟨sl,ob⟩) a (w.alloc (.stringIter ⟨s.toArray⟩ 0)):=by
  subst hg'
  refine hs.evolve (Nat.beq · d) (Ak hdl) hev (λ id b hD h=>?_) (λ i j b hi hj=>?_) (λ i b hi=>?_) (λ b o h=>?_) (λ b hb=>?_) Z Z Z O (λ b hb o=>?_) (λ i hi=>?_)
  ·have hne:id≠d:=λ e=>by subst e; simp at hD
   have hlt:=(hs.own id b h).1
   exact ⟨by simp only [if_neg hne]; exact h,de hlt,λ o h=>h.resolve_right λ e=>by omega⟩
  ·dsimp only at hi hj
   by_cases e1:i=d <;> by_cases e2:j=d
   ·omega
   ·rw [if_pos e1] at hi; rw [if_neg e2] at hj; cases hi; have:=(hs.own j _ hj).1; omega
   ·rw [if_neg e1] at hi; rw [if_pos e2] at hj; cases hj; have:=(hs.own i _ hi).1; omega
   ·rw [if_neg e1] at hi; rw [if_neg e2] at hj; exact hs.inj i j b hi hj
  ·dsimp only at hi
   by_cases e1:i=d
   ·rw [if_pos e1] at hi; cases hi
    exact ⟨by omega,λ hF=>by have:=hs.fl _ hF; have:=hs.size; omega⟩
   ·rw [if_neg e1] at hi; have:=hs.own i b hi; exact ⟨by omega,this.2⟩
  ·rcases h with h | h
   ·have:=hs.lt b o h; omega
   ·omega
  ·exact de (by have:=hs.fl b hb; have:=hs.size; omega)
  ·have h1:=hs.fl b hb
   have h2:=hs.size
   exact ⟨λ h=>h.resolve_right λ e=>by omega,.inl⟩
  ·dsimp only
   rw [if_neg O]
 refine ⟨g',⟨(d,.it d s 0)::sl',ob'⟩,?_,hK⟩
 have hp:=hs'.put (d:=o.dst) (λ t ht=>by rw [hd] at ht; cases ht; exact Nat.blt_eq ▸ hn) (x:=.it d s 0) (v:=.pointer (some ⟨w.heap.size,0,none⟩))
  (.it (by rw [hg']; simp) gp (by rw [hg']; exact .inr ⟨Z,Z⟩))
 rw [hd] at hp ⊢
 rw [pg h1,nH h2]
 exact hp
theorem vq {n:Nat}{w0:Base}{w:World}{F:Nat→Prop}{g:Gh}{s:AS}{a:Act}(_hs:St n w0 F g s a w){tok pos:Nat}{l:List UInt8}{v:Value}(h:ARep w g (.it tok l pos) v) :
  ∃ b,v=.pointer (some ⟨b,0,none⟩)∧g.ow tok=some b∧w.heap[b]? = some (.stringIter ⟨l.toArray⟩ pos)∧g.st b 0:=by
 cases h with
 | it how hb hm=>exact ⟨_,Z,how,hb,hm⟩
theorem BA {x:Operand}{s:List UInt8}{tok pos:Nat}(ho:o.op=.next x true)(hd:o.dst=some d)(hn:Nat.blt d C.n=true)
  (hx:evo sl x=some (.it tok s pos)) (hp:¬ pos < s.length) (hK:K ⟨(d,.tuple [.p (eB false)])::sl,ob⟩):bn C o K ⟨sl,ob⟩:=by
 refine ok_one hd hn (λ g a w hs=>?_) hK
 obtain ⟨b,hv,_,hb,_⟩:=vq hs (b7 hs hx)
 refine ⟨.tuple #[.bool false],?_,.tuple Z λ i c v h1 h2=>?_⟩
 ·have hsz:¬ pos < (⟨s.toArray⟩:ByteArray).size:=by simpa [ByteArray.size] using hp
  have:=Go.Lib.run_next_end_at (P:=C.P) w b ⟨s.toArray⟩ pos o.type hb hsz
  simp [execOp,ho,hv,this]
 ·match i,h1,h2 with
  | 0,h1,h2=>simp at h1 h2; subst h1 h2; exact .p (.val _)
theorem BD {j:Nat}{s:List UInt8}{tok pos:Nat}{sl':List (Nat×AV)}{ob':List (Nat×List AV)}(ho:o.op=.next (.tmp j) true)(hd:o.dst=some d)(hn:Nat.blt d C.n=true)(hj:Nat.blt j C.n=true)
  (hx:evo sl (.tmp j)=some (.it tok s pos)) (htok:Nat.blt tok M1=true) (hp:pos < s.length) (ha:(s.getD pos 0).toNat < 128) (h1:dmS (Nat.beq · tok) sl=some sl') (h2:dmO (Nat.beq · tok) ob=some ob')
  (hdj:Nat.beq d j=false) (hK:K ⟨(d,.tuple [.p (eB true),.p (eI (pos:Int)),.p (eK .i32 ((s.getD pos 0).toNat:Int))])::(j,.it tok s (pos+1))::sl',ob'⟩):bn C o K ⟨sl,ob⟩:=by
 intro g a w hs
 obtain ⟨b,hv,how,hb,hm⟩:=vq hs (b7 hs hx)
 have htl:tok < M1:=Nat.blt_eq ▸ htok
 have hbl:=(hs.own tok b how).1
 unfold Oper.wp
 have hsz:pos < (⟨s.toArray⟩:ByteArray).size:=by simpa [ByteArray.size] using hp
 have hg0:(⟨s.toArray⟩:ByteArray)[pos]'hsz=s.getD pos 0:=by
  rw [List.getD_eq_getElem?_getD,List.getElem?_eq_getElem hp]; rfl
 have hnx:=Go.Lib.run_next_ascii_at (P:=C.P) w b ⟨s.toArray⟩ pos o.type hb hsz (by rw [hg0]; exact ha)
 rw [hg0] at hnx
 have hrun:(execOp a.eval o).run C.P w=.ok (.value (.tuple #[.bool true,.int .i64 pos,.int .i32 (s.getD pos 0).toNat])) (w.iterAt b ⟨s.toArray⟩ (pos+1)):=by
  simp [execOp,ho,hv,hnx]
 rw [hrun]
 have hheap:∀ b',b'≠b→(w.iterAt b ⟨s.toArray⟩ (pos+1)).heap[b']? = w.heap[b']?:=λ b' hne=>by
  simp only [World.iterAt,Array.getElem?_setIfInBounds]
  rw [if_neg O]
 have hheapb:=Go.Lib.iterAt_heap w b ⟨s.toArray⟩ pos (pos+1) hb
 have hwsz:(w.iterAt b ⟨s.toArray⟩ (pos+1)).heap.size=w.heap.size:=by simp [World.iterAt]
 have hcell:∀ b' o',(w.iterAt b ⟨s.toArray⟩ (pos+1)).cell? ⟨b',o',none⟩=w.cell? ⟨b',o',none⟩:=λ b' o'=>by
  by_cases e:b'=b
  ·subst e
   simp only [World.cell?,hheapb,hb]
  ·simp only [World.cell?,hheap b' e]
 have hs':St C.n C.w0 C.F g (cX (Nat.beq · tok) ⟨sl,ob⟩) a (w.iterAt b ⟨s.toArray⟩ (pos+1)):=by
  refine hs.evolve (Nat.beq · tok) (Ak htl) (λ b' o' h=>⟨h,hcell b' o'⟩) (λ id b' hD h=>⟨h,hheap b' λ e=>?_,λ o h=>h⟩) hs.inj (λ i b' h=>by rw [hwsz]; exact hs.own i b' h) (λ b' o' h=>by rw [hwsz]; exact hs.lt b' o' h) (λ b' hb'=>hheap b' λ e=>?_) Z Z Z O (λ b' _ o'=>Iff.rfl) (λ i _=>rfl)
  ·subst e
   have:=hs.inj id tok b' h how
   subst this
   simp at hD
  ·subst e
   exact (hs.own tok b' how).2 hb'
 have hjd:j < C.n:=Nat.blt_eq ▸ hj
 refine ⟨g,⟨(d,.tuple [.p (eB true),.p (eI (pos:Int)),.p (eK .i32 ((s.getD pos 0).toNat:Int))])::(j,.it tok s (pos+1))::sl',ob'⟩,?_,hK⟩
 have hs2:St C.n C.w0 C.F g ⟨(j,.it tok s (pos+1))::sl',ob'⟩ a (w.iterAt b ⟨s.toArray⟩ (pos+1)):=by
  rw [pg h1,nH h2]
  refine { hs' with sl:=λ i=>?_ }
  simp only [AS.get,ba]
  by_cases e:j=i
  ·subst e
   rw [if_pos rfl]
   simp only [Option.getD_some]
   have:a.eval (.tmp j)=a.tmps.getD j Go.undef:=rfl
   rw [← this,hv]
   exact .it how hheapb hm
  ·rw [if_neg e]
   exact hs'.sl i
 have hp2:=hs2.put (d:=o.dst) (λ t ht=>by rw [hd] at ht; cases ht; exact Nat.blt_eq ▸ hn) (x:=.tuple [.p (eB true),.p (eI (pos:Int)),.p (eK .i32 ((s.getD pos 0).toNat:Int))]) (v:=.tuple #[.bool true,.int .i64 pos,.int .i32 (s.getD pos 0).toNat])
  (.tuple Z λ i c v h1 h2=>by
   match i,h1,h2 with
   | 0,h1,h2=>simp at h1 h2; subst h1 h2; exact .p (.val _)
   | 1,h1,h2=>simp at h1 h2; subst h1 h2; exact .p (.val _)
   | 2,h1,h2=>simp at h1 h2; subst h1 h2; exact .p (.val _))
 rw [hd] at hp2 ⊢
 exact hp2
end
end Go.Ab
end
section
namespace Go.Ab
def gU:List UInt8:=[0,0,0,0,0,0,0,0,0,1,6,0,0,1,0,0,0,0,0,0,0,0,0,0,0,0,0,0,0,0,0,0,1,4,5,7,0,4,4,0,4,4,4,4,4,4,4,4,3,3,3,3,3,3,3,3,3,3,4,0,4,4,4,4,0,2,2,2,2,2,2,2,2,2,2,2,2,2,2,2,2,2,2,2,2,2,2,2,2,2,2,4,0,4,0,2,0,2,2,2,2,2,2,2,2,2,2,2,2,2,2,2,2,2,2,2,2,2,2,2,2,2,2,4,4,4,0,0,0,0,0,0,0,0,0,0,0,0,0,0,0,0,0,0,0,0,0,0,0,0,0,0,0,0,0,0,0,0,0,0,0,0,0,0,0,0,0,0,0,0,0,0,0,0,0,0,0,0,0,0,0,0,0,0,0,0,0,0,0,0,0,0,0,0,0,0,0,0,0,0,0,0,0,0,0,0,0,0,0,0,0,0,0,0,0,0,0,0,0,0,0,0,0,0,0,0,0,0,0,0,0,0,0,0,0,0,0,0,0,0,0,0,0,0,0,0,0,0,0,0,0,0,0,0,0,0]
theorem uP:gU.length=256:=by kernel_rfl
def AU:List PV:=gU.map eU
theorem kb:AU.length=256:=by rw [AU,List.length_map,uP]
structure aa where
 fs:Bytes
 fat:Int
 fouter:Int
 fbad:ax
 deriving Inhabited
def aa.cs (x:aa):List PV:=eS x.fs::eI x.fat::(AU++[eI x.fouter,eI x.fbad.fKind,eI x.fbad.fAt,eS x.fbad.fName])
theorem aa.len (x:aa):((aa.cs x).map AV.p).length=262:=by simp [aa.cs,kb]
theorem aa.g_s (x:aa):((aa.cs x).map AV.p)[0]? = some (.p (eS x.fs)):=rfl
theorem aa.g_at (x:aa):((aa.cs x).map AV.p)[1]? = some (.p (eI x.fat)):=rfl
theorem aa.g_outer (x:aa):((aa.cs x).map AV.p)[2+256]? = some (.p (eI x.fouter)):=by
 simp only [aa.cs,List.map_cons,List.map_append,List.getElem?_cons_succ]
 rw [List.getElem?_append_right (by simp [kb])]
 simp [kb]
theorem aa.g_class (x:aa){n:Int}(h:0≤n∧n < 256):((aa.cs x).map AV.p)[2+n.toNat*1]? = some (.p (eU (lat gU n))):=by
 have hn:n.toNat < 256:=by omega
 have e:2+n.toNat*1=n.toNat+1+1:=by omega
 rw [e]
 simp only [aa.cs,List.map_cons,List.map_append,List.getElem?_cons_succ]
 rw [List.getElem?_append_left (by simp [kb]; omega)]
 simp [AU,lat,List.getElem?_map,List.getElem?_eq_getElem (show n.toNat < gU.length by rw [uP]; exact hn)]
def aa.hd (x:aa):List AV:=(eS x.fs::eI x.fat::(AU++[eI x.fouter])).map .p
theorem aa.hd_len (x:aa):x.hd.length=259:=by simp [aa.hd,kb]
theorem aa.cs_hd (x:aa):(aa.cs x).map AV.p=x.hd++(ax.cs x.fbad).map .p:=by
 simp [aa.cs,aa.hd,ax.cs]
theorem aa.l_bad (x:aa):Nat.ble (2+256+1+3) ((aa.cs x).map AV.p).length=true:=by rw [aa.len]; rfl
theorem aa.g_bad (x:aa):jZ ((((aa.cs x).map AV.p).drop (2+256+1)).take 3)=.p (.agg (ax.cs x.fbad)):=by
 rw [aa.cs_hd,List.drop_append_of_le_length (by rw [aa.hd_len]; decide),List.drop_eq_nil_of_le (by rw [aa.hd_len]; decide)]
 rfl
theorem aa.b_at (x:aa):1+1≤((aa.cs x).map AV.p).length:=by rw [aa.len]; decide
theorem aa.b_outer (x:aa):2+256+1≤((aa.cs x).map AV.p).length:=by rw [aa.len]; decide
theorem aa.b_bad (x:aa):2+256+1+3≤((aa.cs x).map AV.p).length:=by rw [aa.len]; decide
theorem aa.u_at (x:aa){v:Int}:kC ((aa.cs x).map AV.p) 1 [.p (eI v)]=(aa.cs (.mk x.fs v x.fouter x.fbad)).map .p:=by
 simp only [kC,aa.cs,List.map_cons,List.set_cons_succ,List.set_cons_zero]
theorem aa.u_outer (x:aa){v:Int}:kC ((aa.cs x).map AV.p) (2+256) [.p (eI v)]=(aa.cs (.mk x.fs x.fat v x.fbad)).map .p:=by
 simp only [kC,aa.cs,List.map_cons,List.map_append,List.set_cons_succ]
 rw [List.set_append_right _ _ (by simp [kb])]
 simp [kb]
theorem aa.u_bad (x:aa){k a:Int}{n:Bytes}:kC ((aa.cs x).map AV.p) (2+256+1) [.p (eI k),.p (eI a),.p (eS n)]=(aa.cs (.mk x.fs x.fat x.fouter (.mk k a n))).map .p:=by
 have e:kC ((aa.cs x).map AV.p) 259 [.p (eI k),.p (eI a),.p (eS n)]=((aa.cs x).map AV.p).take 259++(ax.cs (.mk k a n)).map .p++((aa.cs x).map AV.p).drop (259+3):=rfl
 show kC ((aa.cs x).map AV.p) 259 [.p (eI k),.p (eI a),.p (eS n)]=_
 rw [e,aa.cs_hd,aa.cs_hd,List.take_append_of_le_length (by rw [aa.hd_len]; decide),List.take_of_length_le (by rw [aa.hd_len]; decide),List.drop_eq_nil_of_le (by rw [List.length_append,aa.hd_len]; simp [ax.cs]),List.append_nil]
 rfl
end Go.Ab
end
section
namespace Go.Ab.R06
open Go.Proofs Go.Ab Go.Ab.RB
attribute [local irreducible] awp fT bn bF cv AV.sub M cT
def fW:Nat→Int→(List UInt8)→Option (List UInt8)
 | 0,_,_=>none
 | m+1,c8,l9 =>
 if c8≤122 then
  ck ((0:Int)≤c8∧(c8:Int) < 256) <|
  ck ((c8:Int) < (l9.length:Int)) <|
  ck ((0:Int)≤IntKind.wrap .i32 ((IntKind.wrap .i32 (c8 - 97))+65)∧(IntKind.wrap .i32 ((IntKind.wrap .i32 (c8 - 97))+65):Int) < 256) <|
  ck ((IntKind.wrap .i32 ((IntKind.wrap .i32 (c8 - 97))+65):Int) < ((l9.set c8.toNat (2:UInt8)).length:Int)) <|
  fW m (IntKind.wrap .i32 (c8+1)) ((l9.set c8.toNat (2:UInt8)).set ((IntKind.wrap .i32 ((IntKind.wrap .i32 (c8 - 97))+65)).toNat) (2:UInt8))
 else
  some l9
def fV:Nat→Int→(List UInt8)→Option (List UInt8)
 | 0,_,_=>none
 | m+1,c23,l24 =>
 if c23≤57 then
  ck ((0:Int)≤c23∧(c23:Int) < 256) <|
  ck ((c23:Int) < (l24.length:Int)) <|
  fV m (IntKind.wrap .i32 (c23+1)) (l24.set c23.toNat (3:UInt8))
 else
  some l24
def fP:Nat→Nat→(List UInt8)→Option (List UInt8)
 | 0,_,_=>none
 | m+1,t37,l38 =>
 if t37 < ([123,125,91,93,40,41,44,61,60,62,43,45,42,47,37,33,38,124,63,58,46]:Bytes).length then
  ck ((([123,125,91,93,40,41,44,61,60,62,43,45,42,47,37,33,38,124,63,58,46]:Bytes).getD t37 0).toNat < 128) <|
  ck ((0:Int)≤((([123,125,91,93,40,41,44,61,60,62,43,45,42,47,37,33,38,124,63,58,46]:Bytes).getD t37 0).toNat:Int)∧(((([123,125,91,93,40,41,44,61,60,62,43,45,42,47,37,33,38,124,63,58,46]:Bytes).getD t37 0).toNat:Int):Int) < 256) <|
  ck ((((([123,125,91,93,40,41,44,61,60,62,43,45,42,47,37,33,38,124,63,58,46]:Bytes).getD t37 0).toNat:Int):Int) < (l38.length:Int)) <|
  fP m (t37+1) (l38.set (((([123,125,91,93,40,41,44,61,60,62,43,45,42,47,37,33,38,124,63,58,46]:Bytes).getD t37 0).toNat:Int).toNat) (4:UInt8))
 else
  some l38
def kJ (n:Nat):Option (List UInt8) :=
 (fW n 97 (qj 256)).bind λ l17 =>
 (fV n 48 l17).bind λ l30 =>
 (fP n 0 l30).bind λ l45 =>
 ck ((0:Int)≤95∧(95:Int) < 256) <|
 ck ((95:Int) < (l45.length:Int)) <|
 ck ((0:Int)≤34∧(34:Int) < 256) <|
 ck ((34:Int) < ((l45.set ((95:Int).toNat) (2:UInt8)).length:Int)) <|
 ck ((0:Int)≤35∧(35:Int) < 256) <|
 ck ((35:Int) < (((l45.set ((95:Int).toNat) (2:UInt8)).set ((34:Int).toNat) (5:UInt8)).length:Int)) <|
 ck ((0:Int)≤10∧(10:Int) < 256) <|
 ck ((10:Int) < ((((l45.set ((95:Int).toNat) (2:UInt8)).set ((34:Int).toNat) (5:UInt8)).set ((35:Int).toNat) (7:UInt8)).length:Int)) <|
 ck ((0:Int)≤32∧(32:Int) < 256) <|
 ck ((32:Int) < (((((l45.set ((95:Int).toNat) (2:UInt8)).set ((34:Int).toNat) (5:UInt8)).set ((35:Int).toNat) (7:UInt8)).set ((10:Int).toNat) (6:UInt8)).length:Int)) <|
 ck ((0:Int)≤9∧(9:Int) < 256) <|
 ck ((9:Int) < ((((((l45.set ((95:Int).toNat) (2:UInt8)).set ((34:Int).toNat) (5:UInt8)).set ((35:Int).toNat) (7:UInt8)).set ((10:Int).toNat) (6:UInt8)).set ((32:Int).toNat) (1:UInt8)).length:Int)) <|
 ck ((0:Int)≤13∧(13:Int) < 256) <|
 ck ((13:Int) < (((((((l45.set ((95:Int).toNat) (2:UInt8)).set ((34:Int).toNat) (5:UInt8)).set ((35:Int).toNat) (7:UInt8)).set ((10:Int).toNat) (6:UInt8)).set ((32:Int).toNat) (1:UInt8)).set ((9:Int).toNat) (1:UInt8)).length:Int)) <|
 ck (Nat.beq 256 (((((((l45.set ((95:Int).toNat) (2:UInt8)).set ((34:Int).toNat) (5:UInt8)).set ((35:Int).toNat) (7:UInt8)).set ((10:Int).toNat) (6:UInt8)).set ((32:Int).toNat) (1:UInt8)).set ((9:Int).toNat) (1:UInt8)).set ((13:Int).toNat) (1:UInt8)).length=true) <|
 ck (Nat.beq 256 (qj 256).length=true∧Nat.beq 256 (((((((l45.set ((95:Int).toNat) (2:UInt8)).set ((34:Int).toNat) (5:UInt8)).set ((35:Int).toNat) (7:UInt8)).set ((10:Int).toNat) (6:UInt8)).set ((32:Int).toNat) (1:UInt8)).set ((9:Int).toNat) (1:UInt8)).set ((13:Int).toNat) (1:UInt8)).length=true) <|
 some (((((((l45.set ((95:Int).toNat) (2:UInt8)).set ((34:Int).toNat) (5:UInt8)).set ((35:Int).toNat) (7:UInt8)).set ((10:Int).toNat) (6:UInt8)).set ((32:Int).toNat) (1:UInt8)).set ((9:Int).toNat) (1:UInt8)).set ((13:Int).toNat) (1:UInt8))
theorem o0 (n:Nat)(r:(List UInt8))(h0:kJ n=some r):bF Tryz.prog 84 [] (·=.p (.agg (r.map eU))):=by
 unfold kJ at h0
 refine AR good Tryz.func84 Z Z Z λ w0=>mP (λ v:(List UInt8)=>.p (.agg (v.map eU))) ?_
 refine nx 2 Z (mO Z (sU eU (qj 256) Y Z Z Z Z (by kernel_rfl) Z Z ?_))
 refine nx 3 Z (mO Z (sU eU (qj 256) Y Z Z Z Z (by kernel_rfl) Z (by repeat (first | apply tI Z | apply rx Z | apply tX Z Z | exact rfl)) ?_))
 refine nx 7 Z (bd h0 λ o65 h1 h0=>?_)
 refine kE 0 o65 (λ v66=>⟨[(0,.ptr 0 0),(1,.ptr 1 0)],[(0,((qj 256).map eU).map .p),(1,(v66.map eU).map .p)]⟩) ?_ ?_
 ·refine nx 7 Z (bd h0 λ o67 h1 h0=>?_)
  refine kE 2 o67 (λ v68=>⟨[(0,.ptr 0 0),(1,.ptr 1 0)],[(0,((qj 256).map eU).map .p),(1,(v68.map eU).map .p)]⟩) ?_ ?_
  ·refine nx 4 Z (mO Z (BN Z Z Z Z Z Z Z (by repeat (first | apply tI Z | apply rx Z | apply tX Z Z | exact rfl)) ?_))
   refine nx 2 Z (bd h0 λ o69 h1 h0=>?_)
   refine kE 4 o69 (λ v70=>⟨[(0,.ptr 0 0),(1,.ptr 1 0)],[(0,((qj 256).map eU).map .p),(1,(v70.map eU).map .p)]⟩) ?_ ?_
   ·refine nx 3 Z (cc' h0 λ hk46 h0=>?_)
    refine cc' h0 λ hk47 h0=>mO Z (cM Z Z Z Z Z Z Z Z Z hk46 ?_)
    refine mO Z (fM (f:=eU) (l:=o69) (b:=(2:UInt8)) Z Z Z Z Z Z Z Z (by have:=(And.intro hk46.1 hk47); first | omega | (dsimp only; omega)) ?_)
    refine cc' h0 λ hk48 h0=>cc' h0 λ hk49 h0=>mO Z (cM Z Z Z Z Z Z Z Z Z hk48 ?_)
    refine mO Z (fM (f:=eU) (l:=o69.set ((95:Int).toNat) (2:UInt8)) (b:=(5:UInt8)) Z Z Z Z Z Z Z Z (by have:=(And.intro hk48.1 hk49); first | omega | (dsimp only; omega)) ?_)
    refine cc' h0 λ hk50 h0=>cc' h0 λ hk51 h0=>mO Z (cM Z Z Z Z Z Z Z Z Z hk50 ?_)
    refine mO Z (fM (f:=eU) (l:=(o69.set ((95:Int).toNat) (2:UInt8)).set ((34:Int).toNat) (5:UInt8)) (b:=(7:UInt8)) Z Z Z Z Z Z Z Z (by have:=(And.intro hk50.1 hk51); first | omega | (dsimp only; omega)) ?_)
    refine cc' h0 λ hk52 h0=>cc' h0 λ hk53 h0=>mO Z (cM Z Z Z Z Z Z Z Z Z hk52 ?_)
    refine mO Z (fM (f:=eU) (l:=((o69.set ((95:Int).toNat) (2:UInt8)).set ((34:Int).toNat) (5:UInt8)).set ((35:Int).toNat) (7:UInt8)) (b:=(6:UInt8)) Z Z Z Z Z Z Z Z (by have:=(And.intro hk52.1 hk53); first | omega | (dsimp only; omega)) ?_)
    refine nx 3 Z (cc' h0 λ hk54 h0=>?_)
    refine cc' h0 λ hk55 h0=>mO Z (cM Z Z Z Z Z Z Z Z Z hk54 ?_)
    refine mO Z (fM (f:=eU) (l:=(((o69.set ((95:Int).toNat) (2:UInt8)).set ((34:Int).toNat) (5:UInt8)).set ((35:Int).toNat) (7:UInt8)).set ((10:Int).toNat) (6:UInt8)) (b:=(1:UInt8)) Z Z Z Z Z Z Z Z (by have:=(And.intro hk54.1 hk55); first | omega | (dsimp only; omega)) ?_)
    refine cc' h0 λ hk56 h0=>cc' h0 λ hk57 h0=>mO Z (cM Z Z Z Z Z Z Z Z Z hk56 ?_)
    refine mO Z (fM (f:=eU) (l:=((((o69.set ((95:Int).toNat) (2:UInt8)).set ((34:Int).toNat) (5:UInt8)).set ((35:Int).toNat) (7:UInt8)).set ((10:Int).toNat) (6:UInt8)).set ((32:Int).toNat) (1:UInt8)) (b:=(1:UInt8)) Z Z Z Z Z Z Z Z (by have:=(And.intro hk56.1 hk57); first | omega | (dsimp only; omega)) ?_)
    refine cc' h0 λ hk58 h0=>cc' h0 λ hk59 h0=>mO Z (cM Z Z Z Z Z Z Z Z Z hk58 ?_)
    refine mO Z (fM (f:=eU) (l:=(((((o69.set ((95:Int).toNat) (2:UInt8)).set ((34:Int).toNat) (5:UInt8)).set ((35:Int).toNat) (7:UInt8)).set ((10:Int).toNat) (6:UInt8)).set ((32:Int).toNat) (1:UInt8)).set ((9:Int).toNat) (1:UInt8)) (b:=(1:UInt8)) Z Z Z Z Z Z Z Z (by have:=(And.intro hk58.1 hk59); first | omega | (dsimp only; omega)) ?_)
    refine nx 3 Z (cc' h0 λ hk60 h0=>?_)
    refine mO Z (yN eU (((((((o69.set ((95:Int).toNat) (2:UInt8)).set ((34:Int).toNat) (5:UInt8)).set ((35:Int).toNat) (7:UInt8)).set ((10:Int).toNat) (6:UInt8)).set ((32:Int).toNat) (1:UInt8)).set ((9:Int).toNat) (1:UInt8)).set ((13:Int).toNat) (1:UInt8)) Z Z Z Z Z Z Z hk60 ?_)
    refine cc' h0 λ hk61 h0=>mO Z (ws eU (qj 256) (((((((o69.set ((95:Int).toNat) (2:UInt8)).set ((34:Int).toNat) (5:UInt8)).set ((35:Int).toNat) (7:UInt8)).set ((10:Int).toNat) (6:UInt8)).set ((32:Int).toNat) (1:UInt8)).set ((9:Int).toNat) (1:UInt8)).set ((13:Int).toNat) (1:UInt8)) Z Z Z Z Z Z Y hk61.1 hk61.2 ?_)
    exact nx 2 Z (mQ (oi h0) (C7 eU (((((((o69.set ((95:Int).toNat) (2:UInt8)).set ((34:Int).toNat) (5:UInt8)).set ((35:Int).toNat) (7:UInt8)).set ((10:Int).toNat) (6:UInt8)).set ((32:Int).toNat) (1:UInt8)).set ((9:Int).toNat) (1:UInt8)).set ((13:Int).toNat) (1:UInt8)) Z Z Z Z Z hk60) (sr))
   refine lG (λ (q71:Nat×(List UInt8))=>⟨[(0,.ptr 0 0),(1,.ptr 1 0),(22,.it 22 ([123,125,91,93,40,41,44,61,60,62,43,45,42,47,37,33,38,124,63,58,46]:Bytes) q71.1)],[(0,((qj 256).map eU).map .p),(1,(q71.2.map eU).map .p)]⟩) (λ m (q71:Nat×(List UInt8))=>fP m q71.1 q71.2) Y (0,o67) h1 (gE Z Z) ?_
   rintro m ⟨t37,l38⟩ h1
   replace h1:fP (m+1) t37 l38=some o69:=h1
   rw [fP] at h1
   refine nx 2 Z (fD (p:=t37 < ([123,125,91,93,40,41,44,61,60,62,43,45,42,47,37,33,38,124,63,58,46]:Bytes).length) [] h1 Z (λ c39 h1=>?_) λ c39 h1=>?_)
   ·refine cc' h1 λ hk40 h1=>mO Z (BD Z Z Z Z Z Z c39 hk40 Z (by repeat (first | apply tI Z | apply rx Z | apply tX Z Z | exact rfl)) Z ?_)
    refine nx 13 Z (cc' h1 λ hk41 h1=>?_)
    refine cc' h1 λ hk42 h1=>mO Z (cM Z Z Z Z Z Z Z Z Z hk41 ?_)
    refine mO Z (fM (f:=eU) (l:=l38) (b:=(4:UInt8)) Z Z Z Z Z Z Z Z (by have:=(And.intro hk41.1 hk42); first | omega | (dsimp only; omega)) ?_)
    exact nx 1 Z (eX (t37+1,l38.set (((([123,125,91,93,40,41,44,61,60,62,43,45,42,47,37,33,38,124,63,58,46]:Bytes).getD t37 0).toNat:Int).toNat) (4:UInt8)) h1 (gE Z Z))
   refine mO Z (BA Z Z Z Z c39 ?_)
   exact nx 5 Z (eXi _ (oi h1).symm (gE Z Z))
  refine lG (λ (q72:Int×(List UInt8))=>⟨[(0,.ptr 0 0),(1,.ptr 1 0),(3,.p (eK .i32 q72.1))],[(0,((qj 256).map eU).map .p),(1,(q72.2.map eU).map .p)]⟩) (λ m (q72:Int×(List UInt8))=>fV m q72.1 q72.2) Y (48,o65) h1 (gE Z Z) ?_
  rintro m ⟨c23,l24⟩ h1
  replace h1:fV (m+1) c23 l24=some o67:=h1
  rw [fV] at h1
  refine nx 6 Z (fD [17] h1 Z (λ c25 h1=>?_) λ c25 h1=>?_)
  ·refine nx 6 Z (cc' h1 λ hk26 h1=>?_)
   refine cc' h1 λ hk27 h1=>mO Z (cM Z Z Z Z Z Z Z Z Z hk26 ?_)
   refine mO Z (fM (f:=eU) (l:=l24) (b:=(3:UInt8)) Z Z Z Z Z Z Z Z (by have:=(And.intro hk26.1 hk27); first | omega | (dsimp only; omega)) ?_)
   exact nx 6 Z (eX (IntKind.wrap .i32 (c23+1),l24.set c23.toNat (3:UInt8)) h1 (gE Z Z))
  exact nx 2 Z (eXi _ (oi h1).symm (gE Z Z))
 refine lG (λ (q73:Int×(List UInt8))=>⟨[(0,.ptr 0 0),(1,.ptr 1 0),(2,.p (eK .i32 q73.1))],[(0,((qj 256).map eU).map .p),(1,(q73.2.map eU).map .p)]⟩) (λ m (q73:Int×(List UInt8))=>fW m q73.1 q73.2) Y (97,qj 256) h1 (gE Z Z) ?_
 rintro m ⟨c8,l9⟩ h1
 replace h1:fW (m+1) c8 l9=some o65:=h1
 rw [fW] at h1
 refine nx 6 Z (fD [7] h1 Z (λ c10 h1=>?_) λ c10 h1=>?_)
 ·refine nx 9 Z (cc' h1 λ hk11 h1=>?_)
  refine cc' h1 λ hk12 h1=>mO Z (cM Z Z Z Z Z Z Z Z Z hk11 ?_)
  refine mO Z (fM (f:=eU) (l:=l9) (b:=(2:UInt8)) Z Z Z Z Z Z Z Z (by have:=(And.intro hk11.1 hk12); first | omega | (dsimp only; omega)) ?_)
  refine cc' h1 λ hk13 h1=>cc' h1 λ hk14 h1=>mO Z (cM Z Z Z Z Z Z Z Z Z hk13 ?_)
  refine mO Z (fM (f:=eU) (l:=l9.set c8.toNat (2:UInt8)) (b:=(2:UInt8)) Z Z Z Z Z Z Z Z (by have:=(And.intro hk13.1 hk14); first | omega | (dsimp only; omega)) ?_)
  exact nx 6 Z (eX (IntKind.wrap .i32 (c8+1),(l9.set c8.toNat (2:UInt8)).set ((IntKind.wrap .i32 ((IntKind.wrap .i32 (c8 - 97))+65)).toNat) (2:UInt8)) h1 (gE Z Z))
 exact nx 2 Z (eXi _ (oi h1).symm (gE Z Z))
theorem pO:kJ 64=some gU:=by kernel_rfl
def iZ (s_0:Bytes):Option aa:=some (.mk s_0 0 (-1) (.mk 0 0 []))
theorem aa.ones (x:aa):PV.onesB (aa.cs x)=true:=by kernel_rfl
theorem nr (s_0:Bytes)(r:aa)(h0:iZ s_0=some r):cv Tryz.prog 51 [.p (eS s_0)] [] (λ x y=>x=.ptr 2000000 0∧y=[(2000000,(aa.cs r).map .p)]):=by
 unfold iZ at h0
 refine mw good [6] [6] Tryz.func51 Z Z Z Z Z λ w0 F=>mPo (λ _:aa=>.ptr 2000000 0) (λ v=>[(2000000,(aa.cs v).map .p)]) ?_
 refine nx 7 Z ?_
 refine oK (o0 64 _ pO) Z trivial Tryz.call84 Z ?_
 refine mO Z (vP (cs:=(aa.cs (.mk s_0 0 (-1) (.mk 0 0 []))).map .p) (y:=.p (.agg (aa.cs (.mk s_0 0 (-1) (.mk 0 0 []))))) Z Z Z Z Z Z Z (by kernel_rfl) (by simp only [jZ,ra]) ?_)
 refine mO Z (CE (aa.cs (.mk s_0 0 (-1) (.mk 0 0 []))) Z Z Z Z (aa.ones _) Z Z ?_)
 exact nx 4 Z (mQo (oi h0) (au _) Z Z Z (ar Z (aw _) Z) (sr) ⟨⟨_,Z,aE _⟩,trivial⟩)
end Go.Ab.R06
end
section
namespace Go.Ab
structure PreO (w:World)(g:Gh):Prop where
 ok:Ok0 w g.st
 own:∀ i b,g.ow i=some b→b < w.heap.size∧i < 2*M1
 inj:∀ i j b,g.ow i=some b→g.ow j=some b→i=j
 nst:∀ i b,M1≤i→g.ow i=some b→∀ o,¬ g.st b o
def Eg (w:World)(g:Gh)(R:AV→List (Nat×List AV)→Prop)(v:Value)(w':World):Prop :=
 ∃ r obs' g',R r obs'∧ARep w' g' r v∧(∀ p∈obs',gz w' g' p.1 p.2)∧ky w g w' g'
def w7 (P:Program)(f:FuncId)(args:List AV)(obs:List (Nat×List AV))(R:AV→List (Nat×List AV)→Prop):Prop :=
 ∀ (w:World) (g:Gh) (vs:Array Value) (u:FrameMode),PreO w g→vs.size=args.length→(∀ (i:Nat) c v,args[i]? = some c→vs[i]? = some v→ARep w g c v)→(∀ id cs,look obs id=some cs→gz w g id cs) →
  CallsD P f vs u w λ e u' w'=>u'=u∧∃ v,e=.returned v∧Eg w g R v w'
theorem Fc {P:Program}{tt:List (Nat×TI)}(good:dh P tt){f:FuncId}{fn:Func}{c:Code}{args:List AV}{obs rob:List (Nat×List AV)}{r:AV}(ts ids:List Nat)(hf:P.funcs[f]? = some fn)(hb:fn.body=some c)
  (hn:Nat.ble args.length fn.ntmps=true) (hnl:Nat.ble fn.ntmps M1=true) (hts:ts.all (λ i=>Nat.blt i M1)=true) (hnd:nodupB ts=true)
  (h:∀ w0 F,awp ⟨P,tt,good,fn.ntmps,hnl,w0,F⟩ c (qM ⟨P,tt,good,fn.ntmps,hnl,w0,F⟩ tt fn ts ids r rob) ⟨fX args,obs⟩):w7 P f args obs (λ x y=>x.sub r∧leO y rob) :=
 λ _ _ _ _ hp h1 h2 h3=>(callsD_of_wp hf hb (ot good ts ids (Nat.le_of_ble_eq_true hn) hnl hts hnd (λ w0 F=>pw (h w0 F)) hp.ok hp.own hp.inj hp.nst h1 h2 h3)).mono
  λ _ _ _ ⟨hu,v,r,obs',g',he,hR,e1,e2,e3⟩=>⟨hu,v,he,r,obs',g',hR,e1,e2,e3⟩
def FE:Option Code→Code
 | some (.seq _ (.seq _ B))=>B
 | _=>.skip
def zN (P:Program)(fn:Func)(B:Code)(sl:List (Nat×AV))(obs:List (Nat×List AV))(R:AV→List (Nat×List AV)→Prop):Prop :=
 ∀ (w:World) (g:Gh) (a:Act),PreO w g→a.tmps.size=fn.ntmps→(∀ i,ARep w g ((⟨sl,obs⟩:AS).get i) (a.tmps.getD i Go.undef))→(∀ id cs,look obs id=some cs→gz w g id cs) →
  B.wp P (λ e a' w'=>(e=.normal∨e=.ret)∧a'.defers=a.defers∧∃ v,(∀ w2,(results fn a'.tmps).run P w2=.ok v w2)∧Eg w g R v w') a w
theorem Bz {P:Program}{tt:List (Nat×TI)}(good:dh P tt){fn:Func}{B:Code}{t:Nat}{sl:List (Nat×AV)}{obs rob:List (Nat×List AV)}{r:AV}(ids:List Nat)(hres:fn.results.toList=[.tmp t])(hnl:Nat.ble fn.ntmps M1=true)
  (h:∀ w0 F,awp ⟨P,tt,good,fn.ntmps,hnl,w0,F⟩ B (qM ⟨P,tt,good,fn.ntmps,hnl,w0,F⟩ tt fn [] ids r rob) ⟨sl,obs⟩):zN P fn B sl obs (λ x y=>x.sub r∧leO y rob):=by
 intro w g a hp hsz hsl hobs
 have hs:St fn.ntmps ⟨w,g.st,g.ow,hp.ok.gl,(λ i b h=>Nat.lt_of_lt_of_le (hp.own i b h).2 sT),a.defers⟩ (λ b=>b < w.heap.size∧∀ i,g.ow i≠some b) g ⟨sl,obs⟩ a w :=
  ⟨Z,hsz,hsl,hobs,hp.inj,λ i b hi=>⟨(hp.own i b hi).1,λ h=>h.2 i hi⟩,hp.ok.lt,λ b h=>h.1,λ b h=>rfl,Z,Z,Z,Nat.le_refl _,λ b _ o=>Iff.rfl,λ _ _ _=>rfl,iO.refl _ _,λ i b hi h=>hp.nst i b hi h,Ev.refl _ _⟩
 refine wp_mono (pw (h _ _) g a w hs) ?_
 rintro e a' w' ⟨g1,s',h3,he,l,r1,obs1,obs',hl,hr,hpk,hm,hR⟩
 obtain ⟨v,hv,hvr⟩:=lN good h3 fn l hl
 have hrun:∀ w2,(results fn a'.tmps).run P w2=.ok (a'.tmps.getD t Go.undef) w2:=λ w2=>by
  rw [rB,Array.mapM_eq_mapM_toList,hres]
  simp [ul]
 obtain ⟨g',e1,e2,e3⟩:=tP [] ids Z Z hp.own h3 hvr hr hpk hm
 have:v=a'.tmps.getD t Go.undef:=by
  have:=(hrun w').symm.trans hv
  injection this with h1 _
  exact h1.symm
 exact ⟨he,h3.nd,v,λ w2=>by rw [this]; exact hrun w2,_,_,g',hR,e1,e2,e3⟩
theorem vy:∀ {js:List Nat} {q:List AV} {i:Nat} {c:AV},look (js.zip q) i=some c→∃ k:Nat,js[k]? = some i∧q[k]? = some c
 | [],_,_,_,h=>by simp [look] at h
 | _::_,[],_,_,h=>by simp [look] at h
 | j::js,x::q,i,c,h=>by
  rw [List.zip_cons_cons,ba] at h
  by_cases e:j=i
  ·rw [if_pos e] at h; cases h; exact ⟨0,by simp [e],rfl⟩
  ·rw [if_neg e] at h
   obtain ⟨k,h1,h2⟩:=vy h
   exact ⟨k+1,by simpa using h1,by simpa using h2⟩
theorem pp:∀ l:List AV,nz l l
 | []=>trivial
 | x::r=>⟨AV.sub_refl x,pp r⟩
theorem AD {C:Cx}{fn:Func}{B:Code}{sl:List (Nat×AV)}{ob:List (Nat×List AV)}(ids vids:List Nat)(NB NE:Nat)(js:List Nat){l l':List AV}{obs qo rob ob':List (Nat×List AV)}{r r':AV}(hnt:C.n=fn.ntmps)
  (hB:zN C.P fn B (js.zip l') qo (λ x y=>x.sub r∧leO y rob)) (hl:iU sl (js.map .tmp)=some l) (hl':AV.mapA.go (iW ids vids) l=some l') (hpk:gg ob ids=some obs) (hmo:ga (iW ids vids) obs=some qo) (hqq:leO qo qo)
  (hnd:nodupB ids=true) (hids:ids.all (λ i=>Nat.blt i (2*M1))=true) (hil:Nat.ble ids.length M1=true) (hdl:Nat.ble NE M1=true) (hdis:ids.all (λ i=>!(cK vids NB NE i))=true)
  (hvd:nodupB vids=true) (hvl:vids.all (λ i=>Nat.blt i M1)=true) (hvn:Nat.ble vids.length 100000=true) (hr:r.mapA (iL ids NB NE)=some r') (hro:ga (iL ids NB NE) rob=some ob')
  {g:Gh} {a a2:Act} {w:World} (hs:St C.n C.w0 C.F g ⟨sl,ob⟩ a w) (ht:a2.tmps=a.tmps) :
  B.wp C.P (λ e a' w'=>(e=.normal∨e=.ret)∧a'.defers=a2.defers∧∃ v,(∀ w2,(results fn a'.tmps).run C.P w2=.ok v w2)∧∃ g2,St C.n C.w0 C.F g2 ⟨(cX (cK vids NB NE) ⟨sl,ob⟩).sl,ob'++(cX (cK vids NB NE) ⟨sl,ob.filter λ p=>!(ids.any (Nat.beq p.1))⟩).ob⟩ a w'∧ARep w' g2 r' v) a2 w:=by
 obtain ⟨a1,a1'⟩:=i7 hs _ l hl
 have hlen:(js.map λ j=>a.eval (.tmp j)).length=l.length:=by simpa using a1.symm
 obtain ⟨gc,⟨k1,k2,k3,k4,k5,k6,k7⟩,hpost⟩:=nA ids vids NB NE hl' (pp l') hpk hmo hqq hnd hids hil hdl hdis hvd hvl hvn hs (avs:=(js.map λ j=>a.eval (.tmp j)).toArray) (by simpa using hlen)
  (λ i c v hc hv=>a1' i c v hc (by simpa using hv))
 refine wp_mono (hB w gc a2 ⟨k1,k2,k3,k4⟩ (by rw [ht,hs.sz,hnt]) (λ i=>?_) k7) ?_
 ·unfold AS.get
  cases hq:look (js.zip l') i with
  | none=>exact .undef _
  | some c =>
   obtain ⟨k,h1,h2⟩:=vy hq
   simp only [Option.getD_some]
   refine k6 k c _ h2 ?_
   have:a2.tmps.getD i Go.undef=a.eval (.tmp i):=by rw [ht]; rfl
   rw [this]
   simp [h1]
 ·rintro e a' w' ⟨he,hd,v,hv,x,y,g',⟨hx,hy⟩,e1,e2,e3⟩
  obtain ⟨g2,f1,f2⟩:=hpost w' v r r' rob ob' g' (hx _ _ _ e1) (λ p hp=>by
   obtain ⟨ds,m1,m2⟩:=qq hy p hp
   exact mU (e2 (p.1,ds) (fZ m1)) m2) e3 hr hro
  exact ⟨he,hd,v,hv,g2,f1,f2⟩
theorem Fp {C:Cx}{k:FuncId}{sl:List (Nat×AV)}{ob:List (Nat×List AV)}(ids vids:List Nat)(NB NE:Nat)(j:Nat){x:AV}{l':List AV}{obs qo rob ob':List (Nat×List AV)}{r r':AV}{u:FrameMode}
  (hD:w7 C.P k l' qo (λ x y=>x.sub r∧leO y rob)) (hl:look sl j=some x) (hl':AV.mapA.go (iW ids vids) [x]=some l') (hpk:gg ob ids=some obs) (hmo:ga (iW ids vids) obs=some qo) (hqq:leO qo qo)
  (hnd:nodupB ids=true) (hids:ids.all (λ i=>Nat.blt i (2*M1))=true) (hil:Nat.ble ids.length M1=true) (hdl:Nat.ble NE M1=true) (hdis:ids.all (λ i=>!(cK vids NB NE i))=true)
  (hvd:nodupB vids=true) (hvl:vids.all (λ i=>Nat.blt i M1)=true) (hvn:Nat.ble vids.length 100000=true) (hr:r.mapA (iL ids NB NE)=some r') (hro:ga (iL ids NB NE) rob=some ob')
  {g:Gh} {a:Act} {w:World} (hs:St C.n C.w0 C.F g ⟨sl,ob⟩ a w) :
  CallsD C.P k #[a.eval (.tmp j)] u w λ e u' w'=>u'=u∧∃ v,e=.returned v∧∃ g2,St C.n C.w0 C.F g2 ⟨(cX (cK vids NB NE) ⟨sl,ob⟩).sl,ob'++(cX (cK vids NB NE) ⟨sl,ob.filter λ p=>!(ids.any (Nat.beq p.1))⟩).ob⟩ a w':=by
 have hx:ARep w g x (a.eval (.tmp j)):=b7 hs (x:=.tmp j) hl
 obtain ⟨gc,⟨k1,k2,k3,k4,k5,k6,k7⟩,hpost⟩:=nA ids vids NB NE hl' (pp l') hpk hmo hqq hnd hids hil hdl hdis hvd hvl hvn hs (avs:=#[a.eval (.tmp j)]) rfl
  (λ i c v hc hv=>by
   match i,hc,hv with
   | 0,hc,hv=>simp at hc hv; subst hc hv; exact hx)
 refine (hD w gc _ u ⟨k1,k2,k3,k4⟩ k5 k6 k7).mono ?_
 rintro e u' w' ⟨hu,v,he,x,y,g',⟨hx,hy⟩,e1,e2,e3⟩
 obtain ⟨g2,f1,_⟩:=hpost w' v r r' rob ob' g' (hx _ _ _ e1) (λ p hp=>by
   obtain ⟨ds,m1,m2⟩:=qq hy p hp
   exact mU (e2 (p.1,ds) (fZ m1)) m2) e3 hr hro
 exact ⟨hu,v,he,g2,f1⟩
theorem Dz {P:Program}{tt:List (Nat×TI)}(good:dh P tt){f k:FuncId}{fn:Func}{args:List AV}{obs rob:List (Nat×List AV)}{c:Value}{R0 R1 R2 B:Code}{rid t j q:Nat}{o1 o2:Oper}{s0 s1 s2:AS}{b:Bool}(ids:List Nat)
  (hf:P.funcs[f]? = some fn) (hb:fn.body=some (.seq R0 (.seq (.seq R1 (.cond (.tmp t) (.seq R2 (.region rid #[o1,o2] false)) .skip)) B)))
  (hn:Nat.ble args.length fn.ntmps=true) (hnl:Nat.ble fn.ntmps M1=true)
  (h0:∀ w0 F,awp ⟨P,tt,good,fn.ntmps,hnl,w0,F⟩ R0 (λ e s=>e=.normal∧s=s0) ⟨fX args,obs⟩)
  (h1:∀ w0 F,awp ⟨P,tt,good,fn.ntmps,hnl,w0,F⟩ R1 (λ e s=>e=.normal∧s=s1) s0) (hc:evo s1.sl (.tmp t)=some (.p (eB b)))
  (hF:b=false→∃ sE obs1 obs2,gg sE.ob ids=some obs1∧ga (kd []) obs1=some obs2∧leO obs2 rob∧∀ w0 F g a a2 w,St fn.ntmps w0 F g s1 a w→a2.tmps=a.tmps →
   B.wp P (λ e a' w'=>(e=.normal∨e=.ret)∧a'.defers=a2.defers∧∃ v,(∀ w2,(results fn a'.tmps).run P w2=.ok v w2)∧∃ g2,St fn.ntmps w0 F g2 sE a w'∧ARep w' g2 (.p (.val c)) v) a2 w)
  (hT:b=true→(∀ w0 F,awp ⟨P,tt,good,fn.ntmps,hnl,w0,F⟩ R2 (λ e s=>e=.normal∧s=s2) s1)∧(o1.op=.makeFunc (.func k) #[] #[.tmp j]∧o1.dst=some q∧Nat.blt q fn.ntmps=true∧o1.guard=none∧o2.op=.defer { callee:=.value (.tmp q),args:=#[],argTypes:=#[] }∧o2.dst=none∧o2.guard=none∧Nat.beq j q=false) ∧
   (∀ vs w,(callFunc k vs).run P w=.ok (.enter k vs) w)∧∃ sE sD obs1 obs2 x,look s2.sl j=some x∧gg sD.ob ids=some obs1∧ga (kd []) obs1=some obs2∧leO obs2 rob ∧
    (∀ w0 F g a a2 w,St fn.ntmps w0 F g ⟨(q,.func (.func k) [x])::s2.sl,s2.ob⟩ a w→a2.tmps=a.tmps →
     B.wp P (λ e a' w'=>(e=.normal∨e=.ret)∧a'.defers=a2.defers∧∃ v,(∀ w2,(results fn a'.tmps).run P w2=.ok v w2)∧∃ g2,St fn.ntmps w0 F g2 sE a w'∧ARep w' g2 (.p (.val c)) v) a2 w) ∧
    ∀ w0 F g a w u,St fn.ntmps w0 F g sE a w→CallsD P k #[a.eval (.tmp j)] u w λ e u' w'=>u'=u∧∃ v,e=.returned v∧∃ g2,St fn.ntmps w0 F g2 sD a w') :
  cv P f args obs (λ x y=>x=.p (.val c)∧y=rob):=by
 refine cv.of_sub ?_
 intro w g vs hlt hown hinj hnst k1 k2 hobs
 refine calls_of_wp_defers hf hb ?_
 have hn':=Nat.le_of_ble_eq_true hn
 have hs:St fn.ntmps ⟨w,g.st,g.ow,hlt.gl,(λ i b h=>Nat.lt_of_lt_of_le (hown i b h).2 sT),[]⟩ (λ b=>b < w.heap.size∧∀ i,g.ow i≠some b) g ⟨fX args,obs⟩ { tmps:=vs++Array.replicate (fn.ntmps - vs.size) Go.undef,defers:=[] } w:=by
  refine ⟨Z,?_,?_,hobs,hinj,?_,hlt.lt,?_,?_,Z,Z,Z,Nat.le_refl _,λ b _ o=>Iff.rfl,λ _ _ _=>rfl,iO.refl _ _,λ i b hi h=>hnst i b hi h,Ev.refl _ _⟩
  ·simp only [Array.size_append,Array.size_replicate]; omega
  ·intro i
   have:=mH args 0 i
   simp only [AS.get,fX,this,Nat.zero_le,if_true,Nat.sub_zero]
   cases ha:args[i]? with
   | none=>exact .undef _
   | some x =>
    have hi:i < args.length:=(List.getElem?_eq_some_iff.1 ha).1
    have hi2:i < vs.size:=by omega
    have e:(vs++Array.replicate (fn.ntmps - vs.size) Go.undef).getD i Go.undef=vs[i]:=by
     simp [Array.getD_eq_getD_getElem?,Array.getElem?_append,hi2]
    simp only [Option.getD_some]
    rw [e]
    exact k2 i x _ ha (Array.getElem?_eq_getElem hi2)
  ·intro i b hi; exact ⟨(hown i b hi).1,λ h=>h.2 i hi⟩
  ·intro b h; exact h.1
  ·intro b h; rfl
 -- behind everything: what is handed back
 have fin:∀ {sE:AS} {obs1 obs2:List (Nat×List AV)} {a:Act} {w':World} {g2:Gh} {v:Value},gg sE.ob ids=some obs1→ga (kd []) obs1=some obs2→leO obs2 rob →
   St fn.ntmps ⟨w,g.st,g.ow,hlt.gl,(λ i b h=>Nat.lt_of_lt_of_le (hown i b h).2 sT),[]⟩ (λ b=>b < w.heap.size∧∀ i,g.ow i≠some b) g2 sE a w'→ARep w' g2 (.p (.val c)) v →
   ∃ v1 r obs' g',Ending.returned v=.returned v1∧(AV.sub r (.p (.val c))∧leO obs' rob)∧ARep w' g' r v1∧(∀ p∈obs',gz w' g' p.1 p.2)∧ky w g w' g':=by
  intro sE obs1 obs2 a w' g2 v p1 p2 p3 hS hv
  obtain ⟨g',e1,e2,e3⟩:=tP [] ids Z Z hown hS hv rfl p1 p2
  exact ⟨v,_,_,g',Z,⟨AV.sub_refl _,p3⟩,e1,e2,e3⟩
 refine wp_seq (wp_mono (h0 _ _ g _ w hs) ?_)
 rintro e a0 w0 ⟨g0,s0',hs0,rfl,rfl⟩
 refine wp_seq (wp_seq (wp_mono (h1 _ _ g0 a0 w0 hs0) ?_))
 rintro e a1 w1 ⟨g1,s1',hs1,rfl,rfl⟩
 have hcv:a1.eval (.tmp t)=.bool b:=cm hs1 hc
 cases hbb:b with
 | false =>
  subst hbb
  refine wp_cond_false hcv (wp_skip ?_)
  obtain ⟨sE,obs1,obs2,p1,p2,p3,hB⟩:=hF rfl
  refine wp_mono (hB _ _ g1 a1 a1 w1 hs1 Z) ?_
  rintro e a' w' ⟨he,hd,v,hv,g2,hS,hr⟩
  have hd':a'.defers=[]:=hd.trans hs1.nd
  rcases he with rfl | rfl
  ·simp only [bodyPostD,hd',Leaves]; exact ⟨v,hv w',fin p1 p2 p3 hS hr⟩
  ·simp only [bodyPostD,hd',Leaves]; exact ⟨v,hv w',fin p1 p2 p3 hS hr⟩
 | true =>
  subst hbb
  obtain ⟨h2,⟨m1,m2,m3,m4,m5,m6,m7,m8⟩,hen,sE,sD,obs1,obs2,x,hj,p1,p2,p3,hB,hD⟩:=hT rfl
  refine wp_cond_true hcv (wp_seq (wp_mono (h2 _ _ g1 a1 w1 hs1) ?_))
  rintro e a2 w2 ⟨g2,s2',hs2,rfl,rfl⟩
  refine wp_region ?_
  have hx:ARep w2 g2 x (a2.eval (.tmp j)):=b7 hs2 (x:=.tmp j) hj
  have hq:q < fn.ntmps:=Nat.blt_eq ▸ m3
  have e1:(execOp a2.eval o1).run P w2=.ok (.value (.func (.func k) #[] #[a2.eval (.tmp j)])) w2:=by simp [execOp,m1,Instr.makeFunc,Act.eval]
  have hs3:=hs2.put (d:=some q) (λ t ht=>by cases ht; exact hq) (x:=.func (.func k) [x]) (v:=.func (.func k) #[] #[a2.eval (.tmp j)]) (.func rfl λ i c v hc hv=>by
   match i,hc,hv with
   | 0,hc,hv=>simp at hc hv; subst hc hv; exact hx)
  obtain ⟨a3,ha3⟩:∃ a3,a3=a2.put (some q) (.func (.func k) #[] #[a2.eval (.tmp j)]):=⟨_,rfl⟩
  rw [← ha3] at hs3
  have hqv:a3.eval (.tmp q)=.func (.func k) #[] #[a2.eval (.tmp j)]:=by
   have:q < a2.tmps.size:=by rw [hs2.sz]; exact hq
   rw [ha3]; simp [Act.put,Act.eval,Array.getD,this]
  have hjq:a3.eval (.tmp j)=a2.eval (.tmp j):=by
   have hne:q≠j:=λ e=>by subst e; simp at m8
   rw [ha3]; simp only [Act.put,Act.eval,Array.getD_eq_getD_getElem?,Array.getElem?_setIfInBounds,if_neg hne]
  have e2:(execOp a3.eval o2).run P w2=.ok (.defer { target:=.fn (.func k) #[a2.eval (.tmp j)],args:=#[] }) w2:=by simp [execOp,m5,resolve,hqv,Deferred.ofValue]
  have hr:List.range (#[o1,o2]:Array Oper).size=[0,1]:=rfl
  rw [hr]
  have g0':(#[o1,o2]:Array Oper)[0]? = some o1:=rfl
  have g1':(#[o1,o2]:Array Oper)[1]? = some o2:=rfl
  simp only [wpOps,g0',g1',Region.wanted,m4,m7,if_true]
  refine .inl ?_
  unfold Oper.wp
  rw [e1]
  simp only [Oper.upon,m2]
  rw [← ha3]
  refine .inl ?_
  rw [e2]
  simp only [Oper.upon,m6,Act.put]
  refine wp_mono (hB _ _ g2 a3 { a3 with defers:={ target:=.fn (.func k) #[a2.eval (.tmp j)],args:=#[] }::a3.defers } w2 hs3 Z) ?_
  rintro e a' w' ⟨he,hd,v,hv,g3,hS,hrv⟩
  have hnd:a3.defers=[]:=hs3.nd
  rw [hnd] at hd
  have key:Leaves P fn a'.tmps (λ e w'=>∃ v r obs' g',e=.returned v∧(AV.sub r (.p (.val c))∧leO obs' rob)∧ARep w' g' r v∧(∀ p∈obs',gz w' g' p.1 p.2)∧ky w g w' g') a'.defers .returning w':=by
   rw [hd]
   refine leaves_cons (f:=k) (args:=#[a2.eval (.tmp j)]) G (by simp [invoke,hen]) ?_
   have:=hD _ _ g3 a3 w' .returning hS
   rw [hjq] at this
   refine this.mono ?_
   rintro e u' w'' ⟨hu,v2,he2,g4,hS4⟩
   subst hu he2
   simp only [settle,Leaves]
   refine ⟨v,hv w'',fin p1 p2 p3 hS4 ?_⟩
   cases hrv with
   | p hrv=>cases hrv; exact .p (.val _)
  rcases he with rfl | rfl
  ·exact key
  ·exact key
theorem mR {C:Cx}{c:Code}{s t:AS}(h:M C (λ e s=>e=.normal∧s=t) ⟨.cd c,[],s⟩):awp C c (λ e s=>e=.normal∧s=t) s:=pw h
theorem mE {C:Cx}{s t:AS}(h:cT C s t):M C (λ e s=>e=.normal∧s=t) ⟨.ex .normal,[],s⟩:=⟨t,h,Z,Z⟩
end Go.Ab
end
section
namespace Go.Ab.R06
open Go.Proofs Go.Ab Go.Ab.RB
attribute [local irreducible] awp fT bn bF cv AV.sub M cT
theorem kl (x:aa):w7 Tryz.prog 132 [.ptr 1000000 0] [(1000000,[.ptr 1000001 0]),(1000001,(aa.cs x).map .p)] (λ a b=>a.sub (.tuple [])∧leO b [(1000000,[.ptr 1000001 0]),(1000001,(aa.cs (.mk x.fs x.fat (-1) x.fbad)).map .p)]):=by
 refine Fc good [] [1000000,1000001] Tryz.func132 Z Z Z Z Z λ w0 F=>mPo (v0:=aa.mk x.fs x.fat (-1) x.fbad) (λ _:aa=>.tuple []) (λ v=>[(1000000,[.ptr 1000001 0]),(1000001,(aa.cs v).map .p)]) ?_
 refine nx 4 Z (mO Z (eh Z Z Z Z Z Z Z Z (aa.b_outer _) (aa.u_outer _) ?_))
 exact nx 1 Z (rZ Z (au _) Z Z Z (ar Z Z (ar Z (aw _) Z)) (sr) ⟨⟨_,Z,⟨sr,trivial⟩⟩,⟨_,Z,aE _⟩,trivial⟩)
end Go.Ab.R06
end
section
namespace Go.Ab
theorem xu {w:World}{g:Gh}{tok sz ty:Nat}{es:List PV}{b off cap:Nat}(h:ARep w g (.vec tok sz ty es) (.slice (some ⟨b,off,none⟩) es.length cap))(hc:es.length+1≤cap) :
  ARep w g (.vecp tok sz ty es) (.slice (some ⟨b,off,none⟩) (es.length+1) cap):=by
 generalize hv:Value.slice (some ⟨b,off,none⟩) es.length cap=v at h
 cases h with
 | vecn=>cases hv
 | vece _ _ a=>injection hv with _ _ h3; omega
 | vec how hb hcs hsz hst hr hty =>
  injection hv with h1 h2 h3
  injection h1 with h1
  injection h1 with h4 h5
  subst h3 h4 h5
  exact .vecp how hb hcs hc hsz hst hr hty
section
variable {C:Cx} {o:Oper} {K:AS→Prop} {sl:List (Nat×AV)} {ob:List (Nat×List AV)} {d:Nat}
theorem kH (ty0:Nat){es ys:List PV}{t tx e:TypeId}{i ie:TI}{y:Operand}(D:Nat→Bool)(hDl:∀ i,D i=true→i < M1)(hDd:D d=true)(hy1:ys.length=1)
  (hi:look C.tt t=some i) (hik:i.k=.slice e) (hie:look C.tt e=some ie)
  (hS:rr C sl ob tx y ie.size ys) (hzl:ie.zero.length=ie.size)
  (hlen:(es.length+ys.length)*ie.bytes≤140737488355328) (hlen':es.length+ys.length≤9223372036854775807)
  {g:Gh} {a:Act} {w:World} (hs:St C.n C.w0 C.F g ⟨sl,ob⟩ a w) (base:Option Addr) (cap:Nat) (olds:List Value)
  (hold:(Builtin.firstCells ie.size es.length (.slice base es.length cap)).run C.P w.drew=.ok olds.toArray w.drew) (hol:olds.length=es.length*ie.size)
  (hes:∀ e,e∈es→e.cells.length=ie.size)
  (hoc:∀ (i:Nat) y (j:Nat) x,es[i]? = some y→y.cells[j]? = some x→x.one=true∧∃ u,olds[i*ie.size+j]? = some u∧PRep w g.st x u)
  (hg:cap < es.length+ys.length) (ty:TypeId) (hn:Nat.blt d C.n=true) (hty:ty0=0∨ty0=e+1) :
  ∃ v w' g',(Builtin.append_ #[t,tx] ty #[.slice base es.length cap,a.eval y]).run C.P w=.ok v w' ∧
   St C.n C.w0 C.F g' ⟨(d,.vecp d ie.size ty0 es)::(cX D ⟨sl,ob⟩).sl,(cX D ⟨sl,ob⟩).ob⟩ (a.put (some d) v) w':=by
 obtain ⟨u,h1,h2⟩:=cw C.good hi
 have h3:=dG (h2.trans hik)
 subst h3
 obtain ⟨info,hf1,hf2,hf3,z,hf4,hf5⟩:=jm C.good hie
 obtain ⟨news,hsrc,hnews⟩:=hS g a w hs
 have hfit:=growslice_fits (bytes:=ie.bytes) hg hlen
 have hrun:=run_append_grow_src w t tx ty e info z h1 hf1 hf4 base es.length cap olds (by rw [hf2]; exact hold) (a.eval y) ys.length news (by rw [hf2]; exact hsrc) hg O (by rw [hf3]; exact hfit)
 obtain ⟨q,hq⟩:∃ q,q=grownCap w (es.length+ys.length) cap e:=⟨_,rfl⟩
 rw [← hq] at hrun
 have hqn:es.length+ys.length≤q:=by
  rw [hq]; unfold grownCap; simp only [Question.cut]; omega
 have hzs:z.cells.size=ie.size:=by rw [← hzl,← hf5,Array.length_toList]
 obtain ⟨c,hc⟩:∃ c,c=(olds++news).toArray++Builtin.zeroCells z.cells (q - (es.length+ys.length)):=⟨_,rfl⟩
 rw [← hc] at hrun
 have hcs:c.size=q*ie.size:=by
  rw [hc]
  simp only [Array.size_append,List.size_toArray,List.length_append,hol,hsrc.newsLen,size_zeroCells,hzs]
  rw [← Nat.add_mul,← Nat.add_mul]; congr 1; omega
 have hget:∀ m,m < es.length*ie.size→c[m]? = olds[m]?:=by
  intro m hm
  rw [hc,Array.getElem?_append]
  simp only [List.size_toArray,List.length_append,hol,hsrc.newsLen]
  rw [if_pos O,List.getElem?_toArray,List.getElem?_append,hol,if_pos hm]
 have hf:=hs.drew.fresh D hDl d hDd (λ o=>o < es.length*ie.size) c e
 have hv:ARep (w.drew.alloc (.cells c e)) ⟨λ b o=>g.st b o∨(b=w.drew.heap.size∧o < es.length*ie.size),λ i=>if i=d then some w.drew.heap.size else if D i then none else g.ow i⟩
   (.vec d ie.size ty0 es) (.slice (some ⟨w.drew.heap.size,0,none⟩) es.length q):=by
  refine Be G gp hcs O hes (λ o=>⟨λ h=>?_,λ h=>.inr ⟨Z,h⟩⟩) (λ i y j x hy hx=>?_) hty
  ·rcases h with h | h
   ·exact absurd (hs.lt _ _ h) (Nat.lt_irrefl _)
   ·exact h.2
  ·have hev:=jW (w:=w.drew) (T:=λ o=>o < es.length*ie.size) (ob:=.cells c e) hs.drew.lt
   have hcl:=hes y (List.mem_of_getElem? hy)
   have hjl:j < ie.size:=by rw [← hcl]; exact (List.getElem?_eq_some_iff.1 hx).1
   have hil:i < es.length:=(List.getElem?_eq_some_iff.1 hy).1
   have hm1:(i+1)*ie.size≤es.length*ie.size:=Nat.mul_le_mul_right _ O
   rw [Nat.add_mul] at hm1
   obtain ⟨k1,u,hu,hr⟩:=hoc i y j x hy hx
   refine ⟨k1,u,?_,(PRep.mono (w:=w) (w':=w.drew) (st:=g.st) (st':=g.st) (λ b o h=>⟨h,Z⟩) hr).mono hev⟩
   rw [hget _ O]; exact hu
 have hp:=hf.put (d:=some d) (λ t ht=>by cases ht; exact Nat.blt_eq ▸ hn) (xu hv O)
 rw [hy1] at hrun
 exact ⟨_,_,_,hrun,hp⟩
theorem uT {t tx e:TypeId}{x y:Operand}{k sz ty:Nat}{es:List PV}{ys:List PV}{i ie:TI}(ho:o.op=.call { callee:=.builtin .append,args:=#[x,y],argTypes:=#[t,tx] })(hd:o.dst=some d)(hn:Nat.blt d C.n=true)
  (hi:look C.tt t=some i) (hik:i.k=.slice e) (hie:look C.tt e=some ie) (hx:evo sl x=some (.vec k sz ty es)) (hk:Nat.blt k M1=true) (hiz:ie.size=sz) (hy1:ys.length=1)
  (hS:rr C sl ob tx y ie.size ys) (hsz:∀ y∈ys,y.cells.length=ie.size) (h0:Nat.blt 0 ie.size=true) (hzl:Nat.beq ie.zero.length ie.size=true)
  (hlen:(es.length+1)*ie.bytes≤140737488355328) (hlen':es.length+1≤9223372036854775807) (hty:(Nat.beq ty 0||Nat.beq ty (e+1))=true)
  (hK:K ⟨(d,.vecp d sz ty es)::(cX (λ i=>Nat.beq i k||Nat.beq i d) ⟨sl,ob⟩).sl,(cX (λ i=>Nat.beq i k||Nat.beq i d) ⟨sl,ob⟩).ob⟩):bn C o K ⟨sl,ob⟩:=by
 subst hiz
 rw [← hy1] at hlen hlen'
 have h0':0 < ie.size:=by simpa using h0
 have hzl':=Nat.eq_of_beq_eq_true hzl
 have hk':k < M1:=Nat.blt_eq ▸ hk
 have hdl:d < M1:=by have h1:=Nat.le_of_ble_eq_true C.nl; have h2:d < C.n:=Nat.blt_eq ▸ hn; omega
 have hty':=zQ hty
 have hDl:∀ i,(Nat.beq i k||Nat.beq i d)=true→i < M1:=by
  intro i hi
  simp only [Bool.or_eq_true] at hi
  rcases hi with hi | hi <;> (have:=Nat.eq_of_beq_eq_true hi; omega)
 intro g a w hs
 have hxr:=b7 hs hx
 generalize hxv:a.eval x=xv at hxr
 have hrun0:∀ v w',(Builtin.append_ #[t,tx] o.type #[xv,a.eval y]).run C.P w=.ok v w'→(execOp a.eval o).run C.P w=.ok (.value v) w':=by
  intro v w' h
  rw [ir ho]
  simp [builtin,hxv,h]
 cases hxr with
 | vecn =>
  obtain ⟨v,w',g',hr,hst⟩:=kH ty (es:=[]) (λ i=>Nat.beq i k||Nat.beq i d) hDl G hy1 hi hik hie hS hzl' (by simpa using hlen) (by simpa using hlen') hs none 0 []
   (run_firstCells_none w.drew ie.size 0 0 0) G G G (by simp [hy1]) o.type hn hty'
  unfold Oper.wp
  rw [hrun0 _ _ hr]
  simp only [Oper.upon,hd]
  exact ⟨g',_,hst,hK⟩
 | vece tok sz a0 =>
  obtain ⟨v,w',g',hr,hst⟩:=kH 0 (es:=[]) (λ i=>Nat.beq i k||Nat.beq i d) hDl G hy1 hi hik hie hS hzl' (by simpa using hlen) (by simpa using hlen') hs (some a0) 0 []
   (run_firstCells_some w.drew ie.size 0 a0 0 0 [] G G) G G G (by simp [hy1]) o.type hn hty'
  unfold Oper.wp
  rw [hrun0 _ _ hr]
  simp only [Oper.upon,hd]
  exact ⟨g',_,hst,hK⟩
 | vec how hb hcs hsz' hst hr hty0 =>
  rename_i b off cap c e0
  have hinv:=oq hsz' hb hr
  have hcapE:es.length≤cap:=by cases hr with | nile _=>exact Nat.le_refl _ | slice _ _ hcap=>exact hcap
  by_cases hroom:es.length+ys.length≤cap
  ·obtain ⟨u,h1,h2⟩:=cw C.good hi
   have h3:=dG (h2.trans hik)
   subst h3
   obtain ⟨info,hf1,hf2,hf3,z,hf4,hf5⟩:=jm C.good hie
   obtain ⟨news,hsrc,hnews⟩:=hS g a w hs
   have hfit:(off+es.length*ie.size)+news.length≤c.size:=by
    rw [hsrc.newsLen,hcs,Nat.add_assoc,← Nat.add_mul]; exact Nat.add_le_add_left (Nat.mul_le_mul_right _ hroom) _
   have hstc:=run_storeCells_at C.P b (off+es.length*ie.size) e0 news 0 c w hb (by simpa using hfit) hsrc.one
   simp only [Nat.add_zero] at hstc
   obtain ⟨c',hc'⟩:∃ c',c'=(c.toList.take (off+es.length*ie.size)++news++c.toList.drop (off+es.length*ie.size+news.length)).toArray:=⟨_,rfl⟩
   rw [← hc'] at hstc
   have hrr:=kY t tx o.type e info h1 hf1 b off es.length cap (a.eval y) ys.length news (by rw [hf2]; exact hsrc) hroom (by rw [hf2]; exact hstc)
   have hcell:∀ j,c'[j]? = if off+es.length*ie.size≤j∧j < off+es.length*ie.size+news.length then news[j - (off+es.length*ie.size)]? else c[j]?:=by
    intro j
    rw [hc']
    have:=j9 c.toList news (off+es.length*ie.size) (by simpa using hfit) j
    simpa using this
   have hcs':c'.size=off+cap*ie.size:=by rw [← hcs,hc']; simp; omega
   have hin:=hs.inplace (λ i=>Nat.beq i k||Nat.beq i d) hDl (k:=k) (d:=d) how G G  hb (c':=c') (hcs'.trans hcs.symm) (λ o h=>by
    have:=(hst o).1 h
    rw [hcell o,if_neg O]) (λ o=>o < off+es.length*ie.size) (λ o h=>(hst o).1 h)
   have hEv:Ev w g.st (w.setRow b c') (λ b' o=>(b'=b∧o < off+es.length*ie.size)∨(b'≠b∧g.st b' o)):=by
    intro b' o h
    by_cases e:b'=b
    ·subst e
     have h5:=(hst o).1 h
     refine ⟨.inl ⟨Z,h5⟩,?_⟩
     simp only [World.cell?,hb,setRow_heap w b' c c' _ (0,0) hb]
     have:=hcell o
     rw [if_neg O] at this
     simpa using this
    ·exact ⟨.inr ⟨e,h⟩,by simp only [World.cell?,setRow_other w b b' c' e]⟩
   have hv:ARep (w.setRow b c') ⟨λ b' o=>(b'=b∧o < off+es.length*ie.size)∨(b'≠b∧g.st b' o),λ i=>if i=d then some b else if (Nat.beq i k||Nat.beq i d) then none else g.ow i⟩
     (.vec d ie.size ty es) (.slice (some ⟨b,off,none⟩) es.length cap):=by
    refine qE G (setRow_heap w b c c' e0 (0,0) hb) hcs' hcapE hsz' (λ o=>⟨λ h=>?_,λ h=>.inl ⟨Z,h⟩⟩) (λ i y j x hy hx=>?_) hty0
    ·rcases h with h | h
     ·exact h.2
     ·exact absurd Z h.1
    ·have hcl:=hsz' y (List.mem_of_getElem? hy)
     have hjl:j < ie.size:=by rw [← hcl]; exact (List.getElem?_eq_some_iff.1 hx).1
     have hil:i < es.length:=(List.getElem?_eq_some_iff.1 hy).1
     obtain ⟨k1,u,hu,hr⟩:=hinv i y j x hy hx
     have hm2:(i+1)*ie.size≤es.length*ie.size:=Nat.mul_le_mul_right _ O
     rw [Nat.add_mul] at hm2
     refine ⟨k1,u,?_,hr.mono hEv⟩
     rw [hcell,if_neg O]; exact hu
   have hp:=hin.put (d:=some d) (λ t ht=>by cases ht; exact Nat.blt_eq ▸ hn) (xu hv O)
   rw [hy1] at hrr
   unfold Oper.wp
   rw [hrun0 _ _ hrr]
   simp only [Oper.upon,hd]
   exact ⟨_,_,hp,hK⟩
  ·obtain ⟨olds,hol,hocell⟩:∃ olds:List Value,olds.length=es.length*ie.size∧∀ m,m < es.length*ie.size→olds[m]? = c[off+m]? :=
    ⟨((c.toList.drop off).take (es.length*ie.size)),by
     rw [List.length_take,List.length_drop,show c.toList.length=off+cap*ie.size from Array.length_toList.trans hcs]
     have:=Nat.mul_le_mul_right ie.size hcapE; omega,λ m hm=>by rw [List.getElem?_take,if_pos hm,List.getElem?_drop,Array.getElem?_toList]⟩
   have hold:(Builtin.firstCells ie.size es.length (.slice (some ⟨b,off,none⟩) es.length cap)).run C.P w.drew=.ok olds.toArray w.drew:=by
    refine run_firstCells_some w.drew ie.size es.length ⟨b,off,none⟩ es.length cap olds hol (λ j v hv=>?_)
    have hj:j < es.length*ie.size:=by rw [← hol]; exact (List.getElem?_eq_some_iff.1 hv).1
    rw [add_lit,World.cell?_drew]
    simp only [World.cell?,hb]
    rw [← hocell j hj]; simpa using hv
   obtain ⟨v,w',g',hr',hst'⟩:=kH ty (es:=es) (λ i=>Nat.beq i k||Nat.beq i d) hDl G hy1 hi hik hie hS hzl' hlen hlen' hs (some ⟨b,off,none⟩) cap olds
    hold hol hsz' (λ i y j x hy hx=>by
     obtain ⟨k1,u,hu,hr⟩:=hinv i y j x hy hx
     have hi:i < es.length:=(List.getElem?_eq_some_iff.1 hy).1
     have hj:j < ie.size:=by rw [← hsz' y (List.mem_of_getElem? hy)]; exact (List.getElem?_eq_some_iff.1 hx).1
     have hm2:(i+1)*ie.size≤es.length*ie.size:=Nat.mul_le_mul_right _ O
     rw [Nat.add_mul] at hm2
     exact ⟨k1,u,by rw [hocell _ O,← Nat.add_assoc]; exact hu,hr⟩) O o.type hn hty'
   unfold Oper.wp
   rw [hrun0 _ _ hr']
   simp only [Oper.upon,hd]
   exact ⟨g',_,hst',hK⟩
theorem om {α:Type}(f:α→PV)(l0:List α){z:PV}{t tx e e':TypeId}{x y:Operand}{k sz ty:Nat}{i ie j:TI}(ho:o.op=.call { callee:=.builtin .append,args:=#[x,y],argTypes:=#[t,tx] })(hd:o.dst=some d)(hn:Nat.blt d C.n=true)
  (hi:look C.tt t=some i) (hik:i.k=.slice e) (hie:look C.tt e=some ie) (hj:look C.tt tx=some j) (hjk:j.k=.slice e') (hx:evo sl x=some (.vec k sz ty (l0.map f))) (hk:Nat.blt k M1=true) (hiz:ie.size=sz)
  (hy:evo sl y=some (.p (eL (λ x:PV=>x) [z]))) (hsz:Nat.beq z.cells.length ie.size=true) (h0:Nat.blt 0 ie.size=true) (hzl:Nat.beq ie.zero.length ie.size=true) (hby:Nat.blt 0 ie.bytes=true)
  (hty:(Nat.beq ty 0||Nat.beq ty (e+1))=true) (hlen:(l0.length+1)*ie.bytes≤140737488355328)
  (hK:K ⟨(d,.vecp d sz ty (l0.map f))::(cX (λ i=>Nat.beq i k||Nat.beq i d) ⟨sl,ob⟩).sl,(cX (λ i=>Nat.beq i k||Nat.beq i d) ⟨sl,ob⟩).ob⟩):bn C o K ⟨sl,ob⟩:=by
 have hby':1≤ie.bytes:=Nat.succ_le_of_lt (by simpa using hby)
 have h1:(l0.length+1)*1≤(l0.length+1)*ie.bytes:=Nat.mul_le_mul_left _ hby'
 have hs':∀ y∈[z],y.cells.length=ie.size:=λ y hy=>by rw [List.mem_singleton.1 hy]; exact Nat.eq_of_beq_eq_true hsz
 exact uT (ys:=[z]) ho hd hn hi hik hie hx hk hiz Z (lZ hj hjk hy Z hs' (by simpa using h0)) hs' h0 hzl (by rw [List.length_map]; exact hlen) (by rw [List.length_map]; omega) hty hK
theorem mW {t e:TypeId}{x y:Operand}{i ie:TI}{tok sz ty:Nat}{es:List PV}{k:IntKind}{n:Int}(ho:o.op=.indexAddr t x y)(hd:o.dst=some d)(hn:Nat.blt d C.n=true)
  (hi:look C.tt t=some i) (hik:i.k=.slice e) (hie:look C.tt e=some ie) (hiz:ie.size=sz) (hx:evo sl x=some (.vecp tok sz ty es)) (hy:evo sl y=some (.p (.val (.int k n)))) (hnn:n=(es.length:Int))
  (hK:K ⟨(d,.elp tok sz)::sl,ob⟩):bn C o K ⟨sl,ob⟩:=by
 subst hiz hnn
 obtain ⟨u,h1,h2⟩:=cw C.good hi
 have h3:=dG (h2.trans hik)
 subst h3
 refine ok_one hd hn (λ g a w hs=>?_) hK
 have h5:=b7 hs hx
 generalize hv:a.eval x=v at h5
 cases h5 with
 | vecp how hb hcs hcap hsz hst hr hty =>
  rename_i b off cap c e0
  refine ⟨.pointer (some ⟨b,off+es.length*ie.size,none⟩),?_,.elp how hb ?_ hst⟩
  ·have h6:(es.length:Int) < ((es.length+1:Nat):Int):=by omega
   simp [execOp,ho,hv,cm hs hy,Instr.indexAt,asIntOf,run_underlying h1,h6,run_sizeOf C.good hie,add_lit]
  ·rw [hcs]
   have:=Nat.mul_le_mul_right ie.size hcap
   rw [Nat.add_mul,Nat.one_mul] at this
   omega
def upP (tok sz:Nat)(z:PV)(x:AV):AV:=match x with
 | .vecp t s ty es=>bif Nat.beq t tok&&Nat.beq s sz then .vec t s ty (es++[z]) else .undef
 | x=>x.dem (Nat.beq · tok)
def upPS (tok sz:Nat)(z:PV):List (Nat×AV)→Option (List (Nat×AV))
 | []=>some []
 | (i,x)::r=>(match frc (upP tok sz z x) with
  | some y=>(match upPS tok sz z r with | some l=>some ((i,y)::l) | none=>none)
  | none=>none)
def CV (tok sz:Nat)(z:PV):List AV→Option (List AV)
 | []=>some []
 | x::r=>(match frc (upP tok sz z x) with
  | some y=>(match CV tok sz z r with | some l=>some (y::l) | none=>none)
  | none=>none)
theorem xQ {tok sz:Nat}{z:PV}:∀ {l l':List AV},CV tok sz z l=some l'→l'=l.map (upP tok sz z)
 | [],l',h=>by cases h; rfl
 | x::r,l',h=>by
  unfold CV at h
  split at h
  ·rename_i y hy
   split at h
   ·rename_i m hm; cases h; rw [w8 hy,xQ hm]; rfl
   ·cases h
  ·cases h
def BG (tok sz:Nat)(z:PV):List (Nat×List AV)→Option (List (Nat×List AV))
 | []=>some []
 | (i,cs)::r=>(match Nat.beq i tok with
  | true=>BG tok sz z r
  | false=>(match CV tok sz z cs with
   | some ds=>(match BG tok sz z r with | some l=>some ((i,ds)::l) | none=>none)
   | none=>none))
theorem pD {tok sz:Nat}{z:PV}:∀ {l l':List (Nat×List AV)},BG tok sz z l=some l'→∀ id cs,look l' id=some cs→id≠tok∧∃ ds,look l id=some ds∧cs=ds.map (upP tok sz z)
 | [],l',h,id,cs,hc=>by cases h; cases hc
 | (i,xs)::r,l',h,id,cs,hc=>by
  unfold BG at h
  split at h
  ·rename_i hb
   obtain ⟨h1,ds,h2,h3⟩:=pD h id cs hc
   have hi:=Nat.eq_of_beq_eq_true hb
   refine ⟨h1,ds,?_,h3⟩
   rw [ba,if_neg (λ e'=>h1 O)]
   exact h2
  ·rename_i hb
   have hi:i≠tok:=λ e=>by subst e; simp at hb
   split at h
   ·rename_i ds hds
    split at h
    ·rename_i m hm
     cases h
     rw [ba] at hc ⊢
     by_cases e1:i=id
     ·subst e1
      rw [if_pos rfl] at hc ⊢
      cases hc
      exact ⟨hi,xs,Z,xQ hds⟩
     ·rw [if_neg e1] at hc ⊢
      exact pD hm id cs hc
    ·cases h
   ·cases h
theorem tU {t:TypeId}{x v:Operand}{i:TI}{tok sz:Nat}{z:PV}{sl':List (Nat×AV)}{ob':List (Nat×List AV)}(ho:o.op=.store t x v)(hd:o.dst=none)
  (hi:look C.tt t=some i) (hiz:i.size=sz) (hx:evo sl x=some (.elp tok sz)) (hv:evo sl v=some (.p z)) (hc:(AV.p z).cellsA=some (z.cells.map .p)) (hcl:Nat.beq z.cells.length sz=true) (htok:Nat.blt tok M1=true)
  (h1:sl'=sl.map λ p=>(p.1,upP tok sz z p.2)) (h2:BG tok sz z ob=some ob') (hK:K ⟨sl',ob'⟩):bn C o K ⟨sl,ob⟩:=by
 subst hiz h1
 have htl:tok < M1:=Nat.blt_eq ▸ htok
 have hcl':=Nat.eq_of_beq_eq_true hcl
 intro g a w hs
 have h5:=b7 hs hx
 have h6:=b7 hs hv
 obtain ⟨hs1,hs2⟩:=jv hc h6
 rw [List.length_map] at hs1
 generalize hev:a.eval x=u at h5
 cases h5 with
 | elp how k2 hp hst =>
  rename_i b p c e
  have hone:∀ u∈(a.eval v).cells.toList,u.oneCell'=true:=by
   intro u hu
   obtain ⟨j,hj,rfl⟩:=List.getElem_of_mem hu
   simp only [Array.length_toList] at hj
   exact (hs2 j ((z.cells.map AV.p)[j]'(by simp; omega)) _ (List.getElem?_eq_getElem (by simp; omega)) (by simp [hj])).2
  have hstc:=run_storeCells_at C.P b p e (a.eval v).cells.toList 0 c w k2 (by simp; omega) hone
  simp only [Nat.add_zero,Array.length_toList] at hstc
  obtain ⟨c',hc'⟩:∃ c',c'=(c.toList.take p++(a.eval v).cells.toList++c.toList.drop (p+(a.eval v).cells.size)).toArray:=⟨_,rfl⟩
  rw [← hc'] at hstc
  have hsz':=run_sizeOf C.good hi w
  have hne:(a.eval v).cells.size=i.size:=hs1.trans hcl'
  unfold Oper.wp
  have hrun:(execOp a.eval o).run C.P w=.ok .skip (w.setRow b c'):=by
   simp [execOp,ho,hev,Instr.storeAt,Instr.sureAddr,storeVar,hsz',hne,hstc]
  rw [hrun]
  simp only [Oper.upon,hd,Act.put]
  have hcell:∀ j,c'[j]? = if p≤j∧j < p+i.size then (a.eval v).cells[j - p]? else c[j]?:=by
   intro j
   rw [hc']
   have:=j9 c.toList (a.eval v).cells.toList p (by simp; omega) j
   simp only [Array.length_toList,Array.getElem?_toList,hne] at this
   simpa [hne] using this
  have hsize':c'.size=c.size:=by
   rw [hc']; simp; omega
  obtain ⟨g',hg'⟩:∃ g':Gh,g'=⟨λ b' o=>(b'=b∧o < p+i.size)∨(b'≠b∧g.st b' o),g.ow⟩:=⟨_,rfl⟩
  have hst':∀ b' o,g'.st b' o↔(b'=b∧o < p+i.size)∨(b'≠b∧g.st b' o):=λ b' o=>by rw [hg']
  have how':g'.ow=g.ow:=by rw [hg']
  have hev':Ev w g.st (w.setRow b c') g'.st:=by
   intro b2 o2 h2
   by_cases e1:b2=b
   ·subst e1
    have:=(hst o2).1 h2
    refine ⟨(hst' _ _).2 (.inl ⟨Z,by omega⟩),?_⟩
    simp only [World.cell?,k2,setRow_heap w b2 c c' e (0,0) k2]
    have h7:=hcell o2
    rw [if_neg O] at h7
    simpa using h7
   ·exact ⟨(hst' _ _).2 (.inr ⟨e1,h2⟩),by simp only [World.cell?,setRow_other w b b2 c' e1]⟩
  have hnb:∀ id b2,Nat.beq id tok=false→g.ow id=some b2→b2≠b:=λ id b2 hD h e=>by
   subst e
   have:=hs.inj id tok b2 h how
   subst this
   simp at hD
  have hE:EvO (Nat.beq · tok) w g (w.setRow b c') g':=by
   refine ⟨hev',λ id b2 _ h=>by rw [how']; exact h,λ id b2 c2 e2 hD h h2=>⟨c2,(setRow_other w b b2 c' (hnb id b2 hD h)).trans h2,Z⟩,λ id b2 o2 hD h h3=>?_,λ id b2 es2 k2' hD h h2=>(setRow_other w b b2 c' (hnb id b2 hD h)).trans h2,λ i hi=>?_,λ id b2 o2 hD h _=>setRow_other w b b2 c' (hnb id b2 hD h)⟩
   ·rcases (hst' _ _).1 h3 with h4 | h4
    ·exact absurd h4.1 (hnb id b2 hD h)
    ·exact h4.2
   ·cases hq:Nat.beq i tok
    ·rfl
    ·have:=Nat.eq_of_beq_eq_true hq; have:=vu hi; omega
  have hup:∀ {y:AV} {u:Value},ARep w g y u→ARep (w.setRow b c') g' (upP tok i.size z y) u:=by
   intro y u h
   unfold upP
   split
   ·rename_i t s ty es
    cases hq:(Nat.beq t tok&&Nat.beq s i.size)
    ·exact .undef _
    ·simp only [Bool.and_eq_true] at hq
     have e1:=Nat.eq_of_beq_eq_true hq.1
     have e2:=Nat.eq_of_beq_eq_true hq.2
     subst e1 e2
     rw [cond_true]
     cases h with
     | vecp how2 hb2 hcs2 hcap2 hsz2 hst2 hr2 hty2 =>
      rename_i b2 off cap c2 e2
      rw [how] at how2; cases how2
      rw [k2] at hb2; cases hb2
      have hpo:p=off+es.length*i.size:=by
       rcases Nat.lt_trichotomy p (off+es.length*i.size) with h7 | h7 | h7
       ·have:=(hst p).1 ((hst2 p).2 h7); omega
       ·exact h7
       ·have:=(hst2 (off+es.length*i.size)).1 ((hst _).2 h7); omega
      have hinv:=oq hsz2 k2 hr2
      have hlen:(es++[z]).length=es.length+1:=by simp
      have:=qE (w:=w.setRow b c') (g:=g') (tok:=t) (es:=es++[z]) (cap:=cap) (by rw [how']; exact how) (setRow_heap w b c c' e (0,0) k2) (hsize'.trans hcs2) (by rw [hlen]; exact hcap2) (λ x hx=>by
       rcases List.mem_append.1 hx with hx | hx
       ·exact hsz2 x hx
       ·rw [List.mem_singleton.1 hx]; exact hcl') (λ o=>by
       rw [hst',hlen,Nat.add_mul,Nat.one_mul]
       exact ⟨λ h=>h.elim (λ h=>by omega) (λ h=>absurd Z h.1),λ h=>.inl ⟨Z,by omega⟩⟩) (λ k y j x hy hx=>?_) hty2
      ·rw [hlen] at this; exact this
      ·have hcl2:y.cells.length=i.size:=by
        rcases List.mem_append.1 (List.mem_of_getElem? hy) with hx | hx
        ·exact hsz2 y hx
        ·rw [List.mem_singleton.1 hx]; exact hcl'
       have hjl:j < i.size:=by rw [← hcl2]; exact (List.getElem?_eq_some_iff.1 hx).1
       rw [List.getElem?_append] at hy
       split at hy
       ·rename_i hlt
        obtain ⟨q1,u,hu,hr⟩:=hinv k y j x hy hx
        have hm2:(k+1)*i.size≤es.length*i.size:=Nat.mul_le_mul_right _ O
        rw [Nat.add_mul] at hm2
        refine ⟨q1,u,?_,hr.mono hev'⟩
        rw [hcell,if_neg O]; exact hu
       ·rename_i hge
        have hk0:k - es.length=0:=by
         have:=(List.getElem?_eq_some_iff.1 hy).1
         simp at this; omega
        rw [hk0] at hy
        simp only [List.getElem?_cons_zero,Option.some.injEq] at hy
        subst hy
        have hke:k=es.length:=by omega
        subst hke
        have hjc:j < (a.eval v).cells.size:=by omega
        have h8:=hs2 j (.p x) _ (by simp [hx]) (Array.getElem?_eq_getElem hjc)
        refine ⟨?_,(a.eval v).cells[j],?_,?_⟩
        ·have h9:PV.onesB z.cells=true∨z.one=true:=by
          cases z with
          | agg cs =>
           simp only [AV.cellsA] at hc
           cases ho:PV.onesB cs
           ·rw [ho] at hc; cases hc
           ·exact .inl ho
          | val _ =>
           simp only [AV.cellsA] at hc
           rename_i v0
           cases ho:v0.oneCell'
           ·rw [ho] at hc; cases hc
           ·exact .inr ho
          | slice _=>exact .inr Z
          | ifc=>exact .inr Z
          | aint _=>exact .inr Z
         rcases h9 with h9 | h9
         ·exact gO h9 x (List.mem_of_getElem? hx)
         ·have:z.cells=[z]:=by cases z <;> first | rfl | (simp [PV.one] at h9)
          rw [this] at hx
          have:=(List.getElem?_eq_some_iff.1 hx).1
          simp at this
          subst this
          simp at hx
          rw [← hx]; exact h9
        ·rw [hcell,if_pos ⟨by omega,by omega⟩,hpo]
         rw [show off+es.length*i.size+j - (off+es.length*i.size)=j by omega]
         exact Array.getElem?_eq_getElem hjc
        ·cases h8.1 with
         | p hr=>exact hr.mono hev'
   ·exact h.dem hE
  refine ⟨g',⟨sl.map λ p=>(p.1,upP tok i.size z p.2),ob'⟩,?_,hK⟩
  refine ⟨hs.nd,hs.sz,λ j=>?_,λ id' cs' h'=>?_,by rw [how']; exact hs.inj,λ j b2 h=>?_,λ b2 o2 h=>?_,hs.fl,λ b2 h=>?_,hs.os,hs.out,hs.tape,?_,λ b2 h o2=>?_,by rw [how']; exact hs.owf,hs.shf.next (λ _ b c e _ _ h=>(nu k2 hsize').1 b c e h),λ j b2 hj h o2 h3=>?_,hs.ev0.trans hev'⟩
  ·have h:=hs.sl j
   simp only [AS.get,jr]
   simp only [AS.get] at h
   cases hl:look sl j with
   | none=>simp only [Option.map_none,Option.getD_none]; exact .undef _
   | some x=>rw [hl] at h; simpa using hup h
  ·obtain ⟨hne',ds,m1,rfl⟩:=pD h2 id' cs' h'
   obtain ⟨b2,c2,e2,n1,n2,n3,n4,n5⟩:=hs.ob id' ds m1
   have hD:Nat.beq id' tok=false:=by
    cases hq:Nat.beq id' tok
    ·rfl
    ·exact absurd (Nat.eq_of_beq_eq_true hq) hne'
   have hb2:=hnb id' b2 hD n1
   refine ⟨b2,c2,e2,by rw [how']; exact n1,(setRow_other w b b2 c' hb2).trans n2,by simpa using n3,λ o2 h3=>?_,λ j y hy=>?_⟩
   ·rcases (hst' _ _).1 h3 with h4 | h4
    ·exact hb2 h4.1
    ·exact n4 o2 h4.2
   ·simp only [List.getElem?_map,Option.map_eq_some_iff] at hy
    obtain ⟨y0,hy0,rfl⟩:=hy
    obtain ⟨u,hu,hr⟩:=n5 j y0 hy0
    exact ⟨u,hu,hup hr⟩
  ·rw [how'] at h
   have:=hs.own j b2 h; exact ⟨by simpa using this.1,this.2⟩
  ·rcases (hst' _ _).1 h with h4 | h4
   ·have:=(hs.own tok b how).1; rw [h4.1]; simpa using this
   ·have:=hs.lt b2 o2 h4.2; simpa using this
  ·have hne:b2≠b:=λ e=>(hs.own tok b how).2 (e ▸ h)
   exact (setRow_other w b b2 c' hne).trans (hs.fr b2 h)
  ·have:=hs.size; simpa using this
  ·have hne:b2≠b:=λ e=>(hs.own tok b how).2 (e ▸ h)
   exact ⟨λ h3=>by
    rcases (hst' _ _).1 h3 with h4 | h4
    ·exact absurd h4.1 hne
    ·exact (hs.stf b2 h o2).1 h4.2,λ h3=>(hst' _ _).2 (.inr ⟨hne,(hs.stf b2 h o2).2 h3⟩)⟩
  ·rcases (hst' _ _).1 h3 with h4 | h4
   ·have h7:g.ow j=some b2:=(hs.owf j hj (C.w0.lo j b2 h)).trans h
    have:=hs.inj j tok b2 h7 (by rw [h4.1]; exact how)
    omega
   ·exact hs.nst j b2 hj h o2 h4.2
end
def pF (c:Nat)(imp:List Nat):fe→fe→Prop
 | (k,d,v)::r,(k',d',v')::r'=>(k=k'∧d=d'∧(imp.any (Nat.beq k)=true∨v c=v' c))∧pF c imp r r'
 | [],[]=>True
 | _,_=>False
theorem pW {c:Nat}{imp:List Nat}:∀ {r1 r2:fe},pF c imp r1 r2→∀ k p,imp.any (Nat.beq k)=false→cV r2 k=some p→∃ v,cV r1 k=some (p.1,v)∧v c=p.2 c
 | [],[],_,k,p,_,h=>by cases h
 | (k1,d1,v1)::r,(k2,d2,v2)::r',⟨⟨e1,e2,e3⟩,hr⟩,k,p,hk,h=>by
  subst e1 e2
  simp only [cV] at h ⊢
  cases hb:Nat.beq k1 k
  ·rw [hb,cond_false] at h
   rw [cond_false]
   exact pW hr k p hk h
  ·rw [hb,cond_true] at h
   cases h
   rw [cond_true]
   have:=Nat.eq_of_beq_eq_true hb
   subst this
   exact ⟨v1,rfl,e3.resolve_left (by rw [hk]; exact λ h=>by cases h)⟩
 | [],_::_,h,_,_,_,_=>h.elim
 | _::_,[],h,_,_,_,_=>h.elim
theorem xS {C:Cx}{ops:Array Oper}{S1 S2:eG}{c k:Nat}{r1 r2:fe}{imp:List Nat}(h1:lks (dw r2 S2.m++S2.bas S2.m) ((dw r1 S1.m++S1.bas S1.m).map (·.1))=some ((dw r1 S1.m++S1.bas S1.m).map (·.2)))
  (h2:lkE (S1.obj S1.m) (S2.obj S2.m) (S1.obj S1.m)) (h3:pF c imp r1 r2) :
  DS C ops S2 (λ rev2=>(⟨dw rev2 S2.m++S2.bas S2.m,S2.obj S2.m⟩:AS).le ⟨dw r1 S1.m++S1.bas S1.m,S1.obj S1.m⟩∧pF c imp r1 rev2) [] k r2:=by
 refine ⟨⟨λ j x h=>?_,λ id cs h=>⟨cs,(wN h2 id cs h).trans h,Nat.le_refl _,λ i c d a b=>by rw [a] at b; cases b; exact AV.sub_refl _⟩⟩,h3⟩
 have:=uj h1 j x h
 unfold AS.get
 rw [this]
 exact AV.sub_refl _
theorem wy {C:Cx}{id:Nat}{ops:Array Oper}{Q:Exit→AS→Prop}{sl:List (Nat×AV)}{ob:List (Nat×List AV)}(S1 S2:eG){k0 k1 k2:Nat}{r:List Nat}(hm:C.P.follows .mixedOrders=true)
  (hi1:S1.imp=k0::k1::k2::r) (hi2:S2.imp=k0::k2::k1::r) (hlen1:S1.imp.length=S1.m) (hlen2:S2.imp.length=S2.m) (hob1:S1.obj 0=ob) (hob2:S2.obj 1=S1.obj 1) (hb:ec sl (S1.bas 0)) (hb2:S2.bas 1=S1.bas 1)
  (hbas1:∀ j,j < S1.m→ec (trL (S1.D j) (S1.bas j)) (S1.bas (j+1))) (hbas2:∀ j,j < S2.m→ec (trL (S2.D j) (S2.bas j)) (S2.bas (j+1)))
  (hnd:nodupB (k0::k1::k2::r)=true) (hin:(k0::k1::k2::r).all (λ i=>Nat.blt i ops.size)=true) (hch1:chainB ops (k0::k1::r)=true) (hch2:chainB ops (k0::k2::r)=true)
  (hord:(ops.toList.zipIdx.all λ p=>p.1.after.toList.all λ e=>!(Region.binds .any e)||Nat.blt e.on p.2)=true)
  (h:DS C ops S1 (λ rev1=>Q .normal ⟨dw rev1 S1.m++S1.bas S1.m,S1.obj S1.m⟩∧DS C ops S2 (λ rev2=>(⟨dw rev2 S2.m++S2.bas S2.m,S2.obj S2.m⟩:AS).le ⟨dw rev1 S1.m++S1.bas S1.m,S1.obj S1.m⟩∧pF 1 (k1::k2::r) rev1 rev2) ops.toList 0 []) ops.toList 0 []):awp C (.region id ops true) Q ⟨sl,ob⟩:=by
 intro g a w hs
 have hnd2:nodupB S2.imp=true:=by
  rw [hi2]
  simp only [nodupB,List.any_cons,Bool.not_or,Bool.and_eq_true,Bool.not_eq_true'] at hnd ⊢
  obtain ⟨⟨b1,b2,b3⟩,⟨a1,a2⟩,a3,a4⟩:=hnd
  refine ⟨⟨b2,b1,b3⟩,⟨?_,a3⟩,a2,a4⟩
  cases hq:Nat.beq k2 k1
  ·rfl
  ·rw [Nat.eq_of_beq_eq_true hq] at a1; rw [Nat.beq_refl] at a1; cases a1
 have hin2:S2.imp.all (λ i=>Nat.blt i ops.size)=true:=by
  rw [hi2]
  simp only [List.all_cons,Bool.and_eq_true] at hin ⊢
  exact ⟨hin.1,hin.2.2.1,hin.2.1,hin.2.2.2⟩
 obtain ⟨fin1,⟨hf1,h2⟩,hP1⟩:=u7.mk' hlen1 hbas1 (by rw [hi1]; exact hnd) (by rw [hi1]; exact hin) hord h
 obtain ⟨EE,⟨hf2,hag⟩,hP2⟩:=u7.mk' hlen2 hbas2 hnd2 hin2 hord h2
 have chain:∀ (x y:Nat) (S:eG),S.imp=k0::x::y::r→chainB ops (k0::y::r)=true→chainB ops (k0::x::r)=true→∀ (listed:Array Bool) (j i q:Nat),wC ops S listed j→i∈Region.ready .any ops listed→S.imp[q]? = some i→j < q→q=2∧j=1:=by
  intro x y S hS hcy hcx listed j i q hI hi hq hjq
  obtain ⟨h1,o,ho,hafter⟩:=mem_ready.1 hi
  have use:∀ z zi,S.imp[z]? = some zi→jU ops 4 o zi=true→z < j:=by
   intro z zi hz hb
   exact (hI.2.1 z zi hz).1 (hC hI.2.2 4 o zi hb hafter)
  match q,hq,hjq with
  | 0,_,hjq=>omega
  | 1,hq,hjq =>
   exfalso
   rw [hS] at hq
   have b1:=iT hcx 0 k0 i o Z (by simpa using hq) ho
   have:=use 0 k0 (by rw [hS]; rfl) b1
   omega
  | 2,hq,hjq =>
   rw [hS] at hq
   have b1:=iT hcy 0 k0 i o Z (by simpa using hq) ho
   have:=use 0 k0 (by rw [hS]; rfl) b1
   exact ⟨Z,by omega⟩
  | q+3,hq,hjq =>
   exfalso
   rw [hS] at hq
   simp only [List.getElem?_cons_succ] at hq
   have hql:q < r.length:=(List.getElem?_eq_some_iff.1 hq).1
   cases q with
   | zero =>
    have b1:=iT hcy 1 y i o Z (by simpa using hq) ho
    have:=use 2 y (by rw [hS]; rfl) b1
    omega
   | succ q =>
    have b1:=iT hcy (q+2) r[q] i o (by simp [List.getElem?_eq_getElem (show q < r.length by omega)]) (by simpa using hq) ho
    have:=use (q+3) r[q] (by rw [hS]; simp [List.getElem?_eq_getElem (show q < r.length by omega)]) b1
    omega
 have two:=lm hP2 hf2 hf1 2 (λ fuel listed g a w sl' j hj hat i q hi hq hjq=>by
  have:=chain k2 k1 S2 hi2 hch1 hch2 listed j i q hat.inv hi hq hjq; omega)
 refine wp_region_any hm ?_
 refine (lm hP1 (AS.le_refl _) hf1 0 ?_).1 _ _ g a _ sl 0 (Nat.zero_le _) (PAt.start hb (by rw [hob1]; exact hs.drew))
 intro fuel listed g a w sl' j _ hat i q hi hq hjq
 obtain ⟨rfl,rfl⟩:=chain k1 k2 S1 hi1 hch2 hch1 listed j i q hat.inv hi hq hjq
 have hik:i=k2:=by rw [hi1] at hq; simpa using hq.symm
 subst hik
 have hno:∀ k,(k1::i::r).any (Nat.beq k)=true→listed.getD k false=false:=by
  intro k hk
  obtain ⟨x,hx,hkx⟩:=List.any_eq_true.1 hk
  have:=Nat.eq_of_beq_eq_true hkx
  subst this
  obtain ⟨z,hz⟩:=List.mem_iff_getElem?.1 hx
  have:=hat.inv.2.1 (z+1) k (by rw [hi1]; simpa using hz)
  cases hl:listed.getD k false with
  | false=>rfl
  | true=>have:=this.1 hl; omega
 have hm2:1≤S2.m:=by rw [← hlen2,hi2]; simp
 refine two.2 fuel listed g a w sl' 1 i (.inr ⟨Nat.le_refl _,by rw [hi2]; rfl⟩) hi ⟨hat.sz,hat.un,⟨hm2,λ z k hz=>?_,hat.inv.2.2⟩,⟨λ z x hx=>hat.kn.1 z x (by rw [← hb2]; exact hx),λ k p hk hp=>?_⟩,by rw [hob2]; exact hat.st⟩
 ·cases z with
  | zero =>
   have hz0:k=k0:=by rw [hi2] at hz; simpa using hz.symm
   subst hz0
   have:=hat.inv.2.1 0 k (by rw [hi1]; rfl)
   exact this
  | succ z =>
   constructor
   ·intro hl
    have hmem:k∈(k1::i::r):=by
     have:=List.mem_of_getElem? (show (i::k1::r)[z]? = some k by rw [hi2] at hz; simpa using hz)
     simp only [List.mem_cons] at this ⊢
     rcases this with h | h | h
     ·exact .inr (.inl h)
     ·exact .inl h
     ·exact .inr (.inr h)
    rw [hno k (List.any_eq_true.2 ⟨k,hmem,by simp⟩)] at hl
    cases hl
   ·intro h; omega
 ·have hk':(k1::i::r).any (Nat.beq k)=false:=by
   cases hq:(k1::i::r).any (Nat.beq k) with
   | false=>rfl
   | true=>rw [hno k hq] at hk; cases hk
  obtain ⟨v,hv1,hv2⟩:=pW hag k p hk' hp
  have:=hat.kn.2 k _ hk hv1
  rw [← hv2]; exact this
theorem mSP {C:Cx}{Q:Exit→AS→Prop}{k:List Fr}{ops:Array Oper}{sl:List (Nat×AV)}{ob:List (Nat×List AV)}(S1 S2:eG){id k0 k1 k2:Nat}{r:List Nat}(hm:C.P.follows .mixedOrders=true)
  (hi1:S1.imp=k0::k1::k2::r) (hi2:S2.imp=k0::k2::k1::r) (hlen1:S1.imp.length=S1.m) (hlen2:S2.imp.length=S2.m) (hob1:S1.obj 0=ob) (hob2:S2.obj 1=S1.obj 1) (hb:ec sl (S1.bas 0)) (hb2:S2.bas 1=S1.bas 1)
  (hbas1:∀ j,j < S1.m→ec (trL (S1.D j) (S1.bas j)) (S1.bas (j+1))) (hbas2:∀ j,j < S2.m→ec (trL (S2.D j) (S2.bas j)) (S2.bas (j+1)))
  (hnd:nodupB (k0::k1::k2::r)=true) (hin:(k0::k1::k2::r).all (λ i=>Nat.blt i ops.size)=true) (hch1:chainB ops (k0::k1::r)=true) (hch2:chainB ops (k0::k2::r)=true)
  (hord:(ops.toList.zipIdx.all λ p=>p.1.after.toList.all λ e=>!(Region.binds .any e)||Nat.blt e.on p.2)=true)
  (h:DS C ops S1 (λ rev1=>M C Q ⟨.ex .normal,k,⟨dw rev1 S1.m++S1.bas S1.m,S1.obj S1.m⟩⟩∧DS C ops S2 (λ rev2=>(⟨dw rev2 S2.m++S2.bas S2.m,S2.obj S2.m⟩:AS).le ⟨dw rev1 S1.m++S1.bas S1.m,S1.obj S1.m⟩∧pF 1 (k1::k2::r) rev1 rev2) ops.toList 0 []) ops.toList 0 []) :
  M C Q ⟨.cd (.region id ops true),k,⟨sl,ob⟩⟩ :=
 wy S1 S2 hm hi1 hi2 hlen1 hlen2 hob1 hob2 hb hb2 hbas1 hbas2 hnd hin hch1 hch2 hord h
end Go.Ab
end
section
namespace Go.Ab
open Go
def tmO:Operand→List Nat
 | .tmp t=>[t]
 | _=>[]
def tmL:List (Nat×Operand)→List Nat
 | []=>[]
 | (_,x)::r=>tmO x++tmL r
def opR (o:Oper):List Nat:=match o.op with
 | .move x=>tmO x
 | .assign x=>tmO x
 | .pick c x y=>tmO c++(tmO x++tmO y)
 | .binOp _ _ x y _=>tmO x++tmO y
 | .unOp _ _ x=>tmO x
 | .fieldAddr _ x _=>tmO x
 | .load _ x=>tmO x
 | .nilCheck x=>tmO x
 | .extract x _=>tmO x
 | .field _ x _=>tmO x
 | .convert _ _ x=>tmO x
 | .build _ parts=>tmL parts.toList
 | .store _ x v=>tmO x++tmO v
 | _=>[]
def nN (o:Oper):Bool:=match o.op with
 | .call _=>false
 | _=>true
def knKS:fe→Nat→Option Nat
 | [],_=>none
 | (k,d,_)::r,i=>bif Nat.beq d i then some k else knKS r i
def EV (bas:List (Nat×AV))(o:Oper)(rev:fe)(j i:Nat):Option AV:=match look bas i with
 | some x=>some x
 | none=>(match knKS rev i with
  | some k=>(match gu o k with
   | true=>(match cV rev k with
    | some (i',v)=>(match Nat.beq i' i with
     | true=>some (v j)
     | false=>none)
    | none=>none)
   | false=>none)
  | none=>none)
def vI (bas:List (Nat×AV))(o:Oper)(rev:fe)(j:Nat):List Nat→List (Nat×AV)
 | []=>[]
 | i::r=>(match EV bas o rev j i with
  | some x=>(i,x)::vI bas o rev j r
  | none=>vI bas o rev j r)
theorem CJ {bas:List (Nat×AV)}{o:Oper}{rev:fe}{j i:Nat}{x:AV}(h:EV bas o rev j i=some x):look bas i=some x∨∃ k v,gu o k=true∧cV rev k=some (i,v)∧v j=x:=by
 unfold EV at h
 split at h
 ·rename_i y hy; cases h; exact .inl hy
 ·split at h
  ·rename_i k hk
   split at h
   ·rename_i hb
    split at h
    ·rename_i i' v hl
     split at h
     ·rename_i hi
      cases h
      exact .inr ⟨k,v,hb,by rw [hl,Nat.eq_of_beq_eq_true hi],Z⟩
     ·cases h
    ·cases h
   ·cases h
  ·cases h
theorem kw {bas:List (Nat×AV)}{o:Oper}{rev:fe}{j:Nat}:∀ (l:List Nat),KnS bas o rev j (vI bas o rev j l)
 | []=>trivial
 | i::r=>by
  unfold vI
  split
  ·rename_i x hx; exact ⟨CJ hx,kw r⟩
  ·exact kw r
section
variable {kn sl:List (Nat×AV)} {ob:List (Nat×List AV)} {C:Cx} {o:Oper}
theorem wx {F:Option AV→Option AV}{x:Operand}{y:AV}(hs:∀ i x,look kn i=some x→look sl i=some x)(hF:F none=none)(h:F (evo kn x)=some y):F (evo sl x)=some y:=by
 cases hx:evo kn x with
 | none=>rw [hx,hF] at h; cases h
 | some v=>rw [hx] at h; rw [gr hs hx]; exact h
theorem Ck {c x y:Operand}{z:AV}(hs:∀ i x,look kn i=some x→look sl i=some x)(h:pkP kn x y (evo kn c)=some z):pkP sl x y (evo sl c)=some z:=by
 cases hc:evo kn c with
 | none=>rw [hc] at h; cases h
 | some v =>
  rw [hc] at h
  rw [gr hs hc]
  unfold pkP at h ⊢
  split at h
  ·exact gr hs h
  ·exact gr hs h
  ·cases h
theorem Du {op:BinOp}{t:TypeId}(Y0z:Option AV):bnP C op t none Y0z=none:=by
 unfold bnP
 split <;> first | rfl | contradiction | (rename_i h _; cases h) | (rename_i h; cases h)
theorem AZ {op:BinOp}{t:TypeId}(X:Option AV):bnP C op t X none=none:=by
 unfold bnP
 split <;> first | rfl | contradiction | (rename_i h _; cases h) | (rename_i h; cases h)
theorem C6 {op:BinOp}{t:TypeId}{x y:Operand}{z:AV}(hs:∀ i x,look kn i=some x→look sl i=some x)(h:bnP C op t (evo kn x) (evo kn y)=some z):bnP C op t (evo sl x) (evo sl y)=some z:=by
 cases hx:evo kn x with
 | none=>rw [hx,Du] at h; cases h
 | some v =>
  cases hy:evo kn y with
  | none=>rw [hy,AZ] at h; cases h
  | some u =>
   rw [hx,hy] at h
   rw [gr hs hx,gr hs hy]; exact h
theorem rD (hs:∀ i x,look kn i=some x→look sl i=some x):∀ {ps:List (Nat×Operand)} {l:List (Nat×AV)},fY kn ps=some l→fY sl ps=some l
 | [],l,h=>h
 | (i,x)::r,l,h=>by
  unfold fY at h ⊢
  cases hx:evo kn x with
  | none=>rw [hx] at h; cases h
  | some v =>
   cases hr:fY kn r with
   | none=>rw [hx,hr] at h; cases h
   | some m =>
    rw [hx,hr] at h
    rw [gr hs hx,rD hs hr]; exact h
theorem Dd {t f:Nat}:faP C t f none=none:=by
 unfold faP
 repeat' split
 all_goals first | rfl | contradiction
theorem DW {t:Nat}:ldP C ob t none=none:=by
 unfold ldP
 repeat' split
 all_goals first | rfl | contradiction
theorem CQ {t f:Nat}:flP C t f none=none:=by
 unfold flP
 repeat' split
 all_goals first | rfl | contradiction
theorem Co {t f:Nat}:cvP C t f none=none:=by
 unfold cvP
 repeat' split
 all_goals first | rfl | contradiction
theorem Cv {t:Nat}:buP C t none=none:=by
 unfold buP
 repeat' split
 all_goals first | rfl | contradiction
theorem Di {t:Nat}{ps:List (Nat×Operand)}{y:AV}(hs:∀ i x,look kn i=some x→look sl i=some x)(h:buP C t (fY kn ps)=some y):buP C t (fY sl ps)=some y:=by
 cases hp:fY kn ps with
 | none=>rw [hp,Cv] at h; cases h
 | some l=>rw [hp] at h; rw [rD hs hp]; exact h
theorem uN {y:AV}(hs:∀ i x,look kn i=some x→look sl i=some x)(hc:nN o=true)(h:opV C o kn ob=some y):opV C o sl ob=some y:=by
 unfold opV nN at *
 cases ho:o.op <;> simp only [ho] at h hc ⊢
 all_goals first
  | (cases h; done)
  | exact gr hs h
  | exact Ck hs h
  | exact C6 hs h
  | exact wx (F:=faP C _ _) hs Dd h
  | exact wx (F:=ldP C ob _) hs DW h
  | exact wx (F:=ncP) hs Z h
  | exact wx (F:=xtP _) hs Z h
  | exact wx (F:=flP C _ _) hs CQ h
  | exact wx (F:=cvP C _ _) hs Co h
  | exact Di hs h
  | (cases hc; done)
  | skip
 all_goals (rename_i op _ _; cases op <;> simp only at h ⊢)
 all_goals first
  | (cases h; done)
  | exact wx (F:=ntP) hs Z h
def stV (C:Cx)(o:Oper)(kn:List (Nat×AV))(ob:List (Nat×List AV)):Option (List (Nat×List AV)):=match o.op with
 | .store t x v=>(match look C.tt t with
  | some i=>(match evo kn x with
   | some (.ptr id k)=>(match evo kn v with
    | some y=>(match y.cellsA with
     | some xs=>(match Nat.beq xs.length i.size with
      | true=>(match look ob id with
       | some cs=>(match Nat.ble (k+xs.length) cs.length with
        | true=>some ((id,kC cs k xs)::ob)
        | false=>none)
       | none=>none)
      | false=>none)
     | none=>none)
    | none=>none)
   | _=>none)
  | none=>none)
 | _=>none
theorem EZ {ops:Array Oper}{ob':List (Nat×List AV)}{K:AS→Prop}(h:stV C o kn ob=some ob')(hg:o.guard=none)(hd:o.dst=none)(hs:∀ i x,look kn i=some x→look sl i=some x)(hK:K ⟨sl,ob'⟩):One C ops o K ⟨sl,ob⟩:=by
 unfold stV at h
 split at h
 ·rename_i t x v ho
  split at h
  ·rename_i i hi
   split at h
   ·rename_i id k hx
    split at h
    ·rename_i y hv
     split at h
     ·rename_i xs hc
      split at h
      ·rename_i hsz
       split at h
       ·rename_i cs hob
        split at h
        ·rename_i hl
         cases h
         exact ap hg (lg ho hd hi (gr hs hx) (gr hs hv) hc (Nat.eq_of_beq_eq_true hsz) hob (Nat.le_of_ble_eq_true hl) hK)
        ·cases h
       ·cases h
      ·cases h
     ·cases h
    ·cases h
   ·cases h
  ·cases h
 ·cases h
end
section
variable {C:Cx} {ops:Array Oper} {S:eG} {K:fe→Prop} {o:Oper} {k:Nat} {rev:fe} {d:Nat}
def sV (C:Cx)(ops:Array Oper)(S:eG)(o:Oper)(R:List Nat)(k:Nat)(rev:fe)(v:Nat→AV)(j:Nat):Option AV:=match kG ops S.imp o k j with
 | true=>opV C o (vI (S.bas j) o rev j R) (S.obj j)
 | false=>some (v j)
def sL (C:Cx)(ops:Array Oper)(S:eG)(o:Oper)(R:List Nat)(k:Nat)(rev:fe)(v:Nat→AV):Nat→List (Option AV)
 | 0=>[]
 | j+1=>sV C ops S o R k rev v j::sL C ops S o R k rev v j
def gL (ops:Array Oper)(S:eG)(o:Oper)(R:List Nat)(k:Nat)(rev:fe)(t:Nat)(x:AV):Nat→List (Option AV)
 | 0=>[]
 | j+1=>(match kG ops S.imp o k j with
  | true=>look (vI (S.bas j) o rev j R) t
  | false=>some x)::gL ops S o R k rev t x j
def vL (v:Nat→AV):Nat→List (Option AV)
 | 0=>[]
 | j+1=>some (v j)::vL v j
theorem Ed {v:Nat→AV}(hg:o.guard=none)(hd:o.dst=some d)(hn:Nat.blt d C.n=true)(hc:nN o=true):∀ {m:Nat},sL C ops S o (opR o) k rev v m=vL v m→Stg C ops S o k rev d v m
 | 0,_=>trivial
 | j+1,h=>by
  have h1:sV C ops S o (opR o) k rev v j=some (v j):=(List.cons.inj h).1
  refine ⟨λ ha=>?_,Ed hg hd hn hc (List.cons.inj h).2⟩
  unfold sV at h1
  rw [ha] at h1
  exact ⟨_,kw _,λ sl hs K hK=>ap hg (qT (uN hs hc h1) hd hn hK)⟩
def cL (S:eG)(d:Nat):Nat→List (Option AV)
 | 0=>[]
 | j+1=>look (S.bas j) d::cL S d j
def nL:Nat→List (Option AV)
 | 0=>[]
 | j+1=>none::nL j
def aL (v:Nat→AV):Nat→List AV
 | 0=>[]
 | j+1=>v (j+1)::aL v j
def bL (S:eG)(v:Nat→AV):Nat→List AV
 | 0=>[]
 | j+1=>trA (S.D j) (v j)::bL S v j
theorem zX:∀ {m:Nat},cL S d m=nL m→∀ j,j < m→look (S.bas j) d=none
 | 0,_,j,h=>absurd h (Nat.not_lt_zero _)
 | m+1,h,j,hj=>by
  by_cases e:j=m
  ·subst e; exact (List.cons.inj h).1
  ·exact zX (List.cons.inj h).2 j O
theorem sy {v:Nat→AV}:∀ {m:Nat},aL v m=bL S v m→∀ j,j < m→v (j+1)=trA (S.D j) (v j)
 | 0,_,j,h=>absurd h (Nat.not_lt_zero _)
 | m+1,h,j,hj=>by
  by_cases e:j=m
  ·subst e; exact (List.cons.inj h).1
  ·exact sy (List.cons.inj h).2 j O
theorem dP {rest:List Oper}(v:Nat→AV)
  (e:(o.dst,S.imp.findIdx? (Nat.beq k),o.guard,nN o,(rev.all λ p=>!(Nat.beq p.2.1 d)),Nat.blt d C.n,cL S d S.m,(λ j=>look (S.bas (j+S.m)) d),aL v S.m,sL C ops S o (opR o) k rev v (S.m+1))=(some d,none,none,true,true,true,nL S.m,(λ _=>none),bL S v S.m,vL v (S.m+1)))
  (h:DS C ops S K rest (k+1) ((k,d,v)::rev)):DS C ops S K (o::rest) k rev:=by
 simp only [Prod.mk.injEq] at e
 obtain ⟨e1,e2,e3,e4,e5,e6,e7,e8,e9,e10⟩:=e
 refine aR v e2 e1 e5 (λ j=>?_) (sy e9) (Ed e3 e1 e6 e4 e10) h
 by_cases hj:j < S.m
 ·exact zX e7 j hj
 ·have:look (S.bas (j - S.m+S.m)) d=none:=congrFun e8 (j - S.m)
  rwa [show j - S.m+S.m=j by omega] at this
theorem dPc {rest:List Oper}(y:AV)
  (e:(o.dst,S.imp.findIdx? (Nat.beq k),o.guard,nN o,(rev.all λ p=>!(Nat.beq p.2.1 d)),Nat.blt d C.n,cL S d S.m,(λ j=>look (S.bas (j+S.m)) d),aL (λ _=>y) S.m,sL C ops S o (opR o) k rev (λ _=>y) (S.m+1))=(some d,none,none,true,true,true,nL S.m,(λ _=>none),bL S (λ _=>y) S.m,vL (λ _=>y) (S.m+1)))
  (h:DS C ops S K rest (k+1) ((k,d,λ _=>y)::rev)):DS C ops S K (o::rest) k rev:=dP (λ _=>y) e h
theorem dS {rest:List Oper}{i:Nat}
  (e:(S.imp.findIdx? (Nat.beq k),o.dst,o.guard,S.D i,stV C o (vI (S.bas i) o rev i (opR o)) (S.obj i))=(some i,none,none,Tr.none,some (S.obj (i+1))))
  (h:DS C ops S K rest (k+1) rev):DS C ops S K (o::rest) k rev:=by
 simp only [Prod.mk.injEq] at e
 obtain ⟨e1,e2,e3,e4,e5⟩:=e
 refine jy _ e1 (kw (opR o)) e2 (λ sl hs K hK=>?_) h
 rw [e4] at hK
 exact EZ e5 e3 e2 hs hK
theorem tw (e7:cL S d S.m=nL S.m)(e8:(λ j=>look (S.bas (j+S.m)) d)=λ _=>none)(j:Nat):look (S.bas j) d=none:=by
 by_cases hj:j < S.m
 ·exact zX e7 j hj
 ·have:look (S.bas (j - S.m+S.m)) d=none:=congrFun e8 (j - S.m)
  rwa [show j - S.m+S.m=j by omega] at this
theorem Bq {v:Nat→AV}{R:List Nat}{w b:Bool}{g t:Nat}(hb:b=w)(hg:o.guard=some (g,w))(hj:(ops.toList[g]?).bind (·.dst)=some t)(hd:o.dst=some d)(hn:Nat.blt d C.n=true)(hc:nN o=true) :
  ∀ {m:Nat},gL ops S o R k rev t (.p (.val (.bool b))) m=vL (λ _=>.p (.val (.bool b))) m→sL C ops S o R k rev v m=vL v m→Stg C ops S o k rev d v m
 | 0,_,_=>trivial
 | j+1,hG,h=>by
  have h1:sV C ops S o R k rev v j=some (v j):=(List.cons.inj h).1
  have h2:=(List.cons.inj hG).1
  refine ⟨λ ha=>?_,Bq hb hg hj hd hn hc (List.cons.inj hG).2 (List.cons.inj h).2⟩
  unfold sV at h1
  rw [ha] at h1 h2
  exact ⟨_,kw _,λ sl hs K hK=>fw (qT (uN hs hc h1) hd hn hK) hg hj (hs _ _ h2) hb⟩
theorem dPy {rest:List Oper}{w b:Bool}{g t:Nat}(v:Nat→AV)(hb:b=w)
  (e:(o.dst,o.guard,(ops.toList[g]?).bind (·.dst),S.imp.findIdx? (Nat.beq k),nN o,(rev.all λ p=>!(Nat.beq p.2.1 d)),Nat.blt d C.n,cL S d S.m,(λ j=>look (S.bas (j+S.m)) d),aL v S.m,gL ops S o (t::opR o) k rev t (.p (.val (.bool b))) (S.m+1),sL C ops S o (t::opR o) k rev v (S.m+1))=(some d,some (g,w),some t,none,true,true,true,nL S.m,(λ _=>none),bL S v S.m,vL (λ _=>.p (.val (.bool b))) (S.m+1),vL v (S.m+1)))
  (h:DS C ops S K rest (k+1) ((k,d,v)::rev)):DS C ops S K (o::rest) k rev:=by
 simp only [Prod.mk.injEq] at e
 obtain ⟨e1,e2,e3,e4,e5,e6,e7,e8,e9,e10,e11,e12⟩:=e
 exact aR v e4 e1 e6 (tw e8 e9) (sy e10) (Bq hb e2 e3 e1 e7 e5 e11 e12) h
theorem Bn {R:List Nat}{w b:Bool}{g t:Nat}(hb:b=!w)(hg:o.guard=some (g,w))(hj:(ops.toList[g]?).bind (·.dst)=some t)(hd:o.dst=some d)(hn:Nat.blt d C.n=true) :
  ∀ {m:Nat},gL ops S o R k rev t (.p (.val (.bool b))) m=vL (λ _=>.p (.val (.bool b))) m→Stg C ops S o k rev d (λ _=>.p (.val Go.undef)) m
 | 0,_=>trivial
 | j+1,hG=>by
  have h2:=(List.cons.inj hG).1
  refine ⟨λ ha=>?_,Bn hb hg hj hd hn (List.cons.inj hG).2⟩
  rw [ha] at h2
  exact ⟨_,kw _,λ sl hs K hK=>zY hg hj (hs _ _ h2) hb hd hn hK⟩
theorem dPn {rest:List Oper}{w b:Bool}{g t:Nat}(hb:b=!w)
  (e:(o.dst,o.guard,(ops.toList[g]?).bind (·.dst),S.imp.findIdx? (Nat.beq k),(rev.all λ p=>!(Nat.beq p.2.1 d)),Nat.blt d C.n,cL S d S.m,(λ j=>look (S.bas (j+S.m)) d),aL (λ _=>.p (.val Go.undef)) S.m,gL ops S o [t] k rev t (.p (.val (.bool b))) (S.m+1))=(some d,some (g,w),some t,none,true,true,nL S.m,(λ _=>none),bL S (λ _=>.p (.val Go.undef)) S.m,vL (λ _=>.p (.val (.bool b))) (S.m+1)))
  (h:DS C ops S K rest (k+1) ((k,d,λ _=>.p (.val Go.undef))::rev)):DS C ops S K (o::rest) k rev:=by
 simp only [Prod.mk.injEq] at e
 obtain ⟨e1,e2,e3,e4,e6,e7,e8,e9,e10,e11⟩:=e
 exact aR _ e4 e1 e6 (tw e8 e9) (sy e10) (Bn hb e2 e3 e1 e7 e11) h
theorem Au {R:List Nat}{w:Bool}{g t:Nat}(hg:o.guard=some (g,w))(hj:(ops.toList[g]?).bind (·.dst)=some t)(hd:o.dst=some d)(hn:Nat.blt d C.n=true) :
  ∀ {m:Nat},gL ops S o R k rev t (.p (.val Go.undef)) m=vL (λ _=>.p (.val Go.undef)) m→Stg C ops S o k rev d (λ _=>.p (.val Go.undef)) m
 | 0,_=>trivial
 | j+1,hG=>by
  have h2:=(List.cons.inj hG).1
  refine ⟨λ ha=>?_,Au hg hj hd hn (List.cons.inj hG).2⟩
  rw [ha] at h2
  exact ⟨_,kw _,λ sl hs K hK=>uZ hg hj (hs _ _ h2) hd hn hK⟩
theorem dPx {rest:List Oper}{w:Bool}{g t:Nat}
  (e:(o.dst,o.guard,(ops.toList[g]?).bind (·.dst),S.imp.findIdx? (Nat.beq k),(rev.all λ p=>!(Nat.beq p.2.1 d)),Nat.blt d C.n,cL S d S.m,(λ j=>look (S.bas (j+S.m)) d),aL (λ _=>.p (.val Go.undef)) S.m,gL ops S o [t] k rev t (.p (.val Go.undef)) (S.m+1))=(some d,some (g,w),some t,none,true,true,nL S.m,(λ _=>none),bL S (λ _=>.p (.val Go.undef)) S.m,vL (λ _=>.p (.val Go.undef)) (S.m+1)))
  (h:DS C ops S K rest (k+1) ((k,d,λ _=>.p (.val Go.undef))::rev)):DS C ops S K (o::rest) k rev:=by
 simp only [Prod.mk.injEq] at e
 obtain ⟨e1,e2,e3,e4,e6,e7,e8,e9,e10,e11⟩:=e
 exact aR _ e4 e1 e6 (tw e8 e9) (sy e10) (Au e2 e3 e1 e7 e11) h
end
def lkM (s:List (Nat×List AV)):List (Nat×List AV)→List (Option (List AV))
 | []=>[]
 | (j,_)::r=>look s j::lkM s r
def smM:List (Nat×List AV)→List (Option (List AV))
 | []=>[]
 | (_,cs)::r=>some cs::smM r
theorem qK {s:List (Nat×List AV)}:∀ {t:List (Nat×List AV)},lkM s t=smM t→leO s t
 | [],_=>trivial
 | (j,cs)::r,h=>⟨⟨cs,(List.cons.inj h).1,aE cs⟩,qK (List.cons.inj h).2⟩
theorem qO:∀ l:List AV,nz l l
 | []=>trivial
 | x::r=>⟨AV.sub_refl x,qO r⟩
def lkB (sl:List (Nat×AV)):List (Nat×AV)→List (Option AV)
 | []=>[]
 | (i,_)::r=>look sl i::lkB sl r
def smB:List (Nat×AV)→List (Option AV)
 | []=>[]
 | (_,x)::r=>some x::smB r
theorem pt {sl:List (Nat×AV)}:∀ {b:List (Nat×AV)},lkB sl b=smB b→ec sl b
 | [],_=>trivial
 | (i,x)::r,h=>⟨(List.cons.inj h).1,pt (List.cons.inj h).2⟩
def lkS (S:eG):Nat→List (List (Option AV))
 | 0=>[]
 | j+1=>lkB (trL (S.D j) (S.bas j)) (S.bas (j+1))::lkS S j
def smS (S:eG):Nat→List (List (Option AV))
 | 0=>[]
 | j+1=>smB (S.bas (j+1))::smS S j
theorem qP {S:eG}:∀ {m:Nat},lkS S m=smS S m→∀ j,j < m→ec (trL (S.D j) (S.bas j)) (S.bas (j+1))
 | 0,_,j,h=>absurd h (Nat.not_lt_zero _)
 | m+1,h,j,hj=>by
  by_cases e:j=m
  ·subst e; exact pt (List.cons.inj h).1
  ·exact qP (List.cons.inj h).2 j O
section
variable {C:Cx} {Q:Exit→AS→Prop} {K:AS→Prop} {sl:List (Nat×AV)} {ob:List (Nat×List AV)} {o:Oper} {d:Nat} {s:AS} {k:List Fr} {ops:Array Oper}
theorem cVq (ids vids:List Nat)(NB NE:Nat){f:FuncId}{args:Array Operand}{ts:Array TypeId}{l q:List AV}{obs qo rob ob':List (Nat×List AV)}{r r':AV}(hc:cv C.P f q qo (λ x y=>x=r∧y=rob))(henter:∀ vs w,(callFunc f vs).run C.P w=.ok (.enter f vs) w)
  (e:(o.op,o.dst,Nat.blt d C.n,iU sl args.toList,AV.mapA.go (iW ids vids) l,gg ob ids,ga (iW ids vids) obs,lkM qo qo,nodupB ids,ids.all (λ i=>Nat.blt i (2*M1)),Nat.ble ids.length M1,Nat.ble NE M1,ids.all (λ i=>!(cK vids NB NE i)),nodupB vids,vids.all (λ i=>Nat.blt i M1),Nat.ble vids.length 100000,r.mapA (iL ids NB NE),ga (iL ids NB NE) rob)=(.call { callee:=.value (.func f),args:=args,argTypes:=ts },some d,true,some l,some q,some obs,some qo,smM qo,true,true,true,true,true,true,true,true,some r',some ob'))
  (hK:K ⟨(d,r')::(cX (cK vids NB NE) ⟨sl,ob⟩).sl,ob'++(cX (cK vids NB NE) ⟨sl,ob.filter λ p=>!(ids.any (Nat.beq p.1))⟩).ob⟩):bn C o K ⟨sl,ob⟩:=by
 simp only [Prod.mk.injEq] at e
 obtain ⟨e1,e2,e3,e4,e5,e6,e7,e8,e9,e10,e11,e12,e13,e14,e15,e16,e17,e18⟩:=e
 exact bq ids vids NB NE hc e1 e2 e3 e4 e5 (qO _) e6 e7 (qK e8) e9 e10 e11 e12 e13 e14 e15 e16 henter e17 e18 hK
theorem fC {β:Type}{v v0:β}{tt:List (Nat×TI)}{fn:Func}{ts ids:List Nat}{mk:β→AV}{mo:β→List (Nat×List AV)}{obs:List (Nat×List AV)}{l:List AV}(e:some v=some v0)
  (h:(ke tt fn.results.toList s,(nD l).mapA (kd ts),gg s.ob ids,ga (kd ts) obs,lkM (mo v) (mo v))=(some l,some (mk v),some obs,some (mo v),smM (mo v))):M C (λ e s=>∃ v,v=v0∧qM C tt fn ts ids (mk v) (mo v) e s) ⟨.ex .ret,[],s⟩:=by
 simp only [Prod.mk.injEq] at h
 obtain ⟨h1,h2,h3,h4,h5⟩:=h
 exact mQo (Option.some.inj e) (au _) h1 h2 h3 h4 (AV.sub_refl _) (qK h5)
theorem mSq (S:eG){id:Nat}
  (e:(C.P.follows .mixedOrders,S.imp.length,S.obj 0,lkB sl (S.bas 0),lkS S S.m,nodupB S.imp,S.imp.all (λ i=>Nat.blt i ops.size),chainB ops S.imp,(ops.toList.zipIdx.all λ p=>p.1.after.toList.all λ e=>!(Region.binds .any e)||Nat.blt e.on p.2))=(true,S.m,ob,smB (S.bas 0),smS S S.m,true,true,true,true))
  (h:DS C ops S (λ rev=>M C Q ⟨.ex .normal,k,⟨dw rev S.m++S.bas S.m,S.obj S.m⟩⟩) ops.toList 0 []):M C Q ⟨.cd (.region id ops true),k,⟨sl,ob⟩⟩:=by
 simp only [Prod.mk.injEq] at e
 obtain ⟨e1,e2,e3,e4,e5,e6,e7,e8,e9⟩:=e
 exact mS S e1 e2 e3 (pt e4) (qP e5) e6 e7 e8 e9 h
end
def ob2 (A:List (Nat×List AV))(x:Nat×List AV):Nat→List (Nat×List AV)
 | 0=>A
 | _+1=>x::A
def ob3 (A:List (Nat×List AV))(x y:Nat×List AV):Nat→List (Nat×List AV)
 | 0=>A
 | 1=>x::A
 | _+2=>y::x::A
def ob5 (A:List (Nat×List AV))(x y z u:Nat×List AV):Nat→List (Nat×List AV)
 | 0=>A
 | 1=>x::A
 | 2=>y::x::A
 | 3=>z::y::x::A
 | _+4=>u::z::y::x::A
end Go.Ab
end
section
namespace Go.Ab
open Go
class HP (h:Prop) (P:outParam Program) (f:outParam FuncId) (q:outParam (List PV)) (x:outParam AV):Prop where
 c:h→bF P f q (·=x)
class HO (h:Prop) (P:outParam Program) (f:outParam FuncId) (q:outParam (List AV)) (qo:outParam (List (Nat×List AV))) (x:outParam AV) (y:outParam (List (Nat×List AV))):Prop where
 c:h→cv P f q qo (λ a b=>a=x∧b=y)
class HC {α:Type} (f:α→PV) (cs:outParam (α→List PV)):Prop where
 c:∀ x,(f x).cells=cs x
class HE (P:Program) (f:FuncId):Prop where
 e:∀ vs w,(callFunc f vs).run P w=.ok (.enter f vs) w
def uR {α:Type}:List Nat→List (Nat×α)→Option (List (Nat×α))
 | _,[]=>some []
 | seen,(i,x)::r=>(match seen.any (Nat.beq i) with
  | true=>uR seen r
  | false=>(match uR (i::seen) r with
   | some l=>some ((i,x)::l)
   | none=>none))
theorem uc:∀ {sl:List (Nat×AV)} {seen:List Nat} {b:List (Nat×AV)},uR seen sl=some b→∀ p∈b,seen.any (Nat.beq p.1)=false∧look sl p.1=some p.2
 | [],seen,b,h,p,hp=>by simp only [uR,Option.some.injEq] at h; subst h; simp at hp
 | (i,x)::r,seen,b,h,p,hp=>by
  unfold uR at h
  split at h
  ·rename_i hs
   obtain ⟨h1,h2⟩:=uc h p hp
   refine ⟨h1,?_⟩
   rw [ba,if_neg (λ e=>by subst e; rw [h1] at hs; cases hs)]; exact h2
  ·rename_i hs
   split at h
   ·rename_i l hl
    cases h
    rcases List.mem_cons.1 hp with rfl | hp
    ·exact ⟨hs,by rw [ba,if_pos Z]⟩
    ·obtain ⟨h1,h2⟩:=uc hl p hp
     rw [List.any_cons,Bool.or_eq_false_iff] at h1
     refine ⟨h1.2,?_⟩
     rw [ba,if_neg (λ e=>by have:=h1.1; rw [← e] at this; simp at this)]; exact h2
   ·cases h
theorem base_of {sl:List (Nat×AV)}:∀ {b:List (Nat×AV)},(∀ p∈b,look sl p.1=some p.2)→ec sl b
 | [],_=>trivial
 | (i,x)::r,h=>⟨h (i,x) (List.mem_cons_self ..),base_of λ p hp=>h p (List.mem_cons_of_mem _ hp)⟩
theorem vc {sl b:List (Nat×AV)}(h:uR [] sl=some b):ec sl b:=base_of λ p hp=>(uc h p hp).2
def tkZ:Nat→List (Nat×AV)→Option (List Nat)
 | 0,_=>some []
 | n+1,(i,_)::r=>(match tkZ n r with
  | some l=>some (i::l)
  | none=>none)
 | _,[]=>none
def Cy:List AV→List Nat→Option (List Nat)
 | [],_=>some []
 | .ptr i _::r,s=>(match s.any (Nat.beq i) with
  | true=>Cy r s
  | false=>(match Cy r (i::s) with
   | some l=>some (i::l)
   | none=>none))
 | .p _::r,s=>Cy r s
 | _::_,_=>none
def idsO (sl:List (Nat×AV))(o:Oper):Option (List Nat):=match o.op with
 | .call c=>(match iU sl c.args.toList with
  | some l=>Cy l []
  | none=>none)
 | _=>none
def gdS (ops:Array Oper)(o:Oper):Option Nat:=match o.guard with
 | some (j,_)=>(ops.toList[j]?).bind (·.dst)
 | none=>none
def biK (o:Oper)(kn:List (Nat×AV)):Option (BinOp×AV×AV):=match o.op with
 | .binOp op _ x y _=>(match evo kn x with
  | some X=>(match evo kn y with
   | some Y0z=>some (op,X,Y0z)
   | none=>none)
  | none=>none)
 | _=>none
theorem xN:∀ {b:List (Nat×AV)},nodupB (b.map (·.1))=true→∀ {p},p∈b→look b p.1=some p.2
 | [],_,p,hp=>by simp at hp
 | (i,x)::r,h,p,hp=>by
  simp only [List.map_cons,nodupB,Bool.and_eq_true,Bool.not_eq_true'] at h
  rcases List.mem_cons.1 hp with rfl | hp
  ·rw [ba,if_pos rfl]
  ·rw [ba,if_neg ?_]
   ·exact xN h.2 hp
   ·intro e
    have h1:=h.1
    rw [List.any_eq_false] at h1
    exact h1 p.1 (List.mem_map.2 ⟨p,hp,Z⟩) (by simp [e])
def rgG (C:Cx)(ops:Array Oper):List Oper→Nat→List (Nat×AV)→List (Nat×List AV)→Option (List Nat×List (List (Nat×List AV)))
 | [],_,_,_=>some ([],[])
 | o::r,k,sl,ob=>(match o.dst with
  | some d=>(match oV C ops o sl ob with
   | some y=>rgG C ops r (k+1) ((d,y)::sl) ob
   | none=>(match biK o sl with
    | some (op,.p (.val (.int .i64 x)),.p (.val (.int .i64 y)))=>(match arI op x y with
     | some c=>rgG C ops r (k+1) ((d,.p (eI c))::sl) ob
     | none=>none)
    | _=>none))
  | none=>(match stV C o sl ob with
   | some ob'=>(match rgG C ops r (k+1) sl ob' with
    | some (im,obs)=>some (k::im,ob'::obs)
    | none=>none)
   | none=>none))
def CY (A:List (Nat×List AV)):List (List (Nat×List AV))→Nat→List (Nat×List AV)
 | _,0=>A
 | [],_+1=>A
 | x::r,n+1=>CY x r n
section
variable {C:Cx} {Q:Exit→AS→Prop} {K:AS→Prop} {k:List Fr} {sl b:List (Nat×AV)} {ob:List (Nat×List AV)} {ops:Array Oper} {r:List Oper} {o:Oper} {d:Nat}
def goOn:Ct→List Fr→Bool
 | .ex _,[]=>false
 | .ex .normal,.jo _::_=>false
 | .ex (.exit i),.je id _::_=>!(Nat.beq i id)
 | _,_=>true
theorem nxg (n:Nat){c:Ct}{s:AS}{c':Cf}(_:goOn c k=true)(h:run C n ⟨c,k,s⟩=some c')(hM:M C Q c'):M C Q ⟨c,k,s⟩:=nx n h hM
theorem mDa {id:Nat}(hn:uR [] sl=some b)(e:(C.P.follows .mixedOrders,ops.toList.all (λ o=>o.dst.isSome),(ops.toList.zipIdx.all λ p=>p.1.after.toList.all λ e=>!(Region.binds .any e)||Nat.blt e.on p.2))=(true,true,true))
  (h:DQ C ops b ob (λ s'=>M C Q ⟨.ex .normal,k,s'⟩) ops.toList 0 []):M C Q ⟨.cd (.region id ops true),k,⟨sl,ob⟩⟩:=by
 simp only [Prod.mk.injEq] at e
 exact mD b e.1 (vc hn) e.2.2 h
theorem mA {id:Nat}{im:List Nat}{obs:List (List (Nat×List AV))}{Z0z:Prop}(hn:uR [] sl=some b)(hr:rgG C ops ops.toList 0 b ob=some (im,obs))
  (e:(C.P.follows .mixedOrders,nodupB (b.map (·.1)),nodupB im,im.all (λ i=>Nat.blt i ops.size),chainB ops im,(ops.toList.zipIdx.all λ p=>p.1.after.toList.all λ e=>!(Region.binds .any e)||Nat.blt e.on p.2))=(true,true,true,true,true,true)) (z:Z0z)
  (h:Z0z→DS C ops ⟨im.length,im,λ _=>.none,λ _=>b,CY ob obs⟩ (λ rev=>M C Q ⟨.ex .normal,k,⟨dw rev im.length++b,CY ob obs im.length⟩⟩) ops.toList 0 []:=by
   intro z
   repeat first | exact cY z | refine dPc _ Z ?_ | refine dS Z ?_ | refine dPn Z Z ?_ | refine dPx Z ?_ | refine dPy (λ _=>_) Z Z ?_ | refine dPa Z Z (by assumption) Z ?_):M C Q ⟨.cd (.region id ops true),k,⟨sl,ob⟩⟩:=by
 simp only [Prod.mk.injEq] at e
 obtain ⟨e1,e0,e2,e3,e4,e5⟩:=e
 exact mS ⟨im.length,im,λ _=>.none,λ _=>b,CY ob obs⟩ e1 rfl (by cases obs <;> rfl) (vc hn) (λ j _=>base_of λ p hp=>xN e0 hp) e2 e3 e4 e5 (h z)
theorem cVa {ids:List Nat}{f:FuncId}{args:Array Operand}{ts:Array TypeId}{l q:List AV}{obs qo rob ob':List (Nat×List AV)}{r r':AV}(hc:cv C.P f q qo (λ x y=>x=r∧y=rob))(henter:∀ vs w,(callFunc f vs).run C.P w=.ok (.enter f vs) w)
  (hi:idsO sl o=some ids)
  (e:(o.op,o.dst,Nat.blt d C.n,iU sl args.toList,AV.mapA.go (iW ids []) l,gg ob ids,ga (iW ids []) obs,lkM qo qo,nodupB ids,ids.all (λ i=>Nat.blt i (2*M1)),Nat.ble ids.length M1,Nat.ble 101000 M1,ids.all (λ i=>!(cK [] 101000 101000 i)),nodupB [],([]:List Nat).all (λ i=>Nat.blt i M1),Nat.ble ([]:List Nat).length 100000,r.mapA (iL ids 101000 101000),ga (iL ids 101000 101000) rob)=(.call { callee:=.value (.func f),args:=args,argTypes:=ts },some d,true,some l,some q,some obs,some qo,smM qo,true,true,true,true,true,true,true,true,some r',some ob'))
  (hK:K ⟨(d,r')::(cX (cK [] 101000 101000) ⟨sl,ob⟩).sl,ob'++(cX (cK [] 101000 101000) ⟨sl,ob.filter λ p=>!(ids.any (Nat.beq p.1))⟩).ob⟩):bn C o K ⟨sl,ob⟩:=cVq ids [] 101000 101000 hc henter e hK
variable {p:Prop} [Decidable p] {α:Type} {x y:Option α} {v:α} {T:List Nat} {c:Ct} {q:Bool}
theorem fDn (n:Nat)(h:(if p then x else y)=some v)(hn:tkZ n sl=some T)(hT:lks sl T=some (T.map λ _=>.p (.val (.bool (decide p)))))
  (h1:p→x=some v→M C Q ⟨c,k,⟨stB true sl T,ob⟩⟩) (h2:¬p→y=some v→M C Q ⟨c,k,⟨stB false sl T,ob⟩⟩):M C Q ⟨c,k,⟨sl,ob⟩⟩:=fD T h hT h1 h2
theorem fNn (n:Nat)(h:(if p then x else y)=some v)(hn:tkZ n sl=some T)(hT:lks sl T=some (T.map λ _=>.p (.val (.bool (!decide p)))))
  (h1:p→x=some v→M C Q ⟨c,k,⟨stB false sl T,ob⟩⟩) (h2:¬p→y=some v→M C Q ⟨c,k,⟨stB true sl T,ob⟩⟩):M C Q ⟨c,k,⟨sl,ob⟩⟩:=fN T h hT h1 h2
theorem fBn (n:Nat)(h:(if q=true then x else y)=some v)(hn:tkZ n sl=some T)(hT:lks sl T=some (T.map λ _=>.p (.val (.bool q))))
  (h1:q=true→x=some v→M C Q ⟨c,k,⟨stB true sl T,ob⟩⟩) (h2:q=false→y=some v→M C Q ⟨c,k,⟨stB false sl T,ob⟩⟩):M C Q ⟨c,k,⟨sl,ob⟩⟩:=fB T h hT h1 h2
def Dw (ops:Array Oper):Ct→Option (List Nat)
 | .cd (.cond (.tmp t) _ _)=>some [t]
 | .op _ (o::_)=>(match gdS ops o with
  | some t=>some [t]
  | none=>none)
 | _=>none
def Dy:Ct→Array Oper
 | .op ops _=>ops
 | _=>#[]
theorem fDc (h:(if p then x else y)=some v)(hn:Dw (Dy c) c=some T)(hT:lks sl T=some (T.map λ _=>.p (.val (.bool (decide p)))))
  (h1:p→x=some v→M C Q ⟨c,k,⟨stB true sl T,ob⟩⟩) (h2:¬p→y=some v→M C Q ⟨c,k,⟨stB false sl T,ob⟩⟩):M C Q ⟨c,k,⟨sl,ob⟩⟩:=fD T h hT h1 h2
theorem fNc (h:(if p then x else y)=some v)(hn:Dw (Dy c) c=some T)(hT:lks sl T=some (T.map λ _=>.p (.val (.bool (!decide p)))))
  (h1:p→x=some v→M C Q ⟨c,k,⟨stB false sl T,ob⟩⟩) (h2:¬p→y=some v→M C Q ⟨c,k,⟨stB true sl T,ob⟩⟩):M C Q ⟨c,k,⟨sl,ob⟩⟩:=fN T h hT h1 h2
theorem fBc (h:(if q=true then x else y)=some v)(hn:Dw (Dy c) c=some T)(hT:lks sl T=some (T.map λ _=>.p (.val (.bool q))))
  (h1:q=true→x=some v→M C Q ⟨c,k,⟨stB true sl T,ob⟩⟩) (h2:q=false→y=some v→M C Q ⟨c,k,⟨stB false sl T,ob⟩⟩):M C Q ⟨c,k,⟨sl,ob⟩⟩:=fB T h hT h1 h2
theorem lTc {q b:Bool}{t:Nat}(hn:Dw (Dy c) c=some [t])(hT:look sl t=some (.p (.val (.bool q))))(hb:q=b)(h:M C Q ⟨c,k,⟨stB b sl [t],ob⟩⟩):M C Q ⟨c,k,⟨sl,ob⟩⟩:=lT [t] hb (by simp only [lks,hT,List.map_cons,List.map_nil]) h
end
section
variable {C:Cx} {Q:Exit→AS→Prop} {k:List Fr} {sl K1:List (Nat×AV)} {ob K2:List (Nat×List AV)} {c:Code} {σ:Type}
theorem hP {P:Program}{tt:List (Nat×TI)}{β:Type}(good:dh P tt){fi:FuncId}{fn:Func}{args:List PV}{h:β→Prop}{mk:β→AV}(hf:P.funcs[fi]? = some fn)(hb:fn.body=some c)(hn:(Nat.ble args.length fn.ntmps,Nat.ble fn.ntmps M1)=(true,true))
  (H:∀ r,h r→∀ hnl w0,M ⟨P,tt,good,fn.ntmps,hnl,w0,λ b=>b < w0.w.heap.size⟩ (λ e s=>∃ v,v=r∧u9 tt fn (λ x=>x.sub (mk v)) e s) ⟨.cd c,[],⟨oy args,[]⟩⟩):∀ r,HP (h r) P fi args (mk r) :=
 λ r=>⟨λ h0=>AR good hf hb (Prod.mk.inj hn).1 (Prod.mk.inj hn).2 λ w0=>mP mk (H r h0 _ w0)⟩
theorem hO {P:Program}{tt:List (Nat×TI)}{β:Type}(good:dh P tt)(ts ids:List Nat){fi:FuncId}{fn:Func}{args:List AV}{obs:List (Nat×List AV)}{h:β→Prop}{mk:β→AV}{mo:β→List (Nat×List AV)}(hf:P.funcs[fi]? = some fn)(hb:fn.body=some c)
  (hn:(Nat.ble args.length fn.ntmps,Nat.ble fn.ntmps M1,ts.all (λ i=>Nat.blt i M1),nodupB ts)=(true,true,true,true))
  (H:∀ r,h r→∀ hnl w0 F,M ⟨P,tt,good,fn.ntmps,hnl,w0,F⟩ (λ e s=>∃ v,v=r∧qM ⟨P,tt,good,fn.ntmps,hnl,w0,F⟩ tt fn ts ids (mk v) (mo v) e s) ⟨.cd c,[],⟨fX args,obs⟩⟩):∀ r,HO (h r) P fi args obs (mk r) (mo r):=by
 simp only [Prod.mk.injEq] at hn
 exact λ r=>⟨λ h0=>mw good ts ids hf hb hn.1 hn.2.1 hn.2.2.1 hn.2.2.2 λ w0 F=>mPo mk mo (H r h0 _ w0 F)⟩
end
theorem zR {C:Cx}{ops:Array Oper}{ob:List (Nat×List AV)}{o:Oper}{kn:List (Nat×AV)}{d:Nat}{op:BinOp}{x y c:Int}(hg:o.guard=none)(hd:o.dst=some d)(hn:Nat.blt d C.n=true)(h:biK o kn=some (op,.p (.val (.int .i64 x)),.p (.val (.int .i64 y))))(hc:arI op x y=some c)(hr:inR c):nW C ops ob o kn d (.p (eI c)):=by
 unfold biK at h
 split at h
 ·rename_i op' t X Y0z t' ho
  split at h
  ·rename_i X' hx
   split at h
   ·rename_i Y' hy
    cases h
    exact λ sl hs K hK=>ap hg (ew ho hd hn (gr hs hx) (gr hs hy) hc hr hK)
   ·cases h
  ·cases h
 ·cases h
section
variable {C:Cx} {ops:Array Oper} {S:eG} {K:fe→Prop} {K2:AS→Prop} {o:Oper} {k d:Nat} {rev:fe} {op:BinOp} {x y c:Int}
def arL (ops:Array Oper)(S:eG)(o:Oper)(k:Nat)(rev:fe)(z:BinOp×AV×AV):Nat→List (Option (BinOp×AV×AV))
 | 0=>[]
 | j+1=>(match kG ops S.imp o k j with
  | true=>biK o (vI (S.bas j) o rev j (opR o))
  | false=>some z)::arL ops S o k rev z j
def arE (z:BinOp×AV×AV):Nat→List (Option (BinOp×AV×AV))
 | 0=>[]
 | j+1=>some z::arE z j
theorem AL (hg:o.guard=none)(hd:o.dst=some d)(hn:Nat.blt d C.n=true)(hc:arI op x y=some c)(hr:inR c):∀ {m:Nat},arL ops S o k rev (op,.p (.val (.int .i64 x)),.p (.val (.int .i64 y))) m=arE (op,.p (.val (.int .i64 x)),.p (.val (.int .i64 y))) m→Stg C ops S o k rev d (λ _=>.p (eI c)) m
 | 0,_=>trivial
 | j+1,h=>by
  have h1:=(List.cons.inj h).1
  refine ⟨λ ha=>?_,AL hg hd hn hc hr (List.cons.inj h).2⟩
  rw [ha] at h1
  exact ⟨_,kw _,zR hg hd hn h1 hc hr⟩
theorem dPa {rest:List Oper}(e:(o.dst,S.imp.findIdx? (Nat.beq k),o.guard,(rev.all λ p=>!(Nat.beq p.2.1 d)),Nat.blt d C.n,cL S d S.m,(λ j=>look (S.bas (j+S.m)) d),arL ops S o k rev (op,.p (.val (.int .i64 x)),.p (.val (.int .i64 y))) (S.m+1))=(some d,none,none,true,true,nL S.m,(λ _=>none),arE (op,.p (.val (.int .i64 x)),.p (.val (.int .i64 y))) (S.m+1)))
  (hc:arI op x y=some c) (hr:inR c) (ht:aL (λ _=>.p (eI c)) S.m=bL S (λ _=>.p (eI c)) S.m) (h:DS C ops S K rest (k+1) ((k,d,λ _=>.p (eI c))::rev)):DS C ops S K (o::rest) k rev:=by
 simp only [Prod.mk.injEq] at e
 obtain ⟨e1,e2,e3,e4,e5,e6,e7,e8⟩:=e
 exact aR (λ _=>.p (eI c)) e2 e1 e4 (tw e6 e7) (sy ht) (AL e3 e1 e5 hc hr e8) h
theorem dqa {base:List (Nat×AV)}{ob:List (Nat×List AV)}{rest:List Oper}{rev:Rev}(hn:nwF base rev o=some d)(e:(o.guard,Nat.blt d C.n,biK o (knL base o rev (tms o)))=(none,true,some (op,.p (.val (.int .i64 x)),.p (.val (.int .i64 y)))))
  (hc:arI op x y=some c) (hr:inR c) (h:DQ C ops base ob K2 rest (k+1) ((k,d,.p (eI c))::rev)):DQ C ops base ob K2 (o::rest) k rev:=by
 simp only [Prod.mk.injEq] at e
 obtain ⟨e1,e2,e3⟩:=e
 exact tr _ _ ue (zR e1 (jT hn).1 e2 e3 hc hr) (jT hn).1 (jT hn).2.1 (jT hn).2.2 h
end
theorem U {p:Prop}(h:p:=by
 repeat' first
  | exact sr
  | exact True.intro
  | exact .inl Z
  | exact .inr ⟨Z,Z⟩
  | exact fQ _
  | exact AV.sub_nilvec _ _ _
  | exact AV.sub_vec _ _ _ _
  | exact er Z
  | exact ⟨_,Z,aE _⟩
  | refine bz ?_
  | refine cR ?_
  | refine vE ?_
  | refine ⟨_,Z,?_⟩
  | refine ⟨?_,?_⟩):p:=h
theorem A0 {p:Prop}(h:p:=by
 repeat' first
  | refine nxg 12 Z Z ?_
  | refine nxg 4 Z Z ?_
  | refine nxg 1 Z Z ?_
  | exact eX _ (oi h0).symm (gE Z Z)
  | exact mQ (oi h0) Z U
  | exact fC h0 Z
  | exact mQo (oi h0) (au _) Z Z Z Z U U
  | exact eXi _ (oi h0).symm (gE Z Z)
  | exact eX _ h0 (gE Z Z)
  | exact eX ⟨_,_⟩ h0 (gE Z Z)
  | exact eX ⟨_,_,_⟩ h0 (gE Z Z)
  | exact eX ⟨_,_,_,_⟩ h0 (gE Z Z)
  | exact eX ⟨_,_,_,_,_⟩ h0 (gE Z Z)
  | exact eX _ (oi h0).symm (dZ (jK U U))
  | exact eXi _ (oi h0).symm (dZ (jK U U))
  | exact mQ (hR0 _ (oi h0).symm) Z U
  | exact fC (congrArg some (hR0 _ (oi h0).symm)) Z
  | exact mQ (hR0 _ (hR1 _ (oi h0).symm).symm) Z U
  | exact mQn (oi h0) Z U
  | exact rZ (oi h0) (au _) Z Z Z Z U U
  | exact mQo (oi h0) (au _) Z Z Z (ar Z (aw _) Z) U U
  | refine oS Z Z ?_
  | refine oLs Z ?_
  | refine oLl Z Z ?_
  | refine oA h0 Z Z λ hk h0=>?_
  | refine oI h0 rfl λ hk h0=>?_
  | refine oP h0 Z Z Z λ hk h0=>?_
  | refine oC h0 rfl λ hk h0=>?_
  | refine oE h0 HC.c Z Z Y λ hk h0=>?_
  | refine bd h0 λ r e h0=>oK (HP.c e) Z U HE.e Z ?_
  | refine bd h0 λ r e h0=>mO Z (cVa (HO.c e) HE.e Z Z ?_)
  | refine fBn 3 h0 Z Z (λ c h0=>?_) λ c h0=>?_
  | refine fBn 2 h0 Z Z (λ c h0=>?_) λ c h0=>?_
  | refine fBn 1 h0 Z Z (λ c h0=>?_) λ c h0=>?_
  | refine fBc h0 Z Z (λ c h0=>?_) λ c h0=>?_
  | refine fDn 4 h0 Z Z (λ c h0=>?_) λ c h0=>?_
  | refine fDn 3 h0 Z Z (λ c h0=>?_) λ c h0=>?_
  | refine fDn 2 h0 Z Z (λ c h0=>?_) λ c h0=>?_
  | refine fDn 1 h0 Z Z (λ c h0=>?_) λ c h0=>?_
  | refine fDc h0 Z Z (λ c h0=>?_) λ c h0=>?_
  | refine fNn 3 h0 Z Z (λ c h0=>?_) λ c h0=>?_
  | refine fNn 2 h0 Z Z (λ c h0=>?_) λ c h0=>?_
  | refine fNn 1 h0 Z Z (λ c h0=>?_) λ c h0=>?_
  | refine fNc h0 Z Z (λ c h0=>?_) λ c h0=>?_
  | refine lTc Z Z (by first | exact dt ‹_› | exact df ‹_› | assumption) ?_
  | refine mDa Z Z ?_
  | refine dE Z ?_
  | refine dR 4 Z ?_
  | refine dR 1 Z ?_
  | refine dqa Z Z Z (by assumption) ?_
  | refine mA Z Z Z ?_
  | refine dPc _ Z ?_
  | refine dS Z ?_
  | refine dPn Z Z ?_
  | refine dPx Z ?_
  | refine dPa Z Z (by assumption) Z ?_
  | refine cY ?_
  | refine cc' h0 λ hk h0=>?_):p:=h
theorem A1 {p:Prop}(h:p:=by
 repeat' first
  | refine nxg 12 Z Z ?_
  | refine nxg 4 Z Z ?_
  | refine nxg 1 Z Z ?_
  | exact eX _ (oi h1).symm (gE Z Z)
  | exact mQ (oi h1) Z U
  | exact fC h1 Z
  | exact mQo (oi h1) (au _) Z Z Z Z U U
  | exact eXi _ (oi h1).symm (gE Z Z)
  | exact eX _ h1 (gE Z Z)
  | exact eX ⟨_,_⟩ h1 (gE Z Z)
  | exact eX ⟨_,_,_⟩ h1 (gE Z Z)
  | exact eX ⟨_,_,_,_⟩ h1 (gE Z Z)
  | exact eX ⟨_,_,_,_,_⟩ h1 (gE Z Z)
  | exact eX _ (oi h1).symm (dZ (jK U U))
  | exact eXi _ (oi h1).symm (dZ (jK U U))
  | exact mQ (hR0 _ (oi h1).symm) Z U
  | exact fC (congrArg some (hR0 _ (oi h1).symm)) Z
  | exact mQ (hR0 _ (hR1 _ (oi h1).symm).symm) Z U
  | exact mQn (oi h1) Z U
  | exact rZ (oi h1) (au _) Z Z Z Z U U
  | exact mQo (oi h1) (au _) Z Z Z (ar Z (aw _) Z) U U
  | refine oS Z Z ?_
  | refine oLs Z ?_
  | refine oLl Z Z ?_
  | refine oA h1 Z Z λ hk h1=>?_
  | refine oI h1 rfl λ hk h1=>?_
  | refine oP h1 Z Z Z λ hk h1=>?_
  | refine oC h1 rfl λ hk h1=>?_
  | refine oE h1 HC.c Z Z Y λ hk h1=>?_
  | refine bd h1 λ r e h1=>oK (HP.c e) Z U HE.e Z ?_
  | refine bd h1 λ r e h1=>mO Z (cVa (HO.c e) HE.e Z Z ?_)
  | refine fBn 3 h1 Z Z (λ c h1=>?_) λ c h1=>?_
  | refine fBn 2 h1 Z Z (λ c h1=>?_) λ c h1=>?_
  | refine fBn 1 h1 Z Z (λ c h1=>?_) λ c h1=>?_
  | refine fBc h1 Z Z (λ c h1=>?_) λ c h1=>?_
  | refine fDn 4 h1 Z Z (λ c h1=>?_) λ c h1=>?_
  | refine fDn 3 h1 Z Z (λ c h1=>?_) λ c h1=>?_
  | refine fDn 2 h1 Z Z (λ c h1=>?_) λ c h1=>?_
  | refine fDn 1 h1 Z Z (λ c h1=>?_) λ c h1=>?_
  | refine fDc h1 Z Z (λ c h1=>?_) λ c h1=>?_
  | refine fNn 3 h1 Z Z (λ c h1=>?_) λ c h1=>?_
  | refine fNn 2 h1 Z Z (λ c h1=>?_) λ c h1=>?_
  | refine fNn 1 h1 Z Z (λ c h1=>?_) λ c h1=>?_
  | refine fNc h1 Z Z (λ c h1=>?_) λ c h1=>?_
  | refine lTc Z Z (by first | exact dt ‹_› | exact df ‹_› | assumption) ?_
  | refine mDa Z Z ?_
  | refine dE Z ?_
  | refine dR 4 Z ?_
  | refine dR 1 Z ?_
  | refine dqa Z Z Z (by assumption) ?_
  | refine mA Z Z Z ?_
  | refine dPc _ Z ?_
  | refine dS Z ?_
  | refine dPn Z Z ?_
  | refine dPx Z ?_
  | refine dPa Z Z (by assumption) Z ?_
  | refine cY ?_
  | refine cc' h1 λ hk h1=>?_):p:=h
theorem A2 {p:Prop}(h:p:=by
 repeat' first
  | refine nxg 12 Z Z ?_
  | refine nxg 4 Z Z ?_
  | refine nxg 1 Z Z ?_
  | exact eX _ (oi h2).symm (gE Z Z)
  | exact mQ (oi h2) Z U
  | exact fC h2 Z
  | exact mQo (oi h2) (au _) Z Z Z Z U U
  | exact eXi _ (oi h2).symm (gE Z Z)
  | exact eX _ h2 (gE Z Z)
  | exact eX ⟨_,_⟩ h2 (gE Z Z)
  | exact eX ⟨_,_,_⟩ h2 (gE Z Z)
  | exact eX ⟨_,_,_,_⟩ h2 (gE Z Z)
  | exact eX ⟨_,_,_,_,_⟩ h2 (gE Z Z)
  | exact eX _ (oi h2).symm (dZ (jK U U))
  | exact eXi _ (oi h2).symm (dZ (jK U U))
  | exact mQ (hR0 _ (oi h2).symm) Z U
  | exact fC (congrArg some (hR0 _ (oi h2).symm)) Z
  | exact mQ (hR0 _ (hR1 _ (oi h2).symm).symm) Z U
  | exact mQn (oi h2) Z U
  | exact rZ (oi h2) (au _) Z Z Z Z U U
  | exact mQo (oi h2) (au _) Z Z Z (ar Z (aw _) Z) U U
  | refine oS Z Z ?_
  | refine oLs Z ?_
  | refine oLl Z Z ?_
  | refine oA h2 Z Z λ hk h2=>?_
  | refine oI h2 rfl λ hk h2=>?_
  | refine oP h2 Z Z Z λ hk h2=>?_
  | refine oC h2 rfl λ hk h2=>?_
  | refine oE h2 HC.c Z Z Y λ hk h2=>?_
  | refine bd h2 λ r e h2=>oK (HP.c e) Z U HE.e Z ?_
  | refine bd h2 λ r e h2=>mO Z (cVa (HO.c e) HE.e Z Z ?_)
  | refine fBn 3 h2 Z Z (λ c h2=>?_) λ c h2=>?_
  | refine fBn 2 h2 Z Z (λ c h2=>?_) λ c h2=>?_
  | refine fBn 1 h2 Z Z (λ c h2=>?_) λ c h2=>?_
  | refine fBc h2 Z Z (λ c h2=>?_) λ c h2=>?_
  | refine fDn 4 h2 Z Z (λ c h2=>?_) λ c h2=>?_
  | refine fDn 3 h2 Z Z (λ c h2=>?_) λ c h2=>?_
  | refine fDn 2 h2 Z Z (λ c h2=>?_) λ c h2=>?_
  | refine fDn 1 h2 Z Z (λ c h2=>?_) λ c h2=>?_
  | refine fDc h2 Z Z (λ c h2=>?_) λ c h2=>?_
  | refine fNn 3 h2 Z Z (λ c h2=>?_) λ c h2=>?_
  | refine fNn 2 h2 Z Z (λ c h2=>?_) λ c h2=>?_
  | refine fNn 1 h2 Z Z (λ c h2=>?_) λ c h2=>?_
  | refine fNc h2 Z Z (λ c h2=>?_) λ c h2=>?_
  | refine lTc Z Z (by first | exact dt ‹_› | exact df ‹_› | assumption) ?_
  | refine mDa Z Z ?_
  | refine dE Z ?_
  | refine dR 4 Z ?_
  | refine dR 1 Z ?_
  | refine dqa Z Z Z (by assumption) ?_
  | refine mA Z Z Z ?_
  | refine dPc _ Z ?_
  | refine dS Z ?_
  | refine dPn Z Z ?_
  | refine dPx Z ?_
  | refine dPa Z Z (by assumption) Z ?_
  | refine cY ?_
  | refine cc' h2 λ hk h2=>?_):p:=h
end Go.Ab
end
section
namespace Go.Ab.R06
open Go.Proofs Go.Ab Go.Ab.RB
instance hc14_4 (s:Bytes) (c r:Int):HP (strings_IndexByte s c=some r) Tryz.prog 85 [eS s,eK .u8 c] (.p (eI r)):=⟨fv s c r⟩
instance hc14_6 (a:Int) (r:Bool):HP (cG a=some r) Tryz.prog 206 [eK .i32 a] (.p (eB r)):=⟨kk a r⟩
instance hc14_8 (s:Bytes) (r:Bool):HP (dz s=some r) Tryz.prog 204 [eS s] (.p (eB r)):=⟨jN s r⟩
end Go.Ab.R06
end
section
namespace Go.Ab.R06
open Go.Proofs Go.Ab Go.Ab.RB
attribute [local irreducible] awp fT bn bF cv AV.sub M cT
instance F9:HE Tryz.prog 171:=⟨Tryz.call171⟩
instance FR:HE Tryz.prog 206:=⟨Tryz.call206⟩
instance FL:HE Tryz.prog 85:=⟨Tryz.call85⟩
instance Gk:HE Tryz.prog 192:=⟨Tryz.call192⟩
instance FD:HE Tryz.prog 174:=⟨Tryz.call174⟩
instance FC:HE Tryz.prog 204:=⟨Tryz.call204⟩
def gS (n_0:Int):Option Bool :=
 (
   if (-9007199254740992)≤n_0 then
    some (decide (n_0≤9007199254740992))
   else
    some false
  : Option Bool).bind λ t2 =>
 some t2
instance zH (n_0:Int):∀ (r:Bool),HP (gS n_0=some r) Tryz.prog 171 [eI n_0] (.p (eB r)):=by
 refine hP good Tryz.func171 Z Z λ r h0 _ w0=>?_
 unfold gS at h0
 refine nx 5 Z (bd h0 λ o4 h1 h0=>?_)
 refine kN o4 (λ v5=>⟨[(2,.p (eB v5))],[]⟩) ?_ ?_
 ·exact A0
 exact A1
def bN (s7:Bytes):Nat→Int→Option (Unit⊕Bool)
 | 0,_=>none
 | m+1,t16 =>
 if t16 < (s7.length:Int) then
  (
    ck ((0:Int)≤t16∧t16 < (s7.length:Int)) <|
    if byt s7 t16 < 48 then
     some true
    else
     ck ((0:Int)≤t16∧t16 < (s7.length:Int)) <|
     some (decide (57 < byt s7 t16))
   : Option Bool).bind λ t21 =>
  if t21=true then
   some (.inr false)
  else
   ck (inR (t16+1)) <|
   bN s7 m (t16+1)
 else
  some (.inl ())
def dI (n:Nat)(s_0:Bytes):Option Bool :=
 jn (
   (
     if 0 < (s_0.length:Int) then
      ck ((0:Int)≤0∧0 < (s_0.length:Int)) <|
      some (decide (byt s_0 0=45))
     else
      some false
    : Option Bool).bind λ t3 =>
   if t3=true then
    ck ((0:Int)≤1∧1≤(s_0.length:Int)∧(s_0.length:Int)≤(s_0.length:Int)) <|
    if sub s_0 1 (s_0.length:Int)=([48]:Bytes) then
     some (.inr false)
    else
     some (.inl (sub s_0 1 (s_0.length:Int)))
   else
    some (.inl s_0)
  : Option (Bytes⊕Bool)) λ s7 =>
 jn (bN s7 n 0) λ q31 =>
 (
   if s7=([]:Bytes) then
    some false
   else
    ck ((0:Int)≤0∧0 < (s7.length:Int)) <|
    if byt s7 0=48 then
     some (decide ((s7.length:Int)=1))
    else
     some true
  : Option Bool).bind λ t28 =>
 some t28
instance v6 (n:Nat) (s_0:Bytes):∀ (r:Bool),HP (dI n s_0=some r) Tryz.prog 208 [eS s_0] (.p (eB r)):=by
 refine hP good Tryz.func208 Z Z λ r h0 _ w0=>?_
 unfold dI at h0
 refine nx 5 Z ?_
 obtain ⟨o34,h1,hL0,hR0⟩:=dj h0
 refine kX (λ v35:Bytes=>o34=.inl v35) (λ v35=>⟨[(0,.p (eS v35))],[]⟩) (λ v35 hv=>?_) ?_
 ·have h0:=hL0 _ hv
  refine nx 5 Z (oLs Z ?_)
  refine nx 3 Z ?_
  obtain ⟨o36,h1,hL0,hR0⟩:=dj h0
  refine kEx 0 (λ v37:Unit=>o36=.inl v37) (λ v37=>⟨[(0,.p (eS v35))],[]⟩) (λ v37 hv=>?_) ?_
  ·have h0:=hL0 _ hv
   refine nx 2 Z (bd h0 λ o38 h1 h0=>?_)
   refine kN o38 (λ v39=>⟨[(2,.p (eB v39))],[]⟩) ?_ ?_
   ·exact A0
   exact A1
  refine lG (λ (q40:Int)=>⟨[(0,.p (eS v35)),(17,.p (eI (v35.length:Int))),(18,.p (eI q40))],[]⟩) (λ m (q40:Int)=>bN v35 m q40) Y 0 h1 (gE Z Z) ?_
  rintro m t16 h1
  replace h1:bN v35 (m+1) t16=some o36:=h1
  rw [bN] at h1
  refine nx 5 Z (fD [19] h1 Z (λ c17 h1=>?_) λ c17 h1=>?_)
  ·refine nx 10 Z (bd h1 λ o41 h2 h1=>?_)
   refine kN o41 (λ v42=>⟨[(0,.p (eS v35)),(17,.p (eI (v35.length:Int))),(18,.p (eI t16)),(30,.p (eB v42))],[]⟩) ?_ ?_
   ·exact A1
   exact A2
  exact A1
 refine nx 1 Z (bd h1 λ o43 h2 h1=>?_)
 refine kN o43 (λ v44=>⟨[(0,.p (eS s_0)),(11,.p (eB v44))],[]⟩) ?_ ?_
 ·exact A1
 exact A2
def fz (n:Nat)(s_0:Bytes):Option (Int×Int) :=
 (dI n s_0).bind λ r1 =>
 if (!r1)=true then
  some (0,2)
 else
  (gN s_0 10 64).bind λ r4 =>
  (
    if r4.2=true then
     some true
    else
     (gS r4.1).bind λ r7 =>
     some (!r7)
   : Option Bool).bind λ t9 =>
  if t9=true then
   some (0,5)
  else
   some (r4.1,0)
instance zB (n:Nat) (s_0:Bytes):∀ (r:Int×Int),HP (fz n s_0=some r) Tryz.prog 196 [eS s_0] (.tuple [.p (eI r.1),.p (eI r.2)]):=by
 refine hP good Tryz.func196 Z Z λ r h0 _ w0=>?_
 unfold fz at h0
 refine nx 9 Z (bd h0 λ r1 e2 h0=>?_)
 refine oK (HP.c e2) Z ⟨sr,trivial⟩ Tryz.call208 Z (nx 2 Z ?_)
 refine fB [8] h0 Z (λ c3 h0=>?_) λ c3 h0=>?_
 ·exact A0
 refine nx 5 Z (bd h0 λ r4 e5 h0=>?_)
 refine oK (nq s_0 10 64 _ e5) Z ⟨sr,sr,sr,trivial⟩ Tryz.call209 (yS (p6 Z (p6 (E0 _) wd))) (nx 8 Z ?_)
 refine bd h0 λ o12 h1 h0=>kN o12 (λ v13=>⟨[(4,.p (eI r4.1)),(20,.p (eB v13))],[]⟩) ?_ ?_
 ·exact A0
 refine nx 2 Z (mO Z (Fa Z Z Z Z Z Z (.inr ⟨Z,Z⟩) ?_))
 exact A1
def bG (s_0:Bytes):Nat→Int→Int→Option (Int×Int)
 | 0,_,_=>none
 | m+1,n11,i12 =>
 (
   if i12 < (s_0.length:Int) then
    some (decide (i12 < 6))
   else
    some false
  : Option Bool).bind λ t14 =>
 if t14=true then
  ck ((0:Int)≤i12∧i12 < (s_0.length:Int)) <|
  (strings_IndexByte ([48,49,50,51,52,53,54,55,56,57,97,98,99,100,101,102]:Bytes) (byt s_0 i12)).bind λ r17 =>
  if r17 < 0 then
   some (n11,i12)
  else
   ck (inR (i12+1)) <|
   bG s_0 m (IntKind.wrap .i32 ((IntKind.wrap .i32 (16*n11))+(IntKind.wrap .i32 (r17)))) (i12+1)
 else
  some (n11,i12)
def cF (n:Nat)(s_0:Bytes):Option (Int×Int×Int) :=
 (bG s_0 n 0 0).bind λ q39 =>
 if q39.2=(s_0.length:Int) then
  some (0,0,40)
 else
  (
    ck ((0:Int)≤q39.2∧q39.2 < (s_0.length:Int)) <|
    if byt s_0 q39.2=125 then
     if q39.2=0 then
      some true
     else
      if 1 < q39.2 then
       ck ((0:Int)≤0∧0 < (s_0.length:Int)) <|
       if byt s_0 0=48 then
        some true
       else
        (cG q39.1).bind λ r32 =>
        some (!r32)
      else
       (cG q39.1).bind λ r34 =>
       some (!r34)
    else
     some true
   : Option Bool).bind λ t36 =>
  if t36=true then
   some (0,0,2)
  else
   ck (inR (q39.2+1)) <|
   some (q39.1,q39.2+1,0)
instance uw (n:Nat) (s_0:Bytes):∀ (r:Int×Int×Int),HP (cF n s_0=some r) Tryz.prog 192 [eS s_0] (.tuple [.p (eK .i32 r.1),.p (eI r.2.1),.p (eI r.2.2)]):=by
 refine hP good Tryz.func192 Z Z λ r h0 _ w0=>?_
 unfold cF at h0
 refine nx 13 Z (bd h0 λ o42 h1 h0=>?_)
 refine kE 0 o42 (λ v43=>⟨[(0,.p (eS s_0)),(5,.p (eK .i32 v43.1)),(6,.p (eI v43.2))],[]⟩) ?_ ?_
 ·refine nx 6 Z (oLs Z ?_)
  refine nx 2 Z (fD [32] h0 Z (λ c25 h0=>?_) λ c25 h0=>?_)
  ·exact A0
  refine nx 4 Z (bd h0 λ o44 h1 h0=>?_)
  refine kN o44 (λ v45=>⟨[(5,.p (eK .i32 o42.1)),(6,.p (eI o42.2)),(54,.p (eB v45))],[]⟩) ?_ ?_
  ·exact A0
  exact A1
 refine lG (λ (q46:Int×Int)=>⟨[(0,.p (eS s_0)),(5,.p (eK .i32 q46.1)),(6,.p (eI q46.2))],[]⟩) (λ m (q46:Int×Int)=>bG s_0 m q46.1 q46.2) Y (0,0) h1 (gE Z Z) ?_
 rintro m ⟨n11,i12⟩ h1
 replace h1:bG s_0 (m+1) n11 i12=some o42:=h1
 rw [bG] at h1
 refine nx 2 Z (bd h1 λ o47 h2 h1=>?_)
 refine kN o47 (λ v48=>⟨[(0,.p (eS s_0)),(5,.p (eK .i32 n11)),(6,.p (eI i12)),(15,.p (eB v48))],[]⟩) ?_ ?_
 ·exact A1
 exact A2
def eY (n:Nat)(s_0:Bytes):Option (Int×Int×Int) :=
 if s_0=([]:Bytes) then
  some (0,0,40)
 else
  ck ((0:Int)≤0∧0 < (s_0.length:Int)) <|
  if byt s_0 0=110 then
   some (10,1,0)
  else
   if byt s_0 0=114 then
    some (13,1,0)
   else
    if byt s_0 0=116 then
     some (9,1,0)
    else
     (
       if byt s_0 0=34 then
        some true
       else
        some (decide (byt s_0 0=92))
      : Option Bool).bind λ t7 =>
     if t7=true then
      ck ((0:Int)≤0∧0 < (s_0.length:Int)) <|
      some (IntKind.wrap .i32 (byt s_0 0),1,0)
     else
      if byt s_0 0=117 then
       if (s_0.length:Int)=1 then
        some (0,0,40)
       else
        ck ((0:Int)≤1∧1 < (s_0.length:Int)) <|
        if byt s_0 1=123 then
         ck ((0:Int)≤2∧2≤(s_0.length:Int)∧(s_0.length:Int)≤(s_0.length:Int)) <|
         (cF n (sub s_0 2 (s_0.length:Int))).bind λ r15 =>
         ck (inR (r15.2.1+2)) <|
         some (r15.1,r15.2.1+2,r15.2.2)
        else
         some (0,0,2)
      else
       some (0,0,2)
instance zw (n:Nat) (s_0:Bytes):∀ (r:Int×Int×Int),HP (eY n s_0=some r) Tryz.prog 174 [eS s_0] (.tuple [.p (eK .i32 r.1),.p (eI r.2.1),.p (eI r.2.2)]):=by
 refine hP good Tryz.func174 Z Z λ r h0 _ w0=>?_
 unfold eY at h0
 refine nx 10 Z (oS Z Z ?_)
 refine nx 1 Z (fD [9] h0 Z (λ c1 h0=>?_) λ c1 h0=>?_)
 ·exact A0
 refine nx 6 Z (oI h0 Z λ hk2 h0=>?_)
 refine nx 7 Z (fD [12,13] h0 Z (λ c3 h0=>?_) λ c3 h0=>?_)
 ·exact A0
 refine nx 6 Z (fD [14,15] h0 Z (λ c4 h0=>?_) λ c4 h0=>?_)
 ·exact A0
 refine nx 6 Z (fD [16,17] h0 Z (λ c5 h0=>?_) λ c5 h0=>?_)
 ·exact A0
 refine nx 2 Z (bd h0 λ o19 h1 h0=>?_)
 refine kN o19 (λ v20=>⟨[(0,.p (eS s_0)),(11,.p (eK .u8 (byt s_0 0))),(18,.p (eB v20))],[]⟩) ?_ ?_
 ·exact A0
 exact A1
def cC (n:Nat)(s_0:Bytes):Nat→Int→(List UInt8)→Option ((Int×(List UInt8))⊕(Bytes×Int×Int))
 | 0,_,_=>none
 | m+1,at31,f32 =>
 (
   if at31 < (s_0.length:Int) then
    ck ((0:Int)≤at31∧at31 < (s_0.length:Int)) <|
    some (!decide (byt s_0 at31=34))
   else
    some false
  : Option Bool).bind λ t35 =>
 if t35=true then
  ck ((0:Int)≤at31∧at31≤(s_0.length:Int)∧(s_0.length:Int)≤(s_0.length:Int)) <|
  (aW (sub s_0 at31 (s_0.length:Int))).bind λ r38 =>
  jn (
    if r38.1=92 then
     ck (inR (at31+1)) <|
     ck ((0:Int)≤at31+1∧at31+1≤(s_0.length:Int)∧(s_0.length:Int)≤(s_0.length:Int)) <|
     (eY n (sub s_0 (at31+1) (s_0.length:Int))).bind λ r43 =>
     if r43.2.2=0 then
      ck (inR (r43.2.1+1)) <|
      some (.inl (r43.1,r43.2.1+1))
     else
      some (.inr (.inr (([]:Bytes),0,r43.2.2)))
    else
     (
       if r38.1=65533 then
        if r38.2=1 then
         some true
        else
         if r38.1 < 32 then
          some true
         else
          some (decide (r38.1=127))
       else
        if r38.1 < 32 then
         some true
        else
         some (decide (r38.1=127))
      : Option Bool).bind λ t51 =>
     if t51=true then
      some (.inr (.inr (([]:Bytes),0,2)))
     else
      some (.inl (r38.1,r38.2))
   : Option ((Int×Int)⊕((Int×(List UInt8))⊕(Bytes×Int×Int)))) λ q71 =>
  (dr (aJ.mk f32) q71.1).bind λ r55 =>
  ck (inR (at31+q71.2)) <|
  cC n s_0 m (at31+q71.2) r55.2.2.fbuf
 else
  some (.inl (at31,f32))
def dT (n:Nat)(s_0:Bytes):Option (Bytes×Int×Int) :=
 if s_0=([]:Bytes) then
  some (([]:Bytes),0,40)
 else
  ck ((0:Int)≤0∧0 < (s_0.length:Int)) <|
  if byt s_0 0=34 then
   jn (cC n s_0 n 1 []) λ q69 =>
   if q69.1=(s_0.length:Int) then
    some (([]:Bytes),0,40)
   else
    (gY (aJ.mk q69.2)).bind λ r63 =>
    if 4096 < r63.1 then
     some (([]:Bytes),0,3)
    else
     (d3 (aJ.mk r63.2.fbuf)).bind λ r66 =>
     ck (inR (q69.1+1)) <|
     some (r66.1,q69.1+1,0)
  else
   some (([]:Bytes),0,2)
instance xl (n:Nat) (s_0:Bytes):∀ (r:Bytes×Int×Int),HP (dT n s_0=some r) Tryz.prog 158 [eS s_0] (.tuple [.p (eS r.1),.p (eI r.2.1),.p (eI r.2.2)]):=by
 refine hP good Tryz.func158 Z Z λ r h0 _ w0=>?_
 unfold dT at h0
 refine nx 10 Z (oS Z Z ?_)
 refine nx 1 Z (fD [13] h0 Z (λ c1 h0=>?_) λ c1 h0=>?_)
 ·exact A0
 refine nx 6 Z (oI h0 Z λ hk2 h0=>?_)
 refine nx 2 Z (fN [16] h0 Z (λ c3 h0=>?_) λ c3 h0=>?_)
 ·refine nx 4 Z (mO Z (tg Z Z Z Z Z Z Z ?_))
  refine nx 7 Z ?_
  obtain ⟨o73,h1,hL0,hR0⟩:=dj h0
  refine kEx 0 (λ v74:Int×(List UInt8)=>o73=.inl v74) (λ v74=>⟨[(0,.p (eS s_0)),(5,.ptr 5 0),(6,.p (eI v74.1))],[(5,[.bptr 93 2 5,.vec 101000 1 (5+1) (v74.2.map eU)])]⟩) (λ v74 hv=>?_) ?_
  ·have h0:=hL0 _ hv
   refine nx 6 Z (oLs Z ?_)
   refine nx 2 Z (fD [73] h0 Z (λ c62 h0=>?_) λ c62 h0=>?_)
   ·exact A0
   refine nx 5 Z (bd h0 λ r63 e64 h0=>?_)
   refine mO Z (bq [5] [101000] 103000 103001 (lD (aJ.mk v74.2) _ e64) Z Z Z Z Z ⟨sr,trivial⟩ Z Z ⟨⟨_,Z,⟨sr,sr,trivial⟩⟩,trivial⟩ Z Z Z Z Z Z Z Z Tryz.call176 Z Z ?_)
   refine nx 2 Z (fD [75] h0 Z (λ c65 h0=>?_) λ c65 h0=>?_)
   ·exact A0
   refine nx 4 Z (bd h0 λ r66 e67 h0=>?_)
   refine mO Z (bq [5] [103000] 104000 104000 (gW (aJ.mk r63.2.fbuf) _ e67) Z Z Z Z Z ⟨sr,trivial⟩ Z Z ⟨⟨_,Z,⟨sr,sr,trivial⟩⟩,trivial⟩ Z Z Z Z Z Z Z Z Tryz.call59 Z Z ?_)
   exact A0
  refine lG (λ (q75:Int×(List UInt8))=>⟨[(0,.p (eS s_0)),(5,.ptr 5 0),(6,.p (eI q75.1))],[(5,[.bptr 93 2 5,.vec 101000 1 (5+1) (q75.2.map eU)])]⟩) (λ m (q75:Int×(List UInt8))=>cC n s_0 m q75.1 q75.2) Y (1,[]) h1 (dZ (jK ⟨er Z,er Z,er Z,trivial⟩ ⟨⟨_,Z,⟨sr,AV.sub_nilvec _ _ _,trivial⟩⟩,trivial⟩)) ?_
  rintro m ⟨at31,f32⟩ h1
  replace h1:cC n s_0 (m+1) at31 f32=some o73:=h1
  rw [cC] at h1
  refine nx 2 Z (bd h1 λ o76 h2 h1=>?_)
  refine kN o76 (λ v77=>⟨[(0,.p (eS s_0)),(5,.ptr 5 0),(6,.p (eI at31)),(26,.p (eB v77))],[(5,[.bptr 93 2 5,.vec 101000 1 (5+1) (f32.map eU)])]⟩) ?_ ?_
  ·refine nx 1 Z (fB [26] h1 Z (λ c36 h1=>?_) λ c36 h1=>?_)
   ·refine nx 7 Z (oP h1 Z Z Z λ hk37 h1=>?_)
    refine bd h1 λ r38 e39 h1=>oK (dF (sub s_0 at31 (s_0.length:Int)) _ e39) Z ⟨sr,trivial⟩ Tryz.call126 Z (nx 7 Z ?_)
    obtain ⟨o78,h2,hL1,hR1⟩:=dj h1
    refine kX (λ v79:Int×Int=>o78=.inl v79) (λ v79=>⟨[(0,.p (eS s_0)),(5,.ptr 5 0),(6,.p (eI at31)),(7,.p (eK .i32 v79.1)),(8,.p (eI v79.2))],[(5,[.bptr 93 2 5,.vec 101000 1 (5+1) (f32.map eU)])]⟩) (λ v79 hv=>?_) ?_
    ·have h1:=hL1 _ hv
     refine nx 4 Z (bd h1 λ r55 e56 h1=>?_)
     refine mO Z (bq [5] [101000] 102000 102001 (jE (aJ.mk f32) v79.1 _ e56) Z Z Z Z Z ⟨sr,sr,trivial⟩ Z Z ⟨⟨_,Z,⟨sr,sr,trivial⟩⟩,trivial⟩ Z Z Z Z Z Z Z Z Tryz.call175 Z Z ?_)
     refine nx 4 Z (oA h1 Z Z λ hk57 h1=>?_)
     exact nx 2 Z (eX (at31+v79.2,r55.2.2.fbuf) h1 (aY (bK 102000 101000 Z Z Z Z Z) (gE Z Z)))
    refine nx 5 Z (fD [35] h2 Z (λ c40 h2=>?_) λ c40 h2=>?_)
    ·exact A2
    refine nx 2 Z (bd h2 λ o80 h3 h2=>?_)
    refine kN o80 (λ v81=>⟨[(0,.p (eS s_0)),(5,.ptr 5 0),(6,.p (eI at31)),(7,.p (eK .i32 r38.1)),(8,.p (eI r38.2)),(64,.p (eB v81))],[(5,[.bptr 93 2 5,.vec 101000 1 (5+1) (f32.map eU)])]⟩) ?_ ?_
    ·exact A2
    refine nx 4 Z (fD [52,53] h3 Z (λ c47 h3=>?_) λ c47 h3=>?_)
    ·refine nx 4 Z (fD [55,56,57] h3 Z (λ c48 h3=>?_) λ c48 h3=>?_)
     ·exact nx 8 Z (eX _ (oi h3).symm (gE Z Z))
     refine nx 4 Z (fD [59,60,61] h3 Z (λ c49 h3=>?_) λ c49 h3=>?_)
     ·exact nx 4 Z (eX _ (oi h3).symm (gE Z Z))
     exact nx 4 Z (eX _ (oi h3).symm (gE Z Z))
    refine nx 8 Z (fD [59,60,61] h3 Z (λ c50 h3=>?_) λ c50 h3=>?_)
    ·exact nx 4 Z (eX _ (oi h3).symm (gE Z Z))
    exact nx 4 Z (eX _ (oi h3).symm (gE Z Z))
   exact A1
  exact A2
 exact A0
def iM (s_0:Bytes):Option Bool :=
 (
   if (s_0.length:Int)≤4096 then
    (dz s_0).bind λ r2 =>
    some r2
   else
    some false
  : Option Bool).bind λ t4 =>
 some t4
instance zD (s_0:Bytes):∀ (r:Bool),HP (iM s_0=some r) Tryz.prog 188 [eS s_0] (.p (eB r)):=by
 refine hP good Tryz.func188 Z Z λ r h0 _ w0=>?_
 unfold iM at h0
 refine nx 5 Z (bd h0 λ o6 h1 h0=>?_)
 refine kN o6 (λ v7=>⟨[(2,.p (eB v7))],[]⟩) ?_ ?_
 ·exact A0
 exact A1
end Go.Ab.R06
end
section
namespace Go.Ab.R06
open Go.Ab Go.Ab.RB
section
variable {α β:Type} {P:α→Prop}
theorem am {g:Nat→Nat→Option β}{k:Nat→Nat→β→Option α}(x:β)(h:Ev2 g (·=x))(hk:Ev2 (λ n m=>k n m x) P):Ev2 (λ n m=>(g n m).bind (k n m)) P :=
 af (·=x) h λ y hy=>by subst hy; exact hk
end
def ji (b:UInt8):Bool:=(decide (97≤b.toNat)&&decide (b.toNat≤122))||(decide (65≤b.toNat)&&decide (b.toNat≤90))||decide (b.toNat=95)
def eq (b:UInt8):Bool:=decide (48≤b.toNat)&&decide (b.toNat≤57)
def idB (b:UInt8):Bool:=ji b||eq b
def gX:Bytes→Bool
 | []=>false
 | b::r=>decide ((b::r).length≤64)&&ji b&&r.all idB
def vJ (s:Bytes)(i:Nat):Bool:=ji (s.getD i 0)||(decide (i≠0)&&eq (s.getD i 0))
def pM (p:Nat→Bool):Nat→Nat→Bool
 | _,0=>true
 | i,k+1=>p i&&pM p (i+1) k
theorem re (p:Nat→Bool):∀ (k i:Nat),pM p i k=true↔∀ j,i≤j→j < i+k→p j=true
 | 0,i=>by simp [pM]; intro j h1 h2; omega
 | k+1,i=>by
  rw [pM,Bool.and_eq_true,re p k (i+1)]
  constructor
  ·rintro ⟨h1,h2⟩ j h3 h4
   by_cases e:j=i
   ·rw [e]; exact h1
   ·exact h2 j O O
  ·intro h
   exact ⟨h i O O,λ j h1 h2=>h j O O⟩
theorem or32:(List.range 256).all (λ n=>(decide ((97:Int)≤iOr .u8 (n:Int) 32)&&decide (iOr .u8 (n:Int) 32≤122)) == ((decide (97≤n)&&decide (n≤122))||(decide (65≤n)&&decide (n≤90))))=true:=by kernel_rfl
theorem EI (b:UInt8):(97≤iOr .u8 ((b.toNat:Nat):Int) 32∧iOr .u8 ((b.toNat:Nat):Int) 32≤122)↔((97≤b.toNat∧b.toNat≤122)∨(65≤b.toNat∧b.toNat≤90)):=by
 have h:=List.all_eq_true.1 or32 b.toNat (List.mem_range.2 b.toNat_lt)
 have h:=eq_of_beq h
 rw [Bool.eq_iff_iff] at h
 simpa using h
theorem ln (b:UInt8):ji b=true↔(97≤b.toNat∧b.toNat≤122)∨(65≤b.toNat∧b.toNat≤90)∨b.toNat=95:=by
 simp [ji,or_assoc]
theorem j3 (b:UInt8):eq b=true↔48≤b.toNat∧b.toNat≤57:=by simp [eq]
theorem eqB {a b:Bool}(h:a=true↔b=true):a=b:=Bool.eq_iff_iff.2 h
theorem oW (s:Bytes)(i:Nat):vJ s i=true↔ji (s.getD i 0)=true∨(i≠0∧eq (s.getD i 0)=true):=by simp [vJ]
theorem wB (s:Bytes):gX s=true↔s≠[]∧s.length≤64∧pM (vJ s) 0 s.length=true:=by
 rw [re]
 cases s with
 | nil=>simp [gX]
 | cons b r =>
  simp only [gX,Bool.and_eq_true,decide_eq_true_eq,List.all_eq_true]
  constructor
  ·rintro ⟨⟨h1,h2⟩,h3⟩
   refine ⟨by simp,h1,λ j _ hj=>?_⟩
   rw [oW]
   cases j with
   | zero=>exact .inl h2
   | succ j =>
    have hm:r.getD j 0∈r:=by
     rw [List.getD_eq_getElem?_getD,List.getElem?_eq_getElem (by simp at hj; omega)]
     exact List.getElem_mem _
    have:=h3 _ hm
    simp only [idB,Bool.or_eq_true] at this
    rcases this with h | h
    ·exact .inl h
    ·exact .inr ⟨by omega,h⟩
  ·rintro ⟨_,h1,h2⟩
   refine ⟨⟨h1,?_⟩,λ x hx=>?_⟩
   ·have:=(oW _ _).1 (h2 0 O G)
    simpa using this
   ·obtain ⟨j,hj,rfl⟩:=List.getElem_of_mem hx
    have:=(oW _ _).1 (h2 (j+1) O (by simp; omega))
    rw [show (b::r).getD (j+1) 0=r[j] by simp [hj]] at this
    simp only [idB,Bool.or_eq_true]
    rcases this with h | h
    ·exact .inl h
    ·exact .inr h.2
end Go.Ab.R06
namespace Go.Ab.R06
open Go.Ab Go.Ab.RB Go.Lib
def lj (acc:Nat)(l:Bytes):Nat:=l.foldl (λ a b=>a*10+(b.toNat - 48)) acc
theorem u4 (a:Nat):lj a []=a:=rfl
theorem sR (a:Nat)(b:UInt8)(l:Bytes):lj a (b::l)=lj (a*10+(b.toNat - 48)) l:=by simp only [lj,List.foldl_cons]
theorem xD:∀ (l:Bytes) (a:Nat),a≤lj a l
 | [],a=>Nat.le_of_eq (u4 a).symm
 | b::r,a=>by
  rw [sR]
  have:=xD r (a*10+(b.toNat - 48))
  generalize lj (a*10+(b.toNat - 48)) r=v at this ⊢
  omega
theorem xn {l:Bytes}(h:l.all eq=true){b:UInt8}(hb:b∈l):48≤b.toNat∧b.toNat≤57:=(j3 b).1 (List.all_eq_true.1 h b hb)
theorem Ay:∀ (l:Bytes) (acc:Nat),l.all eq=true→(lj acc l≤18446744073709551615→parseUintM 18446744073709551615 acc l=.ok (lj acc l))∧(18446744073709551615 < lj acc l→acc≤18446744073709551615→parseUintM 18446744073709551615 acc l=.range)
 | [],acc,_=>by
  rw [u4]
  exact ⟨λ _=>rfl,λ h h'=>by omega⟩
 | b::r,acc,h=>by
  have hb:=xn h List.mem_cons_self
  have hr:r.all eq=true:=by simp only [List.all_cons,Bool.and_eq_true] at h; exact h.2
  rw [parseUintM,if_pos hb,sR]
  have hg:=xD r (acc*10+(b.toNat - 48))
  have ih:=Ay r (acc*10+(b.toNat - 48)) hr
  generalize lj (acc*10+(b.toNat - 48)) r=v at hg ih ⊢
  by_cases h1:1844674407370955162≤acc
  ·rw [if_pos h1]
   exact ⟨λ h2=>by omega,λ _ _=>rfl⟩
  ·rw [if_neg h1]
   by_cases h2:18446744073709551615 < acc*10+(b.toNat - 48)
   ·rw [if_pos h2]
    exact ⟨λ h3=>by omega,λ _ _=>rfl⟩
   ·rw [if_neg h2]
    exact ⟨ih.1,λ h3 _=>ih.2 h3 O⟩
theorem EY (l:Bytes)(hne:l≠[])(h:l.all eq=true):parseUintB 64 l=if lj 0 l≤18446744073709551615 then .ok (lj 0 l) else .range:=by
 rw [parseUintB,if_neg hne]
 show parseUintM (2 ^ 64 - 1) 0 l=_
 rw [show (2 ^ 64 - 1:Nat)=18446744073709551615 from rfl]
 have:=Ay l 0 h
 generalize lj 0 l=v at this ⊢
 by_cases q:v≤18446744073709551615
 ·rw [if_pos q]; exact this.1 q
 ·rw [if_neg q]; exact this.2 O O
def wo (l:Bytes):Bool:=!l.isEmpty&&l.all eq&&(decide (l.getD 0 0≠48)||decide (l.length=1))
theorem uK (l:Bytes):wo l=true↔l≠[]∧l.all eq=true∧(l.getD 0 0≠48∨l.length=1):=by
 simp [wo,and_assoc]
def pI (s:Bytes):Bool:=decide (0 < s.length)&&decide (s.getD 0 0=45)
def digits (s:Bytes):Bytes:=if pI s=true then s.drop 1 else s
def qV (s:Bytes):Bool:=!(pI s&&decide (s.drop 1=[48]))&&wo (digits s)
def pH (s:Bytes):Int:=if pI s=true then -(lj 0 (digits s):Int) else (lj 0 (digits s):Int)
def ju:Int:=9007199254740992
def vT (s:Bytes):Int×Int:=if qV s=true then (if -ju≤pH s∧pH s≤ju then (pH s,0) else (0,5)) else (0,2)
theorem Bl (s:Bytes)(hs:s.length≤1000000000):∀ (k i:Nat),i+k=s.length→Ev2 (λ _ m=>bN s m (i:Int)) (·=if pM (λ j=>eq (s.getD j 0)) i k then .inl () else .inr false):=by
 intro k
 induction k with
 | zero =>
  intro i hi
  refine aZ ?_
  simp only [bN]
  refine ag O (ab Z)
 | succ k ih =>
  intro i hi
  refine aZ ?_
  simp only [bN]
  refine ai O ?_
  have hb:byt s i=((s.getD i 0).toNat:Int):=gi s i
  rw [hb]
  refine am (!eq (s.getD i 0)) ?_ ?_
  ·have h:=j3 (s.getD i 0)
   generalize s.getD i 0=b at h ⊢
   refine av O (aK (λ h1=>ab ?_) (λ h1=>av O (ab ?_)))
   ·have:eq b=false:=by rw [← Bool.not_eq_true,h]; omega
    simp [this]
   ·refine eqB ?_
    rw [decide_eq_true_eq,Bool.not_eq_true',← Bool.not_eq_true,h]
    omega
  ·cases hk:eq (s.getD i 0) with
   | false=>exact ai Z (ab (by simp only [pM,hk,Bool.false_and]; rfl))
   | true =>
    refine ag G (av (aI O O) ?_)
    have:=ih (i+1) O
    rw [Int.natCast_add,Int.natCast_one] at this
    simp only [pM,hk,Bool.true_and]
    exact this
theorem BW (s:Bytes)(p:UInt8→Bool):pM (λ j=>p (s.getD j 0)) 0 s.length=s.all p:=by
 refine eqB ?_
 rw [re,List.all_eq_true]
 constructor
 ·intro h x hx
  obtain ⟨j,hj,rfl⟩:=List.getElem_of_mem hx
  have:=h j O O
  simpa [hj] using this
 ·intro h j _ hj
  have hj:j < s.length:=by omega
  have:=h s[j] (List.getElem_mem hj)
  simpa [hj] using this
theorem tQ (s:Bytes)(hs:s.length≤1000000000):Ev2 (λ n _=>dI n s) (·=qV s):=by
 simp only [dI]
 have hb:byt s 0=((s.getD 0 0).toNat:Int):=gi s 0
 have hneg:pI s=true↔0 < s.length∧s.getD 0 0=45:=by simp [pI]
 have h45:(s.getD 0 0).toNat=45↔s.getD 0 0=45:=⟨λ h=>UInt8.toNat_inj.1 h,λ h=>by rw [h]; rfl⟩
 have body:∀ t:Bytes,t.length≤1000000000→Ev2 (λ n m=>jn (bN t n 0) λ q31 =>
   ((if t=([]:Bytes) then some false else ck ((0:Int)≤0∧0 < (t.length:Int)) <| if byt t 0=48 then some (decide ((t.length:Int)=1)) else some true):Option Bool).bind λ t28=>some t28) (·=wo t):=by
  intro t ht
  have l:=Bl t ht t.length 0 O
  rw [BW] at l
  have hc:=uK t
  have hb':byt t 0=((t.getD 0 0).toNat:Int):=gi t 0
  have h48:(t.getD 0 0).toNat=48↔t.getD 0 0=48:=⟨λ h=>UInt8.toNat_inj.1 h,λ h=>by rw [h]; rfl⟩
  cases ha:t.all eq with
  | false =>
   rw [ha] at l hc
   refine jB false (bT l) (eqB ?_)
   rw [hc]; simp
  | true =>
   rw [ha] at l hc
   refine f0 () (bT l) (af (·=wo t) ?_ (λ x hx=>ab hx))
   refine aK (λ h=>ab (eqB ?_)) (λ h=>av ?_ ?_)
   ·rw [hc]; simp [h]
   ·have:=List.length_pos_iff.2 h; omega
   ·rw [hb']
    refine aK (λ h1=>ab (eqB ?_)) (λ h1=>ab (eqB ?_))
    ·have h2:=h48.1 O
     rw [hc,decide_eq_true_eq]
     constructor
     ·intro q; exact ⟨h,by simp,.inr O⟩
     ·rintro ⟨_,_,q | q⟩
      ·exact absurd h2 q
      ·omega
    ·rw [hc]; simp only [true_iff]
     exact ⟨h,by simp,.inl λ q=>h1 (by have:=h48.2 q; omega)⟩
 refine ee (am (pI s) ?_ ?_)
 ·refine aK (λ h=>av O (ab (eqB ?_))) (λ h=>ab (eqB ?_))
  ·rw [hneg,hb,decide_eq_true_eq]
   constructor
   ·intro q; exact ⟨by omega,h45.1 O⟩
   ·rintro ⟨_,q⟩; have:=h45.2 q; omega
  ·rw [hneg]
   constructor
   ·intro q; cases q
   ·rintro ⟨q,_⟩; omega
 ·rw [iC]
  show Ev2 (λ n m=>if pI s=true then ck _ (if s.drop 1=[48] then some (Sum.inr false) else some (Sum.inl (s.drop 1))) else some (Sum.inl s)) _
  refine aK (λ h=>av ?_ (aK (λ h1=>ab ?_) (λ h1=>ab ?_))) (λ h=>ab ?_)
  ·have:=hneg.1 h; omega
  ·simp [qV,h,h1]
  ·have e:qV s=wo (s.drop 1):=by unfold qV digits; rw [if_pos h,decide_eq_false h1]; simp
   rw [e]
   exact body _ (by simp; omega)
  ·have e:qV s=wo s:=by simp [qV,h,digits]
   rw [e]
   exact body _ hs
theorem tv (v:Int):gS v=some (decide (-ju≤v∧v≤ju)):=by
 simp only [gS]
 by_cases h:(-9007199254740992:Int)≤v
 ·rw [if_pos h]
  by_cases h2:v≤9007199254740992
  ·simp [h2,ju,h]
  ·simp [h2,ju]
 ·rw [if_neg h,Option.bind_some]
  refine congrArg some (eqB ?_)
  rw [decide_eq_true_eq]; unfold ju
  constructor
  ·intro q; cases q
  ·intro q; exact absurd q.1 h
theorem vf {s:Bytes}(h:qV s=true):digits s≠[]∧(digits s).all eq=true:=by
 simp only [qV,Bool.and_eq_true] at h
 have:=(uK _).1 h.2
 exact ⟨this.1,this.2.1⟩
theorem Eo (s:Bytes)(h:qV s=true):parseIntB 64 s=if (if pI s=true then 9223372036854775808 < lj 0 (digits s) else 9223372036854775808≤lj 0 (digits s)) then .range else .ok (pH s):=by
 obtain ⟨h1,h2⟩:=vf h
 cases s with
 | nil=>exact absurd (by simp [digits,pI]) h1
 | cons c r =>
  have e45:c.toNat=45↔c=45:=⟨λ h=>UInt8.toNat_inj.1 h,λ h=>by rw [h]; rfl⟩
  have hneg:pI (c::r)=decide (c=45):=by simp [pI]
  have hd:(if c.toNat=43∨c.toNat=45 then r else c::r)=digits (c::r):=by
   unfold digits
   rw [hneg]
   by_cases q:c=45
   ·rw [if_pos (.inr (e45.2 q)),if_pos (by simp [q])]; rfl
   ·have e:digits (c::r)=c::r:=by unfold digits; rw [hneg,if_neg (by simp [q])]
    have e2:(if decide (c=45)=true then List.drop 1 (c::r) else c::r)=c::r:=if_neg (by simp [q])
    rw [e2,if_neg]
    rintro (k | k)
    ·rw [e] at h2
     have:=xn h2 List.mem_cons_self
     omega
    ·exact q (e45.1 k)
  have hp:=EY _ h1 h2
  unfold parseIntB
  simp only [hd,hp]
  rw [hneg]
  unfold pH
  rw [hneg]
  generalize lj 0 (digits (c::r))=v
  by_cases q:c=45
  ·subst q
   by_cases hv:v≤18446744073709551615
   ·simp only [hv,if_true]
    by_cases hw:9223372036854775808 < v
    ·simp [hw]
    ·simp [hw]
   ·simp only [hv,if_false]
    rw [if_pos]; simp; omega
  ·have q':¬ c.toNat=45:=λ k=>q (e45.1 k)
   by_cases hv:v≤18446744073709551615
   ·simp only [hv,if_true]
    by_cases hw:9223372036854775808≤v
    ·simp [q,q',hw]
    ·simp [q,q',hw]
   ·simp only [hv,if_false]
    rw [if_pos]; simp [q]; omega
theorem vm (s:Bytes)(hs:s.length≤1000000000):Ev2 (λ n _=>fz n s) (·=vT s):=by
 simp only [fz]
 refine am _ (tQ s hs) ?_
 cases hc:qV s with
 | false=>exact ai Z (ab (by simp [vT,hc]))
 | true =>
  refine ag G ?_
  have hp:gN s 10 64=some (match parseIntB 64 s with | .ok v=>(v,false) | .range=>(intSat 64 s,true) | _=>(0,true)):=by
   unfold gN
   exact bS ⟨Z,Z,by omega⟩
  rw [Eo s hc] at hp
  have e:vT s=(if -ju≤pH s∧pH s≤ju then (pH s,0) else (0,5)):=by simp [vT,hc]
  rw [e]
  by_cases hr:(if pI s=true then 9223372036854775808 < lj 0 (digits s) else 9223372036854775808≤lj 0 (digits s))
  ·rw [if_pos hr] at hp
   refine am _ (ao hp Z) ?_
   refine am true (ai Z (ab Z)) (ai Z (ab ?_))
   rw [if_neg]
   unfold pH ju
   cases hn:pI s with
   | true=>rw [hn,if_pos rfl] at hr; rw [if_pos rfl]; omega
   | false=>rw [hn,if_neg G] at hr; rw [if_neg G]; omega
  ·rw [if_neg hr] at hp
   refine am _ (ao hp Z) ?_
   refine am (!decide (-ju≤pH s∧pH s≤ju)) ?_ ?_
   ·exact ag G (am _ (ao (tv _) Z) (ab Z))
   ·by_cases q:-ju≤pH s∧pH s≤ju
    ·rw [if_pos q]
     exact ag (by simp [q]) (ab Z)
    ·rw [if_neg q]
     exact ai (by simp only [q,decide_false,Bool.not_false]) (ab Z)
end Go.Ab.R06
namespace Go.Ab.R06
open Go.Ab Go.Ab.RB Go.Lib
theorem vO (x:Int):IntKind.wrap .u8 x=x % 256:=by simp [IntKind.wrap,IntKind.bits,IntKind.signed]
theorem wrap32 (x:Int):IntKind.wrap .u32 x=x % 4294967296:=by simp [IntKind.wrap,IntKind.bits,IntKind.signed]
theorem shr6 (x:Int):fR .i32 x 6=x / 64:=by
 show x.fdiv (2 ^ 6)=x / 64
 rw [Int.fdiv_eq_ediv_of_nonneg _ (by decide)]; rfl
theorem FW (x:Int):fR .i32 x 12=x / 4096:=by
 show x.fdiv (2 ^ 12)=x / 4096
 rw [Int.fdiv_eq_ediv_of_nonneg _ (by decide)]; rfl
theorem FX (x:Int):fR .i32 x 18=x / 262144:=by
 show x.fdiv (2 ^ 18)=x / 262144
 rw [Int.fdiv_eq_ediv_of_nonneg _ (by decide)]; rfl
theorem t63:(List.range 256).all (λ n=>dx .u8 (n:Int) 63 == ((n % 64:Nat):Int))=true:=by kernel_rfl
theorem t128:(List.range 64).all (λ n=>iOr .u8 128 (n:Int) == ((128+n:Nat):Int))=true:=by kernel_rfl
theorem t192:(List.range 32).all (λ n=>iOr .u8 192 (n:Int) == ((192+n:Nat):Int))=true:=by kernel_rfl
theorem t224:(List.range 16).all (λ n=>iOr .u8 224 (n:Int) == ((224+n:Nat):Int))=true:=by kernel_rfl
theorem t240:(List.range 8).all (λ n=>iOr .u8 240 (n:Int) == ((240+n:Nat):Int))=true:=by kernel_rfl
theorem tab {f g:Nat→Int}{m:Nat}(h:(List.range m).all (λ n=>f n == g n)=true)(n:Nat)(hn:n < m):f n=g n:=eq_of_beq (List.all_eq_true.1 h n (List.mem_range.2 hn))
theorem Ad (x:Int):dx .u8 (IntKind.wrap .u8 x) 63=x % 64:=by
 rw [vO]
 obtain ⟨n,hn⟩:∃ n:Nat,x % 256=n:=⟨(x % 256).toNat,by omega⟩
 rw [hn,tab t63 n O]; omega
theorem BK {x:Int}(h0:0≤x)(h1:x < 64):iOr .u8 128 x=128+x:=by
 obtain ⟨n,rfl⟩:∃ n:Nat,x=n:=⟨x.toNat,by omega⟩
 rw [tab t128 n O]; omega
theorem Gg {x:Int}(h0:0≤x)(h1:x < 32):iOr .u8 192 x=192+x:=by
 obtain ⟨n,rfl⟩:∃ n:Nat,x=n:=⟨x.toNat,by omega⟩
 rw [tab t192 n O]; omega
theorem Gs {x:Int}(h0:0≤x)(h1:x < 16):iOr .u8 224 x=224+x:=by
 obtain ⟨n,rfl⟩:∃ n:Nat,x=n:=⟨x.toNat,by omega⟩
 rw [tab t224 n O]; omega
theorem FI {x:Int}(h0:0≤x)(h1:x < 8):iOr .u8 240 x=240+x:=by
 obtain ⟨n,rfl⟩:∃ n:Nat,x=n:=⟨x.toNat,by omega⟩
 rw [tab t240 n O]; omega
def gk (r:Int):Prop:=(0≤r∧r < 55296)∨(57343 < r∧r≤1114111)
theorem uA (p:Bytes)(r:Int)(h:gk r)(hp:p.length≤100000000000):dH p r=some (p++encodeRune r):=by
 have h0:0≤r∧r≤1114111:=by unfold gk at h; omega
 have hw:IntKind.wrap .u32 r=r:=by rw [wrap32]; omega
 unfold dH
 rw [hw]
 by_cases h1:r≤127
 ·have hw8:IntKind.wrap .u8 r=r:=by rw [vO]; omega
  rw [if_pos h1,hw8,bS O,bS (by simp; omega)]
  simp only [encodeRune,encodeRuneZ,if_pos (show 0≤r∧r≤127 from ⟨h0.1,h1⟩),List.map_cons,List.map_nil,u8]
 rw [if_neg h1]
 unfold cW
 rw [hw,Ad,shr6,FW,FX,Ad,Ad]
 have o1:iOr .u8 128 (r % 64)=128+r % 64:=BK O O
 have o2:iOr .u8 128 (r / 64 % 64)=128+r / 64 % 64:=BK O O
 have o3:iOr .u8 128 (r / 4096 % 64)=128+r / 4096 % 64:=BK O O
 rw [o1,o2,o3]
 have n1:¬ (0≤r∧r≤127):=by omega
 by_cases h2:r≤2047
 ·have hw8:IntKind.wrap .u8 (r / 64)=r / 64:=by rw [vO]; omega
  rw [if_pos h2,hw8,Gg O O,bS O,bS O,bS O,bS (by simp; omega)]
  simp only [encodeRune,encodeRuneZ,if_neg n1,if_pos (show 128≤r∧r≤2047 by omega),List.map_cons,List.map_nil,u8,Option.bind_some]
 rw [if_neg h2]
 have n2:¬ (128≤r∧r≤2047):=by omega
 by_cases h3:r < 55296∨(57343 < r∧r≤65535)
 ·have hw8:IntKind.wrap .u8 (r / 4096)=r / 4096:=by rw [vO]; omega
  have e:((if r < 55296 then some true else if 57343 < r then some (decide (r≤65535)) else some false):Option Bool)=some true:=by
   rcases h3 with q | q
   ·rw [if_pos q]
   ·rw [if_neg O,if_pos q.1]; simp [q.2]
  rw [e,Option.bind_some,if_pos rfl,hw8,Gs O O,bS O,bS O,bS O,bS O,bS O,bS (by simp; omega)]
  simp only [encodeRune,encodeRuneZ,if_neg n1,if_neg n2,if_pos (show (2048≤r∧r < 55296)∨(57343 < r∧r≤65535) by omega),List.map_cons,List.map_nil,u8,Option.bind_some]
 ·have h4:65535 < r:=by unfold gk at h; omega
  have hw8:IntKind.wrap .u8 (r / 262144)=r / 262144:=by rw [vO]; omega
  have e:((if r < 55296 then some true else if 57343 < r then some (decide (r≤65535)) else some false):Option Bool)=some false:=by
   rw [if_neg O,if_pos O]; simp; omega
  have e2:((if 65535 < r then some (decide (r≤1114111)) else some false):Option Bool)=some true:=by rw [if_pos h4]; simp; omega
  rw [e,Option.bind_some,if_neg G,e2,Option.bind_some,if_pos rfl,hw8,FI O O,bS O,bS O,bS O,bS O,bS O,bS O,bS O,bS (by simp; omega)]
  simp only [encodeRune,encodeRuneZ,if_neg n1,if_neg n2,if_neg (show ¬ ((2048≤r∧r < 55296)∨(57343 < r∧r≤65535)) by omega),if_pos (show 65536≤r∧r≤1114111 by omega),List.map_cons,List.map_nil,u8,Option.bind_some]
theorem oe (l:Bytes)(h:l≠[]):decodeGo (str l)=decodeL l:=by
 unfold decodeGo
 rw [if_neg]
 ·rfl
 ·rw [hH]; intro q; exact h (List.length_eq_zero_iff.1 q)
theorem kp (r:Int)(h:gk r):1≤(encodeRune r).length∧(encodeRune r).length≤4:=by
 unfold encodeRune encodeRuneZ
 rw [List.length_map]
 repeat' split
 all_goals simp
theorem tM (r:Int)(h:gk r)(t:Bytes):decodeL (encodeRune r++t)=(r.toNat,(encodeRune r).length):=by
 have h0:0≤r∧r≤1114111:=by unfold gk at h; omega
 have hb:∀ x:Int,0≤x→x < 256→(x.toNat.toUInt8).toNat=x.toNat:=λ x a b=>by
  show (UInt8.ofNat x.toNat).toNat=_
  rw [UInt8.toNat_ofNat']; omega
 rw [decodeL_N]
 by_cases h1:r≤127
 ·have e:encodeRune r=[r.toNat.toUInt8]:=by simp only [encodeRune,encodeRuneZ,if_pos (show 0≤r∧r≤127 from ⟨h0.1,h1⟩),List.map_cons,List.map_nil]
  rw [e]
  have b0:=hb r O O
  simp only [List.cons_append,List.getD_cons_zero,b0]
  unfold decodeN
  rw [if_pos O]; rfl
 have n1:¬ (0≤r∧r≤127):=by omega
 by_cases h2:r≤2047
 ·have e:encodeRune r=[(192+r / 64).toNat.toUInt8,(128+r % 64).toNat.toUInt8]:=by
   simp only [encodeRune,encodeRuneZ,if_neg n1,if_pos (show 128≤r∧r≤2047 by omega),List.map_cons,List.map_nil]
  rw [e]
  have b0:=hb (192+r / 64) O O
  have b1:=hb (128+r % 64) O O
  simp only [List.cons_append,List.getD_cons_zero,List.getD_cons_succ,b0,b1,List.length_cons,List.nil_append]
  unfold decodeN
  rw [if_neg O,if_pos O,if_pos O]
  refine Prod.ext ?_ Z
  show _=r.toNat
  simp only; omega
 have n2:¬ (128≤r∧r≤2047):=by omega
 by_cases h3:r < 55296∨(57343 < r∧r≤65535)
 ·have e:encodeRune r=[(224+r / 4096).toNat.toUInt8,(128+r / 64 % 64).toNat.toUInt8,(128+r % 64).toNat.toUInt8]:=by
   simp only [encodeRune,encodeRuneZ,if_neg n1,if_neg n2,if_pos (show (2048≤r∧r < 55296)∨(57343 < r∧r≤65535) by omega),List.map_cons,List.map_nil]
  rw [e]
  have b0:=hb (224+r / 4096) O O
  have b1:=hb (128+r / 64 % 64) O O
  have b2:=hb (128+r % 64) O O
  simp only [List.cons_append,List.getD_cons_zero,List.getD_cons_succ,b0,b1,b2,List.length_cons,List.nil_append]
  unfold decodeN
  rw [if_neg O,if_neg O,if_pos O,if_pos O]
  refine Prod.ext ?_ Z
  show _=r.toNat
  simp only; omega
 ·have h4:65535 < r:=by unfold gk at h; omega
  have e:encodeRune r=[(240+r / 262144).toNat.toUInt8,(128+r / 4096 % 64).toNat.toUInt8,(128+r / 64 % 64).toNat.toUInt8,(128+r % 64).toNat.toUInt8]:=by
   simp only [encodeRune,encodeRuneZ,if_neg n1,if_neg n2,if_neg (show ¬ ((2048≤r∧r < 55296)∨(57343 < r∧r≤65535)) by omega),if_pos (show 65536≤r∧r≤1114111 by omega),List.map_cons,List.map_nil]
  rw [e]
  have b0:=hb (240+r / 262144) O O
  have b1:=hb (128+r / 4096 % 64) O O
  have b2:=hb (128+r / 64 % 64) O O
  have b3:=hb (128+r % 64) O O
  simp only [List.cons_append,List.getD_cons_zero,List.getD_cons_succ,b0,b1,b2,b3,List.length_cons,List.nil_append]
  unfold decodeN
  rw [if_neg O,if_neg O,if_neg O,if_pos O,if_pos O]
  refine Prod.ext ?_ Z
  show _=r.toNat
  simp only; omega
theorem se (r:Int)(h:gk r)(t:Bytes):validD (encodeRune r++t)=validD t:=by
 have hl:=kp r h
 have hne:encodeRune r++t≠[]:=by
  intro q; rw [List.append_eq_nil_iff] at q; rw [q.1] at hl; simp at hl
 rw [validD_step _ hne,tM r h t,if_neg]
 ·simp
 ·rintro ⟨a,b⟩
  have hr:r=65533:=by omega
  subst hr
  simp [encodeRune,encodeRuneZ] at b
theorem gT (l:Bytes)(h:l≠[]):1≤(decodeL l).2∧(decodeL l).2≤l.length∧(¬ ((decodeL l).1=65533∧(decodeL l).2=1)→gk ((decodeL l).1:Int)∧encodeRune ((decodeL l).1:Int)=l.take (decodeL l).2):=by
 have hl:0 < l.length:=List.length_pos_iff.2 h
 have hd:=decN l.length (l.getD 0 0).toNat (l.getD 1 0).toNat (l.getD 2 0).toNat (l.getD 3 0).toNat O (UInt8.toNat_lt _)
 rw [← decodeL_N] at hd
 refine ⟨hd.1,hd.2.1,λ q=>⟨?_,encode_decode l h q⟩⟩
 have:=hd.2.2.2.2.2
 unfold gk; omega
theorem wg (l:Bytes)(h:l≠[]):validD l=true↔¬ ((decodeL l).1=65533∧(decodeL l).2=1)∧validD (l.drop (decodeL l).2)=true:=by
 rw [validD_step l h]
 by_cases q:(decodeL l).1=65533∧(decodeL l).2=1
 ·simp [q]
 ·simp [q]
end Go.Ab.R06
namespace Go.Ab.R06
open Go.Ab Go.Ab.RB Go.Lib
theorem wstr (f x:Bytes)(h:f.length+x.length≤100000000000):bJ (aJ.mk f) x=some ((x.length:Int),false,aJ.mk (f++x)):=by
 unfold bJ co
 rw [Option.bind_some,bS (by simp only; omega)]
theorem FY (f:Bytes)(b:UInt8)(h:f.length≤100000000000):dp (aJ.mk f) (b.toNat:Int)=some (false,aJ.mk (f++[b])):=by
 have:=b.toNat_lt
 unfold dp co
 rw [Option.bind_some,bS O,bS (by simp; omega),Ex]
theorem D8 (f:Bytes)(r:Int)(hr:gk r)(h:f.length≤10000000000):dr (aJ.mk f) r=some (((encodeRune r).length:Int),false,aJ.mk (f++encodeRune r)):=by
 have hl:=kp r hr
 unfold dr co
 rw [Option.bind_some,uA f r hr O,Option.bind_some]
 have e:((f++encodeRune r).length:Int) - (f.length:Int)=(encodeRune r).length:=by rw [List.length_append]; omega
 rw [e,bS (aI O O)]
theorem bstr (f:Bytes)(h:f.length≤1000000000000):d3 (aJ.mk f)=some (f,aJ.mk f):=by
 unfold d3
 rw [bS (by simp only; omega)]
theorem Fe (s:Bytes):iM s=some (decide (s.length≤4096)&&validD s):=by
 unfold iM
 by_cases h:(s.length:Int)≤4096
 ·have hv:dz s=some (validD s):=by unfold dz; exact bS O
  rw [if_pos h,hv]
  simp; omega
 ·rw [if_neg h]
  simp; intro q; omega
end Go.Ab.R06
namespace Go.Ab.R06
open Go.Ab Go.Ab.RB Go.Lib
def oc (b:UInt8):Option Nat:=if 48≤b.toNat∧b.toNat≤57 then some (b.toNat - 48) else if 97≤b.toNat∧b.toNat≤102 then some (b.toNat - 87) else none
def AG:Bytes:=[48,49,50,51,52,53,54,55,56,57,97,98,99,100,101,102]
theorem hexT:(List.range 256).all (λ n=>indexByte AG (UInt8.ofNat n) == (match oc (UInt8.ofNat n) with | some d=>(d:Int) | none=>-1))=true:=by kernel_rfl
theorem tc (b:UInt8):indexByte AG b=match oc b with | some d=>(d:Int) | none=>-1:=by
 have:=eq_of_beq (List.all_eq_true.1 hexT b.toNat (List.mem_range.2 b.toNat_lt))
 simpa using this
theorem DC {b:UInt8}{d:Nat}(h:oc b=some d):d < 16:=by
 unfold oc at h
 split at h
 ·cases h; omega
 ·split at h
  ·cases h; omega
  ·cases h
def cb:Nat→Bytes→Nat→Nat×Nat
 | 0,_,a=>(a,0)
 | _+1,[],a=>(a,0)
 | k+1,b::r,a=>match oc b with
  | some d=>((cb k r (16*a+d)).1,(cb k r (16*a+d)).2+1)
  | none=>(a,0)
theorem mT:∀ (k:Nat) (l:Bytes) (a:Nat),(cb k l a).2≤k∧(cb k l a).2≤l.length
 | 0,_,_=>⟨Nat.le_refl _,Nat.zero_le _⟩
 | _+1,[],_=>⟨Nat.zero_le _,Nat.le_refl _⟩
 | k+1,b::r,a=>by
  unfold cb
  cases oc b with
  | none=>exact ⟨Nat.zero_le _,Nat.zero_le _⟩
  | some d=>have:=mT k r (16*a+d); simp only [List.length_cons]; omega
theorem na (n:Int)(h0:0≤n)(h1:n < 2147483648):IntKind.wrap .i32 n=n:=by
 simp [IntKind.wrap,IntKind.bits,IntKind.signed]
 omega
theorem Fq (s:Bytes)(hs:s.length≤1000000000):∀ (k i a:Nat),i+k=6→i≤s.length→a < 16 ^ i→Ev2 (λ _ m=>bG s m (a:Int) (i:Int))
  (·=(((cb k (s.drop i) a).1:Int),((i+(cb k (s.drop i) a).2:Nat):Int))):=by
 intro k
 induction k with
 | zero =>
  intro i a hi hl ha
  refine aZ ?_
  simp only [bG]
  refine am false ?_ (ag G (ab (by simp [cb])))
  exact aK (λ h=>ab (by simp; omega)) (λ h=>ab Z)
 | succ k ih =>
  intro i a hi hl ha
  refine aZ ?_
  simp only [bG]
  by_cases h:i < s.length
  ·refine am true (ai O (ab (by simp; omega))) (ai Z (av O ?_))
   have hb:byt s i=((s.getD i 0).toNat:Int):=gi s i
   rw [hb]
   have hd:s.drop i=s.getD i 0::s.drop (i+1):=by
    rw [List.getD_eq_getElem?_getD,List.getElem?_eq_getElem h,Option.getD_some]
    exact List.drop_eq_getElem_cons h
   rw [hd]
   generalize s.getD i 0=b
   have hx:strings_IndexByte ([48,49,50,51,52,53,54,55,56,57,97,98,99,100,101,102]:Bytes) (b.toNat:Int)=some (indexByte AG b):=by
    unfold strings_IndexByte
    have:((b.toNat:Int).toNat.toUInt8)=b:=by simp
    rw [this]; rfl
   refine am _ (ao hx Z) ?_
   rw [tc]
   unfold cb
   cases hh:oc b with
   | none=>exact ai (by decide) (ab G)
   | some d =>
    have hlt:=DC hh
    have hp:16 ^ i≤16 ^ 5:=Nat.pow_le_pow_right (by decide) O
    have hp5:(16:Nat) ^ 5=1048576:=rfl
    refine ag G (av (aI O O) ?_)
    have e1:IntKind.wrap .i32 (16*(a:Int))=16*(a:Int):=na _ O O
    have e2:IntKind.wrap .i32 (d:Int)=(d:Int):=na _ O O
    have e3:IntKind.wrap .i32 (16*(a:Int)+(d:Int))=((16*a+d:Nat):Int):=by
     rw [na _ O O]; omega
    rw [e1,e2,e3]
    have:=ih (i+1) (16*a+d) O O  (by rw [Nat.pow_succ]; omega)
    rw [show (((i+1:Nat)):Int)=(i:Int)+1 by omega] at this
    refine cn this λ r hr=>?_
    rw [hr]
    refine Prod.ext Z ?_
    show ((i+1+_:Nat):Int)=((i+(_+1):Nat):Int)
    omega
  ·refine am false (ag O (ab Z)) (ag G (ab ?_))
   rw [List.drop_of_length_le O]
   simp [cb]
def fm (s:Bytes):Int×Int×Int :=
 let h:=cb 6 s 0
 if h.2=s.length then (0,0,40)
 else if s.getD h.2 0≠125∨h.2=0∨(1 < h.2∧s.getD 0 0=48)∨validRune (h.1:Int)=false then (0,0,2)
 else ((h.1:Int),((h.2+1:Nat):Int),0)
theorem uC {b:UInt8}{n:Nat}(hn:n < 256):b.toNat=n↔b=UInt8.ofNat n:=by
 constructor
 ·intro h; apply UInt8.toNat_inj.1; rw [h,UInt8.toNat_ofNat']; omega
 ·intro h; rw [h,UInt8.toNat_ofNat']; omega
theorem Dc {s:Bytes}{v c:Nat}(h:cb 6 s 0=(v,c)):fm s=if c=s.length then (0,0,40) else if s.getD c 0≠125∨c=0∨(1 < c∧s.getD 0 0=48)∨validRune (v:Int)=false then (0,0,2) else ((v:Int),((c+1:Nat):Int),0):=by
 unfold fm; rw [h]
theorem CF (s:Bytes)(hs:s.length≤1000000000):Ev2 (λ n _=>cF n s) (·=fm s):=by
 simp only [cF]
 have l:=Fq s hs 6 0 0 Z (Nat.zero_le _) (by decide)
 rw [List.drop_zero,Nat.zero_add] at l
 have hle:=mT 6 s 0
 refine am _ (bT l) ?_
 obtain ⟨v,c,hh⟩:∃ v c,cb 6 s 0=(v,c):=⟨_,_,rfl⟩
 have hP:=Dc hh
 rw [hh] at hle ⊢
 simp only at hle ⊢
 refine aK (λ h=>ab ?_) (λ h=>?_)
 ·rw [hP,if_pos O]
 rw [if_neg (show ¬ c=s.length by omega)] at hP
 have hb:byt s c=((s.getD c 0).toNat:Int):=gi s c
 have hb0:byt s 0=((s.getD 0 0).toNat:Int):=gi s 0
 have h125:(s.getD c 0).toNat=125↔s.getD c 0=125:=uC (by decide)
 have h48:(s.getD 0 0).toNat=48↔s.getD 0 0=48:=uC (by decide)
 have hv:cG (v:Int)=some (validRune (v:Int)):=rfl
 have key:Ev2 (λ _ _=>(ck ((0:Int)≤(c:Int)∧(c:Int) < (s.length:Int)) <|
  if byt s c=125 then
   if (c:Int)=0 then some true
   else
   if 1 < (c:Int) then
    ck ((0:Int)≤0∧0 < (s.length:Int)) <|
    if byt s 0=48 then some true
    else (cG (v:Int)).bind λ r32=>some (!r32)
   else (cG (v:Int)).bind λ r34=>some (!r34)
  else some true:Option Bool)) (·=decide (s.getD c 0≠125∨c=0∨(1 < c∧s.getD 0 0=48)∨validRune (v:Int)=false)):=by
  refine av O ?_
  rw [hb,hb0]
  refine aK (λ h1=>aK (λ h2=>ab ?_) (λ h2=>aK (λ h3=>av O (aK (λ h4=>ab ?_) (λ h4=>?_))) (λ h3=>?_))) (λ h1=>ab ?_)
  ·symm; rw [decide_eq_true_eq]; right; left; omega
  ·symm; rw [decide_eq_true_eq]; right; right; left; exact ⟨by omega,h48.1 O⟩
  ·have q1:¬ s.getD c 0≠125:=λ q=>q (h125.1 O)
   have q2:¬ (1 < c∧s.getD 0 0=48):=λ q=>h4 (by have:=h48.2 q.2; omega)
   refine am _ (ao hv Z) (ab (eqB ?_))
   rw [decide_eq_true_eq]
   have:¬ c=0:=by omega
   simp only [q1,q2,false_or,this,Bool.not_eq_true']
  ·have q1:¬ s.getD c 0≠125:=λ q=>q (h125.1 O)
   refine am _ (ao hv Z) (ab (eqB ?_))
   rw [decide_eq_true_eq]
   have a1:¬ c=0:=by omega
   have a2:¬ 1 < c:=by omega
   simp only [q1,a1,a2,false_or,false_and,Bool.not_eq_true']
  ·symm; rw [decide_eq_true_eq]; left; intro q; exact h1 (by have:=h125.2 q; omega)
 refine am _ key ?_
 refine aK (λ h1=>ab ?_) (λ h1=>av (aI O O) (ab ?_))
 ·rw [hP,if_pos (of_decide_eq_true h1)]
 ·rw [hP,if_neg (λ q=>h1 (decide_eq_true q))]
  refine Prod.ext Z (Prod.ext ?_ Z)
  show (c:Int)+1=((c+1:Nat):Int)
  omega
def dD (s:Bytes):Int×Int×Int:=match s with
 | []=>(0,0,40)
 | b::r=>if b.toNat=110 then (10,1,0) else if b.toNat=114 then (13,1,0) else if b.toNat=116 then (9,1,0)
  else if b.toNat=34∨b.toNat=92 then ((b.toNat:Int),1,0)
  else if b.toNat=117 then (match r with
   | []=>(0,0,40)
   | c::t=>if c.toNat=123 then ((fm t).1,(fm t).2.1+2,(fm t).2.2) else (0,0,2))
  else (0,0,2)
theorem pq (b:UInt8)(r:Bytes):dD (b::r)=if b.toNat=110 then (10,1,0) else if b.toNat=114 then (13,1,0) else if b.toNat=116 then (9,1,0)
  else if b.toNat=34∨b.toNat=92 then ((b.toNat:Int),1,0)
  else if b.toNat=117 then (match r with
   | []=>(0,0,40)
   | c::t=>if c.toNat=123 then ((fm t).1,(fm t).2.1+2,(fm t).2.2) else (0,0,2))
  else (0,0,2):=rfl
theorem yg (s:Bytes):0≤(fm s).2.1∧(fm s).2.1≤s.length∧((fm s).2.2=0→gk (fm s).1)∧0≤(fm s).2.2:=by
 have hle:=mT 6 s 0
 unfold fm
 generalize cb 6 s 0=h at hle ⊢
 obtain ⟨v,c⟩:=h
 simp only at hle ⊢
 split
 ·simp <;> omega
 ·split
  ·simp <;> omega
  ·rename_i h1 h2
   refine ⟨by simp only; omega,by simp only; omega,λ _=>?_,by simp⟩
   have:validRune (v:Int)=true:=by
    cases hv:validRune (v:Int) with
    | true=>rfl
    | false=>exact absurd (.inr (.inr (.inr hv))) h2
   simp only [validRune,decide_eq_true_eq] at this
   unfold gk; simp only; omega
theorem nS (s:Bytes):0≤(dD s).2.1∧(dD s).2.1≤s.length+1∧((dD s).2.2=0→gk (dD s).1∧(dD s).2.1≤s.length)∧0≤(dD s).2.2:=by
 unfold dD
 split
 ·simp
 ·rename_i b r
  have hb:=b.toNat_lt
  split
  ·simp [gk] <;> omega
  split
  ·simp [gk] <;> omega
  split
  ·simp [gk] <;> omega
  split
  ·simp [gk] <;> omega
  split
  ·split
   ·simp
   ·rename_i c t
    have:=yg t
    split
    ·refine ⟨by simp only; omega,by simp only [List.length_cons]; omega,λ q=>⟨this.2.2.1 q,by simp only [List.length_cons]; omega⟩,this.2.2.2⟩
    ·simp <;> omega
  ·simp <;> omega
theorem DT (s:Bytes)(hs:s.length≤1000000000):Ev2 (λ n _=>eY n s) (·=dD s):=by
 simp only [eY]
 cases s with
 | nil=>exact ai Z (ab Z)
 | cons b r =>
  have hl:((b::r).length:Int)=(r.length:Int)+1:=by simp
  refine ag G (av O ?_)
  have hb:byt (b::r) 0=(b.toNat:Int):=rfl
  have hbl:=b.toNat_lt
  rw [hb]
  have hP:=pq b r
  refine aK (λ h=>ab (by rw [hP,if_pos O])) (λ h1=>?_)
  rw [if_neg (show ¬ b.toNat=110 by omega)] at hP
  refine aK (λ h=>ab (by rw [hP,if_pos O])) (λ h2=>?_)
  rw [if_neg (show ¬ b.toNat=114 by omega)] at hP
  refine aK (λ h=>ab (by rw [hP,if_pos O])) (λ h3=>?_)
  rw [if_neg (show ¬ b.toNat=116 by omega)] at hP
  refine am (decide (b.toNat=34∨b.toNat=92)) ?_ ?_
  ·by_cases h:b.toNat=34
   ·exact ai O (ab (by simp [h]))
   ·exact ag O (ab (eqB (by rw [decide_eq_true_eq,decide_eq_true_eq]; omega)))
  by_cases h4:b.toNat=34∨b.toNat=92
  ·rw [if_pos h4] at hP
   rw [hP]
   refine ai (by simp [h4]) (av O (ab ?_))
   rw [na _ O O]
  rw [if_neg h4] at hP
  refine ag (by simp only [decide_eq_true_eq]; exact h4) ?_
  refine aK (λ h5=>?_) (λ h5=>ab (by rw [hP,if_neg O]))
  rw [if_pos (show b.toNat=117 by omega)] at hP
  rw [hP]
  cases r with
  | nil=>exact ai G (ab Z)
  | cons c t =>
   have hl2:((b::c::t).length:Int)=(t.length:Int)+2:=by simp <;> omega
   refine ag O (av O ?_)
   have hc:byt (b::c::t) 1=(c.toNat:Int):=rfl
   rw [hc]
   refine aK (λ h6=>av O ?_) (λ h6=>ab (by show _=if c.toNat=123 then _ else _; rw [if_neg O]))
   have e6:(if c.toNat=123 then ((fm t).1,(fm t).2.1+2,(fm t).2.2) else ((0,0,2):Int×Int×Int))=((fm t).1,(fm t).2.1+2,(fm t).2.2):=if_pos O
   show Ev2 _ (·=if c.toNat=123 then ((fm t).1,(fm t).2.1+2,(fm t).2.2) else ((0,0,2):Int×Int×Int))
   rw [e6,iC]
   show Ev2 (λ n m=>(cF n t).bind _) _
   have hle:=yg t
   have htl:t.length≤1000000000:=by simp at hs; omega
   exact am _ (CF t htl) (av (aI O O) (ab Z))
end Go.Ab.R06
namespace Go.Ab.R06
open Go.Ab Go.Ab.RB Go.Lib
def j4 (c:Nat×Nat):Prop:=(c.1=65533∧c.2=1)∨c.1 < 32∨c.1=127
instance (c:Nat×Nat):Decidable (j4 c):=inferInstanceAs (Decidable (_∨_))
def lY:Nat→Bytes→Nat→Bytes→(Int×Bytes)⊕(Bytes×Int×Int)
 | 0,_,at',acc=>.inl ((at':Int),acc)
 | _+1,[],at',acc=>.inl ((at':Int),acc)
 | n+1,b::r,at',acc=>if b.toNat=34 then .inl ((at':Int),acc)
  else if (decodeL (b::r)).1=92 then
   (if (dD r).2.2=0 then lY n (r.drop (dD r).2.1.toNat) (at'+((dD r).2.1.toNat+1)) (acc++encodeRune (dD r).1) else .inr ([],0,(dD r).2.2))
  else if j4 (decodeL (b::r)) then .inr ([],0,2)
  else lY n ((b::r).drop (decodeL (b::r)).2) (at'+(decodeL (b::r)).2) (acc++encodeRune ((decodeL (b::r)).1:Int))
theorem mI (n:Nat)(b:UInt8)(r:Bytes)(at':Nat)(acc:Bytes):lY (n+1) (b::r) at' acc=if b.toNat=34 then .inl ((at':Int),acc)
  else if (decodeL (b::r)).1=92 then
   (if (dD r).2.2=0 then lY n (r.drop (dD r).2.1.toNat) (at'+((dD r).2.1.toNat+1)) (acc++encodeRune (dD r).1) else .inr ([],0,(dD r).2.2))
  else if j4 (decodeL (b::r)) then .inr ([],0,2)
  else lY n ((b::r).drop (decodeL (b::r)).2) (at'+(decodeL (b::r)).2) (acc++encodeRune ((decodeL (b::r)).1:Int)):=by rw [lY]
theorem Fj (s:Bytes)(hs:s.length≤1000000000):∀ (k:Nat) (l:Bytes) (i:Nat) (f:Bytes),l.length < k→s.drop i=l→i+l.length=s.length→f.length≤4*i→Ev2 (λ n m=>cC n s m (i:Int) f) (·=lY k l i f):=by
 intro k
 induction k with
 | zero=>intro l i f h; omega
 | succ k ih =>
  intro l i f hk hl hi hf
  refine aZ ?_
  simp only [cC]
  cases l with
  | nil =>
   simp only [List.length_nil] at hi
   refine am false (ag O (ab Z)) (ag G (ab ?_))
   rw [lY]
  | cons b r =>
   have hil:i < s.length:=by simp only [List.length_cons] at hi; omega
   have hb:byt s i=(b.toNat:Int):=by
    rw [gi]
    have:s.getD i 0=b:=by
     have:=List.drop_eq_getElem_cons hil
     rw [hl] at this
     rw [List.getD_eq_getElem?_getD,List.getElem?_eq_getElem hil]
     exact (List.cons.inj this).1.symm
    rw [this]
   have hr:s.drop (i+1)=r:=by
    have:=List.drop_eq_getElem_cons hil
    rw [hl] at this
    exact (List.cons.inj this).2.symm
   have hlr:r.length+i+1=s.length:=by simp only [List.length_cons] at hi; omega
   have hU:=mI k b r i f
   rw [hb]
   by_cases h34:b.toNat=34
   ·rw [if_pos h34] at hU
    exact am false (ai O (av O (ab (by simp; omega)))) (ag G (ab hU.symm))
   rw [if_neg h34] at hU
   refine am true (ai O (av O (ab (by simp; omega)))) (ai Z (av O ?_))
   rw [iC,Int.toNat_natCast,hl]
   have hd:aW (b::r)=some (((decodeL (b::r)).1:Int),((decodeL (b::r)).2:Int)):=by
    unfold aW
    rw [oe _ G]
   refine am _ (ao hd Z) ?_
   have hdf:=gT (b::r) G
   generalize hD:decodeL (b::r)=D at hU hdf ⊢
   obtain ⟨c,w⟩:=D
   simp only at hU hdf ⊢
   by_cases h92:c=92
   ·rw [if_pos h92] at hU
    have hes:=nS r
    have hev:=DT r O
    have sub1:sub s ((i:Int)+1) (s.length:Int)=r:=by
     rw [iC,show ((i:Int)+1).toNat=i+1 by omega,hr]
    generalize dD r=E at hU hes hev
    obtain ⟨x,y,z⟩:=E
    simp only at hU hes hev
    by_cases hz:z=0
    ·rw [if_pos hz] at hU
     refine ee (ai O (av (aI O O) (av O ?_)))
     rw [sub1]
     obtain ⟨e1,e2⟩:=hes.2.2.1 hz
     obtain ⟨y',rfl⟩:∃ y':Nat,y=y':=⟨y.toNat,by omega⟩
     rw [Int.toNat_natCast] at hU
     refine am _ hev (ai hz (av (aI (by dsimp only; omega) (by dsimp only; omega)) (ab ?_)))
     refine am _ (ao (D8 f x e1 O) Z) (av (aI (by dsimp only; omega) (by dsimp only; omega)) ?_)
     have hle:=kp x e1
     have:=ih (r.drop y') (i+(y'+1)) (f++encodeRune x) (by rw [List.length_drop]; simp only [List.length_cons] at hk; omega) (by rw [← hr,List.drop_drop]; congr 1; omega) (by rw [List.length_drop]; omega) (by rw [List.length_append]; omega)
     rw [← hU] at this
     rw [show ((i+(y'+1):Nat):Int)=(i:Int)+((y':Int)+1) by omega] at this
     exact this
    ·rw [if_neg hz] at hU
     refine ee (ai O (av (aI O O) (av O ?_)))
     rw [sub1]
     refine am _ hev (ag hz (ab ?_))
     exact hU.symm
   ·rw [if_neg h92] at hU
    have hbad:Ev2 (λ _ _=>(if (c:Int)=65533 then if (w:Int)=1 then some true else if (c:Int) < 32 then some true else some (decide ((c:Int)=127)) else if (c:Int) < 32 then some true else some (decide ((c:Int)=127)):Option Bool)) (·=decide (j4 (c,w))):=by
     refine aK (λ h1=>aK (λ h2=>ab ?_) (λ h2=>aK (λ h3=>ab ?_) (λ h3=>ab (eqB ?_)))) (λ h1=>aK (λ h3=>ab ?_) (λ h3=>ab (eqB ?_)))
     ·symm; rw [decide_eq_true_eq]; left; simp only; omega
     ·symm; rw [decide_eq_true_eq]; right; left; simp only; omega
     ·rw [decide_eq_true_eq,decide_eq_true_eq]; unfold j4; simp only; omega
     ·symm; rw [decide_eq_true_eq]; right; left; simp only; omega
     ·rw [decide_eq_true_eq,decide_eq_true_eq]; unfold j4; simp only; omega
    by_cases hbd:j4 (c,w)
    ·rw [if_pos hbd] at hU
     refine ee (ag O (am _ hbad (ai (by simp only [decide_eq_true_eq]; exact hbd) (ab ?_))))
     exact hU.symm
    ·rw [if_neg hbd] at hU
     refine ee (ag O (am _ hbad (ag (by simp only [decide_eq_true_eq]; exact hbd) (ab ?_))))
     have hgood:=hdf.2.2 (λ q=>hbd (.inl q))
     refine am _ (ao (D8 f c hgood.1 O) Z) (av (aI (by simp only [List.length_cons] at hdf; omega) (by simp only [List.length_cons] at hdf; omega)) ?_)
     have hle:=kp c hgood.1
     have hw:w≤r.length+1:=by simpa using hdf.2.1
     have hw1:=hdf.1
     have:=ih ((b::r).drop w) (i+w) (f++encodeRune (c:Int)) (by rw [List.length_drop]; simp only [List.length_cons] at hk ⊢; omega) (by rw [← hl,List.drop_drop]) (by rw [List.length_drop]; simp only [List.length_cons]; omega) (by rw [List.length_append]; omega)
     rw [← hU] at this
     rw [show ((i+w:Nat):Int)=(i:Int)+(w:Int) by omega] at this
     exact this
def Ah:Bytes→Bytes×Int×Int
 | []=>([],0,40)
 | b::r=>if b.toNat=34 then (match lY (r.length+1) r 1 [] with
   | .inl q=>if q.1=((r.length+1:Nat):Int) then ([],0,40) else if 4096 < q.2.length then ([],0,3) else (q.2,q.1+1,0)
   | .inr e=>e)
  else ([],0,2)
theorem sX (b:UInt8)(r:Bytes):Ah (b::r)=if b.toNat=34 then (match lY (r.length+1) r 1 [] with
   | .inl q=>if q.1=((r.length+1:Nat):Int) then ([],0,40) else if 4096 < q.2.length then ([],0,3) else (q.2,q.1+1,0)
   | .inr e=>e)
  else ([],0,2):=rfl
theorem C2:∀ (k:Nat) (l:Bytes) (i:Nat) (f:Bytes),(∀ a g,lY k l i f=.inl (a,g)→(i:Int)≤a∧a≤((i+l.length:Nat):Int)∧g.length≤f.length+4*l.length∧((∀ t,validD (f++t)=validD t)→∀ t,validD (g++t)=validD t))∧(∀ x,lY k l i f=.inr x→x.1=[]∧x.2.1=0∧x.2.2≠0):=by
 intro k
 induction k with
 | zero =>
  intro l i f
  refine ⟨λ a g h=>?_,λ x h=>(by rw [lY] at h; cases h)⟩
  rw [lY] at h; cases h
  exact ⟨by omega,by omega,by omega,λ q=>q⟩
 | succ k ih =>
  intro l i f
  cases l with
  | nil =>
   refine ⟨λ a g h=>?_,λ x h=>(by rw [lY] at h; cases h)⟩
   rw [lY] at h; cases h
   exact ⟨by omega,by simp,by simp,λ q=>q⟩
  | cons b r =>
   rw [mI]
   have hdf:=gT (b::r) G
   have hes:=nS r
   split
   ·refine ⟨λ a g h=>?_,λ x h=>(by cases h)⟩
    cases h
    exact ⟨by omega,by simp only [List.length_cons]; omega,by omega,λ q=>q⟩
   split
   ·split
    ·rename_i hz
     obtain ⟨e1,e2⟩:=hes.2.2.1 hz
     have hle:=kp _ e1
     have hi:=ih (r.drop (dD r).2.1.toNat) (i+((dD r).2.1.toNat+1)) (f++encodeRune (dD r).1)
     refine ⟨λ a g h=>?_,hi.2⟩
     have:=hi.1 a g h
     rw [List.length_drop,List.length_append] at this
     refine ⟨by omega,by simp only [List.length_cons]; omega,by simp only [List.length_cons]; omega,λ q=>this.2.2.2 λ t=>?_⟩
     rw [List.append_assoc,q,se _ e1]
    ·rename_i hz
     refine ⟨λ a g h=>(by cases h),λ x h=>?_⟩
     cases h
     exact ⟨Z,Z,hz⟩
   split
   ·refine ⟨λ a g h=>(by cases h),λ x h=>?_⟩
    cases h
    exact ⟨Z,Z,by decide⟩
   ·rename_i hbd
    have hgood:=hdf.2.2 (λ q=>hbd (.inl q))
    have hle:=kp _ hgood.1
    have hi:=ih ((b::r).drop (decodeL (b::r)).2) (i+(decodeL (b::r)).2) (f++encodeRune ((decodeL (b::r)).1:Int))
    refine ⟨λ a g h=>?_,hi.2⟩
    have:=hi.1 a g h
    rw [List.length_drop,List.length_append] at this
    simp only [List.length_cons] at this hdf ⊢
    refine ⟨by omega,by omega,by omega,λ q=>this.2.2.2 λ t=>?_⟩
    rw [List.append_assoc,q,se _ hgood.1]
theorem EM (s:Bytes)(hs:s.length≤1000000000):Ev2 (λ n _=>dT n s) (·=Ah s):=by
 simp only [dT]
 cases s with
 | nil=>exact ai Z (ab Z)
 | cons b r =>
  have hl:((b::r).length:Int)=(r.length:Int)+1:=by simp
  have hln:(b::r).length=r.length+1:=by simp
  refine ag G (av O ?_)
  have hb:byt (b::r) 0=(b.toNat:Int):=rfl
  rw [hb]
  rw [sX]
  refine aK (λ h=>?_) (λ h=>ab (by rw [if_neg (show ¬ b.toNat=34 by omega)]))
  have l:=Fj (b::r) hs (r.length+1) r 1 [] O rfl O G
  have hle:=C2 (r.length+1) r 1 []
  have e34:b.toNat=34:=by omega
  simp only [e34,if_true]
  generalize lY (r.length+1) r 1 []=U at l hle ⊢
  cases U with
  | inr e=>exact jB e (bT l) Z
  | inl q =>
   obtain ⟨a,g⟩:=q
   have hq:=hle.1 a g Z
   simp only [List.length_nil,Nat.zero_add] at hq
   refine f0 (a,g) (bT l) ?_
   refine aK (λ h=>ab (by simp only at h ⊢; rw [if_pos O])) (λ h=>?_)
   simp only at h ⊢
   rw [if_neg O]
   refine am _ (ao Z Z) (aK (λ h1=>ab (by simp only at h1; rw [if_pos O])) (λ h1=>?_))
   simp only at h1
   rw [if_neg O]
   refine am _ (ao (bstr g O) Z) (av (aI O O) (ab Z))
theorem zl (b:UInt8)(h:b.toNat < 128):encodeRune (b.toNat:Int)=[b]:=by
 simp only [encodeRune,encodeRuneZ,if_pos (show (0:Int)≤(b.toNat:Int)∧(b.toNat:Int)≤127 by omega),List.map_cons,List.map_nil]
 simp
end Go.Ab.R06
end
