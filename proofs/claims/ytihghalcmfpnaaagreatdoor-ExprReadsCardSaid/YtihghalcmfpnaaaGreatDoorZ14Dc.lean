/- Texts of the proof, one behind the other. No statement is proved here. -/
import Derived.Lib.OthersKept
import Derived.Defers
import Derived.Lib.MapLaws
import Derived.Lib.ValidLaws
import Derived.Test.YtihghalcmfpnaaaGreatDoorZ14Da
import Derived.Test.YtihghalcmfpnaaaGreatDoorZ14Db
set_option maxHeartbeats 4000000
section
namespace Go.Ab
variable {p:Prop}
theorem IK (h:p:=by
 have e1:(dG (λ i=>Nat.beq i d) ⟨sl,ob⟩).sl=sl':=(uT h1).symm;have e2:(dG (λ i=>Nat.beq i d) ⟨sl,ob⟩).ob=ob':=(tc h2).symm
 rw [e1,e2]; exact hK):p:=h
@[irreducible] def tT (n:Nat):List UInt8:=List.replicate n 0
section
variable {C:Cx} {o:Oper} {K:AS->Prop} {sl:List (Nat×AV)} {ob:List (Nat×List AV)} {d:Nat}
theorem wO {α:Type} [Inhabited α] (f:α->PV)(l:List α){t m e:Nat}{x y:Operand}{i ie:TI}{k:IntKind}{n:Int}(ho:o.op=.index t x y)(hd:o.dst=some d)(hn:Nat.blt d C.n=true)
  (hi:look C.tt t=some i) (UA:i.k=.array m e) (hie:look C.tt e=some ie) (hia:ie.k.isAgg=false) (hs1:ie.size=1) (hm:Nat.beq m l.length=true) (hx:evo sl x=some (.p (.agg (l.map f))))
  (hy:evo sl y=some (.p (.val (.int k n)))) (hb:0<=n/\n<(l.length:Int)) (hK:K ⟨(d,.p (f (lat l n)))::sl,ob⟩):bc C o K ⟨sl,ob⟩:=by
 obtain ⟨u,h1,h2⟩:=bR C.good hi;have h3:=rb (h2.trans UA);subst h3;have hm':=la hm;refine ok_one hd hn (λ g a w hs=>?_) hK;have h5:=bQ hs hx;generalize hv:a.eval x=v at h5
 cases h5 with
 | p h5=>
  cases h5 with
  | agg hl hh=>
   rename_i vs;have hlt:n.toNat<l.length:=by omega
   have hlt2:n.toNat<vs.size:=by rw [hl]; simpa using hlt
   have hnm:n<(m:Int):=by omega
   refine ⟨vs[n.toNat],by simp [execOp,ho,hv,b8 hs hy,Instr.index,asIntOf,run_underlying h1,hb.1,hnm,run_sizeOf C.good hie,hs1,part,mT C.good hie,hia,hlt2],.p (hh n.toNat (f (lat l n)) _ ?_ (Array.getElem?_eq_getElem hlt2))⟩;simp [lat,List.getElem?_map,List.getElem?_eq_getElem hlt,List.getD_eq_getElem?_getD]
theorem aW {t:TypeId}{x:Operand}{i:TI}{id k:Nat}{cs:List AV}{y:AV}(ho:o.op=.load t x)(hd:o.dst=some d)(hn:Nat.blt d C.n=true)
  (hi:look C.tt t=some i) (hia:i.k.isAgg=false) (hx:evo sl x=some (.ptr id k)) (hob:look ob id=some cs) (hy:cs[k]? = some y) (hK:K ⟨(d,y)::sl,ob⟩):bc C o K ⟨sl,ob⟩ :=
 sU ho hd hn hi hia hx hob hy hK
theorem ET {t:TypeId}{x:Operand}{i:TI}{id k:Nat}{cs:List AV}{y:AV}(ho:o.op=.load t x)(hd:o.dst=some d)(hn:Nat.blt d C.n=true)
  (hi:look C.tt t=some i) (hia:i.k.isAgg=true) (hx:evo sl x=some (.ptr id k)) (hob:look ob id=some cs) (hl:Nat.ble (k+i.size) cs.length=true) (hy:nb ((cs.drop k).take i.size)=y)
  (hK:K ⟨(d,y)::sl,ob⟩):bc C o K ⟨sl,ob⟩:=tq ho hd hn hi hia hx hob hl (congrArg some hy) hK
theorem gP {t:TypeId}{x v:Operand}{i:TI}{id k:Nat}{cs xs ds:List AV}{y:AV}(ho:o.op=.store t x v)(hd:o.dst=none)
  (hi:look C.tt t=some i) (hx:evo sl x=some (.ptr id k)) (hv:evo sl v=some y) (hc:y.cellsA=some xs) (Ul:Nat.beq xs.length i.size=true) (hob:look ob id=some cs) (hl:k+xs.length<=cs.length) (hu:oq cs k xs=ds)
  (hK:K ⟨sl,(id,ds)::ob⟩):bc C o K ⟨sl,ob⟩:=by
 subst hu;exact oW ho hd hi hx hv hc (la Ul) hob hl hK
theorem wR {α:Type}(f:α->PV)(hf:∀ x,(f x).one=true):∀ l:List α,AV.onesB ((l.map f).map .p)=true
 | []=>rfl
 | x::r=>by simp only [dg,AV.onesB,AV.one,hf x,wR f hf r,Bool.and_self]
theorem wz {α:Type}(f:α->PV)(l:List α){t:TypeId}{i:TI}{sl':List (Nat×AV)}{ob':List (Nat×List AV)}(hf:∀ x,(f x).one=true)(ho:o.op=.alloc t)(hd:o.dst=some d)(hn:Nat.blt d C.n=true)
  (hi:look C.tt t=some i) (hz:f0 i=(l.map f).map .p) (h1:dmS (λ i=>Nat.beq i d) sl=some sl') (h2:dmO (λ i=>Nat.beq i d) ob=some ob') (hK:K ⟨(d,.ptr d 0)::sl',(d,(l.map f).map .p)::ob'⟩):bc C o K ⟨sl,ob⟩:=by
 refine fU ho hd hn hi ?_ ?_
 ·rw [hz]; simp only [AV.cellsA,wR f hf l,cond_true]
 ·rw [hz,yn];exact IK
theorem MU (cs:List PV){t:TypeId}{v:Operand}{sl':List (Nat×AV)}{ob':List (Nat×List AV)}(ho:o.op=.box t v)(hd:o.dst=some d)(hn:Nat.blt d C.n=true)(hx:evo sl v=some (.p (.agg cs)))(h0:PV.onesB cs=true)
  (h1:dmS (λ i=>Nat.beq i d) sl=some sl') (h2:dmO (λ i=>Nat.beq i d) ob=some ob') (hK:K ⟨(d,.ptr d 0)::sl',(d,cs.map .p)::ob'⟩):bc C o K ⟨sl,ob⟩:=by
 refine CF ho hd hn hx (cs:=cs.map .p) (by simp only [AV.cellsA,h0,cond_true]) ?_;rw [yn];exact IK
theorem FJ {α:Type}(f:α->PV)(l:List α){t:TypeId}{x:Operand}{i:TI}{id:Nat}(ho:o.op=.load t x)(hd:o.dst=some d)(hn:Nat.blt d C.n=true)
  (hi:look C.tt t=some i) (hia:i.k.isAgg=true) (hx:evo sl x=some (.ptr id 0)) (hob:look ob id=some ((l.map f).map .p)) (hl:Nat.beq i.size l.length=true)
  (hK:K ⟨(d,.p (.agg (l.map f)))::sl,ob⟩):bc C o K ⟨sl,ob⟩:=by
 have hl':=la hl;refine tq ho hd hn hi hia hx hob (by simp [hl']) (y:=.p (.agg (l.map f))) (congrArg some ?_) hK
 have e:(((l.map f).map AV.p).drop 0).take i.size=(l.map f).map AV.p:=by
  rw [List.drop_zero,hl']; exact List.take_of_length_le G
 rw [e]
 have ha:∀ q:List PV,xd (q.map .p)=some q:=by
  intro q
  induction q with
  | nil=>rfl
  | cons x r ih=>simp only [dg,xd,ih]
 simp only [nb,ha]
theorem vf:∀ q:List PV,xd (q.map .p)=some q
 | []=>rfl
 | x::r=>by simp only [dg,xd,vf r]
theorem Ou {α:Type}(f:α->PV)(l:List α){tt:List (Nat×TI)}{rs:List ResultVar}{s:AS}{c id:Nat}{t:TypeId}{i:TI}(hr:rs=[.cell c t])(hc:look s.sl c=some (.ptr id 0))(hob:look s.ob id=some ((l.map f).map .p))(hi:look tt t=some i)(hia:i.k.isAgg=true)
  (hl:Nat.beq i.size l.length=true):nh tt rs s=some [.p (.agg (l.map f))]:=by
 have hl':=la hl;subst hr
 have e:(((l.map f).map AV.p).drop 0).take i.size=(l.map f).map AV.p:=by
  rw [List.drop_zero,hl']; exact List.take_of_length_le G
 have e2:Nat.ble (0+i.size) ((l.map f).map AV.p).length=true:=by simp [hl']
 simp only [nh,hc,hob,hi,hia,cond_true,e,e2,nb,vf]
theorem Dh {α:Type}(f:α->PV)(l l2:List α){t:TypeId}{x v:Operand}{i:TI}{id:Nat}(ho:o.op=.store t x v)(hd:o.dst=none)
  (hi:look C.tt t=some i) (hx:evo sl x=some (.ptr id 0)) (hv:evo sl v=some (.p (.agg (l2.map f)))) (hob:look ob id=some ((l.map f).map .p)) (hf:∀ x,(f x).one=true) (hl:Nat.beq i.size l.length=true) (hl2:Nat.beq i.size l2.length=true)
  (hK:K ⟨sl,(id,(l2.map f).map .p)::ob⟩):bc C o K ⟨sl,ob⟩:=by
 have e1:=la hl;have e2:=la hl2
 have ho1:∀ q:List α,PV.onesB (q.map f)=true:=by
  intro q
  induction q with
  | nil=>rfl
  | cons x r ih=>simp only [dg,PV.onesB,hf x,ih,Bool.and_self]
 refine gP (xs:=(l2.map f).map .p) ho hd hi hx hv (by simp only [AV.cellsA,ho1 l2,cond_true]) (by simp [e2]) hob gK ?_ hK;unfold oq;split
 ·rename_i y hy;have h3:=congrArg List.length hy;simp only [th,aq,mv] at h3;rw [hy]
  match l,e1 with
  | [z],_=>rfl
  | [],e1=>simp at e1; omega
  | _::_::_,e1=>simp at e1; omega
 ·rw [List.take_zero,List.nil_append,List.drop_eq_nil_of_le gK,List.append_nil]
theorem GI {t:TypeId}{x:Operand}{s:List UInt8}{i:TI}{sl':List (Nat×AV)}{ob':List (Nat×List AV)}(ho:o.op=.range t x)(hd:o.dst=some d)(hn:Nat.blt d C.n=true)
  (hi:look C.tt t=some i) (UA:i.k=.string) (hx:evo sl x=some (.p (.val (.string ⟨s.toArray⟩)))) (h1:dmS (Nat.beq · d) sl=some sl') (h2:dmO (Nat.beq · d) ob=some ob')
  (hK:K ⟨(d,.it d s 0)::sl',ob'⟩):bc C o K ⟨sl,ob⟩:=by
 obtain ⟨u,hu1,hu2⟩:=bR C.good hi;have h3:=iB (hu2.trans UA);subst h3;intro g a w hs;have hdl:d<M1:=by have h1:=sm C.nl; have h2:d<C.n:=py ▸ hn; omega
 unfold Oper.wp
 have hrun:(execOp a.eval o).run C.P w=.ok (.value (.pointer (some ⟨w.heap.size,0,none⟩))) (w.alloc (.stringIter ⟨s.toArray⟩ 0)):=by
  simp [execOp,ho,Instr.range,b8 hs hx,run_underlying hu1,newObj,Sem.run,Result.andThen]
 rw [hrun];obtain ⟨g',hg'⟩:∃ g':Gh,g'=⟨λ b o=>g.st b o\/(b=w.heap.size/\o=0),λ i=>if i=d then some w.heap.size else g.ow i⟩:=⟨_,rfl⟩
 have Ul:(w.alloc (.stringIter ⟨s.toArray⟩ 0)).heap.size=w.heap.size+1:=by simp
 have Us:Ev w g.st (w.alloc (.stringIter ⟨s.toArray⟩ 0)) g'.st:=λ b o h=>⟨by rw [hg']; exact .inl h,World.cell?_alloc_lt w _ _ (hs.lt b o h)⟩
 have hs':St C.n C.w0 C.F g' (dG (Nat.beq · d) ⟨sl,ob⟩) a (w.alloc (.stringIter ⟨s.toArray⟩ 0)):=by
  subst hg';refine hs.evolve (Nat.beq · d) (Ih hdl) Us (λ id b hD h=>?_) (λ i j b hi hj=>?_) (λ i b hi=>?_) (λ b o h=>?_) (λ b hb=>?_) Z Z Z O (λ b hb o=>?_) (λ i hi=>?_)
  ·have UK:id≠d:=λ e=>by subst e; simp at hD
   have hlt:=(hs.own id b h).1;exact ⟨by simp only [if_neg UK]; exact h,fv hlt,λ o h=>h.resolve_right λ e=>by omega⟩
  ·dsimp only at hi hj;by_cases e1:i=d <;> by_cases e2:j=d
   ·omega
   ·rw [if_pos e1] at hi; rw [if_neg e2] at hj; cases hi; have:=(hs.own j _ hj).1; omega
   ·rw [if_neg e1] at hi; rw [if_pos e2] at hj; cases hj; have:=(hs.own i _ hi).1; omega
   ·rw [if_neg e1] at hi; rw [if_neg e2] at hj; exact hs.inj i j b hi hj
  ·dsimp only at hi;by_cases e1:i=d
   ·rw [if_pos e1] at hi; cases hi;exact ⟨by omega,λ hF=>by have:=hs.fl _ hF; have:=hs.size; omega⟩
   ·rw [if_neg e1] at hi; have:=hs.own i b hi; exact ⟨by omega,this.2⟩
  ·rcases h with h|h
   ·have:=hs.lt b o h; omega
   ·omega
  ·exact fv (by have:=hs.fl b hb; have:=hs.size; omega)
  ·have h1:=hs.fl b hb;have h2:=hs.size;exact ⟨λ h=>h.resolve_right λ e=>by omega,.inl⟩
  ·dsimp only;rw [if_neg O]
 refine ⟨g',⟨(d,.it d s 0)::sl',ob'⟩,?_,hK⟩
 have hp:=hs'.put (d:=o.dst) (λ t ht=>by rw [hd] at ht; cases ht; exact py ▸ hn) (x:=.it d s 0) (v:=.pointer (some ⟨w.heap.size,0,none⟩))
  (.it (by rw [hg']; simp) iU (by rw [hg']; exact .inr ⟨Z,Z⟩))
 rw [hd] at hp ⊢;rw [uT h1,tc h2];exact hp
theorem zR {n:Nat}{w0:Base}{w:World}{F:Nat->Prop}{g:Gh}{s:AS}{a:Act}(_hs:St n w0 F g s a w){tok pos:Nat}{l:List UInt8}{v:Value}(h:ARep w g (.it tok l pos) v) :
  ∃ b,v=.pointer (some ⟨b,0,none⟩)/\g.ow tok=some b/\w.heap[b]? = some (.stringIter ⟨l.toArray⟩ pos)/\g.st b 0:=by
 cases h with
 | it how hb hm=>exact ⟨_,Z,how,hb,hm⟩
theorem JJ {x:Operand}{s:List UInt8}{tok pos:Nat}(ho:o.op=.next x true)(hd:o.dst=some d)(hn:Nat.blt d C.n=true)
  (hx:evo sl x=some (.it tok s pos)) (hp:¬ pos<s.length) (hK:K ⟨(d,.tuple [.p (eB false)])::sl,ob⟩):bc C o K ⟨sl,ob⟩:=by
 refine ok_one hd hn (λ g a w hs=>?_) hK;obtain ⟨b,hv,_,hb,_⟩:=zR hs (bQ hs hx);refine ⟨.tuple #[.bool false],?_,.tuple rfl λ i c v h1 h2=>?_⟩
 ·have Ul:¬ pos<(⟨s.toArray⟩:ByteArray).size:=by simpa [ByteArray.size] using hp
  have:=Go.Lib.run_next_end_at (P:=C.P) w b ⟨s.toArray⟩ pos o.type hb Ul;simp [execOp,ho,hv,this]
 ·match i,h1,h2 with
  | 0,h1,h2=>simp at h1 h2; subst h1 h2; exact .p (.val _)
theorem HQ {j:Nat}{s:List UInt8}{tok pos:Nat}{sl':List (Nat×AV)}{ob':List (Nat×List AV)}(ho:o.op=.next (.tmp j) true)(hd:o.dst=some d)(hn:Nat.blt d C.n=true)(hj:Nat.blt j C.n=true)
  (hx:evo sl (.tmp j)=some (.it tok s pos)) (htok:Nat.blt tok M1=true) (hp:pos<s.length) (ha:(s.getD pos 0).toNat<128) (h1:dmS (Nat.beq · tok) sl=some sl') (h2:dmO (Nat.beq · tok) ob=some ob')
  (_hdj:Nat.beq d j=false) (hK:K ⟨(d,.tuple [.p (eB true),.p (eI (pos:Int)),.p (eK .i32 ((s.getD pos 0).toNat:Int))])::(j,.it tok s (pos+1))::sl',ob'⟩):bc C o K ⟨sl,ob⟩:=by
 intro g a w hs;obtain ⟨b,hv,how,hb,hm⟩:=zR hs (bQ hs hx);have htl:tok<M1:=py ▸ htok;have hbl:=(hs.own tok b how).1;unfold Oper.wp;have Ul:pos<(⟨s.toArray⟩:ByteArray).size:=by simpa [ByteArray.size] using hp
 have hg0:(⟨s.toArray⟩:ByteArray)[pos]'Ul=s.getD pos 0:=by
  rw [List.getD_eq_getElem?_getD,List.getElem?_eq_getElem hp]; rfl
 have hnx:=Go.Lib.run_next_ascii_at (P:=C.P) w b ⟨s.toArray⟩ pos o.type hb Ul (by rw [hg0]; exact ha);rw [hg0] at hnx
 have hrun:(execOp a.eval o).run C.P w=.ok (.value (.tuple #[.bool true,.int .i64 pos,.int .i32 (s.getD pos 0).toNat])) (w.iterAt b ⟨s.toArray⟩ (pos+1)):=by
  simp [execOp,ho,hv,hnx]
 rw [hrun]
 have hheap:∀ b',b'≠b->(w.iterAt b ⟨s.toArray⟩ (pos+1)).heap[b']? = w.heap[b']?:=λ b' UK=>by
  simp only [World.iterAt,Array.getElem?_setIfInBounds];rw [if_neg O]
 have hheapb:=Go.Lib.iterAt_heap w b ⟨s.toArray⟩ pos (pos+1) hb;have hwsz:(w.iterAt b ⟨s.toArray⟩ (pos+1)).heap.size=w.heap.size:=by simp [World.iterAt]
 have Up:∀ b' o',(w.iterAt b ⟨s.toArray⟩ (pos+1)).cell? ⟨b',o',none⟩=w.cell? ⟨b',o',none⟩:=λ b' o'=>by
  by_cases e:b'=b
  ·subst e;simp only [World.cell?,hheapb,hb]
  ·simp only [World.cell?,hheap b' e]
 have hs':St C.n C.w0 C.F g (dG (Nat.beq · tok) ⟨sl,ob⟩) a (w.iterAt b ⟨s.toArray⟩ (pos+1)):=by
  refine hs.evolve (Nat.beq · tok) (Ih htl) (λ b' o' h=>⟨h,Up b' o'⟩) (λ id b' hD h=>⟨h,hheap b' λ e=>?_,λ o h=>h⟩) hs.inj (λ i b' h=>by rw [hwsz]; exact hs.own i b' h) (λ b' o' h=>by rw [hwsz]; exact hs.lt b' o' h) (λ b' hb'=>hheap b' λ e=>?_) Z Z Z O (λ b' _ o'=>Iff.rfl) (λ i _=>rfl)
  ·subst e;have:=hs.inj id tok b' h how;subst this;simp at hD
  ·subst e;exact (hs.own tok b' how).2 hb'
 have hjd:j<C.n:=py ▸ hj;refine ⟨g,⟨(d,.tuple [.p (eB true),.p (eI (pos:Int)),.p (eK .i32 ((s.getD pos 0).toNat:Int))])::(j,.it tok s (pos+1))::sl',ob'⟩,?_,hK⟩
 have hs2:St C.n C.w0 C.F g ⟨(j,.it tok s (pos+1))::sl',ob'⟩ a (w.iterAt b ⟨s.toArray⟩ (pos+1)):=by
  rw [uT h1,tc h2];refine { hs' with sl:=λ i=>?_ };simp only [AS.get,aZ];by_cases e:j=i
  ·subst e;rw [if_pos rfl];simp only [ur];have:a.eval (.tmp j)=a.tmps.getD j Go.undef:=rfl;rw [<- this,hv];exact .it how hheapb hm
  ·rw [if_neg e];exact hs'.sl i
 have hp2:=hs2.put (d:=o.dst) (λ t ht=>by rw [hd] at ht; cases ht; exact py ▸ hn) (x:=.tuple [.p (eB true),.p (eI (pos:Int)),.p (eK .i32 ((s.getD pos 0).toNat:Int))]) (v:=.tuple #[.bool true,.int .i64 pos,.int .i32 (s.getD pos 0).toNat])
  (.tuple Z λ i c v h1 h2=>by
   match i,h1,h2 with
   | 0,h1,h2=>simp at h1 h2; subst h1 h2; exact .p (.val _)
   | 1,h1,h2=>simp at h1 h2; subst h1 h2; exact .p (.val _)
   | 2,h1,h2=>simp at h1 h2; subst h1 h2; exact .p (.val _))
 rw [hd] at hp2 ⊢;exact hp2
end
theorem yE (h:p:=by rw [ad.hd_len]; decide):p:=h
def jE:List UInt8:=[0,0,0,0,0,0,0,0,0,1,6,0,0,1,0,0,0,0,0,0,0,0,0,0,0,0,0,0,0,0,0,0,1,4,5,7,0,4,4,0,4,4,4,4,4,4,4,4,3,3,3,3,3,3,3,3,3,3,4,0,4,4,4,4,0,2,2,2,2,2,2,2,2,2,2,2,2,2,2,2,2,2,2,2,2,2,2,2,2,2,2,4,0,4,0,2,0,2,2,2,2,2,2,2,2,2,2,2,2,2,2,2,2,2,2,2,2,2,2,2,2,2,2,4,4,4,0,0,0,0,0,0,0,0,0,0,0,0,0,0,0,0,0,0,0,0,0,0,0,0,0,0,0,0,0,0,0,0,0,0,0,0,0,0,0,0,0,0,0,0,0,0,0,0,0,0,0,0,0,0,0,0,0,0,0,0,0,0,0,0,0,0,0,0,0,0,0,0,0,0,0,0,0,0,0,0,0,0,0,0,0,0,0,0,0,0,0,0,0,0,0,0,0,0,0,0,0,0,0,0,0,0,0,0,0,0,0,0,0,0,0,0,0,0,0,0,0,0,0,0,0,0,0,0,0,0]
theorem zZ:jE.length=256:=by kernel_rfl
def Hm:List PV:=jE.map eU
theorem nA:Hm.length=256:=by rw [Hm,th,zZ]
structure ad where
 fs:Bk
 fat:Int
 IS:Int
 AT:ao
 deriving Inhabited
def ad.cs (x:ad):List PV:=eS x.fs::eI x.fat::(Hm++[eI x.IS,eI x.AT.Ar,eI x.AT.fAt,eS x.AT.AI])
theorem ad.len (x:ad):((ad.cs x).map AV.p).length=262:=by simp [ad.cs,nA]
theorem ad.g_s (x:ad):((ad.cs x).map AV.p)[0]? = some (.p (eS x.fs)):=rfl
theorem ad.g_at (x:ad):((ad.cs x).map AV.p)[1]? = some (.p (eI x.fat)):=rfl
theorem ad.g_outer (x:ad):((ad.cs x).map AV.p)[2+256]? = some (.p (eI x.IS)):=by
 simp only [ad.cs,dg,List.map_append,List.getElem?_cons_succ];rw [List.getElem?_append_right (by simp [nA])];simp [nA]
theorem ad.g_class (x:ad){n:Int}(h:0<=n/\n<256):((ad.cs x).map AV.p)[2+n.toNat*1]? = some (.p (eU (lat jE n))):=by
 have hn:n.toNat<256:=by omega
 have e:2+n.toNat*1=n.toNat+1+1:=by omega
 rw [e];simp only [ad.cs,dg,List.map_append,List.getElem?_cons_succ];rw [List.getElem?_append_left (by simp [nA]; omega)];simp [Hm,lat,List.getElem?_map,List.getElem?_eq_getElem (show n.toNat<jE.length by rw [zZ]; exact hn)]
def ad.hd (x:ad):List AV:=(eS x.fs::eI x.fat::(Hm++[eI x.IS])).map .p
theorem ad.hd_len (x:ad):x.hd.length=259:=by simp [ad.hd,nA]
theorem ad.cs_hd (x:ad):(ad.cs x).map AV.p=x.hd++(ao.cs x.AT).map .p:=by
 simp [ad.cs,ad.hd,ao.cs]
theorem ad.l_bad (x:ad):Nat.ble (2+256+1+3) ((ad.cs x).map AV.p).length=true:=by rw [ad.len]; rfl
theorem ad.g_bad (x:ad):nb ((((ad.cs x).map AV.p).drop (2+256+1)).take 3)=.p (.agg (ao.cs x.AT)):=by
 rw [ad.cs_hd,List.drop_append_of_le_length yE,List.drop_eq_nil_of_le yE]
 rfl
theorem ad.b_at (x:ad):1+1<=((ad.cs x).map AV.p).length:=by rw [ad.len]; decide
theorem ad.b_outer (x:ad):2+256+1<=((ad.cs x).map AV.p).length:=by rw [ad.len]; decide
theorem ad.b_bad (x:ad):2+256+1+3<=((ad.cs x).map AV.p).length:=by rw [ad.len]; decide
theorem ad.u_at (x:ad){v:Int}:oq ((ad.cs x).map AV.p) 1 [.p (eI v)]=(ad.cs (.mk x.fs v x.IS x.AT)).map .p:=by
 simp only [oq,ad.cs,dg,List.set_cons_succ,List.set_cons_zero]
theorem ad.u_outer (x:ad){v:Int}:oq ((ad.cs x).map AV.p) (2+256) [.p (eI v)]=(ad.cs (.mk x.fs x.fat v x.AT)).map .p:=by
 simp only [oq,ad.cs,dg,List.map_append,List.set_cons_succ];rw [List.set_append_right _ _ (by simp [nA])];simp [nA]
theorem ad.u_bad (x:ad){k a:Int}{n:Bk}:oq ((ad.cs x).map AV.p) (2+256+1) [.p (eI k),.p (eI a),.p (eS n)]=(ad.cs (.mk x.fs x.fat x.IS (.mk k a n))).map .p:=by
 have e:oq ((ad.cs x).map AV.p) 259 [.p (eI k),.p (eI a),.p (eS n)]=((ad.cs x).map AV.p).take 259++(ao.cs (.mk k a n)).map .p++((ad.cs x).map AV.p).drop (259+3):=rfl;show oq ((ad.cs x).map AV.p) 259 [.p (eI k),.p (eI a),.p (eS n)]=_;rw [e,ad.cs_hd,ad.cs_hd,List.take_append_of_le_length yE,List.take_of_length_le yE,List.drop_eq_nil_of_le (by rw [n7,ad.hd_len]; simp [ao.cs]),List.append_nil]
 rfl
end Go.Ab
end
section
namespace Go.Ab.R06
open Go.Proofs Go.Ab Go.Ab.RB
variable {p:Prop}
theorem uC (h:p:=by
  exact nx 2 Z (eXi _ (oi h1).symm (gE Z Z))):p:=h
theorem Cj (h:p:=by repeat (first|apply MA Z|apply Jg Z|apply M5 Z Z|exact rfl)):p:=h
attribute [local irreducible] awp hH bc bG co AV.sub M cO
def ij:Nat->Int->(List UInt8)->Option (List UInt8)|0,_,_=>none|m+1,c8,l9=>if c8<=122 then ck ((0:Int)<=c8/\(c8:Int)<256)<|ck ((c8:Int)<(l9.length:Int))<|ck ((0:Int)<=IntKind.wrap .i32 ((IntKind.wrap .i32 (c8-97))+65)/\(IntKind.wrap .i32 ((IntKind.wrap .i32 (c8-97))+65):Int)<256)<|ck ((IntKind.wrap .i32 ((IntKind.wrap .i32 (c8-97))+65):Int)<((l9.set c8.toNat (2:UInt8)).length:Int))<|ij m (IntKind.wrap .i32 (c8+1)) ((l9.set c8.toNat (2:UInt8)).set ((IntKind.wrap .i32 ((IntKind.wrap .i32 (c8-97))+65)).toNat) (2:UInt8))else some l9
def ib:Nat->Int->(List UInt8)->Option (List UInt8)|0,_,_=>none|m+1,Xp,l24=>if Xp<=57 then ck ((0:Int)<=Xp/\(Xp:Int)<256)<|ck ((Xp:Int)<(l24.length:Int))<|ib m (IntKind.wrap .i32 (Xp+1)) (l24.set Xp.toNat (3:UInt8))else some l24
def iv:Nat->Nat->(List UInt8)->Option (List UInt8)|0,_,_=>none|m+1,t37,l38=>if t37<([123,125,91,93,40,41,44,61,60,62,43,45,42,47,37,33,38,124,63,58,46]:Bk).length then ck ((([123,125,91,93,40,41,44,61,60,62,43,45,42,47,37,33,38,124,63,58,46]:Bk).getD t37 0).toNat<128)<|ck ((0:Int)<=((([123,125,91,93,40,41,44,61,60,62,43,45,42,47,37,33,38,124,63,58,46]:Bk).getD t37 0).toNat:Int)/\(((([123,125,91,93,40,41,44,61,60,62,43,45,42,47,37,33,38,124,63,58,46]:Bk).getD t37 0).toNat:Int):Int)<256)<|ck ((((([123,125,91,93,40,41,44,61,60,62,43,45,42,47,37,33,38,124,63,58,46]:Bk).getD t37 0).toNat:Int):Int)<(l38.length:Int))<|iv m (t37+1) (l38.set (((([123,125,91,93,40,41,44,61,60,62,43,45,42,47,37,33,38,124,63,58,46]:Bk).getD t37 0).toNat:Int).toNat) (4:UInt8))else some l38
def n0 (n:Nat):Option (List UInt8) :=(ij n 97 (tT 256)).bind λ l17=>(ib n 48 l17).bind λ l30=>(iv n 0 l30).bind λ l45=>ck ((0:Int)<=95/\(95:Int)<256)<|ck ((95:Int)<(l45.length:Int))<|ck ((0:Int)<=34/\(34:Int)<256)<|ck ((34:Int)<((l45.set ((95:Int).toNat) (2:UInt8)).length:Int))<|ck ((0:Int)<=35/\(35:Int)<256)<|ck ((35:Int)<(((l45.set ((95:Int).toNat) (2:UInt8)).set ((34:Int).toNat) (5:UInt8)).length:Int))<|ck ((0:Int)<=10/\(10:Int)<256)<|ck ((10:Int)<((((l45.set ((95:Int).toNat) (2:UInt8)).set ((34:Int).toNat) (5:UInt8)).set ((35:Int).toNat) (7:UInt8)).length:Int))<|ck ((0:Int)<=32/\(32:Int)<256)<|ck ((32:Int)<(((((l45.set ((95:Int).toNat) (2:UInt8)).set ((34:Int).toNat) (5:UInt8)).set ((35:Int).toNat) (7:UInt8)).set ((10:Int).toNat) (6:UInt8)).length:Int))<|ck ((0:Int)<=9/\(9:Int)<256)<|ck ((9:Int)<((((((l45.set ((95:Int).toNat) (2:UInt8)).set ((34:Int).toNat) (5:UInt8)).set ((35:Int).toNat) (7:UInt8)).set ((10:Int).toNat) (6:UInt8)).set ((32:Int).toNat) (1:UInt8)).length:Int))<|ck ((0:Int)<=13/\(13:Int)<256)<|ck ((13:Int)<(((((((l45.set ((95:Int).toNat) (2:UInt8)).set ((34:Int).toNat) (5:UInt8)).set ((35:Int).toNat) (7:UInt8)).set ((10:Int).toNat) (6:UInt8)).set ((32:Int).toNat) (1:UInt8)).set ((9:Int).toNat) (1:UInt8)).length:Int))<|ck (Nat.beq 256 (((((((l45.set ((95:Int).toNat) (2:UInt8)).set ((34:Int).toNat) (5:UInt8)).set ((35:Int).toNat) (7:UInt8)).set ((10:Int).toNat) (6:UInt8)).set ((32:Int).toNat) (1:UInt8)).set ((9:Int).toNat) (1:UInt8)).set ((13:Int).toNat) (1:UInt8)).length=true)<|ck (Nat.beq 256 (tT 256).length=true/\Nat.beq 256 (((((((l45.set ((95:Int).toNat) (2:UInt8)).set ((34:Int).toNat) (5:UInt8)).set ((35:Int).toNat) (7:UInt8)).set ((10:Int).toNat) (6:UInt8)).set ((32:Int).toNat) (1:UInt8)).set ((9:Int).toNat) (1:UInt8)).set ((13:Int).toNat) (1:UInt8)).length=true)<|some (((((((l45.set ((95:Int).toNat) (2:UInt8)).set ((34:Int).toNat) (5:UInt8)).set ((35:Int).toNat) (7:UInt8)).set ((10:Int).toNat) (6:UInt8)).set ((32:Int).toNat) (1:UInt8)).set ((9:Int).toNat) (1:UInt8)).set ((13:Int).toNat) (1:UInt8))
theorem tj (n:Nat)(r:(List UInt8))(h0:n0 n=some r):bG Tryz.prog 84 [] (·=.p (.agg (r.map eU))):=by
 unfold n0 at h0;refine LL good Tryz.func84 Z Z Z λ w0=>mP (λ v:(List UInt8)=>.p (.agg (v.map eU))) ?_;refine nx 2 Z (mO Z (wz eU (tT 256) Y Z Z Z Z (by kernel_rfl) Z Z ?_));refine nx 3 Z (mO Z (wz eU (tT 256) Y Z Z Z Z (by kernel_rfl) Z Cj ?_));refine nx 7 Z (bd h0 λ o65 h1 h0=>?_);refine kE 0 o65 (λ v66=>⟨[(0,.ptr 0 0),(1,.ptr 1 0)],[(0,((tT 256).map eU).map .p),(1,(v66.map eU).map .p)]⟩) ?_ ?_
 ·refine nx 7 Z (bd h0 λ U5 h1 h0=>?_);refine kE 2 U5 (λ v68=>⟨[(0,.ptr 0 0),(1,.ptr 1 0)],[(0,((tT 256).map eU).map .p),(1,(v68.map eU).map .p)]⟩) ?_ ?_
  ·refine nx 4 Z (mO Z (GI Z Z Z Z Z Z Z Cj ?_));refine nx 2 Z (bd h0 λ V5 h1 h0=>?_);refine kE 4 V5 (λ v70=>⟨[(0,.ptr 0 0),(1,.ptr 1 0)],[(0,((tT 256).map eU).map .p),(1,(v70.map eU).map .p)]⟩) ?_ ?_
   ·refine nx 3 Z (cc' h0 λ aaP h0=>?_);refine cc' h0 λ YE h0=>mO Z (cF Z Z Z Z Z Z Z Z Z aaP ?_);refine mO Z (ip (f:=eU) (l:=V5) (b:=(2:UInt8)) Z Z Z Z Z Z Z Z (by have:=(And.intro aaP.1 YE); first|omega|(dsimp only; omega)) ?_);refine cc' h0 λ YD h0=>cc' h0 λ Zf h0=>mO Z (cF Z Z Z Z Z Z Z Z Z YD ?_);refine mO Z (ip (f:=eU) (l:=V5.set ((95:Int).toNat) (2:UInt8)) (b:=(5:UInt8)) Z Z Z Z Z Z Z Z (by have:=(And.intro YD.1 Zf); first|omega|(dsimp only; omega)) ?_);refine cc' h0 λ Ze h0=>cc' h0 λ abR h0=>mO Z (cF Z Z Z Z Z Z Z Z Z Ze ?_);refine mO Z (ip (f:=eU) (l:=(V5.set ((95:Int).toNat) (2:UInt8)).set ((34:Int).toNat) (5:UInt8)) (b:=(7:UInt8)) Z Z Z Z Z Z Z Z (by have:=(And.intro Ze.1 abR); first|omega|(dsimp only; omega)) ?_);refine cc' h0 λ abQ h0=>cc' h0 λ ZU h0=>mO Z (cF Z Z Z Z Z Z Z Z Z abQ ?_);refine mO Z (ip (f:=eU) (l:=((V5.set ((95:Int).toNat) (2:UInt8)).set ((34:Int).toNat) (5:UInt8)).set ((35:Int).toNat) (7:UInt8)) (b:=(6:UInt8)) Z Z Z Z Z Z Z Z (by have:=(And.intro abQ.1 ZU); first|omega|(dsimp only; omega)) ?_);refine nx 3 Z (cc' h0 λ YC h0=>?_);refine cc' h0 λ ZT h0=>mO Z (cF Z Z Z Z Z Z Z Z Z YC ?_);refine mO Z (ip (f:=eU) (l:=(((V5.set ((95:Int).toNat) (2:UInt8)).set ((34:Int).toNat) (5:UInt8)).set ((35:Int).toNat) (7:UInt8)).set ((10:Int).toNat) (6:UInt8)) (b:=(1:UInt8)) Z Z Z Z Z Z Z Z (by have:=(And.intro YC.1 ZT); first|omega|(dsimp only; omega)) ?_);refine cc' h0 λ aaO h0=>cc' h0 λ YB h0=>mO Z (cF Z Z Z Z Z Z Z Z Z aaO ?_);refine mO Z (ip (f:=eU) (l:=((((V5.set ((95:Int).toNat) (2:UInt8)).set ((34:Int).toNat) (5:UInt8)).set ((35:Int).toNat) (7:UInt8)).set ((10:Int).toNat) (6:UInt8)).set ((32:Int).toNat) (1:UInt8)) (b:=(1:UInt8)) Z Z Z Z Z Z Z Z (by have:=(And.intro aaO.1 YB); first|omega|(dsimp only; omega)) ?_);refine cc' h0 λ abP h0=>cc' h0 λ hk59 h0=>mO Z (cF Z Z Z Z Z Z Z Z Z abP ?_);refine mO Z (ip (f:=eU) (l:=(((((V5.set ((95:Int).toNat) (2:UInt8)).set ((34:Int).toNat) (5:UInt8)).set ((35:Int).toNat) (7:UInt8)).set ((10:Int).toNat) (6:UInt8)).set ((32:Int).toNat) (1:UInt8)).set ((9:Int).toNat) (1:UInt8)) (b:=(1:UInt8)) Z Z Z Z Z Z Z Z (by have:=(And.intro abP.1 hk59); first|omega|(dsimp only; omega)) ?_);refine nx 3 Z (cc' h0 λ Zd h0=>?_);refine mO Z (FJ eU (((((((V5.set ((95:Int).toNat) (2:UInt8)).set ((34:Int).toNat) (5:UInt8)).set ((35:Int).toNat) (7:UInt8)).set ((10:Int).toNat) (6:UInt8)).set ((32:Int).toNat) (1:UInt8)).set ((9:Int).toNat) (1:UInt8)).set ((13:Int).toNat) (1:UInt8)) Z Z Z Z Z Z Z Zd ?_);refine cc' h0 λ abO h0=>mO Z (Dh eU (tT 256) (((((((V5.set ((95:Int).toNat) (2:UInt8)).set ((34:Int).toNat) (5:UInt8)).set ((35:Int).toNat) (7:UInt8)).set ((10:Int).toNat) (6:UInt8)).set ((32:Int).toNat) (1:UInt8)).set ((9:Int).toNat) (1:UInt8)).set ((13:Int).toNat) (1:UInt8)) Z Z Z Z Z Z Y abO.1 abO.2 ?_);exact nx 2 Z (mQ (oi h0) (Ou eU (((((((V5.set ((95:Int).toNat) (2:UInt8)).set ((34:Int).toNat) (5:UInt8)).set ((35:Int).toNat) (7:UInt8)).set ((10:Int).toNat) (6:UInt8)).set ((32:Int).toNat) (1:UInt8)).set ((9:Int).toNat) (1:UInt8)).set ((13:Int).toNat) (1:UInt8)) Z Z Z Z Z Zd) (sr))
   refine lG (λ (ZM:Nat×(List UInt8))=>⟨[(0,.ptr 0 0),(1,.ptr 1 0),(22,.it 22 ([123,125,91,93,40,41,44,61,60,62,43,45,42,47,37,33,38,124,63,58,46]:Bk) ZM.1)],[(0,((tT 256).map eU).map .p),(1,(ZM.2.map eU).map .p)]⟩) (λ m (ZM:Nat×(List UInt8))=>iv m ZM.1 ZM.2) Y (0,U5) h1 (gE rfl rfl) ?_;rintro m ⟨t37,l38⟩ h1;replace h1:iv (m+1) t37 l38=some V5:=h1;rw [iv] at h1;refine nx 2 rfl (fD (p:=t37<([123,125,91,93,40,41,44,61,60,62,43,45,42,47,37,33,38,124,63,58,46]:Bk).length) [] h1 rfl (λ c39 h1=>?_) λ c39 h1=>?_)
   ·refine cc' h1 λ ZW h1=>mO Z (HQ Z Z Z Z Z Z c39 ZW Z Cj Z ?_);refine nx 13 Z (cc' h1 λ W5 h1=>?_);refine cc' h1 λ ZV h1=>mO Z (cF Z Z Z Z Z Z Z Z Z W5 ?_);refine mO Z (ip (f:=eU) (l:=l38) (b:=(4:UInt8)) Z Z Z Z Z Z Z Z (by have:=(And.intro W5.1 ZV); first|omega|(dsimp only; omega)) ?_);exact nx 1 Z (eX (t37+1,l38.set (((([123,125,91,93,40,41,44,61,60,62,43,45,42,47,37,33,38,124,63,58,46]:Bk).getD t37 0).toNat:Int).toNat) (4:UInt8)) h1 (gE Z Z))
   refine mO Z (JJ Z Z Z Z c39 ?_);exact nx 5 Z (eXi _ (oi h1).symm (gE Z Z))
  refine lG (λ (q72:Int×(List UInt8))=>⟨[(0,.ptr 0 0),(1,.ptr 1 0),(3,.p (eK .i32 q72.1))],[(0,((tT 256).map eU).map .p),(1,(q72.2.map eU).map .p)]⟩) (λ m (q72:Int×(List UInt8))=>ib m q72.1 q72.2) Y (48,o65) h1 (gE rfl rfl) ?_;rintro m ⟨Xp,l24⟩ h1;replace h1:ib (m+1) Xp l24=some U5:=h1;rw [ib] at h1;refine nx 6 rfl (fD [17] h1 rfl (λ c25 h1=>?_) λ c25 h1=>?_)
  ·refine nx 6 Z (cc' h1 λ X6 h1=>?_);refine cc' h1 λ X5 h1=>mO Z (cF Z Z Z Z Z Z Z Z Z X6 ?_);refine mO Z (ip (f:=eU) (l:=l24) (b:=(3:UInt8)) Z Z Z Z Z Z Z Z (by have:=(And.intro X6.1 X5); first|omega|(dsimp only; omega)) ?_);exact nx 6 Z (eX (IntKind.wrap .i32 (Xp+1),l24.set Xp.toNat (3:UInt8)) h1 (gE Z Z))
  exact uC
 refine lG (λ (ZL:Int×(List UInt8))=>⟨[(0,.ptr 0 0),(1,.ptr 1 0),(2,.p (eK .i32 ZL.1))],[(0,((tT 256).map eU).map .p),(1,(ZL.2.map eU).map .p)]⟩) (λ m (ZL:Int×(List UInt8))=>ij m ZL.1 ZL.2) Y (97,tT 256) h1 (gE rfl rfl) ?_;rintro m ⟨c8,l9⟩ h1;replace h1:ij (m+1) c8 l9=some o65:=h1;rw [ij] at h1;refine nx 6 rfl (fD [7] h1 rfl (λ YM h1=>?_) λ YM h1=>?_)
 ·refine nx 9 Z (cc' h1 λ WV h1=>?_);refine cc' h1 λ Zi h1=>mO Z (cF Z Z Z Z Z Z Z Z Z WV ?_);refine mO Z (ip (f:=eU) (l:=l9) (b:=(2:UInt8)) Z Z Z Z Z Z Z Z (by have:=(And.intro WV.1 Zi); first|omega|(dsimp only; omega)) ?_);refine cc' h1 λ WA h1=>cc' h1 λ WU h1=>mO Z (cF Z Z Z Z Z Z Z Z Z WA ?_);refine mO Z (ip (f:=eU) (l:=l9.set c8.toNat (2:UInt8)) (b:=(2:UInt8)) Z Z Z Z Z Z Z Z (by have:=(And.intro WA.1 WU); first|omega|(dsimp only; omega)) ?_);exact nx 6 Z (eX (IntKind.wrap .i32 (c8+1),(l9.set c8.toNat (2:UInt8)).set ((IntKind.wrap .i32 ((IntKind.wrap .i32 (c8-97))+65)).toNat) (2:UInt8)) h1 (gE Z Z))
 exact uC
theorem IA (h:p:=by exact mQo (oi h0) (aU _) Z Z Z (ay Z (aA _) Z) (sr) ⟨⟨_,Z,aR _⟩,trivial⟩):p:=h
theorem sQ:n0 64=some jE:=by kernel_rfl
def iw (Mr:Bk):Option ad:=some (.mk Mr 0 (-1) (.mk 0 0 []))
theorem ad.ones (x:ad):PV.onesB (ad.cs x)=true:=by kernel_rfl
theorem mt (Mr:Bk)(r:ad)(h0:iw Mr=some r):co Tryz.prog 51 [.p (eS Mr)] [] (λ x y=>x=.ptr 2000000 0/\y=[(2000000,(ad.cs r).map .p)]):=by
 unfold iw at h0;refine sw good [6] [6] Tryz.func51 Z Z Z Z Z λ w0 F=>mPo (λ _:ad=>.ptr 2000000 0) (λ v=>[(2000000,(ad.cs v).map .p)]) ?_;refine nx 7 Z ?_;refine oK (tj 64 _ sQ) Z trivial Tryz.call84 Z ?_;refine mO Z (AD (cs:=(ad.cs (.mk Mr 0 (-1) (.mk 0 0 []))).map .p) (y:=.p (.agg (ad.cs (.mk Mr 0 (-1) (.mk 0 0 []))))) Z Z Z Z Z Z Z (by kernel_rfl) (by simp only [nb,vf]) ?_);refine mO Z (MU (ad.cs (.mk Mr 0 (-1) (.mk 0 0 []))) Z Z Z Z (ad.ones _) Z Z ?_);exact nx 4 Z IA
end Go.Ab.R06
end
section
namespace Go.Ab
variable {p:Prop}
theorem I1 (h:p:=by
 simp only [bodyPostD,hd',Leaves]; exact ⟨v,hv w',fin p1 p2 p3 hS hr⟩):p:=h
structure PreO (w:World)(g:Gh):Prop where
 ok:Ok0 w g.st
 own:∀ i b,g.ow i=some b->b<w.heap.size/\i<2*M1
 inj:∀ i j b,g.ow i=some b->g.ow j=some b->i=j
 nst:∀ i b,M1<=i->g.ow i=some b->∀ o,¬ g.st b o
def O2 (w:World)(g:Gh)(R:AV->List (Nat×List AV)->Prop)(v:Value)(w':World):Prop :=∃ r obs' g',R r obs'/\ARep w' g' r v/\(∀ p∈obs',jq w' g' p.1 p.2)/\oy w g w' g'
def Bq (P:Program)(f:FuncId)(args:List AV)(Uz:List (Nat×List AV))(R:AV->List (Nat×List AV)->Prop):Prop :=∀ (w:World) (g:Gh) (vs:Array Value) (u:FrameMode),PreO w g->vs.size=args.length->(∀ (i:Nat) c v,args[i]? = some c->vs[i]? = some v->ARep w g c v)->(∀ id cs,look Uz id=some cs->jq w g id cs) -> CallsD P f vs u w λ e u' w'=>u'=u/\∃ v,e=.returned v/\O2 w g R v w'
theorem PL {P:Program}{tt:List (Nat×TI)}(good:cS P tt){f:FuncId}{fn:Func}{c:Code}{args:List AV}{Uz rob:List (Nat×List AV)}{r:AV}(ts ids:List Nat)(hf:P.funcs[f]? = some fn)(hb:fn.body=some c)
  (hn:Nat.ble args.length fn.ntmps=true) (hnl:Nat.ble fn.ntmps M1=true) (hts:ts.all (λ i=>Nat.blt i M1)=true) (hnd:nodupB ts=true)
  (h:∀ w0 F,awp ⟨P,tt,good,fn.ntmps,hnl,w0,F⟩ c (vE ⟨P,tt,good,fn.ntmps,hnl,w0,F⟩ tt fn ts ids r rob) ⟨iu args,Uz⟩):Bq P f args Uz (λ x y=>x.sub r/\leO y rob) :=
 λ _ _ _ _ hp h1 h2 h3=>(callsD_of_wp hf hb (rJ good ts ids (sm hn) hnl hts hnd (λ w0 F=>sG (h w0 F)) hp.ok hp.own hp.inj hp.nst h1 h2 h3)).mono
  λ _ _ _ ⟨hu,v,r,obs',g',he,hR,e1,e2,e3⟩=>⟨hu,v,he,r,obs',g',hR,e1,e2,e3⟩
def Tj:Option Code->Code|some (.seq _ (.seq _ B))=>B|_=>.skip
def IZ (P:Program)(fn:Func)(B:Code)(sl:List (Nat×AV))(Uz:List (Nat×List AV))(R:AV->List (Nat×List AV)->Prop):Prop :=∀ (w:World) (g:Gh) (a:Act),PreO w g->a.tmps.size=fn.ntmps->(∀ i,ARep w g ((⟨sl,Uz⟩:AS).get i) (a.tmps.getD i Go.undef))->(∀ id cs,look Uz id=some cs->jq w g id cs) -> B.wp P (λ e a' w'=>(e=.normal\/e=.ret)/\a'.defers=a.defers/\∃ v,(∀ w2,(results fn a'.tmps).run P w2=.ok v w2)/\O2 w g R v w') a w
theorem Lk {P:Program}{tt:List (Nat×TI)}(good:cS P tt){fn:Func}{B:Code}{t:Nat}{sl:List (Nat×AV)}{Uz rob:List (Nat×List AV)}{r:AV}(ids:List Nat)(hres:fn.results.toList=[.tmp t])(hnl:Nat.ble fn.ntmps M1=true)
  (h:∀ w0 F,awp ⟨P,tt,good,fn.ntmps,hnl,w0,F⟩ B (vE ⟨P,tt,good,fn.ntmps,hnl,w0,F⟩ tt fn [] ids r rob) ⟨sl,Uz⟩):IZ P fn B sl Uz (λ x y=>x.sub r/\leO y rob):=by
 intro w g a hp Ul Sk hobs
 have hs:St fn.ntmps ⟨w,g.st,g.ow,hp.ok.gl,(λ i b h=>Nat.lt_of_lt_of_le (hp.own i b h).2 AB),a.defers⟩ (λ b=>b<w.heap.size/\∀ i,g.ow i≠some b) g ⟨sl,Uz⟩ a w :=
  ⟨Z,Ul,Sk,hobs,hp.inj,λ i b hi=>⟨(hp.own i b hi).1,λ h=>h.2 i hi⟩,hp.ok.lt,λ b h=>h.1,λ b h=>rfl,Z,Z,Z,bx _,λ b _ o=>Iff.rfl,λ _ _ _=>rfl,kC.refl _ _,λ i b hi h=>hp.nst i b hi h,Ev.refl _ _⟩
 refine wp_mono (sG (h _ _) g a w hs) ?_;rintro e a' w' ⟨g1,s',h3,he,l,r1,obs1,obs',hl,hr,hpk,hm,hR⟩;obtain ⟨v,hv,hvr⟩:=pm good h3 fn l hl
 have hrun:∀ w2,(results fn a'.tmps).run P w2=.ok (a'.tmps.getD t Go.undef) w2:=λ w2=>by
  rw [uY,Array.mapM_eq_mapM_toList,hres];simp [yH]
 obtain ⟨g',e1,e2,e3⟩:=yP [] ids Z Z hp.own h3 hvr hr hpk hm
 have:v=a'.tmps.getD t Go.undef:=by
  have:=(hrun w').symm.trans hv
  injection this with h1 _
  exact h1.symm
 exact ⟨he,h3.nd,v,λ w2=>by rw [this]; exact hrun w2,_,_,g',hR,e1,e2,e3⟩
theorem zM:∀ {js:List Nat} {q:List AV} {i:Nat} {c:AV},look (js.zip q) i=some c->∃ k:Nat,js[k]? = some i/\q[k]? = some c
 | [],_,_,_,h=>by simp [look] at h
 | _::_,[],_,_,h=>by simp [look] at h
 | j::js,x::q,i,c,h=>by
  rw [List.zip_cons_cons,aZ] at h;by_cases e:j=i
  ·rw [if_pos e] at h; cases h; exact ⟨0,by simp [e],rfl⟩
  ·rw [if_neg e] at h;obtain ⟨k,h1,h2⟩:=zM h;exact ⟨k+1,by simpa using h1,by simpa using h2⟩
theorem ss:∀ l:List AV,qG l l
 | []=>trivial
 | x::r=>⟨AV.sub_refl x,ss r⟩
theorem Hi {C:Cx}{fn:Func}{B:Code}{sl:List (Nat×AV)}{ob:List (Nat×List AV)}(ids Ug:List Nat)(NB NE:Nat)(js:List Nat){l l':List AV}{Uz qo rob ob':List (Nat×List AV)}{r r':AV}(hnt:C.n=fn.ntmps)
  (hB:IZ C.P fn B (js.zip l') qo (λ x y=>x.sub r/\leO y rob)) (hl:kW sl (js.map .tmp)=some l) (hl':AV.mapA.go (kZ ids Ug) l=some l') (hpk:iA ob ids=some Uz) (hmo:il (kZ ids Ug) Uz=some qo) (hqq:leO qo qo)
  (hnd:nodupB ids=true) (hids:ids.all (λ i=>Nat.blt i (2*M1))=true) (hil:Nat.ble ids.length M1=true) (hdl:Nat.ble NE M1=true) (hdis:ids.all (λ i=>!(cp Ug NB NE i))=true)
  (hvd:nodupB Ug=true) (hvl:Ug.all (λ i=>Nat.blt i M1)=true) (hvn:Nat.ble Ug.length 100000=true) (hr:r.mapA (kM ids NB NE)=some r') (hro:il (kM ids NB NE) rob=some ob')
  {g:Gh} {a a2:Act} {w:World} (hs:St C.n C.w0 C.F g ⟨sl,ob⟩ a w) (ht:a2.tmps=a.tmps) :
  B.wp C.P (λ e a' w'=>(e=.normal\/e=.ret)/\a'.defers=a2.defers/\∃ v,(∀ w2,(results fn a'.tmps).run C.P w2=.ok v w2)/\∃ g2,St C.n C.w0 C.F g2 ⟨(dG (cp Ug NB NE) ⟨sl,ob⟩).sl,ob'++(dG (cp Ug NB NE) ⟨sl,ob.filter λ p=>!(ids.any (Nat.beq p.1))⟩).ob⟩ a w'/\ARep w' g2 r' v) a2 w:=by
 obtain ⟨a1,a1'⟩:=lq hs _ l hl;have M':(js.map λ j=>a.eval (.tmp j)).length=l.length:=by simpa using a1.symm
 obtain ⟨gc,⟨k1,k2,k3,k4,k5,k6,k7⟩,hpost⟩:=qK ids Ug NB NE hl' (ss l') hpk hmo hqq hnd hids hil hdl hdis hvd hvl hvn hs (avs:=(js.map λ j=>a.eval (.tmp j)).toArray) (by simpa using M')
  (λ i c v hc hv=>a1' i c v hc (by simpa using hv))
 refine wp_mono (hB w gc a2 ⟨k1,k2,k3,k4⟩ (by rw [ht,hs.sz,hnt]) (λ i=>?_) k7) ?_
 ·unfold AS.get
  cases hq:look (js.zip l') i with
  | none=>exact .undef _
  | some c=>
   obtain ⟨k,h1,h2⟩:=zM hq;simp only [ur];refine k6 k c _ h2 ?_;have:a2.tmps.getD i Go.undef=a.eval (.tmp i):=by rw [ht]; rfl
   rw [this];simp [h1]
 ·rintro e a' w' ⟨he,hd,v,hv,x,y,g',⟨hx,hy⟩,e1,e2,e3⟩
  obtain ⟨g2,f1,f2⟩:=hpost w' v r r' rob ob' g' (hx _ _ _ e1) (λ p hp=>by
   obtain ⟨ds,m1,m2⟩:=uf hy p hp
   exact qe (e2 (p.1,ds) (ig m1)) m2) e3 hr hro
  exact ⟨he,hd,v,hv,g2,f1,f2⟩
theorem PZ {C:Cx}{k:FuncId}{sl:List (Nat×AV)}{ob:List (Nat×List AV)}(ids Ug:List Nat)(NB NE:Nat)(j:Nat){x:AV}{l':List AV}{Uz qo rob ob':List (Nat×List AV)}{r r':AV}{u:FrameMode}
  (hD:Bq C.P k l' qo (λ x y=>x.sub r/\leO y rob)) (hl:look sl j=some x) (hl':AV.mapA.go (kZ ids Ug) [x]=some l') (hpk:iA ob ids=some Uz) (hmo:il (kZ ids Ug) Uz=some qo) (hqq:leO qo qo)
  (hnd:nodupB ids=true) (hids:ids.all (λ i=>Nat.blt i (2*M1))=true) (hil:Nat.ble ids.length M1=true) (hdl:Nat.ble NE M1=true) (hdis:ids.all (λ i=>!(cp Ug NB NE i))=true)
  (hvd:nodupB Ug=true) (hvl:Ug.all (λ i=>Nat.blt i M1)=true) (hvn:Nat.ble Ug.length 100000=true) (hr:r.mapA (kM ids NB NE)=some r') (hro:il (kM ids NB NE) rob=some ob')
  {g:Gh} {a:Act} {w:World} (hs:St C.n C.w0 C.F g ⟨sl,ob⟩ a w) :
  CallsD C.P k #[a.eval (.tmp j)] u w λ e u' w'=>u'=u/\∃ v,e=.returned v/\∃ g2,St C.n C.w0 C.F g2 ⟨(dG (cp Ug NB NE) ⟨sl,ob⟩).sl,ob'++(dG (cp Ug NB NE) ⟨sl,ob.filter λ p=>!(ids.any (Nat.beq p.1))⟩).ob⟩ a w':=by
 have hx:ARep w g x (a.eval (.tmp j)):=bQ hs (x:=.tmp j) hl
 obtain ⟨gc,⟨k1,k2,k3,k4,k5,k6,k7⟩,hpost⟩:=qK ids Ug NB NE hl' (ss l') hpk hmo hqq hnd hids hil hdl hdis hvd hvl hvn hs (avs:=#[a.eval (.tmp j)]) rfl
  (λ i c v hc hv=>by
   match i,hc,hv with
   | 0,hc,hv=>simp at hc hv; subst hc hv; exact hx)
 refine (hD w gc _ u ⟨k1,k2,k3,k4⟩ k5 k6 k7).mono ?_;rintro e u' w' ⟨hu,v,he,x,y,g',⟨hx,hy⟩,e1,e2,e3⟩
 obtain ⟨g2,f1,_⟩:=hpost w' v r r' rob ob' g' (hx _ _ _ e1) (λ p hp=>by
   obtain ⟨ds,m1,m2⟩:=uf hy p hp
   exact qe (e2 (p.1,ds) (ig m1)) m2) e3 hr hro
 exact ⟨hu,v,he,g2,f1⟩
theorem MY {P:Program}{tt:List (Nat×TI)}(good:cS P tt){f k:FuncId}{fn:Func}{args:List AV}{Uz rob:List (Nat×List AV)}{c:Value}{R0 R1 R2 B:Code}{rid t j q:Nat}{o1 o2:Oper}{s0 s1 s2:AS}{b:Bool}(ids:List Nat)
  (hf:P.funcs[f]? = some fn) (hb:fn.body=some (.seq R0 (.seq (.seq R1 (.cond (.tmp t) (.seq R2 (.region rid #[o1,o2] false)) .skip)) B)))
  (hn:Nat.ble args.length fn.ntmps=true) (hnl:Nat.ble fn.ntmps M1=true)
  (h0:∀ w0 F,awp ⟨P,tt,good,fn.ntmps,hnl,w0,F⟩ R0 (λ e s=>e=.normal/\s=s0) ⟨iu args,Uz⟩)
  (h1:∀ w0 F,awp ⟨P,tt,good,fn.ntmps,hnl,w0,F⟩ R1 (λ e s=>e=.normal/\s=s1) s0) (hc:evo s1.sl (.tmp t)=some (.p (eB b)))
  (hF:b=false->∃ sE obs1 obs2,iA sE.ob ids=some obs1/\il (nC []) obs1=some obs2/\leO obs2 rob/\∀ w0 F g a a2 w,St fn.ntmps w0 F g s1 a w->a2.tmps=a.tmps ->
   B.wp P (λ e a' w'=>(e=.normal\/e=.ret)/\a'.defers=a2.defers/\∃ v,(∀ w2,(results fn a'.tmps).run P w2=.ok v w2)/\∃ g2,St fn.ntmps w0 F g2 sE a w'/\ARep w' g2 (.p (.val c)) v) a2 w)
  (hT:b=true->(∀ w0 F,awp ⟨P,tt,good,fn.ntmps,hnl,w0,F⟩ R2 (λ e s=>e=.normal/\s=s2) s1)/\(o1.op=.makeFunc (.func k) #[] #[.tmp j]/\o1.dst=some q/\Nat.blt q fn.ntmps=true/\o1.guard=none/\o2.op=.defer { callee:=.value (.tmp q),args:=#[],argTypes:=#[] }/\o2.dst=none/\o2.guard=none/\Nat.beq j q=false) /\
   (∀ vs w,(callFunc k vs).run P w=.ok (.enter k vs) w)/\∃ sE sD obs1 obs2 x,look s2.sl j=some x/\iA sD.ob ids=some obs1/\il (nC []) obs1=some obs2/\leO obs2 rob /\
    (∀ w0 F g a a2 w,St fn.ntmps w0 F g ⟨(q,.func (.func k) [x])::s2.sl,s2.ob⟩ a w->a2.tmps=a.tmps ->
     B.wp P (λ e a' w'=>(e=.normal\/e=.ret)/\a'.defers=a2.defers/\∃ v,(∀ w2,(results fn a'.tmps).run P w2=.ok v w2)/\∃ g2,St fn.ntmps w0 F g2 sE a w'/\ARep w' g2 (.p (.val c)) v) a2 w) /\
    ∀ w0 F g a w u,St fn.ntmps w0 F g sE a w->CallsD P k #[a.eval (.tmp j)] u w λ e u' w'=>u'=u/\∃ v,e=.returned v/\∃ g2,St fn.ntmps w0 F g2 sD a w') :
  co P f args Uz (λ x y=>x=.p (.val c)/\y=rob):=by
 refine co.of_sub ?_;intro w g vs hlt hown hinj hnst k1 k2 hobs;refine calls_of_wp_defers hf hb ?_;have hn':=sm hn
 have hs:St fn.ntmps ⟨w,g.st,g.ow,hlt.gl,(λ i b h=>Nat.lt_of_lt_of_le (hown i b h).2 AB),[]⟩ (λ b=>b<w.heap.size/\∀ i,g.ow i≠some b) g ⟨iu args,Uz⟩ { tmps:=vs++Array.replicate (fn.ntmps-vs.size) Go.undef,defers:=[] } w:=by
  refine ⟨Z,?_,?_,hobs,hinj,?_,hlt.lt,?_,?_,Z,Z,Z,bx _,λ b _ o=>Iff.rfl,λ _ _ _=>rfl,kC.refl _ _,λ i b hi h=>hnst i b hi h,Ev.refl _ _⟩
  ·simp only [Array.size_append,Array.size_replicate]; omega
  ·intro i;have:=pU args 0 i;simp only [AS.get,iu,this,rg,if_true,Nat.sub_zero]
   cases ha:args[i]? with
   | none=>exact .undef _
   | some x=>
    have hi:i<args.length:=(List.getElem?_eq_some_iff.1 ha).1;have hi2:i<vs.size:=by omega
    have e:(vs++Array.replicate (fn.ntmps-vs.size) Go.undef).getD i Go.undef=vs[i]:=by
     simp [Array.getD_eq_getD_getElem?,Array.getElem?_append,hi2]
    simp only [ur];rw [e];exact k2 i x _ ha (Array.getElem?_eq_getElem hi2)
  ·intro i b hi; exact ⟨(hown i b hi).1,λ h=>h.2 i hi⟩
  ·intro b h; exact h.1
  ·intro b h; rfl
 -- behind everything: what is handed back
 have fin:∀ {sE:AS} {obs1 obs2:List (Nat×List AV)} {a:Act} {w':World} {g2:Gh} {v:Value},iA sE.ob ids=some obs1->il (nC []) obs1=some obs2->leO obs2 rob ->
   St fn.ntmps ⟨w,g.st,g.ow,hlt.gl,(λ i b h=>Nat.lt_of_lt_of_le (hown i b h).2 AB),[]⟩ (λ b=>b<w.heap.size/\∀ i,g.ow i≠some b) g2 sE a w'->ARep w' g2 (.p (.val c)) v ->
   ∃ v1 r obs' g',Ending.returned v=.returned v1/\(AV.sub r (.p (.val c))/\leO obs' rob)/\ARep w' g' r v1/\(∀ p∈obs',jq w' g' p.1 p.2)/\oy w g w' g':=by
  intro sE obs1 obs2 a w' g2 v p1 p2 p3 hS hv;obtain ⟨g',e1,e2,e3⟩:=yP [] ids Z Z hown hS hv rfl p1 p2;exact ⟨v,_,_,g',rfl,⟨AV.sub_refl _,p3⟩,e1,e2,e3⟩
 refine wp_seq (wp_mono (h0 _ _ g _ w hs) ?_);rintro e a0 w0 ⟨g0,s0',hs0,rfl,rfl⟩;refine wp_seq (wp_seq (wp_mono (h1 _ _ g0 a0 w0 hs0) ?_));rintro e a1 w1 ⟨g1,s1',hs1,rfl,rfl⟩;have hcv:a1.eval (.tmp t)=.bool b:=b8 hs1 hc
 cases hbb:b with
 | false=>
  subst hbb;refine wp_cond_false hcv (wp_skip ?_);obtain ⟨sE,obs1,obs2,p1,p2,p3,hB⟩:=hF rfl;refine wp_mono (hB _ _ g1 a1 a1 w1 hs1 rfl) ?_;rintro e a' w' ⟨he,hd,v,hv,g2,hS,hr⟩;have hd':a'.defers=[]:=hd.trans hs1.nd;rcases he with rfl|rfl
  ·exact I1
  ·exact I1
 | true=>
  subst hbb;obtain ⟨h2,⟨m1,m2,m3,m4,m5,m6,m7,m8⟩,Zj,sE,sD,obs1,obs2,x,hj,p1,p2,p3,hB,hD⟩:=hT rfl;refine wp_cond_true hcv (wp_seq (wp_mono (h2 _ _ g1 a1 w1 hs1) ?_));rintro e a2 w2 ⟨g2,s2',hs2,rfl,rfl⟩;refine wp_region ?_;have hx:ARep w2 g2 x (a2.eval (.tmp j)):=bQ hs2 (x:=.tmp j) hj;have hq:q<fn.ntmps:=py ▸ m3;have e1:(execOp a2.eval o1).run P w2=.ok (.value (.func (.func k) #[] #[a2.eval (.tmp j)])) w2:=by simp [execOp,m1,Instr.makeFunc,Act.eval]
  have hs3:=hs2.put (d:=some q) (λ t ht=>by cases ht; exact hq) (x:=.func (.func k) [x]) (v:=.func (.func k) #[] #[a2.eval (.tmp j)]) (.func rfl λ i c v hc hv=>by
   match i,hc,hv with
   | 0,hc,hv=>simp at hc hv; subst hc hv; exact hx)
  obtain ⟨a3,ha3⟩:∃ a3,a3=a2.put (some q) (.func (.func k) #[] #[a2.eval (.tmp j)]):=⟨_,rfl⟩
  rw [<- ha3] at hs3
  have hqv:a3.eval (.tmp q)=.func (.func k) #[] #[a2.eval (.tmp j)]:=by
   have:q<a2.tmps.size:=by rw [hs2.sz]; exact hq
   rw [ha3]; simp [Act.put,Act.eval,Array.getD,this]
  have hjq:a3.eval (.tmp j)=a2.eval (.tmp j):=by
   have UK:q≠j:=λ e=>by subst e; simp at m8
   rw [ha3]; simp only [Act.put,Act.eval,Array.getD_eq_getD_getElem?,Array.getElem?_setIfInBounds,if_neg UK]
  have e2:(execOp a3.eval o2).run P w2=.ok (.defer { target:=.fn (.func k) #[a2.eval (.tmp j)],args:=#[] }) w2:=by simp [execOp,m5,resolve,hqv,Deferred.ofValue]
  have hr:List.range (#[o1,o2]:Array Oper).size=[0,1]:=rfl;rw [hr];have g0':(#[o1,o2]:Array Oper)[0]? = some o1:=rfl;have g1':(#[o1,o2]:Array Oper)[1]? = some o2:=rfl;simp only [wpOps,g0',g1',Region.wanted,m4,m7,if_true];refine .inl ?_;unfold Oper.wp;rw [e1];simp only [Oper.upon,m2];rw [<- ha3];refine .inl ?_;rw [e2];simp only [m6,Act.put];refine wp_mono (hB _ _ g2 a3 { a3 with defers:={ target:=.fn (.func k) #[a2.eval (.tmp j)],args:=#[] }::a3.defers } w2 hs3 rfl) ?_;rintro e a' w' ⟨he,hd,v,hv,g3,hS,hrv⟩;have hnd:a3.defers=[]:=hs3.nd;rw [hnd] at hd
  have key:Leaves P fn a'.tmps (λ e w'=>∃ v r obs' g',e=.returned v/\(AV.sub r (.p (.val c))/\leO obs' rob)/\ARep w' g' r v/\(∀ p∈obs',jq w' g' p.1 p.2)/\oy w g w' g') a'.defers .returning w':=by
   rw [hd];refine leaves_cons (f:=k) (args:=#[a2.eval (.tmp j)]) G (by simp [invoke,Zj]) ?_;have:=hD _ _ g3 a3 w' .returning hS;rw [hjq] at this;refine this.mono ?_;rintro e u' w'' ⟨hu,v2,he2,g4,hS4⟩;subst hu he2;simp only [settle,Leaves];refine ⟨v,hv w'',fin p1 p2 p3 hS4 ?_⟩
   cases hrv with
   | p hrv=>cases hrv; exact .p (.val _)
  rcases he with rfl|rfl
  ·exact key
  ·exact key
theorem mR {C:Cx}{c:Code}{s t:AS}(h:M C (λ e s=>e=.normal/\s=t) ⟨.cd c,[],s⟩):awp C c (λ e s=>e=.normal/\s=t) s:=sG h
theorem mE {C:Cx}{s t:AS}(h:cO C s t):M C (λ e s=>e=.normal/\s=t) ⟨.ex .normal,[],s⟩:=⟨t,h,Z,Z⟩
end Go.Ab
end
section
namespace Go.Ab.R06
open Go.Proofs Go.Ab Go.Ab.RB
attribute [local irreducible] awp hH bc bG co AV.sub M cO
theorem nK (x:ad):Bq Tryz.prog 132 [.ptr 1000000 0] [(1000000,[.ptr 1000001 0]),(1000001,(ad.cs x).map .p)] (λ a b=>a.sub (.tuple [])/\leO b [(1000000,[.ptr 1000001 0]),(1000001,(ad.cs (.mk x.fs x.fat (-1) x.AT)).map .p)]):=by
 refine PL good [] [1000000,1000001] Tryz.func132 Z Z Z Z Z λ w0 F=>mPo (v0:=ad.mk x.fs x.fat (-1) x.AT) (λ _:ad=>.tuple []) (λ v=>[(1000000,[.ptr 1000001 0]),(1000001,(ad.cs v).map .p)]) ?_;refine nx 4 Z (mO Z (gP Z Z Z Z Z Z Z Z (ad.b_outer _) (ad.u_outer _) ?_));exact nx 1 Z (M7 Z (aU _) Z Z Z (ay Z Z (ay Z (aA _) Z)) (sr) ⟨⟨_,Z,⟨sr,trivial⟩⟩,⟨_,Z,aR _⟩,trivial⟩)
end Go.Ab.R06
end
section
namespace Go.Ab
variable {p:Prop}
theorem Jr (h:p:=by
 unfold Oper.wp;rw [hrun0 _ _ hr];simp only [Oper.upon,hd]
 exact ⟨g',_,Uv,hK⟩):p:=h
theorem Ef {w:World}{g:Gh}{tok sz ty:Nat}{es:List PV}{b off cap:Nat}(h:ARep w g (.vec tok sz ty es) (.slice (some ⟨b,off,none⟩) es.length cap))(hc:es.length+1<=cap) :
  ARep w g (.vecp tok sz ty es) (.slice (some ⟨b,off,none⟩) (es.length+1) cap):=by
 generalize hv:Value.slice (some ⟨b,off,none⟩) es.length cap=v at h
 cases h with
 | vecn=>cases hv
 | vece _ _ a=>injection hv with _ _ h3; omega
 | vec how hb Uw Ul Uv hr hty=>
  injection hv with h1 h2 h3
  injection h1 with h1
  injection h1 with h4 h5
  subst h3 h4 h5;exact .vecp how hb Uw hc Ul Uv hr hty
section
variable {C:Cx} {o:Oper} {K:AS->Prop} {sl:List (Nat×AV)} {ob:List (Nat×List AV)} {d:Nat}
theorem oo (ty0:Nat){es ys:List PV}{t tx e:TypeId}{i ie:TI}{y:Operand}(D:Nat->Bool)(hDl:∀ i,D i=true->i<M1)(hDd:D d=true)(hy1:ys.length=1)
  (hi:look C.tt t=some i) (UA:i.k=.slice e) (hie:look C.tt e=some ie)
  (hS:wP C sl ob tx y ie.size ys) (hzl:ie.zero.length=ie.size)
  (M':(es.length+ys.length)*ie.bytes<=140737488355328) (hlen':es.length+ys.length<=9223372036854775807)
  {g:Gh} {a:Act} {w:World} (hs:St C.n C.w0 C.F g ⟨sl,ob⟩ a w) (base:Option Addr) (cap:Nat) (olds:List Value)
  (hold:(Builtin.firstCells ie.size es.length (.slice base es.length cap)).run C.P w.drew=.ok olds.toArray w.drew) (hol:olds.length=es.length*ie.size)
  (hes:∀ e,e∈es->e.cells.length=ie.size)
  (hoc:∀ (i:Nat) y (j:Nat) x,es[i]? = some y->y.cells[j]? = some x->x.one=true/\∃ u,olds[i*ie.size+j]? = some u/\PRep w g.st x u)
  (hg:cap<es.length+ys.length) (ty:TypeId) (hn:Nat.blt d C.n=true) (hty:ty0=0\/ty0=e+1) :
  ∃ v w' g',(Builtin.append_ #[t,tx] ty #[.slice base es.length cap,a.eval y]).run C.P w=.ok v w' /\
   St C.n C.w0 C.F g' ⟨(d,.vecp d ie.size ty0 es)::(dG D ⟨sl,ob⟩).sl,(dG D ⟨sl,ob⟩).ob⟩ (a.put (some d) v) w':=by
 obtain ⟨u,h1,h2⟩:=bR C.good hi;have h3:=de (h2.trans UA);subst h3;obtain ⟨info,hf1,hf2,hf3,z,hf4,hf5⟩:=lB C.good hie;obtain ⟨news,hsrc,hnews⟩:=hS g a w hs;have hfit:=growslice_fits (bytes:=ie.bytes) hg M';have hrun:=run_append_grow_src w t tx ty e info z h1 hf1 hf4 base es.length cap olds (by rw [hf2]; exact hold) (a.eval y) ys.length news (by rw [hf2]; exact hsrc) hg O (by rw [hf3]; exact hfit);obtain ⟨q,hq⟩:∃ q,q=grownCap w (es.length+ys.length) cap e:=⟨_,rfl⟩
 rw [<- hq] at hrun
 have hqn:es.length+ys.length<=q:=by
  rw [hq]; unfold grownCap; simp only [Question.cut]; omega
 have hzs:z.cells.size=ie.size:=by rw [<- hzl,<- hf5,Array.length_toList]
 obtain ⟨c,hc⟩:∃ c,c=(olds++news).toArray++Builtin.zeroCells z.cells (q-(es.length+ys.length)):=⟨_,rfl⟩
 rw [<- hc] at hrun
 have Uw:c.size=q*ie.size:=by
  rw [hc];simp only [Array.size_append,List.size_toArray,n7,hol,hsrc.newsLen,size_zeroCells,hzs];rw [<- Nat.add_mul,<- Nat.add_mul]; congr 1; omega
 have hget:∀ m,m<es.length*ie.size->c[m]? = olds[m]?:=by
  intro m hm;rw [hc,Array.getElem?_append];simp only [List.size_toArray,n7,hol,hsrc.newsLen];rw [if_pos O,List.getElem?_toArray,List.getElem?_append,hol,if_pos hm]
 have hf:=hs.drew.fresh D hDl d hDd (λ o=>o<es.length*ie.size) c e
 have hv:ARep (w.drew.alloc (.cells c e)) ⟨λ b o=>g.st b o\/(b=w.drew.heap.size/\o<es.length*ie.size),λ i=>if i=d then some w.drew.heap.size else if D i then none else g.ow i⟩
   (.vec d ie.size ty0 es) (.slice (some ⟨w.drew.heap.size,0,none⟩) es.length q):=by
  refine Lb G iU Uw O hes (λ o=>⟨λ h=>?_,λ h=>.inr ⟨Z,h⟩⟩) (λ i y j x hy hx=>?_) hty
  ·rcases h with h|h
   ·exact absurd (hs.lt _ _ h) (Nat.lt_irrefl _)
   ·exact h.2
  ·have Us:=oB (w:=w.drew) (T:=λ o=>o<es.length*ie.size) (ob:=.cells c e) hs.drew.lt;have hcl:=hes y (List.mem_of_getElem? hy);have hjl:j<ie.size:=by rw [<- hcl]; exact (List.getElem?_eq_some_iff.1 hx).1
   have hil:i<es.length:=(List.getElem?_eq_some_iff.1 hy).1;have hm1:(i+1)*ie.size<=es.length*ie.size:=Nat.mul_le_mul_right _ O;rw [Nat.add_mul] at hm1;obtain ⟨k1,u,hu,hr⟩:=hoc i y j x hy hx;refine ⟨k1,u,?_,(PRep.mono (w:=w) (w':=w.drew) (st:=g.st) (st':=g.st) (λ b o h=>⟨h,rfl⟩) hr).mono Us⟩;rw [hget _ O]; exact hu
 have hp:=hf.put (d:=some d) (λ t ht=>by cases ht; exact py ▸ hn) (Ef hv O);rw [hy1] at hrun;exact ⟨_,_,_,hrun,hp⟩
theorem Aq {t tx e:TypeId}{x y:Operand}{k sz ty:Nat}{es:List PV}{ys:List PV}{i ie:TI}(ho:o.op=.call { callee:=.builtin .append,args:=#[x,y],argTypes:=#[t,tx] })(hd:o.dst=some d)(hn:Nat.blt d C.n=true)
  (hi:look C.tt t=some i) (UA:i.k=.slice e) (hie:look C.tt e=some ie) (hx:evo sl x=some (.vec k sz ty es)) (hk:Nat.blt k M1=true) (hiz:ie.size=sz) (hy1:ys.length=1)
  (hS:wP C sl ob tx y ie.size ys) (_Ul:∀ y∈ys,y.cells.length=ie.size) (h0:Nat.blt 0 ie.size=true) (hzl:Nat.beq ie.zero.length ie.size=true)
  (M':(es.length+1)*ie.bytes<=140737488355328) (hlen':es.length+1<=9223372036854775807) (hty:(Nat.beq ty 0||Nat.beq ty (e+1))=true)
  (hK:K ⟨(d,.vecp d sz ty es)::(dG (λ i=>Nat.beq i k||Nat.beq i d) ⟨sl,ob⟩).sl,(dG (λ i=>Nat.beq i k||Nat.beq i d) ⟨sl,ob⟩).ob⟩):bc C o K ⟨sl,ob⟩:=by
 subst hiz;rw [<- hy1] at M' hlen';have h0':0<ie.size:=by simpa using h0
 have hzl':=la hzl;have hk':k<M1:=py ▸ hk;have hdl:d<M1:=by have h1:=sm C.nl; have h2:d<C.n:=py ▸ hn; omega
 have hty':=IL hty
 have hDl:∀ i,(Nat.beq i k||Nat.beq i d)=true->i<M1:=by
  intro i hi;simp only [Bool.or_eq_true] at hi;rcases hi with hi|hi <;> (have:=la hi; omega)
 intro g a w hs;have hxr:=bQ hs hx;generalize hxv:a.eval x=xv at hxr
 have hrun0:∀ v w',(Builtin.append_ #[t,tx] o.type #[xv,a.eval y]).run C.P w=.ok v w'->(execOp a.eval o).run C.P w=.ok (.value v) w':=by
  intro v w' h;rw [kd ho];simp [builtin,hxv,h]
 cases hxr with
 | vecn=>
  obtain ⟨v,w',g',hr,Uv⟩:=oo ty (es:=[]) (λ i=>Nat.beq i k||Nat.beq i d) hDl G hy1 hi UA hie hS hzl' (by simpa using M') (by simpa using hlen') hs none 0 []
   (run_firstCells_none w.drew ie.size 0 0 0) G G G (by simp [hy1]) o.type hn hty'
  exact Jr
 | vece tok sz a0=>
  obtain ⟨v,w',g',hr,Uv⟩:=oo 0 (es:=[]) (λ i=>Nat.beq i k||Nat.beq i d) hDl G hy1 hi UA hie hS hzl' (by simpa using M') (by simpa using hlen') hs (some a0) 0 []
   (run_firstCells_some w.drew ie.size 0 a0 0 0 [] G G) G G G (by simp [hy1]) o.type hn hty'
  exact Jr
 | vec how hb Uw hsz' Uv hr hty0=>
  rename_i b off cap c e0;have hinv:=rh hsz' hb hr;have hcapE:es.length<=cap:=by cases hr with|nile _=>exact bx _|slice _ _ hcap=>exact hcap
  by_cases hroom:es.length+ys.length<=cap
  ·obtain ⟨u,h1,h2⟩:=bR C.good hi;have h3:=de (h2.trans UA);subst h3;obtain ⟨info,hf1,hf2,hf3,z,hf4,hf5⟩:=lB C.good hie;obtain ⟨news,hsrc,hnews⟩:=hS g a w hs
   have hfit:(off+es.length*ie.size)+news.length<=c.size:=by
    rw [hsrc.newsLen,Uw,Nat.add_assoc,<- Nat.add_mul]; exact Nat.add_le_add_left (Nat.mul_le_mul_right _ hroom) _
   have hstc:=run_storeCells_at C.P b (off+es.length*ie.size) e0 news 0 c w hb (by simpa using hfit) hsrc.one;simp only [Nat.add_zero] at hstc;obtain ⟨c',hc'⟩:∃ c',c'=(c.toList.take (off+es.length*ie.size)++news++c.toList.drop (off+es.length*ie.size+news.length)).toArray:=⟨_,rfl⟩
   rw [<- hc'] at hstc;have hrr:=oQ t tx o.type e info h1 hf1 b off es.length cap (a.eval y) ys.length news (by rw [hf2]; exact hsrc) hroom (by rw [hf2]; exact hstc)
   have Up:∀ j,c'[j]? = if off+es.length*ie.size<=j/\j<off+es.length*ie.size+news.length then news[j-(off+es.length*ie.size)]? else c[j]?:=by
    intro j;rw [hc'];have:=ns c.toList news (off+es.length*ie.size) (by simpa using hfit) j;simpa using this
   have hcs':c'.size=off+cap*ie.size:=by rw [<- Uw,hc']; simp; omega
   have hin:=hs.inplace (λ i=>Nat.beq i k||Nat.beq i d) hDl (k:=k) (d:=d) how G G  hb (c':=c') (hcs'.trans Uw.symm) (λ o h=>by
    have:=(Uv o).1 h
    rw [Up o,if_neg O]) (λ o=>o<off+es.length*ie.size) (λ o h=>(Uv o).1 h)
   have hEv:Ev w g.st (w.setRow b c') (λ b' o=>(b'=b/\o<off+es.length*ie.size)\/(b'≠b/\g.st b' o)):=by
    intro b' o h;by_cases e:b'=b
    ·subst e;have h5:=(Uv o).1 h;refine ⟨.inl ⟨rfl,h5⟩,?_⟩;simp only [World.cell?,hb,setRow_heap w b' c c' _ (0,0) hb];have:=Up o;rw [if_neg O] at this;simpa using this
    ·exact ⟨.inr ⟨e,h⟩,by simp only [World.cell?,setRow_other w b b' c' e]⟩
   have hv:ARep (w.setRow b c') ⟨λ b' o=>(b'=b/\o<off+es.length*ie.size)\/(b'≠b/\g.st b' o),λ i=>if i=d then some b else if (Nat.beq i k||Nat.beq i d) then none else g.ow i⟩
     (.vec d ie.size ty es) (.slice (some ⟨b,off,none⟩) es.length cap):=by
    refine ua G (setRow_heap w b c c' e0 (0,0) hb) hcs' hcapE hsz' (λ o=>⟨λ h=>?_,λ h=>.inl ⟨Z,h⟩⟩) (λ i y j x hy hx=>?_) hty0
    ·rcases h with h|h
     ·exact h.2
     ·exact absurd Z h.1
    ·have hcl:=hsz' y (List.mem_of_getElem? hy);have hjl:j<ie.size:=by rw [<- hcl]; exact (List.getElem?_eq_some_iff.1 hx).1
     have hil:i<es.length:=(List.getElem?_eq_some_iff.1 hy).1;obtain ⟨k1,u,hu,hr⟩:=hinv i y j x hy hx;have hm2:(i+1)*ie.size<=es.length*ie.size:=Nat.mul_le_mul_right _ O;rw [Nat.add_mul] at hm2;refine ⟨k1,u,?_,hr.mono hEv⟩;rw [Up,if_neg O]; exact hu
   have hp:=hin.put (d:=some d) (λ t ht=>by cases ht; exact py ▸ hn) (Ef hv O);rw [hy1] at hrr;exact Jt
  ·obtain ⟨olds,hol,hocell⟩:∃ olds:List Value,olds.length=es.length*ie.size/\∀ m,m<es.length*ie.size->olds[m]? = c[off+m]? :=
    ⟨((c.toList.drop off).take (es.length*ie.size)),by
     rw [List.length_take,n6,show c.toList.length=off+cap*ie.size from Array.length_toList.trans Uw]
     have:=Nat.mul_le_mul_right ie.size hcapE; omega,λ m hm=>by rw [List.getElem?_take,if_pos hm,List.getElem?_drop,Array.getElem?_toList]⟩
   have hold:(Builtin.firstCells ie.size es.length (.slice (some ⟨b,off,none⟩) es.length cap)).run C.P w.drew=.ok olds.toArray w.drew:=by
    refine run_firstCells_some w.drew ie.size es.length ⟨b,off,none⟩ es.length cap olds hol (λ j v hv=>?_);have hj:j<es.length*ie.size:=by rw [<- hol]; exact (List.getElem?_eq_some_iff.1 hv).1
    rw [add_lit,World.cell?_drew];simp only [World.cell?,hb];rw [<- hocell j hj]; simpa using hv
   obtain ⟨v,w',g',hr',hst'⟩:=oo ty (es:=es) (λ i=>Nat.beq i k||Nat.beq i d) hDl G hy1 hi UA hie hS hzl' M' hlen' hs (some ⟨b,off,none⟩) cap olds
    hold hol hsz' (λ i y j x hy hx=>by
     obtain ⟨k1,u,hu,hr⟩:=hinv i y j x hy hx;have hi:i<es.length:=(List.getElem?_eq_some_iff.1 hy).1;have hj:j<ie.size:=by rw [<- hsz' y (List.mem_of_getElem? hy)]; exact (List.getElem?_eq_some_iff.1 hx).1
     have hm2:(i+1)*ie.size<=es.length*ie.size:=Nat.mul_le_mul_right _ O;rw [Nat.add_mul] at hm2
     exact ⟨k1,u,by rw [hocell _ O,<- Nat.add_assoc]; exact hu,hr⟩) O o.type hn hty'
   unfold Oper.wp;rw [hrun0 _ _ hr'];simp only [Oper.upon,hd];exact ⟨g',_,hst',hK⟩
theorem rj {α:Type}(f:α->PV)(l0:List α){z:PV}{t tx e e':TypeId}{x y:Operand}{k sz ty:Nat}{i ie j:TI}(ho:o.op=.call { callee:=.builtin .append,args:=#[x,y],argTypes:=#[t,tx] })(hd:o.dst=some d)(hn:Nat.blt d C.n=true)
  (hi:look C.tt t=some i) (UA:i.k=.slice e) (hie:look C.tt e=some ie) (hj:look C.tt tx=some j) (hjk:j.k=.slice e') (hx:evo sl x=some (.vec k sz ty (l0.map f))) (hk:Nat.blt k M1=true) (hiz:ie.size=sz)
  (hy:evo sl y=some (.p (eL (λ x:PV=>x) [z]))) (Ul:Nat.beq z.cells.length ie.size=true) (h0:Nat.blt 0 ie.size=true) (hzl:Nat.beq ie.zero.length ie.size=true) (hby:Nat.blt 0 ie.bytes=true)
  (hty:(Nat.beq ty 0||Nat.beq ty (e+1))=true) (M':(l0.length+1)*ie.bytes<=140737488355328)
  (hK:K ⟨(d,.vecp d sz ty (l0.map f))::(dG (λ i=>Nat.beq i k||Nat.beq i d) ⟨sl,ob⟩).sl,(dG (λ i=>Nat.beq i k||Nat.beq i d) ⟨sl,ob⟩).ob⟩):bc C o K ⟨sl,ob⟩:=by
 have hby':1<=ie.bytes:=Nat.succ_le_of_lt (by simpa using hby);have h1:(l0.length+1)*1<=(l0.length+1)*ie.bytes:=Nat.mul_le_mul_left _ hby';have hs':∀ y∈[z],y.cells.length=ie.size:=λ y hy=>by rw [List.mem_singleton.1 hy]; exact la Ul
 exact Aq (ys:=[z]) ho hd hn hi UA hie hx hk hiz Z (pY hj hjk hy Z hs' (by simpa using h0)) hs' h0 hzl (by rw [th]; exact M') (by rw [th]; omega) hty hK
theorem qu {t e:TypeId}{x y:Operand}{i ie:TI}{tok sz ty:Nat}{es:List PV}{k:IntKind}{n:Int}(ho:o.op=.indexAddr t x y)(hd:o.dst=some d)(hn:Nat.blt d C.n=true)
  (hi:look C.tt t=some i) (UA:i.k=.slice e) (hie:look C.tt e=some ie) (hiz:ie.size=sz) (hx:evo sl x=some (.vecp tok sz ty es)) (hy:evo sl y=some (.p (.val (.int k n)))) (hnn:n=(es.length:Int))
  (hK:K ⟨(d,.elp tok sz)::sl,ob⟩):bc C o K ⟨sl,ob⟩:=by
 subst hiz hnn;obtain ⟨u,h1,h2⟩:=bR C.good hi;have h3:=de (h2.trans UA);subst h3;refine ok_one hd hn (λ g a w hs=>?_) hK;have h5:=bQ hs hx;generalize hv:a.eval x=v at h5
 cases h5 with
 | vecp how hb Uw hcap Ul Uv hr hty=>
  rename_i b off cap c e0;refine ⟨.pointer (some ⟨b,off+es.length*ie.size,none⟩),?_,.elp how hb ?_ Uv⟩
  ·have h6:(es.length:Int)<((es.length+1:Nat):Int):=by omega
   simp [execOp,ho,hv,b8 hs hy,Instr.indexAt,asIntOf,run_underlying h1,run_sizeOf C.good hie,add_lit]
  ·rw [Uw];have:=Nat.mul_le_mul_right ie.size hcap;rw [Nat.add_mul,Nat.one_mul] at this;omega
def upP (tok sz:Nat)(z:PV)(x:AV):AV:=match x with
 | .vecp t s ty es=>bif Nat.beq t tok&&Nat.beq s sz then .vec t s ty (es++[z]) else .undef
 | x=>x.dem (Nat.beq · tok)
def upPS (tok sz:Nat)(z:PV):List (Nat×AV)->Option (List (Nat×AV))
 | []=>some []
 | (i,x)::r=>(match frc (upP tok sz z x) with
  | some y=>(match upPS tok sz z r with|some l=>some ((i,y)::l)|none=>none)
  | none=>none)
def Oq (tok sz:Nat)(z:PV):List AV->Option (List AV)
 | []=>some []
 | x::r=>(match frc (upP tok sz z x) with
  | some y=>(match Oq tok sz z r with|some l=>some (y::l)|none=>none)
  | none=>none)
theorem Eu {tok sz:Nat}{z:PV}:∀ {l l':List AV},Oq tok sz z l=some l'->l'=l.map (upP tok sz z)
 | [],l',h=>by cases h; rfl
 | x::r,l',h=>by
  unfold Oq at h;split at h
  ·rename_i y hy;split at h
   ·rename_i m hm; cases h; rw [Co hy,Eu hm]; rfl
   ·cases h
  ·cases h
def FB (tok sz:Nat)(z:PV):List (Nat×List AV)->Option (List (Nat×List AV))
 | []=>some []
 | (i,cs)::r=>(match Nat.beq i tok with
  | true=>FB tok sz z r
  | false=>(match Oq tok sz z cs with
   | some ds=>(match FB tok sz z r with|some l=>some ((i,ds)::l)|none=>none)
   | none=>none))
theorem sx {tok sz:Nat}{z:PV}:∀ {l l':List (Nat×List AV)},FB tok sz z l=some l'->∀ id cs,look l' id=some cs->id≠tok/\∃ ds,look l id=some ds/\cs=ds.map (upP tok sz z)
 | [],l',h,id,cs,hc=>by cases h; cases hc
 | (i,xs)::r,l',h,id,cs,hc=>by
  unfold FB at h;split at h
  ·rename_i hb;obtain ⟨h1,ds,h2,h3⟩:=sx h id cs hc;have hi:=la hb;refine ⟨h1,ds,?_,h3⟩;rw [aZ,if_neg (λ e'=>h1 O)];exact h2
  ·rename_i hb;have hi:i≠tok:=λ e=>by subst e; simp at hb
   split at h
   ·rename_i ds hds;split at h
    ·rename_i m hm
     cases h
     rw [aZ] at hc ⊢;by_cases e1:i=id
     ·subst e1;rw [if_pos rfl] at hc ⊢
      cases hc
      exact ⟨hi,xs,Z,Eu hds⟩
     ·rw [if_neg e1] at hc ⊢;exact sx hm id cs hc
    ·cases h
   ·cases h
theorem ME {t:TypeId}{x v:Operand}{i:TI}{tok sz:Nat}{z:PV}{Y0z:AV}{sl':List (Nat×AV)}{ob':List (Nat×List AV)}(ho:o.op=.store t x v)(hd:o.dst=none)
  (hi:look C.tt t=some i) (hiz:i.size=sz) (hx:evo sl x=some (.elp tok sz)) (hv:evo sl v=some Y0z) (hY:Y0z.sub (.p z)) (hc:(AV.p z).cellsA=some (z.cells.map .p)) (hcl:Nat.beq z.cells.length sz=true) (htok:Nat.blt tok M1=true)
  (h1:sl'=sl.map λ p=>(p.1,upP tok sz z p.2)) (h2:FB tok sz z ob=some ob') (hK:K ⟨sl',ob'⟩):bc C o K ⟨sl,ob⟩:=by
 subst hiz h1;have htl:tok<M1:=py ▸ htok;have hcl':=la hcl;intro g a w hs;have h5:=bQ hs hx;have h6:ARep w g (.p z) (a.eval v):=hY _ _ _ (bQ hs hv);obtain ⟨hs1,hs2⟩:=lL hc h6;rw [th] at hs1;generalize Us:a.eval x=u at h5
 cases h5 with
 | elp how k2 hp Uv=>
  rename_i b p c e
  have UD:∀ u∈(a.eval v).cells.toList,u.oneCell'=true:=by
   intro u hu;obtain ⟨j,hj,rfl⟩:=List.getElem_of_mem hu;simp only [Array.length_toList] at hj;exact (hs2 j ((z.cells.map AV.p)[j]' gK) _ (List.getElem?_eq_getElem gK) (by simp [hj])).2
  have hstc:=run_storeCells_at C.P b p e (a.eval v).cells.toList 0 c w k2 gK UD;simp only [Nat.add_zero,Array.length_toList] at hstc;obtain ⟨c',hc'⟩:∃ c',c'=(c.toList.take p++(a.eval v).cells.toList++c.toList.drop (p+(a.eval v).cells.size)).toArray:=⟨_,rfl⟩
  rw [<- hc'] at hstc;have hsz':=run_sizeOf C.good hi w;have UK:(a.eval v).cells.size=i.size:=hs1.trans hcl';unfold Oper.wp
  have hrun:(execOp a.eval o).run C.P w=.ok .skip (w.setRow b c'):=by
   simp [execOp,ho,Us,Instr.storeAt,Instr.sureAddr,storeVar,hsz',UK,hstc]
  rw [hrun];simp only [Oper.upon,hd,Act.put]
  have Up:∀ j,c'[j]? = if p<=j/\j<p+i.size then (a.eval v).cells[j-p]? else c[j]?:=by
   intro j;rw [hc'];have:=ns c.toList (a.eval v).cells.toList p gK j;simp only [Array.length_toList,Array.getElem?_toList,UK] at this;simpa [UK] using this
  have hsize':c'.size=c.size:=by
   rw [hc']; simp; omega
  obtain ⟨g',hg'⟩:∃ g':Gh,g'=⟨λ b' o=>(b'=b/\o<p+i.size)\/(b'≠b/\g.st b' o),g.ow⟩:=⟨_,rfl⟩
  have hst':∀ b' o,g'.st b' o↔(b'=b/\o<p+i.size)\/(b'≠b/\g.st b' o):=λ b' o=>by rw [hg']
  have how':g'.ow=g.ow:=by rw [hg']
  have hev':Ev w g.st (w.setRow b c') g'.st:=by
   intro b2 o2 h2;by_cases e1:b2=b
   ·subst e1;have:=(Uv o2).1 h2;refine ⟨(hst' _ _).2 (.inl ⟨rfl,by omega⟩),?_⟩;simp only [World.cell?,k2,setRow_heap w b2 c c' e (0,0) k2];have h7:=Up o2;rw [if_neg O] at h7;simpa using h7
   ·exact ⟨(hst' _ _).2 (.inr ⟨e1,h2⟩),by simp only [World.cell?,setRow_other w b b2 c' e1]⟩
  have XO:∀ id b2,Nat.beq id tok=false->g.ow id=some b2->b2≠b:=λ id b2 hD h e=>by
   subst e;have:=hs.inj id tok b2 h how;subst this;simp at hD
  have hE:EvO (Nat.beq · tok) w g (w.setRow b c') g':=by
   refine ⟨hev',λ id b2 _ h=>by rw [how']; exact h,λ id b2 c2 e2 hD h h2=>⟨c2,(setRow_other w b b2 c' (XO id b2 hD h)).trans h2,Z⟩,λ id b2 o2 hD h h3=>?_,λ id b2 es2 k2' hD h h2=>(setRow_other w b b2 c' (XO id b2 hD h)).trans h2,λ i hi=>?_,λ id b2 o2 hD h _=>setRow_other w b b2 c' (XO id b2 hD h)⟩
   ·rcases (hst' _ _).1 h3 with h4|h4
    ·exact absurd h4.1 (XO id b2 hD h)
    ·exact h4.2
   ·cases hq:Nat.beq i tok
    ·rfl
    ·have:=la hq; have:=Eh hi; omega
  have hup:∀ {y:AV} {u:Value},ARep w g y u->ARep (w.setRow b c') g' (upP tok i.size z y) u:=by
   intro y u h;unfold upP;split
   ·rename_i t s ty es
    cases hq:(Nat.beq t tok&&Nat.beq s i.size)
    ·exact gZ
    ·simp only [n8] at hq;have e1:=la hq.1;have e2:=la hq.2;subst e1 e2;rw [cond_true]
     cases h with
     | vecp how2 hb2 hcs2 hcap2 hsz2 hst2 hr2 hty2=>
      rename_i b2 off cap c2 e2;rw [how] at how2; cases how2;rw [k2] at hb2; cases hb2
      have hpo:p=off+es.length*i.size:=by
       rcases Nat.lt_trichotomy p (off+es.length*i.size) with h7|h7|h7
       ·have:=(Uv p).1 ((hst2 p).2 h7); omega
       ·exact h7
       ·have:=(hst2 (off+es.length*i.size)).1 ((Uv _).2 h7); omega
      have hinv:=rh hsz2 k2 hr2;have M':(es++[z]).length=es.length+1:=by simp
      have:=ua (w:=w.setRow b c') (g:=g') (tok:=t) (es:=es++[z]) (cap:=cap) (by rw [how']; exact how) (setRow_heap w b c c' e (0,0) k2) (hsize'.trans hcs2) (by rw [M']; exact hcap2) (λ x hx=>by
       rcases List.mem_append.1 hx with hx|hx
       ·exact hsz2 x hx
       ·rw [List.mem_singleton.1 hx]; exact hcl') (λ o=>by
       rw [hst',M',Nat.add_mul,Nat.one_mul]
       exact ⟨λ h=>h.elim (λ h=>by omega) (λ h=>absurd Z h.1),λ h=>.inl ⟨Z,by omega⟩⟩) (λ k y j x hy hx=>?_) hty2
      ·rw [M'] at this; exact this
      ·have hcl2:y.cells.length=i.size:=by
        rcases List.mem_append.1 (List.mem_of_getElem? hy) with hx|hx
        ·exact hsz2 y hx
        ·rw [List.mem_singleton.1 hx]; exact hcl'
       have hjl:j<i.size:=by rw [<- hcl2]; exact (List.getElem?_eq_some_iff.1 hx).1
       rw [List.getElem?_append] at hy;split at hy
       ·rename_i hlt;obtain ⟨q1,u,hu,hr⟩:=hinv k y j x hy hx;have hm2:(k+1)*i.size<=es.length*i.size:=Nat.mul_le_mul_right _ O;rw [Nat.add_mul] at hm2;refine ⟨q1,u,?_,hr.mono hev'⟩;rw [Up,if_neg O]; exact hu
       ·rename_i hge
        have hk0:k-es.length=0:=by
         have:=(List.getElem?_eq_some_iff.1 hy).1;simp at this; omega
        rw [hk0] at hy;simp only [List.getElem?_cons_zero,bt] at hy;subst hy;have hke:k=es.length:=by omega
        subst hke;have hjc:j<(a.eval v).cells.size:=by omega
        have h8:=hs2 j (.p x) _ (by simp [hx]) (Array.getElem?_eq_getElem hjc);refine ⟨?_,(a.eval v).cells[j],?_,?_⟩
        ·have h9:PV.onesB z.cells=true\/z.one=true:=by
          cases z with
          | agg cs=>
           simp only [AV.cellsA] at hc
           cases ho:PV.onesB cs
           ·rw [ho] at hc; cases hc
           ·exact .inl ho
          | val _=>
           simp only [AV.cellsA] at hc;rename_i v0
           cases ho:v0.oneCell'
           ·rw [ho] at hc; cases hc
           ·exact .inr ho
          | slice _=>exact .inr Z
          | ifc=>exact .inr Z
          | aint _=>exact .inr Z
         rcases h9 with h9|h9
         ·exact jw h9 x (List.mem_of_getElem? hx)
         ·have:z.cells=[z]:=by cases z <;> first|rfl|(simp [PV.one] at h9)
          rw [this] at hx;have:=(List.getElem?_eq_some_iff.1 hx).1;simp at this;subst this;simp at hx;rw [<- hx]; exact h9
        ·rw [Up,if_pos ⟨by omega,by omega⟩,hpo];rw [show off+es.length*i.size+j-(off+es.length*i.size)=j by omega];exact Array.getElem?_eq_getElem hjc
        ·cases h8.1 with
         | p hr=>exact hr.mono hev'
   ·exact h.dem hE
  refine ⟨g',⟨sl.map λ p=>(p.1,upP tok i.size z p.2),ob'⟩,?_,hK⟩;refine ⟨hs.nd,hs.sz,λ j=>?_,λ id' cs' h'=>?_,by rw [how']; exact hs.inj,λ j b2 h=>?_,λ b2 o2 h=>?_,hs.fl,λ b2 h=>?_,hs.os,hs.out,hs.tape,?_,λ b2 h o2=>?_,by rw [how']; exact hs.owf,hs.shf.next (λ _ b c e _ _ h=>(qD k2 hsize').1 b c e h),λ j b2 hj h o2 h3=>?_,hs.ev0.trans hev'⟩
  ·have h:=hs.sl j;simp only [AS.get,lN];simp only [AS.get] at h
   cases hl:look sl j with
   | none=>simp only [Option.map_none,Option.getD_none]; exact .undef _
   | some x=>rw [hl] at h; simpa using hup h
  ·obtain ⟨hne',ds,m1,rfl⟩:=sx h2 id' cs' h';obtain ⟨b2,c2,e2,n1,n2,n3,n4,n5⟩:=hs.ob id' ds m1
   have hD:Nat.beq id' tok=false:=by
    cases hq:Nat.beq id' tok
    ·rfl
    ·exact absurd (la hq) hne'
   have hb2:=XO id' b2 hD n1;refine ⟨b2,c2,e2,by rw [how']; exact n1,(setRow_other w b b2 c' hb2).trans n2,by simpa using n3,λ o2 h3=>?_,λ j y hy=>?_⟩
   ·rcases (hst' _ _).1 h3 with h4|h4
    ·exact hb2 h4.1
    ·exact n4 o2 h4.2
   ·simp only [List.getElem?_map,rd] at hy;obtain ⟨y0,hy0,rfl⟩:=hy;obtain ⟨u,hu,hr⟩:=n5 j y0 hy0;exact ⟨u,hu,hup hr⟩
  ·rw [how'] at h;have:=hs.own j b2 h; exact ⟨by simpa using this.1,this.2⟩
  ·rcases (hst' _ _).1 h with h4|h4
   ·have:=(hs.own tok b how).1; rw [h4.1]; simpa using this
   ·have:=hs.lt b2 o2 h4.2; simpa using this
  ·have UK:b2≠b:=λ e=>(hs.own tok b how).2 (e ▸ h);exact (setRow_other w b b2 c' UK).trans (hs.fr b2 h)
  ·have:=hs.size; simpa using this
  ·have UK:b2≠b:=λ e=>(hs.own tok b how).2 (e ▸ h)
   exact ⟨λ h3=>by
    rcases (hst' _ _).1 h3 with h4|h4
    ·exact absurd h4.1 UK
    ·exact (hs.stf b2 h o2).1 h4.2,λ h3=>(hst' _ _).2 (.inr ⟨UK,(hs.stf b2 h o2).2 h3⟩)⟩
  ·rcases (hst' _ _).1 h3 with h4|h4
   ·have h7:g.ow j=some b2:=(hs.owf j hj (C.w0.lo j b2 h)).trans h;have:=hs.inj j tok b2 h7 (by rw [h4.1]; exact how);omega
   ·exact hs.nst j b2 hj h o2 h4.2
theorem xp {t:TypeId}{x v:Operand}{i:TI}{tok sz:Nat}{z:PV}{sl':List (Nat×AV)}{ob':List (Nat×List AV)}(ho:o.op=.store t x v)(hd:o.dst=none)
  (hi:look C.tt t=some i) (hiz:i.size=sz) (hx:evo sl x=some (.elp tok sz)) (hv:evo sl v=some (.p z)) (hc:(AV.p z).cellsA=some (z.cells.map .p)) (hcl:Nat.beq z.cells.length sz=true) (htok:Nat.blt tok M1=true)
  (h1:sl'=sl.map λ p=>(p.1,upP tok sz z p.2)) (h2:FB tok sz z ob=some ob') (hK:K ⟨sl',ob'⟩):bc C o K ⟨sl,ob⟩:=ME ho hd hi hiz hx hv (AV.sub_refl _) hc hcl htok h1 h2 hK
end
def sC (c:Nat)(imp:List Nat):fQ->fQ->Prop|(k,d,v)::r,(k',d',v')::r'=>(k=k'/\d=d'/\(imp.any (Nat.beq k)=true\/v c=v' c))/\sC c imp r r'|[],[]=>True|_,_=>False
theorem tE {c:Nat}{imp:List Nat}:∀ {r1 r2:fQ},sC c imp r1 r2->∀ k p,imp.any (Nat.beq k)=false->dh r2 k=some p->∃ v,dh r1 k=some (p.1,v)/\v c=p.2 c
 | [],[],_,k,p,_,h=>by cases h
 | (k1,d1,v1)::r,(k2,d2,v2)::r',⟨⟨e1,e2,e3⟩,hr⟩,k,p,hk,h=>by
  subst e1 e2;simp only [dh] at h ⊢
  cases hb:Nat.beq k1 k
  ·rw [hb,cond_false] at h;rw [cond_false];exact tE hr k p hk h
  ·exact GY
 | [],_::_,h,_,_,_,_=>h.elim
 | _::_,[],h,_,_,_,_=>h.elim
theorem Ds {C:Cx}{ops:Array Oper}{S1 S2:eY}{c k:Nat}{r1 r2:fQ}{imp:List Nat}(h1:lks (dD r2 S2.m++S2.bas S2.m) ((dD r1 S1.m++S1.bas S1.m).map (·.1))=some ((dD r1 S1.m++S1.bas S1.m).map (·.2)))
  (h2:lkE (S1.obj S1.m) (S2.obj S2.m) (S1.obj S1.m)) (h3:sC c imp r1 r2) :
  DS C ops S2 (λ rev2=>(⟨dD rev2 S2.m++S2.bas S2.m,S2.obj S2.m⟩:AS).le ⟨dD r1 S1.m++S1.bas S1.m,S1.obj S1.m⟩/\sC c imp r1 rev2) [] k r2:=by
 refine ⟨⟨λ j x h=>?_,λ id cs h=>⟨cs,(C1 h2 id cs h).trans h,bx _,λ i c d a b=>by rw [a] at b; cases b; exact AV.sub_refl _⟩⟩,h3⟩;have:=x7 h1 j x h;unfold AS.get;rw [this];exact AV.sub_refl _
theorem BZ {C:Cx}{id:Nat}{ops:Array Oper}{Q:Exit->AS->Prop}{sl:List (Nat×AV)}{ob:List (Nat×List AV)}(S1 S2:eY){k0 k1 k2:Nat}{r:List Nat}(hm:C.P.follows .mixedOrders=true)
  (hi1:S1.imp=k0::k1::k2::r) (hi2:S2.imp=k0::k2::k1::r) (hlen1:S1.imp.length=S1.m) (hlen2:S2.imp.length=S2.m) (hob1:S1.obj 0=ob) (hob2:S2.obj 1=S1.obj 1) (hb:eR sl (S1.bas 0)) (hb2:S2.bas 1=S1.bas 1)
  (hbas1:∀ j,j<S1.m->eR (trL (S1.D j) (S1.bas j)) (S1.bas (j+1))) (hbas2:∀ j,j<S2.m->eR (trL (S2.D j) (S2.bas j)) (S2.bas (j+1)))
  (hnd:nodupB (k0::k1::k2::r)=true) (hin:(k0::k1::k2::r).all (λ i=>Nat.blt i ops.size)=true) (hch1:chainB ops (k0::k1::r)=true) (hch2:chainB ops (k0::k2::r)=true)
  (hord:(ops.toList.zipIdx.all λ p=>p.1.after.toList.all λ e=>!(Region.binds .any e)||Nat.blt e.on p.2)=true)
  (h:DS C ops S1 (λ rev1=>Q .normal ⟨dD rev1 S1.m++S1.bas S1.m,S1.obj S1.m⟩/\DS C ops S2 (λ rev2=>(⟨dD rev2 S2.m++S2.bas S2.m,S2.obj S2.m⟩:AS).le ⟨dD rev1 S1.m++S1.bas S1.m,S1.obj S1.m⟩/\sC 1 (k1::k2::r) rev1 rev2) ops.toList 0 []) ops.toList 0 []):awp C (.region id ops true) Q ⟨sl,ob⟩:=by
 intro g a w hs
 have hnd2:nodupB S2.imp=true:=by
  rw [hi2];simp only [nodupB,List.any_cons,Bool.not_or,n8,Bool.not_eq_true'] at hnd ⊢;obtain ⟨⟨b1,b2,b3⟩,⟨a1,a2⟩,a3,a4⟩:=hnd;refine ⟨⟨b2,b1,b3⟩,⟨?_,a3⟩,a2,a4⟩;exact Iz
 have hin2:S2.imp.all (λ i=>Nat.blt i ops.size)=true:=by
  rw [hi2];simp only [List.all_cons,n8] at hin ⊢;exact ⟨hin.1,hin.2.2.1,hin.2.1,hin.2.2.2⟩
 obtain ⟨fin1,⟨hf1,h2⟩,hP1⟩:=Ax.mk' hlen1 hbas1 (by rw [hi1]; exact hnd) (by rw [hi1]; exact hin) hord h;obtain ⟨fin2,⟨hf2,hag⟩,hP2⟩:=Ax.mk' hlen2 hbas2 hnd2 hin2 hord h2
 have chain:∀ (x y:Nat) (S:eY),S.imp=k0::x::y::r->chainB ops (k0::y::r)=true->chainB ops (k0::x::r)=true->∀ (listed:Array Bool) (j i q:Nat),CI ops S listed j->i∈Region.ready .any ops listed->S.imp[q]? = some i->j<q->q=2/\j=1:=by
  intro x y S hS hcy hcx listed j i q hI hi hq hjq;obtain ⟨h1,o,ho,hafter⟩:=mem_ready.1 hi
  have use:∀ z zi,S.imp[z]? = some zi->m9 ops 4 o zi=true->z<j:=by
   exact JK
  match q,hq,hjq with
  | 0,_,hjq=>omega
  | 1,hq,hjq=>
   exfalso;rw [hS] at hq;have b1:=kl hcx 0 k0 i o Z qM ho;have:=use 0 k0 (by rw [hS]; rfl) b1;omega
  | 2,hq,hjq=>
   rw [hS] at hq;have b1:=kl hcy 0 k0 i o rfl qM ho;have:=use 0 k0 (by rw [hS]; rfl) b1;exact ⟨rfl,by omega⟩
  | q+3,hq,hjq=>
   exfalso;rw [hS] at hq;simp only [List.getElem?_cons_succ] at hq;have hql:q<r.length:=(List.getElem?_eq_some_iff.1 hq).1
   cases q with
   | zero=>
    have b1:=kl hcy 1 y i o Z qM ho;have:=use 2 y (by rw [hS]; rfl) b1;omega
   | succ q=>
    have b1:=kl hcy (q+2) r[q] i o (by simp [List.getElem?_eq_getElem (show q<r.length by omega)]) qM ho;have:=use (q+3) r[q] (by rw [hS]; simp [List.getElem?_eq_getElem (show q<r.length by omega)]) b1;omega
 have two:=oH hP2 hf2 hf1 2 (λ fuel listed g a w sl' j hj Ux i q hi hq hjq=>by
  have:=chain k2 k1 S2 hi2 hch1 hch2 listed j i q Ux.inv hi hq hjq; omega)
 refine wp_region_any hm ?_;refine (oH hP1 (AS.le_refl _) hf1 0 ?_).1 _ _ g a _ sl 0 (rg _) (PAt.start hb (by rw [hob1]; exact hs.drew));intro fuel listed g a w sl' j _ Ux i q hi hq hjq;obtain ⟨rfl,rfl⟩:=chain k1 k2 S1 hi1 hch2 hch1 listed j i q Ux.inv hi hq hjq;have UA:i=k2:=by rw [hi1] at hq; simpa using hq.symm
 subst UA
 have hno:∀ k,(k1::i::r).any (Nat.beq k)=true->listed.getD k false=false:=by
  intro k hk;obtain ⟨x,hx,hkx⟩:=List.any_eq_true.1 hk;have:=la hkx;subst this;obtain ⟨z,hz⟩:=List.mem_iff_getElem?.1 hx;have:=Ux.inv.2.1 (z+1) k (by rw [hi1]; simpa using hz);exact Jd
 have hm2:1<=S2.m:=by rw [<- hlen2,hi2]; simp
 refine two.2 fuel listed g a w sl' 1 i (.inr ⟨bx _,by rw [hi2]; rfl⟩) hi ⟨Ux.sz,Ux.un,⟨hm2,λ z k hz=>?_,Ux.inv.2.2⟩,⟨λ z x hx=>Ux.kn.1 z x (by rw [<- hb2]; exact hx),λ k p hk hp=>?_⟩,by rw [hob2]; exact Ux.st⟩
 ·cases z with
  | zero=>
   have hz0:k=k0:=by rw [hi2] at hz; simpa using hz.symm
   subst hz0;have:=Ux.inv.2.1 0 k (by rw [hi1]; rfl);exact this
  | succ z=>
   constructor
   ·intro hl
    have hmem:k∈(k1::i::r):=by
     have:=List.mem_of_getElem? (show (i::k1::r)[z]? = some k by rw [hi2] at hz; simpa using hz);exact Jc
    rw [hno k (List.any_eq_true.2 ⟨k,hmem,by simp⟩)] at hl
    cases hl
   ·intro h; omega
 ·have hk':(k1::i::r).any (Nat.beq k)=false:=by
   exact JF
  obtain ⟨v,hv1,hv2⟩:=tE hag k p hk' hp;have:=Ux.kn.2 k _ hk hv1;rw [<- hv2]; exact this
theorem mSP {C:Cx}{Q:Exit->AS->Prop}{k:List Fr}{ops:Array Oper}{sl:List (Nat×AV)}{ob:List (Nat×List AV)}(S1 S2:eY){id k0 k1 k2:Nat}{r:List Nat}(hm:C.P.follows .mixedOrders=true)
  (hi1:S1.imp=k0::k1::k2::r) (hi2:S2.imp=k0::k2::k1::r) (hlen1:S1.imp.length=S1.m) (hlen2:S2.imp.length=S2.m) (hob1:S1.obj 0=ob) (hob2:S2.obj 1=S1.obj 1) (hb:eR sl (S1.bas 0)) (hb2:S2.bas 1=S1.bas 1)
  (hbas1:∀ j,j<S1.m->eR (trL (S1.D j) (S1.bas j)) (S1.bas (j+1))) (hbas2:∀ j,j<S2.m->eR (trL (S2.D j) (S2.bas j)) (S2.bas (j+1)))
  (hnd:nodupB (k0::k1::k2::r)=true) (hin:(k0::k1::k2::r).all (λ i=>Nat.blt i ops.size)=true) (hch1:chainB ops (k0::k1::r)=true) (hch2:chainB ops (k0::k2::r)=true)
  (hord:(ops.toList.zipIdx.all λ p=>p.1.after.toList.all λ e=>!(Region.binds .any e)||Nat.blt e.on p.2)=true)
  (h:DS C ops S1 (λ rev1=>M C Q ⟨.ex .normal,k,⟨dD rev1 S1.m++S1.bas S1.m,S1.obj S1.m⟩⟩/\DS C ops S2 (λ rev2=>(⟨dD rev2 S2.m++S2.bas S2.m,S2.obj S2.m⟩:AS).le ⟨dD rev1 S1.m++S1.bas S1.m,S1.obj S1.m⟩/\sC 1 (k1::k2::r) rev1 rev2) ops.toList 0 []) ops.toList 0 []) :
  M C Q ⟨.cd (.region id ops true),k,⟨sl,ob⟩⟩ :=
 BZ S1 S2 hm hi1 hi2 hlen1 hlen2 hob1 hob2 hb hb2 hbas1 hbas2 hnd hin hch1 hch2 hord h
open Go
theorem Lt (h:p:=by
 by_cases hj:j<S.m
 ·exact ON e7 j hj
 ·have:look (S.bas (j-S.m+S.m)) d=none:=congrFun e8 (j-S.m)
  rwa [show j-S.m+S.m=j by omega] at this):p:=h
theorem JA (h:p:=by
 unfold bnP
 split <;> first|rfl|contradiction|(rename_i h _; cases h)|(rename_i h; cases h)):p:=h
def tmO:Operand->List Nat|.tmp t=>[t]|_=>[]
def tmL:List (Nat×Operand)->List Nat|[]=>[]|(_,x)::r=>tmO x++tmL r
def opR (o:Oper):List Nat:=match o.op with
 | .move x=>tmO x
 | .assign x=>tmO x
 | .pick c x y=>tmO c++(tmO x++tmO y)
 | .binOp _ _ x y _=>tmO x++tmO y
 | .unOp _ _ x=>tmO x
 | .fieldAddr _ x _=>tmO x
 | .load _ x=>tmO x
 | .nilCheck x=>tmO x
 | .extract x _=>tmO x
 | .field _ x _=>tmO x
 | .convert _ _ x=>tmO x
 | .build _ parts=>tmL parts.toList
 | .store _ x v=>tmO x++tmO v
 | _=>[]
def q8 (o:Oper):Bool:=match o.op with
 | .call _=>false
 | _=>true
def knKS:fQ->Nat->Option Nat|[],_=>none|(k,d,_)::r,i=>bif Nat.beq d i then some k else knKS r i
def QE (bas:List (Nat×AV))(o:Oper)(rev:fQ)(j i:Nat):Option AV:=match look bas i with
 | some x=>some x
 | none=>(match knKS rev i with
  | some k=>(match iX o k with
   | true=>(match dh rev k with
    | some (i',v)=>(match Nat.beq i' i with
     | true=>some (v j)
     | false=>none)
    | none=>none)
   | false=>none)
  | none=>none)
def uy (bas:List (Nat×AV))(o:Oper)(rev:fQ)(j:Nat):List Nat->List (Nat×AV)
 | []=>[]
 | i::r=>(match QE bas o rev j i with
  | some x=>(i,x)::uy bas o rev j r
  | none=>uy bas o rev j r)
theorem Ns {bas:List (Nat×AV)}{o:Oper}{rev:fQ}{j i:Nat}{x:AV}(h:QE bas o rev j i=some x):look bas i=some x\/∃ k v,iX o k=true/\dh rev k=some (i,v)/\v j=x:=by
 unfold QE at h;split at h
 ·rename_i y hy; cases h; exact .inl hy
 ·split at h
  ·rename_i k hk;split at h
   ·rename_i hb;split at h
    ·rename_i i' v hl;split at h
     ·rename_i hi
      cases h
      exact .inr ⟨k,v,hb,by rw [hl,la hi],Z⟩
     ·cases h
    ·cases h
   ·cases h
  ·cases h
theorem lC {bas:List (Nat×AV)}{o:Oper}{rev:fQ}{j:Nat}:∀ (l:List Nat),KnS bas o rev j (uy bas o rev j l)
 | []=>trivial
 | i::r=>by
  unfold uy;split
  ·rename_i x hx; exact ⟨Ns hx,lC r⟩
  ·exact lC r
section
variable {kn sl:List (Nat×AV)} {ob:List (Nat×List AV)} {C:Cx} {o:Oper}
theorem B4 {F:Option AV->Option AV}{x:Operand}{y:AV}(hs:∀ i x,look kn i=some x->look sl i=some x)(hF:F none=none)(h:F (evo kn x)=some y):F (evo sl x)=some y:=by
 cases hx:evo kn x with
 | none=>rw [hx,hF] at h; cases h
 | some v=>rw [hx] at h; rw [jh hs hx]; exact h
theorem MX {c x y:Operand}{z:AV}(hs:∀ i x,look kn i=some x->look sl i=some x)(h:pkP kn x y (evo kn c)=some z):pkP sl x y (evo sl c)=some z:=by
 cases hc:evo kn c with
 | none=>rw [hc] at h; cases h
 | some v=>
  rw [hc] at h;rw [jh hs hc];unfold pkP at h ⊢;split at h
  ·exact jh hs h
  ·exact jh hs h
  ·cases h
theorem NG {op:BinOp}{t:TypeId}(Y0z:Option AV):bnP C op t none Y0z=none:=by
 exact JA
theorem GK {op:BinOp}{t:TypeId}(X:Option AV):bnP C op t X none=none:=by
 exact JA
theorem Oo {op:BinOp}{t:TypeId}{x y:Operand}{z:AV}(hs:∀ i x,look kn i=some x->look sl i=some x)(h:bnP C op t (evo kn x) (evo kn y)=some z):bnP C op t (evo sl x) (evo sl y)=some z:=by
 cases hx:evo kn x with
 | none=>rw [hx,NG] at h; cases h
 | some v=>
  cases hy:evo kn y with
  | none=>rw [hy,GK] at h; cases h
  | some u=>
   rw [hx,hy] at h;rw [jh hs hx,jh hs hy]; exact h
theorem uQ (hs:∀ i x,look kn i=some x->look sl i=some x):∀ {ps:List (Nat×Operand)} {l:List (Nat×AV)},ik kn ps=some l->ik sl ps=some l
 | [],l,h=>h
 | (i,x)::r,l,h=>by
  unfold ik at h ⊢
  cases hx:evo kn x with
  | none=>rw [hx] at h; cases h
  | some v=>
   cases hr:ik kn r with
   | none=>rw [hx,hr] at h; cases h
   | some m=>
    rw [hx,hr] at h;rw [jh hs hx,uQ hs hr]; exact h
theorem N6 {t f:Nat}:faP C t f none=none:=by
 unfold faP
 repeat' split
 all_goals first|rfl|contradiction
theorem NV {t:Nat}:ldP C ob t none=none:=by
 unfold ldP
 repeat' split
 all_goals first|rfl|contradiction
theorem Ne {t f:Nat}:flP C t f none=none:=by
 unfold flP
 repeat' split
 all_goals first|rfl|contradiction
theorem NS {t f:Nat}:cvP C t f none=none:=by
 unfold cvP
 repeat' split
 all_goals first|rfl|contradiction
theorem Ny {t:Nat}:buP C t none=none:=by
 unfold buP
 repeat' split
 all_goals first|rfl|contradiction
theorem M4 {t:Nat}{ps:List (Nat×Operand)}{y:AV}(hs:∀ i x,look kn i=some x->look sl i=some x)(h:buP C t (ik kn ps)=some y):buP C t (ik sl ps)=some y:=by
 cases hp:ik kn ps with
 | none=>rw [hp,Ny] at h; cases h
 | some l=>rw [hp] at h; rw [uQ hs hp]; exact h
theorem zO {y:AV}(hs:∀ i x,look kn i=some x->look sl i=some x)(hc:q8 o=true)(h:opV C o kn ob=some y):opV C o sl ob=some y:=by
 unfold opV q8 at *
 cases ho:o.op <;> simp only [ho] at h hc ⊢
 all_goals first
  | (cases h; done)
  | exact jh hs h
  | exact MX hs h
  | exact Oo hs h
  | exact B4 (F:=faP C _ _) hs N6 h
  | exact B4 (F:=ldP C ob _) hs NV h
  | exact B4 (F:=ncP) hs Z h
  | exact B4 (F:=xtP _) hs Z h
  | exact B4 (F:=flP C _ _) hs Ne h
  | exact B4 (F:=cvP C _ _) hs NS h
  | exact M4 hs h
  | (cases hc; done)
  | skip
 all_goals (rename_i op _ _; cases op <;> simp only at h ⊢)
 all_goals first
  | (cases h; done)
  | exact B4 (F:=ntP) hs Z h
def stV (C:Cx)(o:Oper)(kn:List (Nat×AV))(ob:List (Nat×List AV)):Option (List (Nat×List AV)):=match o.op with
 | .store t x v=>(match look C.tt t with
  | some i=>(match evo kn x with
   | some (.ptr id k)=>(match evo kn v with
    | some y=>(match y.cellsA with
     | some xs=>(match Nat.beq xs.length i.size with
      | true=>(match look ob id with
       | some cs=>(match Nat.ble (k+xs.length) cs.length with
        | true=>some ((id,oq cs k xs)::ob)
        | false=>none)
       | none=>none)
      | false=>none)
     | none=>none)
    | none=>none)
   | _=>none)
  | none=>none)
 | _=>none
theorem P1 {ops:Array Oper}{ob':List (Nat×List AV)}{K:AS->Prop}(h:stV C o kn ob=some ob')(hg:o.guard=none)(hd:o.dst=none)(hs:∀ i x,look kn i=some x->look sl i=some x)(hK:K ⟨sl,ob'⟩):One C ops o K ⟨sl,ob⟩:=by
 unfold stV at h;split at h
 ·rename_i t x v ho;split at h
  ·rename_i i hi;split at h
   ·rename_i id k hx;split at h
    ·rename_i y hv;split at h
     ·rename_i xs hc;split at h
      ·rename_i Ul;split at h
       ·rename_i cs hob;split at h
        ·rename_i hl
         cases h
         exact ap hg (oW ho hd hi (jh hs hx) (jh hs hv) hc (la Ul) hob (sm hl) hK)
        ·cases h
       ·cases h
      ·cases h
     ·cases h
    ·cases h
   ·cases h
  ·cases h
 ·cases h
end
section
variable {C:Cx} {ops:Array Oper} {S:eY} {K:fQ->Prop} {o:Oper} {k:Nat} {rev:fQ} {d:Nat}
def sV (C:Cx)(ops:Array Oper)(S:eY)(o:Oper)(R:List Nat)(k:Nat)(rev:fQ)(v:Nat->AV)(j:Nat):Option AV:=match nG ops S.imp o k j with
 | true=>opV C o (uy (S.bas j) o rev j R) (S.obj j)
 | false=>some (v j)
def sL (C:Cx)(ops:Array Oper)(S:eY)(o:Oper)(R:List Nat)(k:Nat)(rev:fQ)(v:Nat->AV):Nat->List (Option AV)|0=>[]|j+1=>sV C ops S o R k rev v j::sL C ops S o R k rev v j
def gL (ops:Array Oper)(S:eY)(o:Oper)(R:List Nat)(k:Nat)(rev:fQ)(t:Nat)(x:AV):Nat->List (Option AV)
 | 0=>[]
 | j+1=>(match nG ops S.imp o k j with
  | true=>look (uy (S.bas j) o rev j R) t
  | false=>some x)::gL ops S o R k rev t x j
def vL (v:Nat->AV):Nat->List (Option AV)|0=>[]|j+1=>some (v j)::vL v j
theorem O8 {v:Nat->AV}(hg:o.guard=none)(hd:o.dst=some d)(hn:Nat.blt d C.n=true)(hc:q8 o=true):∀ {m:Nat},sL C ops S o (opR o) k rev v m=vL v m->Stg C ops S o k rev d v m
 | 0,_=>trivial
 | j+1,h=>by
  have h1:sV C ops S o (opR o) k rev v j=some (v j):=(qr h).1;refine ⟨λ ha=>?_,O8 hg hd hn hc (qr h).2⟩;unfold sV at h1;rw [ha] at h1;exact ⟨_,lC _,λ sl hs K hK=>ap hg (vp (zO hs hc h1) hd hn hK)⟩
def cL (S:eY)(d:Nat):Nat->List (Option AV)|0=>[]|j+1=>look (S.bas j) d::cL S d j
def nL:Nat->List (Option AV)|0=>[]|j+1=>none::nL j
def aL (v:Nat->AV):Nat->List AV|0=>[]|j+1=>v (j+1)::aL v j
def bL (S:eY)(v:Nat->AV):Nat->List AV|0=>[]|j+1=>trA (S.D j) (v j)::bL S v j
theorem ON:∀ {m:Nat},cL S d m=nL m->∀ j,j<m->look (S.bas j) d=none
 | 0,_,j,h=>absurd h (Nat.not_lt_zero _)
 | m+1,h,j,hj=>by
  by_cases e:j=m
  ·subst e; exact (qr h).1
  ·exact ON (qr h).2 j O
theorem uW {v:Nat->AV}:∀ {m:Nat},aL v m=bL S v m->∀ j,j<m->v (j+1)=trA (S.D j) (v j)
 | 0,_,j,h=>absurd h (Nat.not_lt_zero _)
 | m+1,h,j,hj=>by
  by_cases e:j=m
  ·subst e; exact (qr h).1
  ·exact uW (qr h).2 j O
theorem dP {rest:List Oper}(v:Nat->AV)
  (e:(o.dst,S.imp.findIdx? (Nat.beq k),o.guard,q8 o,(rev.all λ p=>!(Nat.beq p.2.1 d)),Nat.blt d C.n,cL S d S.m,(λ j=>look (S.bas (j+S.m)) d),aL v S.m,sL C ops S o (opR o) k rev v (S.m+1))=(some d,none,none,true,true,true,nL S.m,(λ _=>none),bL S v S.m,vL v (S.m+1)))
  (h:DS C ops S K rest (k+1) ((k,d,v)::rev)):DS C ops S K (o::rest) k rev:=by
 simp only [wr] at e;obtain ⟨e1,e2,e3,e4,e5,e6,e7,e8,e9,Xb⟩:=e;refine jU v e2 e1 e5 (λ j=>?_) (uW e9) (O8 e3 e1 e6 e4 Xb) h;exact Lt
theorem dPc {rest:List Oper}(y:AV)
  (e:(o.dst,S.imp.findIdx? (Nat.beq k),o.guard,q8 o,(rev.all λ p=>!(Nat.beq p.2.1 d)),Nat.blt d C.n,cL S d S.m,(λ j=>look (S.bas (j+S.m)) d),aL (λ _=>y) S.m,sL C ops S o (opR o) k rev (λ _=>y) (S.m+1))=(some d,none,none,true,true,true,nL S.m,(λ _=>none),bL S (λ _=>y) S.m,vL (λ _=>y) (S.m+1)))
  (h:DS C ops S K rest (k+1) ((k,d,λ _=>y)::rev)):DS C ops S K (o::rest) k rev:=dP (λ _=>y) e h
theorem dS {rest:List Oper}{i:Nat}
  (e:(S.imp.findIdx? (Nat.beq k),o.dst,o.guard,S.D i,stV C o (uy (S.bas i) o rev i (opR o)) (S.obj i))=(some i,none,none,Tr.none,some (S.obj (i+1))))
  (h:DS C ops S K rest (k+1) rev):DS C ops S K (o::rest) k rev:=by
 simp only [wr] at e;obtain ⟨e1,e2,e3,e4,e5⟩:=e;refine lZ _ e1 (lC (opR o)) e2 (λ sl hs K hK=>?_) h;rw [e4] at hK;exact P1 e5 e3 e2 hs hK
theorem tp (e7:cL S d S.m=nL S.m)(e8:(λ j=>look (S.bas (j+S.m)) d)=λ _=>none)(j:Nat):look (S.bas j) d=none:=by
 exact Lt
theorem Ia {v:Nat->AV}{R:List Nat}{w b:Bool}{g t:Nat}(hb:b=w)(hg:o.guard=some (g,w))(hj:(ops.toList[g]?).bind (·.dst)=some t)(hd:o.dst=some d)(hn:Nat.blt d C.n=true)(hc:q8 o=true) :
  ∀ {m:Nat},gL ops S o R k rev t (.p (.val (.bool b))) m=vL (λ _=>.p (.val (.bool b))) m->sL C ops S o R k rev v m=vL v m->Stg C ops S o k rev d v m
 | 0,_,_=>trivial
 | j+1,hG,h=>by
  have h1:sV C ops S o R k rev v j=some (v j):=(qr h).1;have h2:=(qr hG).1;refine ⟨λ ha=>?_,Ia hb hg hj hd hn hc (qr hG).2 (qr h).2⟩;unfold sV at h1;rw [ha] at h1 h2;exact ⟨_,lC _,λ sl hs K hK=>cx (vp (zO hs hc h1) hd hn hK) hg hj (hs _ _ h2) hb⟩
theorem dPy {rest:List Oper}{w b:Bool}{g t:Nat}(v:Nat->AV)(hb:b=w)
  (e:(o.dst,o.guard,(ops.toList[g]?).bind (·.dst),S.imp.findIdx? (Nat.beq k),q8 o,(rev.all λ p=>!(Nat.beq p.2.1 d)),Nat.blt d C.n,cL S d S.m,(λ j=>look (S.bas (j+S.m)) d),aL v S.m,gL ops S o (t::opR o) k rev t (.p (.val (.bool b))) (S.m+1),sL C ops S o (t::opR o) k rev v (S.m+1))=(some d,some (g,w),some t,none,true,true,true,nL S.m,(λ _=>none),bL S v S.m,vL (λ _=>.p (.val (.bool b))) (S.m+1),vL v (S.m+1)))
  (h:DS C ops S K rest (k+1) ((k,d,v)::rev)):DS C ops S K (o::rest) k rev:=by
 simp only [wr] at e;obtain ⟨e1,e2,e3,e4,e5,e6,e7,e8,e9,Xb,Zs,Z3⟩:=e;exact jU v e4 e1 e6 (tp e8 e9) (uW Xb) (Ia hb e2 e3 e1 e7 e5 Zs Z3) h
theorem IW {R:List Nat}{w b:Bool}{g t:Nat}(hb:b=!w)(hg:o.guard=some (g,w))(hj:(ops.toList[g]?).bind (·.dst)=some t)(hd:o.dst=some d)(hn:Nat.blt d C.n=true) :
  ∀ {m:Nat},gL ops S o R k rev t (.p (.val (.bool b))) m=vL (λ _=>.p (.val (.bool b))) m->Stg C ops S o k rev d (λ _=>.p (.val Go.undef)) m
 | 0,_=>trivial
 | j+1,hG=>by
  have h2:=(qr hG).1;refine ⟨λ ha=>?_,IW hb hg hj hd hn (qr hG).2⟩;rw [ha] at h2;exact ⟨_,lC _,λ sl hs K hK=>GM hg hj (hs _ _ h2) hb hd hn hK⟩
theorem dPn {rest:List Oper}{w b:Bool}{g t:Nat}(hb:b=!w)
  (e:(o.dst,o.guard,(ops.toList[g]?).bind (·.dst),S.imp.findIdx? (Nat.beq k),(rev.all λ p=>!(Nat.beq p.2.1 d)),Nat.blt d C.n,cL S d S.m,(λ j=>look (S.bas (j+S.m)) d),aL (λ _=>.p (.val Go.undef)) S.m,gL ops S o [t] k rev t (.p (.val (.bool b))) (S.m+1))=(some d,some (g,w),some t,none,true,true,nL S.m,(λ _=>none),bL S (λ _=>.p (.val Go.undef)) S.m,vL (λ _=>.p (.val (.bool b))) (S.m+1)))
  (h:DS C ops S K rest (k+1) ((k,d,λ _=>.p (.val Go.undef))::rev)):DS C ops S K (o::rest) k rev:=by
 simp only [wr] at e;obtain ⟨e1,e2,e3,e4,e6,e7,e8,e9,Xb,Zs⟩:=e;exact jU _ e4 e1 e6 (tp e8 e9) (uW Xb) (IW hb e2 e3 e1 e7 Zs) h
theorem He {R:List Nat}{w:Bool}{g t:Nat}(hg:o.guard=some (g,w))(hj:(ops.toList[g]?).bind (·.dst)=some t)(hd:o.dst=some d)(hn:Nat.blt d C.n=true) :
  ∀ {m:Nat},gL ops S o R k rev t (.p (.val Go.undef)) m=vL (λ _=>.p (.val Go.undef)) m->Stg C ops S o k rev d (λ _=>.p (.val Go.undef)) m
 | 0,_=>trivial
 | j+1,hG=>by
  have h2:=(qr hG).1;refine ⟨λ ha=>?_,He hg hj hd hn (qr hG).2⟩;rw [ha] at h2;exact ⟨_,lC _,λ sl hs K hK=>zr hg hj (hs _ _ h2) hd hn hK⟩
theorem dPx {rest:List Oper}{w:Bool}{g t:Nat}
  (e:(o.dst,o.guard,(ops.toList[g]?).bind (·.dst),S.imp.findIdx? (Nat.beq k),(rev.all λ p=>!(Nat.beq p.2.1 d)),Nat.blt d C.n,cL S d S.m,(λ j=>look (S.bas (j+S.m)) d),aL (λ _=>.p (.val Go.undef)) S.m,gL ops S o [t] k rev t (.p (.val Go.undef)) (S.m+1))=(some d,some (g,w),some t,none,true,true,nL S.m,(λ _=>none),bL S (λ _=>.p (.val Go.undef)) S.m,vL (λ _=>.p (.val Go.undef)) (S.m+1)))
  (h:DS C ops S K rest (k+1) ((k,d,λ _=>.p (.val Go.undef))::rev)):DS C ops S K (o::rest) k rev:=by
 simp only [wr] at e;obtain ⟨e1,e2,e3,e4,e6,e7,e8,e9,Xb,Zs⟩:=e;exact jU _ e4 e1 e6 (tp e8 e9) (uW Xb) (He e2 e3 e1 e7 Zs) h
end
def lkM (s:List (Nat×List AV)):List (Nat×List AV)->List (Option (List AV))|[]=>[]|(j,_)::r=>look s j::lkM s r
def smM:List (Nat×List AV)->List (Option (List AV))|[]=>[]|(_,cs)::r=>some cs::smM r
theorem vS {s:List (Nat×List AV)}:∀ {t:List (Nat×List AV)},lkM s t=smM t->leO s t
 | [],_=>trivial
 | (_j,cs)::_r,h=>⟨⟨cs,(qr h).1,aR cs⟩,vS (qr h).2⟩
theorem va:∀ l:List AV,qG l l
 | []=>trivial
 | x::r=>⟨AV.sub_refl x,va r⟩
def lkB (sl:List (Nat×AV)):List (Nat×AV)->List (Option AV)|[]=>[]|(i,_)::r=>look sl i::lkB sl r
def smB:List (Nat×AV)->List (Option AV)|[]=>[]|(_,x)::r=>some x::smB r
theorem sd {sl:List (Nat×AV)}:∀ {b:List (Nat×AV)},lkB sl b=smB b->eR sl b
 | [],_=>trivial
 | (_i,_x)::_r,h=>⟨(qr h).1,sd (qr h).2⟩
def lkS (S:eY):Nat->List (List (Option AV))|0=>[]|j+1=>lkB (trL (S.D j) (S.bas j)) (S.bas (j+1))::lkS S j
def smS (S:eY):Nat->List (List (Option AV))|0=>[]|j+1=>smB (S.bas (j+1))::smS S j
theorem vh {S:eY}:∀ {m:Nat},lkS S m=smS S m->∀ j,j<m->eR (trL (S.D j) (S.bas j)) (S.bas (j+1))
 | 0,_,j,h=>absurd h (Nat.not_lt_zero _)
 | m+1,h,j,hj=>by
  by_cases e:j=m
  ·subst e; exact sd (qr h).1
  ·exact vh (qr h).2 j O
section
variable {C:Cx} {Q:Exit->AS->Prop} {K:AS->Prop} {sl:List (Nat×AV)} {ob:List (Nat×List AV)} {o:Oper} {d:Nat} {s:AS} {k:List Fr} {ops:Array Oper}
theorem cVq (ids Ug:List Nat)(NB NE:Nat){f:FuncId}{args:Array Operand}{ts:Array TypeId}{l q:List AV}{Uz qo rob ob':List (Nat×List AV)}{r r':AV}(hc:co C.P f q qo (λ x y=>x=r/\y=rob))(henter:∀ vs w,(callFunc f vs).run C.P w=.ok (.enter f vs) w)
  (e:(o.op,o.dst,Nat.blt d C.n,kW sl args.toList,AV.mapA.go (kZ ids Ug) l,iA ob ids,il (kZ ids Ug) Uz,lkM qo qo,nodupB ids,ids.all (λ i=>Nat.blt i (2*M1)),Nat.ble ids.length M1,Nat.ble NE M1,ids.all (λ i=>!(cp Ug NB NE i)),nodupB Ug,Ug.all (λ i=>Nat.blt i M1),Nat.ble Ug.length 100000,r.mapA (kM ids NB NE),il (kM ids NB NE) rob)=(.call { callee:=.value (.func f),args:=args,argTypes:=ts },some d,true,some l,some q,some Uz,some qo,smM qo,true,true,true,true,true,true,true,true,some r',some ob'))
  (hK:K ⟨(d,r')::(dG (cp Ug NB NE) ⟨sl,ob⟩).sl,ob'++(dG (cp Ug NB NE) ⟨sl,ob.filter λ p=>!(ids.any (Nat.beq p.1))⟩).ob⟩):bc C o K ⟨sl,ob⟩:=by
 simp only [wr] at e;obtain ⟨e1,e2,e3,e4,e5,e6,e7,e8,e9,Xb,Zs,Z3,e13,e14,e15,Z2,e17,e18⟩:=e;exact aV ids Ug NB NE hc e1 e2 e3 e4 e5 (va _) e6 e7 (vS e8) e9 Xb Zs Z3 e13 e14 e15 Z2 henter e17 e18 hK
theorem mQoq {β:Type}{v v0:β}{tt:List (Nat×TI)}{fn:Func}{ts ids:List Nat}{mk:β->AV}{mo:β->List (Nat×List AV)}{Uz:List (Nat×List AV)}{l:List AV}(e:some v=some v0)
  (h:(nh tt fn.results.toList s,(qW l).mapA (nC ts),iA s.ob ids,il (nC ts) Uz,lkM (mo v) (mo v))=(some l,some (mk v),some Uz,some (mo v),smM (mo v))):M C (λ e s=>∃ v,v=v0/\vE C tt fn ts ids (mk v) (mo v) e s) ⟨.ex .ret,[],s⟩:=by
 simp only [wr] at h;obtain ⟨h1,h2,h3,h4,h5⟩:=h;exact mQo (Option.some.inj e) (aU _) h1 h2 h3 h4 (AV.sub_refl _) (vS h5)
theorem mSq (S:eY){id:Nat}
  (e:(C.P.follows .mixedOrders,S.imp.length,S.obj 0,lkB sl (S.bas 0),lkS S S.m,nodupB S.imp,S.imp.all (λ i=>Nat.blt i ops.size),chainB ops S.imp,(ops.toList.zipIdx.all λ p=>p.1.after.toList.all λ e=>!(Region.binds .any e)||Nat.blt e.on p.2))=(true,S.m,ob,smB (S.bas 0),smS S S.m,true,true,true,true))
  (h:DS C ops S (λ rev=>M C Q ⟨.ex .normal,k,⟨dD rev S.m++S.bas S.m,S.obj S.m⟩⟩) ops.toList 0 []):M C Q ⟨.cd (.region id ops true),k,⟨sl,ob⟩⟩:=by
 simp only [wr] at e;obtain ⟨e1,e2,e3,e4,e5,e6,e7,e8,e9⟩:=e;exact mS S e1 e2 e3 (sd e4) (vh e5) e6 e7 e8 e9 h
end
def ob2 (A:List (Nat×List AV))(x:Nat×List AV):Nat->List (Nat×List AV)|0=>A|_+1=>x::A
def ob3 (A:List (Nat×List AV))(x y:Nat×List AV):Nat->List (Nat×List AV)|0=>A|1=>x::A|_+2=>y::x::A
def ob5 (A:List (Nat×List AV))(x y z u:Nat×List AV):Nat->List (Nat×List AV)|0=>A|1=>x::A|2=>y::x::A|3=>z::y::x::A|_+4=>u::z::y::x::A
class HP (h:Prop) (P:outParam Program) (f:outParam FuncId) (q:outParam (List PV)) (x:outParam AV):Prop where
 c:h->bG P f q (·=x)
class HO (h:Prop) (P:outParam Program) (f:outParam FuncId) (q:outParam (List AV)) (qo:outParam (List (Nat×List AV))) (x:outParam AV) (y:outParam (List (Nat×List AV))):Prop where
 c:h->co P f q qo (λ a b=>a=x/\b=y)
class HC {α:Type} (f:α->PV) (cs:outParam (α->List PV)):Prop where
 c:∀ x,(f x).cells=cs x
class HE (P:Program) (f:FuncId):Prop where
 e:∀ vs w,(callFunc f vs).run P w=.ok (.enter f vs) w
def tQ {α:Type}:List Nat->List (Nat×α)->Option (List (Nat×α))
 | _,[]=>some []
 | seen,(i,x)::r=>(match seen.any (Nat.beq i) with
  | true=>tQ seen r
  | false=>(match tQ (i::seen) r with
   | some l=>some ((i,x)::l)
   | none=>none))
theorem yV:∀ {sl:List (Nat×AV)} {seen:List Nat} {b:List (Nat×AV)},tQ seen sl=some b->∀ p∈b,seen.any (Nat.beq p.1)=false/\look sl p.1=some p.2
 | [],seen,b,h,p,hp=>by simp only [tQ,bt] at h; subst h; simp at hp
 | (i,x)::r,seen,b,h,p,hp=>by
  unfold tQ at h;split at h
  ·rename_i hs;obtain ⟨h1,h2⟩:=yV h p hp;refine ⟨h1,?_⟩;rw [aZ,if_neg (λ e=>by subst e; rw [h1] at hs; cases hs)]; exact h2
  ·rename_i hs;split at h
   ·rename_i l hl
    cases h
    rcases ro.1 hp with rfl|hp
    ·exact ⟨hs,by rw [aZ,if_pos Z]⟩
    ·obtain ⟨h1,h2⟩:=yV hl p hp;rw [List.any_cons,Bool.or_eq_false_iff] at h1;refine ⟨h1.2,?_⟩;rw [aZ,if_neg (λ e=>by have:=h1.1; rw [<- e] at this; simp at this)]; exact h2
   ·cases h
theorem base_of {sl:List (Nat×AV)}:∀ {b:List (Nat×AV)},(∀ p∈b,look sl p.1=some p.2)->eR sl b
 | [],_=>trivial
 | (i,x)::_r,h=>⟨h (i,x) (List.mem_cons_self ..),base_of λ p hp=>h p (List.mem_cons_of_mem _ hp)⟩
theorem Ai {sl b:List (Nat×AV)}(h:tQ [] sl=some b):eR sl b:=base_of λ p hp=>(yV h p hp).2
def tkZ:Nat->List (Nat×AV)->Option (List Nat)
 | 0,_=>some []
 | n+1,(i,_)::r=>(match tkZ n r with
  | some l=>some (i::l)
  | none=>none)
 | _,[]=>none
def M2:List AV->List Nat->Option (List Nat)
 | [],_=>some []
 | .ptr i _::r,s=>(match s.any (Nat.beq i) with
  | true=>M2 r s
  | false=>(match M2 r (i::s) with
   | some l=>some (i::l)
   | none=>none))
 | .p _::r,s=>M2 r s
 | _::_,_=>none
def idsO (sl:List (Nat×AV))(o:Oper):Option (List Nat):=match o.op with
 | .call c=>(match kW sl c.args.toList with
  | some l=>M2 l []
  | none=>none)
 | _=>none
def gdS (ops:Array Oper)(o:Oper):Option Nat:=match o.guard with
 | some (j,_)=>(ops.toList[j]?).bind (·.dst)
 | none=>none
def biK (o:Oper)(kn:List (Nat×AV)):Option (BinOp×AV×AV):=match o.op with
 | .binOp op _ x y _=>(match evo kn x with
  | some X=>(match evo kn y with
   | some Y0z=>some (op,X,Y0z)
   | none=>none)
  | none=>none)
 | _=>none
theorem DL:∀ {b:List (Nat×AV)},nodupB (b.map (·.1))=true->∀ {p},p∈b->look b p.1=some p.2
 | [],_,p,hp=>by simp at hp
 | (i,x)::r,h,p,hp=>by
  simp only [dg,nodupB,n8,Bool.not_eq_true'] at h;rcases ro.1 hp with rfl|hp
  ·rw [aZ,if_pos rfl]
  ·rw [aZ,if_neg ?_]
   ·exact DL h.2 hp
   ·intro e;have h1:=h.1;rw [List.any_eq_false] at h1;exact h1 p.1 (List.mem_map.2 ⟨p,hp,rfl⟩) (by simp [e])
def rgG (C:Cx)(ops:Array Oper):List Oper->Nat->List (Nat×AV)->List (Nat×List AV)->Option (List Nat×List (List (Nat×List AV)))
 | [],_,_,_=>some ([],[])
 | o::r,k,sl,ob=>(match o.dst with
  | some d=>(match oV C ops o sl ob with
   | some y=>rgG C ops r (k+1) ((d,y)::sl) ob
   | none=>(match biK o sl with
    | some (op,.p (.val (.int .i64 x)),.p (.val (.int .i64 y)))=>(match arI op x y with
     | some c=>rgG C ops r (k+1) ((d,.p (eI c))::sl) ob
     | none=>none)
    | _=>none))
  | none=>(match stV C o sl ob with
   | some ob'=>(match rgG C ops r (k+1) sl ob' with
    | some (im,Uz)=>some (k::im,ob'::Uz)
    | none=>none)
   | none=>none))
def NZ (A:List (Nat×List AV)):List (List (Nat×List AV))->Nat->List (Nat×List AV)|_,0=>A|[],_+1=>A|x::r,n+1=>NZ x r n
section
variable {C:Cx} {Q:Exit->AS->Prop} {K:AS->Prop} {k:List Fr} {sl b:List (Nat×AV)} {ob:List (Nat×List AV)} {ops:Array Oper} {r:List Oper} {o:Oper} {d:Nat}
def goOn:Ct->List Fr->Bool|.ex _,[]=>false|.ex .normal,.jo _::_=>false|.ex (.exit i),.je id _::_=>!(Nat.beq i id)|_,_=>true
theorem nxg (n:Nat){c:Ct}{s:AS}{c':Cf}(_:goOn c k=true)(h:run C n ⟨c,k,s⟩=some c')(hM:M C Q c'):M C Q ⟨c,k,s⟩:=nx n h hM
theorem mDa {id:Nat}(hn:tQ [] sl=some b)(e:(C.P.follows .mixedOrders,ops.toList.all (λ o=>o.dst.isSome),(ops.toList.zipIdx.all λ p=>p.1.after.toList.all λ e=>!(Region.binds .any e)||Nat.blt e.on p.2))=(true,true,true))
  (h:DQ C ops b ob (λ s'=>M C Q ⟨.ex .normal,k,s'⟩) ops.toList 0 []):M C Q ⟨.cd (.region id ops true),k,⟨sl,ob⟩⟩:=by
 simp only [wr] at e;exact mD b e.1 (Ai hn) e.2.2 h
theorem mA {id:Nat}{im:List Nat}{Uz:List (List (Nat×List AV))}{Z0z:Prop}(hn:tQ [] sl=some b)(hr:rgG C ops ops.toList 0 b ob=some (im,Uz))
  (e:(C.P.follows .mixedOrders,nodupB (b.map (·.1)),nodupB im,im.all (λ i=>Nat.blt i ops.size),chainB ops im,(ops.toList.zipIdx.all λ p=>p.1.after.toList.all λ e=>!(Region.binds .any e)||Nat.blt e.on p.2))=(true,true,true,true,true,true)) (z:Z0z)
  (h:Z0z->DS C ops ⟨im.length,im,λ _=>.none,λ _=>b,NZ ob Uz⟩ (λ rev=>M C Q ⟨.ex .normal,k,⟨dD rev im.length++b,NZ ob Uz im.length⟩⟩) ops.toList 0 []:=by
   intro z
   repeat first|exact eT z|refine dPc _ Z ?_|refine dS Z ?_|refine dPn Z Z ?_|refine dPx Z ?_|refine dPy (λ _=>_) Z Z ?_|refine dPa Z Z (by assumption) Z ?_):M C Q ⟨.cd (.region id ops true),k,⟨sl,ob⟩⟩:=by
 simp only [wr] at e;obtain ⟨e1,e0,e2,e3,e4,e5⟩:=e;exact mS ⟨im.length,im,λ _=>.none,λ _=>b,NZ ob Uz⟩ e1 rfl (by cases Uz <;> rfl) (Ai hn) (λ j _=>base_of λ p hp=>DL e0 hp) e2 e3 e4 e5 (h z)
theorem cVa {ids:List Nat}{f:FuncId}{args:Array Operand}{ts:Array TypeId}{l q:List AV}{Uz qo rob ob':List (Nat×List AV)}{r r':AV}(hc:co C.P f q qo (λ x y=>x=r/\y=rob))(henter:∀ vs w,(callFunc f vs).run C.P w=.ok (.enter f vs) w)
  (_hi:idsO sl o=some ids)
  (e:(o.op,o.dst,Nat.blt d C.n,kW sl args.toList,AV.mapA.go (kZ ids []) l,iA ob ids,il (kZ ids []) Uz,lkM qo qo,nodupB ids,ids.all (λ i=>Nat.blt i (2*M1)),Nat.ble ids.length M1,Nat.ble 101000 M1,ids.all (λ i=>!(cp [] 101000 101000 i)),nodupB [],([]:List Nat).all (λ i=>Nat.blt i M1),Nat.ble ([]:List Nat).length 100000,r.mapA (kM ids 101000 101000),il (kM ids 101000 101000) rob)=(.call { callee:=.value (.func f),args:=args,argTypes:=ts },some d,true,some l,some q,some Uz,some qo,smM qo,true,true,true,true,true,true,true,true,some r',some ob'))
  (hK:K ⟨(d,r')::(dG (cp [] 101000 101000) ⟨sl,ob⟩).sl,ob'++(dG (cp [] 101000 101000) ⟨sl,ob.filter λ p=>!(ids.any (Nat.beq p.1))⟩).ob⟩):bc C o K ⟨sl,ob⟩:=cVq ids [] 101000 101000 hc henter e hK
variable {p:Prop} [Decidable p] {α:Type} {x y:Option α} {v:α} {T:List Nat} {c:Ct} {q:Bool}
theorem fDn (n:Nat)(h:(if p then x else y)=some v)(_hn:tkZ n sl=some T)(hT:lks sl T=some (T.map λ _=>.p (.val (.bool (decide p)))))
  (h1:p->x=some v->M C Q ⟨c,k,⟨stB true sl T,ob⟩⟩) (h2:¬p->y=some v->M C Q ⟨c,k,⟨stB false sl T,ob⟩⟩):M C Q ⟨c,k,⟨sl,ob⟩⟩:=fD T h hT h1 h2
theorem fNn (n:Nat)(h:(if p then x else y)=some v)(_hn:tkZ n sl=some T)(hT:lks sl T=some (T.map λ _=>.p (.val (.bool (!decide p)))))
  (h1:p->x=some v->M C Q ⟨c,k,⟨stB false sl T,ob⟩⟩) (h2:¬p->y=some v->M C Q ⟨c,k,⟨stB true sl T,ob⟩⟩):M C Q ⟨c,k,⟨sl,ob⟩⟩:=fN T h hT h1 h2
theorem fBn (n:Nat)(h:(if q=true then x else y)=some v)(_hn:tkZ n sl=some T)(hT:lks sl T=some (T.map λ _=>.p (.val (.bool q))))
  (h1:q=true->x=some v->M C Q ⟨c,k,⟨stB true sl T,ob⟩⟩) (h2:q=false->y=some v->M C Q ⟨c,k,⟨stB false sl T,ob⟩⟩):M C Q ⟨c,k,⟨sl,ob⟩⟩:=fB T h hT h1 h2
def Nf (ops:Array Oper):Ct->Option (List Nat)
 | .cd (.cond (.tmp t) _ _)=>some [t]
 | .op _ (o::_)=>(match gdS ops o with
  | some t=>some [t]
  | none=>none)
 | _=>none
def NM:Ct->Array Oper|.op ops _=>ops|_=>#[]
theorem fDc (h:(if p then x else y)=some v)(_hn:Nf (NM c) c=some T)(hT:lks sl T=some (T.map λ _=>.p (.val (.bool (decide p)))))
  (h1:p->x=some v->M C Q ⟨c,k,⟨stB true sl T,ob⟩⟩) (h2:¬p->y=some v->M C Q ⟨c,k,⟨stB false sl T,ob⟩⟩):M C Q ⟨c,k,⟨sl,ob⟩⟩:=fD T h hT h1 h2
theorem fNc (h:(if p then x else y)=some v)(_hn:Nf (NM c) c=some T)(hT:lks sl T=some (T.map λ _=>.p (.val (.bool (!decide p)))))
  (h1:p->x=some v->M C Q ⟨c,k,⟨stB false sl T,ob⟩⟩) (h2:¬p->y=some v->M C Q ⟨c,k,⟨stB true sl T,ob⟩⟩):M C Q ⟨c,k,⟨sl,ob⟩⟩:=fN T h hT h1 h2
theorem fBc (h:(if q=true then x else y)=some v)(_hn:Nf (NM c) c=some T)(hT:lks sl T=some (T.map λ _=>.p (.val (.bool q))))
  (h1:q=true->x=some v->M C Q ⟨c,k,⟨stB true sl T,ob⟩⟩) (h2:q=false->y=some v->M C Q ⟨c,k,⟨stB false sl T,ob⟩⟩):M C Q ⟨c,k,⟨sl,ob⟩⟩:=fB T h hT h1 h2
theorem lTc {q b:Bool}{t:Nat}(_hn:Nf (NM c) c=some [t])(hT:look sl t=some (.p (.val (.bool q))))(hb:q=b)(h:M C Q ⟨c,k,⟨stB b sl [t],ob⟩⟩):M C Q ⟨c,k,⟨sl,ob⟩⟩:=lT [t] hb (by simp only [lks,hT,dg,List.map_nil]) h
end
section
variable {C:Cx} {Q:Exit->AS->Prop} {k:List Fr} {sl K1:List (Nat×AV)} {ob K2:List (Nat×List AV)} {c:Code} {σ:Type}
theorem kA (w:σ)(f:σ->List (Nat×AV))(g:σ->List (Nat×List AV))(_e1:∀ v,tQ ((f v).map (·.1)) sl=some K1)(_e2:∀ v,tQ ((g v).map (·.1)) ob=some K2)(h2:M C Q ⟨.ex .normal,k,⟨f w++K1,g w++K2⟩⟩)
  (h1:M C Q ⟨.cd c,.jo (λ t=>∃ v,w=v/\t=⟨f v++K1,g v++K2⟩)::k,⟨sl,ob⟩⟩):M C Q ⟨.cd c,k,⟨sl,ob⟩⟩:=kN w (λ v=>⟨f v++K1,g v++K2⟩) h2 h1
theorem hP {P:Program}{tt:List (Nat×TI)}{β:Type}(good:cS P tt){fi:FuncId}{fn:Func}{args:List PV}{h:β->Prop}{mk:β->AV}(hf:P.funcs[fi]? = some fn)(hb:fn.body=some c)(hn:(Nat.ble args.length fn.ntmps,Nat.ble fn.ntmps M1)=(true,true))
  (H:∀ r,h r->∀ hnl w0,M ⟨P,tt,good,fn.ntmps,hnl,w0,λ b=>b<w0.w.heap.size⟩ (λ e s=>∃ v,v=r/\zY tt fn (λ x=>x.sub (mk v)) e s) ⟨.cd c,[],⟨rH args,[]⟩⟩):∀ r,HP (h r) P fi args (mk r) :=
 λ r=>⟨λ h0=>LL good hf hb (Prod.mk.inj hn).1 (Prod.mk.inj hn).2 λ w0=>mP mk (H r h0 _ w0)⟩
theorem hO {P:Program}{tt:List (Nat×TI)}{β:Type}(good:cS P tt)(ts ids:List Nat){fi:FuncId}{fn:Func}{args:List AV}{Uz:List (Nat×List AV)}{h:β->Prop}{mk:β->AV}{mo:β->List (Nat×List AV)}(hf:P.funcs[fi]? = some fn)(hb:fn.body=some c)
  (hn:(Nat.ble args.length fn.ntmps,Nat.ble fn.ntmps M1,ts.all (λ i=>Nat.blt i M1),nodupB ts)=(true,true,true,true))
  (H:∀ r,h r->∀ hnl w0 F,M ⟨P,tt,good,fn.ntmps,hnl,w0,F⟩ (λ e s=>∃ v,v=r/\vE ⟨P,tt,good,fn.ntmps,hnl,w0,F⟩ tt fn ts ids (mk v) (mo v) e s) ⟨.cd c,[],⟨iu args,Uz⟩⟩):∀ r,HO (h r) P fi args Uz (mk r) (mo r):=by
 simp only [wr] at hn;exact λ r=>⟨λ h0=>sw good ts ids hf hb hn.1 hn.2.1 hn.2.2.1 hn.2.2.2 λ w0 F=>mPo mk mo (H r h0 _ w0 F)⟩
end
theorem Kk {C:Cx}{ops:Array Oper}{ob:List (Nat×List AV)}{o:Oper}{kn:List (Nat×AV)}{d:Nat}{op:BinOp}{x y c:Int}(hg:o.guard=none)(hd:o.dst=some d)(hn:Nat.blt d C.n=true)(h:biK o kn=some (op,.p (.val (.int .i64 x)),.p (.val (.int .i64 y))))(hc:arI op x y=some c)(hr:inR c):pJ C ops ob o kn d (.p (eI c)):=by
 unfold biK at h;split at h
 ·rename_i op' t X Y0z t' ho;split at h
  ·rename_i X' hx;split at h
   ·rename_i Y' hy
    cases h
    exact λ sl hs K hK=>ap hg (fM ho hd hn (jh hs hx) (jh hs hy) hc hr hK)
   ·cases h
  ·cases h
 ·cases h
section
variable {C:Cx} {ops:Array Oper} {S:eY} {K:fQ->Prop} {K2:AS->Prop} {o:Oper} {k d:Nat} {rev:fQ} {op:BinOp} {x y c:Int}
def arL (ops:Array Oper)(S:eY)(o:Oper)(k:Nat)(rev:fQ)(z:BinOp×AV×AV):Nat->List (Option (BinOp×AV×AV))
 | 0=>[]
 | j+1=>(match nG ops S.imp o k j with
  | true=>biK o (uy (S.bas j) o rev j (opR o))
  | false=>some z)::arL ops S o k rev z j
def arE (z:BinOp×AV×AV):Nat->List (Option (BinOp×AV×AV))|0=>[]|j+1=>some z::arE z j
theorem Hl (hg:o.guard=none)(hd:o.dst=some d)(hn:Nat.blt d C.n=true)(hc:arI op x y=some c)(hr:inR c):∀ {m:Nat},arL ops S o k rev (op,.p (.val (.int .i64 x)),.p (.val (.int .i64 y))) m=arE (op,.p (.val (.int .i64 x)),.p (.val (.int .i64 y))) m->Stg C ops S o k rev d (λ _=>.p (eI c)) m
 | 0,_=>trivial
 | j+1,h=>by
  have h1:=(qr h).1;refine ⟨λ ha=>?_,Hl hg hd hn hc hr (qr h).2⟩;rw [ha] at h1;exact ⟨_,lC _,Kk hg hd hn h1 hc hr⟩
theorem dPa {rest:List Oper}(e:(o.dst,S.imp.findIdx? (Nat.beq k),o.guard,(rev.all λ p=>!(Nat.beq p.2.1 d)),Nat.blt d C.n,cL S d S.m,(λ j=>look (S.bas (j+S.m)) d),arL ops S o k rev (op,.p (.val (.int .i64 x)),.p (.val (.int .i64 y))) (S.m+1))=(some d,none,none,true,true,nL S.m,(λ _=>none),arE (op,.p (.val (.int .i64 x)),.p (.val (.int .i64 y))) (S.m+1)))
  (hc:arI op x y=some c) (hr:inR c) (ht:aL (λ _=>.p (eI c)) S.m=bL S (λ _=>.p (eI c)) S.m) (h:DS C ops S K rest (k+1) ((k,d,λ _=>.p (eI c))::rev)):DS C ops S K (o::rest) k rev:=by
 simp only [wr] at e;obtain ⟨e1,e2,e3,e4,e5,e6,e7,e8⟩:=e;exact jU (λ _=>.p (eI c)) e2 e1 e4 (tp e6 e7) (uW ht) (Hl e3 e1 e5 hc hr e8) h
theorem dqa {base:List (Nat×AV)}{ob:List (Nat×List AV)}{rest:List Oper}{rev:Rev}(hn:nwF base rev o=some d)(e:(o.guard,Nat.blt d C.n,biK o (knL base o rev (tms o)))=(none,true,some (op,.p (.val (.int .i64 x)),.p (.val (.int .i64 y)))))
  (hc:arI op x y=some c) (hr:inR c) (h:DQ C ops base ob K2 rest (k+1) ((k,d,.p (eI c))::rev)):DQ C ops base ob K2 (o::rest) k rev:=by
 simp only [wr] at e;obtain ⟨e1,e2,e3⟩:=e;exact yu _ _ yL (Kk e1 (np hn).1 e2 e3 hc hr) (np hn).1 (np hn).2.1 (np hn).2.2 h
end
section
variable {C:Cx} {ops:Array Oper} {S:eY} {K:fQ->Prop} {o:Oper} {k d:Nat} {rev:fQ} {kn:List (Nat×AV)} {rest:List Oper}
def knA (ops:Array Oper)(S:eY)(o:Oper)(k:Nat)(rev:fQ)(R:List Nat)(kn:List (Nat×AV)):Nat->List (List (Nat×AV))
 | 0=>[]
 | j+1=>(match nG ops S.imp o k j with
  | true=>uy (S.bas j) o rev j R
  | false=>kn)::knA ops S o k rev R kn j
def knE (kn:List (Nat×AV)):Nat->List (List (Nat×AV))|0=>[]|j+1=>kn::knE kn j
theorem GE {y:AV}{R:List Nat}(hs:∀ ob,pJ C ops ob o kn d y):∀ {m:Nat},knA ops S o k rev R kn m=knE kn m->Stg C ops S o k rev d (λ _=>y) m
 | 0,_=>trivial
 | j+1,h=>by
  have h1:=(qr h).1;refine ⟨λ ha=>?_,GE hs (qr h).2⟩;rw [ha] at h1;have h1:uy (S.bas j) o rev j R=kn:=h1;exact ⟨kn,h1 ▸ lC R,hs _⟩
theorem dO (y:AV)(R:List Nat)(e:(o.dst,S.imp.findIdx? (Nat.beq k),(rev.all λ p=>!(Nat.beq p.2.1 d)),cL S d S.m,(λ j=>look (S.bas (j+S.m)) d),aL (λ _=>y) S.m,knA ops S o k rev R kn (S.m+1))=(some d,none,true,nL S.m,(λ _=>none),bL S (λ _=>y) S.m,knE kn (S.m+1)))
  (hs:∀ ob,pJ C ops ob o kn d y) (h:DS C ops S K rest (k+1) ((k,d,λ _=>y)::rev)):DS C ops S K (o::rest) k rev:=by
 simp only [wr] at e;obtain ⟨e1,e2,e3,e4,e5,e6,e7⟩:=e;exact jU (λ _=>y) e2 e1 e3 (tp e4 e5) (uW e6) (GE hs e7) h
def ivL (v:Nat->AV)(i:Nat):Nat->List (Option AV)
 | 0=>[]
 | j+1=>(match Nat.blt i j with
  | true=>some (v (j+1))
  | false=>none)::ivL v i j
def ibL (S:eY)(v:Nat->AV)(i:Nat):Nat->List (Option AV)
 | 0=>[]
 | j+1=>(match Nat.blt i j with
  | true=>some (trA (S.D j) (v j))
  | false=>none)::ibL S v i j
theorem Jm {v:Nat->AV}{i:Nat}:∀ {m:Nat},ivL v i m=ibL S v i m->∀ j,j<m->i<j->v (j+1)=trA (S.D j) (v j)
 | 0,_,j,h,_=>absurd h (Nat.not_lt_zero _)
 | m+1,h,j,hj,hi=>by
  by_cases e:j=m
  ·subst e;have h1:=(qr h).1;have hb:Nat.blt i j=true:=by simp only [py]; exact hi
   rw [hb] at h1;exact Option.some.inj h1
  ·exact Jm (qr h).2 j O hi
theorem dI {i:Nat}(v:Nat->AV)(R:List Nat)(e:(S.imp.findIdx? (Nat.beq k),o.dst,(rev.all λ p=>!(Nat.beq p.2.1 d)),cL S d S.m,(λ j=>look (S.bas (j+S.m)) d),ivL v i S.m,uy (S.bas i) o rev i R)=(some i,some d,true,nL S.m,(λ _=>none),ibL S v i S.m,kn))
  (Uv:∀ sl,(∀ i x,look kn i=some x->look sl i=some x)->∀ K:AS->Prop,K ⟨(d,v (i+1))::trL (S.D i) sl,S.obj (i+1)⟩->One C ops o K ⟨sl,S.obj i⟩) (h:DS C ops S K rest (k+1) ((k,d,v)::rev)):DS C ops S K (o::rest) k rev:=by
 simp only [wr] at e;obtain ⟨e1,e2,e3,e4,e5,e6,e7⟩:=e;exact ra v kn e1 (e7 ▸ lC R) e2 e3 (λ j=>tp e4 e5 _) (Jm e6) Uv h
end
class Jn (n:Nat) (σ:outParam Type) (f:outParam (σ->List (Nat×AV))) (g:outParam (σ->List (Nat×List AV))):Prop where
 t:True
class Js (l:outParam (List Nat)):Prop where
 t:True
instance js0:Js []:=⟨trivial⟩
theorem js (l:List Nat):Js l:=⟨trivial⟩
theorem jB (n:Nat)(σ:Type)(f:σ->List (Nat×AV))(g:σ->List (Nat×List AV)):Jn n σ f g:=⟨trivial⟩
theorem jS (n:Nat)(σ:Type)(f:σ->List (Nat×AV)):Jn n σ f (λ _=>[]):=⟨trivial⟩
theorem jO (n:Nat)(σ:Type)(g:σ->List (Nat×List AV)):Jn n σ (λ _=>[]) g:=⟨trivial⟩
def F7:Code->Option Nat
 | .seq x _=>(match F7 x with|some n=>some (n+1)|none=>none)
 | .block id _=>some (100*id+50)
 | .region id _ _=>some (100*id)
 | .cond _ x _=>(match F7 x with|some n=>some (n+20)|none=>none)
 | .loop x=>(match F7 x with|some n=>some (n+10)|none=>none)
 | .scope x=>(match F7 x with|some n=>some (n+5)|none=>none)
 | _=>none
def topJ:List Fr->Bool|.jo _::_=>true|.je _ _::_=>true|_=>false
def atJ (l:List Nat):Ct->Bool
 | .cd c=>(match F7 c with|some n=>l.any (Nat.beq n)|none=>false)
 | _=>false
def OC (C:Cx)(l:List Nat):Nat->Cf->Option Cf
 | 0,c=>some c
 | n+1,c=>(match stp C c with
  | some c'=>(match atJ l c'.c with|true=>some c'|false=>OC C l n c')
  | none=>none)
theorem Em {C:Cx}{Q:Exit->AS->Prop}{l:List Nat}:∀ (n:Nat) {c c':Cf},OC C l n c=some c'->M C Q c'->M C Q c
 | 0,c,c',h,hM=>by cases h; exact hM
 | n+1,c,c',h,hM=>by
  unfold OC at h;split at h
  ·rename_i c1 h1;split at h
   ·cases h; exact Cd h1 hM
   ·exact Cd h1 (Em n h hM)
  ·cases h
section
variable {C:Cx} {Q:Exit->AS->Prop} {k:List Fr} {sl K1:List (Nat×AV)} {ob K2:List (Nat×List AV)} {c:Code} {σ β:Type}
theorem nxj (n:Nat){l:List Nat} [Js l] {c:Ct}{s:AS}{c':Cf}(_:goOn c k=true)(h:OC C l n ⟨c,k,s⟩=some c')(hM:M C Q c'):M C Q ⟨c,k,s⟩:=Em n h hM
theorem kJ {p:Option σ}{F:σ->Option β}{v:β}{n:Nat}{f:σ->List (Nat×AV)}{g:σ->List (Nat×List AV)}(h:p.bind F=some v)(_:F7 c=some n)(_:topJ k=false) [Jn n σ f g] (e1:∀ v,tQ ((f v).map (·.1)) sl=some K1)(e2:∀ v,tQ ((g v).map (·.1)) ob=some K2)
  (H2:∀ o,F o=some v->M C Q ⟨.ex .normal,k,⟨f o++K1,g o++K2⟩⟩) (H1:∀ o,p=some o->M C Q ⟨.cd c,.jo (λ t=>∃ v,o=v/\t=⟨f v++K1,g v++K2⟩)::k,⟨sl,ob⟩⟩):M C Q ⟨.cd c,k,⟨sl,ob⟩⟩:=by
 obtain ⟨o,h1,h2⟩:=Lh h;exact kA o f g e1 e2 (H2 o h2) (H1 o h1)
end
theorem U {p:Prop}(h:p:=by
 repeat' first
  | exact sr
  | exact True.intro
  | exact .inl Z
  | exact .inr ⟨Z,Z⟩
  | exact jr _
  | exact AV.sub_nilvec _ _ _
  | exact AV.sub_vec _ _ _ _
  | exact er Z
  | exact ⟨_,Z,aR _⟩
  | refine kf ?_
  | refine lh ?_
  | refine Kh ?_
  | refine ⟨_,Z,?_⟩
  | refine ⟨?_,?_⟩):p:=h
theorem Zr {p:Prop}(h:p:=by
 repeat' first
  | exact ⟨λ h=>by cases h⟩
  | refine ⟨?_,?_⟩
  | refine λ _=>?_):p:=h
theorem J0 {p:Prop}(h:p:=by
 repeat' first
  | refine kJ h0 Z Z Y Y (λ o h0=>?_) λ o h0=>?_
  | refine nxj 12 Z Z ?_
  | refine nxj 4 Z Z ?_
  | refine nxj 1 Z Z ?_
  | exact eX _ (oi h0).symm (gE Z Z)
  | exact mQ (oi h0) Z U
  | exact mQoq h0 Z
  | exact mQo (oi h0) (aU _) Z Z Z Z U U
  | exact eXi _ (oi h0).symm (gE Z Z)
  | exact eX _ h0 (gE Z Z)
  | exact eX ⟨_,_⟩ h0 (gE Z Z)
  | exact eX ⟨_,_,_⟩ h0 (gE Z Z)
  | exact eX ⟨_,_,_,_⟩ h0 (gE Z Z)
  | exact eX ⟨_,_,_,_,_⟩ h0 (gE Z Z)
  | exact eX ⟨_,_,_,_,_,_⟩ h0 (gE Z Z)
  | exact eX ⟨_,_,_,_,_,_,_⟩ h0 (gE Z Z)
  | exact eX ⟨_,_,_,_,_,_,_,_⟩ h0 (gE Z Z)
  | exact eX ⟨_,_,_,_,_,_,_,_,_⟩ h0 (gE Z Z)
  | exact eX ⟨_,_,_,_,_,_,_,_,_,_,_,_,_,_,_,_⟩ h0 (gE Z Z)
  | exact eX ⟨_,_,_,_,_,_,_,_,_,_,_,_,_,_,_,_,_⟩ h0 (gE Z Z)
  | exact eX _ (oi h0).symm (d3 (ma U U))
  | exact eXi _ (oi h0).symm (d3 (ma U U))
  | exact mQ (hR0 _ (oi h0).symm) Z U
  | exact mQoq (congrArg some (hR0 _ (oi h0).symm)) Z
  | exact mQ (hR0 _ (hR1 _ (oi h0).symm).symm) Z U
  | exact mQn (oi h0) Z U
  | exact M7 (oi h0) (aU _) Z Z Z Z U U
  | exact mQo (oi h0) (aU _) Z Z Z (ay Z (aA _) Z) U U
  | refine oS Z Z ?_
  | refine oLs Z ?_
  | refine oLl Z Z ?_
  | refine oA h0 Z Z λ hk h0=>?_
  | refine oI h0 rfl λ hk h0=>?_
  | refine oP h0 Z Z Z λ hk h0=>?_
  | refine oC h0 rfl λ hk h0=>?_
  | refine oE h0 HC.c Z Z Y λ hk h0=>?_
  | refine bd h0 λ r e h0=>oK (HP.c e) Z U HE.e Z ?_
  | refine bd h0 λ r e h0=>mO Z (cVa (HO.c e) HE.e Z Z ?_)
  | refine fBn 3 h0 Z Z (λ c h0=>?_) λ c h0=>?_
  | refine fBn 2 h0 Z Z (λ c h0=>?_) λ c h0=>?_
  | refine fBn 1 h0 Z Z (λ c h0=>?_) λ c h0=>?_
  | refine fBc h0 Z Z (λ c h0=>?_) λ c h0=>?_
  | refine fDn 4 h0 Z Z (λ c h0=>?_) λ c h0=>?_
  | refine fDn 3 h0 Z Z (λ c h0=>?_) λ c h0=>?_
  | refine fDn 2 h0 Z Z (λ c h0=>?_) λ c h0=>?_
  | refine fDn 1 h0 Z Z (λ c h0=>?_) λ c h0=>?_
  | refine fDc h0 Z Z (λ c h0=>?_) λ c h0=>?_
  | refine fNn 3 h0 Z Z (λ c h0=>?_) λ c h0=>?_
  | refine fNn 2 h0 Z Z (λ c h0=>?_) λ c h0=>?_
  | refine fNn 1 h0 Z Z (λ c h0=>?_) λ c h0=>?_
  | refine fNc h0 Z Z (λ c h0=>?_) λ c h0=>?_
  | refine lTc Z Z (by first|exact dt ‹_› | exact df ‹_› | assumption) ?_
  | refine mDa Z Z ?_
  | refine dE Z ?_
  | refine dR 4 Z ?_
  | refine dR 1 Z ?_
  | refine dqa Z Z Z (by assumption) ?_
  | refine mA Z Z Z ?_
  | refine dPc _ Z ?_
  | refine dS Z ?_
  | refine dPn Z Z ?_
  | refine dPx Z ?_
  | refine dPa Z Z (by assumption) Z ?_
  | refine eT ?_
  | refine cc' h0 λ hk h0=>?_
  | replace h0:=Q9 Z h0
  | replace h0:=if_f (by decide) h0):p:=h
theorem K0 {p Z0z:Prop}(z:Z0z)(h:Z0z->p:=by
 intro z
 first
  | refine bd h0 λ r e h0=>oK (HP.c e) Z U HE.e Z ?_
  | refine bd h0 λ r e h0=>mO Z (cVa (HO.c e) HE.e Z Z ?_)
 clear e
 revert r
 exact z):p:=h z
theorem K1 {p Z0z:Prop}(z:Z0z)(h:Z0z->p:=by
 intro z
 first
  | refine bd h1 λ r e h1=>oK (HP.c e) Z U HE.e Z ?_
  | refine bd h1 λ r e h1=>mO Z (cVa (HO.c e) HE.e Z Z ?_)
 clear e
 revert r
 exact z):p:=h z
theorem K2 {p Z0z:Prop}(z:Z0z)(h:Z0z->p:=by
 intro z
 first
  | refine bd h2 λ r e h2=>oK (HP.c e) Z U HE.e Z ?_
  | refine bd h2 λ r e h2=>mO Z (cVa (HO.c e) HE.e Z Z ?_)
 clear e
 revert r
 exact z):p:=h z
end Go.Ab
end
section
namespace Go.Ab.R06
open Go.Proofs Go.Ab Go.Ab.RB
instance hc14_0:HC eS (λ x=>[eS x]):=⟨λ _=>rfl⟩
instance hc14_1:HC ak ac.cs:=⟨ac.It⟩
instance hc14_2:HC db am.cs:=⟨am.It⟩
instance hc14_3:HC aB ab.cs:=⟨ab.It⟩
instance hc14_4 (s:Bk) (c r:Int):HP (strings_IndexByte s c=some r) Tryz.prog 85 [eS s,eK .u8 c] (.p (eI r)):=⟨lY s c r⟩
instance hc14_5 (s p:Bk) (r:Bool):HP (strings_HasPrefix s p=some r) Tryz.prog 75 [eS s,eS p] (.p (eB r)):=⟨dk s p r⟩
instance hc14_6 (a:Int) (r:Bool):HP (cD a=some r) Tryz.prog 206 [eK .i32 a] (.p (eB r)):=⟨nJ a r⟩
instance hc14_8 (s:Bk) (r:Bool):HP (dN s=some r) Tryz.prog 204 [eS s] (.p (eB r)):=⟨mz s r⟩
instance hc14_9 (s p:Bk) (r:Bool):HP (strings_Contains s p=some r) Tryz.prog 90 [eS s,eS p] (.p (eB r)):=⟨qB s p r⟩
variable {p:Prop}
theorem yk (h:p:=by
  exact nx 4 Z (eX _ (oi h3).symm (gE Z Z))):p:=h
theorem bP (h:p:=by
  have h0:=h2
  exact J0):p:=h
theorem mi (h:p:=by
  exact nx 2 Z (eX _ (oi h3).symm (gE Z Z))):p:=h
theorem fR (h:p:=by
  have h0:=UV _ hv
  exact J0):p:=h
theorem az (h:p:=by
  have h0:=h1
  exact J0):p:=h
theorem IC (h:p:=by
  refine nx 6 Z (fD [7,8] h0 Z (λ c2 h0=>?_) λ c2 h0=>?_)
  ·refine nx 3 Z (mO Z (aK eS [([38,38]:Bk)] Z Z Z Z Z Z Z Z Z Z Z Z Z Z ?_));exact J0
  refine nx 6 Z (fD [10,11] h0 Z (λ c3 h0=>?_) λ c3 h0=>?_)
  ·refine nx 3 Z (mO Z (aK eS [([61,61]:Bk),([33,61]:Bk)] Z Z Z Z Z Z Z Z Z Z Z Z Z Z ?_));exact J0
  refine nx 6 Z (fD [13,14] h0 Z (λ c4 h0=>?_) λ c4 h0=>?_)
  ·refine nx 3 Z (mO Z (aK eS [([60]:Bk),([60,61]:Bk),([62]:Bk),([62,61]:Bk)] Z Z Z Z Z Z Z Z Z Z Z Z Z Z ?_));exact J0
  refine nx 6 Z (fD [16,17] h0 Z (λ c5 h0=>?_) λ c5 h0=>?_)
  ·refine nx 3 Z (mO Z (aK eS [([43]:Bk),([45]:Bk)] Z Z Z Z Z Z Z Z Z Z Z Z Z Z ?_));exact J0
  refine nx 4 Z (mO Z (aK eS [([42]:Bk),([47]:Bk),([37]:Bk)] Z Z Z Z Z Z Z Z Z Z Z Z Z Z ?_))
  exact J0):p:=h
theorem kt (h:p:=by
  have:=js [100];have:=jS 100 Bool λ v=>[(2,.p (eB v))]
  exact J0):p:=h
theorem yc (h:p:=by
  exact nx 8 Z (eX _ (oi h3).symm (gE Z Z))):p:=h
theorem Cn (h:p:=by
  exact nx 5 Z (eX _ (oi h3).symm (gE Z Z))):p:=h
theorem GW (h:p:=by
  refine nx 3 Z (mO Z (aK eS [([124,124]:Bk)] Z Z Z Z Z Z Z Z Z Z Z Z Z Z ?_))
  exact J0):p:=h
theorem BS (h:p:=by exact oS Z Z (nx 2 Z (eX _ (oi h3).symm (gE Z Z)))):p:=h
theorem aC (h:p:=by exact bv O O):p:=h
theorem fS (h:p:=by exact eX _ (oi h1).symm (gE Z Z)):p:=h
theorem pZ (h:p:=by exact D1 (e _ _ Z)):p:=h
theorem sR (h:p:=by exact eX _ (oi h2).symm (gE Z Z)):p:=h
theorem uu (h:p:=by first|rfl|(simp only [dg,List.map_nil,ab.J']; done)|(simp only [dg,List.map_nil,ab.J']; rfl)):p:=h
theorem GD (h:p:=by exact nx 2 Z (eX _ (oi h3).symm (gE Z Z))):p:=h
theorem nw (h:p:=by exact eX _ (oi h3).symm (gE Z Z)):p:=h
theorem Ql (h:p:=by exact nx 1 Z (eX _ (oi h2).symm (gE Z Z))):p:=h
theorem fF (h:p:=by first|rfl|(simp only [dg,List.map_nil,ac.J']; done)|(simp only [dg,List.map_nil,ac.J']; rfl)):p:=h
attribute [local irreducible] awp hH bc bG co AV.sub M cO
instance S4:HE Tryz.prog 208:=⟨Tryz.call208⟩
instance Tw:HE Tryz.prog 171:=⟨Tryz.call171⟩
instance Tl:HE Tryz.prog 206:=⟨Tryz.call206⟩
instance TD:HE Tryz.prog 85:=⟨Tryz.call85⟩
instance SV:HE Tryz.prog 192:=⟨Tryz.call192⟩
instance Su:HE Tryz.prog 174:=⟨Tryz.call174⟩
instance SO:HE Tryz.prog 204:=⟨Tryz.call204⟩
def jz (Wa:Int):Option Bool :=(if (-9007199254740992)<=Wa then some (decide (Wa<=9007199254740992))else some false).bind λ t2=>some t2
instance Gx (Wa:Int):∀ (r:Bool),HP (jz Wa=some r) Tryz.prog 171 [eI Wa] (.p (eB r)):=by
 refine hP good Tryz.func171 Z Z λ r h0 _ w0=>?_;unfold jz at h0;exact kt
def ct (s7:Bk):Nat->Int->Option (Unit⊕Bool)|0,_=>none|m+1,Vl=>if Vl<(s7.length:Int) then(ck ((0:Int)<=Vl/\Vl<(s7.length:Int))<|if byt s7 Vl<48 then some true else ck ((0:Int)<=Vl/\Vl<(s7.length:Int))<|some (decide (57<byt s7 Vl))).bind λ t21=>if t21=true then some (.inr false)else ck (inR (Vl+1))<|ct s7 m (Vl+1)else some (.inl ())
def ic (n:Nat)(Mr:Bk):Option Bool :=jn ((if 0<(Mr.length:Int) then ck ((0:Int)<=0/\0<(Mr.length:Int))<|some (decide (byt Mr 0=45))else some false).bind λ t3=>if t3=true then ck ((0:Int)<=1/\1<=(Mr.length:Int)/\(Mr.length:Int)<=(Mr.length:Int))<|if sub Mr 1 (Mr.length:Int)=([48]:Bk) then some (.inr false)else some (.inl (sub Mr 1 (Mr.length:Int)))else some (.inl Mr) : Option (Bk⊕Bool)) λ s7=>jn (ct s7 n 0) λ _V'=>(if s7=([]:Bk) then some false else ck ((0:Int)<=0/\0<(s7.length:Int))<|if byt s7 0=48 then some (decide ((s7.length:Int)=1))else some true).bind λ t28=>some t28
instance A3 (n:Nat) (Mr:Bk):∀ (r:Bool),HP (ic n Mr=some r) Tryz.prog 208 [eS Mr] (.p (eB r)):=by
 refine hP good Tryz.func208 Z Z λ r h0 _ w0=>?_;unfold ic at h0;refine nx 5 rfl ?_;obtain ⟨o34,h1,UV,hR0⟩:=bo h0;refine kX (λ Ys:Bk=>o34=.inl Ys) (λ Ys=>⟨[(0,.p (eS Ys))],[]⟩) (λ Ys hv=>?_) ?_
 ·have h0:=UV _ hv;refine nx 5 rfl (oLs rfl (nx 3 rfl ?_));obtain ⟨o36,h1,UV,hR0⟩:=bo h0;refine kEx 0 (λ v37:Unit=>o36=.inl v37) (λ v37=>⟨[(0,.p (eS Ys))],[]⟩) (λ v37 hv=>?_) ?_
  ·have h0:=UV _ hv;have:=js [1100];have:=jS 1100 Bool λ v=>[(2,.p (eB v))]
   exact J0
  refine lG (λ (ZO:Int)=>⟨[(0,.p (eS Ys)),(17,.p (eI (Ys.length:Int))),(18,.p (eI ZO))],[]⟩) (λ m (ZO:Int)=>ct Ys m ZO) Y 0 h1 (gE rfl rfl) ?_;rintro m Vl h1;replace h1:ct Ys (m+1) Vl=some o36:=h1;rw [ct] at h1;have:=js [800];have:=jS 800 Bool λ v=>[(30,.p (eB v))]
  exact az
 have:=js [100];have:=jS 100 Bool λ v=>[(11,.p (eB v))]
 exact az
def kQ (n:Nat)(Mr:Bk):Option (Int×Int) :=(ic n Mr).bind λ r1=>if (!r1)=true then some (0,2)else(jy Mr 10 64).bind λ r4=>(if r4.2=true then some true else(jz r4.1).bind λ r7=>some (!r7)).bind λ t9=>if t9=true then some (0,5)else some (r4.1,0)
instance GA (n:Nat) (Mr:Bk):∀ (r:Int×Int),HP (kQ n Mr=some r) Tryz.prog 196 [eS Mr] (.tuple [.p (eI r.1),.p (eI r.2)]):=by
 refine hP good Tryz.func196 Z Z λ r h0 _ w0=>?_;unfold kQ at h0;refine nx 9 Z (K0 λ r1 h0=>nx 2 Z (fB [8] h0 Z (λ c3 h0=>?_) λ c3 h0=>?_))
 ·exact J0
 refine nx 5 Z (bd h0 λ r4 e5 h0=>oK (qz Mr 10 64 _ e5) Z ⟨sr,sr,sr,trivial⟩ Tryz.call209 (FE (tJ Z (tJ (PC _) C6))) (nx 8 Z (bd h0 λ o12 h1 h0=>kN o12 (λ v13=>⟨[(4,.p (eI r4.1)),(20,.p (eB v13))],[]⟩) ?_ ?_)))
 ·exact J0
 refine nx 2 Z (mO Z (Rp Z Z Z Z Z Z (.inr ⟨Z,Z⟩) ?_));exact az
def cq (Mr:Bk):Nat->Int->Int->Option (Int×Int)|0,_,_=>none|m+1,n11,i12=>(if i12<(Mr.length:Int) then some (decide (i12<6))else some false).bind λ YY=>if YY=true then ck ((0:Int)<=i12/\i12<(Mr.length:Int))<|(strings_IndexByte ([48,49,50,51,52,53,54,55,56,57,97,98,99,100,101,102]:Bk) (byt Mr i12)).bind λ Wg=>if Wg<0 then some (n11,i12)else ck (inR (i12+1))<|cq Mr m (IntKind.wrap .i32 ((IntKind.wrap .i32 (16*n11))+(IntKind.wrap .i32 (Wg)))) (i12+1)else some (n11,i12)
def fe (n:Nat)(Mr:Bk):Option (Int×Int×Int) :=(cq Mr n 0 0).bind λ YR=>if YR.2=(Mr.length:Int) then some (0,0,40)else(ck ((0:Int)<=YR.2/\YR.2<(Mr.length:Int))<|if byt Mr YR.2=125 then if YR.2=0 then some true else if 1<YR.2 then ck ((0:Int)<=0/\0<(Mr.length:Int))<|if byt Mr 0=48 then some true else(cD YR.1).bind λ WO=>some (!WO)else(cD YR.1).bind λ UF=>some (!UF)else some true).bind λ t36=>if t36=true then some (0,0,2)else ck (inR (YR.2+1))<|some (YR.1,YR.2+1,0)
instance y3 (n:Nat) (Mr:Bk):∀ (r:Int×Int×Int),HP (fe n Mr=some r) Tryz.prog 192 [eS Mr] (.tuple [.p (eK .i32 r.1),.p (eI r.2.1),.p (eI r.2.2)]):=by
 refine hP good Tryz.func192 Z Z λ r h0 _ w0=>?_;unfold fe at h0;refine nx 13 Z (bd h0 λ YS h1 h0=>kE 0 YS (λ Xk=>⟨[(0,.p (eS Mr)),(5,.p (eK .i32 Xk.1)),(6,.p (eI Xk.2))],[]⟩) ?_ ?_)
 ·have:=js [900];have:=jS 900 Bool λ v=>[(54,.p (eB v))]
  exact J0
 refine lG (λ (WF:Int×Int)=>⟨[(0,.p (eS Mr)),(5,.p (eK .i32 WF.1)),(6,.p (eI WF.2))],[]⟩) (λ m (WF:Int×Int)=>cq Mr m WF.1 WF.2) Y (0,0) h1 (gE rfl rfl) ?_;rintro m ⟨n11,i12⟩ h1;replace h1:cq Mr (m+1) n11 i12=some YS:=h1;rw [cq] at h1;have:=js [200];have:=jS 200 Bool λ v=>[(15,.p (eB v))]
 exact az
def jL (n:Nat)(Mr:Bk):Option (Int×Int×Int) :=if Mr=([]:Bk) then some (0,0,40)else ck ((0:Int)<=0/\0<(Mr.length:Int))<|if byt Mr 0=110 then some (10,1,0)else if byt Mr 0=114 then some (13,1,0)else if byt Mr 0=116 then some (9,1,0)else(if byt Mr 0=34 then some true else some (decide (byt Mr 0=92))).bind λ t7=>if t7=true then ck ((0:Int)<=0/\0<(Mr.length:Int))<|some (IntKind.wrap .i32 (byt Mr 0),1,0)else if byt Mr 0=117 then if (Mr.length:Int)=1 then some (0,0,40)else ck ((0:Int)<=1/\1<(Mr.length:Int))<|if byt Mr 1=123 then ck ((0:Int)<=2/\2<=(Mr.length:Int)/\(Mr.length:Int)<=(Mr.length:Int))<|(fe n (sub Mr 2 (Mr.length:Int))).bind λ Uu=>ck (inR (Uu.2.1+2))<|some (Uu.1,Uu.2.1+2,Uu.2.2)else some (0,0,2)else some (0,0,2)
instance FT (n:Nat) (Mr:Bk):∀ (r:Int×Int×Int),HP (jL n Mr=some r) Tryz.prog 174 [eS Mr] (.tuple [.p (eK .i32 r.1),.p (eI r.2.1),.p (eI r.2.2)]):=by
 refine hP good Tryz.func174 Z Z λ r h0 _ w0=>?_;unfold jL at h0;have:=js [1001];have:=jS 1001 Bool λ v=>[(18,.p (eB v))]
 exact J0
def ew (n:Nat)(Mr:Bk):Nat->Int->(List UInt8)->Option ((Int×(List UInt8))⊕(Bk×Int×Int))|0,_,_=>none|m+1,at31,YT=>(if at31<(Mr.length:Int) then ck ((0:Int)<=at31/\at31<(Mr.length:Int))<|some (!decide (byt Mr at31=34))else some false).bind λ t35=>if t35=true then ck ((0:Int)<=at31/\at31<=(Mr.length:Int)/\(Mr.length:Int)<=(Mr.length:Int))<|(bn (sub Mr at31 (Mr.length:Int))).bind λ VI=>jn (if VI.1=92 then ck (inR (at31+1))<|ck ((0:Int)<=at31+1/\at31+1<=(Mr.length:Int)/\(Mr.length:Int)<=(Mr.length:Int))<|(jL n (sub Mr (at31+1) (Mr.length:Int))).bind λ We=>if We.2.2=0 then ck (inR (We.2.1+1))<|some (.inl (We.1,We.2.1+1))else some (.inr (.inr (([]:Bk),0,We.2.2)))else(if VI.1=65533 then if VI.2=1 then some true else if VI.1<32 then some true else some (decide (VI.1=127))else if VI.1<32 then some true else some (decide (VI.1=127))).bind λ t51=>if t51=true then some (.inr (.inr (([]:Bk),0,2)))else some (.inl (VI.1,VI.2)) : Option ((Int×Int)⊕((Int×(List UInt8))⊕(Bk×Int×Int)))) λ ZM=>(dB (bY.mk YT) ZM.1).bind λ U0=>ck (inR (at31+ZM.2))<|ew n Mr m (at31+ZM.2) U0.2.2.I' else some (.inl (at31,YT))
def ii (n:Nat)(Mr:Bk):Option (Bk×Int×Int) :=if Mr=([]:Bk) then some (([]:Bk),0,40)else ck ((0:Int)<=0/\0<(Mr.length:Int))<|if byt Mr 0=34 then jn (ew n Mr n 1 []) λ q69=>if q69.1=(Mr.length:Int) then some (([]:Bk),0,40)else(jH (bY.mk q69.2)).bind λ Ww=>if 4096<Ww.1 then some (([]:Bk),0,3)else(fY (bY.mk Ww.2.I')).bind λ Xc=>ck (inR (q69.1+1))<|some (Xc.1,q69.1+1,0)else some (([]:Bk),0,2)
instance EJ (n:Nat) (Mr:Bk):∀ (r:Bk×Int×Int),HP (ii n Mr=some r) Tryz.prog 158 [eS Mr] (.tuple [.p (eS r.1),.p (eI r.2.1),.p (eI r.2.2)]):=by
 refine hP good Tryz.func158 Z Z λ r h0 _ w0=>?_;unfold ii at h0;refine nx 10 Z (oS Z Z (nx 1 Z (fD [13] h0 Z (λ c1 h0=>?_) λ c1 h0=>?_)))
 ·exact J0
 refine nx 6 Z (oI h0 Z λ Wz h0=>nx 2 Z (fN [16] h0 Z (λ c3 h0=>?_) λ c3 h0=>?_))
 ·refine nx 4 rfl (mO rfl (Ga Z Z Z Z Z Z Z (nx 7 rfl ?_)));obtain ⟨o73,h1,UV,hR0⟩:=bo h0;refine kEx 0 (λ YU:Int×(List UInt8)=>o73=.inl YU) (λ YU=>⟨[(0,.p (eS Mr)),(5,.ptr 5 0),(6,.p (eI YU.1))],[(5,[.bptr 93 2 5,.vec 101000 1 (5+1) (YU.2.map eU)])]⟩) (λ YU hv=>?_) ?_
  ·have h0:=UV _ hv;refine nx 6 Z (oLs Z (nx 2 Z (fD [73] h0 Z (λ c62 h0=>?_) λ c62 h0=>?_)))
   ·exact J0
   refine nx 5 Z (bd h0 λ Ww e64 h0=>mO Z (aV [5] [101000] 103000 103001 (pw (bY.mk YU.2) _ e64) Z Z Z Z Z ⟨sr,trivial⟩ Z Z ⟨⟨_,Z,⟨sr,sr,trivial⟩⟩,trivial⟩ Z Z Z Z Z Z Z Z Tryz.call176 Z Z (nx 2 Z (fD [75] h0 Z (λ c65 h0=>?_) λ c65 h0=>?_))))
   ·exact J0
   exact nx 4 Z (bd h0 λ Xc e67 h0=>mO Z (aV [5] [103000] 104000 104000 (nN (bY.mk Ww.2.I') _ e67) Z Z Z Z Z ⟨sr,trivial⟩ Z Z ⟨⟨_,Z,⟨sr,sr,trivial⟩⟩,trivial⟩ Z Z Z Z Z Z Z Z Tryz.call59 Z Z J0))
  refine lG (λ (XU:Int×(List UInt8))=>⟨[(0,.p (eS Mr)),(5,.ptr 5 0),(6,.p (eI XU.1))],[(5,[.bptr 93 2 5,.vec 101000 1 (5+1) (XU.2.map eU)])]⟩) (λ m (XU:Int×(List UInt8))=>ew n Mr m XU.1 XU.2) Y (1,[]) h1 (d3 (ma ⟨er rfl,er rfl,er rfl,trivial⟩ ⟨⟨_,rfl,⟨sr,AV.sub_nilvec _ _ _,trivial⟩⟩,trivial⟩)) ?_;rintro m ⟨at31,YT⟩ h1;replace h1:ew n Mr (m+1) at31 YT=some o73:=h1;rw [ew] at h1;refine nx 2 rfl (bd h1 λ o76 h2 h1=>kN o76 (λ XQ=>⟨[(0,.p (eS Mr)),(5,.ptr 5 0),(6,.p (eI at31)),(26,.p (eB XQ))],[(5,[.bptr 93 2 5,.vec 101000 1 (5+1) (YT.map eU)])]⟩) ?_ ?_)
  ·refine nx 1 Z (fB [26] h1 Z (λ YH h1=>?_) λ YH h1=>?_)
   ·refine nx 7 rfl (oP h1 Z Z Z λ XA h1=>bd h1 λ VI e39 h1=>oK (dX (sub Mr at31 (Mr.length:Int)) _ e39) rfl ⟨sr,trivial⟩ Tryz.call126 rfl (nx 7 rfl ?_));obtain ⟨o78,h2,hL1,hR1⟩:=bo h1;refine kX (λ ZD:Int×Int=>o78=.inl ZD) (λ ZD=>⟨[(0,.p (eS Mr)),(5,.ptr 5 0),(6,.p (eI at31)),(7,.p (eK .i32 ZD.1)),(8,.p (eI ZD.2))],[(5,[.bptr 93 2 5,.vec 101000 1 (5+1) (YT.map eU)])]⟩) (λ ZD hv=>?_) ?_
    ·have h1:=hL1 _ hv;exact nx 4 Z (bd h1 λ U0 e56 h1=>mO Z (aV [5] [101000] 102000 102001 (mn (bY.mk YT) ZD.1 _ e56) Z Z Z Z Z ⟨sr,sr,trivial⟩ Z Z ⟨⟨_,Z,⟨sr,sr,trivial⟩⟩,trivial⟩ Z Z Z Z Z Z Z Z Tryz.call175 Z Z (nx 4 Z (oA h1 Z Z λ YB h1=>nx 2 Z (eX (at31+ZD.2,U0.2.2.I') h1 (bm (cb 102000 101000 Z Z Z Z Z) (gE Z Z)))))))
    refine nx 5 Z (fD [35] h2 Z (λ c40 h2=>?_) λ c40 h2=>?_)
    ·exact bP
    refine nx 2 Z (bd h2 λ o80 h3 h2=>kN o80 (λ v81=>⟨[(0,.p (eS Mr)),(5,.ptr 5 0),(6,.p (eI at31)),(7,.p (eK .i32 VI.1)),(8,.p (eI VI.2)),(64,.p (eB v81))],[(5,[.bptr 93 2 5,.vec 101000 1 (5+1) (YT.map eU)])]⟩) ?_ ?_)
    ·exact bP
    refine nx 4 Z (fD [52,53] h3 Z (λ c47 h3=>?_) λ c47 h3=>?_)
    ·refine nx 4 Z (fD [55,56,57] h3 Z (λ c48 h3=>?_) λ c48 h3=>?_)
     ·exact yc
     refine nx 4 Z (fD [59,60,61] h3 Z (λ c49 h3=>?_) λ c49 h3=>?_)
     ·exact yk
     exact yk
    refine nx 8 Z (fD [59,60,61] h3 Z (λ c50 h3=>?_) λ c50 h3=>?_)
    ·exact yk
    exact yk
   exact az
  exact bP
 exact J0
def kI (Mr:Bk):Option Bool :=(if (Mr.length:Int)<=4096 then(dN Mr).bind λ r2=>some r2 else some false).bind λ t4=>some t4
instance Gq (Mr:Bk):∀ (r:Bool),HP (kI Mr=some r) Tryz.prog 188 [eS Mr] (.p (eB r)):=by
 refine hP good Tryz.func188 Z Z λ r h0 _ w0=>?_;unfold kI at h0;exact kt
end Go.Ab.R06
end
section
namespace Go.Ab.R06
open Go.Ab Go.Ab.RB
variable {p:Prop}
theorem Iu (h:p:=by
 rw [List.getD_eq_getElem?_getD,List.getElem?_eq_getElem h,ur]
 exact List.drop_eq_getElem_cons h):p:=h
theorem Dr (h:p:=by
 refine Prod.ext ?_ rfl;show _=r.toNat
 simp only; omega):p:=h
theorem Da (h:p:=by
 exact ae O (aa (by simp [h]))):p:=h
theorem sA (h:p:=by
 exact ae O (aa Z)):p:=h
theorem HM (h:p:=by
 refine av (λ h1=>av (λ h2=>aa ?_) (λ h2=>av (λ h3=>aa ?_) (λ h3=>aa (eqB ?_)))) (λ h1=>av (λ h3=>aa ?_) (λ h3=>aa (eqB ?_)))
 ·symm; rw [decide_eq_true_eq]; left; simp only; omega
 ·symm; rw [decide_eq_true_eq]; right; left; simp only; omega
 ·rw [decide_eq_true_eq,decide_eq_true_eq]; unfold jD; simp only; omega
 ·symm; rw [decide_eq_true_eq]; right; left; simp only; omega
 ·rw [decide_eq_true_eq,decide_eq_true_eq]; unfold jD; simp only; omega):p:=h
theorem Dm (h:p:=by
 exact af O (aa (eqB (by rw [decide_eq_true_eq,decide_eq_true_eq]; omega)))):p:=h
theorem Lf (h:p:=by
 refine aO this λ r hr=>?_;rw [hr];refine Prod.ext Z ?_;show ((i+1+_:Nat):Int)=((i+(_+1):Nat):Int)
 omega):p:=h
theorem rc (h:p:=by
 exact af O (aa Z)):p:=h
theorem Lo (h:p:=by
 unfold strings_IndexByte;have:((b.toNat:Int).toNat.toUInt8)=b:=by simp
 rw [this]; rfl):p:=h
theorem BU (h:p:=by
 unfold bn
 rw [xC _ G]):p:=h
theorem x5 (h:p:=by
 simp [IntKind.wrap,IntKind.bits,IntKind.signed]
 omega):p:=h
theorem od (h:p:=by exact ae Z (aa Z)):p:=h
theorem HT (h:p:=by exact ae O (ag O (aa (by simp; omega)))):p:=h
theorem vX (h:p:=by exact ae O (aa (by simp; omega))):p:=h
theorem ja (h:p:=by rw [n6]; omega):p:=h
theorem BW (h:p:=by rw [n6]; simp only [aq]; omega):p:=h
theorem pk (h:p:=by exact af G (aa Z)):p:=h
theorem pt (h:p:=by exact ax Z Z):p:=h
theorem qV (h:p:=by exact ag (bv O O) (aa Z)):p:=h
theorem u5 (h:p:=by rw [n7]; omega):p:=h
theorem pf (h:p:=by exact af O (aa Z)):p:=h
theorem su (h:p:=by simp only; omega):p:=h
section
variable {α β:Type} {P:α->Prop}
theorem ai {g:Nat->Nat->Option β}{k:Nat->Nat->β->Option α}(x:β)(h:Ev2 g (·=x))(hk:Ev2 (λ n m=>k n m x) P):Ev2 (λ n m=>(g n m).bind (k n m)) P :=
 ah (·=x) h λ y hy=>by grind
end
def gR (b:UInt8):Bool:=(decide (97<=b.toNat)&&decide (b.toNat<=122))||(decide (65<=b.toNat)&&decide (b.toNat<=90))||decide (b.toNat=95)
def cz (b:UInt8):Bool:=decide (48<=b.toNat)&&decide (b.toNat<=57)
def idB (b:UInt8):Bool:=gR b||cz b
def fg:Bk->Bool|[]=>false|b::r=>decide ((b::r).length<=64)&&gR b&&r.all idB
def zu (s:Bk)(i:Nat):Bool:=gR (s.getD i 0)||(decide (i≠0)&&cz (s.getD i 0))
def ki (p:Nat->Bool):Nat->Nat->Bool|_,0=>true|i,k+1=>p i&&ki p (i+1) k
theorem rT (p:Nat->Bool):∀ (k i:Nat),ki p i k=true↔∀ j,i<=j->j<i+k->p j=true
 | 0,i=>by grind [ki]
 | k+1,i=>by
  rw [ki,n8,rT p k (i+1)]
  grind
theorem or32:(List.range 256).all (λ n=>(decide ((97:Int)<=iOr .u8 (n:Int) 32)&&decide (iOr .u8 (n:Int) 32<=122))==((decide (97<=n)&&decide (n<=122))||(decide (65<=n)&&decide (n<=90))))=true:=by kernel_rfl
theorem QV (b:UInt8):(97<=iOr .u8 ((b.toNat:Nat):Int) 32/\iOr .u8 ((b.toNat:Nat):Int) 32<=122)↔((97<=b.toNat/\b.toNat<=122)\/(65<=b.toNat/\b.toNat<=90)):=by
 have h:=ph.1 or32 b.toNat (List.mem_range.2 b.toNat_lt)
 grind
theorem lJ (b:UInt8):gR b=true↔(97<=b.toNat/\b.toNat<=122)\/(65<=b.toNat/\b.toNat<=90)\/b.toNat=95:=by
 grind [gR]
theorem iO (b:UInt8):cz b=true↔48<=b.toNat/\b.toNat<=57:=by simp [cz]
theorem eqB {a b:Bool}(h:a=true↔b=true):a=b:=Bool.eq_iff_iff.2 h
theorem p7 (s:Bk)(i:Nat):zu s i=true↔gR (s.getD i 0)=true\/(i≠0/\cz (s.getD i 0)=true):=by simp [zu]
theorem vJ (s:Bk):fg s=true↔s≠[]/\s.length<=64/\ki (zu s) 0 s.length=true:=by
 rw [rT]
 cases s with
 | nil=>simp [fg]
 | cons b r=>
  simp only [fg,n8,decide_eq_true_eq,ph];constructor
  ·grind [p7,List.getElem_mem,idB]
  ·rintro ⟨_,h1,h2⟩;refine ⟨⟨h1,?_⟩,λ x hx=>?_⟩
   ·have:=(p7 _ _).1 (h2 0 O G)
    grind
   grind [List.getElem_of_mem,p7,idB]
theorem tN (s:Bk):fg s=true↔s≠[]/\s.length<=64/\gR (s.getD 0 0)=true/\ki (λ j=>idB (s.getD j 0)) 0 s.length=true:=by
 grind [vJ,rT,p7,idB]
end Go.Ab.R06
namespace Go.Ab.R06
open Go.Ab Go.Ab.RB Go.Lib
def jl (acc:Nat)(l:Bk):Nat:=l.foldl (λ a b=>a*10+(b.toNat-48)) acc
theorem oY (a:Nat):jl a []=a:=rfl
theorem qf (a:Nat)(b:UInt8)(l:Bk):jl a (b::l)=jl (a*10+(b.toNat-48)) l:=by grind [jl]
theorem Am (a:Nat)(l m:Bk):jl a (l++m)=jl (jl a l) m:=by simp [jl]
theorem td (a:Nat)(l:Bk)(b:UInt8):jl a (l++[b])=jl a l*10+(b.toNat-48):=by rw [Am]; rfl
theorem Dz:∀ (l:Bk) (a:Nat),a<=jl a l
 | [],a=>Nat.le_of_eq (oY a).symm
 | b::r,a=>by
  rw [qf];have:=Dz r (a*10+(b.toNat-48))
  grind
theorem nS {l:Bk}(h:l.all cz=true){b:UInt8}(hb:b∈l):48<=b.toNat/\b.toNat<=57:=(iO b).1 (ph.1 h b hb)
theorem Jl:∀ (l:Bk) (acc:Nat),l.all cz=true->(jl acc l<=18446744073709551615->parseUintM 18446744073709551615 acc l=.ok (jl acc l))/\(18446744073709551615<jl acc l->acc<=18446744073709551615->parseUintM 18446744073709551615 acc l=.range)
 | [],acc,_=>by
  rw [oY];exact ⟨λ _=>rfl,λ h h'=>by omega⟩
 | b::r,acc,h=>by
  have hb:=nS h List.mem_cons_self;have hr:r.all cz=true:=by grind
  rw [parseUintM,if_pos hb,qf];have hg:=Dz r (acc*10+(b.toNat-48));have ih:=Jl r (acc*10+(b.toNat-48)) hr
  grind
theorem Px (l:Bk)(UK:l≠[])(h:l.all cz=true):parseUintB 64 l=if jl 0 l<=18446744073709551615 then .ok (jl 0 l) else .range:=by
 grind [parseUintB,Jl]
def qA (l:Bk):Bool:=!l.isEmpty&&l.all cz&&(decide (l.getD 0 0≠48)||decide (l.length=1))
theorem kH (l:Bk):qA l=true↔l≠[]/\l.all cz=true/\(l.getD 0 0≠48\/l.length=1):=by
 grind [qA]
def qZ (s:Bk):Bool:=decide (0<s.length)&&decide (s.getD 0 0=45)
def digits (s:Bk):Bk:=if qZ s=true then s.drop 1 else s
def re (s:Bk):Bool:=!(qZ s&&decide (s.drop 1=[48]))&&qA (digits s)
def nq (s:Bk):Int:=if qZ s=true then -(jl 0 (digits s):Int) else (jl 0 (digits s):Int)
def i6:Int:=9007199254740992
def o9 (s:Bk):Int×Int:=if re s=true then (if -i6<=nq s/\nq s<=i6 then (nq s,0) else (0,5)) else (0,2)
theorem J8 (s:Bk)(hs:s.length<=1000000000):∀ (k i:Nat),i+k=s.length->Ev2 (λ _ m=>ct s m (i:Int)) (·=if ki (λ j=>cz (s.getD j 0)) i k then .inl () else .inr false):=by
 intro k
 induction k with
 | zero=>
  intro i hi;refine aw ?_;simp only [ct];refine af O (aa rfl)
 | succ k ih=>
  intro i hi;refine aw ?_;simp only [ct];refine ae O ?_;have hb:byt s i=((s.getD i 0).toNat:Int):=cH s i;rw [hb];refine ai (!cz (s.getD i 0)) ?_ ?_
  ·have h:=iO (s.getD i 0);generalize s.getD i 0=b at h ⊢;refine ag O (av (λ h1=>aa ?_) (λ h1=>ag O (aa ?_)))
   ·grind
   grind
  ·cases hk:cz (s.getD i 0) with
   | false=>simp_all [aa,ki]
   | true=>
    refine af G (ag aC ?_);have:=ih (i+1) O
    grind [ki]
theorem za (s:Bk)(p:UInt8->Bool):ki (λ j=>p (s.getD j 0)) 0 s.length=s.all p:=by
 grind [rT,List.getElem_of_mem]
theorem xW (s:Bk)(hs:s.length<=1000000000):Ev2 (λ n _=>ic n s) (·=re s):=by
 simp only [ic];have hb:byt s 0=((s.getD 0 0).toNat:Int):=cH s 0;have hneg:qZ s=true↔0<s.length/\s.getD 0 0=45:=by simp [qZ]
 have h45:(s.getD 0 0).toNat=45↔s.getD 0 0=45:=⟨λ h=>UInt8.toNat_inj.1 h,λ h=>by rw [h]; rfl⟩
 have body:∀ t:Bk,t.length<=1000000000->Ev2 (λ n m=>jn (ct t n 0) λ V'=>
   ((if t=([]:Bk) then some false else ck ((0:Int)<=0/\0<(t.length:Int))<|if byt t 0=48 then some (decide ((t.length:Int)=1)) else some true):Option Bool).bind λ t28=>some t28) (·=qA t):=by
  intro t ht;have l:=J8 t ht t.length 0 O;rw [za] at l;have hc:=kH t;have hb':byt t 0=((t.getD 0 0).toNat:Int):=cH t 0;have h48:(t.getD 0 0).toNat=48↔t.getD 0 0=48:=⟨λ h=>UInt8.toNat_inj.1 h,λ h=>by rw [h]; rfl⟩
  cases ha:t.all cz with
  | false=>
   rw [ha] at l hc;refine iV false (aN l) (eqB ?_)
   grind
  | true=>
   rw [ha] at l hc;refine ek () (aN l) (ah (·=qA t) ?_ (λ x hx=>aa hx));refine av (λ h=>aa (eqB ?_)) (λ h=>ag ?_ ?_)
   ·grind
   ·grind
   ·rw [hb'];refine av (λ h1=>aa (eqB ?_)) (λ h1=>aa (eqB ?_))
    ·grind
    grind
 refine cj (ai (qZ s) ?_ ?_)
 ·refine av (λ h=>ag O (aa (eqB ?_))) (λ h=>aa (eqB ?_))
  ·grind
  grind
 ·rw [km];show Ev2 (λ n m=>if qZ s=true then ck _ (if s.drop 1=[48] then some (Sum.inr false) else some (Sum.inl (s.drop 1))) else some (Sum.inl s)) _;refine av (λ h=>ag ?_ (av (λ h1=>aa ?_) (λ h1=>aa ?_))) (λ h=>aa ?_)
  ·grind
  ·grind [re]
  ·have e:re s=qA (s.drop 1):=by grind [re,digits]
   rw [e];exact body _ gK
  grind [re,digits]
theorem xi (v:Int):jz v=some (decide (-i6<=v/\v<=i6)):=by
 simp only [jz];by_cases h:(-9007199254740992:Int)<=v
 ·simp_all [i6]
 ·rw [if_neg h,cl];refine congrArg some (eqB ?_)
  grind [i6]
theorem tG {s:Bk}(h:re s=true):digits s≠[]/\(digits s).all cz=true:=by
 grind [re,kH]
theorem P8 (s:Bk)(h:re s=true):parseIntB 64 s=if (if qZ s=true then 9223372036854775808<jl 0 (digits s) else 9223372036854775808<=jl 0 (digits s)) then .range else .ok (nq s):=by
 obtain ⟨h1,h2⟩:=tG h
 cases s with
 | nil=>grind [digits]
 | cons c r=>
  have e45:c.toNat=45↔c=45:=⟨λ h=>UInt8.toNat_inj.1 h,λ h=>by rw [h]; rfl⟩
  grind [qZ,digits,nS,Px,parseIntB,nq]
theorem Ay (s:Bk)(hs:s.length<=1000000000):Ev2 (λ n _=>kQ n s) (·=o9 s):=by
 simp only [kQ];refine ai _ (xW s hs) ?_
 cases hc:re s with
 | false=>simp_all [aa,o9]
 | true=>
  refine af G ?_
  have hp:jy s 10 64=some (match parseIntB 64 s with|.ok v=>(v,false)|.range=>(intSat 64 s,true)|_=>(0,true)):=by
   grind [jy,cn]
  rw [P8 s hc] at hp;have e:o9 s=(if -i6<=nq s/\nq s<=i6 then (nq s,0) else (0,5)):=by simp [o9,hc]
  rw [e];by_cases hr:(if qZ s=true then 9223372036854775808<jl 0 (digits s) else 9223372036854775808<=jl 0 (digits s))
  ·rw [if_pos hr] at hp;refine ai _ (ax hp rfl) ?_;refine ai true od (ae rfl (aa ?_))
   grind [nq,i6]
  ·rw [if_neg hr] at hp;refine ai _ (ax hp rfl) ?_;refine ai (!decide (-i6<=nq s/\nq s<=i6)) ?_ ?_
   ·simp_all [xi,aa]
   ·by_cases q:-i6<=nq s/\nq s<=i6
    ·simp_all [aa]
    ·rw [if_neg q];exact ae (by grind) (aa rfl)
theorem D4:∀ (n u:Nat),u<n->jl 0 (decDigits u)=u/\(decDigits u).all cz=true/\decDigits u≠[]/\((decDigits u).getD 0 0≠48\/(decDigits u).length=1)/\(1<=u->(decDigits u).getD 0 0≠48):=by
 intro n
 induction n with
 | zero=>grind
 | succ n ih=>
  intro u hu
  have hdig:∀ k,k<10->(UInt8.ofNat (48+k)).toNat=48+k:=λ k hk=>by
   rw [UInt8.toNat_ofNat']; omega
  rw [decDigits];by_cases h:u<10
  ·rw [dif_pos h];have:=hdig u h;refine ⟨by grind [qf,oY],by grind [iO],by simp,.inr rfl,λ h1=>?_⟩;intro q;have q':(UInt8.ofNat (48+u))=48:=q
   simp_all
  ·rw [dif_neg h];obtain ⟨a1,a2,a3,a4,a5⟩:=ih (u / 10) O
   grind [td,iO]
theorem zj:∀ (n:Nat) (l:Bk),l.length<=n->qA l=true->decDigits (jl 0 l)=l/\(l.getD 0 0≠48->1<=jl 0 l):=by
 intro n
 induction n with
 | zero=>grind [kH]
 | succ n ih=>
  intro l hl h;obtain ⟨h1,h2,h3⟩:=(kH l).1 h
  have hof:∀ b:UInt8,48<=b.toNat->UInt8.ofNat (48+(b.toNat-48))=b:=λ b hb=>by
   simp_all
  rcases List.eq_nil_or_concat l with rfl|⟨m,b,rfl⟩
  ·grind
  ·simp only [List.concat_eq_append] at *;have hb:=nS h2 (b:=b) G;rw [td];by_cases hm:m=[]
   ·subst hm;rw [oY,decDigits,dif_pos O];refine ⟨by grind,λ q=>?_⟩;have q:b≠48:=q;have:b.toNat≠48:=λ k=>q (UInt8.toNat_inj.1 k);omega
   ·have hcm:qA m=true:=by
     grind [kH]
    obtain ⟨i1,i2⟩:=ih m (by grind) hcm
    have UK:m.getD 0 0≠48:=by
     grind
    have hpos:=i2 UK;refine ⟨?_,λ _=>by omega⟩;rw [decDigits,dif_neg O]
    grind
theorem Si (v:Int)(h0:0<=v)(h1:v<=i6):o9 (itoa v)=(v,0):=by
 obtain ⟨u,rfl⟩:∃ u:Nat,v=u:=⟨v.toNat,by omega⟩
 have e:itoa (u:Int)=decDigits u:=by grind [itoa]
 obtain ⟨a1,a2,a3,a4,a5⟩:=D4 (u+1) u O
 have hn:qZ (decDigits u)=false:=by
  rw [<- Bool.not_eq_true];intro q;simp only [qZ,n8,decide_eq_true_eq] at q
  have hm:(decDigits u).getD 0 0∈decDigits u:=by
   grind
  have:=nS a2 hm;rw [q.2] at this
  grind
 grind [digits,re,kH,nq,o9]
theorem FD (s:Bk)(v:Int)(h:o9 s=(v,0))(h0:0<=v):itoa v=s/\v<=i6:=by
 unfold o9 at h;split at h
 ·rename_i hc;split at h
  ·rename_i hr;have hv:nq s=v:=congrArg Prod.fst h;obtain ⟨h1,h2⟩:=tG hc;simp only [re,n8] at hc;have hb:=(zj _ (digits s) (bx _) hc.2)
   have hcn:=(kH _).1 hc.2
   cases hn:qZ s with
   | true=>
    grind [nq,digits,decDigits]
   | false=>
    grind [digits,nq,itoa]
  grind
 grind
end Go.Ab.R06
namespace Go.Ab.R06
open Go.Ab Go.Ab.RB Go.Lib
theorem rM (x:Int):IntKind.wrap .u8 x=x%256:=by simp [IntKind.wrap,IntKind.bits,IntKind.signed]
theorem wrap32 (x:Int):IntKind.wrap .u32 x=x%4294967296:=by simp [IntKind.wrap,IntKind.bits,IntKind.signed]
theorem shr6 (x:Int):cV .i32 x 6=x / 64:=by
 show x.fdiv (2^6)=x / 64
 grind
theorem TE (x:Int):cV .i32 x 12=x / 4096:=by
 show x.fdiv (2^12)=x / 4096
 grind
theorem TB (x:Int):cV .i32 x 18=x / 262144:=by
 show x.fdiv (2^18)=x / 262144
 grind
theorem t63:(List.range 256).all (λ n=>bK .u8 (n:Int) 63==((n%64:Nat):Int))=true:=by kernel_rfl
theorem t128:(List.range 64).all (λ n=>iOr .u8 128 (n:Int)==((128+n:Nat):Int))=true:=by kernel_rfl
theorem t192:(List.range 32).all (λ n=>iOr .u8 192 (n:Int)==((192+n:Nat):Int))=true:=by kernel_rfl
theorem t224:(List.range 16).all (λ n=>iOr .u8 224 (n:Int)==((224+n:Nat):Int))=true:=by kernel_rfl
theorem t240:(List.range 8).all (λ n=>iOr .u8 240 (n:Int)==((240+n:Nat):Int))=true:=by kernel_rfl
theorem tab {f g:Nat->Int}{m:Nat}(h:(List.range m).all (λ n=>f n==g n)=true)(n:Nat)(hn:n<m):f n=g n:=(by grind)
theorem G6 (x:Int):bK .u8 (IntKind.wrap .u8 x) 63=x%64:=by
 rw [rM];obtain ⟨n,hn⟩:∃ n:Nat,x%256=n:=⟨(x%256).toNat,by omega⟩
 grind [t63]
theorem Ht {x:Int}(h0:0<=x)(h1:x<64):iOr .u8 128 x=128+x:=by
 obtain ⟨n,rfl⟩:∃ n:Nat,x=n:=⟨x.toNat,by omega⟩
 grind [t128]
theorem SY {x:Int}(h0:0<=x)(h1:x<32):iOr .u8 192 x=192+x:=by
 obtain ⟨n,rfl⟩:∃ n:Nat,x=n:=⟨x.toNat,by omega⟩
 grind [t192]
theorem TU {x:Int}(h0:0<=x)(h1:x<16):iOr .u8 224 x=224+x:=by
 obtain ⟨n,rfl⟩:∃ n:Nat,x=n:=⟨x.toNat,by omega⟩
 grind [t224]
theorem Tv {x:Int}(h0:0<=x)(h1:x<8):iOr .u8 240 x=240+x:=by
 obtain ⟨n,rfl⟩:∃ n:Nat,x=n:=⟨x.toNat,by omega⟩
 grind [t240]
def gz (r:Int):Prop:=(0<=r/\r<55296)\/(57343<r/\r<=1114111)
theorem AM (p:Bk)(r:Int)(h:gz r)(hp:p.length<=100000000000):d6 p r=some (p++encodeRune r):=by
 have h0:0<=r/\r<=1114111:=by grind [gz]
 have hw:IntKind.wrap .u32 r=r:=by rw [wrap32]; omega
 unfold d6;rw [hw];by_cases h1:r<=127
 ·have hw8:IntKind.wrap .u8 r=r:=by rw [rM]; omega
  grind [cn,encodeRune,encodeRuneZ,u8]
 rw [if_neg h1];unfold dd;rw [hw,G6,shr6,TE,TB,G6,G6];have o1:iOr .u8 128 (r%64)=128+r%64:=Ht O O;have o2:iOr .u8 128 (r / 64%64)=128+r / 64%64:=Ht O O;have o3:iOr .u8 128 (r / 4096%64)=128+r / 4096%64:=Ht O O;rw [o1,o2,o3];have n1:¬ (0<=r/\r<=127):=by omega
 by_cases h2:r<=2047
 ·grind [u8,rM,SY,cn,encodeRune,encodeRuneZ]
 rw [if_neg h2];have n2:¬ (128<=r/\r<=2047):=by omega
 by_cases h3:r<55296\/(57343<r/\r<=65535)
 ·have hw8:IntKind.wrap .u8 (r / 4096)=r / 4096:=by rw [rM]; omega
  grind [TU,cn,encodeRune,encodeRuneZ,u8]
 ·have h4:65535<r:=by grind [gz]
  have hw8:IntKind.wrap .u8 (r / 262144)=r / 262144:=by rw [rM]; omega
  grind [Tv,cn,encodeRune,encodeRuneZ,u8]
theorem xC (l:Bk)(h:l≠[]):decodeGo (str l)=decodeL l:=by
 unfold decodeGo;rw [if_neg]
 ·rfl
 grind [jI]
theorem mw (r:Int)(_h:gz r):1<=(encodeRune r).length/\(encodeRune r).length<=4:=by
 grind [encodeRune,encodeRuneZ]
theorem xX (r:Int)(h:gz r)(t:Bk):decodeL (encodeRune r++t)=(r.toNat,(encodeRune r).length):=by
 have h0:0<=r/\r<=1114111:=by unfold gz at h; omega
 have hb:∀ x:Int,0<=x->x<256->(x.toNat.toUInt8).toNat=x.toNat:=λ x a b=>by
  show (UInt8.ofNat x.toNat).toNat=_;rw [UInt8.toNat_ofNat']; omega
 rw [decodeL_N];by_cases h1:r<=127
 ·have e:encodeRune r=[r.toNat.toUInt8]:=by simp only [encodeRune,encodeRuneZ,if_pos (show 0<=r/\r<=127 from ⟨h0.1,h1⟩),dg,List.map_nil]
  rw [e];have b0:=hb r O O;simp only [List.cons_append,List.getD_cons_zero,b0];unfold decodeN;rw [if_pos O]; rfl
 have n1:¬ (0<=r/\r<=127):=by omega
 by_cases h2:r<=2047
 ·have e:encodeRune r=[(192+r / 64).toNat.toUInt8,(128+r%64).toNat.toUInt8]:=by
   simp only [encodeRune,encodeRuneZ,if_neg n1,if_pos (show 128<=r/\r<=2047 by omega),dg,List.map_nil]
  rw [e];have b0:=hb (192+r / 64) O O;have b1:=hb (128+r%64) O O;simp only [List.cons_append,List.getD_cons_zero,List.getD_cons_succ,b0,b1,aq,List.nil_append];unfold decodeN;rw [if_neg O,if_pos O,if_pos O];exact Dr
 have n2:¬ (128<=r/\r<=2047):=by omega
 by_cases h3:r<55296\/(57343<r/\r<=65535)
 ·have e:encodeRune r=[(224+r / 4096).toNat.toUInt8,(128+r / 64%64).toNat.toUInt8,(128+r%64).toNat.toUInt8]:=by
   simp only [encodeRune,encodeRuneZ,if_neg n1,if_neg n2,if_pos (show (2048<=r/\r<55296)\/(57343<r/\r<=65535) by omega),dg,List.map_nil]
  rw [e];have b0:=hb (224+r / 4096) O O;have b1:=hb (128+r / 64%64) O O;have b2:=hb (128+r%64) O O;simp only [List.cons_append,List.getD_cons_zero,List.getD_cons_succ,b0,b1,b2,aq,List.nil_append];unfold decodeN;rw [if_neg O,if_neg O,if_pos O,if_pos O];exact Dr
 ·have h4:65535<r:=by unfold gz at h; omega
  have e:encodeRune r=[(240+r / 262144).toNat.toUInt8,(128+r / 4096%64).toNat.toUInt8,(128+r / 64%64).toNat.toUInt8,(128+r%64).toNat.toUInt8]:=by
   simp only [encodeRune,encodeRuneZ,if_neg n1,if_neg n2,if_neg (show ¬ ((2048<=r/\r<55296)\/(57343<r/\r<=65535)) by omega),if_pos (show 65536<=r/\r<=1114111 by omega),dg,List.map_nil]
  rw [e];have b0:=hb (240+r / 262144) O O;have b1:=hb (128+r / 4096%64) O O;have b2:=hb (128+r / 64%64) O O;have b3:=hb (128+r%64) O O;simp only [List.cons_append,List.getD_cons_zero,List.getD_cons_succ,b0,b1,b2,b3,aq,List.nil_append];unfold decodeN;rw [if_neg O,if_neg O,if_neg O,if_pos O,if_pos O];exact Dr
theorem wu (r:Int)(h:gz r)(t:Bk):validD (encodeRune r++t)=validD t:=by
 have hl:=mw r h
 have UK:encodeRune r++t≠[]:=by
  intro q; rw [List.append_eq_nil_iff] at q; rw [q.1] at hl; simp at hl
 rw [validD_step _ UK,xX r h t,if_neg]
 ·simp
 ·rintro ⟨a,b⟩;have hr:r=65533:=by omega
  subst hr;simp [encodeRune,encodeRuneZ] at b
theorem gO (l:Bk)(h:l≠[]):1<=(decodeL l).2/\(decodeL l).2<=l.length/\(¬ ((decodeL l).1=65533/\(decodeL l).2=1)->gz ((decodeL l).1:Int)/\encodeRune ((decodeL l).1:Int)=l.take (decodeL l).2):=by
 have hl:0<l.length:=List.length_pos_iff.2 h;have hd:=decN l.length (l.getD 0 0).toNat (l.getD 1 0).toNat (l.getD 2 0).toNat (l.getD 3 0).toNat O (UInt8.toNat_lt _);rw [<- decodeL_N] at hd;refine ⟨hd.1,hd.2.1,λ q=>⟨?_,encode_decode l h q⟩⟩;have:=hd.2.2.2.2.2;unfold gz; omega
theorem Bj (l:Bk)(h:l≠[]):validD l=true↔¬ ((decodeL l).1=65533/\(decodeL l).2=1)/\validD (l.drop (decodeL l).2)=true:=by
 rw [validD_step l h];by_cases q:(decodeL l).1=65533/\(decodeL l).2=1
 ·simp [q]
 ·simp [q]
end Go.Ab.R06
namespace Go.Ab.R06
open Go.Ab Go.Ab.RB Go.Lib
theorem Pe (f:Bk)(r:Int)(hr:gz r)(h:f.length<=10000000000):dB (bY.mk f) r=some (((encodeRune r).length:Int),false,bY.mk (f++encodeRune r)):=by
 have hl:=mw r hr;unfold dB gM;rw [cl,AM f r hr O,cl];have e:((f++encodeRune r).length:Int)-(f.length:Int)=(encodeRune r).length:=by rw [n7]; omega
 rw [e,cn aC]
theorem bstr (f:Bk)(h:f.length<=1000000000000):fY (bY.mk f)=some (f,bY.mk f):=by
 unfold fY;rw [cn su]
def pu (b:UInt8):Bk :=if b.toNat=10 then [92,110] else if b.toNat=13 then [92,114] else if b.toNat=9 then [92,116] else if b.toNat=34\/b.toNat=92 then [92,b] else if b.toNat<32\/b.toNat=127 then [92,117,123]++nX b.toNat++[125] else [b]
def IM (s:Bk):Bk:=34::(s.flatMap pu++[34])
theorem T7 {b:UInt8}(h:b.toNat=10):pu b=[92,110]:=by unfold pu; rw [if_pos h]
theorem TZ {b:UInt8}(h:b.toNat=13):pu b=[92,114]:=by unfold pu; rw [if_neg O,if_pos h]
theorem TV {b:UInt8}(h:b.toNat=9):pu b=[92,116]:=by unfold pu; rw [if_neg O,if_neg O,if_pos h]
theorem Tf {b:UInt8}(h1:b.toNat≠10)(h2:b.toNat≠13)(h3:b.toNat≠9)(h:b.toNat<32\/b.toNat=127):pu b=[92,117,123]++nX b.toNat++[125]:=by
 unfold pu; rw [if_neg h1,if_neg h2,if_neg h3,if_neg O,if_pos h]
theorem S5 {b:UInt8}(h1:b.toNat≠34)(h2:b.toNat≠92)(h:¬ (b.toNat<32\/b.toNat=127)):pu b=[b]:=by
 unfold pu; rw [if_neg O,if_neg O,if_neg O,if_neg O,if_neg h]
theorem tv (n:Nat):1<=(nX n).length/\(nX n).length<=2:=by
 unfold nX; split <;> simp
theorem zJ (b:UInt8):1<=(pu b).length/\(pu b).length<=6:=by
 have:=tv b.toNat;unfold pu
 repeat' split
 all_goals (simp; try omega)
theorem Hj (s:Bk):s.length<=(s.flatMap pu).length/\(s.flatMap pu).length<=6*s.length:=by
 induction s with
 | nil=>simp
 | cons b r ih=>have:=zJ b; simp only [List.flatMap_cons,n7,aq]; omega
theorem QY (s:Bk):kI s=some (decide (s.length<=4096)&&validD s):=by
 unfold kI;by_cases h:(s.length:Int)<=4096
 ·have hv:dN s=some (validD s):=by unfold dN; exact cn O
  rw [if_pos h,hv];simp; omega
 ·rw [if_neg h];simp; intro q; omega
end Go.Ab.R06
namespace Go.Ab.R06
open Go.Ab Go.Ab.RB Go.Lib
def pN (b:UInt8):Option Nat:=if 48<=b.toNat/\b.toNat<=57 then some (b.toNat-48) else if 97<=b.toNat/\b.toNat<=102 then some (b.toNat-87) else none
def F9:Bk:=[48,49,50,51,52,53,54,55,56,57,97,98,99,100,101,102]
theorem hexT:(List.range 256).all (λ n=>indexByte F9 (UInt8.ofNat n)==(match pN (UInt8.ofNat n) with|some d=>(d:Int)|none=>-1))=true:=by kernel_rfl
theorem wv (b:UInt8):indexByte F9 b=match pN b with|some d=>(d:Int)|none=>-1:=by
 have:=eq_of_beq (ph.1 hexT b.toNat (List.mem_range.2 b.toNat_lt));simpa using this
theorem Dt {b:UInt8}{d:Nat}(h:pN b=some d):d<16:=by
 unfold pN at h;split at h
 ·cases h; omega
 ·split at h
  ·cases h; omega
  ·cases h
def bS:Nat->Bk->Nat->Nat×Nat
 | 0,_,a=>(a,0)
 | _+1,[],a=>(a,0)
 | k+1,b::r,a=>match pN b with
  | some d=>((bS k r (16*a+d)).1,(bS k r (16*a+d)).2+1)
  | none=>(a,0)
theorem oz:∀ (k:Nat) (l:Bk) (a:Nat),(bS k l a).2<=k/\(bS k l a).2<=l.length
 | 0,_,_=>⟨bx _,rg _⟩
 | _+1,[],_=>⟨rg _,bx _⟩
 | k+1,b::r,a=>by
  unfold bS
  cases pN b with
  | none=>exact ⟨rg _,rg _⟩
  | some d=>have:=oz k r (16*a+d); simp only [aq]; omega
theorem qy (n:Int)(h0:0<=n)(h1:n<2147483648):IntKind.wrap .i32 n=n:=by
 exact x5
theorem Rs (s:Bk)(_hs:s.length<=1000000000):∀ (k i a:Nat),i+k=6->i<=s.length->a<16^i->Ev2 (λ _ m=>cq s m (a:Int) (i:Int))
  (·=(((bS k (s.drop i) a).1:Int),((i+(bS k (s.drop i) a).2:Nat):Int))):=by
 intro k
 induction k with
 | zero=>
  intro i a hi hl ha;refine aw ?_;simp only [cq];refine ai false ?_ (af G (aa (by simp [bS])));exact av (λ h=>aa gK) (λ h=>aa rfl)
 | succ k ih=>
  intro i a hi hl ha;refine aw ?_;simp only [cq];by_cases h:i<s.length
  ·refine ai true vX (ae Z (ag O ?_));have hb:byt s i=((s.getD i 0).toNat:Int):=cH s i;rw [hb]
   have hd:s.drop i=s.getD i 0::s.drop (i+1):=by
    exact Iu
   rw [hd];generalize s.getD i 0=b
   have hx:strings_IndexByte ([48,49,50,51,52,53,54,55,56,57,97,98,99,100,101,102]:Bk) (b.toNat:Int)=some (indexByte F9 b):=by
    exact Lo
   refine ai _ (ax hx Z) ?_;rw [wv];unfold bS
   cases hh:pN b with
   | none=>exact ae (by decide) (aa G)
   | some d=>
    have hlt:=Dt hh;have hp:16^i<=16^5:=Nat.pow_le_pow_right (by decide) O;have hp5:(16:Nat)^5=1048576:=rfl;refine af G (ag aC ?_);have e1:IntKind.wrap .i32 (16*(a:Int))=16*(a:Int):=qy _ O O;have e2:IntKind.wrap .i32 (d:Int)=(d:Int):=qy _ O O
    have e3:IntKind.wrap .i32 (16*(a:Int)+(d:Int))=((16*a+d:Nat):Int):=by
     rw [qy _ O O]; omega
    rw [e1,e2,e3];have:=ih (i+1) (16*a+d) O O  (by rw [Nat.pow_succ]; omega);rw [show (((i+1:Nat)):Int)=(i:Int)+1 by omega] at this;exact Lf
  ·refine ai false pf (af G (aa ?_));rw [List.drop_of_length_le O];simp [bS]
def fT (s:Bk):Int×Int×Int :=let h:=bS 6 s 0;if h.2=s.length then (0,0,40)else if s.getD h.2 0≠125\/h.2=0\/(1<h.2/\s.getD 0 0=48)\/validRune (h.1:Int)=false then (0,0,2)else ((h.1:Int),((h.2+1:Nat):Int),0)
theorem pP {b:UInt8}{n:Nat}(hn:n<256):b.toNat=n↔b=UInt8.ofNat n:=by
 constructor
 ·intro h; apply UInt8.toNat_inj.1; rw [h,UInt8.toNat_ofNat']; omega
 ·intro h; rw [h,UInt8.toNat_ofNat']; omega
theorem Dx {s:Bk}{v c:Nat}(h:bS 6 s 0=(v,c)):fT s=if c=s.length then (0,0,40) else if s.getD c 0≠125\/c=0\/(1<c/\s.getD 0 0=48)\/validRune (v:Int)=false then (0,0,2) else ((v:Int),((c+1:Nat):Int),0):=by
 unfold fT; rw [h]
theorem NJ (s:Bk)(hs:s.length<=1000000000):Ev2 (λ n _=>fe n s) (·=fT s):=by
 simp only [fe];have l:=Rs s hs 6 0 0 rfl (rg _) (by decide);rw [List.drop_zero,Nat.zero_add] at l;have hle:=oz 6 s 0;refine ai _ (aN l) ?_;obtain ⟨v,c,hh⟩:∃ v c,bS 6 s 0=(v,c):=⟨_,_,rfl⟩
 have hP:=Dx hh;rw [hh] at hle ⊢;simp only at hle ⊢;refine av (λ h=>aa ?_) (λ h=>?_)
 ·rw [hP,if_pos O]
 rw [if_neg (show ¬ c=s.length by omega)] at hP;have hb:byt s c=((s.getD c 0).toNat:Int):=cH s c;have hb0:byt s 0=((s.getD 0 0).toNat:Int):=cH s 0;have h125:(s.getD c 0).toNat=125↔s.getD c 0=125:=pP (by decide);have h48:(s.getD 0 0).toNat=48↔s.getD 0 0=48:=pP (by decide);have hv:cD (v:Int)=some (validRune (v:Int)):=rfl
 have key:Ev2 (λ _ _=>(ck ((0:Int)<=(c:Int)/\(c:Int)<(s.length:Int)) <|
  if byt s c=125 then
   if (c:Int)=0 then some true
   else
   if 1<(c:Int) then
    ck ((0:Int)<=0/\0<(s.length:Int)) <|
    if byt s 0=48 then some true
    else (cD (v:Int)).bind λ WO=>some (!WO)
   else (cD (v:Int)).bind λ UF=>some (!UF)
  else some true:Option Bool)) (·=decide (s.getD c 0≠125\/c=0\/(1<c/\s.getD 0 0=48)\/validRune (v:Int)=false)):=by
  refine ag O ?_;rw [hb,hb0];refine av (λ h1=>av (λ h2=>aa ?_) (λ h2=>av (λ h3=>ag O (av (λ h4=>aa ?_) (λ h4=>?_))) (λ h3=>?_))) (λ h1=>aa ?_)
  ·symm; rw [decide_eq_true_eq]; right; left; omega
  ·symm; rw [decide_eq_true_eq]; right; right; left; exact ⟨by omega,h48.1 O⟩
  ·have q1:¬ s.getD c 0≠125:=λ q=>q (h125.1 O);have q2:¬ (1<c/\s.getD 0 0=48):=λ q=>h4 (by have:=h48.2 q.2; omega);refine ai _ (ax hv Z) (aa (eqB ?_));rw [decide_eq_true_eq];have:¬ c=0:=by omega
   simp only [q1,q2,false_or,this,Bool.not_eq_true']
  ·have q1:¬ s.getD c 0≠125:=λ q=>q (h125.1 O);refine ai _ (ax hv Z) (aa (eqB ?_));rw [decide_eq_true_eq];have a1:¬ c=0:=by omega
   have a2:¬ 1<c:=by omega
   simp only [q1,a1,a2,false_or,false_and,Bool.not_eq_true']
  ·symm; rw [decide_eq_true_eq]; left; intro q; exact h1 (by have:=h125.2 q; omega)
 refine ai _ key ?_;refine av (λ h1=>aa ?_) (λ h1=>ag aC (aa ?_))
 ·rw [hP,if_pos (of_decide_eq_true h1)]
 ·rw [hP,if_neg (λ q=>h1 (decide_eq_true q))];refine Prod.ext rfl (Prod.ext ?_ rfl);show (c:Int)+1=((c+1:Nat):Int);omega
def da (s:Bk):Int×Int×Int:=match s with
 | []=>(0,0,40)
 | b::r=>if b.toNat=110 then (10,1,0) else if b.toNat=114 then (13,1,0) else if b.toNat=116 then (9,1,0)
  else if b.toNat=34\/b.toNat=92 then ((b.toNat:Int),1,0)
  else if b.toNat=117 then (match r with
   | []=>(0,0,40)
   | c::t=>if c.toNat=123 then ((fT t).1,(fT t).2.1+2,(fT t).2.2) else (0,0,2))
  else (0,0,2)
theorem qg (b:UInt8)(r:Bk):da (b::r)=if b.toNat=110 then (10,1,0) else if b.toNat=114 then (13,1,0) else if b.toNat=116 then (9,1,0)
  else if b.toNat=34\/b.toNat=92 then ((b.toNat:Int),1,0)
  else if b.toNat=117 then (match r with
   | []=>(0,0,40)
   | c::t=>if c.toNat=123 then ((fT t).1,(fT t).2.1+2,(fT t).2.2) else (0,0,2))
  else (0,0,2):=rfl
theorem x8 (s:Bk):0<=(fT s).2.1/\(fT s).2.1<=s.length/\((fT s).2.2=0->gz (fT s).1)/\0<=(fT s).2.2:=by
 have hle:=oz 6 s 0;unfold fT;generalize bS 6 s 0=h at hle ⊢;obtain ⟨v,c⟩:=h;simp only at hle ⊢;split
 ·simp <;> omega
 ·split
  ·simp <;> omega
  ·rename_i h1 h2;refine ⟨by simp only; omega,by simp only; omega,λ _=>?_,by simp⟩
   have:validRune (v:Int)=true:=by
    cases hv:validRune (v:Int) with
    | true=>rfl
    | false=>exact absurd (.inr (.inr (.inr hv))) h2
   simp only [validRune,decide_eq_true_eq] at this;unfold gz; simp only; omega
theorem o4 (s:Bk):0<=(da s).2.1/\(da s).2.1<=s.length+1/\((da s).2.2=0->gz (da s).1/\(da s).2.1<=s.length)/\0<=(da s).2.2:=by
 unfold da;split
 ·simp
 ·rename_i b r;have hb:=b.toNat_lt;split
  ·simp [gz] <;> omega
  split
  ·simp [gz] <;> omega
  split
  ·simp [gz] <;> omega
  split
  ·simp [gz] <;> omega
  split
  ·split
   ·simp
   ·rename_i c t;have:=x8 t;split
    ·refine ⟨by simp only; omega,by simp only [aq]; omega,λ q=>⟨this.2.2.1 q,by simp only [aq]; omega⟩,this.2.2.2⟩
    ·simp <;> omega
  ·simp <;> omega
theorem N4 (s:Bk)(hs:s.length<=1000000000):Ev2 (λ n _=>jL n s) (·=da s):=by
 simp only [jL]
 cases s with
 | nil=>exact ae Z (aa Z)
 | cons b r=>
  have hl:((b::r).length:Int)=(r.length:Int)+1:=by simp
  refine af G (ag O ?_);have hb:byt (b::r) 0=(b.toNat:Int):=rfl;have hbl:=b.toNat_lt;rw [hb];have hP:=qg b r;refine av (λ h=>aa (by rw [hP,if_pos O])) (λ h1=>?_);rw [if_neg (show ¬ b.toNat=110 by omega)] at hP;refine av (λ h=>aa (by rw [hP,if_pos O])) (λ h2=>?_);rw [if_neg (show ¬ b.toNat=114 by omega)] at hP;refine av (λ h=>aa (by rw [hP,if_pos O])) (λ h3=>?_);rw [if_neg (show ¬ b.toNat=116 by omega)] at hP;refine ai (decide (b.toNat=34\/b.toNat=92)) ?_ ?_
  ·by_cases h:b.toNat=34
   ·exact Da
   ·exact Dm
  by_cases h4:b.toNat=34\/b.toNat=92
  ·rw [if_pos h4] at hP;rw [hP];refine ae (by simp [h4]) (ag O (aa ?_));rw [qy _ O O]
  rw [if_neg h4] at hP;refine af (by simp only [decide_eq_true_eq]; exact h4) ?_;refine av (λ h5=>?_) (λ h5=>aa (by rw [hP,if_neg O]));rw [if_pos (show b.toNat=117 by omega)] at hP;rw [hP]
  cases r with
  | nil=>exact ae G (aa Z)
  | cons c t=>
   have hl2:((b::c::t).length:Int)=(t.length:Int)+2:=by simp <;> omega
   refine af O (ag O ?_);have hc:byt (b::c::t) 1=(c.toNat:Int):=rfl;rw [hc];refine av (λ h6=>ag O ?_) (λ h6=>aa (by show _=if c.toNat=123 then _ else _; rw [if_neg O]));have e6:(if c.toNat=123 then ((fT t).1,(fT t).2.1+2,(fT t).2.2) else ((0,0,2):Int×Int×Int))=((fT t).1,(fT t).2.1+2,(fT t).2.2):=if_pos O;show Ev2 _ (·=if c.toNat=123 then ((fT t).1,(fT t).2.1+2,(fT t).2.2) else ((0,0,2):Int×Int×Int));rw [e6,km];show Ev2 (λ n m=>(fe n t).bind _) _;have hle:=x8 t;have htl:t.length<=1000000000:=by simp at hs; omega
   exact ai _ (NJ t htl) qV
end Go.Ab.R06
namespace Go.Ab.R06
open Go.Ab Go.Ab.RB Go.Lib
def jD (c:Nat×Nat):Prop:=(c.1=65533/\c.2=1)\/c.1<32\/c.1=127
instance (c:Nat×Nat):Decidable (jD c):=inferInstanceAs (Decidable (_\/_))
def pE:Nat->Bk->Nat->Bk->(Int×Bk)⊕(Bk×Int×Int)|0,_,at',acc=>.inl ((at':Int),acc)|_+1,[],at',acc=>.inl ((at':Int),acc)|n+1,b::r,at',acc=>if b.toNat=34 then .inl ((at':Int),acc)else if (decodeL (b::r)).1=92 then(if (da r).2.2=0 then pE n (r.drop (da r).2.1.toNat) (at'+((da r).2.1.toNat+1)) (acc++encodeRune (da r).1) else .inr ([],0,(da r).2.2))else if jD (decodeL (b::r)) then .inr ([],0,2)else pE n ((b::r).drop (decodeL (b::r)).2) (at'+(decodeL (b::r)).2) (acc++encodeRune ((decodeL (b::r)).1:Int))
theorem qh (n:Nat)(b:UInt8)(r:Bk)(at':Nat)(acc:Bk):pE (n+1) (b::r) at' acc=if b.toNat=34 then .inl ((at':Int),acc)
  else if (decodeL (b::r)).1=92 then
   (if (da r).2.2=0 then pE n (r.drop (da r).2.1.toNat) (at'+((da r).2.1.toNat+1)) (acc++encodeRune (da r).1) else .inr ([],0,(da r).2.2))
  else if jD (decodeL (b::r)) then .inr ([],0,2)
  else pE n ((b::r).drop (decodeL (b::r)).2) (at'+(decodeL (b::r)).2) (acc++encodeRune ((decodeL (b::r)).1:Int)):=by rw [pE]
theorem Qf (s:Bk)(hs:s.length<=1000000000):∀ (k:Nat) (l:Bk) (i:Nat) (f:Bk),l.length<k->s.drop i=l->i+l.length=s.length->f.length<=4*i->Ev2 (λ n m=>ew n s m (i:Int) f) (·=pE k l i f):=by
 intro k
 induction k with
 | zero=>intro l i f h; omega
 | succ k ih=>
  intro l i f hk hl hi hf;refine aw ?_;simp only [ew]
  cases l with
  | nil=>
   simp only [mv] at hi;refine ai false pf (af G (aa ?_));rw [pE]
  | cons b r=>
   have hil:i<s.length:=by simp only [aq] at hi; omega
   have hb:byt s i=(b.toNat:Int):=by
    rw [cH]
    have:s.getD i 0=b:=by
     have:=List.drop_eq_getElem_cons hil;rw [hl] at this;rw [List.getD_eq_getElem?_getD,List.getElem?_eq_getElem hil];exact (qr this).1.symm
    rw [this]
   have hr:s.drop (i+1)=r:=by
    have:=List.drop_eq_getElem_cons hil;rw [hl] at this;exact (qr this).2.symm
   have hlr:r.length+i+1=s.length:=by simp only [aq] at hi; omega
   have hU:=qh k b r i f;rw [hb];by_cases h34:b.toNat=34
   ·rw [if_pos h34] at hU;exact ai false HT (af G (aa hU.symm))
   rw [if_neg h34] at hU;refine ai true HT (ae rfl (ag O ?_));rw [km,Int.toNat_natCast,hl]
   have hd:bn (b::r)=some (((decodeL (b::r)).1:Int),((decodeL (b::r)).2:Int)):=by
    exact BU
   refine ai _ (ax hd rfl) ?_;have hdf:=gO (b::r) G;generalize hD:decodeL (b::r)=D at hU hdf ⊢;obtain ⟨c,w⟩:=D;simp only at hU hdf ⊢;by_cases h92:c=92
   ·rw [if_pos h92] at hU;have hes:=o4 r;have Us:=N4 r O
    have sub1:sub s ((i:Int)+1) (s.length:Int)=r:=by
     rw [km,show ((i:Int)+1).toNat=i+1 by omega,hr]
    generalize da r=E at hU hes Us;obtain ⟨x,y,z⟩:=E;simp only at hU hes Us;by_cases hz:z=0
    ·rw [if_pos hz] at hU;refine cj (ae O (ag aC (ag O ?_)));rw [sub1];obtain ⟨e1,e2⟩:=hes.2.2.1 hz;obtain ⟨y',rfl⟩:∃ y':Nat,y=y':=⟨y.toNat,by omega⟩
     rw [Int.toNat_natCast] at hU;refine ai _ Us (ae hz (ag (bv (by dsimp only; omega) (by dsimp only; omega)) (aa ?_)));refine ai _ (ax (Pe f x e1 O) rfl) (ag (bv (by dsimp only; omega) (by dsimp only; omega)) ?_);have hle:=mw x e1;have:=ih (r.drop y') (i+(y'+1)) (f++encodeRune x) (by rw [n6]; simp only [aq] at hk; omega) (by rw [<- hr,List.drop_drop]; congr 1; omega) ja u5;rw [<- hU] at this;rw [show ((i+(y'+1):Nat):Int)=(i:Int)+((y':Int)+1) by omega] at this;exact this
    ·rw [if_neg hz] at hU;refine cj (ae O (ag aC (ag O ?_)));rw [sub1];refine ai _ Us (af hz (aa ?_));exact hU.symm
   ·rw [if_neg h92] at hU
    have hbad:Ev2 (λ _ _=>(if (c:Int)=65533 then if (w:Int)=1 then some true else if (c:Int)<32 then some true else some (decide ((c:Int)=127)) else if (c:Int)<32 then some true else some (decide ((c:Int)=127)):Option Bool)) (·=decide (jD (c,w))):=by
     exact HM
    by_cases hbd:jD (c,w)
    ·rw [if_pos hbd] at hU;refine cj (af O (ai _ hbad (ae (by simp only [decide_eq_true_eq]; exact hbd) (aa ?_))));exact hU.symm
    ·rw [if_neg hbd] at hU;refine cj (af O (ai _ hbad (af (by simp only [decide_eq_true_eq]; exact hbd) (aa ?_))));have hgood:=hdf.2.2 (λ q=>hbd (.inl q));refine ai _ (ax (Pe f c hgood.1 O) rfl) (ag (bv (by simp only [aq] at hdf; omega) (by simp only [aq] at hdf; omega)) ?_);have hle:=mw c hgood.1;have hw:w<=r.length+1:=by simpa using hdf.2.1
     have hw1:=hdf.1;have:=ih ((b::r).drop w) (i+w) (f++encodeRune (c:Int)) (by rw [n6]; simp only [aq] at hk ⊢; omega) (by rw [<- hl,List.drop_drop]) BW u5;rw [<- hU] at this;rw [show ((i+w:Nat):Int)=(i:Int)+(w:Int) by omega] at this;exact this
def JY:Bk->Bk×Int×Int
 | []=>([],0,40)
 | b::r=>if b.toNat=34 then (match pE (r.length+1) r 1 [] with
   | .inl q=>if q.1=((r.length+1:Nat):Int) then ([],0,40) else if 4096<q.2.length then ([],0,3) else (q.2,q.1+1,0)
   | .inr e=>e)
  else ([],0,2)
theorem wD (b:UInt8)(r:Bk):JY (b::r)=if b.toNat=34 then (match pE (r.length+1) r 1 [] with
   | .inl q=>if q.1=((r.length+1:Nat):Int) then ([],0,40) else if 4096<q.2.length then ([],0,3) else (q.2,q.1+1,0)
   | .inr e=>e)
  else ([],0,2):=rfl
theorem M0:∀ (k:Nat) (l:Bk) (i:Nat) (f:Bk),(∀ a g,pE k l i f=.inl (a,g)->(i:Int)<=a/\a<=((i+l.length:Nat):Int)/\g.length<=f.length+4*l.length/\((∀ t,validD (f++t)=validD t)->∀ t,validD (g++t)=validD t))/\(∀ x,pE k l i f=.inr x->x.1=[]/\x.2.1=0/\x.2.2≠0):=by
 intro k
 induction k with
 | zero=>
  intro l i f;refine ⟨λ a g h=>?_,λ x h=>(by rw [pE] at h; cases h)⟩;rw [pE] at h; cases h;exact ⟨by omega,by omega,by omega,λ q=>q⟩
 | succ k ih=>
  intro l i f
  cases l with
  | nil=>
   refine ⟨λ a g h=>?_,λ x h=>(by rw [pE] at h; cases h)⟩;rw [pE] at h; cases h;exact ⟨by omega,by simp,by simp,λ q=>q⟩
  | cons b r=>
   rw [qh];have hdf:=gO (b::r) G;have hes:=o4 r;split
   ·refine ⟨λ a g h=>?_,λ x h=>(by cases h)⟩
    cases h
    exact ⟨by omega,by simp only [aq]; omega,by omega,λ q=>q⟩
   split
   ·split
    ·rename_i hz;obtain ⟨e1,e2⟩:=hes.2.2.1 hz;have hle:=mw _ e1;have hi:=ih (r.drop (da r).2.1.toNat) (i+((da r).2.1.toNat+1)) (f++encodeRune (da r).1);refine ⟨λ a g h=>?_,hi.2⟩;have:=hi.1 a g h;rw [n6,n7] at this;refine ⟨by omega,by simp only [aq]; omega,by simp only [aq]; omega,λ q=>this.2.2.2 λ t=>?_⟩;rw [List.append_assoc,q,wu _ e1]
    ·rename_i hz;refine ⟨λ a g h=>(by cases h),λ x h=>?_⟩
     cases h
     exact ⟨Z,Z,hz⟩
   split
   ·refine ⟨λ a g h=>(by cases h),λ x h=>?_⟩
    cases h
    exact ⟨Z,Z,by decide⟩
   ·rename_i hbd;have hgood:=hdf.2.2 (λ q=>hbd (.inl q));have hle:=mw _ hgood.1;have hi:=ih ((b::r).drop (decodeL (b::r)).2) (i+(decodeL (b::r)).2) (f++encodeRune ((decodeL (b::r)).1:Int));refine ⟨λ a g h=>?_,hi.2⟩;have:=hi.1 a g h;rw [n6,n7] at this;simp only [aq] at this hdf ⊢;refine ⟨by omega,by omega,by omega,λ q=>this.2.2.2 λ t=>?_⟩;rw [List.append_assoc,q,wu _ hgood.1]
theorem PS (s:Bk)(hs:s.length<=1000000000):Ev2 (λ n _=>ii n s) (·=JY s):=by
 simp only [ii]
 cases s with
 | nil=>exact ae Z (aa Z)
 | cons b r=>
  have hl:((b::r).length:Int)=(r.length:Int)+1:=by simp
  have hln:(b::r).length=r.length+1:=by simp
  refine af G (ag O ?_);have hb:byt (b::r) 0=(b.toNat:Int):=rfl;rw [hb];rw [wD];refine av (λ h=>?_) (λ h=>aa (by rw [if_neg (show ¬ b.toNat=34 by omega)]));have l:=Qf (b::r) hs (r.length+1) r 1 [] O rfl O G;have hle:=M0 (r.length+1) r 1 [];have e34:b.toNat=34:=by omega
  simp only [e34,if_true];generalize pE (r.length+1) r 1 []=U at l hle ⊢
  cases U with
  | inr e=>exact iV e (aN l) Z
  | inl q=>
   obtain ⟨a,g⟩:=q;have hq:=hle.1 a g rfl;simp only [mv,Nat.zero_add] at hq;refine ek (a,g) (aN l) ?_;refine av (λ h=>aa (by simp only at h ⊢; rw [if_pos O])) (λ h=>?_);simp only at h ⊢;rw [if_neg O];refine ai _ pt (av (λ h1=>aa (by simp only at h1; rw [if_pos O])) (λ h1=>?_));simp only at h1;rw [if_neg O];refine ai _ (ax (bstr g O) rfl) qV
theorem wH (b:UInt8)(h:b.toNat<128):encodeRune (b.toNat:Int)=[b]:=by
 simp only [encodeRune,encodeRuneZ,if_pos (show (0:Int)<=(b.toNat:Int)/\(b.toNat:Int)<=127 by omega),dg,List.map_nil];simp
theorem Nn:∀ (k u:Nat),u<10^(k+1)->(decDigits u).length<=k+1:=by
 intro k
 induction k with
 | zero=>intro u h; rw [decDigits,dif_pos (by simpa using h)]; simp
 | succ k ih=>
  intro u h;rw [decDigits];split
  ·simp
  ·have:=ih (u / 10) (by rw [Nat.pow_succ] at h; omega);rw [n7]; simp; omega
theorem JE {v:Int}(h0:0<=v)(h1:v<=i6):(itoa v).length<=16:=by
 obtain ⟨u,rfl⟩:∃ u:Nat,v=u:=⟨v.toNat,by omega⟩
 unfold itoa;rw [if_neg O,Int.toNat_natCast];exact Nn 15 u (by unfold i6 at h1; omega)
end Go.Ab.R06
end
