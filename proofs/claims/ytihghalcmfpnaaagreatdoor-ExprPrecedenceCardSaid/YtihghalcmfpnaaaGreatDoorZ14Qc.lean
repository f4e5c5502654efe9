/- Texts of the proof, one behind the other. No statement is proved here. -/
import Derived.Lib.OthersKept
import Derived.Defers
import Derived.Lib.MapLaws
import Derived.Lib.ValidLaws
import Derived.Test.YtihghalcmfpnaaaGreatDoorZ14Qa
import Derived.Test.YtihghalcmfpnaaaGreatDoorZ14Qb
set_option maxHeartbeats 4000000
section
namespace Go.Ab
section
variable {p:Prop}
theorem JY (h:p:=by
 have e1:(cW (λ i=>Nat.beq i d) ⟨sl,ob⟩).sl=sl':=(uz h1).symm;have e2:(cW (λ i=>Nat.beq i d) ⟨sl,ob⟩).ob=ob':=(qQ h2).symm
 rw [e1,e2]; exact hK):p:=h
end
@[irreducible] def sG (n:Nat):List UInt8:=List.replicate n 0
section
variable {C:Cx} {o:Oper} {K:AS->Prop} {sl:List (Nat×AV)} {ob:List (Nat×List AV)} {d:Nat}
theorem vq {α:Type} [Inhabited α] (f:α->PV)(l:List α){t m e:Nat}{x y:Operand}{i ie:TI}{k:IntKind}{n:Int}(ho:o.op=.index t x y)(hd:o.dst=some d)(hn:Nat.blt d C.n=true)
  (hi:look C.tt t=some i) (RR:i.k=.array m e) (hie:look C.tt e=some ie) (hia:ie.k.isAgg=false) (hs1:ie.size=1) (hm:Nat.beq m l.length=true) (hx:evo sl x=some (.p (.agg (l.map f))))
  (hy:evo sl y=some (.p (.val (.int k n)))) (hb:0<=n/\n < (l.length:Int)) (hK:K ⟨(d,.p (f (lat l n)))::sl,ob⟩):aX C o K ⟨sl,ob⟩:=by
 obtain ⟨u,h1,h2⟩:=bJ C.good hi;have h3:=pC (h2.trans RR);subst h3;have hm':=ld hm;refine ok_one hd hn (λ g a w hs=>?_) hK;have h5:=bC hs hx;generalize hv:a.eval x=v at h5
 cases h5 with
 | p h5 =>
  cases h5 with
  | agg hl hh =>
   rename_i vs;have hlt:n.toNat < l.length:=by omega
   have hlt2:n.toNat < vs.size:=by rw [hl]; simpa using hlt
   have hnm:n < (m:Int):=by omega
   refine ⟨vs[n.toNat],by simp [execOp,ho,hv,bK hs hy,Instr.index,asIntOf,run_underlying h1,hb.1,hnm,run_sizeOf C.good hie,hs1,part,mw C.good hie,hia,hlt2],.p (hh n.toNat (f (lat l n)) _ ?_ (Array.getElem?_eq_getElem hlt2))⟩;simp [lat,List.getElem?_map,List.getElem?_eq_getElem hlt,List.getD_eq_getElem?_getD]
theorem aP {t:TypeId}{x:Operand}{i:TI}{id k:Nat}{cs:List AV}{y:AV}(ho:o.op=.load t x)(hd:o.dst=some d)(hn:Nat.blt d C.n=true)
  (hi:look C.tt t=some i) (hia:i.k.isAgg=false) (hx:evo sl x=some (.ptr id k)) (hob:look ob id=some cs) (hy:cs[k]? = some y) (hK:K ⟨(d,y)::sl,ob⟩):aX C o K ⟨sl,ob⟩ :=
 lb ho hd hn hi hia hx hob hy hK
theorem EJ {t:TypeId}{x:Operand}{i:TI}{id k:Nat}{cs:List AV}{y:AV}(ho:o.op=.load t x)(hd:o.dst=some d)(hn:Nat.blt d C.n=true)
  (hi:look C.tt t=some i) (hia:i.k.isAgg=true) (hx:evo sl x=some (.ptr id k)) (hob:look ob id=some cs) (hl:Nat.ble (k+i.size) cs.length=true) (hy:lm ((cs.drop k).take i.size)=y)
  (hK:K ⟨(d,y)::sl,ob⟩):aX C o K ⟨sl,ob⟩:=oM ho hd hn hi hia hx hob hl (congrArg some hy) hK
theorem fE {t:TypeId}{x v:Operand}{i:TI}{id k:Nat}{cs xs ds:List AV}{y:AV}(ho:o.op=.store t x v)(hd:o.dst=none)
  (hi:look C.tt t=some i) (hx:evo sl x=some (.ptr id k)) (hv:evo sl v=some y) (hc:y.cellsA=some xs) (RA:Nat.beq xs.length i.size=true) (hob:look ob id=some cs) (hl:k+xs.length<=cs.length) (hu:lZ cs k xs=ds)
  (hK:K ⟨sl,(id,ds)::ob⟩):aX C o K ⟨sl,ob⟩:=by
 subst hu;exact mK ho hd hi hx hv hc (ld RA) hob hl hK
theorem vQ {α:Type}(f:α->PV)(hf:∀ x,(f x).one=true):∀ l:List α,AV.onesB ((l.map f).map .p)=true
 | []=>rfl
 | x::r=>by simp only [cl,AV.onesB,AV.one,hf x,vQ f hf r,Bool.and_self]
theorem vt {α:Type}(f:α->PV)(l:List α){t:TypeId}{i:TI}{sl':List (Nat×AV)}{ob':List (Nat×List AV)}(hf:∀ x,(f x).one=true)(ho:o.op=.alloc t)(hd:o.dst=some d)(hn:Nat.blt d C.n=true)
  (hi:look C.tt t=some i) (hz:ea i=(l.map f).map .p) (h1:dmS (λ i=>Nat.beq i d) sl=some sl') (h2:dmO (λ i=>Nat.beq i d) ob=some ob') (hK:K ⟨(d,.ptr d 0)::sl',(d,(l.map f).map .p)::ob'⟩):aX C o K ⟨sl,ob⟩:=by
 refine gX ho hd hn hi ?_ ?_
 ·rw [hz]; simp only [AV.cellsA,vQ f hf l,cond_true]
 ·rw [hz,xC];exact JY
theorem KV (cs:List PV){t:TypeId}{v:Operand}{sl':List (Nat×AV)}{ob':List (Nat×List AV)}(ho:o.op=.box t v)(hd:o.dst=some d)(hn:Nat.blt d C.n=true)(hx:evo sl v=some (.p (.agg cs)))(h0:PV.onesB cs=true)
  (h1:dmS (λ i=>Nat.beq i d) sl=some sl') (h2:dmO (λ i=>Nat.beq i d) ob=some ob') (hK:K ⟨(d,.ptr d 0)::sl',(d,cs.map .p)::ob'⟩):aX C o K ⟨sl,ob⟩:=by
 refine Ai ho hd hn hx (cs:=cs.map .p) (by simp only [AV.cellsA,h0,cond_true]) ?_;rw [xC];exact JY
theorem DV {α:Type}(f:α->PV)(l:List α){t:TypeId}{x:Operand}{i:TI}{id:Nat}(ho:o.op=.load t x)(hd:o.dst=some d)(hn:Nat.blt d C.n=true)
  (hi:look C.tt t=some i) (hia:i.k.isAgg=true) (hx:evo sl x=some (.ptr id 0)) (hob:look ob id=some ((l.map f).map .p)) (hl:Nat.beq i.size l.length=true)
  (hK:K ⟨(d,.p (.agg (l.map f)))::sl,ob⟩):aX C o K ⟨sl,ob⟩:=by
 have hl':=ld hl;refine oM ho hd hn hi hia hx hob (by simp [hl']) (y:=.p (.agg (l.map f))) (congrArg some ?_) hK
 have e:(((l.map f).map AV.p).drop 0).take i.size=(l.map f).map AV.p:=by
  rw [List.drop_zero,hl']; exact List.take_of_length_le G
 rw [e]
 have ha:∀ q:List PV,xA (q.map .p)=some q:=by
  intro q
  induction q with
  | nil=>rfl
  | cons x r ih=>simp only [cl,xA,ih]
 simp only [lm,ha]
theorem tB:∀ q:List PV,xA (q.map .p)=some q
 | []=>rfl
 | x::r=>by simp only [cl,xA,tB r]
theorem LW {α:Type}(f:α->PV)(l:List α){tt:List (Nat×TI)}{rs:List ResultVar}{s:AS}{c id:Nat}{t:TypeId}{i:TI}(hr:rs=[.cell c t])(hc:look s.sl c=some (.ptr id 0))(hob:look s.ob id=some ((l.map f).map .p))(hi:look tt t=some i)(hia:i.k.isAgg=true)
  (hl:Nat.beq i.size l.length=true):lz tt rs s=some [.p (.agg (l.map f))]:=by
 have hl':=ld hl;subst hr
 have e:(((l.map f).map AV.p).drop 0).take i.size=(l.map f).map AV.p:=by
  rw [List.drop_zero,hl']; exact List.take_of_length_le G
 have e2:Nat.ble (0+i.size) ((l.map f).map AV.p).length=true:=by simp [hl']
 simp only [lz,hc,hob,hi,hia,cond_true,e,e2,lm,tB]
theorem zF {α:Type}(f:α->PV)(l l2:List α){t:TypeId}{x v:Operand}{i:TI}{id:Nat}(ho:o.op=.store t x v)(hd:o.dst=none)
  (hi:look C.tt t=some i) (hx:evo sl x=some (.ptr id 0)) (hv:evo sl v=some (.p (.agg (l2.map f)))) (hob:look ob id=some ((l.map f).map .p)) (hf:∀ x,(f x).one=true) (hl:Nat.beq i.size l.length=true) (hl2:Nat.beq i.size l2.length=true)
  (hK:K ⟨sl,(id,(l2.map f).map .p)::ob⟩):aX C o K ⟨sl,ob⟩:=by
 have e1:=ld hl;have e2:=ld hl2
 have ho1:∀ q:List α,PV.onesB (q.map f)=true:=by
  intro q
  induction q with
  | nil=>rfl
  | cons x r ih=>simp only [cl,PV.onesB,hf x,ih,Bool.and_self]
 refine fE (xs:=(l2.map f).map .p) ho hd hi hx hv (by simp only [AV.cellsA,ho1 l2,cond_true]) (by simp [e2]) hob ef ?_ hK;unfold lZ;split
 ·rename_i y hy;have h3:=congrArg List.length hy;simp only [List.length_map,aq,dg] at h3;rw [hy]
  match l,e1 with
  | [z],_=>rfl
  | [],e1=>simp at e1; omega
  | _::_::_,e1=>simp at e1; omega
 ·rw [List.take_zero,ur,List.drop_eq_nil_of_le ef,List.append_nil]
theorem Ik {t:TypeId}{x:Operand}{s:List UInt8}{i:TI}{sl':List (Nat×AV)}{ob':List (Nat×List AV)}(ho:o.op=.range t x)(hd:o.dst=some d)(hn:Nat.blt d C.n=true)
  (hi:look C.tt t=some i) (RR:i.k=.string) (hx:evo sl x=some (.p (.val (.string ⟨s.toArray⟩)))) (h1:dmS (Nat.beq · d) sl=some sl') (h2:dmO (Nat.beq · d) ob=some ob')
  (hK:K ⟨(d,.it d s 0)::sl',ob'⟩):aX C o K ⟨sl,ob⟩:=by
 obtain ⟨u,hu1,hu2⟩:=bJ C.good hi;have h3:=gS (hu2.trans RR);subst h3;intro g a w hs;have hdl:d < M1:=by have h1:=Nat.le_of_ble_eq_true C.nl; have h2:d < C.n:=n8 ▸ hn; omega
 unfold Oper.wp
 have hrun:(execOp a.eval o).run C.P w=.ok (.value (.pointer (some ⟨w.heap.size,0,none⟩))) (w.alloc (.stringIter ⟨s.toArray⟩ 0)):=by
  simp [execOp,ho,Instr.range,bK hs hx,run_underlying hu1,newObj,Sem.run,Result.andThen]
 rw [hrun];obtain ⟨g',hg'⟩:∃ g':Gh,g'=⟨λ b o=>g.st b o\/(b=w.heap.size/\o=0),λ i=>if i=d then some w.heap.size else g.ow i⟩:=⟨_,rfl⟩
 have RA:(w.alloc (.stringIter ⟨s.toArray⟩ 0)).heap.size=w.heap.size+1:=by simp
 have RI:Ev w g.st (w.alloc (.stringIter ⟨s.toArray⟩ 0)) g'.st:=λ b o h=>⟨by rw [hg']; exact .inl h,World.cell?_alloc_lt w _ _ (hs.lt b o h)⟩
 have hs':St C.n C.w0 C.F g' (cW (Nat.beq · d) ⟨sl,ob⟩) a (w.alloc (.stringIter ⟨s.toArray⟩ 0)):=by
  subst hg';refine hs.evolve (Nat.beq · d) (FY hdl) RI (λ id b hD h=>?_) (λ i j b hi hj=>?_) (λ i b hi=>?_) (λ b o h=>?_) (λ b hb=>?_) Z Z Z O (λ b hb o=>?_) (λ i hi=>?_)
  ·have RP:id≠d:=λ e=>by subst e; simp at hD
   have hlt:=(hs.own id b h).1;exact ⟨by simp only [if_neg RP]; exact h,d9 hlt,λ o h=>h.resolve_right λ e=>by omega⟩
  ·dsimp only at hi hj;by_cases e1:i=d <;> by_cases e2:j=d
   ·omega
   ·rw [if_pos e1] at hi; rw [if_neg e2] at hj; cases hi; have:=(hs.own j _ hj).1; omega
   ·rw [if_neg e1] at hi; rw [if_pos e2] at hj; cases hj; have:=(hs.own i _ hi).1; omega
   ·rw [if_neg e1] at hi; rw [if_neg e2] at hj; exact hs.inj i j b hi hj
  ·dsimp only at hi;by_cases e1:i=d
   ·rw [if_pos e1] at hi; cases hi;exact ⟨by omega,λ hF=>by have:=hs.fl _ hF; have:=hs.size; omega⟩
   ·rw [if_neg e1] at hi; have:=hs.own i b hi; exact ⟨by omega,this.2⟩
  ·rcases h with h | h
   ·have:=hs.lt b o h; omega
   ·omega
  ·exact d9 (by have:=hs.fl b hb; have:=hs.size; omega)
  ·have h1:=hs.fl b hb;have h2:=hs.size;exact ⟨λ h=>h.resolve_right λ e=>by omega,.inl⟩
  ·dsimp only;rw [if_neg O]
 refine ⟨g',⟨(d,.it d s 0)::sl',ob'⟩,?_,hK⟩
 have hp:=hs'.put (d:=o.dst) (λ t ht=>by rw [hd] at ht; cases ht; exact n8 ▸ hn) (x:=.it d s 0) (v:=.pointer (some ⟨w.heap.size,0,none⟩))
  (.it (by rw [hg']; simp) gI (by rw [hg']; exact .inr ⟨Z,Z⟩))
 rw [hd] at hp ⊢;rw [uz h1,qQ h2];exact hp
theorem yO {n:Nat}{w0:Base}{w:World}{F:Nat->Prop}{g:Gh}{s:AS}{a:Act}(_hs:St n w0 F g s a w){tok pos:Nat}{l:List UInt8}{v:Value}(h:ARep w g (.it tok l pos) v) :
  ∃ b,v=.pointer (some ⟨b,0,none⟩)/\g.ow tok=some b/\w.heap[b]? = some (.stringIter ⟨l.toArray⟩ pos)/\g.st b 0:=by
 cases h with
 | it how hb hm=>exact ⟨_,Z,how,hb,hm⟩
theorem Ff {x:Operand}{s:List UInt8}{tok pos:Nat}(ho:o.op=.next x true)(hd:o.dst=some d)(hn:Nat.blt d C.n=true)
  (hx:evo sl x=some (.it tok s pos)) (hp:¬ pos < s.length) (hK:K ⟨(d,.tuple [.p (eB false)])::sl,ob⟩):aX C o K ⟨sl,ob⟩:=by
 refine ok_one hd hn (λ g a w hs=>?_) hK;obtain ⟨b,hv,_,hb,_⟩:=yO hs (bC hs hx);refine ⟨.tuple #[.bool false],?_,.tuple rfl λ i c v h1 h2=>?_⟩
 ·have RA:¬ pos < (⟨s.toArray⟩:ByteArray).size:=by simpa [ByteArray.size] using hp
  have:=Go.Lib.run_next_end_at (P:=C.P) w b ⟨s.toArray⟩ pos o.type hb RA;simp [execOp,ho,hv,this]
 ·match i,h1,h2 with
  | 0,h1,h2=>simp at h1 h2; subst h1 h2; exact .p (.val _)
theorem FD {j:Nat}{s:List UInt8}{tok pos:Nat}{sl':List (Nat×AV)}{ob':List (Nat×List AV)}(ho:o.op=.next (.tmp j) true)(hd:o.dst=some d)(hn:Nat.blt d C.n=true)(hj:Nat.blt j C.n=true)
  (hx:evo sl (.tmp j)=some (.it tok s pos)) (htok:Nat.blt tok M1=true) (hp:pos < s.length) (ha:(s.getD pos 0).toNat < 128) (h1:dmS (Nat.beq · tok) sl=some sl') (h2:dmO (Nat.beq · tok) ob=some ob')
  (_hdj:Nat.beq d j=false) (hK:K ⟨(d,.tuple [.p (eB true),.p (eI (pos:Int)),.p (eK .i32 ((s.getD pos 0).toNat:Int))])::(j,.it tok s (pos+1))::sl',ob'⟩):aX C o K ⟨sl,ob⟩:=by
 intro g a w hs;obtain ⟨b,hv,how,hb,hm⟩:=yO hs (bC hs hx);have htl:tok < M1:=n8 ▸ htok;have hbl:=(hs.own tok b how).1;unfold Oper.wp;have RA:pos < (⟨s.toArray⟩:ByteArray).size:=by simpa [ByteArray.size] using hp
 have hg0:(⟨s.toArray⟩:ByteArray)[pos]'RA=s.getD pos 0:=by
  rw [List.getD_eq_getElem?_getD,List.getElem?_eq_getElem hp]; rfl
 have hnx:=Go.Lib.run_next_ascii_at (P:=C.P) w b ⟨s.toArray⟩ pos o.type hb RA (by rw [hg0]; exact ha);rw [hg0] at hnx
 have hrun:(execOp a.eval o).run C.P w=.ok (.value (.tuple #[.bool true,.int .i64 pos,.int .i32 (s.getD pos 0).toNat])) (w.iterAt b ⟨s.toArray⟩ (pos+1)):=by
  simp [execOp,ho,hv,hnx]
 rw [hrun]
 have hheap:∀ b',b'≠b->(w.iterAt b ⟨s.toArray⟩ (pos+1)).heap[b']? = w.heap[b']?:=λ b' RP=>by
  simp only [World.iterAt,Array.getElem?_setIfInBounds];rw [if_neg O]
 have hheapb:=Go.Lib.iterAt_heap w b ⟨s.toArray⟩ pos (pos+1) hb;have hwsz:(w.iterAt b ⟨s.toArray⟩ (pos+1)).heap.size=w.heap.size:=by simp [World.iterAt]
 have RF:∀ b' o',(w.iterAt b ⟨s.toArray⟩ (pos+1)).cell? ⟨b',o',none⟩=w.cell? ⟨b',o',none⟩:=λ b' o'=>by
  by_cases e:b'=b
  ·subst e;simp only [World.cell?,hheapb,hb]
  ·simp only [World.cell?,hheap b' e]
 have hs':St C.n C.w0 C.F g (cW (Nat.beq · tok) ⟨sl,ob⟩) a (w.iterAt b ⟨s.toArray⟩ (pos+1)):=by
  refine hs.evolve (Nat.beq · tok) (FY htl) (λ b' o' h=>⟨h,RF b' o'⟩) (λ id b' hD h=>⟨h,hheap b' λ e=>?_,λ o h=>h⟩) hs.inj (λ i b' h=>by rw [hwsz]; exact hs.own i b' h) (λ b' o' h=>by rw [hwsz]; exact hs.lt b' o' h) (λ b' hb'=>hheap b' λ e=>?_) Z Z Z O (λ b' _ o'=>Iff.rfl) (λ i _=>rfl)
  ·subst e;have:=hs.inj id tok b' h how;subst this;simp at hD
  ·subst e;exact (hs.own tok b' how).2 hb'
 have hjd:j < C.n:=n8 ▸ hj;refine ⟨g,⟨(d,.tuple [.p (eB true),.p (eI (pos:Int)),.p (eK .i32 ((s.getD pos 0).toNat:Int))])::(j,.it tok s (pos+1))::sl',ob'⟩,?_,hK⟩
 have hs2:St C.n C.w0 C.F g ⟨(j,.it tok s (pos+1))::sl',ob'⟩ a (w.iterAt b ⟨s.toArray⟩ (pos+1)):=by
  rw [uz h1,qQ h2];refine { hs' with sl:=λ i=>?_ };simp only [AS.get,aS];by_cases e:j=i
  ·subst e;rw [if_pos rfl];simp only [Option.getD_some];have:a.eval (.tmp j)=a.tmps.getD j Go.undef:=rfl;rw [<- this,hv];exact .it how hheapb hm
  ·rw [if_neg e];exact hs'.sl i
 have hp2:=hs2.put (d:=o.dst) (λ t ht=>by rw [hd] at ht; cases ht; exact n8 ▸ hn) (x:=.tuple [.p (eB true),.p (eI (pos:Int)),.p (eK .i32 ((s.getD pos 0).toNat:Int))]) (v:=.tuple #[.bool true,.int .i64 pos,.int .i32 (s.getD pos 0).toNat])
  (.tuple Z λ i c v h1 h2=>by
   match i,h1,h2 with
   | 0,h1,h2=>simp at h1 h2; subst h1 h2; exact .p (.val _)
   | 1,h1,h2=>simp at h1 h2; subst h1 h2; exact .p (.val _)
   | 2,h1,h2=>simp at h1 h2; subst h1 h2; exact .p (.val _))
 rw [hd] at hp2 ⊢;exact hp2
end
end Go.Ab
end
section
namespace Go.Ab
section
variable {p:Prop}
theorem xe (h:p:=by rw [ac.hd_len]; decide):p:=h
end
def ik:List UInt8:=[0,0,0,0,0,0,0,0,0,1,6,0,0,1,0,0,0,0,0,0,0,0,0,0,0,0,0,0,0,0,0,0,1,4,5,7,0,4,4,0,4,4,4,4,4,4,4,4,3,3,3,3,3,3,3,3,3,3,4,0,4,4,4,4,0,2,2,2,2,2,2,2,2,2,2,2,2,2,2,2,2,2,2,2,2,2,2,2,2,2,2,4,0,4,0,2,0,2,2,2,2,2,2,2,2,2,2,2,2,2,2,2,2,2,2,2,2,2,2,2,2,2,2,4,4,4,0,0,0,0,0,0,0,0,0,0,0,0,0,0,0,0,0,0,0,0,0,0,0,0,0,0,0,0,0,0,0,0,0,0,0,0,0,0,0,0,0,0,0,0,0,0,0,0,0,0,0,0,0,0,0,0,0,0,0,0,0,0,0,0,0,0,0,0,0,0,0,0,0,0,0,0,0,0,0,0,0,0,0,0,0,0,0,0,0,0,0,0,0,0,0,0,0,0,0,0,0,0,0,0,0,0,0,0,0,0,0,0,0,0,0,0,0,0,0,0,0,0,0,0,0,0,0,0,0,0]
theorem yN:ik.length=256:=by kernel_rfl
def IE:List PV:=ik.map eU
theorem lB:IE.length=256:=by rw [IE,List.length_map,yN]
structure ac where
 fs:Bytes
 fat:Int
 IS:Int
 AT:ap
 deriving Inhabited
def ac.cs (x:ac):List PV:=eS x.fs::eI x.fat::(IE++[eI x.IS,eI x.AT.Ar,eI x.AT.fAt,eS x.AT.A'])
theorem ac.len (x:ac):((ac.cs x).map AV.p).length=262:=by simp [ac.cs,lB]
theorem ac.g_s (x:ac):((ac.cs x).map AV.p)[0]? = some (.p (eS x.fs)):=rfl
theorem ac.g_at (x:ac):((ac.cs x).map AV.p)[1]? = some (.p (eI x.fat)):=rfl
theorem ac.g_outer (x:ac):((ac.cs x).map AV.p)[2+256]? = some (.p (eI x.IS)):=by
 simp only [ac.cs,cl,List.map_append,List.getElem?_cons_succ];rw [List.getElem?_append_right (by simp [lB])];simp [lB]
theorem ac.g_class (x:ac){n:Int}(h:0<=n/\n < 256):((ac.cs x).map AV.p)[2+n.toNat*1]? = some (.p (eU (lat ik n))):=by
 have hn:n.toNat < 256:=by omega
 have e:2+n.toNat*1=n.toNat+1+1:=by omega
 rw [e];simp only [ac.cs,cl,List.map_append,List.getElem?_cons_succ];rw [List.getElem?_append_left (by simp [lB]; omega)];simp [IE,lat,List.getElem?_map,List.getElem?_eq_getElem (show n.toNat < ik.length by rw [yN]; exact hn)]
def ac.hd (x:ac):List AV:=(eS x.fs::eI x.fat::(IE++[eI x.IS])).map .p
theorem ac.hd_len (x:ac):x.hd.length=259:=by simp [ac.hd,lB]
theorem ac.cs_hd (x:ac):(ac.cs x).map AV.p=x.hd++(ap.cs x.AT).map .p:=by
 simp [ac.cs,ac.hd,ap.cs]
theorem ac.l_bad (x:ac):Nat.ble (2+256+1+3) ((ac.cs x).map AV.p).length=true:=by rw [ac.len]; rfl
theorem ac.g_bad (x:ac):lm ((((ac.cs x).map AV.p).drop (2+256+1)).take 3)=.p (.agg (ap.cs x.AT)):=by
 rw [ac.cs_hd,List.drop_append_of_le_length xe,List.drop_eq_nil_of_le xe]
 rfl
theorem ac.b_at (x:ac):1+1<=((ac.cs x).map AV.p).length:=by rw [ac.len]; decide
theorem ac.b_outer (x:ac):2+256+1<=((ac.cs x).map AV.p).length:=by rw [ac.len]; decide
theorem ac.b_bad (x:ac):2+256+1+3<=((ac.cs x).map AV.p).length:=by rw [ac.len]; decide
theorem ac.u_at (x:ac){v:Int}:lZ ((ac.cs x).map AV.p) 1 [.p (eI v)]=(ac.cs (.mk x.fs v x.IS x.AT)).map .p:=by
 simp only [lZ,ac.cs,cl,List.set_cons_succ,List.set_cons_zero]
theorem ac.u_outer (x:ac){v:Int}:lZ ((ac.cs x).map AV.p) (2+256) [.p (eI v)]=(ac.cs (.mk x.fs x.fat v x.AT)).map .p:=by
 simp only [lZ,ac.cs,cl,List.map_append,List.set_cons_succ];rw [List.set_append_right _ _ (by simp [lB])];simp [lB]
theorem ac.u_bad (x:ac){k a:Int}{n:Bytes}:lZ ((ac.cs x).map AV.p) (2+256+1) [.p (eI k),.p (eI a),.p (eS n)]=(ac.cs (.mk x.fs x.fat x.IS (.mk k a n))).map .p:=by
 have e:lZ ((ac.cs x).map AV.p) 259 [.p (eI k),.p (eI a),.p (eS n)]=((ac.cs x).map AV.p).take 259++(ap.cs (.mk k a n)).map .p++((ac.cs x).map AV.p).drop (259+3):=rfl;show lZ ((ac.cs x).map AV.p) 259 [.p (eI k),.p (eI a),.p (eS n)]=_;rw [e,ac.cs_hd,ac.cs_hd,List.take_append_of_le_length xe,List.take_of_length_le xe,List.drop_eq_nil_of_le (by rw [bt,ac.hd_len]; simp [ap.cs]),List.append_nil]
 rfl
end Go.Ab
end
section
namespace Go.Ab.R06
open Go.Proofs Go.Ab Go.Ab.RB
section
variable {p:Prop}
theorem rk (h:p:=by
  exact nx 2 Z (eXi _ (oi h1).symm (gE Z Z))):p:=h
theorem A0 (h:p:=by repeat (first | apply Lm Z | apply G1 Z | apply My Z Z | exact rfl)):p:=h
end
attribute [local irreducible] awp gk aX bv bV AV.sub M cC
def ge:Nat->Int->(List UInt8)->Option (List UInt8)
 | 0,_,_=>none
 | m+1,c8,l9 =>
 if c8<=122 then
  ck ((0:Int)<=c8/\(c8:Int) < 256) <|
  ck ((c8:Int) < (l9.length:Int)) <|
  ck ((0:Int)<=IntKind.wrap .i32 ((IntKind.wrap .i32 (c8 - 97))+65)/\(IntKind.wrap .i32 ((IntKind.wrap .i32 (c8 - 97))+65):Int) < 256) <|
  ck ((IntKind.wrap .i32 ((IntKind.wrap .i32 (c8 - 97))+65):Int) < ((l9.set c8.toNat (2:UInt8)).length:Int)) <|
  ge m (IntKind.wrap .i32 (c8+1)) ((l9.set c8.toNat (2:UInt8)).set ((IntKind.wrap .i32 ((IntKind.wrap .i32 (c8 - 97))+65)).toNat) (2:UInt8))
 else
  some l9
def gj:Nat->Int->(List UInt8)->Option (List UInt8)
 | 0,_,_=>none
 | m+1,T4,l24 =>
 if T4<=57 then
  ck ((0:Int)<=T4/\(T4:Int) < 256) <|
  ck ((T4:Int) < (l24.length:Int)) <|
  gj m (IntKind.wrap .i32 (T4+1)) (l24.set T4.toNat (3:UInt8))
 else
  some l24
def fX:Nat->Nat->(List UInt8)->Option (List UInt8)
 | 0,_,_=>none
 | m+1,t37,l38 =>
 if t37 < ([123,125,91,93,40,41,44,61,60,62,43,45,42,47,37,33,38,124,63,58,46]:Bytes).length then
  ck ((([123,125,91,93,40,41,44,61,60,62,43,45,42,47,37,33,38,124,63,58,46]:Bytes).getD t37 0).toNat < 128) <|
  ck ((0:Int)<=((([123,125,91,93,40,41,44,61,60,62,43,45,42,47,37,33,38,124,63,58,46]:Bytes).getD t37 0).toNat:Int)/\(((([123,125,91,93,40,41,44,61,60,62,43,45,42,47,37,33,38,124,63,58,46]:Bytes).getD t37 0).toNat:Int):Int) < 256) <|
  ck ((((([123,125,91,93,40,41,44,61,60,62,43,45,42,47,37,33,38,124,63,58,46]:Bytes).getD t37 0).toNat:Int):Int) < (l38.length:Int)) <|
  fX m (t37+1) (l38.set (((([123,125,91,93,40,41,44,61,60,62,43,45,42,47,37,33,38,124,63,58,46]:Bytes).getD t37 0).toNat:Int).toNat) (4:UInt8))
 else
  some l38
def lX (n:Nat):Option (List UInt8) :=
 (ge n 97 (sG 256)).bind λ l17 =>
 (gj n 48 l17).bind λ l30 =>
 (fX n 0 l30).bind λ l45 =>
 ck ((0:Int)<=95/\(95:Int) < 256) <|
 ck ((95:Int) < (l45.length:Int)) <|
 ck ((0:Int)<=34/\(34:Int) < 256) <|
 ck ((34:Int) < ((l45.set ((95:Int).toNat) (2:UInt8)).length:Int)) <|
 ck ((0:Int)<=35/\(35:Int) < 256) <|
 ck ((35:Int) < (((l45.set ((95:Int).toNat) (2:UInt8)).set ((34:Int).toNat) (5:UInt8)).length:Int)) <|
 ck ((0:Int)<=10/\(10:Int) < 256) <|
 ck ((10:Int) < ((((l45.set ((95:Int).toNat) (2:UInt8)).set ((34:Int).toNat) (5:UInt8)).set ((35:Int).toNat) (7:UInt8)).length:Int)) <|
 ck ((0:Int)<=32/\(32:Int) < 256) <|
 ck ((32:Int) < (((((l45.set ((95:Int).toNat) (2:UInt8)).set ((34:Int).toNat) (5:UInt8)).set ((35:Int).toNat) (7:UInt8)).set ((10:Int).toNat) (6:UInt8)).length:Int)) <|
 ck ((0:Int)<=9/\(9:Int) < 256) <|
 ck ((9:Int) < ((((((l45.set ((95:Int).toNat) (2:UInt8)).set ((34:Int).toNat) (5:UInt8)).set ((35:Int).toNat) (7:UInt8)).set ((10:Int).toNat) (6:UInt8)).set ((32:Int).toNat) (1:UInt8)).length:Int)) <|
 ck ((0:Int)<=13/\(13:Int) < 256) <|
 ck ((13:Int) < (((((((l45.set ((95:Int).toNat) (2:UInt8)).set ((34:Int).toNat) (5:UInt8)).set ((35:Int).toNat) (7:UInt8)).set ((10:Int).toNat) (6:UInt8)).set ((32:Int).toNat) (1:UInt8)).set ((9:Int).toNat) (1:UInt8)).length:Int)) <|
 ck (Nat.beq 256 (((((((l45.set ((95:Int).toNat) (2:UInt8)).set ((34:Int).toNat) (5:UInt8)).set ((35:Int).toNat) (7:UInt8)).set ((10:Int).toNat) (6:UInt8)).set ((32:Int).toNat) (1:UInt8)).set ((9:Int).toNat) (1:UInt8)).set ((13:Int).toNat) (1:UInt8)).length=true) <|
 ck (Nat.beq 256 (sG 256).length=true/\Nat.beq 256 (((((((l45.set ((95:Int).toNat) (2:UInt8)).set ((34:Int).toNat) (5:UInt8)).set ((35:Int).toNat) (7:UInt8)).set ((10:Int).toNat) (6:UInt8)).set ((32:Int).toNat) (1:UInt8)).set ((9:Int).toNat) (1:UInt8)).set ((13:Int).toNat) (1:UInt8)).length=true) <|
 some (((((((l45.set ((95:Int).toNat) (2:UInt8)).set ((34:Int).toNat) (5:UInt8)).set ((35:Int).toNat) (7:UInt8)).set ((10:Int).toNat) (6:UInt8)).set ((32:Int).toNat) (1:UInt8)).set ((9:Int).toNat) (1:UInt8)).set ((13:Int).toNat) (1:UInt8))
theorem rq (n:Nat)(r:(List UInt8))(h0:lX n=some r):bv Tryz.prog 84 [] (·=.p (.agg (r.map eU))):=by
 unfold lX at h0;refine HZ good Tryz.func84 Z Z Z λ w0=>mP (λ v:(List UInt8)=>.p (.agg (v.map eU))) ?_;refine nx 2 Z (mO Z (vt eU (sG 256) Y Z Z Z Z (by kernel_rfl) Z Z ?_));refine nx 3 Z (mO Z (vt eU (sG 256) Y Z Z Z Z (by kernel_rfl) Z A0 ?_));refine nx 7 Z (bd h0 λ WT h1 h0=>?_);refine kE 0 WT (λ v66=>⟨[(0,.ptr 0 0),(1,.ptr 1 0)],[(0,((sG 256).map eU).map .p),(1,(v66.map eU).map .p)]⟩) ?_ ?_
 ·refine nx 7 Z (bd h0 λ Sc h1 h0=>?_);refine kE 2 Sc (λ V9=>⟨[(0,.ptr 0 0),(1,.ptr 1 0)],[(0,((sG 256).map eU).map .p),(1,(V9.map eU).map .p)]⟩) ?_ ?_
  ·refine nx 4 Z (mO Z (Ik Z Z Z Z Z Z Z A0 ?_));refine nx 2 Z (bd h0 λ SV h1 h0=>?_);refine kE 4 SV (λ WY=>⟨[(0,.ptr 0 0),(1,.ptr 1 0)],[(0,((sG 256).map eU).map .p),(1,(WY.map eU).map .p)]⟩) ?_ ?_
   ·refine nx 3 Z (cc' h0 λ U6 h0=>?_);refine cc' h0 λ Wv h0=>mO Z (cj Z Z Z Z Z Z Z Z Z U6 ?_);refine mO Z (gg (f:=eU) (l:=SV) (b:=(2:UInt8)) Z Z Z Z Z Z Z Z (by have:=(And.intro U6.1 Wv); first | omega | (dsimp only; omega)) ?_);refine cc' h0 λ VH h0=>cc' h0 λ Xw h0=>mO Z (cj Z Z Z Z Z Z Z Z Z VH ?_);refine mO Z (gg (f:=eU) (l:=SV.set ((95:Int).toNat) (2:UInt8)) (b:=(5:UInt8)) Z Z Z Z Z Z Z Z (by have:=(And.intro VH.1 Xw); first | omega | (dsimp only; omega)) ?_);refine cc' h0 λ U5 h0=>cc' h0 λ VG h0=>mO Z (cj Z Z Z Z Z Z Z Z Z U5 ?_);refine mO Z (gg (f:=eU) (l:=(SV.set ((95:Int).toNat) (2:UInt8)).set ((34:Int).toNat) (5:UInt8)) (b:=(7:UInt8)) Z Z Z Z Z Z Z Z (by have:=(And.intro U5.1 VG); first | omega | (dsimp only; omega)) ?_);refine cc' h0 λ Wu h0=>cc' h0 λ U4 h0=>mO Z (cj Z Z Z Z Z Z Z Z Z Wu ?_);refine mO Z (gg (f:=eU) (l:=((SV.set ((95:Int).toNat) (2:UInt8)).set ((34:Int).toNat) (5:UInt8)).set ((35:Int).toNat) (7:UInt8)) (b:=(6:UInt8)) Z Z Z Z Z Z Z Z (by have:=(And.intro Wu.1 U4); first | omega | (dsimp only; omega)) ?_);refine nx 3 Z (cc' h0 λ U3 h0=>?_);refine cc' h0 λ Wt h0=>mO Z (cj Z Z Z Z Z Z Z Z Z U3 ?_);refine mO Z (gg (f:=eU) (l:=(((SV.set ((95:Int).toNat) (2:UInt8)).set ((34:Int).toNat) (5:UInt8)).set ((35:Int).toNat) (7:UInt8)).set ((10:Int).toNat) (6:UInt8)) (b:=(1:UInt8)) Z Z Z Z Z Z Z Z (by have:=(And.intro U3.1 Wt); first | omega | (dsimp only; omega)) ?_);refine cc' h0 λ Xv h0=>cc' h0 λ Ws h0=>mO Z (cj Z Z Z Z Z Z Z Z Z Xv ?_);refine mO Z (gg (f:=eU) (l:=((((SV.set ((95:Int).toNat) (2:UInt8)).set ((34:Int).toNat) (5:UInt8)).set ((35:Int).toNat) (7:UInt8)).set ((10:Int).toNat) (6:UInt8)).set ((32:Int).toNat) (1:UInt8)) (b:=(1:UInt8)) Z Z Z Z Z Z Z Z (by have:=(And.intro Xv.1 Ws); first | omega | (dsimp only; omega)) ?_);refine cc' h0 λ U2 h0=>cc' h0 λ hk59 h0=>mO Z (cj Z Z Z Z Z Z Z Z Z U2 ?_);refine mO Z (gg (f:=eU) (l:=(((((SV.set ((95:Int).toNat) (2:UInt8)).set ((34:Int).toNat) (5:UInt8)).set ((35:Int).toNat) (7:UInt8)).set ((10:Int).toNat) (6:UInt8)).set ((32:Int).toNat) (1:UInt8)).set ((9:Int).toNat) (1:UInt8)) (b:=(1:UInt8)) Z Z Z Z Z Z Z Z (by have:=(And.intro U2.1 hk59); first | omega | (dsimp only; omega)) ?_);refine nx 3 Z (cc' h0 λ U1 h0=>?_);refine mO Z (DV eU (((((((SV.set ((95:Int).toNat) (2:UInt8)).set ((34:Int).toNat) (5:UInt8)).set ((35:Int).toNat) (7:UInt8)).set ((10:Int).toNat) (6:UInt8)).set ((32:Int).toNat) (1:UInt8)).set ((9:Int).toNat) (1:UInt8)).set ((13:Int).toNat) (1:UInt8)) Z Z Z Z Z Z Z U1 ?_);refine cc' h0 λ VF h0=>mO Z (zF eU (sG 256) (((((((SV.set ((95:Int).toNat) (2:UInt8)).set ((34:Int).toNat) (5:UInt8)).set ((35:Int).toNat) (7:UInt8)).set ((10:Int).toNat) (6:UInt8)).set ((32:Int).toNat) (1:UInt8)).set ((9:Int).toNat) (1:UInt8)).set ((13:Int).toNat) (1:UInt8)) Z Z Z Z Z Z Y VF.1 VF.2 ?_);exact nx 2 Z (mQ (oi h0) (LW eU (((((((SV.set ((95:Int).toNat) (2:UInt8)).set ((34:Int).toNat) (5:UInt8)).set ((35:Int).toNat) (7:UInt8)).set ((10:Int).toNat) (6:UInt8)).set ((32:Int).toNat) (1:UInt8)).set ((9:Int).toNat) (1:UInt8)).set ((13:Int).toNat) (1:UInt8)) Z Z Z Z Z U1) (sr))
   refine lG (λ (Vy:Nat×(List UInt8))=>⟨[(0,.ptr 0 0),(1,.ptr 1 0),(22,.it 22 ([123,125,91,93,40,41,44,61,60,62,43,45,42,47,37,33,38,124,63,58,46]:Bytes) Vy.1)],[(0,((sG 256).map eU).map .p),(1,(Vy.2.map eU).map .p)]⟩) (λ m (Vy:Nat×(List UInt8))=>fX m Vy.1 Vy.2) Y (0,Sc) h1 (gE rfl rfl) ?_;rintro m ⟨t37,l38⟩ h1;replace h1:fX (m+1) t37 l38=some SV:=h1;rw [fX] at h1;refine nx 2 rfl (fD (p:=t37 < ([123,125,91,93,40,41,44,61,60,62,43,45,42,47,37,33,38,124,63,58,46]:Bytes).length) [] h1 rfl (λ XL h1=>?_) λ XL h1=>?_)
   ·refine cc' h1 λ VI h1=>mO Z (FD Z Z Z Z Z Z XL VI Z A0 Z ?_);refine nx 13 Z (cc' h1 λ Tt h1=>?_);refine cc' h1 λ Uq h1=>mO Z (cj Z Z Z Z Z Z Z Z Z Tt ?_);refine mO Z (gg (f:=eU) (l:=l38) (b:=(4:UInt8)) Z Z Z Z Z Z Z Z (by have:=(And.intro Tt.1 Uq); first | omega | (dsimp only; omega)) ?_);exact nx 1 Z (eX (t37+1,l38.set (((([123,125,91,93,40,41,44,61,60,62,43,45,42,47,37,33,38,124,63,58,46]:Bytes).getD t37 0).toNat:Int).toNat) (4:UInt8)) h1 (gE Z Z))
   refine mO Z (Ff Z Z Z Z XL ?_);exact nx 5 Z (eXi _ (oi h1).symm (gE Z Z))
  refine lG (λ (Xb:Int×(List UInt8))=>⟨[(0,.ptr 0 0),(1,.ptr 1 0),(3,.p (eK .i32 Xb.1))],[(0,((sG 256).map eU).map .p),(1,(Xb.2.map eU).map .p)]⟩) (λ m (Xb:Int×(List UInt8))=>gj m Xb.1 Xb.2) Y (48,WT) h1 (gE rfl rfl) ?_;rintro m ⟨T4,l24⟩ h1;replace h1:gj (m+1) T4 l24=some Sc:=h1;rw [gj] at h1;refine nx 6 rfl (fD [17] h1 rfl (λ c25 h1=>?_) λ c25 h1=>?_)
  ·refine nx 6 Z (cc' h1 λ Uu h1=>?_);refine cc' h1 λ U' h1=>mO Z (cj Z Z Z Z Z Z Z Z Z Uu ?_);refine mO Z (gg (f:=eU) (l:=l24) (b:=(3:UInt8)) Z Z Z Z Z Z Z Z (by have:=(And.intro Uu.1 U'); first | omega | (dsimp only; omega)) ?_);exact nx 6 Z (eX (IntKind.wrap .i32 (T4+1),l24.set T4.toNat (3:UInt8)) h1 (gE Z Z))
  exact rk
 refine lG (λ (Vx:Int×(List UInt8))=>⟨[(0,.ptr 0 0),(1,.ptr 1 0),(2,.p (eK .i32 Vx.1))],[(0,((sG 256).map eU).map .p),(1,(Vx.2.map eU).map .p)]⟩) (λ m (Vx:Int×(List UInt8))=>ge m Vx.1 Vx.2) Y (97,sG 256) h1 (gE rfl rfl) ?_;rintro m ⟨c8,l9⟩ h1;replace h1:ge (m+1) c8 l9=some WT:=h1;rw [ge] at h1;refine nx 6 rfl (fD [7] h1 rfl (λ VR h1=>?_) λ VR h1=>?_)
 ·refine nx 9 Z (cc' h1 λ TL h1=>?_);refine cc' h1 λ Vb h1=>mO Z (cj Z Z Z Z Z Z Z Z Z TL ?_);refine mO Z (gg (f:=eU) (l:=l9) (b:=(2:UInt8)) Z Z Z Z Z Z Z Z (by have:=(And.intro TL.1 Vb); first | omega | (dsimp only; omega)) ?_);refine cc' h1 λ Va h1=>cc' h1 λ Tw h1=>mO Z (cj Z Z Z Z Z Z Z Z Z Va ?_);refine mO Z (gg (f:=eU) (l:=l9.set c8.toNat (2:UInt8)) (b:=(2:UInt8)) Z Z Z Z Z Z Z Z (by have:=(And.intro Va.1 Tw); first | omega | (dsimp only; omega)) ?_);exact nx 6 Z (eX (IntKind.wrap .i32 (c8+1),(l9.set c8.toNat (2:UInt8)).set ((IntKind.wrap .i32 ((IntKind.wrap .i32 (c8 - 97))+65)).toNat) (2:UInt8)) h1 (gE Z Z))
 exact rk
end Go.Ab.R06
end
section
namespace Go.Ab.R06
open Go.Proofs Go.Ab Go.Ab.RB
section
variable {p:Prop}
theorem Ki (h:p:=by exact mQo (oi h0) (aQ _) Z Z Z (ar Z (au _) Z) (sr) ⟨⟨_,Z,aN _⟩,trivial⟩):p:=h
end
attribute [local irreducible] awp gk aX bv bV AV.sub M cC
theorem rA:lX 64=some ik:=by kernel_rfl
def jE (Mr:Bytes):Option ac:=some (.mk Mr 0 (-1) (.mk 0 0 []))
theorem ac.ones (x:ac):PV.onesB (ac.cs x)=true:=by kernel_rfl
theorem oU (Mr:Bytes)(r:ac)(h0:jE Mr=some r):bV Tryz.prog 51 [.p (eS Mr)] [] (λ x y=>x=.ptr 2000000 0/\y=[(2000000,(ac.cs r).map .p)]):=by
 unfold jE at h0;refine rQ good [6] [6] Tryz.func51 Z Z Z Z Z λ w0 F=>mPo (λ _:ac=>.ptr 2000000 0) (λ v=>[(2000000,(ac.cs v).map .p)]) ?_;refine nx 7 Z ?_;refine oK (rq 64 _ rA) Z trivial Tryz.call84 Z ?_;refine mO Z (yj (cs:=(ac.cs (.mk Mr 0 (-1) (.mk 0 0 []))).map .p) (y:=.p (.agg (ac.cs (.mk Mr 0 (-1) (.mk 0 0 []))))) Z Z Z Z Z Z Z (by kernel_rfl) (by simp only [lm,tB]) ?_);refine mO Z (KV (ac.cs (.mk Mr 0 (-1) (.mk 0 0 []))) Z Z Z Z (ac.ones _) Z Z ?_);exact nx 4 Z Ki
end Go.Ab.R06
end
section
namespace Go.Ab
section
variable {p:Prop}
theorem GX (h:p:=by
 simp only [bodyPostD,hd',Leaves]; exact ⟨v,hv w',fin p1 p2 p3 hS hr⟩):p:=h
end
structure PreO (w:World)(g:Gh):Prop where
 ok:Ok0 w g.st
 own:∀ i b,g.ow i=some b->b < w.heap.size/\i < 2*M1
 inj:∀ i j b,g.ow i=some b->g.ow j=some b->i=j
 nst:∀ i b,M1<=i->g.ow i=some b->∀ o,¬ g.st b o
def M9 (w:World)(g:Gh)(R:AV->List (Nat×List AV)->Prop)(v:Value)(w':World):Prop :=
 ∃ r obs' g',R r obs'/\ARep w' g' r v/\(∀ p∈obs',gZ w' g' p.1 p.2)/\lW w g w' g'
def zZ (P:Program)(f:FuncId)(args:List AV)(RO:List (Nat×List AV))(R:AV->List (Nat×List AV)->Prop):Prop :=
 ∀ (w:World) (g:Gh) (vs:Array Value) (u:FrameMode),PreO w g->vs.size=args.length->(∀ (i:Nat) c v,args[i]? = some c->vs[i]? = some v->ARep w g c v)->(∀ id cs,look RO id=some cs->gZ w g id cs) ->
  CallsD P f vs u w λ e u' w'=>u'=u/\∃ v,e=.returned v/\M9 w g R v w'
theorem NX {P:Program}{tt:List (Nat×TI)}(good:cQ P tt){f:FuncId}{fn:Func}{c:Code}{args:List AV}{RO rob:List (Nat×List AV)}{r:AV}(ts ids:List Nat)(hf:P.funcs[f]? = some fn)(hb:fn.body=some c)
  (hn:Nat.ble args.length fn.ntmps=true) (hnl:Nat.ble fn.ntmps M1=true) (hts:ts.all (λ i=>Nat.blt i M1)=true) (hnd:nodupB ts=true)
  (h:∀ w0 F,awp ⟨P,tt,good,fn.ntmps,hnl,w0,F⟩ c (uG ⟨P,tt,good,fn.ntmps,hnl,w0,F⟩ tt fn ts ids r rob) ⟨gb args,RO⟩):zZ P f args RO (λ x y=>x.sub r/\leO y rob) :=
 λ _ _ _ _ hp h1 h2 h3=>(callsD_of_wp hf hb (pN good ts ids (Nat.le_of_ble_eq_true hn) hnl hts hnd (λ w0 F=>qW (h w0 F)) hp.ok hp.own hp.inj hp.nst h1 h2 h3)).mono
  λ _ _ _ ⟨hu,v,r,obs',g',he,hR,e1,e2,e3⟩=>⟨hu,v,he,r,obs',g',hR,e1,e2,e3⟩
def QA:Option Code->Code
 | some (.seq _ (.seq _ B))=>B
 | _=>.skip
def F9 (P:Program)(fn:Func)(B:Code)(sl:List (Nat×AV))(RO:List (Nat×List AV))(R:AV->List (Nat×List AV)->Prop):Prop :=
 ∀ (w:World) (g:Gh) (a:Act),PreO w g->a.tmps.size=fn.ntmps->(∀ i,ARep w g ((⟨sl,RO⟩:AS).get i) (a.tmps.getD i Go.undef))->(∀ id cs,look RO id=some cs->gZ w g id cs) ->
  B.wp P (λ e a' w'=>(e=.normal\/e=.ret)/\a'.defers=a.defers/\∃ v,(∀ w2,(results fn a'.tmps).run P w2=.ok v w2)/\M9 w g R v w') a w
theorem Iw {P:Program}{tt:List (Nat×TI)}(good:cQ P tt){fn:Func}{B:Code}{t:Nat}{sl:List (Nat×AV)}{RO rob:List (Nat×List AV)}{r:AV}(ids:List Nat)(hres:fn.results.toList=[.tmp t])(hnl:Nat.ble fn.ntmps M1=true)
  (h:∀ w0 F,awp ⟨P,tt,good,fn.ntmps,hnl,w0,F⟩ B (uG ⟨P,tt,good,fn.ntmps,hnl,w0,F⟩ tt fn [] ids r rob) ⟨sl,RO⟩):F9 P fn B sl RO (λ x y=>x.sub r/\leO y rob):=by
 intro w g a hp RA OF hobs
 have hs:St fn.ntmps ⟨w,g.st,g.ow,hp.ok.gl,(λ i b h=>Nat.lt_of_lt_of_le (hp.own i b h).2 wd),a.defers⟩ (λ b=>b < w.heap.size/\∀ i,g.ow i≠some b) g ⟨sl,RO⟩ a w :=
  ⟨Z,RA,OF,hobs,hp.inj,λ i b hi=>⟨(hp.own i b hi).1,λ h=>h.2 i hi⟩,hp.ok.lt,λ b h=>h.1,λ b h=>rfl,Z,Z,Z,mv _,λ b _ o=>Iff.rfl,λ _ _ _=>rfl,jq.refl _ _,λ i b hi h=>hp.nst i b hi h,Ev.refl _ _⟩
 refine wp_mono (qW (h _ _) g a w hs) ?_;rintro e a' w' ⟨g1,s',h3,he,l,r1,obs1,obs',hl,hr,hpk,hm,hR⟩;obtain ⟨v,hv,hvr⟩:=mM good h3 fn l hl
 have hrun:∀ w2,(results fn a'.tmps).run P w2=.ok (a'.tmps.getD t Go.undef) w2:=λ w2=>by
  rw [tq,Array.mapM_eq_mapM_toList,hres];simp [wI]
 obtain ⟨g',e1,e2,e3⟩:=wK [] ids Z Z hp.own h3 hvr hr hpk hm
 have:v=a'.tmps.getD t Go.undef:=by
  have:=(hrun w').symm.trans hv
  injection this with h1 _
  exact h1.symm
 exact ⟨he,h3.nd,v,λ w2=>by rw [this]; exact hrun w2,_,_,g',hR,e1,e2,e3⟩
theorem zh:∀ {js:List Nat} {q:List AV} {i:Nat} {c:AV},look (js.zip q) i=some c->∃ k:Nat,js[k]? = some i/\q[k]? = some c
 | [],_,_,_,h=>by simp [look] at h
 | _::_,[],_,_,h=>by simp [look] at h
 | j::js,x::q,i,c,h=>by
  rw [List.zip_cons_cons,aS] at h;by_cases e:j=i
  ·rw [if_pos e] at h; cases h; exact ⟨0,by simp [e],rfl⟩
  ·rw [if_neg e] at h;obtain ⟨k,h1,h2⟩:=zh h;exact ⟨k+1,by simpa using h1,by simpa using h2⟩
theorem qS:∀ l:List AV,oZ l l
 | []=>trivial
 | x::r=>⟨AV.sub_refl x,qS r⟩
theorem Fc {C:Cx}{fn:Func}{B:Code}{sl:List (Nat×AV)}{ob:List (Nat×List AV)}(ids Ry:List Nat)(NB NE:Nat)(js:List Nat){l l':List AV}{RO qo rob ob':List (Nat×List AV)}{r r':AV}(hnt:C.n=fn.ntmps)
  (hB:F9 C.P fn B (js.zip l') qo (λ x y=>x.sub r/\leO y rob)) (hl:jA sl (js.map .tmp)=some l) (hl':AV.mapA.go (jz ids Ry) l=some l') (hpk:gv ob ids=some RO) (hmo:gf (jz ids Ry) RO=some qo) (hqq:leO qo qo)
  (hnd:nodupB ids=true) (hids:ids.all (λ i=>Nat.blt i (2*M1))=true) (hil:Nat.ble ids.length M1=true) (hdl:Nat.ble NE M1=true) (hdis:ids.all (λ i=>!(cn Ry NB NE i))=true)
  (hvd:nodupB Ry=true) (hvl:Ry.all (λ i=>Nat.blt i M1)=true) (hvn:Nat.ble Ry.length 100000=true) (hr:r.mapA (jk ids NB NE)=some r') (hro:gf (jk ids NB NE) rob=some ob')
  {g:Gh} {a a2:Act} {w:World} (hs:St C.n C.w0 C.F g ⟨sl,ob⟩ a w) (ht:a2.tmps=a.tmps) :
  B.wp C.P (λ e a' w'=>(e=.normal\/e=.ret)/\a'.defers=a2.defers/\∃ v,(∀ w2,(results fn a'.tmps).run C.P w2=.ok v w2)/\∃ g2,St C.n C.w0 C.F g2 ⟨(cW (cn Ry NB NE) ⟨sl,ob⟩).sl,ob'++(cW (cn Ry NB NE) ⟨sl,ob.filter λ p=>!(ids.any (Nat.beq p.1))⟩).ob⟩ a w'/\ARep w' g2 r' v) a2 w:=by
 obtain ⟨a1,a1'⟩:=jV hs _ l hl;have Mp:(js.map λ j=>a.eval (.tmp j)).length=l.length:=by simpa using a1.symm
 obtain ⟨gc,⟨k1,k2,k3,k4,k5,k6,k7⟩,hpost⟩:=po ids Ry NB NE hl' (qS l') hpk hmo hqq hnd hids hil hdl hdis hvd hvl hvn hs (avs:=(js.map λ j=>a.eval (.tmp j)).toArray) pK
  (λ i c v hc hv=>a1' i c v hc (by simpa using hv))
 refine wp_mono (hB w gc a2 ⟨k1,k2,k3,k4⟩ (by rw [ht,hs.sz,hnt]) (λ i=>?_) k7) ?_
 ·unfold AS.get
  cases hq:look (js.zip l') i with
  | none=>exact .undef _
  | some c =>
   obtain ⟨k,h1,h2⟩:=zh hq;simp only [Option.getD_some];refine k6 k c _ h2 ?_;have:a2.tmps.getD i Go.undef=a.eval (.tmp i):=by rw [ht]; rfl
   rw [this];simp [h1]
 ·rintro e a' w' ⟨he,hd,v,hv,x,y,g',⟨hx,hy⟩,e1,e2,e3⟩
  obtain ⟨g2,f1,f2⟩:=hpost w' v r r' rob ob' g' (hx _ _ _ e1) (λ p hp=>by
   obtain ⟨ds,m1,m2⟩:=sI hy p hp
   exact oG (e2 (p.1,ds) (f0 m1)) m2) e3 hr hro
  exact ⟨he,hd,v,hv,g2,f1,f2⟩
theorem Oj {C:Cx}{k:FuncId}{sl:List (Nat×AV)}{ob:List (Nat×List AV)}(ids Ry:List Nat)(NB NE:Nat)(j:Nat){x:AV}{l':List AV}{RO qo rob ob':List (Nat×List AV)}{r r':AV}{u:FrameMode}
  (hD:zZ C.P k l' qo (λ x y=>x.sub r/\leO y rob)) (hl:look sl j=some x) (hl':AV.mapA.go (jz ids Ry) [x]=some l') (hpk:gv ob ids=some RO) (hmo:gf (jz ids Ry) RO=some qo) (hqq:leO qo qo)
  (hnd:nodupB ids=true) (hids:ids.all (λ i=>Nat.blt i (2*M1))=true) (hil:Nat.ble ids.length M1=true) (hdl:Nat.ble NE M1=true) (hdis:ids.all (λ i=>!(cn Ry NB NE i))=true)
  (hvd:nodupB Ry=true) (hvl:Ry.all (λ i=>Nat.blt i M1)=true) (hvn:Nat.ble Ry.length 100000=true) (hr:r.mapA (jk ids NB NE)=some r') (hro:gf (jk ids NB NE) rob=some ob')
  {g:Gh} {a:Act} {w:World} (hs:St C.n C.w0 C.F g ⟨sl,ob⟩ a w) :
  CallsD C.P k #[a.eval (.tmp j)] u w λ e u' w'=>u'=u/\∃ v,e=.returned v/\∃ g2,St C.n C.w0 C.F g2 ⟨(cW (cn Ry NB NE) ⟨sl,ob⟩).sl,ob'++(cW (cn Ry NB NE) ⟨sl,ob.filter λ p=>!(ids.any (Nat.beq p.1))⟩).ob⟩ a w':=by
 have hx:ARep w g x (a.eval (.tmp j)):=bC hs (x:=.tmp j) hl
 obtain ⟨gc,⟨k1,k2,k3,k4,k5,k6,k7⟩,hpost⟩:=po ids Ry NB NE hl' (qS l') hpk hmo hqq hnd hids hil hdl hdis hvd hvl hvn hs (avs:=#[a.eval (.tmp j)]) rfl
  (λ i c v hc hv=>by
   match i,hc,hv with
   | 0,hc,hv=>simp at hc hv; subst hc hv; exact hx)
 refine (hD w gc _ u ⟨k1,k2,k3,k4⟩ k5 k6 k7).mono ?_;rintro e u' w' ⟨hu,v,he,x,y,g',⟨hx,hy⟩,e1,e2,e3⟩
 obtain ⟨g2,f1,_⟩:=hpost w' v r r' rob ob' g' (hx _ _ _ e1) (λ p hp=>by
   obtain ⟨ds,m1,m2⟩:=sI hy p hp
   exact oG (e2 (p.1,ds) (f0 m1)) m2) e3 hr hro
 exact ⟨hu,v,he,g2,f1⟩
theorem K7 {P:Program}{tt:List (Nat×TI)}(good:cQ P tt){f k:FuncId}{fn:Func}{args:List AV}{RO rob:List (Nat×List AV)}{c:Value}{R0 R1 R2 B:Code}{rid t j q:Nat}{o1 o2:Oper}{s0 s1 s2:AS}{b:Bool}(ids:List Nat)
  (hf:P.funcs[f]? = some fn) (hb:fn.body=some (.seq R0 (.seq (.seq R1 (.cond (.tmp t) (.seq R2 (.region rid #[o1,o2] false)) .skip)) B)))
  (hn:Nat.ble args.length fn.ntmps=true) (hnl:Nat.ble fn.ntmps M1=true)
  (h0:∀ w0 F,awp ⟨P,tt,good,fn.ntmps,hnl,w0,F⟩ R0 (λ e s=>e=.normal/\s=s0) ⟨gb args,RO⟩)
  (h1:∀ w0 F,awp ⟨P,tt,good,fn.ntmps,hnl,w0,F⟩ R1 (λ e s=>e=.normal/\s=s1) s0) (hc:evo s1.sl (.tmp t)=some (.p (eB b)))
  (hF:b=false->∃ sE obs1 obs2,gv sE.ob ids=some obs1/\gf (ll []) obs1=some obs2/\leO obs2 rob/\∀ w0 F g a a2 w,St fn.ntmps w0 F g s1 a w->a2.tmps=a.tmps ->
   B.wp P (λ e a' w'=>(e=.normal\/e=.ret)/\a'.defers=a2.defers/\∃ v,(∀ w2,(results fn a'.tmps).run P w2=.ok v w2)/\∃ g2,St fn.ntmps w0 F g2 sE a w'/\ARep w' g2 (.p (.val c)) v) a2 w)
  (hT:b=true->(∀ w0 F,awp ⟨P,tt,good,fn.ntmps,hnl,w0,F⟩ R2 (λ e s=>e=.normal/\s=s2) s1)/\(o1.op=.makeFunc (.func k) #[] #[.tmp j]/\o1.dst=some q/\Nat.blt q fn.ntmps=true/\o1.guard=none/\o2.op=.defer { callee:=.value (.tmp q),args:=#[],argTypes:=#[] }/\o2.dst=none/\o2.guard=none/\Nat.beq j q=false) /\
   (∀ vs w,(callFunc k vs).run P w=.ok (.enter k vs) w)/\∃ sE sD obs1 obs2 x,look s2.sl j=some x/\gv sD.ob ids=some obs1/\gf (ll []) obs1=some obs2/\leO obs2 rob /\
    (∀ w0 F g a a2 w,St fn.ntmps w0 F g ⟨(q,.func (.func k) [x])::s2.sl,s2.ob⟩ a w->a2.tmps=a.tmps ->
     B.wp P (λ e a' w'=>(e=.normal\/e=.ret)/\a'.defers=a2.defers/\∃ v,(∀ w2,(results fn a'.tmps).run P w2=.ok v w2)/\∃ g2,St fn.ntmps w0 F g2 sE a w'/\ARep w' g2 (.p (.val c)) v) a2 w) /\
    ∀ w0 F g a w u,St fn.ntmps w0 F g sE a w->CallsD P k #[a.eval (.tmp j)] u w λ e u' w'=>u'=u/\∃ v,e=.returned v/\∃ g2,St fn.ntmps w0 F g2 sD a w') :
  bV P f args RO (λ x y=>x=.p (.val c)/\y=rob):=by
 refine bV.of_sub ?_;intro w g vs hlt hown hinj hnst k1 k2 hobs;refine calls_of_wp_defers hf hb ?_;have hn':=Nat.le_of_ble_eq_true hn
 have hs:St fn.ntmps ⟨w,g.st,g.ow,hlt.gl,(λ i b h=>Nat.lt_of_lt_of_le (hown i b h).2 wd),[]⟩ (λ b=>b < w.heap.size/\∀ i,g.ow i≠some b) g ⟨gb args,RO⟩ { tmps:=vs++Array.replicate (fn.ntmps - vs.size) Go.undef,defers:=[] } w:=by
  refine ⟨Z,?_,?_,hobs,hinj,?_,hlt.lt,?_,?_,Z,Z,Z,mv _,λ b _ o=>Iff.rfl,λ _ _ _=>rfl,jq.refl _ _,λ i b hi h=>hnst i b hi h,Ev.refl _ _⟩
  ·exact AR
  ·intro i;have:=nM args 0 i;simp only [AS.get,gb,this,rg,if_true,Nat.sub_zero]
   cases ha:args[i]? with
   | none=>exact .undef _
   | some x =>
    have hi:i < args.length:=(List.getElem?_eq_some_iff.1 ha).1;have hi2:i < vs.size:=by omega
    have e:(vs++Array.replicate (fn.ntmps - vs.size) Go.undef).getD i Go.undef=vs[i]:=by
     exact AY
    simp only [Option.getD_some];rw [e];exact k2 i x _ ha (Array.getElem?_eq_getElem hi2)
  ·intro i b hi; exact ⟨(hown i b hi).1,λ h=>h.2 i hi⟩
  ·intro b h; exact h.1
  ·intro b h; rfl
 -- behind everything: what is handed back
 have fin:∀ {sE:AS} {obs1 obs2:List (Nat×List AV)} {a:Act} {w':World} {g2:Gh} {v:Value},gv sE.ob ids=some obs1->gf (ll []) obs1=some obs2->leO obs2 rob ->
   St fn.ntmps ⟨w,g.st,g.ow,hlt.gl,(λ i b h=>Nat.lt_of_lt_of_le (hown i b h).2 wd),[]⟩ (λ b=>b < w.heap.size/\∀ i,g.ow i≠some b) g2 sE a w'->ARep w' g2 (.p (.val c)) v ->
   ∃ v1 r obs' g',Ending.returned v=.returned v1/\(AV.sub r (.p (.val c))/\leO obs' rob)/\ARep w' g' r v1/\(∀ p∈obs',gZ w' g' p.1 p.2)/\lW w g w' g':=by
  intro sE obs1 obs2 a w' g2 v p1 p2 p3 hS hv;obtain ⟨g',e1,e2,e3⟩:=wK [] ids Z Z hown hS hv rfl p1 p2;exact ⟨v,_,_,g',rfl,⟨AV.sub_refl _,p3⟩,e1,e2,e3⟩
 refine wp_seq (wp_mono (h0 _ _ g _ w hs) ?_);rintro e a0 w0 ⟨g0,s0',hs0,rfl,rfl⟩;refine wp_seq (wp_seq (wp_mono (h1 _ _ g0 a0 w0 hs0) ?_));rintro e a1 w1 ⟨g1,s1',hs1,rfl,rfl⟩;have hcv:a1.eval (.tmp t)=.bool b:=bK hs1 hc
 cases hbb:b with
 | false =>
  subst hbb;refine wp_cond_false hcv (wp_skip ?_);obtain ⟨sE,obs1,obs2,p1,p2,p3,hB⟩:=hF rfl;refine wp_mono (hB _ _ g1 a1 a1 w1 hs1 rfl) ?_;rintro e a' w' ⟨he,hd,v,hv,g2,hS,hr⟩;have hd':a'.defers=[]:=hd.trans hs1.nd;rcases he with rfl | rfl
  ·exact GX
  ·exact GX
 | true =>
  subst hbb;obtain ⟨h2,⟨m1,m2,m3,m4,m5,m6,m7,m8⟩,hen,sE,sD,obs1,obs2,x,hj,p1,p2,p3,hB,hD⟩:=hT rfl;refine wp_cond_true hcv (wp_seq (wp_mono (h2 _ _ g1 a1 w1 hs1) ?_));rintro e a2 w2 ⟨g2,s2',hs2,rfl,rfl⟩;refine wp_region ?_;have hx:ARep w2 g2 x (a2.eval (.tmp j)):=bC hs2 (x:=.tmp j) hj;have hq:q < fn.ntmps:=n8 ▸ m3;have e1:(execOp a2.eval o1).run P w2=.ok (.value (.func (.func k) #[] #[a2.eval (.tmp j)])) w2:=by simp [execOp,m1,Instr.makeFunc,Act.eval]
  have hs3:=hs2.put (d:=some q) (λ t ht=>by cases ht; exact hq) (x:=.func (.func k) [x]) (v:=.func (.func k) #[] #[a2.eval (.tmp j)]) (.func rfl λ i c v hc hv=>by
   match i,hc,hv with
   | 0,hc,hv=>simp at hc hv; subst hc hv; exact hx)
  obtain ⟨a3,ha3⟩:∃ a3,a3=a2.put (some q) (.func (.func k) #[] #[a2.eval (.tmp j)]):=⟨_,rfl⟩
  rw [<- ha3] at hs3
  have hqv:a3.eval (.tmp q)=.func (.func k) #[] #[a2.eval (.tmp j)]:=by
   have:q < a2.tmps.size:=by rw [hs2.sz]; exact hq
   rw [ha3]; simp [Act.put,Act.eval,Array.getD,this]
  have hjq:a3.eval (.tmp j)=a2.eval (.tmp j):=by
   have RP:q≠j:=λ e=>by subst e; simp at m8
   rw [ha3]; simp only [Act.put,Act.eval,Array.getD_eq_getD_getElem?,Array.getElem?_setIfInBounds,if_neg RP]
  have e2:(execOp a3.eval o2).run P w2=.ok (.defer { target:=.fn (.func k) #[a2.eval (.tmp j)],args:=#[] }) w2:=by simp [execOp,m5,resolve,hqv,Deferred.ofValue]
  have hr:List.range (#[o1,o2]:Array Oper).size=[0,1]:=rfl;rw [hr];have g0':(#[o1,o2]:Array Oper)[0]? = some o1:=rfl;have g1':(#[o1,o2]:Array Oper)[1]? = some o2:=rfl;simp only [wpOps,g0',g1',Region.wanted,m4,m7,if_true];refine .inl ?_;unfold Oper.wp;rw [e1];simp only [Oper.upon,m2];rw [<- ha3];refine .inl ?_;rw [e2];simp only [m6,Act.put];refine wp_mono (hB _ _ g2 a3 { a3 with defers:={ target:=.fn (.func k) #[a2.eval (.tmp j)],args:=#[] }::a3.defers } w2 hs3 rfl) ?_;rintro e a' w' ⟨he,hd,v,hv,g3,hS,hrv⟩;have hnd:a3.defers=[]:=hs3.nd;rw [hnd] at hd
  have key:Leaves P fn a'.tmps (λ e w'=>∃ v r obs' g',e=.returned v/\(AV.sub r (.p (.val c))/\leO obs' rob)/\ARep w' g' r v/\(∀ p∈obs',gZ w' g' p.1 p.2)/\lW w g w' g') a'.defers .returning w':=by
   rw [hd];refine leaves_cons (f:=k) (args:=#[a2.eval (.tmp j)]) G (by simp [invoke,hen]) ?_;have:=hD _ _ g3 a3 w' .returning hS;rw [hjq] at this;refine this.mono ?_;rintro e u' w'' ⟨hu,v2,he2,g4,hS4⟩;subst hu he2;simp only [settle,Leaves];refine ⟨v,hv w'',fin p1 p2 p3 hS4 ?_⟩
   cases hrv with
   | p hrv=>cases hrv; exact .p (.val _)
  rcases he with rfl | rfl
  ·exact key
  ·exact key
theorem mR {C:Cx}{c:Code}{s t:AS}(h:M C (λ e s=>e=.normal/\s=t) ⟨.cd c,[],s⟩):awp C c (λ e s=>e=.normal/\s=t) s:=qW h
theorem mE {C:Cx}{s t:AS}(h:cC C s t):M C (λ e s=>e=.normal/\s=t) ⟨.ex .normal,[],s⟩:=⟨t,h,Z,Z⟩
end Go.Ab
end
section
namespace Go.Ab.R06
open Go.Proofs Go.Ab Go.Ab.RB
attribute [local irreducible] awp gk aX bv bV AV.sub M cC
theorem lL (x:ac):zZ Tryz.prog 132 [.ptr 1000000 0] [(1000000,[.ptr 1000001 0]),(1000001,(ac.cs x).map .p)] (λ a b=>a.sub (.tuple [])/\leO b [(1000000,[.ptr 1000001 0]),(1000001,(ac.cs (.mk x.fs x.fat (-1) x.AT)).map .p)]):=by
 refine NX good [] [1000000,1000001] Tryz.func132 Z Z Z Z Z λ w0 F=>mPo (v0:=ac.mk x.fs x.fat (-1) x.AT) (λ _:ac=>.tuple []) (λ v=>[(1000000,[.ptr 1000001 0]),(1000001,(ac.cs v).map .p)]) ?_;refine nx 4 Z (mO Z (fE Z Z Z Z Z Z Z Z (ac.b_outer _) (ac.u_outer _) ?_));exact nx 1 Z (Mf Z (aQ _) Z Z Z (ar Z Z (ar Z (au _) Z)) (sr) ⟨⟨_,Z,⟨sr,trivial⟩⟩,⟨_,Z,aN _⟩,trivial⟩)
end Go.Ab.R06
end
section
namespace Go.Ab
theorem BL {w:World}{g:Gh}{tok sz ty:Nat}{es:List PV}{b off cap:Nat}(h:ARep w g (.vec tok sz ty es) (.slice (some ⟨b,off,none⟩) es.length cap))(hc:es.length+1<=cap) :
  ARep w g (.vecp tok sz ty es) (.slice (some ⟨b,off,none⟩) (es.length+1) cap):=by
 generalize hv:Value.slice (some ⟨b,off,none⟩) es.length cap=v at h
 cases h with
 | vecn=>cases hv
 | vece _ _ a=>injection hv with _ _ h3; omega
 | vec how hb RL RA RN hr hty =>
  injection hv with h1 h2 h3
  injection h1 with h1
  injection h1 with h4 h5
  subst h3 h4 h5;exact .vecp how hb RL hc RA RN hr hty
section
variable {C:Cx} {o:Oper} {K:AS->Prop} {sl:List (Nat×AV)} {ob:List (Nat×List AV)} {d:Nat}
theorem mc (ty0:Nat){es ys:List PV}{t tx e:TypeId}{i ie:TI}{y:Operand}(D:Nat->Bool)(hDl:∀ i,D i=true->i < M1)(hDd:D d=true)(hy1:ys.length=1)
  (hi:look C.tt t=some i) (RR:i.k=.slice e) (hie:look C.tt e=some ie)
  (hS:vw C sl ob tx y ie.size ys) (hzl:ie.zero.length=ie.size)
  (Mp:(es.length+ys.length)*ie.bytes<=140737488355328) (hlen':es.length+ys.length<=9223372036854775807)
  {g:Gh} {a:Act} {w:World} (hs:St C.n C.w0 C.F g ⟨sl,ob⟩ a w) (base:Option Addr) (cap:Nat) (olds:List Value)
  (hold:(Builtin.firstCells ie.size es.length (.slice base es.length cap)).run C.P w.drew=.ok olds.toArray w.drew) (hol:olds.length=es.length*ie.size)
  (hes:∀ e,e∈es->e.cells.length=ie.size)
  (hoc:∀ (i:Nat) y (j:Nat) x,es[i]? = some y->y.cells[j]? = some x->x.one=true/\∃ u,olds[i*ie.size+j]? = some u/\PRep w g.st x u)
  (hg:cap < es.length+ys.length) (ty:TypeId) (hn:Nat.blt d C.n=true) (hty:ty0=0\/ty0=e+1) :
  ∃ v w' g',(Builtin.append_ #[t,tx] ty #[.slice base es.length cap,a.eval y]).run C.P w=.ok v w' /\
   St C.n C.w0 C.F g' ⟨(d,.vecp d ie.size ty0 es)::(cW D ⟨sl,ob⟩).sl,(cW D ⟨sl,ob⟩).ob⟩ (a.put (some d) v) w':=by
 obtain ⟨u,h1,h2⟩:=bJ C.good hi;have h3:=cU (h2.trans RR);subst h3;obtain ⟨info,hf1,hf2,hf3,z,hf4,hf5⟩:=jZ C.good hie;obtain ⟨news,hsrc,hnews⟩:=hS g a w hs;have hfit:=growslice_fits (bytes:=ie.bytes) hg Mp;have hrun:=run_append_grow_src w t tx ty e info z h1 hf1 hf4 base es.length cap olds (by rw [hf2]; exact hold) (a.eval y) ys.length news pI hg O (by rw [hf3]; exact hfit);obtain ⟨q,hq⟩:∃ q,q=grownCap w (es.length+ys.length) cap e:=⟨_,rfl⟩
 rw [<- hq] at hrun
 have hqn:es.length+ys.length<=q:=by
  rw [hq]; unfold grownCap; simp only [Question.cut]; omega
 have hzs:z.cells.size=ie.size:=by rw [<- hzl,<- hf5,Array.length_toList]
 obtain ⟨c,hc⟩:∃ c,c=(olds++news).toArray++Builtin.zeroCells z.cells (q - (es.length+ys.length)):=⟨_,rfl⟩
 rw [<- hc] at hrun
 have RL:c.size=q*ie.size:=by
  exact G0
 have hget:∀ m,m < es.length*ie.size->c[m]? = olds[m]?:=by
  intro m hm;rw [hc,Array.getElem?_append];simp only [List.size_toArray,bt,hol,hsrc.newsLen];rw [if_pos O,List.getElem?_toArray,List.getElem?_append,hol,if_pos hm]
 have hf:=hs.drew.fresh D hDl d hDd (λ o=>o < es.length*ie.size) c e
 have hv:ARep (w.drew.alloc (.cells c e)) ⟨λ b o=>g.st b o\/(b=w.drew.heap.size/\o < es.length*ie.size),λ i=>if i=d then some w.drew.heap.size else if D i then none else g.ow i⟩
   (.vec d ie.size ty0 es) (.slice (some ⟨w.drew.heap.size,0,none⟩) es.length q):=by
  refine F5 G gI RL O hes (λ o=>⟨λ h=>?_,λ h=>.inr ⟨Z,h⟩⟩) (λ i y j x hy hx=>?_) hty
  ·exact HQ
  ·have RI:=mz (w:=w.drew) (T:=λ o=>o < es.length*ie.size) (ob:=.cells c e) hs.drew.lt;have hcl:=hes y (List.mem_of_getElem? hy);have hjl:j < ie.size:=by rw [<- hcl]; exact (List.getElem?_eq_some_iff.1 hx).1
   have hil:i < es.length:=(List.getElem?_eq_some_iff.1 hy).1;have hm1:(i+1)*ie.size<=es.length*ie.size:=Nat.mul_le_mul_right _ O;rw [Nat.add_mul] at hm1;obtain ⟨k1,u,hu,hr⟩:=hoc i y j x hy hx;refine ⟨k1,u,?_,(PRep.mono (w:=w) (w':=w.drew) (st:=g.st) (st':=g.st) (λ b o h=>⟨h,rfl⟩) hr).mono RI⟩;rw [hget _ O]; exact hu
 have hp:=hf.put (d:=some d) (λ t ht=>by cases ht; exact n8 ▸ hn) (BL hv O);rw [hy1] at hrun;exact ⟨_,_,_,hrun,hp⟩
theorem yP {t tx e:TypeId}{x y:Operand}{k sz ty:Nat}{es:List PV}{ys:List PV}{i ie:TI}(ho:o.op=.call { callee:=.builtin .append,args:=#[x,y],argTypes:=#[t,tx] })(hd:o.dst=some d)(hn:Nat.blt d C.n=true)
  (hi:look C.tt t=some i) (RR:i.k=.slice e) (hie:look C.tt e=some ie) (hx:evo sl x=some (.vec k sz ty es)) (hk:Nat.blt k M1=true) (hiz:ie.size=sz) (hy1:ys.length=1)
  (hS:vw C sl ob tx y ie.size ys) (_RA:∀ y∈ys,y.cells.length=ie.size) (h0:Nat.blt 0 ie.size=true) (hzl:Nat.beq ie.zero.length ie.size=true)
  (Mp:(es.length+1)*ie.bytes<=140737488355328) (hlen':es.length+1<=9223372036854775807) (hty:(Nat.beq ty 0||Nat.beq ty (e+1))=true)
  (hK:K ⟨(d,.vecp d sz ty es)::(cW (λ i=>Nat.beq i k||Nat.beq i d) ⟨sl,ob⟩).sl,(cW (λ i=>Nat.beq i k||Nat.beq i d) ⟨sl,ob⟩).ob⟩):aX C o K ⟨sl,ob⟩:=by
 subst hiz;rw [<- hy1] at Mp hlen';have h0':0 < ie.size:=by simpa using h0
 have hzl':=ld hzl;have hk':k < M1:=n8 ▸ hk;have hdl:d < M1:=by have h1:=Nat.le_of_ble_eq_true C.nl; have h2:d < C.n:=n8 ▸ hn; omega
 have hty':=FM hty
 have hDl:∀ i,(Nat.beq i k||Nat.beq i d)=true->i < M1:=by
  exact Hf
 intro g a w hs;have hxr:=bC hs hx;generalize hxv:a.eval x=xv at hxr
 have hrun0:∀ v w',(Builtin.append_ #[t,tx] o.type #[xv,a.eval y]).run C.P w=.ok v w'->(execOp a.eval o).run C.P w=.ok (.value v) w':=by
  intro v w' h;rw [iO ho];simp [builtin,hxv,h]
 cases hxr with
 | vecn =>
  obtain ⟨v,w',g',hr,RN⟩:=mc ty (es:=[]) (λ i=>Nat.beq i k||Nat.beq i d) hDl G hy1 hi RR hie hS hzl' pK tG hs none 0 []
   (run_firstCells_none w.drew ie.size 0 0 0) G G G (by simp [hy1]) o.type hn hty'
  exact tC
 | vece tok sz a0 =>
  obtain ⟨v,w',g',hr,RN⟩:=mc 0 (es:=[]) (λ i=>Nat.beq i k||Nat.beq i d) hDl G hy1 hi RR hie hS hzl' pK tG hs (some a0) 0 []
   (run_firstCells_some w.drew ie.size 0 a0 0 0 [] G G) G G G (by simp [hy1]) o.type hn hty'
  exact tC
 | vec how hb RL hsz' RN hr hty0 =>
  rename_i b off cap c e0;have hinv:=qE hsz' hb hr;have hcapE:es.length<=cap:=by cases hr with | nile _=>exact mv _ | slice _ _ hcap=>exact hcap
  by_cases hroom:es.length+ys.length<=cap
  ·obtain ⟨u,h1,h2⟩:=bJ C.good hi;have h3:=cU (h2.trans RR);subst h3;obtain ⟨info,hf1,hf2,hf3,z,hf4,hf5⟩:=jZ C.good hie;obtain ⟨news,hsrc,hnews⟩:=hS g a w hs
   have hfit:(off+es.length*ie.size)+news.length<=c.size:=by
    exact HJ
   have hstc:=run_storeCells_at C.P b (off+es.length*ie.size) e0 news 0 c w hb (by simpa using hfit) hsrc.one;simp only [Nat.add_zero] at hstc;obtain ⟨c',hc'⟩:∃ c',c'=(c.toList.take (off+es.length*ie.size)++news++c.toList.drop (off+es.length*ie.size+news.length)).toArray:=⟨_,rfl⟩
   rw [<- hc'] at hstc;have hrr:=mg t tx o.type e info h1 hf1 b off es.length cap (a.eval y) ys.length news pI hroom (by rw [hf2]; exact hstc)
   have RF:∀ j,c'[j]? = if off+es.length*ie.size<=j/\j < off+es.length*ie.size+news.length then news[j - (off+es.length*ie.size)]? else c[j]?:=by
    exact GI
   have hcs':c'.size=off+cap*ie.size:=by rw [<- RL,hc']; simp; omega
   have hin:=hs.inplace (λ i=>Nat.beq i k||Nat.beq i d) hDl (k:=k) (d:=d) how G G  hb (c':=c') (hcs'.trans RL.symm) (λ o h=>by
    have:=(RN o).1 h
    rw [RF o,if_neg O]) (λ o=>o < off+es.length*ie.size) (λ o h=>(RN o).1 h)
   have hEv:Ev w g.st (w.setRow b c') (λ b' o=>(b'=b/\o < off+es.length*ie.size)\/(b'≠b/\g.st b' o)):=by
    intro b' o h;by_cases e:b'=b
    ·subst e;have h5:=(RN o).1 h;refine ⟨.inl ⟨rfl,h5⟩,?_⟩;exact JE
    ·exact Ao
   have hv:ARep (w.setRow b c') ⟨λ b' o=>(b'=b/\o < off+es.length*ie.size)\/(b'≠b/\g.st b' o),λ i=>if i=d then some b else if (Nat.beq i k||Nat.beq i d) then none else g.ow i⟩
     (.vec d ie.size ty es) (.slice (some ⟨b,off,none⟩) es.length cap):=by
    refine sM G (setRow_heap w b c c' e0 (0,0) hb) hcs' hcapE hsz' (λ o=>⟨λ h=>?_,λ h=>.inl ⟨Z,h⟩⟩) (λ i y j x hy hx=>?_) hty0
    ·rcases h with h | h
     ·exact h.2
     ·exact absurd Z h.1
    ·have hcl:=hsz' y (List.mem_of_getElem? hy);have hjl:j < ie.size:=by rw [<- hcl]; exact (List.getElem?_eq_some_iff.1 hx).1
     have hil:i < es.length:=(List.getElem?_eq_some_iff.1 hy).1;exact Jx
   have hp:=hin.put (d:=some d) (λ t ht=>by cases ht; exact n8 ▸ hn) (BL hv O);rw [hy1] at hrr;exact I9
  ·obtain ⟨olds,hol,hocell⟩:∃ olds:List Value,olds.length=es.length*ie.size/\∀ m,m < es.length*ie.size->olds[m]? = c[off+m]? :=
    ⟨((c.toList.drop off).take (es.length*ie.size)),by
     rw [List.length_take,n6,show c.toList.length=off+cap*ie.size from Array.length_toList.trans RL]
     have:=Nat.mul_le_mul_right ie.size hcapE; omega,λ m hm=>by rw [List.getElem?_take,if_pos hm,List.getElem?_drop,Array.getElem?_toList]⟩
   have hold:(Builtin.firstCells ie.size es.length (.slice (some ⟨b,off,none⟩) es.length cap)).run C.P w.drew=.ok olds.toArray w.drew:=by
    exact Im
   obtain ⟨v,w',g',hr',hst'⟩:=mc ty (es:=es) (λ i=>Nat.beq i k||Nat.beq i d) hDl G hy1 hi RR hie hS hzl' Mp hlen' hs (some ⟨b,off,none⟩) cap olds
    hold hol hsz' (λ i y j x hy hx=>by
     obtain ⟨k1,u,hu,hr⟩:=hinv i y j x hy hx;have hi:i < es.length:=(List.getElem?_eq_some_iff.1 hy).1;have hj:j < ie.size:=by rw [<- hsz' y (List.mem_of_getElem? hy)]; exact (List.getElem?_eq_some_iff.1 hx).1
     have hm2:(i+1)*ie.size<=es.length*ie.size:=Nat.mul_le_mul_right _ O;rw [Nat.add_mul] at hm2
     exact GU) O o.type hn hty'
   exact FK
theorem pQ {α:Type}(f:α->PV)(l0:List α){z:PV}{t tx e e':TypeId}{x y:Operand}{k sz ty:Nat}{i ie j:TI}(ho:o.op=.call { callee:=.builtin .append,args:=#[x,y],argTypes:=#[t,tx] })(hd:o.dst=some d)(hn:Nat.blt d C.n=true)
  (hi:look C.tt t=some i) (RR:i.k=.slice e) (hie:look C.tt e=some ie) (hj:look C.tt tx=some j) (hjk:j.k=.slice e') (hx:evo sl x=some (.vec k sz ty (l0.map f))) (hk:Nat.blt k M1=true) (hiz:ie.size=sz)
  (hy:evo sl y=some (.p (eL (λ x:PV=>x) [z]))) (RA:Nat.beq z.cells.length ie.size=true) (h0:Nat.blt 0 ie.size=true) (hzl:Nat.beq ie.zero.length ie.size=true) (hby:Nat.blt 0 ie.bytes=true)
  (hty:(Nat.beq ty 0||Nat.beq ty (e+1))=true) (Mp:(l0.length+1)*ie.bytes<=140737488355328)
  (hK:K ⟨(d,.vecp d sz ty (l0.map f))::(cW (λ i=>Nat.beq i k||Nat.beq i d) ⟨sl,ob⟩).sl,(cW (λ i=>Nat.beq i k||Nat.beq i d) ⟨sl,ob⟩).ob⟩):aX C o K ⟨sl,ob⟩:=by
 have hby':1<=ie.bytes:=Nat.succ_le_of_lt (by simpa using hby);have h1:(l0.length+1)*1<=(l0.length+1)*ie.bytes:=Nat.mul_le_mul_left _ hby';have hs':∀ y∈[z],y.cells.length=ie.size:=λ y hy=>by rw [List.mem_singleton.1 hy]; exact ld RA
 exact yP (ys:=[z]) ho hd hn hi RR hie hx hk hiz Z (om hj hjk hy Z hs' (by simpa using h0)) hs' h0 hzl (by rw [List.length_map]; exact Mp) (by rw [List.length_map]; omega) hty hK
theorem oO {t e:TypeId}{x y:Operand}{i ie:TI}{tok sz ty:Nat}{es:List PV}{k:IntKind}{n:Int}(ho:o.op=.indexAddr t x y)(hd:o.dst=some d)(hn:Nat.blt d C.n=true)
  (hi:look C.tt t=some i) (RR:i.k=.slice e) (hie:look C.tt e=some ie) (hiz:ie.size=sz) (hx:evo sl x=some (.vecp tok sz ty es)) (hy:evo sl y=some (.p (.val (.int k n)))) (hnn:n=(es.length:Int))
  (hK:K ⟨(d,.elp tok sz)::sl,ob⟩):aX C o K ⟨sl,ob⟩:=by
 subst hiz hnn;obtain ⟨u,h1,h2⟩:=bJ C.good hi;have h3:=cU (h2.trans RR);subst h3;refine ok_one hd hn (λ g a w hs=>?_) hK;have h5:=bC hs hx;generalize hv:a.eval x=v at h5
 cases h5 with
 | vecp how hb RL hcap RA RN hr hty =>
  rename_i b off cap c e0;refine ⟨.pointer (some ⟨b,off+es.length*ie.size,none⟩),?_,.elp how hb ?_ RN⟩
  ·have h6:(es.length:Int) < ((es.length+1:Nat):Int):=by omega
   simp [execOp,ho,hv,bK hs hy,Instr.indexAt,asIntOf,run_underlying h1,run_sizeOf C.good hie,add_lit]
  ·rw [RL];have:=Nat.mul_le_mul_right ie.size hcap;rw [Nat.add_mul,Nat.one_mul] at this;omega
def upP (tok sz:Nat)(z:PV)(x:AV):AV:=match x with
 | .vecp t s ty es=>bif Nat.beq t tok&&Nat.beq s sz then .vec t s ty (es++[z]) else .undef
 | x=>x.dem (Nat.beq · tok)
def upPS (tok sz:Nat)(z:PV):List (Nat×AV)->Option (List (Nat×AV))
 | []=>some []
 | (i,x)::r=>(match frc (upP tok sz z x) with
  | some y=>(match upPS tok sz z r with | some l=>some ((i,y)::l) | none=>none)
  | none=>none)
def KR (tok sz:Nat)(z:PV):List AV->Option (List AV)
 | []=>some []
 | x::r=>(match frc (upP tok sz z x) with
  | some y=>(match KR tok sz z r with | some l=>some (y::l) | none=>none)
  | none=>none)
theorem C9 {tok sz:Nat}{z:PV}:∀ {l l':List AV},KR tok sz z l=some l'->l'=l.map (upP tok sz z)
 | [],l',h=>by cases h; rfl
 | x::r,l',h=>by
  unfold KR at h;split at h
  ·rename_i y hy;split at h
   ·rename_i m hm; cases h; rw [AU hy,C9 hm]; rfl
   ·cases h
  ·cases h
def Eo (tok sz:Nat)(z:PV):List (Nat×List AV)->Option (List (Nat×List AV))
 | []=>some []
 | (i,cs)::r=>(match Nat.beq i tok with
  | true=>Eo tok sz z r
  | false=>(match KR tok sz z cs with
   | some ds=>(match Eo tok sz z r with | some l=>some ((i,ds)::l) | none=>none)
   | none=>none))
theorem rI {tok sz:Nat}{z:PV}:∀ {l l':List (Nat×List AV)},Eo tok sz z l=some l'->∀ id cs,look l' id=some cs->id≠tok/\∃ ds,look l id=some ds/\cs=ds.map (upP tok sz z)
 | [],l',h,id,cs,hc=>by cases h; cases hc
 | (i,xs)::r,l',h,id,cs,hc=>by
  unfold Eo at h;split at h
  ·rename_i hb;obtain ⟨h1,ds,h2,h3⟩:=rI h id cs hc;have hi:=ld hb;refine ⟨h1,ds,?_,h3⟩;rw [aS,if_neg (λ e'=>h1 O)];exact h2
  ·rename_i hb;have hi:i≠tok:=λ e=>by subst e; simp at hb
   split at h
   ·rename_i ds hds;split at h
    ·rename_i m hm
     cases h
     rw [aS] at hc ⊢;by_cases e1:i=id
     ·subst e1;rw [if_pos rfl] at hc ⊢
      cases hc
      exact ⟨hi,xs,Z,C9 hds⟩
     ·rw [if_neg e1] at hc ⊢;exact rI hm id cs hc
    ·cases h
   ·cases h
theorem LY {t:TypeId}{x v:Operand}{i:TI}{tok sz:Nat}{z:PV}{Y0z:AV}{sl':List (Nat×AV)}{ob':List (Nat×List AV)}(ho:o.op=.store t x v)(hd:o.dst=none)
  (hi:look C.tt t=some i) (hiz:i.size=sz) (hx:evo sl x=some (.elp tok sz)) (hv:evo sl v=some Y0z) (hY:Y0z.sub (.p z)) (hc:(AV.p z).cellsA=some (z.cells.map .p)) (hcl:Nat.beq z.cells.length sz=true) (htok:Nat.blt tok M1=true)
  (h1:sl'=sl.map λ p=>(p.1,upP tok sz z p.2)) (h2:Eo tok sz z ob=some ob') (hK:K ⟨sl',ob'⟩):aX C o K ⟨sl,ob⟩:=by
 subst hiz h1;have htl:tok < M1:=n8 ▸ htok;have hcl':=ld hcl;intro g a w hs;have h5:=bC hs hx;have h6:ARep w g (.p z) (a.eval v):=hY _ _ _ (bC hs hv);obtain ⟨hs1,hs2⟩:=kp hc h6;rw [List.length_map] at hs1;generalize RI:a.eval x=u at h5
 cases h5 with
 | elp how k2 hp RN =>
  rename_i b p c e
  have R6:∀ u∈(a.eval v).cells.toList,u.oneCell'=true:=by
   intro u hu;obtain ⟨j,hj,rfl⟩:=List.getElem_of_mem hu;simp only [Array.length_toList] at hj;exact (hs2 j ((z.cells.map AV.p)[j]' ef) _ (List.getElem?_eq_getElem ef) (by simp [hj])).2
  have hstc:=run_storeCells_at C.P b p e (a.eval v).cells.toList 0 c w k2 ef R6;simp only [Nat.add_zero,Array.length_toList] at hstc;obtain ⟨c',hc'⟩:∃ c',c'=(c.toList.take p++(a.eval v).cells.toList++c.toList.drop (p+(a.eval v).cells.size)).toArray:=⟨_,rfl⟩
  rw [<- hc'] at hstc;have hsz':=run_sizeOf C.good hi w;have RP:(a.eval v).cells.size=i.size:=hs1.trans hcl';unfold Oper.wp
  have hrun:(execOp a.eval o).run C.P w=.ok .skip (w.setRow b c'):=by
   simp [execOp,ho,RI,Instr.storeAt,Instr.sureAddr,storeVar,hsz',RP,hstc]
  rw [hrun];simp only [Oper.upon,hd,Act.put]
  have RF:∀ j,c'[j]? = if p<=j/\j < p+i.size then (a.eval v).cells[j - p]? else c[j]?:=by
   intro j;rw [hc'];have:=nu c.toList (a.eval v).cells.toList p ef j;simp only [Array.length_toList,Array.getElem?_toList,RP] at this;simpa [RP] using this
  have hsize':c'.size=c.size:=by
   rw [hc']; simp; omega
  obtain ⟨g',hg'⟩:∃ g':Gh,g'=⟨λ b' o=>(b'=b/\o < p+i.size)\/(b'≠b/\g.st b' o),g.ow⟩:=⟨_,rfl⟩
  have hst':∀ b' o,g'.st b' o↔(b'=b/\o < p+i.size)\/(b'≠b/\g.st b' o):=λ b' o=>by rw [hg']
  have how':g'.ow=g.ow:=by rw [hg']
  have hev':Ev w g.st (w.setRow b c') g'.st:=by
   intro b2 o2 h2;by_cases e1:b2=b
   ·subst e1;have:=(RN o2).1 h2;refine ⟨(hst' _ _).2 (.inl ⟨rfl,by omega⟩),?_⟩;simp only [World.cell?,k2,setRow_heap w b2 c c' e (0,0) k2];have h7:=RF o2;rw [if_neg O] at h7;simpa using h7
   ·exact ⟨(hst' _ _).2 (.inr ⟨e1,h2⟩),by simp only [World.cell?,setRow_other w b b2 c' e1]⟩
  have Ue:∀ id b2,Nat.beq id tok=false->g.ow id=some b2->b2≠b:=λ id b2 hD h e=>by
   subst e;have:=hs.inj id tok b2 h how;subst this;simp at hD
  have hE:EvO (Nat.beq · tok) w g (w.setRow b c') g':=by
   refine ⟨hev',λ id b2 _ h=>by rw [how']; exact h,λ id b2 c2 e2 hD h h2=>⟨c2,(setRow_other w b b2 c' (Ue id b2 hD h)).trans h2,Z⟩,λ id b2 o2 hD h h3=>?_,λ id b2 es2 k2' hD h h2=>(setRow_other w b b2 c' (Ue id b2 hD h)).trans h2,λ i hi=>?_,λ id b2 o2 hD h _=>setRow_other w b b2 c' (Ue id b2 hD h)⟩
   ·rcases (hst' _ _).1 h3 with h4 | h4
    ·exact absurd h4.1 (Ue id b2 hD h)
    ·exact h4.2
   ·cases hq:Nat.beq i tok
    ·rfl
    ·have:=ld hq; have:=Dh hi; omega
  have hup:∀ {y:AV} {u:Value},ARep w g y u->ARep (w.setRow b c') g' (upP tok i.size z y) u:=by
   intro y u h;unfold upP;split
   ·rename_i t s ty es
    cases hq:(Nat.beq t tok&&Nat.beq s i.size)
    ·exact fR
    ·simp only [n7] at hq;have e1:=ld hq.1;have e2:=ld hq.2;subst e1 e2;rw [cond_true]
     cases h with
     | vecp how2 hb2 hcs2 hcap2 hsz2 hst2 hr2 hty2 =>
      rename_i b2 off cap c2 e2;rw [how] at how2; cases how2;rw [k2] at hb2; cases hb2
      have hpo:p=off+es.length*i.size:=by
       rcases Nat.lt_trichotomy p (off+es.length*i.size) with h7 | h7 | h7
       ·have:=(RN p).1 ((hst2 p).2 h7); omega
       ·exact h7
       ·have:=(hst2 (off+es.length*i.size)).1 ((RN _).2 h7); omega
      have hinv:=qE hsz2 k2 hr2;have Mp:(es++[z]).length=es.length+1:=by simp
      have:=sM (w:=w.setRow b c') (g:=g') (tok:=t) (es:=es++[z]) (cap:=cap) (by rw [how']; exact how) (setRow_heap w b c c' e (0,0) k2) (hsize'.trans hcs2) (by rw [Mp]; exact hcap2) (λ x hx=>by
       rcases List.mem_append.1 hx with hx | hx
       ·exact hsz2 x hx
       ·rw [List.mem_singleton.1 hx]; exact hcl') (λ o=>by
       rw [hst',Mp,Nat.add_mul,Nat.one_mul]
       exact ⟨λ h=>h.elim (λ h=>by omega) (λ h=>absurd Z h.1),λ h=>.inl ⟨Z,by omega⟩⟩) (λ k y j x hy hx=>?_) hty2
      ·rw [Mp] at this; exact this
      ·have hcl2:y.cells.length=i.size:=by
        rcases List.mem_append.1 (List.mem_of_getElem? hy) with hx | hx
        ·exact hsz2 y hx
        ·rw [List.mem_singleton.1 hx]; exact hcl'
       have hjl:j < i.size:=by rw [<- hcl2]; exact (List.getElem?_eq_some_iff.1 hx).1
       rw [List.getElem?_append] at hy;split at hy
       ·rename_i hlt;obtain ⟨q1,u,hu,hr⟩:=hinv k y j x hy hx;have hm2:(k+1)*i.size<=es.length*i.size:=Nat.mul_le_mul_right _ O;rw [Nat.add_mul] at hm2;refine ⟨q1,u,?_,hr.mono hev'⟩;rw [RF,if_neg O]; exact hu
       ·rename_i hge
        have hk0:k - es.length=0:=by
         have:=(List.getElem?_eq_some_iff.1 hy).1;simp at this; omega
        rw [hk0] at hy;simp only [List.getElem?_cons_zero,bx] at hy;subst hy;have hke:k=es.length:=by omega
        subst hke;have hjc:j < (a.eval v).cells.size:=by omega
        have h8:=hs2 j (.p x) _ (by simp [hx]) (Array.getElem?_eq_getElem hjc);refine ⟨?_,(a.eval v).cells[j],?_,?_⟩
        ·have h9:PV.onesB z.cells=true\/z.one=true:=by
          cases z with
          | agg cs =>
           simp only [AV.cellsA] at hc
           cases ho:PV.onesB cs
           ·rw [ho] at hc; cases hc
           ·exact .inl ho
          | val _ =>
           simp only [AV.cellsA] at hc;rename_i v0
           cases ho:v0.oneCell'
           ·rw [ho] at hc; cases hc
           ·exact .inr ho
          | slice _=>exact .inr Z
          | ifc=>exact .inr Z
          | aint _=>exact .inr Z
         rcases h9 with h9 | h9
         ·exact io h9 x (List.mem_of_getElem? hx)
         ·have:z.cells=[z]:=by cases z <;> first | rfl | (simp [PV.one] at h9)
          rw [this] at hx;have:=(List.getElem?_eq_some_iff.1 hx).1;simp at this;subst this;simp at hx;rw [<- hx]; exact h9
        ·rw [RF,if_pos ⟨by omega,by omega⟩,hpo];rw [show off+es.length*i.size+j - (off+es.length*i.size)=j by omega];exact Array.getElem?_eq_getElem hjc
        ·cases h8.1 with
         | p hr=>exact hr.mono hev'
   ·exact h.dem hE
  refine ⟨g',⟨sl.map λ p=>(p.1,upP tok i.size z p.2),ob'⟩,?_,hK⟩;refine ⟨hs.nd,hs.sz,λ j=>?_,λ id' cs' h'=>?_,by rw [how']; exact hs.inj,λ j b2 h=>?_,λ b2 o2 h=>?_,hs.fl,λ b2 h=>?_,hs.os,hs.out,hs.tape,?_,λ b2 h o2=>?_,by rw [how']; exact hs.owf,hs.shf.next (λ _ b c e _ _ h=>(pg k2 hsize').1 b c e h),λ j b2 hj h o2 h3=>?_,hs.ev0.trans hev'⟩
  ·have h:=hs.sl j;simp only [AS.get,j8];simp only [AS.get] at h
   cases hl:look sl j with
   | none=>simp only [Option.map_none,Option.getD_none]; exact .undef _
   | some x=>rw [hl] at h; simpa using hup h
  ·obtain ⟨hne',ds,m1,rfl⟩:=rI h2 id' cs' h';obtain ⟨b2,c2,e2,n1,n2,n3,n4,n5⟩:=hs.ob id' ds m1
   have hD:Nat.beq id' tok=false:=by
    cases hq:Nat.beq id' tok
    ·rfl
    ·exact absurd (ld hq) hne'
   have hb2:=Ue id' b2 hD n1;refine ⟨b2,c2,e2,by rw [how']; exact n1,(setRow_other w b b2 c' hb2).trans n2,by simpa using n3,λ o2 h3=>?_,λ j y hy=>?_⟩
   ·rcases (hst' _ _).1 h3 with h4 | h4
    ·exact hb2 h4.1
    ·exact n4 o2 h4.2
   ·simp only [List.getElem?_map,wr] at hy;obtain ⟨y0,hy0,rfl⟩:=hy;obtain ⟨u,hu,hr⟩:=n5 j y0 hy0;exact ⟨u,hu,hup hr⟩
  ·rw [how'] at h;have:=hs.own j b2 h; exact ⟨by simpa using this.1,this.2⟩
  ·rcases (hst' _ _).1 h with h4 | h4
   ·have:=(hs.own tok b how).1; rw [h4.1]; simpa using this
   ·have:=hs.lt b2 o2 h4.2; simpa using this
  ·have RP:b2≠b:=λ e=>(hs.own tok b how).2 (e ▸ h);exact (setRow_other w b b2 c' RP).trans (hs.fr b2 h)
  ·have:=hs.size; simpa using this
  ·have RP:b2≠b:=λ e=>(hs.own tok b how).2 (e ▸ h)
   exact ⟨λ h3=>by
    rcases (hst' _ _).1 h3 with h4 | h4
    ·exact absurd h4.1 RP
    ·exact (hs.stf b2 h o2).1 h4.2,λ h3=>(hst' _ _).2 (.inr ⟨RP,(hs.stf b2 h o2).2 h3⟩)⟩
  ·rcases (hst' _ _).1 h3 with h4 | h4
   ·have h7:g.ow j=some b2:=(hs.owf j hj (C.w0.lo j b2 h)).trans h;have:=hs.inj j tok b2 h7 (by rw [h4.1]; exact how);omega
   ·exact hs.nst j b2 hj h o2 h4.2
theorem xb {t:TypeId}{x v:Operand}{i:TI}{tok sz:Nat}{z:PV}{sl':List (Nat×AV)}{ob':List (Nat×List AV)}(ho:o.op=.store t x v)(hd:o.dst=none)
  (hi:look C.tt t=some i) (hiz:i.size=sz) (hx:evo sl x=some (.elp tok sz)) (hv:evo sl v=some (.p z)) (hc:(AV.p z).cellsA=some (z.cells.map .p)) (hcl:Nat.beq z.cells.length sz=true) (htok:Nat.blt tok M1=true)
  (h1:sl'=sl.map λ p=>(p.1,upP tok sz z p.2)) (h2:Eo tok sz z ob=some ob') (hK:K ⟨sl',ob'⟩):aX C o K ⟨sl,ob⟩:=LY ho hd hi hiz hx hv (AV.sub_refl _) hc hcl htok h1 h2 hK
end
def rK (c:Nat)(imp:List Nat):ek->ek->Prop
 | (k,d,v)::r,(k',d',v')::r'=>(k=k'/\d=d'/\(imp.any (Nat.beq k)=true\/v c=v' c))/\rK c imp r r'
 | [],[]=>True
 | _,_=>False
theorem su {c:Nat}{imp:List Nat}:∀ {r1 r2:ek},rK c imp r1 r2->∀ k p,imp.any (Nat.beq k)=false->cD r2 k=some p->∃ v,cD r1 k=some (p.1,v)/\v c=p.2 c
 | [],[],_,k,p,_,h=>by cases h
 | (k1,d1,v1)::r,(k2,d2,v2)::r',⟨⟨e1,e2,e3⟩,hr⟩,k,p,hk,h=>by
  subst e1 e2;simp only [cD] at h ⊢
  cases hb:Nat.beq k1 k
  ·rw [hb,cond_false] at h;rw [cond_false];exact su hr k p hk h
  ·exact JZ
 | [],_::_,h,_,_,_,_=>h.elim
 | _::_,[],h,_,_,_,_=>h.elim
theorem Cc {C:Cx}{ops:Array Oper}{S1 S2:dT}{c k:Nat}{r1 r2:ek}{imp:List Nat}(h1:lks (cS r2 S2.m++S2.bas S2.m) ((cS r1 S1.m++S1.bas S1.m).map (·.1))=some ((cS r1 S1.m++S1.bas S1.m).map (·.2)))
  (h2:lkE (S1.obj S1.m) (S2.obj S2.m) (S1.obj S1.m)) (h3:rK c imp r1 r2) :
  DS C ops S2 (λ rev2=>(⟨cS rev2 S2.m++S2.bas S2.m,S2.obj S2.m⟩:AS).le ⟨cS r1 S1.m++S1.bas S1.m,S1.obj S1.m⟩/\rK c imp r1 rev2) [] k r2:=by
 exact IM
theorem Bb {C:Cx}{id:Nat}{ops:Array Oper}{Q:Exit->AS->Prop}{sl:List (Nat×AV)}{ob:List (Nat×List AV)}(S1 S2:dT){k0 k1 k2:Nat}{r:List Nat}(hm:C.P.follows .mixedOrders=true)
  (hi1:S1.imp=k0::k1::k2::r) (hi2:S2.imp=k0::k2::k1::r) (hlen1:S1.imp.length=S1.m) (hlen2:S2.imp.length=S2.m) (hob1:S1.obj 0=ob) (hob2:S2.obj 1=S1.obj 1) (hb:dM sl (S1.bas 0)) (hb2:S2.bas 1=S1.bas 1)
  (hbas1:∀ j,j < S1.m->dM (trL (S1.D j) (S1.bas j)) (S1.bas (j+1))) (hbas2:∀ j,j < S2.m->dM (trL (S2.D j) (S2.bas j)) (S2.bas (j+1)))
  (hnd:nodupB (k0::k1::k2::r)=true) (hin:(k0::k1::k2::r).all (λ i=>Nat.blt i ops.size)=true) (hch1:chainB ops (k0::k1::r)=true) (hch2:chainB ops (k0::k2::r)=true)
  (hord:(ops.toList.zipIdx.all λ p=>p.1.after.toList.all λ e=>!(Region.binds .any e)||Nat.blt e.on p.2)=true)
  (h:DS C ops S1 (λ rev1=>Q .normal ⟨cS rev1 S1.m++S1.bas S1.m,S1.obj S1.m⟩/\DS C ops S2 (λ rev2=>(⟨cS rev2 S2.m++S2.bas S2.m,S2.obj S2.m⟩:AS).le ⟨cS rev1 S1.m++S1.bas S1.m,S1.obj S1.m⟩/\rK 1 (k1::k2::r) rev1 rev2) ops.toList 0 []) ops.toList 0 []):awp C (.region id ops true) Q ⟨sl,ob⟩:=by
 intro g a w hs
 have hnd2:nodupB S2.imp=true:=by
  rw [hi2];simp only [nodupB,List.any_cons,Bool.not_or,n7,Bool.not_eq_true'] at hnd ⊢;obtain ⟨⟨b1,b2,b3⟩,⟨a1,a2⟩,a3,a4⟩:=hnd;refine ⟨⟨b2,b1,b3⟩,⟨?_,a3⟩,a2,a4⟩;exact Ib
 have hin2:S2.imp.all (λ i=>Nat.blt i ops.size)=true:=by
  rw [hi2];simp only [List.all_cons,n7] at hin ⊢;exact ⟨hin.1,hin.2.2.1,hin.2.1,hin.2.2.2⟩
 obtain ⟨fin1,⟨hf1,h2⟩,hP1⟩:=yn.mk' hlen1 hbas1 (by rw [hi1]; exact hnd) (by rw [hi1]; exact hin) hord h;obtain ⟨fin2,⟨hf2,hag⟩,hP2⟩:=yn.mk' hlen2 hbas2 hnd2 hin2 hord h2
 have chain:∀ (x y:Nat) (S:dT),S.imp=k0::x::y::r->chainB ops (k0::y::r)=true->chainB ops (k0::x::r)=true->∀ (listed:Array Bool) (j i q:Nat),zM ops S listed j->i∈Region.ready .any ops listed->S.imp[q]? = some i->j < q->q=2/\j=1:=by
  intro x y S hS hcy hcx listed j i q hI hi hq hjq;obtain ⟨h1,o,ho,hafter⟩:=mem_ready.1 hi
  have use:∀ z zi,S.imp[z]? = some zi->lu ops 4 o zi=true->z < j:=by
   exact FR
  match q,hq,hjq with
  | 0,_,hjq=>omega
  | 1,hq,hjq =>
   exfalso;rw [hS] at hq;have b1:=jd hcx 0 k0 i o Z pr ho;have:=use 0 k0 (by rw [hS]; rfl) b1;omega
  | 2,hq,hjq =>
   rw [hS] at hq;have b1:=jd hcy 0 k0 i o rfl pr ho;have:=use 0 k0 (by rw [hS]; rfl) b1;exact ⟨rfl,by omega⟩
  | q+3,hq,hjq =>
   exfalso;rw [hS] at hq;simp only [List.getElem?_cons_succ] at hq;have hql:q < r.length:=(List.getElem?_eq_some_iff.1 hq).1
   cases q with
   | zero =>
    have b1:=jd hcy 1 y i o Z pr ho;have:=use 2 y (by rw [hS]; rfl) b1;omega
   | succ q =>
    have b1:=jd hcy (q+2) r[q] i o (by simp [List.getElem?_eq_getElem (show q < r.length by omega)]) pr ho;have:=use (q+3) r[q] (by rw [hS]; simp [List.getElem?_eq_getElem (show q < r.length by omega)]) b1;omega
 have two:=mu hP2 hf2 hf1 2 (λ fuel listed g a w sl' j hj Sd i q hi hq hjq=>by
  have:=chain k2 k1 S2 hi2 hch1 hch2 listed j i q Sd.inv hi hq hjq; omega)
 refine wp_region_any hm ?_;refine (mu hP1 (AS.le_refl _) hf1 0 ?_).1 _ _ g a _ sl 0 (rg _) (PAt.start hb (by rw [hob1]; exact hs.drew));intro fuel listed g a w sl' j _ Sd i q hi hq hjq;obtain ⟨rfl,rfl⟩:=chain k1 k2 S1 hi1 hch2 hch1 listed j i q Sd.inv hi hq hjq;have RR:i=k2:=by rw [hi1] at hq; simpa using hq.symm
 subst RR
 have hno:∀ k,(k1::i::r).any (Nat.beq k)=true->listed.getD k false=false:=by
  intro k hk;obtain ⟨x,hx,hkx⟩:=List.any_eq_true.1 hk;have:=ld hkx;subst this;obtain ⟨z,hz⟩:=List.mem_iff_getElem?.1 hx;have:=Sd.inv.2.1 (z+1) k (by rw [hi1]; simpa using hz);exact F1
 have hm2:1<=S2.m:=by rw [<- hlen2,hi2]; simp
 refine two.2 fuel listed g a w sl' 1 i (.inr ⟨mv _,by rw [hi2]; rfl⟩) hi ⟨Sd.sz,Sd.un,⟨hm2,λ z k hz=>?_,Sd.inv.2.2⟩,⟨λ z x hx=>Sd.kn.1 z x (by rw [<- hb2]; exact hx),λ k p hk hp=>?_⟩,by rw [hob2]; exact Sd.st⟩
 ·cases z with
  | zero =>
   have hz0:k=k0:=by rw [hi2] at hz; simpa using hz.symm
   subst hz0;have:=Sd.inv.2.1 0 k (by rw [hi1]; rfl);exact this
  | succ z =>
   constructor
   ·intro hl
    have hmem:k∈(k1::i::r):=by
     have:=List.mem_of_getElem? (show (i::k1::r)[z]? = some k by rw [hi2] at hz; simpa using hz);exact Ht
    rw [hno k (List.any_eq_true.2 ⟨k,hmem,by simp⟩)] at hl
    cases hl
   ·intro h; omega
 ·have hk':(k1::i::r).any (Nat.beq k)=false:=by
   exact H3
  obtain ⟨v,hv1,hv2⟩:=su hag k p hk' hp;have:=Sd.kn.2 k _ hk hv1;rw [<- hv2]; exact this
theorem mSP {C:Cx}{Q:Exit->AS->Prop}{k:List Fr}{ops:Array Oper}{sl:List (Nat×AV)}{ob:List (Nat×List AV)}(S1 S2:dT){id k0 k1 k2:Nat}{r:List Nat}(hm:C.P.follows .mixedOrders=true)
  (hi1:S1.imp=k0::k1::k2::r) (hi2:S2.imp=k0::k2::k1::r) (hlen1:S1.imp.length=S1.m) (hlen2:S2.imp.length=S2.m) (hob1:S1.obj 0=ob) (hob2:S2.obj 1=S1.obj 1) (hb:dM sl (S1.bas 0)) (hb2:S2.bas 1=S1.bas 1)
  (hbas1:∀ j,j < S1.m->dM (trL (S1.D j) (S1.bas j)) (S1.bas (j+1))) (hbas2:∀ j,j < S2.m->dM (trL (S2.D j) (S2.bas j)) (S2.bas (j+1)))
  (hnd:nodupB (k0::k1::k2::r)=true) (hin:(k0::k1::k2::r).all (λ i=>Nat.blt i ops.size)=true) (hch1:chainB ops (k0::k1::r)=true) (hch2:chainB ops (k0::k2::r)=true)
  (hord:(ops.toList.zipIdx.all λ p=>p.1.after.toList.all λ e=>!(Region.binds .any e)||Nat.blt e.on p.2)=true)
  (h:DS C ops S1 (λ rev1=>M C Q ⟨.ex .normal,k,⟨cS rev1 S1.m++S1.bas S1.m,S1.obj S1.m⟩⟩/\DS C ops S2 (λ rev2=>(⟨cS rev2 S2.m++S2.bas S2.m,S2.obj S2.m⟩:AS).le ⟨cS rev1 S1.m++S1.bas S1.m,S1.obj S1.m⟩/\rK 1 (k1::k2::r) rev1 rev2) ops.toList 0 []) ops.toList 0 []) :
  M C Q ⟨.cd (.region id ops true),k,⟨sl,ob⟩⟩ :=
 Bb S1 S2 hm hi1 hi2 hlen1 hlen2 hob1 hob2 hb hb2 hbas1 hbas2 hnd hin hch1 hch2 hord h
end Go.Ab
end
section
namespace Go.Ab
open Go
section
variable {p:Prop}
theorem Kg (h:p:=by
 by_cases hj:j < S.m
 ·exact MR e7 j hj
 ·have:look (S.bas (j - S.m+S.m)) d=none:=congrFun e8 (j - S.m)
  rwa [show j - S.m+S.m=j by omega] at this):p:=h
theorem ID (h:p:=by
 unfold bnP
 split <;> first | rfl | contradiction | (rename_i h _; cases h) | (rename_i h; cases h)):p:=h
end
def tmO:Operand->List Nat
 | .tmp t=>[t]
 | _=>[]
def tmL:List (Nat×Operand)->List Nat
 | []=>[]
 | (_,x)::r=>tmO x++tmL r
def opR (o:Oper):List Nat:=match o.op with
 | .move x=>tmO x
 | .assign x=>tmO x
 | .pick c x y=>tmO c++(tmO x++tmO y)
 | .binOp _ _ x y _=>tmO x++tmO y
 | .unOp _ _ x=>tmO x
 | .fieldAddr _ x _=>tmO x
 | .load _ x=>tmO x
 | .nilCheck x=>tmO x
 | .extract x _=>tmO x
 | .field _ x _=>tmO x
 | .convert _ _ x=>tmO x
 | .build _ parts=>tmL parts.toList
 | .store _ x v=>tmO x++tmO v
 | _=>[]
def pH (o:Oper):Bool:=match o.op with
 | .call _=>false
 | _=>true
def knKS:ek->Nat->Option Nat
 | [],_=>none
 | (k,d,_)::r,i=>bif Nat.beq d i then some k else knKS r i
def Nv (bas:List (Nat×AV))(o:Oper)(rev:ek)(j i:Nat):Option AV:=match look bas i with
 | some x=>some x
 | none=>(match knKS rev i with
  | some k=>(match gP o k with
   | true=>(match cD rev k with
    | some (i',v)=>(match Nat.beq i' i with
     | true=>some (v j)
     | false=>none)
    | none=>none)
   | false=>none)
  | none=>none)
def tK (bas:List (Nat×AV))(o:Oper)(rev:ek)(j:Nat):List Nat->List (Nat×AV)
 | []=>[]
 | i::r=>(match Nv bas o rev j i with
  | some x=>(i,x)::tK bas o rev j r
  | none=>tK bas o rev j r)
theorem MG {bas:List (Nat×AV)}{o:Oper}{rev:ek}{j i:Nat}{x:AV}(h:Nv bas o rev j i=some x):look bas i=some x\/∃ k v,gP o k=true/\cD rev k=some (i,v)/\v j=x:=by
 unfold Nv at h;split at h
 ·rename_i y hy; cases h; exact .inl hy
 ·split at h
  ·rename_i k hk;split at h
   ·rename_i hb;split at h
    ·rename_i i' v hl;split at h
     ·rename_i hi
      cases h
      exact .inr ⟨k,v,hb,by rw [hl,ld hi],Z⟩
     ·cases h
    ·cases h
   ·cases h
  ·cases h
theorem j3 {bas:List (Nat×AV)}{o:Oper}{rev:ek}{j:Nat}:∀ (l:List Nat),KnS bas o rev j (tK bas o rev j l)
 | []=>trivial
 | i::r=>by
  unfold tK;split
  ·rename_i x hx; exact ⟨MG hx,j3 r⟩
  ·exact j3 r
section
variable {kn sl:List (Nat×AV)} {ob:List (Nat×List AV)} {C:Cx} {o:Oper}
theorem Aq {F:Option AV->Option AV}{x:Operand}{y:AV}(hs:∀ i x,look kn i=some x->look sl i=some x)(hF:F none=none)(h:F (evo kn x)=some y):F (evo sl x)=some y:=by
 cases hx:evo kn x with
 | none=>rw [hx,hF] at h; cases h
 | some v=>rw [hx] at h; rw [ir hs hx]; exact h
theorem LS {c x y:Operand}{z:AV}(hs:∀ i x,look kn i=some x->look sl i=some x)(h:pkP kn x y (evo kn c)=some z):pkP sl x y (evo sl c)=some z:=by
 cases hc:evo kn c with
 | none=>rw [hc] at h; cases h
 | some v =>
  rw [hc] at h;rw [ir hs hc];exact I5
theorem Mz {op:BinOp}{t:TypeId}(Y0z:Option AV):bnP C op t none Y0z=none:=by
 exact ID
theorem Jt {op:BinOp}{t:TypeId}(X:Option AV):bnP C op t X none=none:=by
 exact ID
theorem Ln {op:BinOp}{t:TypeId}{x y:Operand}{z:AV}(hs:∀ i x,look kn i=some x->look sl i=some x)(h:bnP C op t (evo kn x) (evo kn y)=some z):bnP C op t (evo sl x) (evo sl y)=some z:=by
 cases hx:evo kn x with
 | none=>rw [hx,Mz] at h; cases h
 | some v =>
  cases hy:evo kn y with
  | none=>rw [hy,Jt] at h; cases h
  | some u =>
   rw [hx,hy] at h;rw [ir hs hx,ir hs hy]; exact h
theorem uL (hs:∀ i x,look kn i=some x->look sl i=some x):∀ {ps:List (Nat×Operand)} {l:List (Nat×AV)},gh kn ps=some l->gh sl ps=some l
 | [],l,h=>h
 | (i,x)::r,l,h=>by
  unfold gh at h ⊢
  cases hx:evo kn x with
  | none=>rw [hx] at h; cases h
  | some v =>
   cases hr:gh kn r with
   | none=>rw [hx,hr] at h; cases h
   | some m =>
    rw [hx,hr] at h;rw [ir hs hx,uL hs hr]; exact h
theorem Lu {t f:Nat}:faP C t f none=none:=by
 unfold faP
 repeat' split
 all_goals first | rfl | contradiction
theorem Mb {t:Nat}:ldP C ob t none=none:=by
 unfold ldP
 repeat' split
 all_goals first | rfl | contradiction
theorem KW {t f:Nat}:flP C t f none=none:=by
 unfold flP
 repeat' split
 all_goals first | rfl | contradiction
theorem L6 {t f:Nat}:cvP C t f none=none:=by
 unfold cvP
 repeat' split
 all_goals first | rfl | contradiction
theorem KN {t:Nat}:buP C t none=none:=by
 unfold buP
 repeat' split
 all_goals first | rfl | contradiction
theorem Mg {t:Nat}{ps:List (Nat×Operand)}{y:AV}(hs:∀ i x,look kn i=some x->look sl i=some x)(h:buP C t (gh kn ps)=some y):buP C t (gh sl ps)=some y:=by
 cases hp:gh kn ps with
 | none=>rw [hp,KN] at h; cases h
 | some l=>rw [hp] at h; rw [uL hs hp]; exact h
theorem yV {y:AV}(hs:∀ i x,look kn i=some x->look sl i=some x)(hc:pH o=true)(h:opV C o kn ob=some y):opV C o sl ob=some y:=by
 unfold opV pH at *
 cases ho:o.op <;> simp only [ho] at h hc ⊢
 all_goals first
  | (cases h; done)
  | exact ir hs h
  | exact LS hs h
  | exact Ln hs h
  | exact Aq (F:=faP C _ _) hs Lu h
  | exact Aq (F:=ldP C ob _) hs Mb h
  | exact Aq (F:=ncP) hs Z h
  | exact Aq (F:=xtP _) hs Z h
  | exact Aq (F:=flP C _ _) hs KW h
  | exact Aq (F:=cvP C _ _) hs L6 h
  | exact Mg hs h
  | (cases hc; done)
  | skip
 all_goals (rename_i op _ _; cases op <;> simp only at h ⊢)
 all_goals first
  | (cases h; done)
  | exact Aq (F:=ntP) hs Z h
def stV (C:Cx)(o:Oper)(kn:List (Nat×AV))(ob:List (Nat×List AV)):Option (List (Nat×List AV)):=match o.op with
 | .store t x v=>(match look C.tt t with
  | some i=>(match evo kn x with
   | some (.ptr id k)=>(match evo kn v with
    | some y=>(match y.cellsA with
     | some xs=>(match Nat.beq xs.length i.size with
      | true=>(match look ob id with
       | some cs=>(match Nat.ble (k+xs.length) cs.length with
        | true=>some ((id,lZ cs k xs)::ob)
        | false=>none)
       | none=>none)
      | false=>none)
     | none=>none)
    | none=>none)
   | _=>none)
  | none=>none)
 | _=>none
theorem OM {ops:Array Oper}{ob':List (Nat×List AV)}{K:AS->Prop}(h:stV C o kn ob=some ob')(hg:o.guard=none)(hd:o.dst=none)(hs:∀ i x,look kn i=some x->look sl i=some x)(hK:K ⟨sl,ob'⟩):One C ops o K ⟨sl,ob⟩:=by
 unfold stV at h;split at h
 ·rename_i t x v ho;split at h
  ·rename_i i hi;split at h
   ·rename_i id k hx;split at h
    ·rename_i y hv;split at h
     ·rename_i xs hc;split at h
      ·rename_i RA;split at h
       ·rename_i cs hob;split at h
        ·rename_i hl
         cases h
         exact ak hg (mK ho hd hi (ir hs hx) (ir hs hv) hc (ld RA) hob (Nat.le_of_ble_eq_true hl) hK)
        ·cases h
       ·cases h
      ·cases h
     ·cases h
    ·cases h
   ·cases h
  ·cases h
 ·cases h
end
section
variable {C:Cx} {ops:Array Oper} {S:dT} {K:ek->Prop} {o:Oper} {k:Nat} {rev:ek} {d:Nat}
def sV (C:Cx)(ops:Array Oper)(S:dT)(o:Oper)(R:List Nat)(k:Nat)(rev:ek)(v:Nat->AV)(j:Nat):Option AV:=match lI ops S.imp o k j with
 | true=>opV C o (tK (S.bas j) o rev j R) (S.obj j)
 | false=>some (v j)
def sL (C:Cx)(ops:Array Oper)(S:dT)(o:Oper)(R:List Nat)(k:Nat)(rev:ek)(v:Nat->AV):Nat->List (Option AV)
 | 0=>[]
 | j+1=>sV C ops S o R k rev v j::sL C ops S o R k rev v j
def gL (ops:Array Oper)(S:dT)(o:Oper)(R:List Nat)(k:Nat)(rev:ek)(t:Nat)(x:AV):Nat->List (Option AV)
 | 0=>[]
 | j+1=>(match lI ops S.imp o k j with
  | true=>look (tK (S.bas j) o rev j R) t
  | false=>some x)::gL ops S o R k rev t x j
def vL (v:Nat->AV):Nat->List (Option AV)
 | 0=>[]
 | j+1=>some (v j)::vL v j
theorem MS {v:Nat->AV}(hg:o.guard=none)(hd:o.dst=some d)(hn:Nat.blt d C.n=true)(hc:pH o=true):∀ {m:Nat},sL C ops S o (opR o) k rev v m=vL v m->Stg C ops S o k rev d v m
 | 0,_=>trivial
 | j+1,h=>by
  have h1:sV C ops S o (opR o) k rev v j=some (v j):=(sm h).1;refine ⟨λ ha=>?_,MS hg hd hn hc (sm h).2⟩;unfold sV at h1;rw [ha] at h1;exact ⟨_,j3 _,λ sl hs K hK=>ak hg (tE (yV hs hc h1) hd hn hK)⟩
def cL (S:dT)(d:Nat):Nat->List (Option AV)
 | 0=>[]
 | j+1=>look (S.bas j) d::cL S d j
def nL:Nat->List (Option AV)
 | 0=>[]
 | j+1=>none::nL j
def aL (v:Nat->AV):Nat->List AV
 | 0=>[]
 | j+1=>v (j+1)::aL v j
def bL (S:dT)(v:Nat->AV):Nat->List AV
 | 0=>[]
 | j+1=>trA (S.D j) (v j)::bL S v j
theorem MR:∀ {m:Nat},cL S d m=nL m->∀ j,j < m->look (S.bas j) d=none
 | 0,_,j,h=>absurd h (Nat.not_lt_zero _)
 | m+1,h,j,hj=>by
  by_cases e:j=m
  ·subst e; exact (sm h).1
  ·exact MR (sm h).2 j O
theorem uc {v:Nat->AV}:∀ {m:Nat},aL v m=bL S v m->∀ j,j < m->v (j+1)=trA (S.D j) (v j)
 | 0,_,j,h=>absurd h (Nat.not_lt_zero _)
 | m+1,h,j,hj=>by
  by_cases e:j=m
  ·subst e; exact (sm h).1
  ·exact uc (sm h).2 j O
theorem dP {rest:List Oper}(v:Nat->AV)
  (e:(o.dst,S.imp.findIdx? (Nat.beq k),o.guard,pH o,(rev.all λ p=>!(Nat.beq p.2.1 d)),Nat.blt d C.n,cL S d S.m,(λ j=>look (S.bas (j+S.m)) d),aL v S.m,sL C ops S o (opR o) k rev v (S.m+1))=(some d,none,none,true,true,true,nL S.m,(λ _=>none),bL S v S.m,vL v (S.m+1)))
  (h:DS C ops S K rest (k+1) ((k,d,v)::rev)):DS C ops S K (o::rest) k rev:=by
 simp only [Prod.mk.injEq] at e;obtain ⟨e1,e2,e3,e4,e5,e6,e7,e8,e9,Vf⟩:=e;refine co v e2 e1 e5 (λ j=>?_) (uc e9) (MS e3 e1 e6 e4 Vf) h;exact Kg
theorem dPc {rest:List Oper}(y:AV)
  (e:(o.dst,S.imp.findIdx? (Nat.beq k),o.guard,pH o,(rev.all λ p=>!(Nat.beq p.2.1 d)),Nat.blt d C.n,cL S d S.m,(λ j=>look (S.bas (j+S.m)) d),aL (λ _=>y) S.m,sL C ops S o (opR o) k rev (λ _=>y) (S.m+1))=(some d,none,none,true,true,true,nL S.m,(λ _=>none),bL S (λ _=>y) S.m,vL (λ _=>y) (S.m+1)))
  (h:DS C ops S K rest (k+1) ((k,d,λ _=>y)::rev)):DS C ops S K (o::rest) k rev:=dP (λ _=>y) e h
theorem dS {rest:List Oper}{i:Nat}
  (e:(S.imp.findIdx? (Nat.beq k),o.dst,o.guard,S.D i,stV C o (tK (S.bas i) o rev i (opR o)) (S.obj i))=(some i,none,none,Tr.none,some (S.obj (i+1))))
  (h:DS C ops S K rest (k+1) rev):DS C ops S K (o::rest) k rev:=by
 simp only [Prod.mk.injEq] at e;obtain ⟨e1,e2,e3,e4,e5⟩:=e;refine kd _ e1 (j3 (opR o)) e2 (λ sl hs K hK=>?_) h;rw [e4] at hK;exact OM e5 e3 e2 hs hK
theorem rG (e7:cL S d S.m=nL S.m)(e8:(λ j=>look (S.bas (j+S.m)) d)=λ _=>none)(j:Nat):look (S.bas j) d=none:=by
 exact Kg
theorem Jq {v:Nat->AV}{R:List Nat}{w b:Bool}{g t:Nat}(hb:b=w)(hg:o.guard=some (g,w))(hj:(ops.toList[g]?).bind (·.dst)=some t)(hd:o.dst=some d)(hn:Nat.blt d C.n=true)(hc:pH o=true) :
  ∀ {m:Nat},gL ops S o R k rev t (.p (.val (.bool b))) m=vL (λ _=>.p (.val (.bool b))) m->sL C ops S o R k rev v m=vL v m->Stg C ops S o k rev d v m
 | 0,_,_=>trivial
 | j+1,hG,h=>by
  have h1:sV C ops S o R k rev v j=some (v j):=(sm h).1;have h2:=(sm hG).1;refine ⟨λ ha=>?_,Jq hb hg hj hd hn hc (sm hG).2 (sm h).2⟩;unfold sV at h1;rw [ha] at h1 h2;exact ⟨_,j3 _,λ sl hs K hK=>fu (tE (yV hs hc h1) hd hn hK) hg hj (hs _ _ h2) hb⟩
theorem dPy {rest:List Oper}{w b:Bool}{g t:Nat}(v:Nat->AV)(hb:b=w)
  (e:(o.dst,o.guard,(ops.toList[g]?).bind (·.dst),S.imp.findIdx? (Nat.beq k),pH o,(rev.all λ p=>!(Nat.beq p.2.1 d)),Nat.blt d C.n,cL S d S.m,(λ j=>look (S.bas (j+S.m)) d),aL v S.m,gL ops S o (t::opR o) k rev t (.p (.val (.bool b))) (S.m+1),sL C ops S o (t::opR o) k rev v (S.m+1))=(some d,some (g,w),some t,none,true,true,true,nL S.m,(λ _=>none),bL S v S.m,vL (λ _=>.p (.val (.bool b))) (S.m+1),vL v (S.m+1)))
  (h:DS C ops S K rest (k+1) ((k,d,v)::rev)):DS C ops S K (o::rest) k rev:=by
 simp only [Prod.mk.injEq] at e;obtain ⟨e1,e2,e3,e4,e5,e6,e7,e8,e9,Vf,Ux,WI⟩:=e;exact co v e4 e1 e6 (rG e8 e9) (uc Vf) (Jq hb e2 e3 e1 e7 e5 Ux WI) h
theorem HX {R:List Nat}{w b:Bool}{g t:Nat}(hb:b=!w)(hg:o.guard=some (g,w))(hj:(ops.toList[g]?).bind (·.dst)=some t)(hd:o.dst=some d)(hn:Nat.blt d C.n=true) :
  ∀ {m:Nat},gL ops S o R k rev t (.p (.val (.bool b))) m=vL (λ _=>.p (.val (.bool b))) m->Stg C ops S o k rev d (λ _=>.p (.val Go.undef)) m
 | 0,_=>trivial
 | j+1,hG=>by
  have h2:=(sm hG).1;refine ⟨λ ha=>?_,HX hb hg hj hd hn (sm hG).2⟩;rw [ha] at h2;exact ⟨_,j3 _,λ sl hs K hK=>HU hg hj (hs _ _ h2) hb hd hn hK⟩
theorem dPn {rest:List Oper}{w b:Bool}{g t:Nat}(hb:b=!w)
  (e:(o.dst,o.guard,(ops.toList[g]?).bind (·.dst),S.imp.findIdx? (Nat.beq k),(rev.all λ p=>!(Nat.beq p.2.1 d)),Nat.blt d C.n,cL S d S.m,(λ j=>look (S.bas (j+S.m)) d),aL (λ _=>.p (.val Go.undef)) S.m,gL ops S o [t] k rev t (.p (.val (.bool b))) (S.m+1))=(some d,some (g,w),some t,none,true,true,nL S.m,(λ _=>none),bL S (λ _=>.p (.val Go.undef)) S.m,vL (λ _=>.p (.val (.bool b))) (S.m+1)))
  (h:DS C ops S K rest (k+1) ((k,d,λ _=>.p (.val Go.undef))::rev)):DS C ops S K (o::rest) k rev:=by
 simp only [Prod.mk.injEq] at e;obtain ⟨e1,e2,e3,e4,e6,e7,e8,e9,Vf,Ux⟩:=e;exact co _ e4 e1 e6 (rG e8 e9) (uc Vf) (HX hb e2 e3 e1 e7 Ux) h
theorem GP {R:List Nat}{w:Bool}{g t:Nat}(hg:o.guard=some (g,w))(hj:(ops.toList[g]?).bind (·.dst)=some t)(hd:o.dst=some d)(hn:Nat.blt d C.n=true) :
  ∀ {m:Nat},gL ops S o R k rev t (.p (.val Go.undef)) m=vL (λ _=>.p (.val Go.undef)) m->Stg C ops S o k rev d (λ _=>.p (.val Go.undef)) m
 | 0,_=>trivial
 | j+1,hG=>by
  have h2:=(sm hG).1;refine ⟨λ ha=>?_,GP hg hj hd hn (sm hG).2⟩;rw [ha] at h2;exact ⟨_,j3 _,λ sl hs K hK=>yq hg hj (hs _ _ h2) hd hn hK⟩
theorem dPx {rest:List Oper}{w:Bool}{g t:Nat}
  (e:(o.dst,o.guard,(ops.toList[g]?).bind (·.dst),S.imp.findIdx? (Nat.beq k),(rev.all λ p=>!(Nat.beq p.2.1 d)),Nat.blt d C.n,cL S d S.m,(λ j=>look (S.bas (j+S.m)) d),aL (λ _=>.p (.val Go.undef)) S.m,gL ops S o [t] k rev t (.p (.val Go.undef)) (S.m+1))=(some d,some (g,w),some t,none,true,true,nL S.m,(λ _=>none),bL S (λ _=>.p (.val Go.undef)) S.m,vL (λ _=>.p (.val Go.undef)) (S.m+1)))
  (h:DS C ops S K rest (k+1) ((k,d,λ _=>.p (.val Go.undef))::rev)):DS C ops S K (o::rest) k rev:=by
 simp only [Prod.mk.injEq] at e;obtain ⟨e1,e2,e3,e4,e6,e7,e8,e9,Vf,Ux⟩:=e;exact co _ e4 e1 e6 (rG e8 e9) (uc Vf) (GP e2 e3 e1 e7 Ux) h
end
def lkM (s:List (Nat×List AV)):List (Nat×List AV)->List (Option (List AV))
 | []=>[]
 | (j,_)::r=>look s j::lkM s r
def smM:List (Nat×List AV)->List (Option (List AV))
 | []=>[]
 | (_,cs)::r=>some cs::smM r
theorem tX {s:List (Nat×List AV)}:∀ {t:List (Nat×List AV)},lkM s t=smM t->leO s t
 | [],_=>trivial
 | (_j,cs)::_r,h=>⟨⟨cs,(sm h).1,aN cs⟩,tX (sm h).2⟩
theorem uI:∀ l:List AV,oZ l l
 | []=>trivial
 | x::r=>⟨AV.sub_refl x,uI r⟩
def lkB (sl:List (Nat×AV)):List (Nat×AV)->List (Option AV)
 | []=>[]
 | (i,_)::r=>look sl i::lkB sl r
def smB:List (Nat×AV)->List (Option AV)
 | []=>[]
 | (_,x)::r=>some x::smB r
theorem qU {sl:List (Nat×AV)}:∀ {b:List (Nat×AV)},lkB sl b=smB b->dM sl b
 | [],_=>trivial
 | (_i,_x)::_r,h=>⟨(sm h).1,qU (sm h).2⟩
def lkS (S:dT):Nat->List (List (Option AV))
 | 0=>[]
 | j+1=>lkB (trL (S.D j) (S.bas j)) (S.bas (j+1))::lkS S j
def smS (S:dT):Nat->List (List (Option AV))
 | 0=>[]
 | j+1=>smB (S.bas (j+1))::smS S j
theorem uo {S:dT}:∀ {m:Nat},lkS S m=smS S m->∀ j,j < m->dM (trL (S.D j) (S.bas j)) (S.bas (j+1))
 | 0,_,j,h=>absurd h (Nat.not_lt_zero _)
 | m+1,h,j,hj=>by
  by_cases e:j=m
  ·subst e; exact qU (sm h).1
  ·exact uo (sm h).2 j O
section
variable {C:Cx} {Q:Exit->AS->Prop} {K:AS->Prop} {sl:List (Nat×AV)} {ob:List (Nat×List AV)} {o:Oper} {d:Nat} {s:AS} {k:List Fr} {ops:Array Oper}
theorem cVq (ids Ry:List Nat)(NB NE:Nat){f:FuncId}{args:Array Operand}{ts:Array TypeId}{l q:List AV}{RO qo rob ob':List (Nat×List AV)}{r r':AV}(hc:bV C.P f q qo (λ x y=>x=r/\y=rob))(henter:∀ vs w,(callFunc f vs).run C.P w=.ok (.enter f vs) w)
  (e:(o.op,o.dst,Nat.blt d C.n,jA sl args.toList,AV.mapA.go (jz ids Ry) l,gv ob ids,gf (jz ids Ry) RO,lkM qo qo,nodupB ids,ids.all (λ i=>Nat.blt i (2*M1)),Nat.ble ids.length M1,Nat.ble NE M1,ids.all (λ i=>!(cn Ry NB NE i)),nodupB Ry,Ry.all (λ i=>Nat.blt i M1),Nat.ble Ry.length 100000,r.mapA (jk ids NB NE),gf (jk ids NB NE) rob)=(.call { callee:=.value (.func f),args:=args,argTypes:=ts },some d,true,some l,some q,some RO,some qo,smM qo,true,true,true,true,true,true,true,true,some r',some ob'))
  (hK:K ⟨(d,r')::(cW (cn Ry NB NE) ⟨sl,ob⟩).sl,ob'++(cW (cn Ry NB NE) ⟨sl,ob.filter λ p=>!(ids.any (Nat.beq p.1))⟩).ob⟩):aX C o K ⟨sl,ob⟩:=by
 simp only [Prod.mk.injEq] at e;obtain ⟨e1,e2,e3,e4,e5,e6,e7,e8,e9,Vf,Ux,WI,WX,XI,e15,Uw,e17,e18⟩:=e;exact a8 ids Ry NB NE hc e1 e2 e3 e4 e5 (uI _) e6 e7 (tX e8) e9 Vf Ux WI WX XI e15 Uw henter e17 e18 hK
theorem mQoq {β:Type}{v v0:β}{tt:List (Nat×TI)}{fn:Func}{ts ids:List Nat}{mk:β->AV}{mo:β->List (Nat×List AV)}{RO:List (Nat×List AV)}{l:List AV}(e:some v=some v0)
  (h:(lz tt fn.results.toList s,(pj l).mapA (ll ts),gv s.ob ids,gf (ll ts) RO,lkM (mo v) (mo v))=(some l,some (mk v),some RO,some (mo v),smM (mo v))):M C (λ e s=>∃ v,v=v0/\uG C tt fn ts ids (mk v) (mo v) e s) ⟨.ex .ret,[],s⟩:=by
 simp only [Prod.mk.injEq] at h;obtain ⟨h1,h2,h3,h4,h5⟩:=h;exact mQo (Option.some.inj e) (aQ _) h1 h2 h3 h4 (AV.sub_refl _) (tX h5)
theorem mSq (S:dT){id:Nat}
  (e:(C.P.follows .mixedOrders,S.imp.length,S.obj 0,lkB sl (S.bas 0),lkS S S.m,nodupB S.imp,S.imp.all (λ i=>Nat.blt i ops.size),chainB ops S.imp,(ops.toList.zipIdx.all λ p=>p.1.after.toList.all λ e=>!(Region.binds .any e)||Nat.blt e.on p.2))=(true,S.m,ob,smB (S.bas 0),smS S S.m,true,true,true,true))
  (h:DS C ops S (λ rev=>M C Q ⟨.ex .normal,k,⟨cS rev S.m++S.bas S.m,S.obj S.m⟩⟩) ops.toList 0 []):M C Q ⟨.cd (.region id ops true),k,⟨sl,ob⟩⟩:=by
 simp only [Prod.mk.injEq] at e;obtain ⟨e1,e2,e3,e4,e5,e6,e7,e8,e9⟩:=e;exact mS S e1 e2 e3 (qU e4) (uo e5) e6 e7 e8 e9 h
end
def ob2 (A:List (Nat×List AV))(x:Nat×List AV):Nat->List (Nat×List AV)
 | 0=>A
 | _+1=>x::A
def ob3 (A:List (Nat×List AV))(x y:Nat×List AV):Nat->List (Nat×List AV)
 | 0=>A
 | 1=>x::A
 | _+2=>y::x::A
def ob5 (A:List (Nat×List AV))(x y z u:Nat×List AV):Nat->List (Nat×List AV)
 | 0=>A
 | 1=>x::A
 | 2=>y::x::A
 | 3=>z::y::x::A
 | _+4=>u::z::y::x::A
end Go.Ab
end
section
namespace Go.Ab
open Go
class HP (h:Prop) (P:outParam Program) (f:outParam FuncId) (q:outParam (List PV)) (x:outParam AV):Prop where
 c:h->bv P f q (·=x)
class HO (h:Prop) (P:outParam Program) (f:outParam FuncId) (q:outParam (List AV)) (qo:outParam (List (Nat×List AV))) (x:outParam AV) (y:outParam (List (Nat×List AV))):Prop where
 c:h->bV P f q qo (λ a b=>a=x/\b=y)
class HC {α:Type} (f:α->PV) (cs:outParam (α->List PV)):Prop where
 c:∀ x,(f x).cells=cs x
class HE (P:Program) (f:FuncId):Prop where
 e:∀ vs w,(callFunc f vs).run P w=.ok (.enter f vs) w
def sC {α:Type}:List Nat->List (Nat×α)->Option (List (Nat×α))
 | _,[]=>some []
 | seen,(i,x)::r=>(match seen.any (Nat.beq i) with
  | true=>sC seen r
  | false=>(match sC (i::seen) r with
   | some l=>some ((i,x)::l)
   | none=>none))
theorem wB:∀ {sl:List (Nat×AV)} {seen:List Nat} {b:List (Nat×AV)},sC seen sl=some b->∀ p∈b,seen.any (Nat.beq p.1)=false/\look sl p.1=some p.2
 | [],seen,b,h,p,hp=>by simp only [sC,bx] at h; subst h; simp at hp
 | (i,x)::r,seen,b,h,p,hp=>by
  unfold sC at h;split at h
  ·rename_i hs;obtain ⟨h1,h2⟩:=wB h p hp;refine ⟨h1,?_⟩;rw [aS,if_neg (λ e=>by subst e; rw [h1] at hs; cases hs)]; exact h2
  ·rename_i hs;split at h
   ·rename_i l hl
    cases h
    rcases ro.1 hp with rfl | hp
    ·exact ⟨hs,by rw [aS,if_pos Z]⟩
    ·obtain ⟨h1,h2⟩:=wB hl p hp;rw [List.any_cons,Bool.or_eq_false_iff] at h1;refine ⟨h1.2,?_⟩;rw [aS,if_neg (λ e=>by have:=h1.1; rw [<- e] at this; simp at this)]; exact h2
   ·cases h
theorem base_of {sl:List (Nat×AV)}:∀ {b:List (Nat×AV)},(∀ p∈b,look sl p.1=some p.2)->dM sl b
 | [],_=>trivial
 | (i,x)::_r,h=>⟨h (i,x) (List.mem_cons_self ..),base_of λ p hp=>h p (List.mem_cons_of_mem _ hp)⟩
theorem ym {sl b:List (Nat×AV)}(h:sC [] sl=some b):dM sl b:=base_of λ p hp=>(wB h p hp).2
def tkZ:Nat->List (Nat×AV)->Option (List Nat)
 | 0,_=>some []
 | n+1,(i,_)::r=>(match tkZ n r with
  | some l=>some (i::l)
  | none=>none)
 | _,[]=>none
def ML:List AV->List Nat->Option (List Nat)
 | [],_=>some []
 | .ptr i _::r,s=>(match s.any (Nat.beq i) with
  | true=>ML r s
  | false=>(match ML r (i::s) with
   | some l=>some (i::l)
   | none=>none))
 | .p _::r,s=>ML r s
 | _::_,_=>none
def idsO (sl:List (Nat×AV))(o:Oper):Option (List Nat):=match o.op with
 | .call c=>(match jA sl c.args.toList with
  | some l=>ML l []
  | none=>none)
 | _=>none
def gdS (ops:Array Oper)(o:Oper):Option Nat:=match o.guard with
 | some (j,_)=>(ops.toList[j]?).bind (·.dst)
 | none=>none
def biK (o:Oper)(kn:List (Nat×AV)):Option (BinOp×AV×AV):=match o.op with
 | .binOp op _ x y _=>(match evo kn x with
  | some X=>(match evo kn y with
   | some Y0z=>some (op,X,Y0z)
   | none=>none)
  | none=>none)
 | _=>none
theorem CW:∀ {b:List (Nat×AV)},nodupB (b.map (·.1))=true->∀ {p},p∈b->look b p.1=some p.2
 | [],_,p,hp=>by simp at hp
 | (i,x)::r,h,p,hp=>by
  simp only [cl,nodupB,n7,Bool.not_eq_true'] at h;rcases ro.1 hp with rfl | hp
  ·rw [aS,if_pos rfl]
  ·rw [aS,if_neg ?_]
   ·exact CW h.2 hp
   ·intro e;have h1:=h.1;rw [List.any_eq_false] at h1;exact h1 p.1 (List.mem_map.2 ⟨p,hp,rfl⟩) (by simp [e])
def rgG (C:Cx)(ops:Array Oper):List Oper->Nat->List (Nat×AV)->List (Nat×List AV)->Option (List Nat×List (List (Nat×List AV)))
 | [],_,_,_=>some ([],[])
 | o::r,k,sl,ob=>(match o.dst with
  | some d=>(match oV C ops o sl ob with
   | some y=>rgG C ops r (k+1) ((d,y)::sl) ob
   | none=>(match biK o sl with
    | some (op,.p (.val (.int .i64 x)),.p (.val (.int .i64 y)))=>(match arI op x y with
     | some c=>rgG C ops r (k+1) ((d,.p (eI c))::sl) ob
     | none=>none)
    | _=>none))
  | none=>(match stV C o sl ob with
   | some ob'=>(match rgG C ops r (k+1) sl ob' with
    | some (im,RO)=>some (k::im,ob'::RO)
    | none=>none)
   | none=>none))
def Li (A:List (Nat×List AV)):List (List (Nat×List AV))->Nat->List (Nat×List AV)
 | _,0=>A
 | [],_+1=>A
 | x::r,n+1=>Li x r n
section
variable {C:Cx} {Q:Exit->AS->Prop} {K:AS->Prop} {k:List Fr} {sl b:List (Nat×AV)} {ob:List (Nat×List AV)} {ops:Array Oper} {r:List Oper} {o:Oper} {d:Nat}
def goOn:Ct->List Fr->Bool
 | .ex _,[]=>false
 | .ex .normal,.jo _::_=>false
 | .ex (.exit i),.je id _::_=>!(Nat.beq i id)
 | _,_=>true
theorem nxg (n:Nat){c:Ct}{s:AS}{c':Cf}(_:goOn c k=true)(h:run C n ⟨c,k,s⟩=some c')(hM:M C Q c'):M C Q ⟨c,k,s⟩:=nx n h hM
theorem mDa {id:Nat}(hn:sC [] sl=some b)(e:(C.P.follows .mixedOrders,ops.toList.all (λ o=>o.dst.isSome),(ops.toList.zipIdx.all λ p=>p.1.after.toList.all λ e=>!(Region.binds .any e)||Nat.blt e.on p.2))=(true,true,true))
  (h:DQ C ops b ob (λ s'=>M C Q ⟨.ex .normal,k,s'⟩) ops.toList 0 []):M C Q ⟨.cd (.region id ops true),k,⟨sl,ob⟩⟩:=by
 simp only [Prod.mk.injEq] at e;exact mD b e.1 (ym hn) e.2.2 h
theorem mA {id:Nat}{im:List Nat}{RO:List (List (Nat×List AV))}{Z0z:Prop}(hn:sC [] sl=some b)(hr:rgG C ops ops.toList 0 b ob=some (im,RO))
  (e:(C.P.follows .mixedOrders,nodupB (b.map (·.1)),nodupB im,im.all (λ i=>Nat.blt i ops.size),chainB ops im,(ops.toList.zipIdx.all λ p=>p.1.after.toList.all λ e=>!(Region.binds .any e)||Nat.blt e.on p.2))=(true,true,true,true,true,true)) (z:Z0z)
  (h:Z0z->DS C ops ⟨im.length,im,λ _=>.none,λ _=>b,Li ob RO⟩ (λ rev=>M C Q ⟨.ex .normal,k,⟨cS rev im.length++b,Li ob RO im.length⟩⟩) ops.toList 0 []:=by
   intro z
   repeat first | exact fp z | refine dPc _ Z ?_ | refine dS Z ?_ | refine dPn Z Z ?_ | refine dPx Z ?_ | refine dPy (λ _=>_) Z Z ?_ | refine dPa Z Z (by assumption) Z ?_):M C Q ⟨.cd (.region id ops true),k,⟨sl,ob⟩⟩:=by
 simp only [Prod.mk.injEq] at e;obtain ⟨e1,e0,e2,e3,e4,e5⟩:=e;exact mS ⟨im.length,im,λ _=>.none,λ _=>b,Li ob RO⟩ e1 rfl (by cases RO <;> rfl) (ym hn) (λ j _=>base_of λ p hp=>CW e0 hp) e2 e3 e4 e5 (h z)
theorem cVa {ids:List Nat}{f:FuncId}{args:Array Operand}{ts:Array TypeId}{l q:List AV}{RO qo rob ob':List (Nat×List AV)}{r r':AV}(hc:bV C.P f q qo (λ x y=>x=r/\y=rob))(henter:∀ vs w,(callFunc f vs).run C.P w=.ok (.enter f vs) w)
  (_hi:idsO sl o=some ids)
  (e:(o.op,o.dst,Nat.blt d C.n,jA sl args.toList,AV.mapA.go (jz ids []) l,gv ob ids,gf (jz ids []) RO,lkM qo qo,nodupB ids,ids.all (λ i=>Nat.blt i (2*M1)),Nat.ble ids.length M1,Nat.ble 101000 M1,ids.all (λ i=>!(cn [] 101000 101000 i)),nodupB [],([]:List Nat).all (λ i=>Nat.blt i M1),Nat.ble ([]:List Nat).length 100000,r.mapA (jk ids 101000 101000),gf (jk ids 101000 101000) rob)=(.call { callee:=.value (.func f),args:=args,argTypes:=ts },some d,true,some l,some q,some RO,some qo,smM qo,true,true,true,true,true,true,true,true,some r',some ob'))
  (hK:K ⟨(d,r')::(cW (cn [] 101000 101000) ⟨sl,ob⟩).sl,ob'++(cW (cn [] 101000 101000) ⟨sl,ob.filter λ p=>!(ids.any (Nat.beq p.1))⟩).ob⟩):aX C o K ⟨sl,ob⟩:=cVq ids [] 101000 101000 hc henter e hK
variable {p:Prop} [Decidable p] {α:Type} {x y:Option α} {v:α} {T:List Nat} {c:Ct} {q:Bool}
theorem fDn (n:Nat)(h:(if p then x else y)=some v)(_hn:tkZ n sl=some T)(hT:lks sl T=some (T.map λ _=>.p (.val (.bool (decide p)))))
  (h1:p->x=some v->M C Q ⟨c,k,⟨stB true sl T,ob⟩⟩) (h2:¬p->y=some v->M C Q ⟨c,k,⟨stB false sl T,ob⟩⟩):M C Q ⟨c,k,⟨sl,ob⟩⟩:=fD T h hT h1 h2
theorem fNn (n:Nat)(h:(if p then x else y)=some v)(_hn:tkZ n sl=some T)(hT:lks sl T=some (T.map λ _=>.p (.val (.bool (!decide p)))))
  (h1:p->x=some v->M C Q ⟨c,k,⟨stB false sl T,ob⟩⟩) (h2:¬p->y=some v->M C Q ⟨c,k,⟨stB true sl T,ob⟩⟩):M C Q ⟨c,k,⟨sl,ob⟩⟩:=fN T h hT h1 h2
theorem fBn (n:Nat)(h:(if q=true then x else y)=some v)(_hn:tkZ n sl=some T)(hT:lks sl T=some (T.map λ _=>.p (.val (.bool q))))
  (h1:q=true->x=some v->M C Q ⟨c,k,⟨stB true sl T,ob⟩⟩) (h2:q=false->y=some v->M C Q ⟨c,k,⟨stB false sl T,ob⟩⟩):M C Q ⟨c,k,⟨sl,ob⟩⟩:=fB T h hT h1 h2
def La (ops:Array Oper):Ct->Option (List Nat)
 | .cd (.cond (.tmp t) _ _)=>some [t]
 | .op _ (o::_)=>(match gdS ops o with
  | some t=>some [t]
  | none=>none)
 | _=>none
def K5:Ct->Array Oper
 | .op ops _=>ops
 | _=>#[]
theorem fDc (h:(if p then x else y)=some v)(_hn:La (K5 c) c=some T)(hT:lks sl T=some (T.map λ _=>.p (.val (.bool (decide p)))))
  (h1:p->x=some v->M C Q ⟨c,k,⟨stB true sl T,ob⟩⟩) (h2:¬p->y=some v->M C Q ⟨c,k,⟨stB false sl T,ob⟩⟩):M C Q ⟨c,k,⟨sl,ob⟩⟩:=fD T h hT h1 h2
theorem fNc (h:(if p then x else y)=some v)(_hn:La (K5 c) c=some T)(hT:lks sl T=some (T.map λ _=>.p (.val (.bool (!decide p)))))
  (h1:p->x=some v->M C Q ⟨c,k,⟨stB false sl T,ob⟩⟩) (h2:¬p->y=some v->M C Q ⟨c,k,⟨stB true sl T,ob⟩⟩):M C Q ⟨c,k,⟨sl,ob⟩⟩:=fN T h hT h1 h2
theorem fBc (h:(if q=true then x else y)=some v)(_hn:La (K5 c) c=some T)(hT:lks sl T=some (T.map λ _=>.p (.val (.bool q))))
  (h1:q=true->x=some v->M C Q ⟨c,k,⟨stB true sl T,ob⟩⟩) (h2:q=false->y=some v->M C Q ⟨c,k,⟨stB false sl T,ob⟩⟩):M C Q ⟨c,k,⟨sl,ob⟩⟩:=fB T h hT h1 h2
theorem lTc {q b:Bool}{t:Nat}(_hn:La (K5 c) c=some [t])(hT:look sl t=some (.p (.val (.bool q))))(hb:q=b)(h:M C Q ⟨c,k,⟨stB b sl [t],ob⟩⟩):M C Q ⟨c,k,⟨sl,ob⟩⟩:=lT [t] hb (by simp only [lks,hT,cl,List.map_nil]) h
end
section
variable {C:Cx} {Q:Exit->AS->Prop} {k:List Fr} {sl K1:List (Nat×AV)} {ob K2:List (Nat×List AV)} {c:Code} {σ:Type}
theorem kA (w:σ)(f:σ->List (Nat×AV))(g:σ->List (Nat×List AV))(_e1:∀ v,sC ((f v).map (·.1)) sl=some K1)(_e2:∀ v,sC ((g v).map (·.1)) ob=some K2)(h2:M C Q ⟨.ex .normal,k,⟨f w++K1,g w++K2⟩⟩)
  (h1:M C Q ⟨.cd c,.jo (λ t=>∃ v,w=v/\t=⟨f v++K1,g v++K2⟩)::k,⟨sl,ob⟩⟩):M C Q ⟨.cd c,k,⟨sl,ob⟩⟩:=kN w (λ v=>⟨f v++K1,g v++K2⟩) h2 h1
theorem hP {P:Program}{tt:List (Nat×TI)}{β:Type}(good:cQ P tt){fi:FuncId}{fn:Func}{args:List PV}{h:β->Prop}{mk:β->AV}(hf:P.funcs[fi]? = some fn)(hb:fn.body=some c)(hn:(Nat.ble args.length fn.ntmps,Nat.ble fn.ntmps M1)=(true,true))
  (H:∀ r,h r->∀ hnl w0,M ⟨P,tt,good,fn.ntmps,hnl,w0,λ b=>b < w0.w.heap.size⟩ (λ e s=>∃ v,v=r/\xY tt fn (λ x=>x.sub (mk v)) e s) ⟨.cd c,[],⟨pZ args,[]⟩⟩):∀ r,HP (h r) P fi args (mk r) :=
 λ r=>⟨λ h0=>HZ good hf hb (Prod.mk.inj hn).1 (Prod.mk.inj hn).2 λ w0=>mP mk (H r h0 _ w0)⟩
theorem hO {P:Program}{tt:List (Nat×TI)}{β:Type}(good:cQ P tt)(ts ids:List Nat){fi:FuncId}{fn:Func}{args:List AV}{RO:List (Nat×List AV)}{h:β->Prop}{mk:β->AV}{mo:β->List (Nat×List AV)}(hf:P.funcs[fi]? = some fn)(hb:fn.body=some c)
  (hn:(Nat.ble args.length fn.ntmps,Nat.ble fn.ntmps M1,ts.all (λ i=>Nat.blt i M1),nodupB ts)=(true,true,true,true))
  (H:∀ r,h r->∀ hnl w0 F,M ⟨P,tt,good,fn.ntmps,hnl,w0,F⟩ (λ e s=>∃ v,v=r/\uG ⟨P,tt,good,fn.ntmps,hnl,w0,F⟩ tt fn ts ids (mk v) (mo v) e s) ⟨.cd c,[],⟨gb args,RO⟩⟩):∀ r,HO (h r) P fi args RO (mk r) (mo r):=by
 simp only [Prod.mk.injEq] at hn;exact λ r=>⟨λ h0=>rQ good ts ids hf hb hn.1 hn.2.1 hn.2.2.1 hn.2.2.2 λ w0 F=>mPo mk mo (H r h0 _ w0 F)⟩
end
theorem Gv {C:Cx}{ops:Array Oper}{ob:List (Nat×List AV)}{o:Oper}{kn:List (Nat×AV)}{d:Nat}{op:BinOp}{x y c:Int}(hg:o.guard=none)(hd:o.dst=some d)(hn:Nat.blt d C.n=true)(h:biK o kn=some (op,.p (.val (.int .i64 x)),.p (.val (.int .i64 y))))(hc:arI op x y=some c)(hr:inR c):oq C ops ob o kn d (.p (eI c)):=by
 unfold biK at h;split at h
 ·rename_i op' t X Y0z t' ho;split at h
  ·rename_i X' hx;split at h
   ·rename_i Y' hy
    cases h
    exact λ sl hs K hK=>ak hg (fS ho hd hn (ir hs hx) (ir hs hy) hc hr hK)
   ·cases h
  ·cases h
 ·cases h
section
variable {C:Cx} {ops:Array Oper} {S:dT} {K:ek->Prop} {K2:AS->Prop} {o:Oper} {k d:Nat} {rev:ek} {op:BinOp} {x y c:Int}
def arL (ops:Array Oper)(S:dT)(o:Oper)(k:Nat)(rev:ek)(z:BinOp×AV×AV):Nat->List (Option (BinOp×AV×AV))
 | 0=>[]
 | j+1=>(match lI ops S.imp o k j with
  | true=>biK o (tK (S.bas j) o rev j (opR o))
  | false=>some z)::arL ops S o k rev z j
def arE (z:BinOp×AV×AV):Nat->List (Option (BinOp×AV×AV))
 | 0=>[]
 | j+1=>some z::arE z j
theorem FC (hg:o.guard=none)(hd:o.dst=some d)(hn:Nat.blt d C.n=true)(hc:arI op x y=some c)(hr:inR c):∀ {m:Nat},arL ops S o k rev (op,.p (.val (.int .i64 x)),.p (.val (.int .i64 y))) m=arE (op,.p (.val (.int .i64 x)),.p (.val (.int .i64 y))) m->Stg C ops S o k rev d (λ _=>.p (eI c)) m
 | 0,_=>trivial
 | j+1,h=>by
  have h1:=(sm h).1;refine ⟨λ ha=>?_,FC hg hd hn hc hr (sm h).2⟩;rw [ha] at h1;exact ⟨_,j3 _,Gv hg hd hn h1 hc hr⟩
theorem dPa {rest:List Oper}(e:(o.dst,S.imp.findIdx? (Nat.beq k),o.guard,(rev.all λ p=>!(Nat.beq p.2.1 d)),Nat.blt d C.n,cL S d S.m,(λ j=>look (S.bas (j+S.m)) d),arL ops S o k rev (op,.p (.val (.int .i64 x)),.p (.val (.int .i64 y))) (S.m+1))=(some d,none,none,true,true,nL S.m,(λ _=>none),arE (op,.p (.val (.int .i64 x)),.p (.val (.int .i64 y))) (S.m+1)))
  (hc:arI op x y=some c) (hr:inR c) (ht:aL (λ _=>.p (eI c)) S.m=bL S (λ _=>.p (eI c)) S.m) (h:DS C ops S K rest (k+1) ((k,d,λ _=>.p (eI c))::rev)):DS C ops S K (o::rest) k rev:=by
 simp only [Prod.mk.injEq] at e;obtain ⟨e1,e2,e3,e4,e5,e6,e7,e8⟩:=e;exact co (λ _=>.p (eI c)) e2 e1 e4 (rG e6 e7) (uc ht) (FC e3 e1 e5 hc hr e8) h
theorem dqa {base:List (Nat×AV)}{ob:List (Nat×List AV)}{rest:List Oper}{rev:Rev}(hn:nwF base rev o=some d)(e:(o.guard,Nat.blt d C.n,biK o (knL base o rev (tms o)))=(none,true,some (op,.p (.val (.int .i64 x)),.p (.val (.int .i64 y)))))
  (hc:arI op x y=some c) (hr:inR c) (h:DQ C ops base ob K2 rest (k+1) ((k,d,.p (eI c))::rev)):DQ C ops base ob K2 (o::rest) k rev:=by
 simp only [Prod.mk.injEq] at e;obtain ⟨e1,e2,e3⟩:=e;exact wV _ _ xd (Gv e1 (lF hn).1 e2 e3 hc hr) (lF hn).1 (lF hn).2.1 (lF hn).2.2 h
end
section
variable {C:Cx} {ops:Array Oper} {S:dT} {K:ek->Prop} {o:Oper} {k d:Nat} {rev:ek} {kn:List (Nat×AV)} {rest:List Oper}
def knA (ops:Array Oper)(S:dT)(o:Oper)(k:Nat)(rev:ek)(R:List Nat)(kn:List (Nat×AV)):Nat->List (List (Nat×AV))
 | 0=>[]
 | j+1=>(match lI ops S.imp o k j with
  | true=>tK (S.bas j) o rev j R
  | false=>kn)::knA ops S o k rev R kn j
def knE (kn:List (Nat×AV)):Nat->List (List (Nat×AV))
 | 0=>[]
 | j+1=>kn::knE kn j
theorem JD {y:AV}{R:List Nat}(hs:∀ ob,oq C ops ob o kn d y):∀ {m:Nat},knA ops S o k rev R kn m=knE kn m->Stg C ops S o k rev d (λ _=>y) m
 | 0,_=>trivial
 | j+1,h=>by
  have h1:=(sm h).1;refine ⟨λ ha=>?_,JD hs (sm h).2⟩;rw [ha] at h1;have h1:tK (S.bas j) o rev j R=kn:=h1;exact ⟨kn,h1 ▸ j3 R,hs _⟩
theorem dO (y:AV)(R:List Nat)(e:(o.dst,S.imp.findIdx? (Nat.beq k),(rev.all λ p=>!(Nat.beq p.2.1 d)),cL S d S.m,(λ j=>look (S.bas (j+S.m)) d),aL (λ _=>y) S.m,knA ops S o k rev R kn (S.m+1))=(some d,none,true,nL S.m,(λ _=>none),bL S (λ _=>y) S.m,knE kn (S.m+1)))
  (hs:∀ ob,oq C ops ob o kn d y) (h:DS C ops S K rest (k+1) ((k,d,λ _=>y)::rev)):DS C ops S K (o::rest) k rev:=by
 simp only [Prod.mk.injEq] at e;obtain ⟨e1,e2,e3,e4,e5,e6,e7⟩:=e;exact co (λ _=>y) e2 e1 e3 (rG e4 e5) (uc e6) (JD hs e7) h
def ivL (v:Nat->AV)(i:Nat):Nat->List (Option AV)
 | 0=>[]
 | j+1=>(match Nat.blt i j with
  | true=>some (v (j+1))
  | false=>none)::ivL v i j
def ibL (S:dT)(v:Nat->AV)(i:Nat):Nat->List (Option AV)
 | 0=>[]
 | j+1=>(match Nat.blt i j with
  | true=>some (trA (S.D j) (v j))
  | false=>none)::ibL S v i j
theorem H0 {v:Nat->AV}{i:Nat}:∀ {m:Nat},ivL v i m=ibL S v i m->∀ j,j < m->i < j->v (j+1)=trA (S.D j) (v j)
 | 0,_,j,h,_=>absurd h (Nat.not_lt_zero _)
 | m+1,h,j,hj,hi=>by
  by_cases e:j=m
  ·subst e;have h1:=(sm h).1;have hb:Nat.blt i j=true:=by simp only [n8]; exact hi
   rw [hb] at h1;exact Option.some.inj h1
  ·exact H0 (sm h).2 j O hi
theorem dI {i:Nat}(v:Nat->AV)(R:List Nat)(e:(S.imp.findIdx? (Nat.beq k),o.dst,(rev.all λ p=>!(Nat.beq p.2.1 d)),cL S d S.m,(λ j=>look (S.bas (j+S.m)) d),ivL v i S.m,tK (S.bas i) o rev i R)=(some i,some d,true,nL S.m,(λ _=>none),ibL S v i S.m,kn))
  (RN:∀ sl,(∀ i x,look kn i=some x->look sl i=some x)->∀ K:AS->Prop,K ⟨(d,v (i+1))::trL (S.D i) sl,S.obj (i+1)⟩->One C ops o K ⟨sl,S.obj i⟩) (h:DS C ops S K rest (k+1) ((k,d,v)::rev)):DS C ops S K (o::rest) k rev:=by
 simp only [Prod.mk.injEq] at e;obtain ⟨e1,e2,e3,e4,e5,e6,e7⟩:=e;exact Gp v kn e1 (e7 ▸ j3 R) e2 e3 (λ j=>rG e4 e5 _) (H0 e6) RN h
end
class Jn (n:Nat) (σ:outParam Type) (f:outParam (σ->List (Nat×AV))) (g:outParam (σ->List (Nat×List AV))):Prop where
 t:True
class Js (l:outParam (List Nat)):Prop where
 t:True
instance js0:Js []:=⟨trivial⟩
theorem js (l:List Nat):Js l:=⟨trivial⟩
theorem jB (n:Nat)(σ:Type)(f:σ->List (Nat×AV))(g:σ->List (Nat×List AV)):Jn n σ f g:=⟨trivial⟩
theorem jS (n:Nat)(σ:Type)(f:σ->List (Nat×AV)):Jn n σ f (λ _=>[]):=⟨trivial⟩
theorem jO (n:Nat)(σ:Type)(g:σ->List (Nat×List AV)):Jn n σ (λ _=>[]) g:=⟨trivial⟩
def Dz:Code->Option Nat
 | .seq x _=>(match Dz x with | some n=>some (n+1) | none=>none)
 | .block id _=>some (100*id+50)
 | .region id _ _=>some (100*id)
 | .cond _ x _=>(match Dz x with | some n=>some (n+20) | none=>none)
 | .loop x=>(match Dz x with | some n=>some (n+10) | none=>none)
 | .scope x=>(match Dz x with | some n=>some (n+5) | none=>none)
 | _=>none
def topJ:List Fr->Bool
 | .jo _::_=>true
 | .je _ _::_=>true
 | _=>false
def atJ (l:List Nat):Ct->Bool
 | .cd c=>(match Dz c with | some n=>l.any (Nat.beq n) | none=>false)
 | _=>false
def Lv (C:Cx)(l:List Nat):Nat->Cf->Option Cf
 | 0,c=>some c
 | n+1,c=>(match stp C c with
  | some c'=>(match atJ l c'.c with | true=>some c' | false=>Lv C l n c')
  | none=>none)
theorem CU {C:Cx}{Q:Exit->AS->Prop}{l:List Nat}:∀ (n:Nat) {c c':Cf},Lv C l n c=some c'->M C Q c'->M C Q c
 | 0,c,c',h,hM=>by cases h; exact hM
 | n+1,c,c',h,hM=>by
  unfold Lv at h;split at h
  ·rename_i c1 h1;split at h
   ·cases h; exact AG h1 hM
   ·exact AG h1 (CU n h hM)
  ·cases h
section
variable {C:Cx} {Q:Exit->AS->Prop} {k:List Fr} {sl K1:List (Nat×AV)} {ob K2:List (Nat×List AV)} {c:Code} {σ β:Type}
theorem nxj (n:Nat){l:List Nat} [Js l] {c:Ct}{s:AS}{c':Cf}(_:goOn c k=true)(h:Lv C l n ⟨c,k,s⟩=some c')(hM:M C Q c'):M C Q ⟨c,k,s⟩:=CU n h hM
theorem kJ {p:Option σ}{F:σ->Option β}{v:β}{n:Nat}{f:σ->List (Nat×AV)}{g:σ->List (Nat×List AV)}(h:p.bind F=some v)(_:Dz c=some n)(_:topJ k=false) [Jn n σ f g] (e1:∀ v,sC ((f v).map (·.1)) sl=some K1)(e2:∀ v,sC ((g v).map (·.1)) ob=some K2)
  (H2:∀ o,F o=some v->M C Q ⟨.ex .normal,k,⟨f o++K1,g o++K2⟩⟩) (H1:∀ o,p=some o->M C Q ⟨.cd c,.jo (λ t=>∃ v,o=v/\t=⟨f v++K1,g v++K2⟩)::k,⟨sl,ob⟩⟩):M C Q ⟨.cd c,k,⟨sl,ob⟩⟩:=by
 obtain ⟨o,h1,h2⟩:=J9 h;exact kA o f g e1 e2 (H2 o h2) (H1 o h1)
end
theorem U {p:Prop}(h:p:=by
 repeat' first
  | exact sr
  | exact True.intro
  | exact .inl Z
  | exact .inr ⟨Z,Z⟩
  | exact mj _
  | exact AV.sub_nilvec _ _ _
  | exact AV.sub_vec _ _ _ _
  | exact er Z
  | exact ⟨_,Z,aN _⟩
  | refine mI ?_
  | refine oH ?_
  | refine F3 ?_
  | refine ⟨_,Z,?_⟩
  | refine ⟨?_,?_⟩):p:=h
theorem Zr {p:Prop}(h:p:=by
 repeat' first
  | exact ⟨λ h=>by cases h⟩
  | refine ⟨?_,?_⟩
  | refine λ _=>?_):p:=h
theorem J0 {p:Prop}(h:p:=by
 repeat' first
  | refine kJ h0 Z Z Y Y (λ o h0=>?_) λ o h0=>?_
  | refine nxj 12 Z Z ?_
  | refine nxj 4 Z Z ?_
  | refine nxj 1 Z Z ?_
  | exact eX _ (oi h0).symm (gE Z Z)
  | exact mQ (oi h0) Z U
  | exact mQoq h0 Z
  | exact mQo (oi h0) (aQ _) Z Z Z Z U U
  | exact eXi _ (oi h0).symm (gE Z Z)
  | exact eX _ h0 (gE Z Z)
  | exact eX ⟨_,_⟩ h0 (gE Z Z)
  | exact eX ⟨_,_,_⟩ h0 (gE Z Z)
  | exact eX ⟨_,_,_,_⟩ h0 (gE Z Z)
  | exact eX ⟨_,_,_,_,_⟩ h0 (gE Z Z)
  | exact eX ⟨_,_,_,_,_,_⟩ h0 (gE Z Z)
  | exact eX ⟨_,_,_,_,_,_,_⟩ h0 (gE Z Z)
  | exact eX ⟨_,_,_,_,_,_,_,_⟩ h0 (gE Z Z)
  | exact eX ⟨_,_,_,_,_,_,_,_,_⟩ h0 (gE Z Z)
  | exact eX ⟨_,_,_,_,_,_,_,_,_,_,_,_,_,_,_,_⟩ h0 (gE Z Z)
  | exact eX ⟨_,_,_,_,_,_,_,_,_,_,_,_,_,_,_,_,_⟩ h0 (gE Z Z)
  | exact eX _ (oi h0).symm (fb (nS U U))
  | exact eXi _ (oi h0).symm (fb (nS U U))
  | exact mQ (hR0 _ (oi h0).symm) Z U
  | exact mQoq (congrArg some (hR0 _ (oi h0).symm)) Z
  | exact mQ (hR0 _ (hR1 _ (oi h0).symm).symm) Z U
  | exact mQn (oi h0) Z U
  | exact Mf (oi h0) (aQ _) Z Z Z Z U U
  | exact mQo (oi h0) (aQ _) Z Z Z (ar Z (au _) Z) U U
  | refine oS Z Z ?_
  | refine oLs Z ?_
  | refine oLl Z Z ?_
  | refine oA h0 Z Z λ hk h0=>?_
  | refine oI h0 rfl λ hk h0=>?_
  | refine oP h0 Z Z Z λ hk h0=>?_
  | refine oC h0 rfl λ hk h0=>?_
  | refine oE h0 HC.c Z Z Y λ hk h0=>?_
  | refine bd h0 λ r e h0=>oK (HP.c e) Z U HE.e Z ?_
  | refine bd h0 λ r e h0=>mO Z (cVa (HO.c e) HE.e Z Z ?_)
  | refine fBn 3 h0 Z Z (λ c h0=>?_) λ c h0=>?_
  | refine fBn 2 h0 Z Z (λ c h0=>?_) λ c h0=>?_
  | refine fBn 1 h0 Z Z (λ c h0=>?_) λ c h0=>?_
  | refine fBc h0 Z Z (λ c h0=>?_) λ c h0=>?_
  | refine fDn 4 h0 Z Z (λ c h0=>?_) λ c h0=>?_
  | refine fDn 3 h0 Z Z (λ c h0=>?_) λ c h0=>?_
  | refine fDn 2 h0 Z Z (λ c h0=>?_) λ c h0=>?_
  | refine fDn 1 h0 Z Z (λ c h0=>?_) λ c h0=>?_
  | refine fDc h0 Z Z (λ c h0=>?_) λ c h0=>?_
  | refine fNn 3 h0 Z Z (λ c h0=>?_) λ c h0=>?_
  | refine fNn 2 h0 Z Z (λ c h0=>?_) λ c h0=>?_
  | refine fNn 1 h0 Z Z (λ c h0=>?_) λ c h0=>?_
  | refine fNc h0 Z Z (λ c h0=>?_) λ c h0=>?_
  | refine lTc Z Z (by first | exact dt ‹_› | exact df ‹_› | assumption) ?_
  | refine mDa Z Z ?_
  | refine dE Z ?_
  | refine dR 4 Z ?_
  | refine dR 1 Z ?_
  | refine dqa Z Z Z (by assumption) ?_
  | refine mA Z Z Z ?_
  | refine dPc _ Z ?_
  | refine dS Z ?_
  | refine dPn Z Z ?_
  | refine dPx Z ?_
  | refine dPa Z Z (by assumption) Z ?_
  | refine fp ?_
  | refine cc' h0 λ hk h0=>?_
  | replace h0:=Pa Z h0
  | replace h0:=if_f (by decide) h0):p:=h
theorem K0 {p Z0z:Prop}(z:Z0z)(h:Z0z->p:=by
 intro z
 first
  | refine bd h0 λ r e h0=>oK (HP.c e) Z U HE.e Z ?_
  | refine bd h0 λ r e h0=>mO Z (cVa (HO.c e) HE.e Z Z ?_)
 clear e
 revert r
 exact z):p:=h z
theorem K1 {p Z0z:Prop}(z:Z0z)(h:Z0z->p:=by
 intro z
 first
  | refine bd h1 λ r e h1=>oK (HP.c e) Z U HE.e Z ?_
  | refine bd h1 λ r e h1=>mO Z (cVa (HO.c e) HE.e Z Z ?_)
 clear e
 revert r
 exact z):p:=h z
theorem K2 {p Z0z:Prop}(z:Z0z)(h:Z0z->p:=by
 intro z
 first
  | refine bd h2 λ r e h2=>oK (HP.c e) Z U HE.e Z ?_
  | refine bd h2 λ r e h2=>mO Z (cVa (HO.c e) HE.e Z Z ?_)
 clear e
 revert r
 exact z):p:=h z
end Go.Ab
end
section
namespace Go.Ab.R06
open Go.Proofs Go.Ab Go.Ab.RB
instance hc14_0:HC eS (λ x=>[eS x]):=⟨λ _=>rfl⟩
instance hc14_1:HC al aa.cs:=⟨aa.It⟩
instance hc14_2:HC dQ ag.cs:=⟨ag.It⟩
instance hc14_4 (s:Bytes) (c r:Int):HP (strings_IndexByte s c=some r) Tryz.prog 85 [eS s,eK .u8 c] (.p (eI r)):=⟨kw s c r⟩
instance hc14_5 (s p:Bytes) (r:Bool):HP (strings_HasPrefix s p=some r) Tryz.prog 75 [eS s,eS p] (.p (eB r)):=⟨dj s p r⟩
instance hc14_6 (a:Int) (r:Bool):HP (ce a=some r) Tryz.prog 206 [eK .i32 a] (.p (eB r)):=⟨lM a r⟩
instance hc14_8 (s:Bytes) (r:Bool):HP (cY s=some r) Tryz.prog 204 [eS s] (.p (eB r)):=⟨kU s r⟩
section
variable {p:Prop}
theorem xl (h:p:=by
  exact nx 4 Z (eX _ (oi h3).symm (gE Z Z))):p:=h
theorem gN (h:p:=by
  have h0:=h2
  exact J0):p:=h
theorem jQ (h:p:=by
  have h0:=Sl _ hv
  exact J0):p:=h
theorem aG (h:p:=by
  have h0:=h1
  exact J0):p:=h
theorem kL (h:p:=by
  have:=js [100];have:=jS 100 Bool λ v=>[(2,.p (eB v))]
  exact J0):p:=h
theorem aV (h:p:=by exact cH O O):p:=h
theorem fy (h:p:=by exact eX _ (oi h1).symm (gE Z Z)):p:=h
theorem Bz (h:p:=by exact eX _ (oi h2).symm (gE Z Z)):p:=h
theorem kD (h:p:=by exact eX _ (oi h3).symm (gE Z Z)):p:=h
theorem NY (h:p:=by exact nx 1 Z (eX _ (oi h2).symm (gE Z Z))):p:=h
end
attribute [local irreducible] awp gk aX bv bV AV.sub M cC
instance QQ:HE Tryz.prog 208:=⟨Tryz.call208⟩
instance Rc:HE Tryz.prog 171:=⟨Tryz.call171⟩
instance QP:HE Tryz.prog 206:=⟨Tryz.call206⟩
instance Qx:HE Tryz.prog 85:=⟨Tryz.call85⟩
instance Rs:HE Tryz.prog 192:=⟨Tryz.call192⟩
instance Qb:HE Tryz.prog 174:=⟨Tryz.call174⟩
instance P4:HE Tryz.prog 204:=⟨Tryz.call204⟩
def ij (Sx:Int):Option Bool :=
 (
   if (-9007199254740992)<=Sx then
    some (decide (Sx<=9007199254740992))
   else
    some false
  ).bind λ t2 =>
 some t2
instance EV (Sx:Int):∀ (r:Bool),HP (ij Sx=some r) Tryz.prog 171 [eI Sx] (.p (eB r)):=by
 refine hP good Tryz.func171 Z Z λ r h0 _ w0=>?_;unfold ij at h0;exact kL
def bU (s7:Bytes):Nat->Int->Option (Unit⊕Bool)
 | 0,_=>none
 | m+1,Sr =>
 if Sr < (s7.length:Int) then
  (
    ck ((0:Int)<=Sr/\Sr < (s7.length:Int)) <|
    if byt s7 Sr < 48 then
     some true
    else
     ck ((0:Int)<=Sr/\Sr < (s7.length:Int)) <|
     some (decide (57 < byt s7 Sr))
   ).bind λ t21 =>
  if t21=true then
   some (.inr false)
  else
   ck (inR (Sr+1)) <|
   bU s7 m (Sr+1)
 else
  some (.inl ())
def fW (n:Nat)(Mr:Bytes):Option Bool :=
 jn (
   (
     if 0 < (Mr.length:Int) then
      ck ((0:Int)<=0/\0 < (Mr.length:Int)) <|
      some (decide (byt Mr 0=45))
     else
      some false
    ).bind λ t3 =>
   if t3=true then
    ck ((0:Int)<=1/\1<=(Mr.length:Int)/\(Mr.length:Int)<=(Mr.length:Int)) <|
    if sub Mr 1 (Mr.length:Int)=([48]:Bytes) then
     some (.inr false)
    else
     some (.inl (sub Mr 1 (Mr.length:Int)))
   else
    some (.inl Mr)
  : Option (Bytes⊕Bool)) λ s7 =>
 jn (bU s7 n 0) λ _S4 =>
 (
   if s7=([]:Bytes) then
    some false
   else
    ck ((0:Int)<=0/\0 < (s7.length:Int)) <|
    if byt s7 0=48 then
     some (decide ((s7.length:Int)=1))
    else
     some true
  ).bind λ W7 =>
 some W7
instance zB (n:Nat) (Mr:Bytes):∀ (r:Bool),HP (fW n Mr=some r) Tryz.prog 208 [eS Mr] (.p (eB r)):=by
 refine hP good Tryz.func208 Z Z λ r h0 _ w0=>?_;unfold fW at h0;refine nx 5 rfl ?_;obtain ⟨o34,h1,Sl,hR0⟩:=cm h0;refine kX (λ UK:Bytes=>o34=.inl UK) (λ UK=>⟨[(0,.p (eS UK))],[]⟩) (λ UK hv=>?_) ?_
 ·have h0:=Sl _ hv;refine nx 5 rfl (oLs rfl (nx 3 rfl ?_));obtain ⟨o36,h1,Sl,hR0⟩:=cm h0;refine kEx 0 (λ v37:Unit=>o36=.inl v37) (λ v37=>⟨[(0,.p (eS UK))],[]⟩) (λ v37 hv=>?_) ?_
  ·have h0:=Sl _ hv;have:=js [1100];have:=jS 1100 Bool λ v=>[(2,.p (eB v))]
   exact J0
  refine lG (λ (Vz:Int)=>⟨[(0,.p (eS UK)),(17,.p (eI (UK.length:Int))),(18,.p (eI Vz))],[]⟩) (λ m (Vz:Int)=>bU UK m Vz) Y 0 h1 (gE rfl rfl) ?_;rintro m Sr h1;replace h1:bU UK (m+1) Sr=some o36:=h1;rw [bU] at h1;have:=js [800];have:=jS 800 Bool λ v=>[(30,.p (eB v))]
  exact aG
 have:=js [100];have:=jS 100 Bool λ v=>[(11,.p (eB v))]
 exact aG
def jr (n:Nat)(Mr:Bytes):Option (Int×Int) :=
 (fW n Mr).bind λ r1 =>
 if (!r1)=true then
  some (0,2)
 else
  (ib Mr 10 64).bind λ r4 =>
  (
    if r4.2=true then
     some true
    else
     (ij r4.1).bind λ r7 =>
     some (!r7)
   ).bind λ t9 =>
  if t9=true then
   some (0,5)
  else
   some (r4.1,0)
instance E2 (n:Nat) (Mr:Bytes):∀ (r:Int×Int),HP (jr n Mr=some r) Tryz.prog 196 [eS Mr] (.tuple [.p (eI r.1),.p (eI r.2)]):=by
 refine hP good Tryz.func196 Z Z λ r h0 _ w0=>?_;unfold jr at h0;refine nx 9 Z (K0 λ r1 h0=>nx 2 Z (fB [8] h0 Z (λ c3 h0=>?_) λ c3 h0=>?_))
 ·exact J0
 refine nx 5 Z (bd h0 λ r4 e5 h0=>oK (oR Mr 10 64 _ e5) Z ⟨sr,sr,sr,trivial⟩ Tryz.call209 (Es (si Z (si (Nt _) AD))) (nx 8 Z (bd h0 λ V5 h1 h0=>kN V5 (λ W5=>⟨[(4,.p (eI r4.1)),(20,.p (eB W5))],[]⟩) ?_ ?_)))
 ·exact J0
 refine nx 2 Z (mO Z (N5 Z Z Z Z Z Z (.inr ⟨Z,Z⟩) ?_));exact aG
def bT (Mr:Bytes):Nat->Int->Int->Option (Int×Int)
 | 0,_,_=>none
 | m+1,n11,i12 =>
 (
   if i12 < (Mr.length:Int) then
    some (decide (i12 < 6))
   else
    some false
  ).bind λ W8 =>
 if W8=true then
  ck ((0:Int)<=i12/\i12 < (Mr.length:Int)) <|
  (strings_IndexByte ([48,49,50,51,52,53,54,55,56,57,97,98,99,100,101,102]:Bytes) (byt Mr i12)).bind λ UM =>
  if UM < 0 then
   some (n11,i12)
  else
   ck (inR (i12+1)) <|
   bT Mr m (IntKind.wrap .i32 ((IntKind.wrap .i32 (16*n11))+(IntKind.wrap .i32 (UM)))) (i12+1)
 else
  some (n11,i12)
def dX (n:Nat)(Mr:Bytes):Option (Int×Int×Int) :=
 (bT Mr n 0 0).bind λ UC =>
 if UC.2=(Mr.length:Int) then
  some (0,0,40)
 else
  (
    ck ((0:Int)<=UC.2/\UC.2 < (Mr.length:Int)) <|
    if byt Mr UC.2=125 then
     if UC.2=0 then
      some true
     else
      if 1 < UC.2 then
       ck ((0:Int)<=0/\0 < (Mr.length:Int)) <|
       if byt Mr 0=48 then
        some true
       else
        (ce UC.1).bind λ Ti =>
        some (!Ti)
      else
       (ce UC.1).bind λ RX =>
       some (!RX)
    else
     some true
   ).bind λ t36 =>
  if t36=true then
   some (0,0,2)
  else
   ck (inR (UC.2+1)) <|
   some (UC.1,UC.2+1,0)
instance xM (n:Nat) (Mr:Bytes):∀ (r:Int×Int×Int),HP (dX n Mr=some r) Tryz.prog 192 [eS Mr] (.tuple [.p (eK .i32 r.1),.p (eI r.2.1),.p (eI r.2.2)]):=by
 refine hP good Tryz.func192 Z Z λ r h0 _ w0=>?_;unfold dX at h0;refine nx 13 Z (bd h0 λ UE h1 h0=>kE 0 UE (λ TO=>⟨[(0,.p (eS Mr)),(5,.p (eK .i32 TO.1)),(6,.p (eI TO.2))],[]⟩) ?_ ?_)
 ·have:=js [900];have:=jS 900 Bool λ v=>[(54,.p (eB v))]
  exact J0
 refine lG (λ (Uh:Int×Int)=>⟨[(0,.p (eS Mr)),(5,.p (eK .i32 Uh.1)),(6,.p (eI Uh.2))],[]⟩) (λ m (Uh:Int×Int)=>bT Mr m Uh.1 Uh.2) Y (0,0) h1 (gE rfl rfl) ?_;rintro m ⟨n11,i12⟩ h1;replace h1:bT Mr (m+1) n11 i12=some UE:=h1;rw [bT] at h1;have:=js [200];have:=jS 200 Bool λ v=>[(15,.p (eB v))]
 exact aG
def iy (n:Nat)(Mr:Bytes):Option (Int×Int×Int) :=
 if Mr=([]:Bytes) then
  some (0,0,40)
 else
  ck ((0:Int)<=0/\0 < (Mr.length:Int)) <|
  if byt Mr 0=110 then
   some (10,1,0)
  else
   if byt Mr 0=114 then
    some (13,1,0)
   else
    if byt Mr 0=116 then
     some (9,1,0)
    else
     (
       if byt Mr 0=34 then
        some true
       else
        some (decide (byt Mr 0=92))
      ).bind λ t7 =>
     if t7=true then
      ck ((0:Int)<=0/\0 < (Mr.length:Int)) <|
      some (IntKind.wrap .i32 (byt Mr 0),1,0)
     else
      if byt Mr 0=117 then
       if (Mr.length:Int)=1 then
        some (0,0,40)
       else
        ck ((0:Int)<=1/\1 < (Mr.length:Int)) <|
        if byt Mr 1=123 then
         ck ((0:Int)<=2/\2<=(Mr.length:Int)/\(Mr.length:Int)<=(Mr.length:Int)) <|
         (dX n (sub Mr 2 (Mr.length:Int))).bind λ RJ =>
         ck (inR (RJ.2.1+2)) <|
         some (RJ.1,RJ.2.1+2,RJ.2.2)
        else
         some (0,0,2)
      else
       some (0,0,2)
instance Ez (n:Nat) (Mr:Bytes):∀ (r:Int×Int×Int),HP (iy n Mr=some r) Tryz.prog 174 [eS Mr] (.tuple [.p (eK .i32 r.1),.p (eI r.2.1),.p (eI r.2.2)]):=by
 refine hP good Tryz.func174 Z Z λ r h0 _ w0=>?_;unfold iy at h0;have:=js [1001];have:=jS 1001 Bool λ v=>[(18,.p (eB v))]
 exact J0
def dF (n:Nat)(Mr:Bytes):Nat->Int->(List UInt8)->Option ((Int×(List UInt8))⊕(Bytes×Int×Int))
 | 0,_,_=>none
 | m+1,at31,UI =>
 (
   if at31 < (Mr.length:Int) then
    ck ((0:Int)<=at31/\at31 < (Mr.length:Int)) <|
    some (!decide (byt Mr at31=34))
   else
    some false
  ).bind λ t35 =>
 if t35=true then
  ck ((0:Int)<=at31/\at31<=(Mr.length:Int)/\(Mr.length:Int)<=(Mr.length:Int)) <|
  (aZ (sub Mr at31 (Mr.length:Int))).bind λ Tg =>
  jn (
    if Tg.1=92 then
     ck (inR (at31+1)) <|
     ck ((0:Int)<=at31+1/\at31+1<=(Mr.length:Int)/\(Mr.length:Int)<=(Mr.length:Int)) <|
     (iy n (sub Mr (at31+1) (Mr.length:Int))).bind λ Ty =>
     if Ty.2.2=0 then
      ck (inR (Ty.2.1+1)) <|
      some (.inl (Ty.1,Ty.2.1+1))
     else
      some (.inr (.inr (([]:Bytes),0,Ty.2.2)))
    else
     (
       if Tg.1=65533 then
        if Tg.2=1 then
         some true
        else
         if Tg.1 < 32 then
          some true
         else
          some (decide (Tg.1=127))
       else
        if Tg.1 < 32 then
         some true
        else
         some (decide (Tg.1=127))
      ).bind λ t51 =>
     if t51=true then
      some (.inr (.inr (([]:Bytes),0,2)))
     else
      some (.inl (Tg.1,Tg.2))
   : Option ((Int×Int)⊕((Int×(List UInt8))⊕(Bytes×Int×Int)))) λ Vy =>
  (cR (bE.mk UI) Vy.1).bind λ TW =>
  ck (inR (at31+Vy.2)) <|
  dF n Mr m (at31+Vy.2) TW.2.2.IT
 else
  some (.inl (at31,UI))
def fZ (n:Nat)(Mr:Bytes):Option (Bytes×Int×Int) :=
 if Mr=([]:Bytes) then
  some (([]:Bytes),0,40)
 else
  ck ((0:Int)<=0/\0 < (Mr.length:Int)) <|
  if byt Mr 0=34 then
   jn (dF n Mr n 1 []) λ We =>
   if We.1=(Mr.length:Int) then
    some (([]:Bytes),0,40)
   else
    (iv (bE.mk We.2)).bind λ TE =>
    if 4096 < TE.1 then
     some (([]:Bytes),0,3)
    else
     (eC (bE.mk TE.2.IT)).bind λ TD =>
     ck (inR (We.1+1)) <|
     some (TD.1,We.1+1,0)
  else
   some (([]:Bytes),0,2)
instance Ce (n:Nat) (Mr:Bytes):∀ (r:Bytes×Int×Int),HP (fZ n Mr=some r) Tryz.prog 158 [eS Mr] (.tuple [.p (eS r.1),.p (eI r.2.1),.p (eI r.2.2)]):=by
 refine hP good Tryz.func158 Z Z λ r h0 _ w0=>?_;unfold fZ at h0;refine nx 10 Z (oS Z Z (nx 1 Z (fD [13] h0 Z (λ c1 h0=>?_) λ c1 h0=>?_)))
 ·exact J0
 refine nx 6 Z (oI h0 Z λ To h0=>nx 2 Z (fN [16] h0 Z (λ c3 h0=>?_) λ c3 h0=>?_))
 ·refine nx 4 rfl (mO rfl (Er Z Z Z Z Z Z Z (nx 7 rfl ?_)));obtain ⟨Xl,h1,Sl,hR0⟩:=cm h0;refine kEx 0 (λ UJ:Int×(List UInt8)=>Xl=.inl UJ) (λ UJ=>⟨[(0,.p (eS Mr)),(5,.ptr 5 0),(6,.p (eI UJ.1))],[(5,[.bptr 93 2 5,.vec 101000 1 (5+1) (UJ.2.map eU)])]⟩) (λ UJ hv=>?_) ?_
  ·have h0:=Sl _ hv;refine nx 6 Z (oLs Z (nx 2 Z (fD [73] h0 Z (λ c62 h0=>?_) λ c62 h0=>?_)))
   ·exact J0
   refine nx 5 Z (bd h0 λ TE e64 h0=>mO Z (a8 [5] [101000] 103000 103001 (mY (bE.mk UJ.2) _ e64) Z Z Z Z Z ⟨sr,trivial⟩ Z Z ⟨⟨_,Z,⟨sr,sr,trivial⟩⟩,trivial⟩ Z Z Z Z Z Z Z Z Tryz.call176 Z Z (nx 2 Z (fD [75] h0 Z (λ c65 h0=>?_) λ c65 h0=>?_))))
   ·exact J0
   exact nx 4 Z (bd h0 λ TD e67 h0=>mO Z (a8 [5] [103000] 104000 104000 (lN (bE.mk TE.2.IT) _ e67) Z Z Z Z Z ⟨sr,trivial⟩ Z Z ⟨⟨_,Z,⟨sr,sr,trivial⟩⟩,trivial⟩ Z Z Z Z Z Z Z Z Tryz.call59 Z Z J0))
  refine lG (λ (UQ:Int×(List UInt8))=>⟨[(0,.p (eS Mr)),(5,.ptr 5 0),(6,.p (eI UQ.1))],[(5,[.bptr 93 2 5,.vec 101000 1 (5+1) (UQ.2.map eU)])]⟩) (λ m (UQ:Int×(List UInt8))=>dF n Mr m UQ.1 UQ.2) Y (1,[]) h1 (fb (nS ⟨er rfl,er rfl,er rfl,trivial⟩ ⟨⟨_,rfl,⟨sr,AV.sub_nilvec _ _ _,trivial⟩⟩,trivial⟩)) ?_;rintro m ⟨at31,UI⟩ h1;replace h1:dF n Mr (m+1) at31 UI=some Xl:=h1;rw [dF] at h1;refine nx 2 rfl (bd h1 λ Xk h2 h1=>kN Xk (λ Vp=>⟨[(0,.p (eS Mr)),(5,.ptr 5 0),(6,.p (eI at31)),(26,.p (eB Vp))],[(5,[.bptr 93 2 5,.vec 101000 1 (5+1) (UI.map eU)])]⟩) ?_ ?_)
  ·refine nx 1 Z (fB [26] h1 Z (λ WK h1=>?_) λ WK h1=>?_)
   ·refine nx 7 rfl (oP h1 Z Z Z λ Ur h1=>bd h1 λ Tg XD h1=>oK (de (sub Mr at31 (Mr.length:Int)) _ XD) rfl ⟨sr,trivial⟩ Tryz.call126 rfl (nx 7 rfl ?_));obtain ⟨o78,h2,hL1,hR1⟩:=cm h1;refine kX (λ Vo:Int×Int=>o78=.inl Vo) (λ Vo=>⟨[(0,.p (eS Mr)),(5,.ptr 5 0),(6,.p (eI at31)),(7,.p (eK .i32 Vo.1)),(8,.p (eI Vo.2))],[(5,[.bptr 93 2 5,.vec 101000 1 (5+1) (UI.map eU)])]⟩) (λ Vo hv=>?_) ?_
    ·have h1:=hL1 _ hv;exact nx 4 Z (bd h1 λ TW e56 h1=>mO Z (a8 [5] [101000] 102000 102001 (kM (bE.mk UI) Vo.1 _ e56) Z Z Z Z Z ⟨sr,sr,trivial⟩ Z Z ⟨⟨_,Z,⟨sr,sr,trivial⟩⟩,trivial⟩ Z Z Z Z Z Z Z Z Tryz.call175 Z Z (nx 4 Z (oA h1 Z Z λ Ws h1=>nx 2 Z (eX (at31+Vo.2,TW.2.2.IT) h1 (bo (ca 102000 101000 Z Z Z Z Z) (gE Z Z)))))))
    refine nx 5 Z (fD [35] h2 Z (λ XK h2=>?_) λ XK h2=>?_)
    ·exact gN
    refine nx 2 Z (bd h2 λ o80 h3 h2=>kN o80 (λ v81=>⟨[(0,.p (eS Mr)),(5,.ptr 5 0),(6,.p (eI at31)),(7,.p (eK .i32 Tg.1)),(8,.p (eI Tg.2)),(64,.p (eB v81))],[(5,[.bptr 93 2 5,.vec 101000 1 (5+1) (UI.map eU)])]⟩) ?_ ?_)
    ·exact gN
    refine nx 4 Z (fD [52,53] h3 Z (λ WJ h3=>?_) λ WJ h3=>?_)
    ·refine nx 4 Z (fD [55,56,57] h3 Z (λ c48 h3=>?_) λ c48 h3=>?_)
     ·exact nx 8 Z kD
     refine nx 4 Z (fD [59,60,61] h3 Z (λ c49 h3=>?_) λ c49 h3=>?_)
     ·exact xl
     exact xl
    refine nx 8 Z (fD [59,60,61] h3 Z (λ c50 h3=>?_) λ c50 h3=>?_)
    ·exact xl
    exact xl
   exact aG
  exact gN
 exact J0
def iX (Mr:Bytes):Option Bool :=
 (
   if (Mr.length:Int)<=4096 then
    (cY Mr).bind λ r2 =>
    some r2
   else
    some false
  ).bind λ t4 =>
 some t4
instance EZ (Mr:Bytes):∀ (r:Bool),HP (iX Mr=some r) Tryz.prog 188 [eS Mr] (.p (eB r)):=by
 refine hP good Tryz.func188 Z Z λ r h0 _ w0=>?_;unfold iX at h0;exact kL
end Go.Ab.R06
end
section
namespace Go.Ab.R06
open Go.Ab Go.Ab.RB
section
variable {p:Prop}
theorem Hc (h:p:=by
 rw [List.getD_eq_getElem?_getD,List.getElem?_eq_getElem h,Option.getD_some]
 exact List.drop_eq_getElem_cons h):p:=h
theorem A3 (h:p:=by
 refine Prod.ext ?_ rfl;show _=r.toNat
 simp only; omega):p:=h
theorem Jv (h:p:=by
 refine ae G (ah (cH O O) ?_);have:=ih (i+1) O;rw [Int.natCast_add,Int.natCast_one] at this;simp only [nI,hk,Bool.true_and]
 exact this):p:=h
theorem IK (h:p:=by
 refine ay (λ h1=>ay (λ h2=>ab ?_) (λ h2=>ay (λ h3=>ab ?_) (λ h3=>ab (eqB ?_)))) (λ h1=>ay (λ h3=>ab ?_) (λ h3=>ab (eqB ?_)))
 ·symm; rw [decide_eq_true_eq]; left; simp only; omega
 ·symm; rw [decide_eq_true_eq]; right; left; simp only; omega
 ·rw [decide_eq_true_eq,decide_eq_true_eq]; unfold kH; simp only; omega
 ·symm; rw [decide_eq_true_eq]; right; left; simp only; omega
 ·rw [decide_eq_true_eq,decide_eq_true_eq]; unfold kH; simp only; omega):p:=h
theorem IJ (h:p:=by
 exact ae O (ab (eqB (by rw [decide_eq_true_eq,decide_eq_true_eq]; omega)))):p:=h
theorem BC (h:p:=by
 rw [Int.fdiv_eq_ediv_of_nonneg _ (by decide)]; rfl):p:=h
theorem I0 (h:p:=by
 unfold strings_IndexByte;have:((b.toNat:Int).toNat.toUInt8)=b:=by simp
 rw [this]; rfl):p:=h
theorem Hm (h:p:=by
 simp only [idB,Bool.or_eq_true];rcases this with h | h
 ·exact .inl h
 ·exact .inr h.2):p:=h
theorem AH (h:p:=by
 unfold aZ
 rw [j4 _ G]):p:=h
theorem uM (h:p:=by
 simp [IntKind.wrap,IntKind.bits,IntKind.signed]
 omega):p:=h
theorem FS (h:p:=by exact aj O (ah O (ab (by simp; omega)))):p:=h
theorem wG (h:p:=by exact aj O (ab (by simp; omega))):p:=h
theorem pA (h:p:=by simp only [aq,dg]; omega):p:=h
theorem u6 (h:p:=by rw [n6]; omega):p:=h
theorem BE (h:p:=by rw [n6]; simp only [aq]; omega):p:=h
theorem bY (h:p:=by simp only [bt,aq,dg]; omega):p:=h
theorem pu (h:p:=by exact aw Z Z):p:=h
theorem uC (h:p:=by exact ah (cH O O) (ab Z)):p:=h
theorem ra (h:p:=by rw [bt]; omega):p:=h
theorem nD (h:p:=by exact ae O (ab Z)):p:=h
theorem rD (h:p:=by simp only; omega):p:=h
end
section
variable {α β:Type} {P:α->Prop}
theorem ai {g:Nat->Nat->Option β}{k:Nat->Nat->β->Option α}(x:β)(h:Ev2 g (·=x))(hk:Ev2 (λ n m=>k n m x) P):Ev2 (λ n m=>(g n m).bind (k n m)) P :=
 ao (·=x) h λ y hy=>by subst hy; exact hk
end
def iJ (b:UInt8):Bool:=(decide (97<=b.toNat)&&decide (b.toNat<=122))||(decide (65<=b.toNat)&&decide (b.toNat<=90))||decide (b.toNat=95)
def fe (b:UInt8):Bool:=decide (48<=b.toNat)&&decide (b.toNat<=57)
def idB (b:UInt8):Bool:=iJ b||fe b
def bG:Bytes->Bool
 | []=>false
 | b::r=>decide ((b::r).length<=64)&&iJ b&&r.all idB
def yx (s:Bytes)(i:Nat):Bool:=iJ (s.getD i 0)||(decide (i≠0)&&fe (s.getD i 0))
def nI (p:Nat->Bool):Nat->Nat->Bool
 | _,0=>true
 | i,k+1=>p i&&nI p (i+1) k
theorem nA (p:Nat->Bool):∀ (k i:Nat),nI p i k=true↔∀ j,i<=j->j < i+k->p j=true
 | 0,i=>by simp [nI]; intro j h1 h2; omega
 | k+1,i=>by
  rw [nI,n7,nA p k (i+1)];constructor
  ·rintro ⟨h1,h2⟩ j h3 h4;by_cases e:j=i
   ·rw [e]; exact h1
   ·exact h2 j O O
  ·intro h;exact ⟨h i O O,λ j h1 h2=>h j O O⟩
theorem or32:(List.range 256).all (λ n=>(decide ((97:Int)<=iOr .u8 (n:Int) 32)&&decide (iOr .u8 (n:Int) 32<=122)) == ((decide (97<=n)&&decide (n<=122))||(decide (65<=n)&&decide (n<=90))))=true:=by kernel_rfl
theorem OI (b:UInt8):(97<=iOr .u8 ((b.toNat:Nat):Int) 32/\iOr .u8 ((b.toNat:Nat):Int) 32<=122)↔((97<=b.toNat/\b.toNat<=122)\/(65<=b.toNat/\b.toNat<=90)):=by
 have h:=th.1 or32 b.toNat (List.mem_range.2 b.toNat_lt);have h:=eq_of_beq h;rw [Bool.eq_iff_iff] at h;simpa using h
theorem nP (b:UInt8):iJ b=true↔(97<=b.toNat/\b.toNat<=122)\/(65<=b.toNat/\b.toNat<=90)\/b.toNat=95:=by
 simp [iJ,or_assoc]
theorem km (b:UInt8):fe b=true↔48<=b.toNat/\b.toNat<=57:=by simp [fe]
theorem eqB {a b:Bool}(h:a=true↔b=true):a=b:=Bool.eq_iff_iff.2 h
theorem lq (s:Bytes)(i:Nat):yx s i=true↔iJ (s.getD i 0)=true\/(i≠0/\fe (s.getD i 0)=true):=by simp [yx]
theorem hH (s:Bytes):bG s=true↔s≠[]/\s.length<=64/\nI (yx s) 0 s.length=true:=by
 rw [nA]
 cases s with
 | nil=>simp [bG]
 | cons b r =>
  simp only [bG,n7,decide_eq_true_eq,th];constructor
  ·rintro ⟨⟨h1,h2⟩,h3⟩;refine ⟨by simp,h1,λ j _ hj=>?_⟩;rw [lq]
   cases j with
   | zero=>exact .inl h2
   | succ j =>
    have hm:r.getD j 0∈r:=by
     rw [List.getD_eq_getElem?_getD,List.getElem?_eq_getElem (by simp at hj; omega)];exact List.getElem_mem _
    have:=h3 _ hm;simp only [idB,Bool.or_eq_true] at this;rcases this with h | h
    ·exact .inl h
    ·exact .inr ⟨by omega,h⟩
  ·rintro ⟨_,h1,h2⟩;refine ⟨⟨h1,?_⟩,λ x hx=>?_⟩
   ·have:=(lq _ _).1 (h2 0 O G);simpa using this
   ·obtain ⟨j,hj,rfl⟩:=List.getElem_of_mem hx;have:=(lq _ _).1 (h2 (j+1) O ef);rw [show (b::r).getD (j+1) 0=r[j] by simp [hj]] at this;exact Hm
theorem zl (s:Bytes):bG s=true↔s≠[]/\s.length<=64/\iJ (s.getD 0 0)=true/\nI (λ j=>idB (s.getD j 0)) 0 s.length=true:=by
 rw [hH,nA,nA];constructor
 ·rintro ⟨h1,h2,h3⟩;have hl:0 < s.length:=List.length_pos_iff.2 h1;refine ⟨h1,h2,?_,λ j _ hj=>?_⟩
  ·have:=(lq s 0).1 (h3 0 O O);simpa using this
  ·have:=(lq s j).1 (h3 j O hj);exact Hm
 ·rintro ⟨h1,h2,h3,h4⟩;refine ⟨h1,h2,λ j _ hj=>(lq s j).2 ?_⟩;have:=h4 j O hj;simp only [idB,Bool.or_eq_true] at this;by_cases e:j=0
  ·subst e; exact .inl h3
  ·rcases this with h | h
   ·exact .inl h
   ·exact .inr ⟨e,h⟩
end Go.Ab.R06
namespace Go.Ab.R06
open Go.Ab Go.Ab.RB Go.Lib
def jJ (acc:Nat)(l:Bytes):Nat:=l.foldl (λ a b=>a*10+(b.toNat - 48)) acc
theorem ui (a:Nat):jJ a []=a:=rfl
theorem rt (a:Nat)(b:UInt8)(l:Bytes):jJ a (b::l)=jJ (a*10+(b.toNat - 48)) l:=by simp only [jJ,List.foldl_cons]
theorem yD (a:Nat)(l m:Bytes):jJ a (l++m)=jJ (jJ a l) m:=by simp [jJ]
theorem EH (a:Nat)(l:Bytes)(b:UInt8):jJ a (l++[b])=jJ a l*10+(b.toNat - 48):=by rw [yD]; rfl
theorem Cq:∀ (l:Bytes) (a:Nat),a<=jJ a l
 | [],a=>Nat.le_of_eq (ui a).symm
 | b::r,a=>by
  rw [rt];have:=Cq r (a*10+(b.toNat - 48));generalize jJ (a*10+(b.toNat - 48)) r=v at this ⊢;omega
theorem ws {l:Bytes}(h:l.all fe=true){b:UInt8}(hb:b∈l):48<=b.toNat/\b.toNat<=57:=(km b).1 (th.1 h b hb)
theorem GQ:∀ (l:Bytes) (acc:Nat),l.all fe=true->(jJ acc l<=18446744073709551615->parseUintM 18446744073709551615 acc l=.ok (jJ acc l))/\(18446744073709551615 < jJ acc l->acc<=18446744073709551615->parseUintM 18446744073709551615 acc l=.range)
 | [],acc,_=>by
  rw [ui];exact ⟨λ _=>rfl,λ h h'=>by omega⟩
 | b::r,acc,h=>by
  have hb:=ws h List.mem_cons_self;have hr:r.all fe=true:=by simp only [List.all_cons,n7] at h; exact h.2
  rw [parseUintM,if_pos hb,rt];have hg:=Cq r (acc*10+(b.toNat - 48));have ih:=GQ r (acc*10+(b.toNat - 48)) hr;generalize jJ (acc*10+(b.toNat - 48)) r=v at hg ih ⊢;by_cases h1:1844674407370955162<=acc
  ·rw [if_pos h1];exact ⟨λ h2=>by omega,λ _ _=>rfl⟩
  ·rw [if_neg h1];by_cases h2:18446744073709551615 < acc*10+(b.toNat - 48)
   ·rw [if_pos h2];exact ⟨λ h3=>by omega,λ _ _=>rfl⟩
   ·rw [if_neg h2];exact ⟨ih.1,λ h3 _=>ih.2 h3 O⟩
theorem OS (l:Bytes)(RP:l≠[])(h:l.all fe=true):parseUintB 64 l=if jJ 0 l<=18446744073709551615 then .ok (jJ 0 l) else .range:=by
 rw [parseUintB,if_neg RP];show parseUintM (2 ^ 64 - 1) 0 l=_;rw [show (2 ^ 64 - 1:Nat)=18446744073709551615 from rfl];have:=GQ l 0 h;generalize jJ 0 l=v at this ⊢;by_cases q:v<=18446744073709551615
 ·rw [if_pos q]; exact this.1 q
 ·rw [if_neg q]; exact this.2 O O
def AB (l:Bytes):Bool:=!l.isEmpty&&l.all fe&&(decide (l.getD 0 0≠48)||decide (l.length=1))
theorem tU (l:Bytes):AB l=true↔l≠[]/\l.all fe=true/\(l.getD 0 0≠48\/l.length=1):=by
 simp [AB,and_assoc]
def pE (s:Bytes):Bool:=decide (0 < s.length)&&decide (s.getD 0 0=45)
def digits (s:Bytes):Bytes:=if pE s=true then s.drop 1 else s
def q8 (s:Bytes):Bool:=!(pE s&&decide (s.drop 1=[48]))&&AB (digits s)
def pG (s:Bytes):Int:=if pE s=true then -(jJ 0 (digits s):Int) else (jJ 0 (digits s):Int)
def gO:Int:=9007199254740992
def sx (s:Bytes):Int×Int:=if q8 s=true then (if -gO<=pG s/\pG s<=gO then (pG s,0) else (0,5)) else (0,2)
theorem H6 (s:Bytes)(hs:s.length<=1000000000):∀ (k i:Nat),i+k=s.length->Ev2 (λ _ m=>bU s m (i:Int)) (·=if nI (λ j=>fe (s.getD j 0)) i k then .inl () else .inr false):=by
 intro k
 induction k with
 | zero =>
  intro i hi;refine aA ?_;simp only [bU];refine ae O (ab rfl)
 | succ k ih =>
  intro i hi;refine aA ?_;simp only [bU];refine aj O ?_;have hb:byt s i=((s.getD i 0).toNat:Int):=eA s i;rw [hb];refine ai (!fe (s.getD i 0)) ?_ ?_
  ·have h:=km (s.getD i 0);generalize s.getD i 0=b at h ⊢;refine ah O (ay (λ h1=>ab ?_) (λ h1=>ah O (ab ?_)))
   ·have:fe b=false:=by rw [<- Bool.not_eq_true,h]; omega
    simp [this]
   ·refine eqB ?_;rw [decide_eq_true_eq,Bool.not_eq_true',<- Bool.not_eq_true,h];omega
  ·cases hk:fe (s.getD i 0) with
   | false=>exact aj Z (ab (by simp only [nI,hk,Bool.false_and]; rfl))
   | true =>
    exact Jv
theorem Jg (s:Bytes)(p:UInt8->Bool):nI (λ j=>p (s.getD j 0)) 0 s.length=s.all p:=by
 refine eqB ?_;rw [nA,th];constructor
 ·intro h x hx;obtain ⟨j,hj,rfl⟩:=List.getElem_of_mem hx;have:=h j O O;simpa [hj] using this
 ·intro h j _ hj;have hj:j < s.length:=by omega
  have:=h s[j] (List.getElem_mem hj);simpa [hj] using this
theorem xo (s:Bytes)(hs:s.length<=1000000000):Ev2 (λ n _=>fW n s) (·=q8 s):=by
 simp only [fW];have hb:byt s 0=((s.getD 0 0).toNat:Int):=eA s 0;have hneg:pE s=true↔0 < s.length/\s.getD 0 0=45:=by simp [pE]
 have h45:(s.getD 0 0).toNat=45↔s.getD 0 0=45:=⟨λ h=>UInt8.toNat_inj.1 h,λ h=>by rw [h]; rfl⟩
 have body:∀ t:Bytes,t.length<=1000000000->Ev2 (λ n m=>jn (bU t n 0) λ S4 =>
   ((if t=([]:Bytes) then some false else ck ((0:Int)<=0/\0 < (t.length:Int)) <| if byt t 0=48 then some (decide ((t.length:Int)=1)) else some true):Option Bool).bind λ W7=>some W7) (·=AB t):=by
  intro t ht;have l:=H6 t ht t.length 0 O;rw [Jg] at l;have hc:=tU t;have hb':byt t 0=((t.getD 0 0).toNat:Int):=eA t 0;have h48:(t.getD 0 0).toNat=48↔t.getD 0 0=48:=⟨λ h=>UInt8.toNat_inj.1 h,λ h=>by rw [h]; rfl⟩
  cases ha:t.all fe with
  | false =>
   rw [ha] at l hc;refine jR false (bh l) (eqB ?_);rw [hc]; simp
  | true =>
   rw [ha] at l hc;refine fx () (bh l) (ao (·=AB t) ?_ (λ x hx=>ab hx));refine ay (λ h=>ab (eqB ?_)) (λ h=>ah ?_ ?_)
   ·rw [hc]; simp [h]
   ·have:=List.length_pos_iff.2 h; omega
   ·rw [hb'];refine ay (λ h1=>ab (eqB ?_)) (λ h1=>ab (eqB ?_))
    ·have h2:=h48.1 O;rw [hc,decide_eq_true_eq];constructor
     ·intro q; exact ⟨h,by simp,.inr O⟩
     ·rintro ⟨_,_,q | q⟩
      ·exact absurd h2 q
      ·omega
    ·rw [hc]; simp only [true_iff];exact ⟨h,by simp,.inl λ q=>h1 (by have:=h48.2 q; omega)⟩
 refine d5 (ai (pE s) ?_ ?_)
 ·refine ay (λ h=>ah O (ab (eqB ?_))) (λ h=>ab (eqB ?_))
  ·rw [hneg,hb,decide_eq_true_eq];constructor
   ·intro q; exact ⟨by omega,h45.1 O⟩
   ·rintro ⟨_,q⟩; have:=h45.2 q; omega
  ·rw [hneg];constructor
   ·intro q; cases q
   ·rintro ⟨q,_⟩; omega
 ·rw [jh];show Ev2 (λ n m=>if pE s=true then ck _ (if s.drop 1=[48] then some (Sum.inr false) else some (Sum.inl (s.drop 1))) else some (Sum.inl s)) _;refine ay (λ h=>ah ?_ (ay (λ h1=>ab ?_) (λ h1=>ab ?_))) (λ h=>ab ?_)
  ·have:=hneg.1 h; omega
  ·simp [q8,h,h1]
  ·have e:q8 s=AB (s.drop 1):=by unfold q8 digits; rw [if_pos h,decide_eq_false h1]; simp
   rw [e];exact body _ ef
  ·have e:q8 s=AB s:=by simp [q8,h,digits]
   rw [e];exact body _ hs
theorem wE (v:Int):ij v=some (decide (-gO<=v/\v<=gO)):=by
 simp only [ij];by_cases h:(-9007199254740992:Int)<=v
 ·rw [if_pos h];by_cases h2:v<=9007199254740992
  ·simp [h2,gO,h]
  ·simp [h2,gO]
 ·rw [if_neg h,qr];refine congrArg some (eqB ?_);rw [decide_eq_true_eq]; unfold gO;constructor
  ·intro q; cases q
  ·intro q; exact absurd q.1 h
theorem xT {s:Bytes}(h:q8 s=true):digits s≠[]/\(digits s).all fe=true:=by
 simp only [q8,n7] at h;have:=(tU _).1 h.2;exact ⟨this.1,this.2.1⟩
theorem Oq (s:Bytes)(h:q8 s=true):parseIntB 64 s=if (if pE s=true then 9223372036854775808 < jJ 0 (digits s) else 9223372036854775808<=jJ 0 (digits s)) then .range else .ok (pG s):=by
 obtain ⟨h1,h2⟩:=xT h
 cases s with
 | nil=>exact absurd (by simp [digits,pE]) h1
 | cons c r =>
  have XB:c.toNat=45↔c=45:=⟨λ h=>UInt8.toNat_inj.1 h,λ h=>by rw [h]; rfl⟩
  have hneg:pE (c::r)=decide (c=45):=by simp [pE]
  have hd:(if c.toNat=43\/c.toNat=45 then r else c::r)=digits (c::r):=by
   unfold digits;rw [hneg];by_cases q:c=45
   ·rw [if_pos (.inr (XB.2 q)),if_pos (by simp [q])]; rfl
   ·have e:digits (c::r)=c::r:=by unfold digits; rw [hneg,if_neg (by simp [q])]
    have e2:(if decide (c=45)=true then List.drop 1 (c::r) else c::r)=c::r:=if_neg (by simp [q]);rw [e2,if_neg];rintro (k | k)
    ·rw [e] at h2;have:=ws h2 List.mem_cons_self;omega
    ·exact q (XB.1 k)
  have hp:=OS _ h1 h2;unfold parseIntB;simp only [hd,hp];rw [hneg];unfold pG;rw [hneg];generalize jJ 0 (digits (c::r))=v;by_cases q:c=45
  ·subst q;by_cases hv:v<=18446744073709551615
   ·simp only [hv,if_true];by_cases hw:9223372036854775808 < v
    ·simp [hw]
    ·simp [hw]
   ·simp only [hv,if_false];rw [if_pos]; simp; omega
  ·have q':¬ c.toNat=45:=λ k=>q (XB.1 k);by_cases hv:v<=18446744073709551615
   ·simp only [hv,if_true];by_cases hw:9223372036854775808<=v
    ·simp [q,q',hw]
    ·simp [q,q',hw]
   ·simp only [hv,if_false];rw [if_pos]; simp [q]; omega
theorem xZ (s:Bytes)(hs:s.length<=1000000000):Ev2 (λ n _=>jr n s) (·=sx s):=by
 simp only [jr];refine ai _ (xo s hs) ?_
 cases hc:q8 s with
 | false=>exact aj Z (ab (by simp [sx,hc]))
 | true =>
  refine ae G ?_
  have hp:ib s 10 64=some (match parseIntB 64 s with | .ok v=>(v,false) | .range=>(intSat 64 s,true) | _=>(0,true)):=by
   unfold ib;exact bF ⟨Z,Z,by omega⟩
  rw [Oq s hc] at hp;have e:sx s=(if -gO<=pG s/\pG s<=gO then (pG s,0) else (0,5)):=by simp [sx,hc]
  rw [e];by_cases hr:(if pE s=true then 9223372036854775808 < jJ 0 (digits s) else 9223372036854775808<=jJ 0 (digits s))
  ·rw [if_pos hr] at hp;refine ai _ (aw hp rfl) ?_;refine ai true (aj rfl (ab rfl)) (aj rfl (ab ?_));rw [if_neg];unfold pG gO
   cases hn:pE s with
   | true=>rw [hn,if_pos rfl] at hr; rw [if_pos rfl]; omega
   | false=>rw [hn,if_neg G] at hr; rw [if_neg G]; omega
  ·rw [if_neg hr] at hp;refine ai _ (aw hp rfl) ?_;refine ai (!decide (-gO<=pG s/\pG s<=gO)) ?_ ?_
   ·exact ae G (ai _ (aw (wE _) Z) (ab Z))
   ·by_cases q:-gO<=pG s/\pG s<=gO
    ·rw [if_pos q];exact ae (by simp [q]) (ab rfl)
    ·rw [if_neg q];exact aj (by simp only [q,decide_false,Bool.not_false]) (ab rfl)
theorem Cr:∀ (n u:Nat),u < n->jJ 0 (decDigits u)=u/\(decDigits u).all fe=true/\decDigits u≠[]/\((decDigits u).getD 0 0≠48\/(decDigits u).length=1)/\(1<=u->(decDigits u).getD 0 0≠48):=by
 intro n
 induction n with
 | zero=>intro u h; omega
 | succ n ih =>
  intro u hu
  have hdig:∀ k,k < 10->(UInt8.ofNat (48+k)).toNat=48+k:=λ k hk=>by
   rw [UInt8.toNat_ofNat']; omega
  rw [decDigits];by_cases h:u < 10
  ·rw [dif_pos h];have:=hdig u h;refine ⟨by rw [rt,ui,this]; omega,by simp only [List.all_cons,List.all_nil,Bool.and_true,km,this]; omega,by simp,.inr rfl,λ h1=>?_⟩;intro q;have q':(UInt8.ofNat (48+u))=48:=q;rw [q'] at this;have:(48:UInt8).toNat=48:=rfl;omega
  ·rw [dif_neg h];obtain ⟨a1,a2,a3,a4,a5⟩:=ih (u / 10) O;have hd:=hdig (u % 10) O
   have hh:(decDigits (u / 10)++[UInt8.ofNat (48+u % 10)]).getD 0 0=(decDigits (u / 10)).getD 0 0:=by
    cases hx:decDigits (u / 10) with
    | nil=>exact absurd hx a3
    | cons c r=>rfl
   refine ⟨?_,?_,by simp,?_,?_⟩
   ·rw [EH,a1,hd]; omega
   ·rw [List.all_append,a2]; simp only [List.all_cons,List.all_nil,Bool.and_true,Bool.true_and,km,hd]; omega
   ·rw [hh]; exact .inl (a5 O)
   ·rw [hh]; exact λ _=>a5 O
theorem D7 (v:Int)(h0:0<=v)(h1:v<=gO):sx (itoa v)=(v,0):=by
 obtain ⟨u,rfl⟩:∃ u:Nat,v=u:=⟨v.toNat,by omega⟩
 have e:itoa (u:Int)=decDigits u:=by unfold itoa; rw [if_neg O]; simp
 obtain ⟨a1,a2,a3,a4,a5⟩:=Cr (u+1) u O
 have hn:pE (decDigits u)=false:=by
  rw [<- Bool.not_eq_true];intro q;simp only [pE,n7,decide_eq_true_eq] at q
  have hm:(decDigits u).getD 0 0∈decDigits u:=by
   rw [List.getD_eq_getElem?_getD,List.getElem?_eq_getElem q.1]; exact List.getElem_mem _
  have:=ws a2 hm;rw [q.2] at this;have:(45:UInt8).toNat=45:=rfl;omega
 have hd:digits (decDigits u)=decDigits u:=by simp [digits,hn]
 have hc:q8 (decDigits u)=true:=by
  simp only [q8,hn,hd,Bool.false_and,Bool.not_false,Bool.true_and];exact (tU _).2 ⟨a3,a2,a4⟩
 have hv:pG (decDigits u)=u:=by simp [pG,hn,hd,a1]
 rw [e,sx,if_pos hc,hv,if_pos ⟨by unfold gO at *; omega,h1⟩]
end Go.Ab.R06
namespace Go.Ab.R06
open Go.Ab Go.Ab.RB Go.Lib
theorem tz (x:Int):IntKind.wrap .u8 x=x % 256:=by simp [IntKind.wrap,IntKind.bits,IntKind.signed]
theorem wrap32 (x:Int):IntKind.wrap .u32 x=x % 4294967296:=by simp [IntKind.wrap,IntKind.bits,IntKind.signed]
theorem shr6 (x:Int):fU .i32 x 6=x / 64:=by
 show x.fdiv (2 ^ 6)=x / 64;exact BC
theorem QY (x:Int):fU .i32 x 12=x / 4096:=by
 show x.fdiv (2 ^ 12)=x / 4096;exact BC
theorem Ra (x:Int):fU .i32 x 18=x / 262144:=by
 show x.fdiv (2 ^ 18)=x / 262144;exact BC
theorem t63:(List.range 256).all (λ n=>cg .u8 (n:Int) 63 == ((n % 64:Nat):Int))=true:=by kernel_rfl
theorem t128:(List.range 64).all (λ n=>iOr .u8 128 (n:Int) == ((128+n:Nat):Int))=true:=by kernel_rfl
theorem t192:(List.range 32).all (λ n=>iOr .u8 192 (n:Int) == ((192+n:Nat):Int))=true:=by kernel_rfl
theorem t224:(List.range 16).all (λ n=>iOr .u8 224 (n:Int) == ((224+n:Nat):Int))=true:=by kernel_rfl
theorem t240:(List.range 8).all (λ n=>iOr .u8 240 (n:Int) == ((240+n:Nat):Int))=true:=by kernel_rfl
theorem tab {f g:Nat->Int}{m:Nat}(h:(List.range m).all (λ n=>f n == g n)=true)(n:Nat)(hn:n < m):f n=g n:=eq_of_beq (th.1 h n (List.mem_range.2 hn))
theorem GH (x:Int):cg .u8 (IntKind.wrap .u8 x) 63=x % 64:=by
 rw [tz];obtain ⟨n,hn⟩:∃ n:Nat,x % 256=n:=⟨(x % 256).toNat,by omega⟩
 rw [hn,tab t63 n O]; omega
theorem FN {x:Int}(h0:0<=x)(h1:x < 64):iOr .u8 128 x=128+x:=by
 obtain ⟨n,rfl⟩:∃ n:Nat,x=n:=⟨x.toNat,by omega⟩
 rw [tab t128 n O]; omega
theorem Q6 {x:Int}(h0:0<=x)(h1:x < 32):iOr .u8 192 x=192+x:=by
 obtain ⟨n,rfl⟩:∃ n:Nat,x=n:=⟨x.toNat,by omega⟩
 rw [tab t192 n O]; omega
theorem QM {x:Int}(h0:0<=x)(h1:x < 16):iOr .u8 224 x=224+x:=by
 obtain ⟨n,rfl⟩:∃ n:Nat,x=n:=⟨x.toNat,by omega⟩
 rw [tab t224 n O]; omega
theorem Q9 {x:Int}(h0:0<=x)(h1:x < 8):iOr .u8 240 x=240+x:=by
 obtain ⟨n,rfl⟩:∃ n:Nat,x=n:=⟨x.toNat,by omega⟩
 rw [tab t240 n O]; omega
def gx (r:Int):Prop:=(0<=r/\r < 55296)\/(57343 < r/\r<=1114111)
theorem x6 (p:Bytes)(r:Int)(h:gx r)(hp:p.length<=100000000000):dp p r=some (p++encodeRune r):=by
 have h0:0<=r/\r<=1114111:=by unfold gx at h; omega
 have hw:IntKind.wrap .u32 r=r:=by rw [wrap32]; omega
 unfold dp;rw [hw];by_cases h1:r<=127
 ·have hw8:IntKind.wrap .u8 r=r:=by rw [tz]; omega
  rw [if_pos h1,hw8,bF O,bF ef];simp only [encodeRune,encodeRuneZ,if_pos (show 0<=r/\r<=127 from ⟨h0.1,h1⟩),cl,List.map_nil,u8]
 rw [if_neg h1];unfold cE;rw [hw,GH,shr6,QY,Ra,GH,GH];have o1:iOr .u8 128 (r % 64)=128+r % 64:=FN O O;have o2:iOr .u8 128 (r / 64 % 64)=128+r / 64 % 64:=FN O O;have o3:iOr .u8 128 (r / 4096 % 64)=128+r / 4096 % 64:=FN O O;rw [o1,o2,o3];have n1:¬ (0<=r/\r<=127):=by omega
 by_cases h2:r<=2047
 ·have hw8:IntKind.wrap .u8 (r / 64)=r / 64:=by rw [tz]; omega
  rw [if_pos h2,hw8,Q6 O O,bF O,bF O,bF O,bF ef];simp only [encodeRune,encodeRuneZ,if_neg n1,if_pos (show 128<=r/\r<=2047 by omega),cl,List.map_nil,u8,qr]
 rw [if_neg h2];have n2:¬ (128<=r/\r<=2047):=by omega
 by_cases h3:r < 55296\/(57343 < r/\r<=65535)
 ·have hw8:IntKind.wrap .u8 (r / 4096)=r / 4096:=by rw [tz]; omega
  have e:((if r < 55296 then some true else if 57343 < r then some (decide (r<=65535)) else some false):Option Bool)=some true:=by
   rcases h3 with q | q
   ·rw [if_pos q]
   ·rw [if_neg O,if_pos q.1]; simp [q.2]
  rw [e,qr,if_pos rfl,hw8,QM O O,bF O,bF O,bF O,bF O,bF O,bF ef];simp only [encodeRune,encodeRuneZ,if_neg n1,if_neg n2,if_pos (show (2048<=r/\r < 55296)\/(57343 < r/\r<=65535) by omega),cl,List.map_nil,u8,qr]
 ·have h4:65535 < r:=by unfold gx at h; omega
  have hw8:IntKind.wrap .u8 (r / 262144)=r / 262144:=by rw [tz]; omega
  have e:((if r < 55296 then some true else if 57343 < r then some (decide (r<=65535)) else some false):Option Bool)=some false:=by
   rw [if_neg O,if_pos O]; simp; omega
  have e2:((if 65535 < r then some (decide (r<=1114111)) else some false):Option Bool)=some true:=by rw [if_pos h4]; simp; omega
  rw [e,qr,if_neg G,e2,qr,if_pos rfl,hw8,Q9 O O,bF O,bF O,bF O,bF O,bF O,bF O,bF O,bF ef];simp only [encodeRune,encodeRuneZ,if_neg n1,if_neg n2,if_neg (show ¬ ((2048<=r/\r < 55296)\/(57343 < r/\r<=65535)) by omega),if_pos (show 65536<=r/\r<=1114111 by omega),cl,List.map_nil,u8,qr]
theorem j4 (l:Bytes)(h:l≠[]):decodeGo (str l)=decodeL l:=by
 unfold decodeGo;rw [if_neg]
 ·rfl
 ·rw [iD]; intro q; exact h (List.length_eq_zero_iff.1 q)
theorem lU (r:Int)(_h:gx r):1<=(encodeRune r).length/\(encodeRune r).length<=4:=by
 unfold encodeRune encodeRuneZ;rw [List.length_map]
 repeat' split
 all_goals simp
theorem xI (r:Int)(h:gx r)(t:Bytes):decodeL (encodeRune r++t)=(r.toNat,(encodeRune r).length):=by
 have h0:0<=r/\r<=1114111:=by unfold gx at h; omega
 have hb:∀ x:Int,0<=x->x < 256->(x.toNat.toUInt8).toNat=x.toNat:=λ x a b=>by
  show (UInt8.ofNat x.toNat).toNat=_;rw [UInt8.toNat_ofNat']; omega
 rw [decodeL_N];by_cases h1:r<=127
 ·have e:encodeRune r=[r.toNat.toUInt8]:=by simp only [encodeRune,encodeRuneZ,if_pos (show 0<=r/\r<=127 from ⟨h0.1,h1⟩),cl,List.map_nil]
  rw [e];have b0:=hb r O O;simp only [la,List.getD_cons_zero,b0];unfold decodeN;rw [if_pos O]; rfl
 have n1:¬ (0<=r/\r<=127):=by omega
 by_cases h2:r<=2047
 ·have e:encodeRune r=[(192+r / 64).toNat.toUInt8,(128+r % 64).toNat.toUInt8]:=by
   simp only [encodeRune,encodeRuneZ,if_neg n1,if_pos (show 128<=r/\r<=2047 by omega),cl,List.map_nil]
  rw [e];have b0:=hb (192+r / 64) O O;have b1:=hb (128+r % 64) O O;simp only [la,List.getD_cons_zero,List.getD_cons_succ,b0,b1,aq,ur];unfold decodeN;rw [if_neg O,if_pos O,if_pos O];exact A3
 have n2:¬ (128<=r/\r<=2047):=by omega
 by_cases h3:r < 55296\/(57343 < r/\r<=65535)
 ·have e:encodeRune r=[(224+r / 4096).toNat.toUInt8,(128+r / 64 % 64).toNat.toUInt8,(128+r % 64).toNat.toUInt8]:=by
   simp only [encodeRune,encodeRuneZ,if_neg n1,if_neg n2,if_pos (show (2048<=r/\r < 55296)\/(57343 < r/\r<=65535) by omega),cl,List.map_nil]
  rw [e];have b0:=hb (224+r / 4096) O O;have b1:=hb (128+r / 64 % 64) O O;have b2:=hb (128+r % 64) O O;simp only [la,List.getD_cons_zero,List.getD_cons_succ,b0,b1,b2,aq,ur];unfold decodeN;rw [if_neg O,if_neg O,if_pos O,if_pos O];exact A3
 ·have h4:65535 < r:=by unfold gx at h; omega
  have e:encodeRune r=[(240+r / 262144).toNat.toUInt8,(128+r / 4096 % 64).toNat.toUInt8,(128+r / 64 % 64).toNat.toUInt8,(128+r % 64).toNat.toUInt8]:=by
   simp only [encodeRune,encodeRuneZ,if_neg n1,if_neg n2,if_neg (show ¬ ((2048<=r/\r < 55296)\/(57343 < r/\r<=65535)) by omega),if_pos (show 65536<=r/\r<=1114111 by omega),cl,List.map_nil]
  rw [e];have b0:=hb (240+r / 262144) O O;have b1:=hb (128+r / 4096 % 64) O O;have b2:=hb (128+r / 64 % 64) O O;have b3:=hb (128+r % 64) O O;simp only [la,List.getD_cons_zero,List.getD_cons_succ,b0,b1,b2,b3,aq,ur];unfold decodeN;rw [if_neg O,if_neg O,if_neg O,if_pos O,if_pos O];exact A3
theorem wc (r:Int)(h:gx r)(t:Bytes):validD (encodeRune r++t)=validD t:=by
 have hl:=lU r h
 have RP:encodeRune r++t≠[]:=by
  intro q; rw [List.append_eq_nil_iff] at q; rw [q.1] at hl; simp at hl
 rw [validD_step _ RP,xI r h t,if_neg]
 ·simp
 ·rintro ⟨a,b⟩;have hr:r=65533:=by omega
  subst hr;simp [encodeRune,encodeRuneZ] at b
theorem gK (l:Bytes)(h:l≠[]):1<=(decodeL l).2/\(decodeL l).2<=l.length/\(¬ ((decodeL l).1=65533/\(decodeL l).2=1)->gx ((decodeL l).1:Int)/\encodeRune ((decodeL l).1:Int)=l.take (decodeL l).2):=by
 have hl:0 < l.length:=List.length_pos_iff.2 h;have hd:=Ox l.length (l.getD 0 0).toNat (l.getD 1 0).toNat (l.getD 2 0).toNat (l.getD 3 0).toNat O (UInt8.toNat_lt _);rw [<- decodeL_N] at hd;refine ⟨hd.1,hd.2.1,λ q=>⟨?_,encode_decode l h q⟩⟩;have:=hd.2.2.2.2.2;unfold gx; omega
theorem ua (l:Bytes)(h:l≠[]):validD l=true↔¬ ((decodeL l).1=65533/\(decodeL l).2=1)/\validD (l.drop (decodeL l).2)=true:=by
 rw [validD_step l h];by_cases q:(decodeL l).1=65533/\(decodeL l).2=1
 ·simp [q]
 ·simp [q]
end Go.Ab.R06
namespace Go.Ab.R06
open Go.Ab Go.Ab.RB Go.Lib
theorem MU (f:Bytes)(r:Int)(hr:gx r)(h:f.length<=10000000000):cR (bE.mk f) r=some (((encodeRune r).length:Int),false,bE.mk (f++encodeRune r)):=by
 have hl:=lU r hr;unfold cR fw;rw [qr,x6 f r hr O,qr];have e:((f++encodeRune r).length:Int) - (f.length:Int)=(encodeRune r).length:=by rw [bt]; omega
 rw [e,bF aV]
theorem bstr (f:Bytes)(h:f.length<=1000000000000):eC (bE.mk f)=some (f,bE.mk f):=by
 unfold eC;rw [bF rD]
def jy (b:UInt8):Bytes :=
 if b.toNat=10 then [92,110] else if b.toNat=13 then [92,114] else if b.toNat=9 then [92,116]
 else if b.toNat=34\/b.toNat=92 then [92,b] else if b.toNat < 32\/b.toNat=127 then [92,117,123]++ey b.toNat++[125] else [b]
def Hd (s:Bytes):Bytes:=34::(s.flatMap jy++[34])
theorem Cu {b:UInt8}(h:b.toNat=10):jy b=[92,110]:=by unfold jy; rw [if_pos h]
theorem BJ {b:UInt8}(h:b.toNat=13):jy b=[92,114]:=by unfold jy; rw [if_neg O,if_pos h]
theorem Ci {b:UInt8}(h:b.toNat=9):jy b=[92,116]:=by unfold jy; rw [if_neg O,if_neg O,if_pos h]
theorem GM {b:UInt8}(h:b.toNat=34\/b.toNat=92):jy b=[92,b]:=by unfold jy; rw [if_neg O,if_neg O,if_neg O,if_pos h]
theorem BW {b:UInt8}(h1:b.toNat≠10)(h2:b.toNat≠13)(h3:b.toNat≠9)(h:b.toNat < 32\/b.toNat=127):jy b=[92,117,123]++ey b.toNat++[125]:=by
 unfold jy; rw [if_neg h1,if_neg h2,if_neg h3,if_neg O,if_pos h]
theorem vO {b:UInt8}(h1:b.toNat≠34)(h2:b.toNat≠92)(h:¬ (b.toNat < 32\/b.toNat=127)):jy b=[b]:=by
 unfold jy; rw [if_neg O,if_neg O,if_neg O,if_neg O,if_neg h]
theorem sb (n:Nat):1<=(ey n).length/\(ey n).length<=2:=by
 unfold ey; split <;> simp
theorem y5 (b:UInt8):1<=(jy b).length/\(jy b).length<=6:=by
 have:=sb b.toNat;unfold jy
 repeat' split
 all_goals (simp; try omega)
theorem y3 (s:Bytes):s.length<=(s.flatMap jy).length/\(s.flatMap jy).length<=6*s.length:=by
 induction s with
 | nil=>simp
 | cons b r ih=>have:=y5 b; simp only [List.flatMap_cons,bt,aq]; omega
theorem PS (s:Bytes):iX s=some (decide (s.length<=4096)&&validD s):=by
 unfold iX;by_cases h:(s.length:Int)<=4096
 ·have hv:cY s=some (validD s):=by unfold cY; exact bF O
  rw [if_pos h,hv];simp; omega
 ·rw [if_neg h];simp; intro q; omega
end Go.Ab.R06
namespace Go.Ab.R06
open Go.Ab Go.Ab.RB Go.Lib
def nV (b:UInt8):Option Nat:=if 48<=b.toNat/\b.toNat<=57 then some (b.toNat - 48) else if 97<=b.toNat/\b.toNat<=102 then some (b.toNat - 87) else none
def DG:Bytes:=[48,49,50,51,52,53,54,55,56,57,97,98,99,100,101,102]
theorem hexT:(List.range 256).all (λ n=>indexByte DG (UInt8.ofNat n) == (match nV (UInt8.ofNat n) with | some d=>(d:Int) | none=>-1))=true:=by kernel_rfl
theorem vW (b:UInt8):indexByte DG b=match nV b with | some d=>(d:Int) | none=>-1:=by
 have:=eq_of_beq (th.1 hexT b.toNat (List.mem_range.2 b.toNat_lt));simpa using this
theorem L0 {b:UInt8}{d:Nat}(h:nV b=some d):d < 16:=by
 unfold nV at h;split at h
 ·cases h; omega
 ·split at h
  ·cases h; omega
  ·cases h
def bf:Nat->Bytes->Nat->Nat×Nat
 | 0,_,a=>(a,0)
 | _+1,[],a=>(a,0)
 | k+1,b::r,a=>match nV b with
  | some d=>((bf k r (16*a+d)).1,(bf k r (16*a+d)).2+1)
  | none=>(a,0)
theorem oB:∀ (k:Nat) (l:Bytes) (a:Nat),(bf k l a).2<=k/\(bf k l a).2<=l.length
 | 0,_,_=>⟨mv _,rg _⟩
 | _+1,[],_=>⟨rg _,mv _⟩
 | k+1,b::r,a=>by
  unfold bf
  cases nV b with
  | none=>exact ⟨rg _,rg _⟩
  | some d=>have:=oB k r (16*a+d); simp only [aq]; omega
theorem ov (n:Int)(h0:0<=n)(h1:n < 2147483648):IntKind.wrap .i32 n=n:=by
 exact uM
theorem Px (s:Bytes)(_hs:s.length<=1000000000):∀ (k i a:Nat),i+k=6->i<=s.length->a < 16 ^ i->Ev2 (λ _ m=>bT s m (a:Int) (i:Int))
  (·=(((bf k (s.drop i) a).1:Int),((i+(bf k (s.drop i) a).2:Nat):Int))):=by
 intro k
 induction k with
 | zero =>
  intro i a hi hl ha;refine aA ?_;simp only [bT];refine ai false ?_ (ae G (ab (by simp [bf])));exact ay (λ h=>ab ef) (λ h=>ab rfl)
 | succ k ih =>
  intro i a hi hl ha;refine aA ?_;simp only [bT];by_cases h:i < s.length
  ·refine ai true wG (aj Z (ah O ?_));have hb:byt s i=((s.getD i 0).toNat:Int):=eA s i;rw [hb]
   have hd:s.drop i=s.getD i 0::s.drop (i+1):=by
    exact Hc
   rw [hd];generalize s.getD i 0=b
   have hx:strings_IndexByte ([48,49,50,51,52,53,54,55,56,57,97,98,99,100,101,102]:Bytes) (b.toNat:Int)=some (indexByte DG b):=by
    exact I0
   refine ai _ (aw hx Z) ?_;rw [vW];unfold bf
   cases hh:nV b with
   | none=>exact aj (by decide) (ab G)
   | some d =>
    have hlt:=L0 hh;have hp:16 ^ i<=16 ^ 5:=Nat.pow_le_pow_right (by decide) O;have hp5:(16:Nat) ^ 5=1048576:=rfl;refine ae G (ah aV ?_);have e1:IntKind.wrap .i32 (16*(a:Int))=16*(a:Int):=ov _ O O;have e2:IntKind.wrap .i32 (d:Int)=(d:Int):=ov _ O O
    have e3:IntKind.wrap .i32 (16*(a:Int)+(d:Int))=((16*a+d:Nat):Int):=by
     rw [ov _ O O]; omega
    rw [e1,e2,e3];have:=ih (i+1) (16*a+d) O O  (by rw [Nat.pow_succ]; omega);rw [show (((i+1:Nat)):Int)=(i:Int)+1 by omega] at this;refine bB this λ r hr=>?_;rw [hr];refine Prod.ext rfl ?_;show ((i+1+_:Nat):Int)=((i+(_+1):Nat):Int);omega
  ·refine ai false nD (ae G (ab ?_));rw [List.drop_of_length_le O];simp [bf]
def fm (s:Bytes):Int×Int×Int :=
 let h:=bf 6 s 0
 if h.2=s.length then (0,0,40)
 else if s.getD h.2 0≠125\/h.2=0\/(1 < h.2/\s.getD 0 0=48)\/validRune (h.1:Int)=false then (0,0,2)
 else ((h.1:Int),((h.2+1:Nat):Int),0)
theorem p6 {b:UInt8}{n:Nat}(hn:n < 256):b.toNat=n↔b=UInt8.ofNat n:=by
 constructor
 ·intro h; apply UInt8.toNat_inj.1; rw [h,UInt8.toNat_ofNat']; omega
 ·intro h; rw [h,UInt8.toNat_ofNat']; omega
theorem wo {s:Bytes}{v c:Nat}(h:bf 6 s 0=(v,c)):fm s=if c=s.length then (0,0,40) else if s.getD c 0≠125\/c=0\/(1 < c/\s.getD 0 0=48)\/validRune (v:Int)=false then (0,0,2) else ((v:Int),((c+1:Nat):Int),0):=by
 unfold fm; rw [h]
theorem KY (s:Bytes)(hs:s.length<=1000000000):Ev2 (λ n _=>dX n s) (·=fm s):=by
 simp only [dX];have l:=Px s hs 6 0 0 rfl (rg _) (by decide);rw [List.drop_zero,Nat.zero_add] at l;have hle:=oB 6 s 0;refine ai _ (bh l) ?_;obtain ⟨v,c,hh⟩:∃ v c,bf 6 s 0=(v,c):=⟨_,_,rfl⟩
 have hP:=wo hh;rw [hh] at hle ⊢;simp only at hle ⊢;refine ay (λ h=>ab ?_) (λ h=>?_)
 ·rw [hP,if_pos O]
 rw [if_neg (show ¬ c=s.length by omega)] at hP;have hb:byt s c=((s.getD c 0).toNat:Int):=eA s c;have hb0:byt s 0=((s.getD 0 0).toNat:Int):=eA s 0;have h125:(s.getD c 0).toNat=125↔s.getD c 0=125:=p6 (by decide);have h48:(s.getD 0 0).toNat=48↔s.getD 0 0=48:=p6 (by decide);have hv:ce (v:Int)=some (validRune (v:Int)):=rfl
 have key:Ev2 (λ _ _=>(ck ((0:Int)<=(c:Int)/\(c:Int) < (s.length:Int)) <|
  if byt s c=125 then
   if (c:Int)=0 then some true
   else
   if 1 < (c:Int) then
    ck ((0:Int)<=0/\0 < (s.length:Int)) <|
    if byt s 0=48 then some true
    else (ce (v:Int)).bind λ Ti=>some (!Ti)
   else (ce (v:Int)).bind λ RX=>some (!RX)
  else some true:Option Bool)) (·=decide (s.getD c 0≠125\/c=0\/(1 < c/\s.getD 0 0=48)\/validRune (v:Int)=false)):=by
  refine ah O ?_;rw [hb,hb0];refine ay (λ h1=>ay (λ h2=>ab ?_) (λ h2=>ay (λ h3=>ah O (ay (λ h4=>ab ?_) (λ h4=>?_))) (λ h3=>?_))) (λ h1=>ab ?_)
  ·symm; rw [decide_eq_true_eq]; right; left; omega
  ·symm; rw [decide_eq_true_eq]; right; right; left; exact ⟨by omega,h48.1 O⟩
  ·have q1:¬ s.getD c 0≠125:=λ q=>q (h125.1 O);have q2:¬ (1 < c/\s.getD 0 0=48):=λ q=>h4 (by have:=h48.2 q.2; omega);refine ai _ (aw hv Z) (ab (eqB ?_));rw [decide_eq_true_eq];have:¬ c=0:=by omega
   simp only [q1,q2,false_or,this,Bool.not_eq_true']
  ·have q1:¬ s.getD c 0≠125:=λ q=>q (h125.1 O);refine ai _ (aw hv Z) (ab (eqB ?_));rw [decide_eq_true_eq];have a1:¬ c=0:=by omega
   have a2:¬ 1 < c:=by omega
   simp only [q1,a1,a2,false_or,false_and,Bool.not_eq_true']
  ·symm; rw [decide_eq_true_eq]; left; intro q; exact h1 (by have:=h125.2 q; omega)
 refine ai _ key ?_;refine ay (λ h1=>ab ?_) (λ h1=>ah aV (ab ?_))
 ·rw [hP,if_pos (of_decide_eq_true h1)]
 ·rw [hP,if_neg (λ q=>h1 (decide_eq_true q))];refine Prod.ext rfl (Prod.ext ?_ rfl);show (c:Int)+1=((c+1:Nat):Int);omega
def cO (s:Bytes):Int×Int×Int:=match s with
 | []=>(0,0,40)
 | b::r=>if b.toNat=110 then (10,1,0) else if b.toNat=114 then (13,1,0) else if b.toNat=116 then (9,1,0)
  else if b.toNat=34\/b.toNat=92 then ((b.toNat:Int),1,0)
  else if b.toNat=117 then (match r with
   | []=>(0,0,40)
   | c::t=>if c.toNat=123 then ((fm t).1,(fm t).2.1+2,(fm t).2.2) else (0,0,2))
  else (0,0,2)
theorem mJ (b:UInt8)(r:Bytes):cO (b::r)=if b.toNat=110 then (10,1,0) else if b.toNat=114 then (13,1,0) else if b.toNat=116 then (9,1,0)
  else if b.toNat=34\/b.toNat=92 then ((b.toNat:Int),1,0)
  else if b.toNat=117 then (match r with
   | []=>(0,0,40)
   | c::t=>if c.toNat=123 then ((fm t).1,(fm t).2.1+2,(fm t).2.2) else (0,0,2))
  else (0,0,2):=rfl
theorem C6 (s:Bytes):0<=(fm s).2.1/\(fm s).2.1<=s.length/\((fm s).2.2=0->gx (fm s).1)/\0<=(fm s).2.2:=by
 have hle:=oB 6 s 0;unfold fm;generalize bf 6 s 0=h at hle ⊢;obtain ⟨v,c⟩:=h;simp only at hle ⊢;split
 ·simp <;> omega
 ·split
  ·simp <;> omega
  ·rename_i h1 h2;refine ⟨by simp only; omega,by simp only; omega,λ _=>?_,by simp⟩
   have:validRune (v:Int)=true:=by
    cases hv:validRune (v:Int) with
    | true=>rfl
    | false=>exact absurd (.inr (.inr (.inr hv))) h2
   simp only [validRune,decide_eq_true_eq] at this;unfold gx; simp only; omega
theorem pV (s:Bytes):0<=(cO s).2.1/\(cO s).2.1<=s.length+1/\((cO s).2.2=0->gx (cO s).1/\(cO s).2.1<=s.length)/\0<=(cO s).2.2:=by
 unfold cO;split
 ·simp
 ·rename_i b r;have hb:=b.toNat_lt;split
  ·simp [gx] <;> omega
  split
  ·simp [gx] <;> omega
  split
  ·simp [gx] <;> omega
  split
  ·simp [gx] <;> omega
  split
  ·split
   ·simp
   ·rename_i c t;have:=C6 t;split
    ·refine ⟨by simp only; omega,by simp only [aq]; omega,λ q=>⟨this.2.2.1 q,by simp only [aq]; omega⟩,this.2.2.2⟩
    ·simp <;> omega
  ·simp <;> omega
theorem Lf (s:Bytes)(hs:s.length<=1000000000):Ev2 (λ n _=>iy n s) (·=cO s):=by
 simp only [iy]
 cases s with
 | nil=>exact aj Z (ab Z)
 | cons b r =>
  have hl:((b::r).length:Int)=(r.length:Int)+1:=by simp
  refine ae G (ah O ?_);have hb:byt (b::r) 0=(b.toNat:Int):=rfl;have hbl:=b.toNat_lt;rw [hb];have hP:=mJ b r;refine ay (λ h=>ab (by rw [hP,if_pos O])) (λ h1=>?_);rw [if_neg (show ¬ b.toNat=110 by omega)] at hP;refine ay (λ h=>ab (by rw [hP,if_pos O])) (λ h2=>?_);rw [if_neg (show ¬ b.toNat=114 by omega)] at hP;refine ay (λ h=>ab (by rw [hP,if_pos O])) (λ h3=>?_);rw [if_neg (show ¬ b.toNat=116 by omega)] at hP;refine ai (decide (b.toNat=34\/b.toNat=92)) ?_ ?_
  ·by_cases h:b.toNat=34
   ·exact aj O (ab (by simp [h]))
   ·exact IJ
  by_cases h4:b.toNat=34\/b.toNat=92
  ·rw [if_pos h4] at hP;rw [hP];refine aj (by simp [h4]) (ah O (ab ?_));rw [ov _ O O]
  rw [if_neg h4] at hP;refine ae (by simp only [decide_eq_true_eq]; exact h4) ?_;refine ay (λ h5=>?_) (λ h5=>ab (by rw [hP,if_neg O]));rw [if_pos (show b.toNat=117 by omega)] at hP;rw [hP]
  cases r with
  | nil=>exact aj G (ab Z)
  | cons c t =>
   have hl2:((b::c::t).length:Int)=(t.length:Int)+2:=by simp <;> omega
   refine ae O (ah O ?_);have hc:byt (b::c::t) 1=(c.toNat:Int):=rfl;rw [hc];refine ay (λ h6=>ah O ?_) (λ h6=>ab (by show _=if c.toNat=123 then _ else _; rw [if_neg O]));have e6:(if c.toNat=123 then ((fm t).1,(fm t).2.1+2,(fm t).2.2) else ((0,0,2):Int×Int×Int))=((fm t).1,(fm t).2.1+2,(fm t).2.2):=if_pos O;show Ev2 _ (·=if c.toNat=123 then ((fm t).1,(fm t).2.1+2,(fm t).2.2) else ((0,0,2):Int×Int×Int));rw [e6,jh];show Ev2 (λ n m=>(dX n t).bind _) _;have hle:=C6 t;have htl:t.length<=1000000000:=by simp at hs; omega
   exact ai _ (KY t htl) uC
end Go.Ab.R06
namespace Go.Ab.R06
open Go.Ab Go.Ab.RB Go.Lib
def kH (c:Nat×Nat):Prop:=(c.1=65533/\c.2=1)\/c.1 < 32\/c.1=127
instance (c:Nat×Nat):Decidable (kH c):=inferInstanceAs (Decidable (_\/_))
def oo:Nat->Bytes->Nat->Bytes->(Int×Bytes)⊕(Bytes×Int×Int)
 | 0,_,at',acc=>.inl ((at':Int),acc)
 | _+1,[],at',acc=>.inl ((at':Int),acc)
 | n+1,b::r,at',acc=>if b.toNat=34 then .inl ((at':Int),acc)
  else if (decodeL (b::r)).1=92 then
   (if (cO r).2.2=0 then oo n (r.drop (cO r).2.1.toNat) (at'+((cO r).2.1.toNat+1)) (acc++encodeRune (cO r).1) else .inr ([],0,(cO r).2.2))
  else if kH (decodeL (b::r)) then .inr ([],0,2)
  else oo n ((b::r).drop (decodeL (b::r)).2) (at'+(decodeL (b::r)).2) (acc++encodeRune ((decodeL (b::r)).1:Int))
theorem oL (n:Nat)(b:UInt8)(r:Bytes)(at':Nat)(acc:Bytes):oo (n+1) (b::r) at' acc=if b.toNat=34 then .inl ((at':Int),acc)
  else if (decodeL (b::r)).1=92 then
   (if (cO r).2.2=0 then oo n (r.drop (cO r).2.1.toNat) (at'+((cO r).2.1.toNat+1)) (acc++encodeRune (cO r).1) else .inr ([],0,(cO r).2.2))
  else if kH (decodeL (b::r)) then .inr ([],0,2)
  else oo n ((b::r).drop (decodeL (b::r)).2) (at'+(decodeL (b::r)).2) (acc++encodeRune ((decodeL (b::r)).1:Int)):=by rw [oo]
theorem O2 (s:Bytes)(hs:s.length<=1000000000):∀ (k:Nat) (l:Bytes) (i:Nat) (f:Bytes),l.length < k->s.drop i=l->i+l.length=s.length->f.length<=4*i->Ev2 (λ n m=>dF n s m (i:Int) f) (·=oo k l i f):=by
 intro k
 induction k with
 | zero=>intro l i f h; omega
 | succ k ih =>
  intro l i f hk hl hi hf;refine aA ?_;simp only [dF]
  cases l with
  | nil =>
   simp only [dg] at hi;refine ai false nD (ae G (ab ?_));rw [oo]
  | cons b r =>
   have hil:i < s.length:=by simp only [aq] at hi; omega
   have hb:byt s i=(b.toNat:Int):=by
    rw [eA]
    have:s.getD i 0=b:=by
     have:=List.drop_eq_getElem_cons hil;rw [hl] at this;rw [List.getD_eq_getElem?_getD,List.getElem?_eq_getElem hil];exact (sm this).1.symm
    rw [this]
   have hr:s.drop (i+1)=r:=by
    have:=List.drop_eq_getElem_cons hil;rw [hl] at this;exact (sm this).2.symm
   have hlr:r.length+i+1=s.length:=by simp only [aq] at hi; omega
   have hU:=oL k b r i f;rw [hb];by_cases h34:b.toNat=34
   ·rw [if_pos h34] at hU;exact ai false FS (ae G (ab hU.symm))
   rw [if_neg h34] at hU;refine ai true FS (aj rfl (ah O ?_));rw [jh,Int.toNat_natCast,hl]
   have hd:aZ (b::r)=some (((decodeL (b::r)).1:Int),((decodeL (b::r)).2:Int)):=by
    exact AH
   refine ai _ (aw hd rfl) ?_;have hdf:=gK (b::r) G;generalize hD:decodeL (b::r)=D at hU hdf ⊢;obtain ⟨c,w⟩:=D;simp only at hU hdf ⊢;by_cases h92:c=92
   ·rw [if_pos h92] at hU;have hes:=pV r;have RI:=Lf r O
    have sub1:sub s ((i:Int)+1) (s.length:Int)=r:=by
     rw [jh,show ((i:Int)+1).toNat=i+1 by omega,hr]
    generalize cO r=E at hU hes RI;obtain ⟨x,y,z⟩:=E;simp only at hU hes RI;by_cases hz:z=0
    ·rw [if_pos hz] at hU;refine d5 (aj O (ah aV (ah O ?_)));rw [sub1];obtain ⟨e1,e2⟩:=hes.2.2.1 hz;obtain ⟨y',rfl⟩:∃ y':Nat,y=y':=⟨y.toNat,by omega⟩
     rw [Int.toNat_natCast] at hU;refine ai _ RI (aj hz (ah (cH (by dsimp only; omega) (by dsimp only; omega)) (ab ?_)));refine ai _ (aw (MU f x e1 O) rfl) (ah (cH (by dsimp only; omega) (by dsimp only; omega)) ?_);have hle:=lU x e1;have:=ih (r.drop y') (i+(y'+1)) (f++encodeRune x) (by rw [n6]; simp only [aq] at hk; omega) (by rw [<- hr,List.drop_drop]; congr 1; omega) u6 ra;rw [<- hU] at this;rw [show ((i+(y'+1):Nat):Int)=(i:Int)+((y':Int)+1) by omega] at this;exact this
    ·rw [if_neg hz] at hU;refine d5 (aj O (ah aV (ah O ?_)));rw [sub1];refine ai _ RI (ae hz (ab ?_));exact hU.symm
   ·rw [if_neg h92] at hU
    have hbad:Ev2 (λ _ _=>(if (c:Int)=65533 then if (w:Int)=1 then some true else if (c:Int) < 32 then some true else some (decide ((c:Int)=127)) else if (c:Int) < 32 then some true else some (decide ((c:Int)=127)):Option Bool)) (·=decide (kH (c,w))):=by
     exact IK
    by_cases hbd:kH (c,w)
    ·rw [if_pos hbd] at hU;refine d5 (ae O (ai _ hbad (aj (by simp only [decide_eq_true_eq]; exact hbd) (ab ?_))));exact hU.symm
    ·rw [if_neg hbd] at hU;refine d5 (ae O (ai _ hbad (ae (by simp only [decide_eq_true_eq]; exact hbd) (ab ?_))));have hgood:=hdf.2.2 (λ q=>hbd (.inl q));refine ai _ (aw (MU f c hgood.1 O) rfl) (ah (cH (by simp only [aq] at hdf; omega) (by simp only [aq] at hdf; omega)) ?_);have hle:=lU c hgood.1;have hw:w<=r.length+1:=by simpa using hdf.2.1
     have hw1:=hdf.1;have:=ih ((b::r).drop w) (i+w) (f++encodeRune (c:Int)) (by rw [n6]; simp only [aq] at hk ⊢; omega) (by rw [<- hl,List.drop_drop]) BE ra;rw [<- hU] at this;rw [show ((i+w:Nat):Int)=(i:Int)+(w:Int) by omega] at this;exact this
def Ge:Bytes->Bytes×Int×Int
 | []=>([],0,40)
 | b::r=>if b.toNat=34 then (match oo (r.length+1) r 1 [] with
   | .inl q=>if q.1=((r.length+1:Nat):Int) then ([],0,40) else if 4096 < q.2.length then ([],0,3) else (q.2,q.1+1,0)
   | .inr e=>e)
  else ([],0,2)
theorem vM (b:UInt8)(r:Bytes):Ge (b::r)=if b.toNat=34 then (match oo (r.length+1) r 1 [] with
   | .inl q=>if q.1=((r.length+1:Nat):Int) then ([],0,40) else if 4096 < q.2.length then ([],0,3) else (q.2,q.1+1,0)
   | .inr e=>e)
  else ([],0,2):=rfl
theorem Lg:∀ (k:Nat) (l:Bytes) (i:Nat) (f:Bytes),(∀ a g,oo k l i f=.inl (a,g)->(i:Int)<=a/\a<=((i+l.length:Nat):Int)/\g.length<=f.length+4*l.length/\((∀ t,validD (f++t)=validD t)->∀ t,validD (g++t)=validD t))/\(∀ x,oo k l i f=.inr x->x.1=[]/\x.2.1=0/\x.2.2≠0):=by
 intro k
 induction k with
 | zero =>
  intro l i f;refine ⟨λ a g h=>?_,λ x h=>(by rw [oo] at h; cases h)⟩;rw [oo] at h; cases h;exact ⟨by omega,by omega,by omega,λ q=>q⟩
 | succ k ih =>
  intro l i f
  cases l with
  | nil =>
   refine ⟨λ a g h=>?_,λ x h=>(by rw [oo] at h; cases h)⟩;rw [oo] at h; cases h;exact ⟨by omega,by simp,by simp,λ q=>q⟩
  | cons b r =>
   rw [oL];have hdf:=gK (b::r) G;have hes:=pV r;split
   ·refine ⟨λ a g h=>?_,λ x h=>(by cases h)⟩
    cases h
    exact ⟨by omega,by simp only [aq]; omega,by omega,λ q=>q⟩
   split
   ·split
    ·rename_i hz;obtain ⟨e1,e2⟩:=hes.2.2.1 hz;have hle:=lU _ e1;have hi:=ih (r.drop (cO r).2.1.toNat) (i+((cO r).2.1.toNat+1)) (f++encodeRune (cO r).1);refine ⟨λ a g h=>?_,hi.2⟩;have:=hi.1 a g h;rw [n6,bt] at this;refine ⟨by omega,by simp only [aq]; omega,by simp only [aq]; omega,λ q=>this.2.2.2 λ t=>?_⟩;rw [ph,q,wc _ e1]
    ·rename_i hz;refine ⟨λ a g h=>(by cases h),λ x h=>?_⟩
     cases h
     exact ⟨Z,Z,hz⟩
   split
   ·refine ⟨λ a g h=>(by cases h),λ x h=>?_⟩
    cases h
    exact ⟨Z,Z,by decide⟩
   ·rename_i hbd;have hgood:=hdf.2.2 (λ q=>hbd (.inl q));have hle:=lU _ hgood.1;have hi:=ih ((b::r).drop (decodeL (b::r)).2) (i+(decodeL (b::r)).2) (f++encodeRune ((decodeL (b::r)).1:Int));refine ⟨λ a g h=>?_,hi.2⟩;have:=hi.1 a g h;rw [n6,bt] at this;simp only [aq] at this hdf ⊢;refine ⟨by omega,by omega,by omega,λ q=>this.2.2.2 λ t=>?_⟩;rw [ph,q,wc _ hgood.1]
theorem P2 (s:Bytes)(hs:s.length<=1000000000):Ev2 (λ n _=>fZ n s) (·=Ge s):=by
 simp only [fZ]
 cases s with
 | nil=>exact aj Z (ab Z)
 | cons b r =>
  have hl:((b::r).length:Int)=(r.length:Int)+1:=by simp
  have hln:(b::r).length=r.length+1:=by simp
  refine ae G (ah O ?_);have hb:byt (b::r) 0=(b.toNat:Int):=rfl;rw [hb];rw [vM];refine ay (λ h=>?_) (λ h=>ab (by rw [if_neg (show ¬ b.toNat=34 by omega)]));have l:=O2 (b::r) hs (r.length+1) r 1 [] O rfl O G;have hle:=Lg (r.length+1) r 1 [];have XE:b.toNat=34:=by omega
  simp only [XE,if_true];generalize oo (r.length+1) r 1 []=U at l hle ⊢
  cases U with
  | inr e=>exact jR e (bh l) Z
  | inl q =>
   obtain ⟨a,g⟩:=q;have hq:=hle.1 a g rfl;simp only [dg,Nat.zero_add] at hq;refine fx (a,g) (bh l) ?_;refine ay (λ h=>ab (by simp only at h ⊢; rw [if_pos O])) (λ h=>?_);simp only at h ⊢;rw [if_neg O];refine ai _ pu (ay (λ h1=>ab (by simp only at h1; rw [if_pos O])) (λ h1=>?_));simp only at h1;rw [if_neg O];refine ai _ (aw (bstr g O) rfl) uC
theorem tP:∀ n:Fin 16,nV (hexDigit n.1)=some n.1/\((hexDigit n.1)=48->n.1=0):=by decide
theorem uv {n:Nat}(h:n < 16):nV (hexDigit n)=some n:=(tP ⟨n,h⟩).1
theorem Jc (u:Nat)(h:u < 256)(t:Bytes):fm (ey u++125::t)=((u:Int),(((ey u).length+1:Nat):Int),0):=by
 have hv:validRune (u:Int)=true:=by simp only [validRune,decide_eq_true_eq]; omega
 have h125:nV 125=none:=by decide
 by_cases h1:u < 16
 ·have e:ey u=[hexDigit u]:=if_pos h1
  have hr:bf 6 (ey u++125::t) 0=(u,1):=by
   rw [e];show bf (5+1) (hexDigit u::125::t) 0=_;rw [bf,uv h1];show ((bf (4+1) (125::t) (16*0+u)).1,(bf (4+1) (125::t) (16*0+u)).2+1)=_;rw [bf,h125]; simp
  rw [wo hr,e,if_neg G,if_neg]
  ·simp
  ·rintro (q | q | q | q)
   ·exact q Z
   ·cases q
   ·omega
   ·rw [hv] at q; cases q
 ·have e:ey u=[hexDigit (u / 16),hexDigit (u % 16)]:=if_neg h1
  have hr:bf 6 (ey u++125::t) 0=(u,2):=by
   rw [e];show bf (5+1) (hexDigit (u / 16)::hexDigit (u % 16)::125::t) 0=_;rw [bf,uv O];show ((bf (4+1) (hexDigit (u % 16)::125::t) (16*0+u / 16)).1,(bf (4+1) (hexDigit (u % 16)::125::t) (16*0+u / 16)).2+1)=_;rw [bf,uv O];show ((bf (3+1) (125::t) (16*(16*0+u / 16)+u % 16)).1,(bf (3+1) (125::t) (16*(16*0+u / 16)+u % 16)).2+1+1)=_;rw [bf,h125];refine Prod.ext ?_ rfl;show 16*(16*0+u / 16)+u % 16=u;omega
  rw [wo hr,e,if_neg G,if_neg]
  ·simp
  ·rintro (q | q | q | q)
   ·exact q Z
   ·cases q
   ·have:=(tP ⟨u / 16,by omega⟩).2 q.2;simp only at this; omega
   ·rw [hv] at q; cases q
theorem vC (b:UInt8)(h:b.toNat < 128):encodeRune (b.toNat:Int)=[b]:=by
 simp only [encodeRune,encodeRuneZ,if_pos (show (0:Int)<=(b.toNat:Int)/\(b.toNat:Int)<=127 by omega),cl,List.map_nil];simp
theorem H7 (b:UInt8)(h:b.toNat < 128)(c:UInt8)(rest:Bytes)(he:jy b=92::c::rest)(t:Bytes):cO (c::rest++t)=((b.toNat:Int),((rest.length+1:Nat):Int),0):=by
 have hl:∀ x y:UInt8,([x,y]:Bytes)=92::c::rest->c=y/\rest=[]:=λ x y q=>by
  have:=(sm q).2;exact ⟨((sm this).1).symm,((sm this).2).symm⟩
 by_cases h10:b.toNat=10
 ·rw [Cu h10] at he;obtain ⟨rfl,rfl⟩:=hl _ _ he;rw [h10]; rfl
 by_cases h13:b.toNat=13
 ·rw [BJ h13] at he;obtain ⟨rfl,rfl⟩:=hl _ _ he;rw [h13]; rfl
 by_cases h9:b.toNat=9
 ·rw [Ci h9] at he;obtain ⟨rfl,rfl⟩:=hl _ _ he;rw [h9]; rfl
 by_cases hq:b.toNat=34\/b.toNat=92
 ·rw [GM hq] at he;obtain ⟨rfl,rfl⟩:=hl _ _ he;rw [la,mJ,if_neg O,if_neg O,if_neg O,if_pos hq]
  rfl
 by_cases hu:b.toNat < 32\/b.toNat=127
 ·rw [BW h10 h13 h9 hu] at he;have he:(92:UInt8)::117::(123::(ey b.toNat++[125]))=92::c::rest:=he;obtain ⟨hc,hr⟩:=sm (sm he).2;subst hc;subst hr;have hh:=Jc b.toNat O t;have e2:(123::(ey b.toNat++[125]):Bytes)++t=123::(ey b.toNat++125::t):=by simp
  rw [la,e2,mJ,if_neg (by decide),if_neg (by decide),if_neg (by decide),if_neg (by decide),if_pos (by decide)];show (if (123:UInt8).toNat=123 then _ else _)=_;rw [if_pos (by decide),hh];refine Prod.ext rfl (Prod.ext ?_ rfl);simp only [aq,bt,dg];omega
 ·rw [vO O O  hu] at he
  cases he
theorem vp:∀ p:Bytes,(∀ y∈p,128<=y.toNat)->p.flatMap jy=p
 | [],_=>rfl
 | y::r,h=>by
  have hy:=h y List.mem_cons_self;rw [List.flatMap_cons,vp r (λ z hz=>h z (List.mem_cons_of_mem _ hz)),vO O O O]
  rfl
theorem KD:∀ (k u:Nat),u < 10 ^ (k+1)->(decDigits u).length<=k+1:=by
 intro k
 induction k with
 | zero=>intro u h; rw [decDigits,dif_pos (by simpa using h)]; simp
 | succ k ih =>
  intro u h;rw [decDigits];split
  ·simp
  ·have:=ih (u / 10) (by rw [Nat.pow_succ] at h; omega);rw [bt]; simp; omega
theorem Hl {v:Int}(h0:0<=v)(h1:v<=gO):(itoa v).length<=16:=by
 obtain ⟨u,rfl⟩:∃ u:Nat,v=u:=⟨v.toNat,by omega⟩
 unfold itoa;rw [if_neg O,Int.toNat_natCast];exact KD 15 u (by unfold gO at h1; omega)
end Go.Ab.R06
end
section
namespace Go.Ab.R06
open Go.Proofs Go.Ab Go.Ab.RB
section
variable {p:Prop}
theorem uw (h:p:=by
  exact nx 2 Z (eX _ (oi h2).symm (gE Z Z))):p:=h
theorem Bj (h:p:=by
  exact nx 2 Z (eX _ (oi h3).symm (gE Z Z))):p:=h
theorem iY (h:p:=by
  have h0:=h1
  exact S0):p:=h
theorem Bn (h:p:=by
  have h0:=Sl _ hv;refine nx 1 Z ?_
  cases h0):p:=h
theorem wt (h:p:=by
  exact eX _ (oi h2).symm (gE Z Z)):p:=h
theorem zS (h:p:=by exact gE (t:=⟨[(0,.ptr 1000000 0),(1,.p (eK .u8 Tp)),(2,.p (eK .u8 b_2)),(7,.p (eI Rw.fat))],[(1000000,(ac.cs x14).map .p)]⟩) Z Z):p:=h
theorem pm (h:p:=by exact CJ (e _ _ Z)):p:=h
theorem GB (h:p:=by exact nx 3 Z (mQo (hR0 _ (hR1 _ (oi h2).symm).symm) (aQ _) Z Z Z (ar Z (au _) Z) (sr) ⟨⟨_,Z,aN _⟩,trivial⟩)):p:=h
theorem Fj (h:p:=by exact nx 6 Z (mQo (oi h0) (aQ _) Z Z Z (ar Z (au _) Z) (sr) ⟨⟨_,Z,aN _⟩,trivial⟩)):p:=h
theorem zN (h:p:=by exact mO Z (fE Z Z Z Z Z Z Z Z (ac.b_at _) (ac.u_at _) (nx 1 Z (eX _ (oi h2).symm (gE Z Z))))):p:=h
theorem JJ (h:p:=by first | rfl | (simp only [cl,List.map_nil,ad.I']; done) | (simp only [cl,List.map_nil,ad.I']; rfl)):p:=h
theorem wS (h:p:=by exact CJ (OF _ _ Z)):p:=h
theorem pF (h:p:=by repeat (first | exact EN _ | apply AN Z | apply uT Z (xC _ _) | apply uT Z Z)):p:=h
theorem I8 (h:p:=by exact gE (t:=⟨[(3,.ptr 3 0),(4,.ptr 101000 0)],[(3,mZ),(101000,(ac.cs UD.2).map .p)]⟩) Z Z):p:=h
theorem AP (h:p:=by exact dPc (.p (.val (.slice none 0 0))) Z (dS Z (fp (nx 2 Z (mQ (hR0 _ (oi h1).symm) Z (mI ⟨mj _,sr,trivial⟩)))))):p:=h
theorem E9 (h:p:=by exact mQo (hR0 _ (hR1 _ (oi h2).symm).symm) (aQ _) Z Z Z (ar Z (au _) Z) (sr) ⟨⟨_,Z,aN _⟩,trivial⟩):p:=h
theorem AE (h:p:=by exact mQo (hR0 _ (hR1 _ (oi h2).symm).symm) (aQ _) Z Z Z (ar Z (au _) (ar Z Z Z)) (sr) ⟨⟨_,Z,aN _⟩,⟨_,Z,⟨sr,trivial⟩⟩,trivial⟩):p:=h
theorem w9 (h:p:=by exact BX (OF _ _ Z)):p:=h
end
set_option maxRecDepth 4000
attribute [local irreducible] awp gk aX bv bV AV.sub M cC
theorem S0 {p:Prop}(h:p:=by
  repeat' first
    | refine nxg 12 Z Z ?_
    | refine nxg 4 Z Z ?_
    | refine nxg 1 Z Z ?_
    | exact eX _ (oi h0).symm (gE Z Z)
    | exact mQo (oi h0) (aQ _) Z Z Z (ar Z (au _) Z) U U
    | exact Mf (oi h0) (aQ _) Z Z Z (ar Z (au _) Z) U U
    | exact mQo (hR0 _ (oi h0).symm) (aQ _) Z Z Z (ar Z (au _) Z) U U
    | exact mQo (hR0 _ (hR1 _ (oi h0).symm).symm) (aQ _) Z Z Z (ar Z (au _) Z) U U
    | exact eXi _ (oi h0).symm (gE Z Z)
    | exact eX _ h0 (gE Z Z)
    | exact mQ (oi h0) Z U
    | refine oS Z Z ?_
    | refine oLs Z ?_
    | refine oA h0 Z Z λ hk h0=>?_
    | refine oI h0 rfl λ hk h0=>?_
    | refine oP h0 Z Z Z λ hk h0=>?_
    | refine mO Z (aP Z Z Z Z Z Z Z (ac.g_at _) ?_)
    | refine mO Z (aP Z Z Z Z Z Z Z (ac.g_outer _) ?_)
    | refine mO Z (fE Z Z Z Z Z Z Z Z (ac.b_at _) (ac.u_at _) ?_)
    | refine bd h0 λ r e h0=>oK (HP.c e) Z U HE.e Z ?_
    | refine bd h0 λ r e h0=>mO Z (a8 [1000000] [] 101000 101000 (HO.c e) Z Z Z Z Z U Z (ar Z (au _) Z) U Z Z Z Z Z Z Z HE.e Z (ar Z (au _) Z) ?_)
    | refine fBn 2 h0 Z Z (λ c h0=>?_) λ c h0=>?_
    | refine fBn 1 h0 Z Z (λ c h0=>?_) λ c h0=>?_
    | refine fBc h0 Z Z (λ c h0=>?_) λ c h0=>?_
    | refine fDn 3 h0 Z Z (λ c h0=>?_) λ c h0=>?_
    | refine fDn 2 h0 Z Z (λ c h0=>?_) λ c h0=>?_
    | refine fDn 1 h0 Z Z (λ c h0=>?_) λ c h0=>?_
    | refine fDc h0 Z Z (λ c h0=>?_) λ c h0=>?_
    | refine mDa Z Z ?_
    | refine dE Z ?_
    | refine dR 4 Z ?_
    | refine dR 1 Z ?_
    | refine cc' h0 λ hk h0=>?_):p:=h
instance QF:HE Tryz.prog 75:=⟨Tryz.call75⟩
abbrev CY (F:ac->Int->Option (Bool×ac))(k:Nat):Prop:=∀ (a0:ac) (a1:Int) (r:Bool×ac),HO (F a0 a1=some r) Tryz.prog k [.ptr 1000000 0,.p (eI a1)] [(1000000,(ac.cs a0).map .p)] (.p (eB r.1)) ([(1000000,(ac.cs r.2).map .p)])
abbrev xB (F:ac->Option (Bool×ac))(k:Nat):Prop:=∀ (a0:ac) (r:Bool×ac),HO (F a0=some r) Tryz.prog k [.ptr 1000000 0] [(1000000,(ac.cs a0).map .p)] (.p (eB r.1)) ([(1000000,(ac.cs r.2).map .p)])
abbrev iF:List AV:=[.p (eI 0),.p (eS ([]:Bytes)),.p (eI 0)]
abbrev mZ:List AV:=[.p (eI 0),.p (eI 0),.p (eS ([]:Bytes))]
def bq (Rw:ac):Option (Bool×ac) :=
 some (decide (Rw.fat < (Rw.fs.length:Int)),Rw)
instance xL:xB (bq) 53:=by
 refine λ Rw=>hO good [] [1000000] Tryz.func53 Z Z λ r h0 _ w0 F=>?_;unfold bq at h0;exact nx 5 Z (mD [(0,.ptr 1000000 0)] Z ⟨Z,trivial⟩ Z (dR 3 Z (dq (.p (eI Rw.fat)) [5] Z (λ _ e _ q=>ak Z (aP Z Z Z Z Z (e _ _ Z) Z (ac.g_at _) q)) Z (dR 3 Z (dq (.p (eS Rw.fs)) [9] Z (λ _ e _ q=>ak Z (aP Z Z Z Z Z (e _ _ Z) Z (ac.g_s _) q)) Z (dq (.p (eI (Rw.fs.length:Int))) [10] Z (λ _ e _ q=>ak Z (qn Z Z Z Z Z (e _ _ Z) q)) Z (dR 2 Z S0)))))))
def aY:Nat->ac->Option (ac⊕ac)
 | 0,_=>none
 | m+1,x20 =>
 (bq x20).bind λ RQ =>
 if RQ.1=true then
  ck ((0:Int)<=RQ.2.fat/\RQ.2.fat < (RQ.2.fs.length:Int)) <|
  ck ((0:Int)<=byt RQ.2.fs RQ.2.fat/\byt RQ.2.fs RQ.2.fat < 256) <|
  jn (
    if ((lat ik (byt RQ.2.fs RQ.2.fat)).toNat:Int)=1 then
     ck (inR (RQ.2.fat+1)) <|
     some (.inl (ac.mk RQ.2.fs (RQ.2.fat+1) RQ.2.IS RQ.2.AT))
    else
     (
       if ((lat ik (byt RQ.2.fs RQ.2.fat)).toNat:Int)=7 then
        some (decide (RQ.2.IS < 0))
       else
        some false
      ).bind λ W6 =>
     if W6=true then
      ck ((0:Int)<=RQ.2.fat/\RQ.2.fat<=(RQ.2.fs.length:Int)/\(RQ.2.fs.length:Int)<=(RQ.2.fs.length:Int)) <|
      (strings_IndexByte (sub RQ.2.fs RQ.2.fat (RQ.2.fs.length:Int)) 10).bind λ Ti =>
      (
        if Ti < 0 then
         ck (inR ((RQ.2.fs.length:Int) - RQ.2.fat)) <|
         some ((RQ.2.fs.length:Int) - RQ.2.fat)
        else
         some Ti
       ).bind λ n36 =>
      ck (inR (RQ.2.fat+n36)) <|
      some (.inl (ac.mk RQ.2.fs (RQ.2.fat+n36) RQ.2.IS RQ.2.AT))
     else
      some (.inr (.inr RQ.2))
   : Option (ac⊕(ac⊕ac))) λ x38 =>
  aY m x38
 else
  some (.inl RQ.2)
def dW (n:Nat)(Rw:ac):Option ac :=
 jn (aY n Rw) λ x40 =>
 some x40
instance xO (n:Nat) (Rw:ac):∀ (r:ac),HO (dW n Rw=some r) Tryz.prog 52 [.ptr 1000000 0] [(1000000,(ac.cs Rw).map .p)] (.tuple []) ([(1000000,(ac.cs r).map .p)]):=by
 refine hO good [] [1000000] Tryz.func52 Z Z λ r h0 _ w0 F=>?_;unfold dW at h0;refine nx 1 rfl ?_;obtain ⟨Wi,h1,Sl,hR0⟩:=cm h0;refine kEx 0 (λ v46:ac=>Wi=.inl v46) (λ v46=>⟨[],[(1000000,(ac.cs v46).map .p)]⟩) (λ v46 hv=>?_) ?_
 ·have h0:=Sl _ hv;exact S0
 refine lG (λ (Tj:ac)=>⟨[(0,.ptr 1000000 0)],[(1000000,(ac.cs Tj).map .p)]⟩) (λ m (Tj:ac)=>aY m Tj) Y Rw h1 (gE rfl rfl) ?_;rintro m x20 h1;replace h1:aY (m+1) x20=some Wi:=h1;rw [aY] at h1;refine nx 4 rfl (bd h1 λ RQ XH h1=>mO rfl (a8 [1000000] [] 102000 102000 (HO.c XH) rfl rfl rfl rfl rfl ⟨sr,trivial⟩ rfl (ar rfl (au _) rfl) ⟨⟨_,rfl,aN _⟩,trivial⟩ rfl rfl rfl rfl rfl rfl rfl rfl Tryz.call53 rfl (ar rfl (au _) rfl) (nx 1 rfl (fB [5] h1 rfl (λ T4 h1=>?_) λ T4 h1=>?_))))
 ·refine nx 4 rfl (cc' h1 λ Uv h1=>cc' h1 λ Tu h1=>mD [(0,.ptr 1000000 0)] rfl ⟨rfl,trivial⟩ rfl (dR 4 rfl (dq (.p (eS RQ.2.fs)) [9] rfl (λ _ e _ q=>ak rfl (aP Z Z Z Z Z (e _ _ rfl) rfl (ac.g_s _) q)) rfl (dR 3 rfl (dq (.p (eI RQ.2.fat)) [13] rfl (λ _ e _ q=>ak rfl (aP Z Z Z Z Z (e _ _ rfl) rfl (ac.g_at _) q)) rfl (dq (.p (eK .u8 (byt RQ.2.fs RQ.2.fat))) [10,14] rfl (λ _ e _ q=>ak rfl (fC Z Z Z Z Z (e _ _ rfl) (e _ _ rfl) Uv q)) rfl (dR 2 rfl (dq (.ptr 1000000 (2+(byt RQ.2.fs RQ.2.fat).toNat*1)) [15,17] rfl (λ _ e _ q=>ak rfl (ff Z Z Z Z Z Z (e _ _ rfl) (e _ _ rfl) Tu q)) rfl (dq (.p (eK .u8 ((lat ik (byt RQ.2.fs RQ.2.fat)).toNat:Int))) [18] rfl (λ _ e _ q=>ak rfl (aP Z Z Z Z Z (e _ _ rfl) rfl (ac.g_class _ Tu) q)) rfl (dR 1 rfl (dE rfl (nx 1 rfl ?_))))))))))));obtain ⟨o48,h2,hL1,hR1⟩:=cm h1;refine kX (λ VS:ac=>o48=.inl VS) (λ VS=>⟨[(0,.ptr 1000000 0)],[(1000000,(ac.cs VS).map .p)]⟩) (λ VS hv=>?_) ?_
  ·have h1:=hL1 _ hv;exact iY
  refine nx 7 Z (fD [20,22] h2 Z (λ XM h2=>?_) λ XM h2=>?_)
  ·exact nx 5 Z (mO Z (aP Z Z Z Z Z Z Z (ac.g_at _) (oA h2 Z Z λ U' h2=>nx 2 Z zN)))
  refine nx 2 Z (bd h2 λ o50 h3 h2=>kN o50 (λ v51=>⟨[(0,.ptr 1000000 0),(30,.p (eB v51))],[(1000000,(ac.cs RQ.2).map .p)]⟩) ?_ ?_)
  ·refine nx 1 Z (fB [30] h2 Z (λ WL h2=>?_) λ WL h2=>?_)
   ·refine nx 2 Z (cc' h2 λ U8 h2=>bd h2 λ Ti XF h2=>mD [(0,.ptr 1000000 0)] Z ⟨Z,trivial⟩ Z (dR 3 Z (dq (.p (eS RQ.2.fs)) [42] Z (λ _ e _ q=>ak Z (aP Z Z Z Z Z (e _ _ Z) Z (ac.g_s _) q)) Z (dR 3 Z (dq (.p (eI RQ.2.fat)) [46] Z (λ _ e _ q=>ak Z (aP Z Z Z Z Z (e _ _ Z) Z (ac.g_at _) q)) Z (dq (.p (eS (sub RQ.2.fs RQ.2.fat (RQ.2.fs.length:Int)))) [43,47] Z (λ _ e _ q=>ak Z (eQ (a:=RQ.2.fs) (l:=RQ.2.fat) (h:=(RQ.2.fs.length:Int)) Z Z Z Z Z (e _ _ Z) pm Z U8 q)) Z (dq (.p (eI Ti)) [48] Z (λ _ e _ q=>ak Z (bS (kw (sub RQ.2.fs RQ.2.fat (RQ.2.fs.length:Int)) 10 _ XF) Z Z Z (av (e _ _ Z) (av Z bm)) ⟨sr,sr,trivial⟩ Tryz.call85 Z q)) Z (dR 1 Z (dE Z (nx 2 Z (bd h2 λ o52 h3 h2=>kN o52 (λ v53=>⟨[(0,.ptr 1000000 0),(3,.p (eI v53))],[(1000000,(ac.cs RQ.2).map .p)]⟩) ?_ ?_)))))))))))
    ·exact nx 5 Z (mO Z (aP Z Z Z Z Z Z Z (ac.g_at _) (nx 1 Z (oA h2 Z Z λ Ur h2=>nx 2 Z zN))))
    refine nx 5 Z (fD [51] h3 Z (λ c34 h3=>?_) λ c34 h3=>?_)
    ·exact nx 1 Z (cc' h3 λ Ut h3=>mD [(0,.ptr 1000000 0)] Z ⟨Z,trivial⟩ Z (dR 3 Z (dq (.p (eS RQ.2.fs)) [54] Z (λ _ e _ q=>ak Z (aP Z Z Z Z Z (e _ _ Z) Z (ac.g_s _) q)) Z (dq (.p (eI (RQ.2.fs.length:Int))) [55] Z (λ _ e _ q=>ak Z (qn Z Z Z Z Z (e _ _ Z) q)) Z (dR 3 Z (dq (.p (eI RQ.2.fat)) [59] Z (λ _ e _ q=>ak Z (aP Z Z Z Z Z (e _ _ Z) Z (ac.g_at _) q)) Z (dq (.p (eI ((RQ.2.fs.length:Int) - RQ.2.fat))) [56,60] Z (λ _ e _ q=>ak Z (fS Z Z Z (e _ _ Z) (e _ _ Z) Z Ut q)) Z (dR 1 Z (dE Z (nx 1 Z kD))))))))))
    exact Bj
   exact nx 2 Z E9
  refine nx 4 Z (fD [32,33] h3 Z (λ c28 h3=>?_) λ c28 h3=>?_)
  ·exact nx 3 Z (mO Z (aP Z Z Z Z Z Z Z (ac.g_outer _) (nx 4 Z kD)))
  exact nx 8 Z kD
 exact iY
def cZ (Mr:Bytes):Nat->Int->Option (Unit⊕Bytes)
 | 0,_=>none
 | m+1,t8 =>
 if t8 < 7 then
  ck ((0:Int)<=t8/\t8 < 7) <|
  (strings_HasPrefix Mr (lat ([([61,62]:Bytes),([61,61]:Bytes),([33,61]:Bytes),([60,61]:Bytes),([62,61]:Bytes),([38,38]:Bytes),([124,124]:Bytes)]:List Bytes) t8)).bind λ Ug =>
  if Ug=true then
   some (.inr (lat ([([61,62]:Bytes),([61,61]:Bytes),([33,61]:Bytes),([60,61]:Bytes),([62,61]:Bytes),([38,38]:Bytes),([124,124]:Bytes)]:List Bytes) t8))
  else
   ck (inR (t8+1)) <|
   cZ Mr m (t8+1)
 else
  some (.inl ())
def ip (n:Nat)(Mr:Bytes):Option Bytes :=
 jn (cZ Mr n 0) λ _WS =>
 (
   if Mr=([]:Bytes) then
    some true
   else
    ck ((0:Int)<=0/\0 < (Mr.length:Int)) <|
    (strings_IndexByte ([123,125,91,93,40,41,44,61,60,62,43,45,42,47,37,33,63,58,46]:Bytes) (byt Mr 0)).bind λ S3 =>
    some (decide (S3 < 0))
  ).bind λ t20 =>
 if t20=true then
  some ([]:Bytes)
 else
  ck ((0:Int)<=0/\(0:Int)<=1/\(1:Int)<=(Mr.length:Int)) <|
  some (sub Mr 0 1)
instance E0 (n:Nat) (Mr:Bytes):∀ (r:Bytes),HP (ip n Mr=some r) Tryz.prog 86 [eS Mr] (.p (eS r)):=by
 refine hP good Tryz.func86 Z Z λ r h0 _ w0=>?_;unfold ip at h0;refine nx 11 rfl ?_;obtain ⟨VC,h1,Sl,hR0⟩:=cm h0;refine kEx 0 (λ Vu:Unit=>VC=.inl Vu) (λ Vu=>⟨[(0,.p (eS Mr))],[]⟩) (λ Vu hv=>?_) ?_
 ·have h0:=Sl _ hv;refine nx 3 Z (bd h0 λ Wj h1 h0=>kN Wj (λ W2=>⟨[(0,.p (eS Mr)),(21,.p (eB W2))],[]⟩) ?_ ?_)
  ·exact S0
  exact iY
 refine lG (λ (q29:Int)=>⟨[(0,.p (eS Mr)),(5,.p (.agg [eS ([61,62]:Bytes),eS ([61,61]:Bytes),eS ([33,61]:Bytes),eS ([60,61]:Bytes),eS ([62,61]:Bytes),eS ([38,38]:Bytes),eS ([124,124]:Bytes)])),(6,.p (eI q29))],[]⟩) (λ m (q29:Int)=>cZ Mr m q29) Y 0 h1 (gE rfl rfl) ?_;rintro m t8 h1;replace h1:cZ Mr (m+1) t8=some VC:=h1;rw [cZ] at h1;refine nx 5 rfl (fD [7] h1 rfl (λ c9 h1=>?_) λ c9 h1=>?_)
 ·refine nx 6 Z (cc' h1 λ TN h1=>mO Z (vq eS ([([61,62]:Bytes),([61,61]:Bytes),([33,61]:Bytes),([60,61]:Bytes),([62,61]:Bytes),([38,38]:Bytes),([124,124]:Bytes)]:List Bytes) Z Z Z Z Z Z Z Z Z Z Z (by have:=TN; simp only [aq,dg]; omega) (nx 6 Z (bd h1 λ Ug WI h1=>oK (dj Mr (lat ([([61,62]:Bytes),([61,61]:Bytes),([33,61]:Bytes),([60,61]:Bytes),([62,61]:Bytes),([38,38]:Bytes),([124,124]:Bytes)]:List Bytes) t8) _ WI) Z ⟨sr,sr,trivial⟩ Tryz.call75 Z (nx 1 Z (fB [11] h1 Z (λ VP h1=>?_) λ VP h1=>?_))))))
  ·exact nx 7 Z (mQ (hR0 _ (oi h1).symm) Z (sr))
  exact nx 3 Z (oA h1 Z Z λ Tw h1=>nx 2 Z (eX (t8+1) h1 (gE Z Z)))
 exact iY
def dr (n:Nat)(Rw:ac):Option (Bool×ac) :=
 ck ((0:Int)<=Rw.fat/\Rw.fat < (Rw.fs.length:Int)) <|
 ck ((0:Int)<=byt Rw.fs Rw.fat/\byt Rw.fs Rw.fat < 256) <|
 (
   if ((lat ik (byt Rw.fs Rw.fat)).toNat:Int)=2 then
    some true
   else
    if ((lat ik (byt Rw.fs Rw.fat)).toNat:Int)=3 then
     some true
    else
     if ((lat ik (byt Rw.fs Rw.fat)).toNat:Int)=5 then
      some true
     else
      some (decide (((lat ik (byt Rw.fs Rw.fat)).toNat:Int)=6))
  ).bind λ t6 =>
 if t6=true then
  some (true,Rw)
 else
  ck ((0:Int)<=Rw.fat/\Rw.fat<=(Rw.fs.length:Int)/\(Rw.fs.length:Int)<=(Rw.fs.length:Int)) <|
  (ip n (sub Rw.fs Rw.fat (Rw.fs.length:Int))).bind λ r9 =>
  some (!decide (r9=([]:Bytes)),Rw)
instance vZ (n:Nat):xB (dr n) 54:=by
 refine λ Rw=>hO good [] [1000000] Tryz.func54 Z Z λ r h0 _ w0 F=>?_;unfold dr at h0;refine nx 6 Z (cc' h0 λ UF h0=>cc' h0 λ To h0=>mD [(0,.ptr 1000000 0)] Z ⟨Z,trivial⟩ Z (dR 4 Z (dq (.p (eS Rw.fs)) [6] Z (λ _ e _ q=>ak Z (aP Z Z Z Z Z (e _ _ Z) Z (ac.g_s _) q)) Z (dR 3 Z (dq (.p (eI Rw.fat)) [10] Z (λ _ e _ q=>ak Z (aP Z Z Z Z Z (e _ _ Z) Z (ac.g_at _) q)) Z (dq (.p (eK .u8 (byt Rw.fs Rw.fat))) [7,11] Z (λ _ e _ q=>ak Z (fC Z Z Z Z Z (e _ _ Z) (e _ _ Z) UF q)) Z (dR 2 Z (dq (.ptr 1000000 (2+(byt Rw.fs Rw.fat).toNat*1)) [12,14] Z (λ _ e _ q=>ak Z (ff Z Z Z Z Z Z (e _ _ Z) (e _ _ Z) To q)) Z (dq (.p (eK .u8 ((lat ik (byt Rw.fs Rw.fat)).toNat:Int))) [15] Z (λ _ e _ q=>ak Z (aP Z Z Z Z Z (e _ _ Z) Z (ac.g_class _ To) q)) Z (dE Z (nx 3 Z (bd h0 λ V5 h1 h0=>?_))))))))))));refine kN V5 (λ W5=>⟨[(0,.ptr 1000000 0),(17,.p (eB W5))],[(1000000,(ac.cs Rw).map .p)]⟩) ?_ ?_
 ·refine nx 1 Z (fB [17] h0 Z (λ c7 h0=>?_) λ c7 h0=>?_)
  ·exact S0
  exact nx 3 Z (cc' h0 λ Xt h0=>bd h0 λ r9 Vf h0=>mD [(0,.ptr 1000000 0)] Z ⟨Z,trivial⟩ Z (dR 3 Z (dq (.p (eS Rw.fs)) [24] Z (λ _ e _ q=>ak Z (aP Z Z Z Z Z (e _ _ Z) Z (ac.g_s _) q)) Z (dR 3 Z (dq (.p (eI Rw.fat)) [28] Z (λ _ e _ q=>ak Z (aP Z Z Z Z Z (e _ _ Z) Z (ac.g_at _) q)) Z (dq (.p (eS (sub Rw.fs Rw.fat (Rw.fs.length:Int)))) [25,29] Z (λ _ e _ q=>ak Z (eQ (a:=Rw.fs) (l:=Rw.fat) (h:=(Rw.fs.length:Int)) Z Z Z Z Z (e _ _ Z) pm Z Xt q)) Z (dq (.p (eS r9)) [30] Z (λ _ e _ q=>ak Z (bS (HP.c Vf) Z Z Z (av (e _ _ Z) bm) ⟨sr,trivial⟩ Tryz.call86 Z q)) Z (dq (.p (eB (!decide (r9=([]:Bytes))))) [31] Z (λ _ e _ q=>ak Z (qy Z Z Z (e _ _ Z) Z Z q)) Z S0))))))))
 exact iY
def bR (Tp:Int)(b_2:Int):Nat->ac->Option ac
 | 0,_=>none
 | m+1,x14 =>
 (
   (bq x14).bind λ RJ =>
   if RJ.1=true then
    ck ((0:Int)<=RJ.2.fat/\RJ.2.fat < (RJ.2.fs.length:Int)) <|
    ck ((0:Int)<=byt RJ.2.fs RJ.2.fat/\byt RJ.2.fs RJ.2.fat < 256) <|
    if ((lat ik (byt RJ.2.fs RJ.2.fat)).toNat:Int)=Tp then
     some (true,RJ.2)
    else
     ck ((0:Int)<=RJ.2.fat/\RJ.2.fat < (RJ.2.fs.length:Int)) <|
     ck ((0:Int)<=byt RJ.2.fs RJ.2.fat/\byt RJ.2.fs RJ.2.fat < 256) <|
     some (decide (((lat ik (byt RJ.2.fs RJ.2.fat)).toNat:Int)=b_2),RJ.2)
   else
    some (false,RJ.2)
  ).bind λ S4 =>
 if S4.1=true then
  ck (inR (S4.2.fat+1)) <|
  bR Tp b_2 m (ac.mk S4.2.fs (S4.2.fat+1) S4.2.IS S4.2.AT)
 else
  some S4.2
def eh (n:Nat)(Rw:ac)(Tp:Int)(b_2:Int):Option (Bytes×ac) :=
 (bR Tp b_2 n Rw).bind λ x28 =>
 ck ((0:Int)<=Rw.fat/\Rw.fat<=x28.fat/\x28.fat<=(x28.fs.length:Int)) <|
 some (sub x28.fs Rw.fat x28.fat,x28)
instance yE (n:Nat) (Rw:ac) (Tp:Int) (b_2:Int):∀ (r:Bytes×ac),HO (eh n Rw Tp b_2=some r) Tryz.prog 87 [.ptr 1000000 0,.p (eK .u8 Tp),.p (eK .u8 b_2)] [(1000000,(ac.cs Rw).map .p)] (.p (eS r.1)) ([(1000000,(ac.cs r.2).map .p)]):=by
 refine hO good [] [1000000] Tryz.func87 Z Z λ r h0 _ w0 F=>?_;unfold eh at h0;refine nx 9 Z (mO Z (aP Z Z Z Z Z Z Z (ac.g_at _) (nx 4 Z (bd h0 λ T1 h1 h0=>kE 0 T1 (λ Vr=>⟨[(0,.ptr 1000000 0),(7,.p (eI Rw.fat))],[(1000000,(ac.cs Vr).map .p)]⟩) ?_ ?_))))
 ·exact nx 2 Z (cc' h0 λ Wy h0=>mD [(0,.ptr 1000000 0),(7,.p (eI Rw.fat))] Z ⟨Z,Z,trivial⟩ Z (dR 3 Z (dq (.p (eS T1.fs)) [59] Z (λ _ e _ q=>ak Z (aP Z Z Z Z Z (e _ _ Z) Z (ac.g_s _) q)) Z (dR 4 Z (dq (.p (eI T1.fat)) [64] Z (λ _ e _ q=>ak Z (aP Z Z Z Z Z (e _ _ Z) Z (ac.g_at _) q)) Z (dq (.p (eS (sub T1.fs Rw.fat T1.fat))) [60,61,65] Z (λ _ e _ q=>ak Z (eQ (a:=T1.fs) (l:=Rw.fat) (h:=T1.fat) Z Z Z Z Z (e _ _ Z) pm (BX (e _ _ Z)) Wy q)) Z S0))))))
 refine lG (λ (q34:ac)=>⟨[(0,.ptr 1000000 0),(1,.p (eK .u8 Tp)),(2,.p (eK .u8 b_2)),(7,.p (eI Rw.fat))],[(1000000,(ac.cs q34).map .p)]⟩) (λ m (q34:ac)=>bR Tp b_2 m q34) Y Rw h1 (gE rfl rfl) ?_;rintro m x14 h1;replace h1:bR Tp b_2 (m+1) x14=some T1:=h1;rw [bR] at h1;refine nx 2 rfl (bd h1 λ TU h2 h1=>kN TU (λ Vq=>⟨[(0,.ptr 1000000 0),(1,.p (eK .u8 Tp)),(2,.p (eK .u8 b_2)),(7,.p (eI Rw.fat)),(49,.p (eB Vq.1))],[(1000000,(ac.cs Vq.2).map .p)]⟩) ?_ ?_)
 ·exact iY
 refine bd h2 λ RJ Uw h2=>fB (p:=RJ.1) [] h2 Z (λ R9 h2=>?_) λ R9 h2=>?_
 ·refine cc' h2 λ S9 h2=>cc' h2 λ Tv h2=>fD (p:=((lat ik (byt RJ.2.fs RJ.2.fat)).toNat:Int)=Tp) [] h2 Z (λ c20 h2=>?_) λ c20 h2=>?_
  ·refine mG zS (mSq ⟨1,[1],(by2 (.some (cn [] 108000 108000)) .none),(λ _=>[(0,.ptr 1000000 0),(1,.p (eK .u8 Tp)),(2,.p (eK .u8 b_2)),(7,.p (eI Rw.fat))]),(by2 [(1000000,(ac.cs x14).map .p)] [(1000000,(ac.cs RJ.2).map .p)])⟩ Z (dPc (.ptr 1000000 0) Z (dI (λ _=>.p (eB RJ.1)) [12] Z (λ sl OF K hK=>ak Z (a8 [1000000] [] 108000 108000 (HO.c Uw) Z Z Z (av (OF _ _ Z) bm) Z ⟨sr,trivial⟩ Z (ar Z (au _) Z) ⟨⟨_,Z,aN _⟩,trivial⟩ Z Z Z Z Z Z Z Z Tryz.call53 Z (ar Z (au _) Z) hK)) (dPc (.p (eB RJ.1)) Z (dPy (λ _=>.ptr 1000000 0) (R9) Z (dPy (λ _=>.ptr 1000000 0) (R9) Z (dPy (λ _=>.ptr 1000000 0) (R9) Z (dPy (λ _=>.ptr 1000000 0) (R9) Z (dPy (λ _=>.p (eS RJ.2.fs)) (R9) Z (dPy (λ _=>.ptr 1000000 0) (R9) Z (dPy (λ _=>.ptr 1000000 0) (R9) Z (dPy (λ _=>.ptr 1000000 1) (R9) Z (dPy (λ _=>.p (eI RJ.2.fat)) (R9) Z ?_)))))))))))));refine dO (.p (eK .u8 (byt RJ.2.fs RJ.2.fat))) [14,19,23] Z (λ _ sl OF K hK=>fu (fC Z Z Z Z Z (OF _ _ Z) (OF _ _ Z) S9 hK) Z Z (OF _ _ Z) (R9)) (dPy (λ _=>.ptr 1000000 0) (R9) Z (dPy (λ _=>.ptr 1000000 2) (R9) Z (dO (.ptr 1000000 (2+(byt RJ.2.fs RJ.2.fat).toNat*1)) [14,24,26] Z (λ _ sl OF K hK=>fu (ff Z Z Z Z Z Z (OF _ _ Z) (OF _ _ Z) Tv hK) Z Z (OF _ _ Z) (R9)) (co (λ _=>.p (eK .u8 ((lat ik (byt RJ.2.fs RJ.2.fat)).toNat:Int))) Z Z Z (kS Z Y) (lt1 Z) (cp [(14,_),(27,_)] ⟨.inr ⟨2,_,Z,Z,Z⟩,.inr ⟨15,_,Z,Z,Z⟩,trivial⟩ (λ sl OF K hK=>fu (aP Z Z Z Z Z (OF _ _ Z) Z (ac.g_class _ Tv) hK) Z Z (OF _ _ Z) (R9)) (cP Z cF)) (dPy (λ _=>.p (eK .u8 Tp)) (R9) Z (dPy (λ _=>.p (eB (decide (((lat ik (byt RJ.2.fs RJ.2.fat)).toNat:Int)=Tp)))) (R9) Z (dPy (λ _=>.p (eB (decide (((lat ik (byt RJ.2.fs RJ.2.fat)).toNat:Int)=Tp)))) (R9) Z (dPn (dt c20) Z (dPn (dt c20) Z (dPn (dt c20) Z (dPn (dt c20) Z (dPn (dt c20) Z (dPn (dt c20) Z ?_)))))))))))));refine dPn (dt c20) Z (dPn (dt c20) Z (dPn (dt c20) Z (dPn (dt c20) Z (dPn (dt c20) Z (dPn (dt c20) Z (dPn (dt c20) Z (dPn (dt c20) Z (dPn (dt c20) Z (dPn (dt c20) Z (dO (.p (eB true)) [14,31,47] Z (λ _ sl OF K hK=>fu (kP Z Z Z (OF _ _ Z) (dt c20) Z hK) Z Z (OF _ _ Z) (R9)) (dO (.p (eB true)) [14,48] Z (λ _ sl OF K hK=>ak Z (kP Z Z Z (OF _ _ Z) (R9) (OF _ _ Z) hK)) (fp (nx 1 Z ?_)))))))))))));exact wt
  refine cc' h2 λ Tm h2=>cc' h2 λ TJ h2=>mG zS (mSq ⟨1,[1],(by2 (.some (cn [] 109000 109000)) .none),(λ _=>[(0,.ptr 1000000 0),(1,.p (eK .u8 Tp)),(2,.p (eK .u8 b_2)),(7,.p (eI Rw.fat))]),(by2 [(1000000,(ac.cs x14).map .p)] [(1000000,(ac.cs RJ.2).map .p)])⟩ Z (dPc (.ptr 1000000 0) Z (dI (λ _=>.p (eB RJ.1)) [12] Z (λ sl OF K hK=>ak Z (a8 [1000000] [] 109000 109000 (HO.c Uw) Z Z Z (av (OF _ _ Z) bm) Z ⟨sr,trivial⟩ Z (ar Z (au _) Z) ⟨⟨_,Z,aN _⟩,trivial⟩ Z Z Z Z Z Z Z Z Tryz.call53 Z (ar Z (au _) Z) hK)) (dPc (.p (eB RJ.1)) Z (dPy (λ _=>.ptr 1000000 0) (R9) Z (dPy (λ _=>.ptr 1000000 0) (R9) Z (dPy (λ _=>.ptr 1000000 0) (R9) Z (dPy (λ _=>.ptr 1000000 0) (R9) Z (dPy (λ _=>.p (eS RJ.2.fs)) (R9) Z (dPy (λ _=>.ptr 1000000 0) (R9) Z (dPy (λ _=>.ptr 1000000 0) (R9) Z (dPy (λ _=>.ptr 1000000 1) (R9) Z (dPy (λ _=>.p (eI RJ.2.fat)) (R9) Z ?_)))))))))))));refine dO (.p (eK .u8 (byt RJ.2.fs RJ.2.fat))) [14,19,23] Z (λ _ sl OF K hK=>fu (fC Z Z Z Z Z (OF _ _ Z) (OF _ _ Z) S9 hK) Z Z (OF _ _ Z) (R9)) (dPy (λ _=>.ptr 1000000 0) (R9) Z (dPy (λ _=>.ptr 1000000 2) (R9) Z (dO (.ptr 1000000 (2+(byt RJ.2.fs RJ.2.fat).toNat*1)) [14,24,26] Z (λ _ sl OF K hK=>fu (ff Z Z Z Z Z Z (OF _ _ Z) (OF _ _ Z) Tv hK) Z Z (OF _ _ Z) (R9)) (co (λ _=>.p (eK .u8 ((lat ik (byt RJ.2.fs RJ.2.fat)).toNat:Int))) Z Z Z (kS Z Y) (lt1 Z) (cp [(14,_),(27,_)] ⟨.inr ⟨2,_,Z,Z,Z⟩,.inr ⟨15,_,Z,Z,Z⟩,trivial⟩ (λ sl OF K hK=>fu (aP Z Z Z Z Z (OF _ _ Z) Z (ac.g_class _ Tv) hK) Z Z (OF _ _ Z) (R9)) (cP Z cF)) (dPy (λ _=>.p (eK .u8 Tp)) (R9) Z (dPy (λ _=>.p (eB (decide (((lat ik (byt RJ.2.fs RJ.2.fat)).toNat:Int)=Tp)))) (R9) Z (dPy (λ _=>.p (eB (decide (((lat ik (byt RJ.2.fs RJ.2.fat)).toNat:Int)=Tp)))) (R9) Z (dPy (λ _=>.ptr 1000000 0) (df c20) Z (dPy (λ _=>.ptr 1000000 0) (df c20) Z (dPy (λ _=>.ptr 1000000 0) (df c20) Z (dPy (λ _=>.ptr 1000000 0) (df c20) Z (dPy (λ _=>.p (eS RJ.2.fs)) (df c20) Z (dPy (λ _=>.ptr 1000000 0) (df c20) Z ?_)))))))))))));refine dPy (λ _=>.ptr 1000000 0) (df c20) Z (dPy (λ _=>.ptr 1000000 1) (df c20) Z (dPy (λ _=>.p (eI RJ.2.fat)) (df c20) Z (dO (.p (eK .u8 (byt RJ.2.fs RJ.2.fat))) [31,36,40] Z (λ _ sl OF K hK=>fu (fC Z Z Z Z Z (OF _ _ Z) (OF _ _ Z) Tm hK) Z Z (OF _ _ Z) (df c20)) (dPy (λ _=>.ptr 1000000 0) (df c20) Z (dPy (λ _=>.ptr 1000000 2) (df c20) Z (dO (.ptr 1000000 (2+(byt RJ.2.fs RJ.2.fat).toNat*1)) [31,41,43] Z (λ _ sl OF K hK=>fu (ff Z Z Z Z Z Z (OF _ _ Z) (OF _ _ Z) TJ hK) Z Z (OF _ _ Z) (df c20)) (co (λ _=>.p (eK .u8 ((lat ik (byt RJ.2.fs RJ.2.fat)).toNat:Int))) Z Z Z (kS Z Y) (lt1 Z) (cp [(31,_),(44,_)] ⟨.inr ⟨19,_,Z,Z,Z⟩,.inr ⟨32,_,Z,Z,Z⟩,trivial⟩ (λ sl OF K hK=>fu (aP Z Z Z Z Z (OF _ _ Z) Z (ac.g_class _ TJ) hK) Z Z (OF _ _ Z) (df c20)) (cP Z cF)) (dPy (λ _=>.p (eK .u8 b_2)) (df c20) Z (dPy (λ _=>.p (eB (decide (((lat ik (byt RJ.2.fs RJ.2.fat)).toNat:Int)=b_2)))) (df c20) Z (dO (.p (eB (decide (((lat ik (byt RJ.2.fs RJ.2.fat)).toNat:Int)=b_2)))) [14,31,47] Z (λ _ sl OF K hK=>fu (jX Z Z Z (OF _ _ Z) (df c20) (OF _ _ Z) hK) Z Z (OF _ _ Z) (R9)) (dO (.p (eB (decide (((lat ik (byt RJ.2.fs RJ.2.fat)).toNat:Int)=b_2)))) [14,48] Z (λ _ sl OF K hK=>ak Z (kP Z Z Z (OF _ _ Z) (R9) (OF _ _ Z) hK)) (fp (nx 1 Z ?_)))))))))))));exact wt
 refine mG zS (mSq ⟨1,[1],(by2 (.some (cn [] 110000 110000)) .none),(λ _=>[(0,.ptr 1000000 0),(1,.p (eK .u8 Tp)),(2,.p (eK .u8 b_2)),(7,.p (eI Rw.fat))]),(by2 [(1000000,(ac.cs x14).map .p)] [(1000000,(ac.cs RJ.2).map .p)])⟩ Z (dPc (.ptr 1000000 0) Z (dI (λ _=>.p (eB RJ.1)) [12] Z (λ sl OF K hK=>ak Z (a8 [1000000] [] 110000 110000 (HO.c Uw) Z Z Z (av (OF _ _ Z) bm) Z ⟨sr,trivial⟩ Z (ar Z (au _) Z) ⟨⟨_,Z,aN _⟩,trivial⟩ Z Z Z Z Z Z Z Z Tryz.call53 Z (ar Z (au _) Z) hK)) (dPc (.p (eB RJ.1)) Z (dPn (R9) Z (dPn (R9) Z (dPn (R9) Z (dPn (R9) Z (dPn (R9) Z (dPn (R9) Z (dPn (R9) Z (dPn (R9) Z (dPn (R9) Z ?_)))))))))))));refine dPn (R9) Z (dPn (R9) Z (dPn (R9) Z (dPn (R9) Z (dPn (R9) Z (dPn (R9) Z (dPn (R9) Z (dPn (R9) Z (dPx Z (dPx Z (dPx Z (dPx Z (dPx Z (dPx Z ?_)))))))))))));refine dPx Z (dPx Z (dPx Z (dPx Z (dPx Z (dPx Z (dPx Z (dPx Z (dPx Z (dPx Z (dPn (R9) Z (dO (.p (eB false)) [14,48] Z (λ _ sl OF K hK=>ak Z (jX Z Z Z (OF _ _ Z) (R9) Z hK)) (fp (nx 1 Z ?_)))))))))))));exact wt
def cb (Rw:ac)(k_1:Int)(at_2:Int):Option (Bool×ac) :=
 some (false,(ac.mk Rw.fs Rw.fat Rw.IS (ap.mk k_1 at_2 ([]:Bytes))))
instance xS (Rw:ac) (k_1:Int) (at_2:Int):∀ (r:Bool×ac),HO (cb Rw k_1 at_2=some r) Tryz.prog 88 [.ptr 1000000 0,.p (eI k_1),.p (eI at_2)] [(1000000,(ac.cs Rw).map .p)] (.p (eB r.1)) ([(1000000,(ac.cs r.2).map .p)]):=by
 refine hO good [] [1000000] Tryz.func88 Z Z λ r h0 _ w0 F=>?_;unfold cb at h0;exact nx 12 Z (mO Z (fE Z Z Z Z Z Z Z Z (ac.b_bad _) (ac.u_bad _) Fj))
def dk (Rw:ac):Option (Bool×ac) :=
 ck ((0:Int)<=Rw.fat/\Rw.fat<=(Rw.fs.length:Int)/\(Rw.fs.length:Int)<=(Rw.fs.length:Int)) <|
 (aZ (sub Rw.fs Rw.fat (Rw.fs.length:Int))).bind λ r2 =>
 (
   if r2.1=65533 then
    if r2.2=1 then
     some true
    else
     if r2.1 < 32 then
      some true
     else
      some (decide (r2.1=127))
   else
    if r2.1 < 32 then
     some true
    else
     some (decide (r2.1=127))
  ).bind λ t8 =>
 if t8=true then
  some (false,Rw)
 else
  ck (inR (Rw.fat+r2.2)) <|
  some (true,(ac.mk Rw.fs (Rw.fat+r2.2) Rw.IS Rw.AT))
instance ux:xB (dk) 134:=by
 refine λ Rw=>hO good [] [1000000] Tryz.func134 Z Z λ r h0 _ w0 F=>?_;unfold dk at h0;refine nx 5 Z (cc' h0 λ UF h0=>bd h0 λ r2 e3 h0=>mD [(0,.ptr 1000000 0)] Z ⟨Z,trivial⟩ Z (dR 3 Z (dq (.p (eS Rw.fs)) [8] Z (λ _ e _ q=>ak Z (aP Z Z Z Z Z (e _ _ Z) Z (ac.g_s _) q)) Z (dR 3 Z (dq (.p (eI Rw.fat)) [12] Z (λ _ e _ q=>ak Z (aP Z Z Z Z Z (e _ _ Z) Z (ac.g_at _) q)) Z (dq (.p (eS (sub Rw.fs Rw.fat (Rw.fs.length:Int)))) [9,13] Z (λ _ e _ q=>ak Z (eQ (a:=Rw.fs) (l:=Rw.fat) (h:=(Rw.fs.length:Int)) Z Z Z Z Z (e _ _ Z) pm Z UF q)) Z (dq (.tuple [.p (eK .i32 r2.1),.p (eI r2.2)]) [14] Z (λ _ e _ q=>ak Z (bS (de (sub Rw.fs Rw.fat (Rw.fs.length:Int)) _ e3) Z Z Z (av (e _ _ Z) bm) ⟨sr,trivial⟩ Tryz.call126 Z q)) Z (dR 5 Z (dE Z (nx 3 Z (bd h0 λ V5 h1 h0=>kN V5 (λ W5=>⟨[(0,.ptr 1000000 0),(4,.p (eI r2.2)),(31,.p (eB W5))],[(1000000,(ac.cs Rw).map .p)]⟩) ?_ ?_)))))))))))
 ·refine nx 1 Z (fB [31] h0 Z (λ c9 h0=>?_) λ c9 h0=>?_)
  ·exact S0
  exact nx 7 Z (mO Z (aP Z Z Z Z Z Z Z (ac.g_at _) (nx 1 Z (oA h0 Z Z λ TN h0=>nx 2 Z (mO Z (fE Z Z Z Z Z Z Z Z (ac.b_at _) (ac.u_at _) Fj))))))
 exact iY
def aJ (RY:ac->Int->Option (Bool×ac))(Pn:Int):Nat->ac->Option (ac⊕(Bool×ac))
 | 0,_=>none
 | m+1,x33 =>
 (bq x33).bind λ RX =>
 if RX.1=true then
  ck ((0:Int)<=RX.2.fat/\RX.2.fat<=(RX.2.fs.length:Int)/\(RX.2.fs.length:Int)<=(RX.2.fs.length:Int)) <|
  jn (
    ck ((0:Int)<=0/\0 < ((sub RX.2.fs RX.2.fat (RX.2.fs.length:Int)).length:Int)) <|
    if byt (sub RX.2.fs RX.2.fat (RX.2.fs.length:Int)) 0=34 then
     ck (inR (RX.2.fat+1)) <|
     some (.inr (.inr (true,(ac.mk RX.2.fs (RX.2.fat+1) RX.2.IS RX.2.AT))))
    else
     (strings_HasPrefix (sub RX.2.fs RX.2.fat (RX.2.fs.length:Int)) ([36,36,123]:Bytes)).bind λ r41 =>
     if r41=true then
      ck (inR (RX.2.fat+3)) <|
      some (.inl (ac.mk RX.2.fs (RX.2.fat+3) RX.2.IS RX.2.AT))
     else
      (strings_HasPrefix (sub RX.2.fs RX.2.fat (RX.2.fs.length:Int)) ([36,123]:Bytes)).bind λ VW =>
      if VW=true then
       (RY RX.2 Pn).bind λ TQ =>
       if (!TQ.1)=true then
        some (.inr (.inr (false,TQ.2)))
       else
        some (.inl TQ.2)
      else
       (
         ck ((0:Int)<=0/\0 < ((sub RX.2.fs RX.2.fat (RX.2.fs.length:Int)).length:Int)) <|
         if byt (sub RX.2.fs RX.2.fat (RX.2.fs.length:Int)) 0=92 then
          ck (inR (RX.2.fat+1)) <|
          some (ac.mk RX.2.fs (RX.2.fat+1) RX.2.IS RX.2.AT)
         else
          some RX.2
        ).bind λ x54 =>
       (bq x54).bind λ TW =>
       if (!TW.1)=true then
        some (.inl TW.2)
       else
        (dk TW.2).bind λ S8 =>
        if (!S8.1)=true then
         (cb S8.2 2 S8.2.fat).bind λ Sw =>
         some (.inr (.inr (Sw.1,Sw.2)))
        else
         some (.inl S8.2)
   : Option (ac⊕(ac⊕(Bool×ac)))) λ x63 =>
  aJ RY Pn m x63
 else
  some (.inl RX.2)
def aE (n:Nat)(Se:ac->Int->Option (ad×Bool×ac))(Pn:Int):Nat->Int->ac->Option (ac⊕(Bool×ac))
 | 0,_,_=>none
 | m+1,open35,x36 =>
 if 0 < open35 then
  jn (
    (dW n x36).bind λ Tg =>
    (bq Tg).bind λ VX =>
    if (!VX.1)=true then
     (cb VX.2 40 VX.2.IS).bind λ Ty =>
     some (.inr (.inr (Ty.1,Ty.2)))
    else
     (dr n VX.2).bind λ VW =>
     if (!VW.1)=true then
      (cb VW.2 2 VW.2.fat).bind λ TQ =>
      some (.inr (.inr (TQ.1,TQ.2)))
     else
      ck (inR (Pn+1)) <|
      (Se VW.2 (Pn+1)).bind λ Sv =>
      if (!Sv.2.1)=true then
       some (.inr (.inr (false,Sv.2.2)))
      else
       (
         (
           if Sv.1.Ar=4 then
            some (decide (Sv.1.C'=([123]:Bytes)))
           else
            some false
          ).bind λ t55 =>
         if t55=true then
          ck (inR (open35+1)) <|
          some (open35+1)
         else
          some open35
        ).bind λ open58 =>
       (
         if Sv.1.Ar=4 then
          some (decide (Sv.1.C'=([125]:Bytes)))
         else
          some false
        ).bind λ t60 =>
       if t60=true then
        ck (inR (open58 - 1)) <|
        some (.inl (open58 - 1,Sv.2.2))
       else
        some (.inl (open58,Sv.2.2))
   : Option ((Int×ac)⊕(ac⊕(Bool×ac)))) λ We =>
  aE n Se Pn m We.1 We.2
 else
  some (.inl x36)
mutual
def aW:Nat->ac->Int->Option (ad×Bool×ac)
 | 0,_,_=>none
 | n+1,Rw,Pn =>
 ck ((0:Int)<=Rw.fat/\Rw.fat < (Rw.fs.length:Int)) <|
 ck ((0:Int)<=byt Rw.fs Rw.fat/\byt Rw.fs Rw.fat < 256) <|
 jn (
   if ((lat ik (byt Rw.fs Rw.fat)).toNat:Int)=2 then
    (eh n Rw 2 3).bind λ r4 =>
    if 64 < (r4.1.length:Int) then
     (cb r4.2 7 Rw.fat).bind λ r7 =>
     some (.inr ((ad.mk 1 r4.1 Rw.fat),r7.1,r7.2))
    else
     some (.inl (1,r4.1,r4.2))
   else
    if ((lat ik (byt Rw.fs Rw.fat)).toNat:Int)=3 then
     (eh n Rw 3 3).bind λ R5 =>
     some (.inl (2,R5.1,R5.2))
    else
     if ((lat ik (byt Rw.fs Rw.fat)).toNat:Int)=6 then
      ck (inR (Rw.fat+1)) <|
      some (.inl (5,([10]:Bytes),(ac.mk Rw.fs (Rw.fat+1) Rw.IS Rw.AT)))
     else
      if ((lat ik (byt Rw.fs Rw.fat)).toNat:Int)=5 then
       ((b7 n) Rw Pn).bind λ RJ =>
       if (!RJ.1)=true then
        some (.inr ((ad.mk 3 ([]:Bytes) Rw.fat),false,RJ.2))
       else
        ck (inR (Rw.fat+1)) <|
        ck (inR (RJ.2.fat - 1)) <|
        ck ((0:Int)<=Rw.fat+1/\Rw.fat+1<=RJ.2.fat - 1/\RJ.2.fat - 1<=(RJ.2.fs.length:Int)) <|
        some (.inl (3,sub RJ.2.fs (Rw.fat+1) (RJ.2.fat - 1),RJ.2))
      else
       ck ((0:Int)<=Rw.fat/\Rw.fat<=(Rw.fs.length:Int)/\(Rw.fs.length:Int)<=(Rw.fs.length:Int)) <|
       (ip n (sub Rw.fs Rw.fat (Rw.fs.length:Int))).bind λ TA =>
       ck (inR (Rw.fat+(TA.length:Int))) <|
       some (.inl (4,TA,(ac.mk Rw.fs (Rw.fat+(TA.length:Int)) Rw.IS Rw.AT)))
  : Option ((Int×Bytes×ac)⊕(ad×Bool×ac))) λ Wg =>
 some ((ad.mk Wg.1 Wg.2.1 Rw.fat),true,Wg.2.2)
def cN:Nat->ac->Int->Option (Bool×ac)
 | 0,_,_=>none
 | n+1,Rw,Pn =>
 ck (inR (Rw.fat+1)) <|
 jn (aJ (aC n) Pn n (ac.mk Rw.fs (Rw.fat+1) Rw.IS Rw.AT)) λ x65 =>
 (cb x65 40 x65.IS).bind λ TD =>
 some (TD.1,TD.2)
def b7:Nat->ac->Int->Option (Bool×ac)
 | 0,_,_=>none
 | n+1,Rw,Pn =>
 if Rw.IS < 0 then
  ((cN n) (ac.mk Rw.fs Rw.fat Rw.fat Rw.AT) Pn).bind λ r1 =>
  some (r1.1,ac.mk r1.2.fs r1.2.fat (-1) r1.2.AT)
 else (cN n) Rw Pn
def aC:Nat->ac->Int->Option (Bool×ac)
 | 0,_,_=>none
 | n+1,Rw,Pn =>
 if 32<=Pn then
  (cb Rw 4 Rw.fat).bind λ r2 =>
  some (r2.1,r2.2)
 else
  ck (inR (Rw.fat+2)) <|
  jn (aE n (aW n) Pn n 1 (ac.mk Rw.fs (Rw.fat+2) Rw.IS Rw.AT)) λ x67 =>
  some (true,x67)
end
theorem my (n:Nat):(∀ (Rw:ac) (Pn:Int) (r:ad×Bool×ac),HO (aW n Rw Pn=some r) Tryz.prog 55 [.ptr 1000000 0,.p (eI Pn)] [(1000000,(ac.cs Rw).map .p)] (.tuple [.p (.agg (ad.cs r.1)),.p (eB r.2.1)]) ([(1000000,(ac.cs r.2.2).map .p)]))/\(∀ (Rw:ac) (Pn:Int) (r:Bool×ac),cN n Rw Pn=some r->F9 Tryz.prog Tryz.f89 (QA Tryz.f89.body) [(1,.p (eI Pn)),(2,.ptr 1000001 0)] [(1000000,(ac.cs Rw).map .p),(1000001,[.ptr 1000000 0])] (λ x y=>x.sub (.p (eB r.1))/\leO y [(1000000,(ac.cs r.2).map .p),(1000001,[.ptr 1000000 0])]))/\CY (b7 n) 89/\CY (aC n) 133:=by
 induction n with
 | zero=>exact ⟨Zr,(by intro Rw Pn r h0; cases h0),Zr,Zr⟩
 | succ n ih =>
 obtain ⟨_,R4,_,_⟩:=ih;refine ⟨?_,?_,?_,?_⟩
 ·refine λ Rw Pn=>hO good [] [1000000] Tryz.func55 Z Z λ r h0 _ w0 F=>?_;rw [aW] at h0;refine nx 2 rfl (mO rfl (gX Z Z Z Z Z ?_));refine mG (me (show kO _ _=_ from pF)) (nx 7 rfl ?_);refine mO rfl (aP Z Z Z Z Z Z Z (ac.g_at _) (nx 1 rfl (mO rfl (gX Z Z Z Z Z ?_))));refine mG (me (show kO _ _=_ from pF)) (nx 4 rfl ?_);refine cc' h0 λ UF h0=>cc' h0 λ To h0=>mD [(0,.ptr 1000000 0),(1,.p (eI Pn)),(4,.ptr 4 0),(6,.ptr 6 0)] rfl ⟨rfl,rfl,rfl,rfl,trivial⟩ rfl (dR 4 rfl (dq (.p (eS Rw.fs)) [15] rfl (λ _ e _ q=>ak rfl (aP Z Z Z Z Z (e _ _ rfl) rfl (ac.g_s _) q)) rfl (dR 3 rfl (dq (.p (eI Rw.fat)) [19] rfl (λ _ e _ q=>ak rfl (aP Z Z Z Z Z (e _ _ rfl) rfl (ac.g_at _) q)) rfl (dq (.p (eK .u8 (byt Rw.fs Rw.fat))) [16,20] rfl (λ _ e _ q=>ak rfl (fC Z Z Z Z Z (e _ _ rfl) (e _ _ rfl) UF q)) rfl (dR 2 rfl (dq (.ptr 1000000 (2+(byt Rw.fs Rw.fat).toNat*1)) [21,23] rfl (λ _ e _ q=>ak rfl (ff Z Z Z Z Z Z (e _ _ rfl) (e _ _ rfl) To q)) rfl (dq (.p (eK .u8 ((lat ik (byt Rw.fs Rw.fat)).toNat:Int))) [24] rfl (λ _ e _ q=>ak rfl (aP Z Z Z Z Z (e _ _ rfl) rfl (ac.g_class _ To) q)) rfl (dE rfl (nx 1 rfl ?_))))))))));obtain ⟨TH,h1,Sl,hR0⟩:=cm h0;refine kX (λ SP:Int×Bytes×ac=>TH=.inl SP) (λ SP=>⟨[(4,.ptr 4 0),(6,.ptr 6 0)],[(4,iF),(6,[.p (eI SP.1),.p (eS SP.2.1),.p (eI Rw.fat)]),(1000000,(ac.cs SP.2.2).map .p)]⟩) (λ SP hv=>?_) ?_
  ·have h0:=Sl _ hv;exact S0
  refine nx 6 Z (fD [48,49] h1 Z (λ c3 h1=>?_) λ c3 h1=>?_)
  ·refine nx 4 Z (bd h1 λ r4 e5 h1=>mO Z (a8 [1000000] [] 101000 101000 (HO.c e5) Z Z Z Z Z ⟨sr,sr,sr,trivial⟩ Z (ar Z (au _) Z) ⟨⟨_,Z,aN _⟩,trivial⟩ Z Z Z Z Z Z Z Z Tryz.call87 Z (ar Z (au _) Z) (nx 9 Z (oLs Z (nx 2 Z (fD [57] h1 Z (λ c6 h1=>?_) λ c6 h1=>?_))))))
   ·exact nx 2 Z (bd h1 λ r7 e8 h1=>mG (gE (t:=⟨[(0,.ptr 1000000 0),(4,.ptr 4 0),(6,.ptr 6 0)],[(4,iF),(6,[.p (eI 1),.p (eS r4.1),.p (eI Rw.fat)]),(1000000,(ac.cs r4.2).map .p)]⟩) Z Z) (mSq ⟨2,[4,5],(by3 (.some (cn [] 102000 102000)) .none .none),(λ _=>[(0,.ptr 1000000 0),(4,.ptr 4 0),(6,.ptr 6 0)]),(by3 ([(4,iF),(6,[.p (eI 1),.p (eS r4.1),.p (eI Rw.fat)]),(1000000,(ac.cs r4.2).map .p)]) ([(1000000,(ac.cs r7.2).map .p),(4,iF),(6,[.p (eI 1),.p (eS r4.1),.p (eI Rw.fat)])]) ([(4,[.p (eI 1),.p (eS r4.1),.p (eI Rw.fat)]),(1000000,(ac.cs r7.2).map .p),(4,iF),(6,[.p (eI 1),.p (eS r4.1),.p (eI Rw.fat)])]))⟩ Z (dPc (.p (.agg [eI 1,eS r4.1,eI Rw.fat])) Z (dPc (.ptr 1000000 0) Z (dPc (.ptr 6 2) Z (dPc (.p (eI Rw.fat)) Z (dI (λ _=>.p (eB r7.1)) [59,61] Z (λ sl OF K hK=>ak Z (a8 [1000000] [] 102000 102000 (HO.c e8) Z Z Z (av (OF _ _ Z) (av Z (av (OF _ _ Z) bm))) Z ⟨sr,sr,sr,trivial⟩ Z (ar Z (au _) Z) ⟨⟨_,Z,aN _⟩,trivial⟩ Z Z Z Z Z Z Z Z Tryz.call88 Z (ar Z (au _) Z) hK)) (dS Z (dPc (.p (eB r7.1)) Z (fp (nx 2 Z (mQo (hR0 _ (oi h1).symm) (aQ _) Z Z Z (ar Z (au _) Z) (mI ⟨sr,sr,trivial⟩) ⟨⟨_,Z,aN _⟩,trivial⟩))))))))))))
   exact lE
  refine nx 6 Z (fD [63,64] h1 Z (λ c9 h1=>?_) λ c9 h1=>?_)
  ·exact nx 3 Z (bd h1 λ R5 Ux h1=>mO Z (a8 [1000000] [] 103000 103000 (HO.c Ux) Z Z Z Z Z ⟨sr,sr,sr,trivial⟩ Z (ar Z (au _) Z) ⟨⟨_,Z,aN _⟩,trivial⟩ Z Z Z Z Z Z Z Z Tryz.call87 Z (ar Z (au _) Z) (nx 5 Z fy)))
  refine nx 6 Z (fD [69,70] h1 Z (λ VQ h1=>?_) λ VQ h1=>?_)
  ·exact iY
  refine nx 6 Z (fD [80,81] h1 Z (λ Vh h1=>?_) λ Vh h1=>?_)
  ·refine nx 11 Z (bd h1 λ RJ Uw h1=>mO Z (a8 [1000000] [] 104000 104000 (HO.c Uw) Z Z Z Z Z ⟨sr,sr,trivial⟩ Z (ar Z (au _) Z) ⟨⟨_,Z,aN _⟩,trivial⟩ Z Z Z Z Z Z Z Z Tryz.call89 Z (ar Z (au _) Z) (nx 2 Z (mG (gE (t:=⟨[(0,.ptr 1000000 0),(4,.ptr 4 0),(6,.ptr 6 0),(86,.p (eB (!RJ.1)))],[(4,iF),(6,[.p (eI 3),.p (eS ([]:Bytes)),.p (eI Rw.fat)]),(1000000,(ac.cs RJ.2).map .p)]⟩) Z Z) (fB [86] h1 Z (λ R9 h1=>?_) λ R9 h1=>?_)))))
   ·exact iY
   refine nx 2 Z (cc' h1 λ S9 h1=>cc' h1 λ Tv h1=>cc' h1 λ TY h1=>mG (gE (t:=⟨[(0,.ptr 1000000 0),(4,.ptr 4 0),(6,.ptr 6 0)],[(4,iF),(6,[.p (eI 3),.p (eS ([]:Bytes)),.p (eI Rw.fat)]),(1000000,(ac.cs RJ.2).map .p)]⟩) Z Z) (mSq ⟨1,[14],(λ _=>.none),(λ _=>[(0,.ptr 1000000 0),(4,.ptr 4 0),(6,.ptr 6 0)]),(ob2 ([(4,iF),(6,[.p (eI 3),.p (eS ([]:Bytes)),.p (eI Rw.fat)]),(1000000,(ac.cs RJ.2).map .p)]) (6,[.p (eI 3),.p (eS (sub RJ.2.fs (Rw.fat+1) (RJ.2.fat - 1))),.p (eI Rw.fat)]))⟩ Z (dPc (.ptr 1000000 0) Z (dPc (.ptr 1000000 0) Z (dPc (.ptr 1000000 0) Z (dPc (.p (eS RJ.2.fs)) Z (dPc (.ptr 6 2) Z (dPc (.p (eI Rw.fat)) Z (dO (.p (eI (Rw.fat+1))) [93] Z (λ _ sl OF K hK=>ak Z (fS Z Z Z (OF _ _ Z) Z Z S9 hK)) (dPc (.ptr 1000000 0) Z (dPc (.ptr 1000000 0) Z (dPc (.ptr 1000000 1) Z ?_))))))))))));exact dPc (.p (eI RJ.2.fat)) Z (dO (.p (eI (RJ.2.fat - 1))) [98] Z (λ _ sl OF K hK=>ak Z (fS Z Z Z (OF _ _ Z) Z Z Tv hK)) (dO (.p (eS (sub RJ.2.fs (Rw.fat+1) (RJ.2.fat - 1)))) [91,94,99] Z (λ _ sl OF K hK=>ak Z (eQ (a:=RJ.2.fs) (l:=Rw.fat+1) (h:=RJ.2.fat - 1) Z Z Z Z Z (OF _ _ Z) wS w9 TY hK)) (dPc (.ptr 6 1) Z (dS Z (fp (nx 1 Z fy))))))
  refine nx 2 Z (cc' h1 λ Tm h1=>bd h1 λ TA e23 h1=>mG (gE (t:=⟨[(0,.ptr 1000000 0),(4,.ptr 4 0),(6,.ptr 6 0)],[(4,iF),(6,[.p (eI 0),.p (eS ([]:Bytes)),.p (eI Rw.fat)]),(1000000,(ac.cs Rw).map .p)]⟩) Z Z) (mSq ⟨2,[11,13],(λ _=>.none),(λ _=>[(0,.ptr 1000000 0),(4,.ptr 4 0),(6,.ptr 6 0)]),(ob3 ([(4,iF),(6,[.p (eI 0),.p (eS ([]:Bytes)),.p (eI Rw.fat)]),(1000000,(ac.cs Rw).map .p)]) (6,[.p (eI 4),.p (eS ([]:Bytes)),.p (eI Rw.fat)]) (6,[.p (eI 4),.p (eS TA),.p (eI Rw.fat)]))⟩ Z (dPc (.ptr 1000000 0) Z (dPc (.ptr 1000000 0) Z (dPc (.ptr 1000000 0) Z (dPc (.p (eS Rw.fs)) Z (dPc (.ptr 1000000 0) Z (dPc (.ptr 1000000 0) Z (dPc (.ptr 1000000 1) Z (dPc (.p (eI Rw.fat)) Z (dO (.p (eS (sub Rw.fs Rw.fat (Rw.fs.length:Int)))) [29,33] Z (λ _ sl OF K hK=>ak Z (eQ (a:=Rw.fs) (l:=Rw.fat) (h:=(Rw.fs.length:Int)) Z Z Z Z Z (OF _ _ Z) wS Z Tm hK)) (dO (.p (eS TA)) [34] Z (λ _ sl OF K hK=>ak Z (bS (HP.c e23) Z Z Z (av (OF _ _ Z) bm) ⟨sr,trivial⟩ Tryz.call86 Z hK)) ?_))))))))))));refine dPc (.ptr 6 0) Z (kd [(36,_)] Z ⟨.inr ⟨10,_,Z,Z,Z⟩,trivial⟩ Z (λ sl OF K hK=>ak Z (mK Z Z Z (OF _ _ Z) Z Z Z Z (Nat.le_of_ble_eq_true Z) hK)) (dPc (.ptr 6 1) Z (dS Z (fp (nx 1 Z (cc' h1 λ Uv h1=>mG (gE (t:=⟨[(0,.ptr 1000000 0),(4,.ptr 4 0),(6,.ptr 6 0)],[(4,iF),(6,[.p (eI 4),.p (eS TA),.p (eI Rw.fat)]),(1000000,(ac.cs Rw).map .p)]⟩) Z Z) (mSq ⟨1,[10],(λ _=>.none),(λ _=>[(0,.ptr 1000000 0),(4,.ptr 4 0),(6,.ptr 6 0)]),(ob2 ([(4,iF),(6,[.p (eI 4),.p (eS TA),.p (eI Rw.fat)]),(1000000,(ac.cs Rw).map .p)]) (1000000,(ac.cs (ac.mk Rw.fs (Rw.fat+(TA.length:Int)) Rw.IS Rw.AT)).map .p))⟩ Z (dPc (.ptr 1000000 0) Z (dPc (.ptr 1000000 0) Z (dPc (.ptr 1000000 1) Z (dPc (.p (eI Rw.fat)) Z (dPc (.ptr 6 1) Z (dPc (.p (eS TA)) Z ?_)))))))))))));refine dO (.p (eI (TA.length:Int))) [43] Z (λ _ sl OF K hK=>ak Z (qn Z Z Z Z Z (OF _ _ Z) hK)) (dO (.p (eI (Rw.fat+(TA.length:Int)))) [41,44] Z (λ _ sl OF K hK=>ak Z (fS Z Z Z (OF _ _ Z) (OF _ _ Z) Z Uv hK)) (dPc (.ptr 1000000 0) Z (dPc (.ptr 1000000 1) Z (kd [(45,_),(47,_)] Z ⟨.inr ⟨7,_,Z,Z,Z⟩,.inr ⟨9,_,Z,Z,Z⟩,trivial⟩ Z (λ sl OF K hK=>ak Z (fE Z Z Z (OF _ _ Z) (OF _ _ Z) Z Z Z (ac.b_at _) (ac.u_at _) hK)) (fp ?_)))));exact iY
 ·skip
  intro Rw Pn r h0;rw [cN] at h0;refine Iw good (t:=4) [1000000,1000001] Z Z λ w0 F=>mPo (λ v:Bool×ac=>.p (eB v.1)) (λ v=>[(1000000,(ac.cs v.2).map .p),(1000001,[.ptr 1000000 0])]) (nx 5 rfl (mO rfl (aP Z Z Z Z Z Z Z (ac.g_at _) (oA h0 Z Z λ UF h0=>nx 2 rfl (mO rfl (fE Z Z Z Z Z Z Z Z (ac.b_at _) (ac.u_at _) (nx 3 rfl ?_)))))));obtain ⟨o71,h1,Sl,hR0⟩:=cm h0;refine kEx 0 (λ Vj:ac=>o71=.inl Vj) (λ Vj=>⟨[(2,.ptr 1000001 0)],[(1000000,(ac.cs Vj).map .p),(1000001,[.ptr 1000000 0])]⟩) (λ Vj hv=>?_) ?_
  ·have h0:=Sl _ hv;exact nx 2 Z (bd h0 λ TD e67 h0=>mG (gE (t:=⟨[(2,.ptr 1000001 0)],[(1000000,(ac.cs Vj).map .p),(1000001,[.ptr 1000000 0])]⟩) Z Z) (mSq ⟨1,[5],(by2 (.some (cn [] 111000 111000)) .none),(λ _=>[(2,.ptr 1000001 0)]),(by2 ([(1000000,(ac.cs Vj).map .p),(1000001,[.ptr 1000000 0])]) ([(1000000,(ac.cs TD.2).map .p),(1000001,[.ptr 1000000 0])]))⟩ Z (dPc (.ptr 1000000 0) Z (dPc (.ptr 1000000 0) Z (dPc (.ptr 1000000 0) Z (dPc (.ptr 1000000 258) Z (dPc (.p (eI Vj.IS)) Z (dI (λ _=>.p (eB TD.1)) [87,91] Z (λ sl OF K hK=>ak Z (a8 [1000000] [] 111000 111000 (HO.c e67) Z Z Z (av (OF _ _ Z) (av Z (av (OF _ _ Z) bm))) Z ⟨sr,sr,sr,trivial⟩ Z (ar Z (au _) Z) ⟨⟨_,Z,aN _⟩,trivial⟩ Z Z Z Z Z Z Z Z Tryz.call88 Z (ar Z (au _) Z) hK)) (dPc (.p (eB TD.1)) Z (fp (nx 2 Z (mQo (oi h0) (aQ _) Z Z Z (ar Z (au _) (ar Z Z Z)) (sr) ⟨⟨_,Z,aN _⟩,⟨_,Z,⟨sr,trivial⟩⟩,trivial⟩))))))))))))
  refine lG (λ (Vx:ac)=>⟨[(1,.p (eI Pn)),(2,.ptr 1000001 0)],[(1000000,(ac.cs Vx).map .p),(1000001,[.ptr 1000000 0])]⟩) (λ m (Vx:ac)=>aJ (aC n) Pn m Vx) Y (ac.mk Rw.fs (Rw.fat+1) Rw.IS Rw.AT) h1 (gE rfl rfl) ?_;rintro m x33 h1;replace h1:aJ (aC n) Pn (m+1) x33=some o71:=h1;rw [aJ] at h1;refine nx 4 rfl (bd h1 λ RX e35 h1=>mO rfl (a8 [1000000] [] 106000 106000 (HO.c e35) rfl rfl rfl rfl rfl ⟨sr,trivial⟩ rfl (ar rfl (au _) rfl) ⟨⟨_,rfl,aN _⟩,trivial⟩ rfl rfl rfl rfl rfl rfl rfl rfl Tryz.call53 rfl (ar rfl (au _) rfl) (nx 1 rfl (fB [27] h1 rfl (λ WK h1=>?_) λ WK h1=>?_))))
  ·refine nx 4 rfl (cc' h1 λ Ur h1=>mD [(1,.p (eI Pn)),(2,.ptr 1000001 0)] rfl ⟨rfl,rfl,trivial⟩ rfl (dR 3 rfl (dq (.p (eS RX.2.fs)) [30] rfl (λ _ e _ q=>ak rfl (aP Z Z Z Z Z (e _ _ rfl) rfl (ac.g_s _) q)) rfl (dR 3 rfl (dq (.p (eI RX.2.fat)) [34] rfl (λ _ e _ q=>ak rfl (aP Z Z Z Z Z (e _ _ rfl) rfl (ac.g_at _) q)) rfl (dq (.p (eS (sub RX.2.fs RX.2.fat (RX.2.fs.length:Int)))) [31,35] rfl (λ _ e _ q=>ak rfl (eQ (a:=RX.2.fs) (l:=RX.2.fat) (h:=(RX.2.fs.length:Int)) Z Z Z Z Z (e _ _ rfl) pm rfl Ur q)) rfl (dR 1 rfl (dE rfl (nx 1 rfl ?_)))))))));obtain ⟨o74,h2,hL1,hR1⟩:=cm h1;refine kX (λ v75:ac=>o74=.inl v75) (λ v75=>⟨[(1,.p (eI Pn)),(2,.ptr 1000001 0)],[(1000000,(ac.cs v75).map .p),(1000001,[.ptr 1000000 0])]⟩) (λ v75 hv=>?_) ?_
   ·have h1:=hL1 _ hv;exact iY
   refine nx 4 Z (oI h2 Z λ VK h2=>nx 3 Z (fD [59,62] h2 Z (λ XL h2=>?_) λ XL h2=>?_))
   ·exact nx 6 Z (mO Z (aP Z Z Z Z Z Z Z (ac.g_at _) (oA h2 Z Z λ VI h2=>nx 2 Z (mO Z (fE Z Z Z Z Z Z Z Z (ac.b_at _) (ac.u_at _) (nx 6 Z AE))))))
   refine nx 4 Z (bd h2 λ r41 e42 h2=>oK (dj (sub RX.2.fs RX.2.fat (RX.2.fs.length:Int)) ([36,36,123]:Bytes) _ e42) Z ⟨sr,sr,trivial⟩ Tryz.call75 Z (nx 2 Z (fB [70,72] h2 Z (λ c43 h2=>?_) λ c43 h2=>?_)))
   ·exact nx 5 Z (mO Z (aP Z Z Z Z Z Z Z (ac.g_at _) (oA h2 Z Z λ hk44 h2=>nx 2 Z zN)))
   refine nx 4 Z (bd h2 λ VW XA h2=>oK (dj (sub RX.2.fs RX.2.fat (RX.2.fs.length:Int)) ([36,123]:Bytes) _ XA) Z ⟨sr,sr,trivial⟩ Tryz.call75 Z (nx 2 Z (fB [80,82] h2 Z (λ WJ h2=>?_) λ WJ h2=>?_)))
   ·refine nx 5 Z (bd h2 λ TQ Xz h2=>mO Z (a8 [1000000] [] 107000 107000 (HO.c Xz) Z Z Z Z Z ⟨sr,sr,trivial⟩ Z (ar Z (au _) Z) ⟨⟨_,Z,aN _⟩,trivial⟩ Z Z Z Z Z Z Z Z Tryz.call133 Z (ar Z (au _) Z) (nx 2 Z (fB [86] h2 Z (λ c50 h2=>?_) λ c50 h2=>?_))))
    ·exact nx 5 Z (mG (gE (t:=⟨[(4,.p (eB false))],[(1000000,(ac.cs TQ.2).map .p),(1000001,[.ptr 1000000 0])]⟩) Z Z) (nx 1 Z AE))
    exact uw
   refine nx 2 Z (bd h2 λ Xk h3 h2=>kN Xk (λ Vp=>⟨[(1,.p (eI Pn)),(2,.ptr 1000001 0)],[(1000000,(ac.cs Vp).map .p),(1000001,[.ptr 1000000 0])]⟩) ?_ ?_)
   ·refine nx 5 Z (bd h2 λ TW e56 h2=>mO Z (a8 [1000000] [] 108000 108000 (HO.c e56) Z Z Z Z Z ⟨sr,trivial⟩ Z (ar Z (au _) Z) ⟨⟨_,Z,aN _⟩,trivial⟩ Z Z Z Z Z Z Z Z Tryz.call53 Z (ar Z (au _) Z) (nx 2 Z (fB [49] h2 Z (λ XJ h2=>?_) λ XJ h2=>?_))))
    ·exact uw
    refine nx 5 Z (bd h2 λ S8 e59 h2=>mO Z (a8 [1000000] [] 109000 109000 (HO.c e59) Z Z Z Z Z ⟨sr,trivial⟩ Z (ar Z (au _) Z) ⟨⟨_,Z,aN _⟩,trivial⟩ Z Z Z Z Z Z Z Z Tryz.call134 Z (ar Z (au _) Z) (nx 2 Z (fB [52] h2 Z (λ c60 h2=>?_) λ c60 h2=>?_))))
    ·exact nx 2 Z (bd h2 λ Sw e62 h2=>mG (gE (t:=⟨[(2,.ptr 1000001 0)],[(1000000,(ac.cs S8.2).map .p),(1000001,[.ptr 1000000 0])]⟩) Z Z) (mSq ⟨1,[5],(by2 (.some (cn [] 110000 110000)) .none),(λ _=>[(2,.ptr 1000001 0)]),(by2 ([(1000000,(ac.cs S8.2).map .p),(1000001,[.ptr 1000000 0])]) ([(1000000,(ac.cs Sw.2).map .p),(1000001,[.ptr 1000000 0])]))⟩ Z (dPc (.ptr 1000000 0) Z (dPc (.ptr 1000000 0) Z (dPc (.ptr 1000000 0) Z (dPc (.ptr 1000000 1) Z (dPc (.p (eI S8.2.fat)) Z (dI (λ _=>.p (eB Sw.1)) [53,57] Z (λ sl OF K hK=>ak Z (a8 [1000000] [] 110000 110000 (HO.c e62) Z Z Z (av (OF _ _ Z) (av Z (av (OF _ _ Z) bm))) Z ⟨sr,sr,sr,trivial⟩ Z (ar Z (au _) Z) ⟨⟨_,Z,aN _⟩,trivial⟩ Z Z Z Z Z Z Z Z Tryz.call88 Z (ar Z (au _) Z) hK)) (dPc (.p (eB Sw.1)) Z (fp (nx 2 Z AE)))))))))))
    exact uw
   refine nx 3 Z (oI h3 Z λ VG h3=>nx 2 Z (fD [39] h3 Z (λ c52 h3=>?_) λ c52 h3=>?_))
   ·exact nx 5 Z (mO Z (aP Z Z Z Z Z Z Z (ac.g_at _) (oA h3 Z Z λ U4 h3=>nx 2 Z (mO Z (fE Z Z Z Z Z Z Z Z (ac.b_at _) (ac.u_at _) (nx 1 Z kD))))))
   exact Bj
  exact iY
 ·refine λ Rw Pn r=>⟨λ h0=>?_⟩
  rw [b7] at h0;refine K7 good (k:=132) (j:=2) (q:=18) (b:=decide (Rw.IS < 0)) (s0:=⟨[(1,.p (eI Pn)),(2,.ptr 2 0)],[(2,[.ptr 1000000 0]),(1000000,(ac.cs Rw).map .p)]⟩) (s1:=⟨[(1,.p (eI Pn)),(2,.ptr 2 0),(10,.p (eB (decide (Rw.IS < 0))))],[(2,[.ptr 1000000 0]),(1000000,(ac.cs Rw).map .p)]⟩) (s2:=⟨[(1,.p (eI Pn)),(2,.ptr 2 0)],[(2,[.ptr 1000000 0]),(1000000,(ac.cs (ac.mk Rw.fs Rw.fat Rw.fat Rw.AT)).map .p)]⟩) [1000000] Tryz.func89 Z Z Z (λ w0 F=>mR ?_) (λ w0 F=>mR ?_) rfl (λ hb=>?_) (λ hb=>?_);refine nx 1 rfl (mO rfl (Ai Z Z Z Z Z ?_));refine mG (me (show kO _ _=_ from pF)) (nx 3 rfl ?_);exact mE (gE Z Z);exact nx 4 rfl (mO rfl (aP Z Z Z Z Z Z Z (ac.g_outer _) (nx 3 rfl (mE (gE Z Z)))));rw [if_neg (of_decide_eq_false hb)] at h0;exact ⟨⟨[(1,.p (eI Pn)),(2,.ptr 2 0),(10,.p (eB (decide (Rw.IS < 0))))],[(1000000,(ac.cs r.2).map .p),(2,[.ptr 1000000 0])]⟩,_,_,rfl,(ar rfl (au _) rfl),⟨⟨_,rfl,aN _⟩,trivial⟩,λ w0 F g a a2 w hs ht=>Fc (C:=⟨Tryz.prog,tt,good,_,rfl,w0,F⟩) (sl:=[(1,.p (eI Pn)),(2,.ptr 2 0),(10,.p (eB (decide (Rw.IS < 0))))]) (ob:=[(2,[.ptr 1000000 0]),(1000000,(ac.cs Rw).map .p)]) [1000000,2] [] 100000 100000 [1,2] rfl (R4 Rw Pn _ h0) Z Z Z (ar rfl (au _) rfl) ⟨⟨_,rfl,aN _⟩,⟨_,rfl,⟨sr,trivial⟩⟩,trivial⟩ Z Z Z Z Z Z Z Z Z (ar rfl (au _) rfl) hs ht⟩;rw [if_pos (of_decide_eq_true hb)] at h0;refine bd h0 λ r1 e1 h0=>?_
  cases h0
  refine ⟨λ w0 F=>mR ?_,⟨Z,Z,Z,Z,Z,Z,Z,Z⟩,Tryz.call132,⟨[(18,.func (.func 132) [.ptr 2 0]),(1,.p (eI Pn)),(2,.ptr 2 0)],[(1000000,(ac.cs r1.2).map .p),(2,[.ptr 1000000 0])]⟩,⟨[(18,.func (.func 132) [.ptr 2 0]),(1,.p (eI Pn)),(2,.ptr 2 0)],[(2,[.ptr 1000000 0]),(1000000,(ac.cs (ac.mk r1.2.fs r1.2.fat (-1) r1.2.AT)).map .p)]⟩,_,_,.ptr 2 0,Z,Z,(ar Z (au _) Z),⟨⟨_,Z,aN _⟩,trivial⟩,λ w0 F g a a2 w hs ht=>?_,λ w0 F g a w u hs=>?_⟩
  ·exact mG (gE (t:=⟨[(1,.p (eI Pn)),(2,.ptr 2 0)],[(2,[.ptr 1000000 0]),(1000000,(ac.cs Rw).map .p)]⟩) Z Z) (mSq ⟨1,[7],(λ _=>.none),(λ _=>[(1,.p (eI Pn)),(2,.ptr 2 0)]),(ob2 ([(2,[.ptr 1000000 0]),(1000000,(ac.cs Rw).map .p)]) (1000000,(ac.cs (ac.mk Rw.fs Rw.fat Rw.fat Rw.AT)).map .p))⟩ Z (dPc (.ptr 1000000 0) Z (dPc (.ptr 1000000 0) Z (dPc (.ptr 1000000 0) Z (dPc (.ptr 1000000 1) Z (dPc (.p (eI Rw.fat)) Z (dPc (.ptr 1000000 0) Z (dPc (.ptr 1000000 258) Z (kd [(15,_),(17,_)] Z ⟨.inr ⟨4,_,Z,Z,Z⟩,.inr ⟨6,_,Z,Z,Z⟩,trivial⟩ Z (λ sl OF K hK=>ak Z (fE Z Z Z (OF _ _ Z) (OF _ _ Z) Z Z Z (ac.b_outer _) (ac.u_outer _) hK)) (fp (nx 2 Z (mE (gE Z Z)))))))))))))
  ·exact Fc (C:=⟨Tryz.prog,tt,good,_,Z,w0,F⟩) (sl:=[(18,.func (.func 132) [.ptr 2 0]),(1,.p (eI Pn)),(2,.ptr 2 0)]) (ob:=[(2,[.ptr 1000000 0]),(1000000,(ac.cs (ac.mk Rw.fs Rw.fat Rw.fat Rw.AT)).map .p)]) [1000000,2] [] 100000 100000 [1,2] Z (R4 (ac.mk Rw.fs Rw.fat Rw.fat Rw.AT) Pn _ e1) Z Z Z (ar Z (au _) Z) ⟨⟨_,Z,aN _⟩,⟨_,Z,⟨sr,trivial⟩⟩,trivial⟩ Z Z Z Z Z Z Z Z Z (ar Z (au _) Z) hs ht
  exact Oj (C:=⟨Tryz.prog,tt,good,_,Z,w0,F⟩) (sl:=[(18,.func (.func 132) [.ptr 2 0]),(1,.p (eI Pn)),(2,.ptr 2 0)]) (ob:=[(1000000,(ac.cs r1.2).map .p),(2,[.ptr 1000000 0])]) [2,1000000] [] 100000 100000 2 (lL r1.2) Z Z Z (ar Z Z (ar Z (au _) Z)) ⟨⟨_,Z,⟨sr,trivial⟩⟩,⟨_,Z,aN _⟩,trivial⟩ Z Z Z Z Z Z Z Z Z (ar Z Z (ar Z (au _) Z)) hs
 ·refine λ Rw Pn=>hO good [] [1000000] Tryz.func133 Z Z λ r h0 _ w0 F=>?_;rw [aC] at h0;refine nx 10 Z (fD [9] h0 Z (λ c1 h0=>?_) λ c1 h0=>?_)
  ·exact nx 7 Z (mO Z (aP Z Z Z Z Z Z Z (ac.g_at _) (bd h0 λ r2 e3 h0=>mO Z (a8 [1000000] [] 101000 101000 (HO.c e3) Z Z Z Z Z ⟨sr,sr,sr,trivial⟩ Z (ar Z (au _) Z) ⟨⟨_,Z,aN _⟩,trivial⟩ Z Z Z Z Z Z Z Z Tryz.call88 Z (ar Z (au _) Z) (nx 3 Z Ki)))))
  refine nx 7 rfl (mO rfl (aP Z Z Z Z Z Z Z (ac.g_at _) (oA h0 Z Z λ V8 h0=>nx 2 rfl (mO rfl (fE Z Z Z Z Z Z Z Z (ac.b_at _) (ac.u_at _) (nx 7 rfl ?_))))));obtain ⟨Xl,h1,Sl,hR0⟩:=cm h0;refine kEx 0 (λ UJ:ac=>Xl=.inl UJ) (λ UJ=>⟨[],[(1000000,(ac.cs UJ).map .p)]⟩) (λ UJ hv=>?_) ?_
  ·have h0:=Sl _ hv;exact S0
  refine lG (λ (UQ:Int×ac)=>⟨[(0,.ptr 1000000 0),(1,.p (eI Pn)),(5,.p (eI UQ.1))],[(1000000,(ac.cs UQ.2).map .p)]⟩) (λ m (UQ:Int×ac)=>aE n (aW n) Pn m UQ.1 UQ.2) Y (1,(ac.mk Rw.fs (Rw.fat+2) Rw.IS Rw.AT)) h1 (gE rfl rfl) ?_;rintro m ⟨open35,x36⟩ h1;replace h1:aE n (aW n) Pn (m+1) open35 x36=some Xl:=h1;rw [aE] at h1;refine nx 6 rfl (fD [24] h1 rfl (λ c37 h1=>?_) λ c37 h1=>?_)
  ·refine nx 2 rfl ?_;obtain ⟨Xk,h2,hL1,hR1⟩:=cm h1;refine kX (λ Vp:Int×ac=>Xk=.inl Vp) (λ Vp=>⟨[(0,.ptr 1000000 0),(1,.p (eI Pn)),(5,.p (eI Vp.1))],[(1000000,(ac.cs Vp.2).map .p)]⟩) (λ Vp hv=>?_) ?_
   ·have h1:=hL1 _ hv;exact iY
   refine nx 4 Z (bd h2 λ Tg XD h2=>mO Z (a8 [1000000] [] 108000 108000 (HO.c XD) Z Z Z Z Z ⟨sr,trivial⟩ Z (ar Z (au _) Z) ⟨⟨_,Z,aN _⟩,trivial⟩ Z Z Z Z Z Z Z Z Tryz.call52 Z (ar Z (au _) Z) (nx 5 Z (bd h2 λ VX e41 h2=>mO Z (a8 [1000000] [] 109000 109000 (HO.c e41) Z Z Z Z Z ⟨sr,trivial⟩ Z (ar Z (au _) Z) ⟨⟨_,Z,aN _⟩,trivial⟩ Z Z Z Z Z Z Z Z Tryz.call53 Z (ar Z (au _) Z) (nx 2 Z (fB [29] h2 Z (λ c42 h2=>?_) λ c42 h2=>?_)))))))
   ·exact nx 7 Z (mO Z (aP Z Z Z Z Z Z Z (ac.g_outer _) (bd h2 λ Ty XC h2=>mO Z (a8 [1000000] [] 110000 110000 (HO.c XC) Z Z Z Z Z ⟨sr,sr,sr,trivial⟩ Z (ar Z (au _) Z) ⟨⟨_,Z,aN _⟩,trivial⟩ Z Z Z Z Z Z Z Z Tryz.call88 Z (ar Z (au _) Z) GB))))
   refine nx 6 Z (bd h2 λ VW XA h2=>mO Z (a8 [1000000] [] 111000 111000 (HO.c XA) Z Z Z Z Z ⟨sr,trivial⟩ Z (ar Z (au _) Z) ⟨⟨_,Z,aN _⟩,trivial⟩ Z Z Z Z Z Z Z Z Tryz.call54 Z (ar Z (au _) Z) (nx 2 Z (fB [38] h2 Z (λ WJ h2=>?_) λ WJ h2=>?_))))
   ·exact nx 7 Z (mO Z (aP Z Z Z Z Z Z Z (ac.g_at _) (bd h2 λ TQ Xz h2=>mO Z (a8 [1000000] [] 112000 112000 (HO.c Xz) Z Z Z Z Z ⟨sr,sr,sr,trivial⟩ Z (ar Z (au _) Z) ⟨⟨_,Z,aN _⟩,trivial⟩ Z Z Z Z Z Z Z Z Tryz.call88 Z (ar Z (au _) Z) GB))))
   refine nx 6 Z (oA h2 Z Z λ U5 h2=>bd h2 λ Sv Xy h2=>mO Z (a8 [1000000] [] 113000 113000 (HO.c Xy) Z Z Z Z Z ⟨sr,sr,trivial⟩ Z (ar Z (au _) Z) ⟨⟨_,Z,aN _⟩,trivial⟩ Z Z Z Z Z Z Z Z Tryz.call55 Z (ar Z (au _) Z) (nx 3 Z (mO Z (gX Z Z Z Z Z ?_)))));refine mG (me (show kO _ _=_ from pF)) (nx 9 Z ?_);refine fB [53] h2 Z (λ c53 h2=>?_) λ c53 h2=>?_
   ·exact nx 6 Z E9
   refine nx 3 Z (bd h2 λ o78 h3 h2=>kN o78 (λ Vo=>⟨[(0,.ptr 1000000 0),(1,.p (eI Pn)),(5,.p (eI Vo)),(6,.ptr 6 0)],[(6,(ad.cs Sv.1).map .p),(1000000,(ac.cs Sv.2.2).map .p)]⟩) ?_ ?_)
   ·refine nx 2 Z (bd h2 λ o80 h3 h2=>kN o80 (λ v81=>⟨[(0,.ptr 1000000 0),(1,.p (eI Pn)),(5,.p (eI o78)),(71,.p (eB v81))],[(1000000,(ac.cs Sv.2.2).map .p)]⟩) ?_ ?_)
    ·refine nx 1 Z (fB [71] h2 Z (λ c61 h2=>?_) λ c61 h2=>?_)
     ·exact nx 3 Z (oA h2 Z Z λ Xu h2=>nx 2 Z Bz)
     exact uw
    refine nx 5 Z (fD [66,67] h3 Z (λ c59 h3=>?_) λ c59 h3=>?_)
    ·exact nx 2 Z (oS Z Z (nx 2 Z kD))
    exact nx 5 Z kD
   refine nx 1 Z (bd h3 λ o82 h4 h3=>kN o82 (λ v83=>⟨[(0,.ptr 1000000 0),(1,.p (eI Pn)),(5,.p (eI open35)),(6,.ptr 6 0),(61,.p (eB v83))],[(6,(ad.cs Sv.1).map .p),(1000000,(ac.cs Sv.2.2).map .p)]⟩) ?_ ?_)
   ·refine nx 1 Z (fB [61] h3 Z (λ c56 h3=>?_) λ c56 h3=>?_)
    ·exact nx 3 Z (oA h3 Z Z λ Ws h3=>nx 2 Z kD)
    exact Bj
   refine nx 5 Z (fD [56,57] h4 Z (λ c54 h4=>?_) λ c54 h4=>?_)
   ·exact nx 2 Z (oS Z Z (nx 2 Z (eX _ (oi h4).symm (gE Z Z))))
   exact nx 5 Z (eX _ (oi h4).symm (gE Z Z))
  exact iY
instance wR (n:Nat):∀ (Rw:ac) (Pn:Int) (r:ad×Bool×ac),HO (aW n Rw Pn=some r) Tryz.prog 55 [.ptr 1000000 0,.p (eI Pn)] [(1000000,(ac.cs Rw).map .p)] (.tuple [.p (.agg (ad.cs r.1)),.p (eB r.2.1)]) ([(1000000,(ac.cs r.2.2).map .p)]):=(my n).1
def eH (n:Nat):Nat->(List ad)->ac->Option (Unit⊕((List ad)×ap))
 | 0,_,_=>none
 | m+1,SC,x26 =>
 (dW n x26).bind λ T8 =>
 (
   (bq T8).bind λ UB =>
   if UB.1=true then
    (dr n UB.2).bind λ Ti =>
    some (!Ti.1,Ti.2)
   else
    some (false,UB.2)
  ).bind λ q49 =>
 if q49.1=true then
  some (.inr ([],(ap.mk 2 q49.2.fat ([]:Bytes))))
 else
  if (SC.length:Int)=16384 then
   some (.inr ([],(ap.mk 14 q49.2.fat ([]:Bytes))))
  else
   (bq q49.2).bind λ Tg =>
   if (!Tg.1)=true then
    ck ((SC.length+([(ad.mk 6 ([]:Bytes) Tg.2.fat)]).length)*32<=140737488355328) <|
    some (.inr (SC++([(ad.mk 6 ([]:Bytes) Tg.2.fat)]),(ap.mk 0 0 ([]:Bytes))))
   else
    (aW n Tg.2 0).bind λ Tf =>
    if (!Tf.2.1)=true then
     some (.inr ([],Tf.2.2.AT))
    else
     ck ((SC.length+[Tf.1].length)*32<=140737488355328) <|
     eH n m (SC++[Tf.1]) Tf.2.2
def lw (n:Nat)(Mr:Bytes):Option ((List ad)×ap) :=
 if 65536 < (Mr.length:Int) then
  some ([],(ap.mk 3 0 ([]:Bytes)))
 else
  (jE Mr).bind λ r2 =>
  jn (eH n n [] r2) λ _q48 =>
  none
instance Ks (n:Nat) (Mr:Bytes):∀ (r:(List ad)×ap),HP (lw n Mr=some r) Tryz.prog 25 [eS Mr] (.tuple [.p (eL cM r.1),.p (.agg (ap.cs r.2))]):=by
 refine hP good Tryz.func25 Z Z λ r h0 _ w0=>?_;unfold lw at h0;refine nx 9 Z (oLs Z (nx 2 Z (fD [10] h0 Z (λ c1 h0=>?_) λ c1 h0=>?_)))
 ·exact S0
 refine nx 5 rfl (bd h0 λ r2 e3 h0=>mO rfl (a8 [] [] 101000 101001 (oU Mr _ e3) Z Z Z Z Z ⟨sr,trivial⟩ Z Z trivial Z Z Z Z Z Z Z Z Tryz.call51 rfl (ar rfl (au _) rfl) (nx 7 rfl ?_)));obtain ⟨o50,h1,Sl,hR0⟩:=cm h0;refine kEx 0 (λ v51:Unit=>o50=.inl v51) (λ v51=>⟨[],[]⟩) (λ v51 hv=>?_) ?_
 ·exact Bn
 refine lG (λ (Xc:(List ad)×ac)=>⟨[(3,.ptr 3 0),(4,.ptr 101000 0),(5,.vec 62 3 0 (Xc.1.map cM))],[(3,mZ),(101000,(ac.cs Xc.2).map .p)]⟩) (λ m (Xc:(List ad)×ac)=>eH n m Xc.1 Xc.2) Y ([],r2) h1 (fb (nS ⟨er rfl,er rfl,⟨_,rfl,AV.sub_nilvec _ _ _⟩,trivial⟩ ⟨⟨_,rfl,⟨sr,sr,sr,trivial⟩⟩,⟨_,rfl,aN _⟩,trivial⟩)) ?_;rintro m ⟨SC,x26⟩ h1;replace h1:eH n (m+1) SC x26=some o50:=h1;rw [eH] at h1;refine nx 4 rfl (bd h1 λ T8 XG h1=>mO rfl (a8 [101000] [] 107000 107000 (HO.c XG) rfl rfl rfl rfl rfl ⟨sr,trivial⟩ rfl (ar rfl (au _) rfl) ⟨⟨_,rfl,aN _⟩,trivial⟩ rfl rfl rfl rfl rfl rfl rfl rfl Tryz.call52 rfl (ar rfl (au _) rfl) (nx 3 rfl (bd h1 λ UD h2 h1=>kN UD (λ v54=>⟨[(3,.ptr 3 0),(4,.ptr 101000 0),(5,.vec 62 3 0 (SC.map cM)),(22,.p (eB v54.1))],[(3,mZ),(101000,(ac.cs v54.2).map .p)]⟩) ?_ ?_))))
 ·refine nx 1 Z (fB [22] h1 Z (λ WK h1=>?_) λ WK h1=>?_)
  ·exact nx 2 Z (mG I8 (mSq ⟨1,[6],(λ _=>.none),(λ _=>[(3,.ptr 3 0),(4,.ptr 101000 0)]),(ob2 ([(3,mZ),(101000,(ac.cs UD.2).map .p)]) (3,[.p (eI 2),.p (eI UD.2.fat),.p (eS ([]:Bytes))]))⟩ Z (dPc (.ptr 101000 0) Z (dPc (.ptr 101000 0) Z (dPc (.ptr 101000 1) Z (dPc (.p (eI UD.2.fat)) Z (dPc (.p (.agg [eI 2,eI UD.2.fat,eS ([]:Bytes)])) Z AP)))))))
  refine nx 6 Z (oLl (f:=cM) Z Z (nx 2 Z (fD [30] h1 Z (λ c37 h1=>?_) λ c37 h1=>?_)))
  ·exact nx 2 Z (mG I8 (mSq ⟨1,[6],(λ _=>.none),(λ _=>[(3,.ptr 3 0),(4,.ptr 101000 0)]),(ob2 ([(3,mZ),(101000,(ac.cs UD.2).map .p)]) (3,[.p (eI 14),.p (eI UD.2.fat),.p (eS ([]:Bytes))]))⟩ Z (dPc (.ptr 101000 0) Z (dPc (.ptr 101000 0) Z (dPc (.ptr 101000 1) Z (dPc (.p (eI UD.2.fat)) Z (dPc (.p (.agg [eI 14,eI UD.2.fat,eS ([]:Bytes)])) Z AP)))))))
  refine nx 6 Z (bd h1 λ Tg XD h1=>mO Z (a8 [101000] [] 110000 110000 (HO.c XD) Z Z Z Z Z ⟨sr,trivial⟩ Z (ar Z (au _) Z) ⟨⟨_,Z,aN _⟩,trivial⟩ Z Z Z Z Z Z Z Z Tryz.call53 Z (ar Z (au _) Z) (nx 2 Z (fB [38] h1 Z (λ XK h1=>?_) λ XK h1=>?_))))
  ·refine nx 7 Z (mO Z (aP Z Z Z Z Z Z Z (ac.g_at _) ?_));refine nx 1 Z (mO Z (bp cM [(ad.mk 6 ([]:Bytes) Tg.2.fat)] Z Z Z Z Z Z Z Z Z Z Z Z Z JJ ?_));refine cc' h1 λ Tt h1=>mO Z (ii cM SC ([(ad.mk 6 ([]:Bytes) Tg.2.fat)]) Z Z Z Z Z Z Z Z Z Z Z Z Z (λ x=>congrArg List.length (ad.It x)) Z Z Z Z Tt ?_);refine mG (yU (show kO _ _=_ from pF)) (nx 5 Z ?_);exact mQ (hR0 _ (oi h1).symm) Z (mI ⟨AV.sub_vec _ _ _ _,sr,trivial⟩)
  refine nx 5 Z (bd h1 λ Tf e43 h1=>mO Z (a8 [101000] [] 111000 111000 (HO.c e43) Z Z Z Z Z ⟨sr,sr,trivial⟩ Z (ar Z (au _) Z) ⟨⟨_,Z,aN _⟩,trivial⟩ Z Z Z Z Z Z Z Z Tryz.call55 Z (ar Z (au _) Z) (nx 3 Z (mO Z (gX Z Z Z Z Z ?_)))));refine mG (me (show kO _ _=_ from pF)) (nx 9 Z ?_);refine fB [54] h1 Z (λ c44 h1=>?_) λ c44 h1=>?_
  ·exact nx 2 Z (mG (gE (t:=⟨[(3,.ptr 3 0),(4,.ptr 101000 0)],[(3,mZ),(101000,(ac.cs Tf.2.2).map .p)]⟩) Z Z) (mSq ⟨1,[5],(λ _=>.none),(λ _=>[(3,.ptr 3 0),(4,.ptr 101000 0)]),(ob2 ([(3,mZ),(101000,(ac.cs Tf.2.2).map .p)]) (3,((ap.cs Tf.2.2.AT).map .p)))⟩ Z (dPc (.ptr 101000 0) Z (dPc (.ptr 101000 0) Z (dPc (.ptr 101000 259) Z (co (λ _=>.p (.agg (ap.cs Tf.2.2.AT))) Z Z Z (kS Z Y) (lt1 Z) (cP Z (cp [(57,_)] ⟨.inr ⟨2,_,Z,Z,Z⟩,trivial⟩ (λ sl OF K hK=>ak Z (EJ Z Z Z Z Z (OF _ _ Z) Z (ac.l_bad _) (ac.g_bad _) hK)) cF)) AP))))))
  refine nx 5 Z (mO Z (bp cM [Tf.1] Z Z Z Z Z Z Z Z Z Z Z Z Z JJ ?_));refine cc' h1 λ Ww h1=>mO Z (ii cM SC [Tf.1] Z Z Z Z Z Z Z Z Z Z Z Z Z (λ x=>congrArg List.length (ad.It x)) Z Z Z Z Ww ?_);refine mG (yU (show kO _ _=_ from pF)) (nx 2 Z ?_);exact eX (SC++[Tf.1],Tf.2.2) h1 (gE Z Z)
 refine nx 2 Z (bd h2 λ UB e30 h2=>mO Z (a8 [101000] [] 108000 108000 (HO.c e30) Z Z Z Z Z ⟨sr,trivial⟩ Z (ar Z (au _) Z) ⟨⟨_,Z,aN _⟩,trivial⟩ Z Z Z Z Z Z Z Z Tryz.call53 Z (ar Z (au _) Z) (nx 1 Z (fB [17,18] h2 Z (λ Vg h2=>?_) λ Vg h2=>?_))))
 ·exact nx 1 Z (bd h2 λ Ti XF h2=>mO Z (a8 [101000] [] 109000 109000 (HO.c XF) Z Z Z Z Z ⟨sr,trivial⟩ Z (ar Z (au _) Z) ⟨⟨_,Z,aN _⟩,trivial⟩ Z Z Z Z Z Z Z Z Tryz.call54 Z (ar Z (au _) Z) (nx 3 Z Bz)))
 exact nx 5 Z Bz
end Go.Ab.R06
end
