/- Texts of the proof, one behind the other. No statement is proved here. -/
import Derived.Lib.AppendZeros
import Derived.Lib.OthersKept
import Derived.Defers
import Derived.Lib.MapLaws
import Derived.Lib.ValidLaws
import Derived.Test.YtihghalcmfpnaaaGreatDoorZ14Ta
import Derived.Test.YtihghalcmfpnaaaGreatDoorZ14Tb
set_option maxHeartbeats 4000000
section
namespace Go.Ab
section
variable {C:Cx} {o:Oper} {K:AS->Prop} {sl:List (Nat×AV)} {ob:List (Nat×List AV)} {d:Nat}
end
theorem NH (D:Nat->Bool):∀ (l:List PV),dmC D (l.map .p)=some (l.map .p)
 | []=>rfl
 | x::r=>by
  have h:=NH D r;simp only [la,dmC,AV.dem,h]
  first | rfl | (simp [frc])
theorem LI {D:Nat->Bool}{i:Nat}{l:List PV}{r r':List (Nat×List AV)}(h:D i=false)(hr:dmO D r=some r'):dmO D ((i,l.map .p)::r)=some ((i,l.map .p)::r'):=by
 simp only [dmO,h,NH,hr]
theorem Ib {D:Nat->Bool}{i:Nat}{cs:List AV}{r r':List (Nat×List AV)}(h:D i=true)(hr:dmO D r=some r'):dmO D ((i,cs)::r)=some r':=by
 simp only [dmO,h,hr]
theorem Nq {D:Nat->Bool}{i:Nat}{cs ds:List AV}{r r':List (Nat×List AV)}(h:D i=false)(hc:dmC D cs=some ds)(hr:dmO D r=some r'):dmO D ((i,cs)::r)=some ((i,ds)::r'):=by
 simp only [dmO,h,hc,hr]
section
variable {C:Cx} {o:Oper} {K:AS->Prop} {sl:List (Nat×AV)} {ob:List (Nat×List AV)} {d:Nat}
end
end Go.Ab
end
section
namespace Go.Ab
section
variable {C:Cx} {o:Oper} {K:AS->Prop} {sl:List (Nat×AV)} {ob:List (Nat×List AV)} {d:Nat}
end
end Go.Ab
end
section
namespace Go.Ab
section
variable {p:Prop}
theorem GW (h:p:=by
 have e1:(dr (λ i=>Nat.beq i d) ⟨sl,ob⟩).sl=sl':=(uf h1).symm;have e2:(dr (λ i=>Nat.beq i d) ⟨sl,ob⟩).ob=ob':=(ss h2).symm
 rw [e1,e2]; exact hK):p:=h
end
@[irreducible] def td (n:Nat):List UInt8:=List.replicate n 0
section
variable {C:Cx} {o:Oper} {K:AS->Prop} {sl:List (Nat×AV)} {ob:List (Nat×List AV)} {d:Nat}
theorem v6 {α:Type} [Inhabited α] (f:α->PV)(l:List α){t m e:Nat}{x y:Operand}{i ie:TI}{k:IntKind}{n:Int}(ho:o.op=.index t x y)(hd:o.dst=some d)(hn:Nat.blt d C.n=true)
  (hi:look C.tt t=some i) (Tb:i.k=.array m e) (hie:look C.tt e=some ie) (hia:ie.k.isAgg=false) (hs1:ie.size=1) (hm:Nat.beq m l.length=true) (hx:evo sl x=some (.p (.agg (l.map f))))
  (hy:evo sl y=some (.p (.val (.int k n)))) (hb:0<=n/\n < (l.length:Int)) (hK:K ⟨(d,.p (f (lat l n)))::sl,ob⟩):bg C o K ⟨sl,ob⟩:=by
 obtain ⟨u,h1,h2⟩:=bU C.good hi;have h3:=qu (h2.trans Tb);subst h3;have hm':=dg hm;refine ok_one hd hn (λ g a w hs=>?_) hK;have h5:=bP hs hx;generalize hv:a.eval x=v at h5
 cases h5 with
 | p h5 =>
  cases h5 with
  | agg hl hh =>
   rename_i vs;have hlt:n.toNat < l.length:=by omega
   have hlt2:n.toNat < vs.size:=by rw [hl]; simpa using hlt
   have hnm:n < (m:Int):=by omega
   refine ⟨vs[n.toNat],by simp [execOp,ho,hv,b7 hs hy,Instr.index,asIntOf,run_underlying h1,hb.1,hnm,run_sizeOf C.good hie,hs1,part,lQ C.good hie,hia,hlt2],.p (hh n.toNat (f (lat l n)) _ ?_ (Array.getElem?_eq_getElem hlt2))⟩;simp [lat,List.getElem?_map,List.getElem?_eq_getElem hlt,List.getD_eq_getElem?_getD]
theorem aV {t:TypeId}{x:Operand}{i:TI}{id k:Nat}{cs:List AV}{y:AV}(ho:o.op=.load t x)(hd:o.dst=some d)(hn:Nat.blt d C.n=true)
  (hi:look C.tt t=some i) (hia:i.k.isAgg=false) (hx:evo sl x=some (.ptr id k)) (hob:look ob id=some cs) (hy:cs[k]? = some y) (hK:K ⟨(d,y)::sl,ob⟩):bg C o K ⟨sl,ob⟩ :=
 sb ho hd hn hi hia hx hob hy hK
theorem Et {t:TypeId}{x:Operand}{i:TI}{id k:Nat}{cs:List AV}{y:AV}(ho:o.op=.load t x)(hd:o.dst=some d)(hn:Nat.blt d C.n=true)
  (hi:look C.tt t=some i) (hia:i.k.isAgg=true) (hx:evo sl x=some (.ptr id k)) (hob:look ob id=some cs) (hl:Nat.ble (k+i.size) cs.length=true) (hy:mb ((cs.drop k).take i.size)=y)
  (hK:K ⟨(d,y)::sl,ob⟩):bg C o K ⟨sl,ob⟩:=pR ho hd hn hi hia hx hob hl (congrArg some hy) hK
theorem gx {t:TypeId}{x v:Operand}{i:TI}{id k:Nat}{cs xs ds:List AV}{y:AV}(ho:o.op=.store t x v)(hd:o.dst=none)
  (hi:look C.tt t=some i) (hx:evo sl x=some (.ptr id k)) (hv:evo sl v=some y) (hc:y.cellsA=some xs) (SS:Nat.beq xs.length i.size=true) (hob:look ob id=some cs) (hl:k+xs.length<=cs.length) (hu:nr cs k xs=ds)
  (hK:K ⟨sl,(id,ds)::ob⟩):bg C o K ⟨sl,ob⟩:=by
 subst hu;exact nW ho hd hi hx hv hc (dg SS) hob hl hK
theorem vN {α:Type}(f:α->PV)(hf:∀ x,(f x).one=true):∀ l:List α,AV.onesB ((l.map f).map .p)=true
 | []=>rfl
 | x::r=>by simp only [la,AV.onesB,AV.one,hf x,vN f hf r,Bool.and_self]
theorem wo {α:Type}(f:α->PV)(l:List α){t:TypeId}{i:TI}{sl':List (Nat×AV)}{ob':List (Nat×List AV)}(hf:∀ x,(f x).one=true)(ho:o.op=.alloc t)(hd:o.dst=some d)(hn:Nat.blt d C.n=true)
  (hi:look C.tt t=some i) (hz:fg i=(l.map f).map .p) (h1:dmS (λ i=>Nat.beq i d) sl=some sl') (h2:dmO (λ i=>Nat.beq i d) ob=some ob') (hK:K ⟨(d,.ptr d 0)::sl',(d,(l.map f).map .p)::ob'⟩):bg C o K ⟨sl,ob⟩:=by
 refine iQ ho hd hn hi ?_ ?_
 ·rw [hz]; simp only [AV.cellsA,vN f hf l,cond_true]
 ·rw [hz,wW];exact GW
theorem MF (cs:List PV){t:TypeId}{v:Operand}{sl':List (Nat×AV)}{ob':List (Nat×List AV)}(ho:o.op=.box t v)(hd:o.dst=some d)(hn:Nat.blt d C.n=true)(hx:evo sl v=some (.p (.agg cs)))(h0:PV.onesB cs=true)
  (h1:dmS (λ i=>Nat.beq i d) sl=some sl') (h2:dmO (λ i=>Nat.beq i d) ob=some ob') (hK:K ⟨(d,.ptr d 0)::sl',(d,cs.map .p)::ob'⟩):bg C o K ⟨sl,ob⟩:=by
 refine Ci ho hd hn hx (cs:=cs.map .p) (by simp only [AV.cellsA,h0,cond_true]) ?_;rw [wW];exact GW
theorem Er {α:Type}(f:α->PV)(l:List α){t:TypeId}{x:Operand}{i:TI}{id:Nat}(ho:o.op=.load t x)(hd:o.dst=some d)(hn:Nat.blt d C.n=true)
  (hi:look C.tt t=some i) (hia:i.k.isAgg=true) (hx:evo sl x=some (.ptr id 0)) (hob:look ob id=some ((l.map f).map .p)) (hl:Nat.beq i.size l.length=true)
  (hK:K ⟨(d,.p (.agg (l.map f)))::sl,ob⟩):bg C o K ⟨sl,ob⟩:=by
 have hl':=dg hl;refine pR ho hd hn hi hia hx hob (by simp [hl']) (y:=.p (.agg (l.map f))) (congrArg some ?_) hK
 have e:(((l.map f).map AV.p).drop 0).take i.size=(l.map f).map AV.p:=by
  rw [List.drop_zero,hl']; exact List.take_of_length_le G
 rw [e]
 have ha:∀ q:List PV,xP (q.map .p)=some q:=by
  intro q
  induction q with
  | nil=>rfl
  | cons x r ih=>simp only [la,xP,ih]
 simp only [mb,ha]
theorem uF:∀ q:List PV,xP (q.map .p)=some q
 | []=>rfl
 | x::r=>by simp only [la,xP,uF r]
theorem M6 {α:Type}(f:α->PV)(l:List α){tt:List (Nat×TI)}{rs:List ResultVar}{s:AS}{c id:Nat}{t:TypeId}{i:TI}(hr:rs=[.cell c t])(hc:look s.sl c=some (.ptr id 0))(hob:look s.ob id=some ((l.map f).map .p))(hi:look tt t=some i)(hia:i.k.isAgg=true)
  (hl:Nat.beq i.size l.length=true):mj tt rs s=some [.p (.agg (l.map f))]:=by
 have hl':=dg hl;subst hr
 have e:(((l.map f).map AV.p).drop 0).take i.size=(l.map f).map AV.p:=by
  rw [List.drop_zero,hl']; exact List.take_of_length_le G
 have e2:Nat.ble (0+i.size) ((l.map f).map AV.p).length=true:=by simp [hl']
 simp only [mj,hc,hob,hi,hia,cond_true,e,e2,mb,uF]
theorem Ao {α:Type}(f:α->PV)(l l2:List α){t:TypeId}{x v:Operand}{i:TI}{id:Nat}(ho:o.op=.store t x v)(hd:o.dst=none)
  (hi:look C.tt t=some i) (hx:evo sl x=some (.ptr id 0)) (hv:evo sl v=some (.p (.agg (l2.map f)))) (hob:look ob id=some ((l.map f).map .p)) (hf:∀ x,(f x).one=true) (hl:Nat.beq i.size l.length=true) (hl2:Nat.beq i.size l2.length=true)
  (hK:K ⟨sl,(id,(l2.map f).map .p)::ob⟩):bg C o K ⟨sl,ob⟩:=by
 have e1:=dg hl;have e2:=dg hl2
 have ho1:∀ q:List α,PV.onesB (q.map f)=true:=by
  intro q
  induction q with
  | nil=>rfl
  | cons x r ih=>simp only [la,PV.onesB,hf x,ih,Bool.and_self]
 refine gx (xs:=(l2.map f).map .p) ho hd hi hx hv (by simp only [AV.cellsA,ho1 l2,cond_true]) (by simp [e2]) hob fk ?_ hK;unfold nr;split
 ·rename_i y hy;have h3:=congrArg List.length hy;simp only [List.length_map,aq,n8] at h3;rw [hy]
  match l,e1 with
  | [z],_=>rfl
  | [],e1=>simp at e1; omega
  | _::_::_,e1=>simp at e1; omega
 ·rw [List.take_zero,List.nil_append,List.drop_eq_nil_of_le fk,List.append_nil]
theorem H0 {t:TypeId}{x:Operand}{s:List UInt8}{i:TI}{sl':List (Nat×AV)}{ob':List (Nat×List AV)}(ho:o.op=.range t x)(hd:o.dst=some d)(hn:Nat.blt d C.n=true)
  (hi:look C.tt t=some i) (Tb:i.k=.string) (hx:evo sl x=some (.p (.val (.string ⟨s.toArray⟩)))) (h1:dmS (Nat.beq · d) sl=some sl') (h2:dmO (Nat.beq · d) ob=some ob')
  (hK:K ⟨(d,.it d s 0)::sl',ob'⟩):bg C o K ⟨sl,ob⟩:=by
 obtain ⟨u,hu1,hu2⟩:=bU C.good hi;have h3:=ii (hu2.trans Tb);subst h3;intro g a w hs;have hdl:d < M1:=by have h1:=sm C.nl; have h2:d < C.n:=n7 ▸ hn; omega
 unfold Oper.wp
 have hrun:(execOp a.eval o).run C.P w=.ok (.value (.pointer (some ⟨w.heap.size,0,none⟩))) (w.alloc (.stringIter ⟨s.toArray⟩ 0)):=by
  simp [execOp,ho,Instr.range,b7 hs hx,run_underlying hu1,newObj,Sem.run,Result.andThen]
 rw [hrun];obtain ⟨g',hg'⟩:∃ g':Gh,g'=⟨λ b o=>g.st b o\/(b=w.heap.size/\o=0),λ i=>if i=d then some w.heap.size else g.ow i⟩:=⟨_,rfl⟩
 have SS:(w.alloc (.stringIter ⟨s.toArray⟩ 0)).heap.size=w.heap.size+1:=by simp
 have S4:Ev w g.st (w.alloc (.stringIter ⟨s.toArray⟩ 0)) g'.st:=λ b o h=>⟨by rw [hg']; exact .inl h,World.cell?_alloc_lt w _ _ (hs.lt b o h)⟩
 have hs':St C.n C.w0 C.F g' (dr (Nat.beq · d) ⟨sl,ob⟩) a (w.alloc (.stringIter ⟨s.toArray⟩ 0)):=by
  subst hg';refine hs.evolve (Nat.beq · d) (G7 hdl) S4 (λ id b hD h=>?_) (λ i j b hi hj=>?_) (λ i b hi=>?_) (λ b o h=>?_) (λ b hb=>?_) Z Z Z O (λ b hb o=>?_) (λ i hi=>?_)
  ·have Tc:id≠d:=λ e=>by subst e; simp at hD
   have hlt:=(hs.own id b h).1;exact ⟨by simp only [if_neg Tc]; exact h,fe hlt,λ o h=>h.resolve_right λ e=>by omega⟩
  ·dsimp only at hi hj;by_cases e1:i=d <;> by_cases e2:j=d
   ·omega
   ·rw [if_pos e1] at hi; rw [if_neg e2] at hj; cases hi; have:=(hs.own j _ hj).1; omega
   ·rw [if_neg e1] at hi; rw [if_pos e2] at hj; cases hj; have:=(hs.own i _ hi).1; omega
   ·rw [if_neg e1] at hi; rw [if_neg e2] at hj; exact hs.inj i j b hi hj
  ·dsimp only at hi;by_cases e1:i=d
   ·rw [if_pos e1] at hi; cases hi;exact ⟨by omega,λ hF=>by have:=hs.fl _ hF; have:=hs.size; omega⟩
   ·rw [if_neg e1] at hi; have:=hs.own i b hi; exact ⟨by omega,this.2⟩
  ·rcases h with h | h
   ·have:=hs.lt b o h; omega
   ·omega
  ·exact fe (by have:=hs.fl b hb; have:=hs.size; omega)
  ·have h1:=hs.fl b hb;have h2:=hs.size;exact ⟨λ h=>h.resolve_right λ e=>by omega,.inl⟩
  ·dsimp only;rw [if_neg O]
 refine ⟨g',⟨(d,.it d s 0)::sl',ob'⟩,?_,hK⟩
 have hp:=hs'.put (d:=o.dst) (λ t ht=>by rw [hd] at ht; cases ht; exact n7 ▸ hn) (x:=.it d s 0) (v:=.pointer (some ⟨w.heap.size,0,none⟩))
  (.it (by rw [hg']; simp) iB (by rw [hg']; exact .inr ⟨Z,Z⟩))
 rw [hd] at hp ⊢;rw [uf h1,ss h2];exact hp
theorem yp {n:Nat}{w0:Base}{w:World}{F:Nat->Prop}{g:Gh}{s:AS}{a:Act}(_hs:St n w0 F g s a w){tok pos:Nat}{l:List UInt8}{v:Value}(h:ARep w g (.it tok l pos) v) :
  ∃ b,v=.pointer (some ⟨b,0,none⟩)/\g.ow tok=some b/\w.heap[b]? = some (.stringIter ⟨l.toArray⟩ pos)/\g.st b 0:=by
 cases h with
 | it how hb hm=>exact ⟨_,Z,how,hb,hm⟩
theorem Gx {x:Operand}{s:List UInt8}{tok pos:Nat}(ho:o.op=.next x true)(hd:o.dst=some d)(hn:Nat.blt d C.n=true)
  (hx:evo sl x=some (.it tok s pos)) (hp:¬ pos < s.length) (hK:K ⟨(d,.tuple [.p (eB false)])::sl,ob⟩):bg C o K ⟨sl,ob⟩:=by
 refine ok_one hd hn (λ g a w hs=>?_) hK;obtain ⟨b,hv,_,hb,_⟩:=yp hs (bP hs hx);refine ⟨.tuple #[.bool false],?_,.tuple rfl λ i c v h1 h2=>?_⟩
 ·have SS:¬ pos < (⟨s.toArray⟩:ByteArray).size:=by simpa [ByteArray.size] using hp
  have:=Go.Lib.run_next_end_at (P:=C.P) w b ⟨s.toArray⟩ pos o.type hb SS;simp [execOp,ho,hv,this]
 ·match i,h1,h2 with
  | 0,h1,h2=>simp at h1 h2; subst h1 h2; exact .p (.val _)
theorem Ic {j:Nat}{s:List UInt8}{tok pos:Nat}{sl':List (Nat×AV)}{ob':List (Nat×List AV)}(ho:o.op=.next (.tmp j) true)(hd:o.dst=some d)(hn:Nat.blt d C.n=true)(hj:Nat.blt j C.n=true)
  (hx:evo sl (.tmp j)=some (.it tok s pos)) (htok:Nat.blt tok M1=true) (hp:pos < s.length) (ha:(s.getD pos 0).toNat < 128) (h1:dmS (Nat.beq · tok) sl=some sl') (h2:dmO (Nat.beq · tok) ob=some ob')
  (_hdj:Nat.beq d j=false) (hK:K ⟨(d,.tuple [.p (eB true),.p (eI (pos:Int)),.p (eK .i32 ((s.getD pos 0).toNat:Int))])::(j,.it tok s (pos+1))::sl',ob'⟩):bg C o K ⟨sl,ob⟩:=by
 intro g a w hs;obtain ⟨b,hv,how,hb,hm⟩:=yp hs (bP hs hx);have htl:tok < M1:=n7 ▸ htok;have hbl:=(hs.own tok b how).1;unfold Oper.wp;have SS:pos < (⟨s.toArray⟩:ByteArray).size:=by simpa [ByteArray.size] using hp
 have hg0:(⟨s.toArray⟩:ByteArray)[pos]'SS=s.getD pos 0:=by
  rw [List.getD_eq_getElem?_getD,List.getElem?_eq_getElem hp]; rfl
 have hnx:=Go.Lib.run_next_ascii_at (P:=C.P) w b ⟨s.toArray⟩ pos o.type hb SS (by rw [hg0]; exact ha);rw [hg0] at hnx
 have hrun:(execOp a.eval o).run C.P w=.ok (.value (.tuple #[.bool true,.int .i64 pos,.int .i32 (s.getD pos 0).toNat])) (w.iterAt b ⟨s.toArray⟩ (pos+1)):=by
  simp [execOp,ho,hv,hnx]
 rw [hrun]
 have hheap:∀ b',b'≠b->(w.iterAt b ⟨s.toArray⟩ (pos+1)).heap[b']? = w.heap[b']?:=λ b' Tc=>by
  simp only [World.iterAt,Array.getElem?_setIfInBounds];rw [if_neg O]
 have hheapb:=Go.Lib.iterAt_heap w b ⟨s.toArray⟩ pos (pos+1) hb;have hwsz:(w.iterAt b ⟨s.toArray⟩ (pos+1)).heap.size=w.heap.size:=by simp [World.iterAt]
 have SY:∀ b' o',(w.iterAt b ⟨s.toArray⟩ (pos+1)).cell? ⟨b',o',none⟩=w.cell? ⟨b',o',none⟩:=λ b' o'=>by
  by_cases e:b'=b
  ·subst e;simp only [World.cell?,hheapb,hb]
  ·simp only [World.cell?,hheap b' e]
 have hs':St C.n C.w0 C.F g (dr (Nat.beq · tok) ⟨sl,ob⟩) a (w.iterAt b ⟨s.toArray⟩ (pos+1)):=by
  refine hs.evolve (Nat.beq · tok) (G7 htl) (λ b' o' h=>⟨h,SY b' o'⟩) (λ id b' hD h=>⟨h,hheap b' λ e=>?_,λ o h=>h⟩) hs.inj (λ i b' h=>by rw [hwsz]; exact hs.own i b' h) (λ b' o' h=>by rw [hwsz]; exact hs.lt b' o' h) (λ b' hb'=>hheap b' λ e=>?_) Z Z Z O (λ b' _ o'=>Iff.rfl) (λ i _=>rfl)
  ·subst e;have:=hs.inj id tok b' h how;subst this;simp at hD
  ·subst e;exact (hs.own tok b' how).2 hb'
 have hjd:j < C.n:=n7 ▸ hj;refine ⟨g,⟨(d,.tuple [.p (eB true),.p (eI (pos:Int)),.p (eK .i32 ((s.getD pos 0).toNat:Int))])::(j,.it tok s (pos+1))::sl',ob'⟩,?_,hK⟩
 have hs2:St C.n C.w0 C.F g ⟨(j,.it tok s (pos+1))::sl',ob'⟩ a (w.iterAt b ⟨s.toArray⟩ (pos+1)):=by
  rw [uf h1,ss h2];refine { hs' with sl:=λ i=>?_ };simp only [AS.get,aX];by_cases e:j=i
  ·subst e;rw [if_pos rfl];simp only [ro];have:a.eval (.tmp j)=a.tmps.getD j Go.undef:=rfl;rw [<- this,hv];exact .it how hheapb hm
  ·rw [if_neg e];exact hs'.sl i
 have hp2:=hs2.put (d:=o.dst) (λ t ht=>by rw [hd] at ht; cases ht; exact n7 ▸ hn) (x:=.tuple [.p (eB true),.p (eI (pos:Int)),.p (eK .i32 ((s.getD pos 0).toNat:Int))]) (v:=.tuple #[.bool true,.int .i64 pos,.int .i32 (s.getD pos 0).toNat])
  (.tuple Z λ i c v h1 h2=>by
   match i,h1,h2 with
   | 0,h1,h2=>simp at h1 h2; subst h1 h2; exact .p (.val _)
   | 1,h1,h2=>simp at h1 h2; subst h1 h2; exact .p (.val _)
   | 2,h1,h2=>simp at h1 h2; subst h1 h2; exact .p (.val _))
 rw [hd] at hp2 ⊢;exact hp2
end
end Go.Ab
end
section
namespace Go.Ab
section
variable {p:Prop}
theorem ya (h:p:=by rw [ab.hd_len]; decide):p:=h
end
def iY:List UInt8:=[0,0,0,0,0,0,0,0,0,1,6,0,0,1,0,0,0,0,0,0,0,0,0,0,0,0,0,0,0,0,0,0,1,4,5,7,0,4,4,0,4,4,4,4,4,4,4,4,3,3,3,3,3,3,3,3,3,3,4,0,4,4,4,4,0,2,2,2,2,2,2,2,2,2,2,2,2,2,2,2,2,2,2,2,2,2,2,2,2,2,2,4,0,4,0,2,0,2,2,2,2,2,2,2,2,2,2,2,2,2,2,2,2,2,2,2,2,2,2,2,2,2,2,4,4,4,0,0,0,0,0,0,0,0,0,0,0,0,0,0,0,0,0,0,0,0,0,0,0,0,0,0,0,0,0,0,0,0,0,0,0,0,0,0,0,0,0,0,0,0,0,0,0,0,0,0,0,0,0,0,0,0,0,0,0,0,0,0,0,0,0,0,0,0,0,0,0,0,0,0,0,0,0,0,0,0,0,0,0,0,0,0,0,0,0,0,0,0,0,0,0,0,0,0,0,0,0,0,0,0,0,0,0,0,0,0,0,0,0,0,0,0,0,0,0,0,0,0,0,0,0,0,0,0,0,0]
theorem yk:iY.length=256:=by kernel_rfl
def FU:List PV:=iY.map eU
theorem lY:FU.length=256:=by rw [FU,List.length_map,yk]
structure ab where
 fs:Bytes
 fat:Int
 IS:Int
 AT:ao
 deriving Inhabited
def ab.cs (x:ab):List PV:=eS x.fs::eI x.fat::(FU++[eI x.IS,eI x.AT.Ar,eI x.AT.fAt,eS x.AT.AI])
theorem ab.len (x:ab):((ab.cs x).map AV.p).length=262:=by simp [ab.cs,lY]
theorem ab.g_s (x:ab):((ab.cs x).map AV.p)[0]? = some (.p (eS x.fs)):=rfl
theorem ab.g_at (x:ab):((ab.cs x).map AV.p)[1]? = some (.p (eI x.fat)):=rfl
theorem ab.g_outer (x:ab):((ab.cs x).map AV.p)[2+256]? = some (.p (eI x.IS)):=by
 simp only [ab.cs,la,List.map_append,List.getElem?_cons_succ];rw [List.getElem?_append_right (by simp [lY])];simp [lY]
theorem ab.g_class (x:ab){n:Int}(h:0<=n/\n < 256):((ab.cs x).map AV.p)[2+n.toNat*1]? = some (.p (eU (lat iY n))):=by
 have hn:n.toNat < 256:=by omega
 have e:2+n.toNat*1=n.toNat+1+1:=by omega
 rw [e];simp only [ab.cs,la,List.map_append,List.getElem?_cons_succ];rw [List.getElem?_append_left (by simp [lY]; omega)];simp [FU,lat,List.getElem?_map,List.getElem?_eq_getElem (show n.toNat < iY.length by rw [yk]; exact hn)]
def ab.hd (x:ab):List AV:=(eS x.fs::eI x.fat::(FU++[eI x.IS])).map .p
theorem ab.hd_len (x:ab):x.hd.length=259:=by simp [ab.hd,lY]
theorem ab.cs_hd (x:ab):(ab.cs x).map AV.p=x.hd++(ao.cs x.AT).map .p:=by
 simp [ab.cs,ab.hd,ao.cs]
theorem ab.l_bad (x:ab):Nat.ble (2+256+1+3) ((ab.cs x).map AV.p).length=true:=by rw [ab.len]; rfl
theorem ab.g_bad (x:ab):mb ((((ab.cs x).map AV.p).drop (2+256+1)).take 3)=.p (.agg (ao.cs x.AT)):=by
 rw [ab.cs_hd,List.drop_append_of_le_length ya,List.drop_eq_nil_of_le ya]
 rfl
theorem ab.b_at (x:ab):1+1<=((ab.cs x).map AV.p).length:=by rw [ab.len]; decide
theorem ab.b_outer (x:ab):2+256+1<=((ab.cs x).map AV.p).length:=by rw [ab.len]; decide
theorem ab.b_bad (x:ab):2+256+1+3<=((ab.cs x).map AV.p).length:=by rw [ab.len]; decide
theorem ab.u_at (x:ab){v:Int}:nr ((ab.cs x).map AV.p) 1 [.p (eI v)]=(ab.cs (.mk x.fs v x.IS x.AT)).map .p:=by
 simp only [nr,ab.cs,la,List.set_cons_succ,List.set_cons_zero]
theorem ab.u_outer (x:ab){v:Int}:nr ((ab.cs x).map AV.p) (2+256) [.p (eI v)]=(ab.cs (.mk x.fs x.fat v x.AT)).map .p:=by
 simp only [nr,ab.cs,la,List.map_append,List.set_cons_succ];rw [List.set_append_right _ _ (by simp [lY])];simp [lY]
theorem ab.u_bad (x:ab){k a:Int}{n:Bytes}:nr ((ab.cs x).map AV.p) (2+256+1) [.p (eI k),.p (eI a),.p (eS n)]=(ab.cs (.mk x.fs x.fat x.IS (.mk k a n))).map .p:=by
 have e:nr ((ab.cs x).map AV.p) 259 [.p (eI k),.p (eI a),.p (eS n)]=((ab.cs x).map AV.p).take 259++(ao.cs (.mk k a n)).map .p++((ab.cs x).map AV.p).drop (259+3):=rfl;show nr ((ab.cs x).map AV.p) 259 [.p (eI k),.p (eI a),.p (eS n)]=_;rw [e,ab.cs_hd,ab.cs_hd,List.take_append_of_le_length ya,List.take_of_length_le ya,List.drop_eq_nil_of_le (by rw [ph,ab.hd_len]; simp [ao.cs]),List.append_nil]
 rfl
end Go.Ab
end
section
namespace Go.Ab.R06
open Go.Proofs Go.Ab Go.Ab.RB
section
variable {p:Prop}
theorem xZ (h:p:=by
  exact nx 2 Z (eXi _ (oi h1).symm (gE Z Z))):p:=h
theorem BL (h:p:=by repeat (first | apply LI Z | apply Ib Z | apply Nq Z Z | exact rfl)):p:=h
end
attribute [local irreducible] awp io bg bO cv AV.sub M cZ
def gZ:Nat->Int->(List UInt8)->Option (List UInt8)
 | 0,_,_=>none
 | m+1,c8,l9 =>
 if c8<=122 then
  ck ((0:Int)<=c8/\(c8:Int) < 256) <|
  ck ((c8:Int) < (l9.length:Int)) <|
  ck ((0:Int)<=IntKind.wrap .i32 ((IntKind.wrap .i32 (c8 - 97))+65)/\(IntKind.wrap .i32 ((IntKind.wrap .i32 (c8 - 97))+65):Int) < 256) <|
  ck ((IntKind.wrap .i32 ((IntKind.wrap .i32 (c8 - 97))+65):Int) < ((l9.set c8.toNat (2:UInt8)).length:Int)) <|
  gZ m (IntKind.wrap .i32 (c8+1)) ((l9.set c8.toNat (2:UInt8)).set ((IntKind.wrap .i32 ((IntKind.wrap .i32 (c8 - 97))+65)).toNat) (2:UInt8))
 else
  some l9
def gX:Nat->Int->(List UInt8)->Option (List UInt8)
 | 0,_,_=>none
 | m+1,V2,l24 =>
 if V2<=57 then
  ck ((0:Int)<=V2/\(V2:Int) < 256) <|
  ck ((V2:Int) < (l24.length:Int)) <|
  gX m (IntKind.wrap .i32 (V2+1)) (l24.set V2.toNat (3:UInt8))
 else
  some l24
def gT:Nat->Nat->(List UInt8)->Option (List UInt8)
 | 0,_,_=>none
 | m+1,t37,l38 =>
 if t37 < ([123,125,91,93,40,41,44,61,60,62,43,45,42,47,37,33,38,124,63,58,46]:Bytes).length then
  ck ((([123,125,91,93,40,41,44,61,60,62,43,45,42,47,37,33,38,124,63,58,46]:Bytes).getD t37 0).toNat < 128) <|
  ck ((0:Int)<=((([123,125,91,93,40,41,44,61,60,62,43,45,42,47,37,33,38,124,63,58,46]:Bytes).getD t37 0).toNat:Int)/\(((([123,125,91,93,40,41,44,61,60,62,43,45,42,47,37,33,38,124,63,58,46]:Bytes).getD t37 0).toNat:Int):Int) < 256) <|
  ck ((((([123,125,91,93,40,41,44,61,60,62,43,45,42,47,37,33,38,124,63,58,46]:Bytes).getD t37 0).toNat:Int):Int) < (l38.length:Int)) <|
  gT m (t37+1) (l38.set (((([123,125,91,93,40,41,44,61,60,62,43,45,42,47,37,33,38,124,63,58,46]:Bytes).getD t37 0).toNat:Int).toNat) (4:UInt8))
 else
  some l38
def nh (n:Nat):Option (List UInt8) :=
 (gZ n 97 (td 256)).bind λ l17 =>
 (gX n 48 l17).bind λ l30 =>
 (gT n 0 l30).bind λ l45 =>
 ck ((0:Int)<=95/\(95:Int) < 256) <|
 ck ((95:Int) < (l45.length:Int)) <|
 ck ((0:Int)<=34/\(34:Int) < 256) <|
 ck ((34:Int) < ((l45.set ((95:Int).toNat) (2:UInt8)).length:Int)) <|
 ck ((0:Int)<=35/\(35:Int) < 256) <|
 ck ((35:Int) < (((l45.set ((95:Int).toNat) (2:UInt8)).set ((34:Int).toNat) (5:UInt8)).length:Int)) <|
 ck ((0:Int)<=10/\(10:Int) < 256) <|
 ck ((10:Int) < ((((l45.set ((95:Int).toNat) (2:UInt8)).set ((34:Int).toNat) (5:UInt8)).set ((35:Int).toNat) (7:UInt8)).length:Int)) <|
 ck ((0:Int)<=32/\(32:Int) < 256) <|
 ck ((32:Int) < (((((l45.set ((95:Int).toNat) (2:UInt8)).set ((34:Int).toNat) (5:UInt8)).set ((35:Int).toNat) (7:UInt8)).set ((10:Int).toNat) (6:UInt8)).length:Int)) <|
 ck ((0:Int)<=9/\(9:Int) < 256) <|
 ck ((9:Int) < ((((((l45.set ((95:Int).toNat) (2:UInt8)).set ((34:Int).toNat) (5:UInt8)).set ((35:Int).toNat) (7:UInt8)).set ((10:Int).toNat) (6:UInt8)).set ((32:Int).toNat) (1:UInt8)).length:Int)) <|
 ck ((0:Int)<=13/\(13:Int) < 256) <|
 ck ((13:Int) < (((((((l45.set ((95:Int).toNat) (2:UInt8)).set ((34:Int).toNat) (5:UInt8)).set ((35:Int).toNat) (7:UInt8)).set ((10:Int).toNat) (6:UInt8)).set ((32:Int).toNat) (1:UInt8)).set ((9:Int).toNat) (1:UInt8)).length:Int)) <|
 ck (Nat.beq 256 (((((((l45.set ((95:Int).toNat) (2:UInt8)).set ((34:Int).toNat) (5:UInt8)).set ((35:Int).toNat) (7:UInt8)).set ((10:Int).toNat) (6:UInt8)).set ((32:Int).toNat) (1:UInt8)).set ((9:Int).toNat) (1:UInt8)).set ((13:Int).toNat) (1:UInt8)).length=true) <|
 ck (Nat.beq 256 (td 256).length=true/\Nat.beq 256 (((((((l45.set ((95:Int).toNat) (2:UInt8)).set ((34:Int).toNat) (5:UInt8)).set ((35:Int).toNat) (7:UInt8)).set ((10:Int).toNat) (6:UInt8)).set ((32:Int).toNat) (1:UInt8)).set ((9:Int).toNat) (1:UInt8)).set ((13:Int).toNat) (1:UInt8)).length=true) <|
 some (((((((l45.set ((95:Int).toNat) (2:UInt8)).set ((34:Int).toNat) (5:UInt8)).set ((35:Int).toNat) (7:UInt8)).set ((10:Int).toNat) (6:UInt8)).set ((32:Int).toNat) (1:UInt8)).set ((9:Int).toNat) (1:UInt8)).set ((13:Int).toNat) (1:UInt8))
theorem rT (n:Nat)(r:(List UInt8))(h0:nh n=some r):bO Tryz.prog 84 [] (·=.p (.agg (r.map eU))):=by
 unfold nh at h0;refine K4 good Tryz.func84 Z Z Z λ w0=>mP (λ v:(List UInt8)=>.p (.agg (v.map eU))) ?_;refine nx 2 Z (mO Z (wo eU (td 256) Y Z Z Z Z (by kernel_rfl) Z Z ?_));refine nx 3 Z (mO Z (wo eU (td 256) Y Z Z Z Z (by kernel_rfl) Z BL ?_));refine nx 7 Z (bd h0 λ o65 h1 h0=>?_);refine kE 0 o65 (λ v66=>⟨[(0,.ptr 0 0),(1,.ptr 1 0)],[(0,((td 256).map eU).map .p),(1,(v66.map eU).map .p)]⟩) ?_ ?_
 ·refine nx 7 Z (bd h0 λ TJ h1 h0=>?_);refine kE 2 TJ (λ ZQ=>⟨[(0,.ptr 0 0),(1,.ptr 1 0)],[(0,((td 256).map eU).map .p),(1,(ZQ.map eU).map .p)]⟩) ?_ ?_
  ·refine nx 4 Z (mO Z (H0 Z Z Z Z Z Z Z BL ?_));refine nx 2 Z (bd h0 λ UL h1 h0=>?_);refine kE 4 UL (λ ZP=>⟨[(0,.ptr 0 0),(1,.ptr 1 0)],[(0,((td 256).map eU).map .p),(1,(ZP.map eU).map .p)]⟩) ?_ ?_
   ·refine nx 3 Z (cc' h0 λ aaq h0=>?_);refine cc' h0 λ Yr h0=>mO Z (cC Z Z Z Z Z Z Z Z Z aaq ?_);refine mO Z (gU (f:=eU) (l:=UL) (b:=(2:UInt8)) Z Z Z Z Z Z Z Z (by have:=(And.intro aaq.1 Yr); first | omega | (dsimp only; omega)) ?_);refine cc' h0 λ Yq h0=>cc' h0 λ Zl h0=>mO Z (cC Z Z Z Z Z Z Z Z Z Yq ?_);refine mO Z (gU (f:=eU) (l:=UL.set ((95:Int).toNat) (2:UInt8)) (b:=(5:UInt8)) Z Z Z Z Z Z Z Z (by have:=(And.intro Yq.1 Zl); first | omega | (dsimp only; omega)) ?_);refine cc' h0 λ XH h0=>cc' h0 λ aap h0=>mO Z (cC Z Z Z Z Z Z Z Z Z XH ?_);refine mO Z (gU (f:=eU) (l:=(UL.set ((95:Int).toNat) (2:UInt8)).set ((34:Int).toNat) (5:UInt8)) (b:=(7:UInt8)) Z Z Z Z Z Z Z Z (by have:=(And.intro XH.1 aap); first | omega | (dsimp only; omega)) ?_);refine cc' h0 λ aao h0=>cc' h0 λ Yp h0=>mO Z (cC Z Z Z Z Z Z Z Z Z aao ?_);refine mO Z (gU (f:=eU) (l:=((UL.set ((95:Int).toNat) (2:UInt8)).set ((34:Int).toNat) (5:UInt8)).set ((35:Int).toNat) (7:UInt8)) (b:=(6:UInt8)) Z Z Z Z Z Z Z Z (by have:=(And.intro aao.1 Yp); first | omega | (dsimp only; omega)) ?_);refine nx 3 Z (cc' h0 λ W6 h0=>?_);refine cc' h0 λ Yo h0=>mO Z (cC Z Z Z Z Z Z Z Z Z W6 ?_);refine mO Z (gU (f:=eU) (l:=(((UL.set ((95:Int).toNat) (2:UInt8)).set ((34:Int).toNat) (5:UInt8)).set ((35:Int).toNat) (7:UInt8)).set ((10:Int).toNat) (6:UInt8)) (b:=(1:UInt8)) Z Z Z Z Z Z Z Z (by have:=(And.intro W6.1 Yo); first | omega | (dsimp only; omega)) ?_);refine cc' h0 λ Zk h0=>cc' h0 λ W5 h0=>mO Z (cC Z Z Z Z Z Z Z Z Z Zk ?_);refine mO Z (gU (f:=eU) (l:=((((UL.set ((95:Int).toNat) (2:UInt8)).set ((34:Int).toNat) (5:UInt8)).set ((35:Int).toNat) (7:UInt8)).set ((10:Int).toNat) (6:UInt8)).set ((32:Int).toNat) (1:UInt8)) (b:=(1:UInt8)) Z Z Z Z Z Z Z Z (by have:=(And.intro Zk.1 W5); first | omega | (dsimp only; omega)) ?_);refine cc' h0 λ aan h0=>cc' h0 λ hk59 h0=>mO Z (cC Z Z Z Z Z Z Z Z Z aan ?_);refine mO Z (gU (f:=eU) (l:=(((((UL.set ((95:Int).toNat) (2:UInt8)).set ((34:Int).toNat) (5:UInt8)).set ((35:Int).toNat) (7:UInt8)).set ((10:Int).toNat) (6:UInt8)).set ((32:Int).toNat) (1:UInt8)).set ((9:Int).toNat) (1:UInt8)) (b:=(1:UInt8)) Z Z Z Z Z Z Z Z (by have:=(And.intro aan.1 hk59); first | omega | (dsimp only; omega)) ?_);refine nx 3 Z (cc' h0 λ XG h0=>?_);refine mO Z (Er eU (((((((UL.set ((95:Int).toNat) (2:UInt8)).set ((34:Int).toNat) (5:UInt8)).set ((35:Int).toNat) (7:UInt8)).set ((10:Int).toNat) (6:UInt8)).set ((32:Int).toNat) (1:UInt8)).set ((9:Int).toNat) (1:UInt8)).set ((13:Int).toNat) (1:UInt8)) Z Z Z Z Z Z Z XG ?_);refine cc' h0 λ aal h0=>mO Z (Ao eU (td 256) (((((((UL.set ((95:Int).toNat) (2:UInt8)).set ((34:Int).toNat) (5:UInt8)).set ((35:Int).toNat) (7:UInt8)).set ((10:Int).toNat) (6:UInt8)).set ((32:Int).toNat) (1:UInt8)).set ((9:Int).toNat) (1:UInt8)).set ((13:Int).toNat) (1:UInt8)) Z Z Z Z Z Z Y aal.1 aal.2 ?_);exact nx 2 Z (mQ (oi h0) (M6 eU (((((((UL.set ((95:Int).toNat) (2:UInt8)).set ((34:Int).toNat) (5:UInt8)).set ((35:Int).toNat) (7:UInt8)).set ((10:Int).toNat) (6:UInt8)).set ((32:Int).toNat) (1:UInt8)).set ((9:Int).toNat) (1:UInt8)).set ((13:Int).toNat) (1:UInt8)) Z Z Z Z Z XG) (sr))
   refine lG (λ (Yi:Nat×(List UInt8))=>⟨[(0,.ptr 0 0),(1,.ptr 1 0),(22,.it 22 ([123,125,91,93,40,41,44,61,60,62,43,45,42,47,37,33,38,124,63,58,46]:Bytes) Yi.1)],[(0,((td 256).map eU).map .p),(1,(Yi.2.map eU).map .p)]⟩) (λ m (Yi:Nat×(List UInt8))=>gT m Yi.1 Yi.2) Y (0,TJ) h1 (gE rfl rfl) ?_;rintro m ⟨t37,l38⟩ h1;replace h1:gT (m+1) t37 l38=some UL:=h1;rw [gT] at h1;refine nx 2 rfl (fD (p:=t37 < ([123,125,91,93,40,41,44,61,60,62,43,45,42,47,37,33,38,124,63,58,46]:Bytes).length) [] h1 rfl (λ c39 h1=>?_) λ c39 h1=>?_)
   ·refine cc' h1 λ Yt h1=>mO Z (Ic Z Z Z Z Z Z c39 Yt Z BL Z ?_);refine nx 13 Z (cc' h1 λ VE h1=>?_);refine cc' h1 λ Ys h1=>mO Z (cC Z Z Z Z Z Z Z Z Z VE ?_);refine mO Z (gU (f:=eU) (l:=l38) (b:=(4:UInt8)) Z Z Z Z Z Z Z Z (by have:=(And.intro VE.1 Ys); first | omega | (dsimp only; omega)) ?_);exact nx 1 Z (eX (t37+1,l38.set (((([123,125,91,93,40,41,44,61,60,62,43,45,42,47,37,33,38,124,63,58,46]:Bytes).getD t37 0).toNat:Int).toNat) (4:UInt8)) h1 (gE Z Z))
   refine mO Z (Gx Z Z Z Z c39 ?_);exact nx 5 Z (eXi _ (oi h1).symm (gE Z Z))
  refine lG (λ (Z8:Int×(List UInt8))=>⟨[(0,.ptr 0 0),(1,.ptr 1 0),(3,.p (eK .i32 Z8.1))],[(0,((td 256).map eU).map .p),(1,(Z8.2.map eU).map .p)]⟩) (λ m (Z8:Int×(List UInt8))=>gX m Z8.1 Z8.2) Y (48,o65) h1 (gE rfl rfl) ?_;rintro m ⟨V2,l24⟩ h1;replace h1:gX (m+1) V2 l24=some TJ:=h1;rw [gX] at h1;refine nx 6 rfl (fD [17] h1 rfl (λ c25 h1=>?_) λ c25 h1=>?_)
  ·refine nx 6 Z (cc' h1 λ WB h1=>?_);refine cc' h1 λ WA h1=>mO Z (cC Z Z Z Z Z Z Z Z Z WB ?_);refine mO Z (gU (f:=eU) (l:=l24) (b:=(3:UInt8)) Z Z Z Z Z Z Z Z (by have:=(And.intro WB.1 WA); first | omega | (dsimp only; omega)) ?_);exact nx 6 Z (eX (IntKind.wrap .i32 (V2+1),l24.set V2.toNat (3:UInt8)) h1 (gE Z Z))
  exact xZ
 refine lG (λ (Yh:Int×(List UInt8))=>⟨[(0,.ptr 0 0),(1,.ptr 1 0),(2,.p (eK .i32 Yh.1))],[(0,((td 256).map eU).map .p),(1,(Yh.2.map eU).map .p)]⟩) (λ m (Yh:Int×(List UInt8))=>gZ m Yh.1 Yh.2) Y (97,td 256) h1 (gE rfl rfl) ?_;rintro m ⟨c8,l9⟩ h1;replace h1:gZ (m+1) c8 l9=some o65:=h1;rw [gZ] at h1;refine nx 6 rfl (fD [7] h1 rfl (λ YA h1=>?_) λ YA h1=>?_)
 ·refine nx 9 Z (cc' h1 λ Vv h1=>?_);refine cc' h1 λ XL h1=>mO Z (cC Z Z Z Z Z Z Z Z Z Vv ?_);refine mO Z (gU (f:=eU) (l:=l9) (b:=(2:UInt8)) Z Z Z Z Z Z Z Z (by have:=(And.intro Vv.1 XL); first | omega | (dsimp only; omega)) ?_);refine cc' h1 λ Ve h1=>cc' h1 λ Vu h1=>mO Z (cC Z Z Z Z Z Z Z Z Z Ve ?_);refine mO Z (gU (f:=eU) (l:=l9.set c8.toNat (2:UInt8)) (b:=(2:UInt8)) Z Z Z Z Z Z Z Z (by have:=(And.intro Ve.1 Vu); first | omega | (dsimp only; omega)) ?_);exact nx 6 Z (eX (IntKind.wrap .i32 (c8+1),(l9.set c8.toNat (2:UInt8)).set ((IntKind.wrap .i32 ((IntKind.wrap .i32 (c8 - 97))+65)).toNat) (2:UInt8)) h1 (gE Z Z))
 exact xZ
end Go.Ab.R06
end
section
namespace Go.Ab.R06
open Go.Proofs Go.Ab Go.Ab.RB
section
variable {p:Prop}
theorem HS (h:p:=by exact mQo (oi h0) (aU _) Z Z Z (az Z (aA _) Z) (sr) ⟨⟨_,Z,aS _⟩,trivial⟩):p:=h
end
attribute [local irreducible] awp io bg bO cv AV.sub M cZ
theorem rD:nh 64=some iY:=by kernel_rfl
def ky (Mr:Bytes):Option ab:=some (.mk Mr 0 (-1) (.mk 0 0 []))
theorem ab.ones (x:ab):PV.onesB (ab.cs x)=true:=by kernel_rfl
theorem pZ (Mr:Bytes)(r:ab)(h0:ky Mr=some r):cv Tryz.prog 51 [.p (eS Mr)] [] (λ x y=>x=.ptr 2000000 0/\y=[(2000000,(ab.cs r).map .p)]):=by
 unfold ky at h0;refine rW good [6] [6] Tryz.func51 Z Z Z Z Z λ w0 F=>mPo (λ _:ab=>.ptr 2000000 0) (λ v=>[(2000000,(ab.cs v).map .p)]) ?_;refine nx 7 Z ?_;refine oK (rT 64 _ rD) Z trivial Tryz.call84 Z ?_;refine mO Z (zG (cs:=(ab.cs (.mk Mr 0 (-1) (.mk 0 0 []))).map .p) (y:=.p (.agg (ab.cs (.mk Mr 0 (-1) (.mk 0 0 []))))) Z Z Z Z Z Z Z (by kernel_rfl) (by simp only [mb,uF]) ?_);refine mO Z (MF (ab.cs (.mk Mr 0 (-1) (.mk 0 0 []))) Z Z Z Z (ab.ones _) Z Z ?_);exact nx 4 Z HS
end Go.Ab.R06
end
section
namespace Go.Ab
section
variable {p:Prop}
theorem Hq (h:p:=by
 simp only [bodyPostD,hd',Leaves]; exact ⟨v,hv w',fin p1 p2 p3 hS hr⟩):p:=h
end
structure PreO (w:World)(g:Gh):Prop where
 ok:Ok0 w g.st
 own:∀ i b,g.ow i=some b->b < w.heap.size/\i < 2*M1
 inj:∀ i j b,g.ow i=some b->g.ow j=some b->i=j
 nst:∀ i b,M1<=i->g.ow i=some b->∀ o,¬ g.st b o
def NQ (w:World)(g:Gh)(R:AV->List (Nat×List AV)->Prop)(v:Value)(w':World):Prop :=
 ∃ r obs' g',R r obs'/\ARep w' g' r v/\(∀ p∈obs',iK w' g' p.1 p.2)/\np w g w' g'
def Bh (P:Program)(f:FuncId)(args:List AV)(Ta:List (Nat×List AV))(R:AV->List (Nat×List AV)->Prop):Prop :=
 ∀ (w:World) (g:Gh) (vs:Array Value) (u:FrameMode),PreO w g->vs.size=args.length->(∀ (i:Nat) c v,args[i]? = some c->vs[i]? = some v->ARep w g c v)->(∀ id cs,look Ta id=some cs->iK w g id cs) ->
  CallsD P f vs u w λ e u' w'=>u'=u/\∃ v,e=.returned v/\NQ w g R v w'
theorem Qt {P:Program}{tt:List (Nat×TI)}(good:cO P tt){f:FuncId}{fn:Func}{c:Code}{args:List AV}{Ta rob:List (Nat×List AV)}{r:AV}(ts ids:List Nat)(hf:P.funcs[f]? = some fn)(hb:fn.body=some c)
  (hn:Nat.ble args.length fn.ntmps=true) (hnl:Nat.ble fn.ntmps M1=true) (hts:ts.all (λ i=>Nat.blt i M1)=true) (hnd:nodupB ts=true)
  (h:∀ w0 F,awp ⟨P,tt,good,fn.ntmps,hnl,w0,F⟩ c (tL ⟨P,tt,good,fn.ntmps,hnl,w0,F⟩ tt fn ts ids r rob) ⟨hC args,Ta⟩):Bh P f args Ta (λ x y=>x.sub r/\leO y rob) :=
 λ _ _ _ _ hp h1 h2 h3=>(callsD_of_wp hf hb (q8 good ts ids (sm hn) hnl hts hnd (λ w0 F=>rM (h w0 F)) hp.ok hp.own hp.inj hp.nst h1 h2 h3)).mono
  λ _ _ _ ⟨hu,v,r,obs',g',he,hR,e1,e2,e3⟩=>⟨hu,v,he,r,obs',g',hR,e1,e2,e3⟩
def SB:Option Code->Code
 | some (.seq _ (.seq _ B))=>B
 | _=>.skip
def KO (P:Program)(fn:Func)(B:Code)(sl:List (Nat×AV))(Ta:List (Nat×List AV))(R:AV->List (Nat×List AV)->Prop):Prop :=
 ∀ (w:World) (g:Gh) (a:Act),PreO w g->a.tmps.size=fn.ntmps->(∀ i,ARep w g ((⟨sl,Ta⟩:AS).get i) (a.tmps.getD i Go.undef))->(∀ id cs,look Ta id=some cs->iK w g id cs) ->
  B.wp P (λ e a' w'=>(e=.normal\/e=.ret)/\a'.defers=a.defers/\∃ v,(∀ w2,(results fn a'.tmps).run P w2=.ok v w2)/\NQ w g R v w') a w
theorem He {P:Program}{tt:List (Nat×TI)}(good:cO P tt){fn:Func}{B:Code}{t:Nat}{sl:List (Nat×AV)}{Ta rob:List (Nat×List AV)}{r:AV}(ids:List Nat)(hres:fn.results.toList=[.tmp t])(hnl:Nat.ble fn.ntmps M1=true)
  (h:∀ w0 F,awp ⟨P,tt,good,fn.ntmps,hnl,w0,F⟩ B (tL ⟨P,tt,good,fn.ntmps,hnl,w0,F⟩ tt fn [] ids r rob) ⟨sl,Ta⟩):KO P fn B sl Ta (λ x y=>x.sub r/\leO y rob):=by
 intro w g a hp SS Sk hobs
 have hs:St fn.ntmps ⟨w,g.st,g.ow,hp.ok.gl,(λ i b h=>Nat.lt_of_lt_of_le (hp.own i b h).2 wd),a.defers⟩ (λ b=>b < w.heap.size/\∀ i,g.ow i≠some b) g ⟨sl,Ta⟩ a w :=
  ⟨Z,SS,Sk,hobs,hp.inj,λ i b hi=>⟨(hp.own i b hi).1,λ h=>h.2 i hi⟩,hp.ok.lt,λ b h=>h.1,λ b h=>rfl,Z,Z,Z,bx _,λ b _ o=>Iff.rfl,λ _ _ _=>rfl,jX.refl _ _,λ i b hi h=>hp.nst i b hi h,Ev.refl _ _⟩
 refine wp_mono (rM (h _ _) g a w hs) ?_;rintro e a' w' ⟨g1,s',h3,he,l,r1,obs1,obs',hl,hr,hpk,hm,hR⟩;obtain ⟨v,hv,hvr⟩:=oQ good h3 fn l hl
 have hrun:∀ w2,(results fn a'.tmps).run P w2=.ok (a'.tmps.getD t Go.undef) w2:=λ w2=>by
  rw [vd,Array.mapM_eq_mapM_toList,hres];simp [wJ]
 obtain ⟨g',e1,e2,e3⟩:=w5 [] ids Z Z hp.own h3 hvr hr hpk hm
 have:v=a'.tmps.getD t Go.undef:=by
  have:=(hrun w').symm.trans hv
  injection this with h1 _
  exact h1.symm
 exact ⟨he,h3.nd,v,λ w2=>by rw [this]; exact hrun w2,_,_,g',hR,e1,e2,e3⟩
theorem yL:∀ {js:List Nat} {q:List AV} {i:Nat} {c:AV},look (js.zip q) i=some c->∃ k:Nat,js[k]? = some i/\q[k]? = some c
 | [],_,_,_,h=>by simp [look] at h
 | _::_,[],_,_,h=>by simp [look] at h
 | j::js,x::q,i,c,h=>by
  rw [List.zip_cons_cons,aX] at h;by_cases e:j=i
  ·rw [if_pos e] at h; cases h; exact ⟨0,by simp [e],rfl⟩
  ·rw [if_neg e] at h;obtain ⟨k,h1,h2⟩:=yL h;exact ⟨k+1,by simpa using h1,by simpa using h2⟩
theorem rI:∀ l:List AV,p8 l l
 | []=>trivial
 | x::r=>⟨AV.sub_refl x,rI r⟩
theorem KP {C:Cx}{fn:Func}{B:Code}{sl:List (Nat×AV)}{ob:List (Nat×List AV)}(ids SN:List Nat)(NB NE:Nat)(js:List Nat){l l':List AV}{Ta qo rob ob':List (Nat×List AV)}{r r':AV}(hnt:C.n=fn.ntmps)
  (hB:KO C.P fn B (js.zip l') qo (λ x y=>x.sub r/\leO y rob)) (hl:ke sl (js.map .tmp)=some l) (hl':AV.mapA.go (kg ids SN) l=some l') (hpk:ib ob ids=some Ta) (hmo:gV (kg ids SN) Ta=some qo) (hqq:leO qo qo)
  (hnd:nodupB ids=true) (hids:ids.all (λ i=>Nat.blt i (2*M1))=true) (hil:Nat.ble ids.length M1=true) (hdl:Nat.ble NE M1=true) (hdis:ids.all (λ i=>!(cj SN NB NE i))=true)
  (hvd:nodupB SN=true) (hvl:SN.all (λ i=>Nat.blt i M1)=true) (hvn:Nat.ble SN.length 100000=true) (hr:r.mapA (j3 ids NB NE)=some r') (hro:gV (j3 ids NB NE) rob=some ob')
  {g:Gh} {a a2:Act} {w:World} (hs:St C.n C.w0 C.F g ⟨sl,ob⟩ a w) (ht:a2.tmps=a.tmps) :
  B.wp C.P (λ e a' w'=>(e=.normal\/e=.ret)/\a'.defers=a2.defers/\∃ v,(∀ w2,(results fn a'.tmps).run C.P w2=.ok v w2)/\∃ g2,St C.n C.w0 C.F g2 ⟨(dr (cj SN NB NE) ⟨sl,ob⟩).sl,ob'++(dr (cj SN NB NE) ⟨sl,ob.filter λ p=>!(ids.any (Nat.beq p.1))⟩).ob⟩ a w'/\ARep w' g2 r' v) a2 w:=by
 obtain ⟨a1,a1'⟩:=ki hs _ l hl;have M':(js.map λ j=>a.eval (.tmp j)).length=l.length:=by simpa using a1.symm
 obtain ⟨gc,⟨k1,k2,k3,k4,k5,k6,k7⟩,hpost⟩:=qh ids SN NB NE hl' (rI l') hpk hmo hqq hnd hids hil hdl hdis hvd hvl hvn hs (avs:=(js.map λ j=>a.eval (.tmp j)).toArray) rU
  (λ i c v hc hv=>a1' i c v hc (by simpa using hv))
 refine wp_mono (hB w gc a2 ⟨k1,k2,k3,k4⟩ (by rw [ht,hs.sz,hnt]) (λ i=>?_) k7) ?_
 ·unfold AS.get
  cases hq:look (js.zip l') i with
  | none=>exact .undef _
  | some c =>
   obtain ⟨k,h1,h2⟩:=yL hq;simp only [ro];refine k6 k c _ h2 ?_;have:a2.tmps.getD i Go.undef=a.eval (.tmp i):=by rw [ht]; rfl
   rw [this];simp [h1]
 ·rintro e a' w' ⟨he,hd,v,hv,x,y,g',⟨hx,hy⟩,e1,e2,e3⟩
  obtain ⟨g2,f1,f2⟩:=hpost w' v r r' rob ob' g' (hx _ _ _ e1) (λ p hp=>by
   obtain ⟨ds,m1,m2⟩:=tw hy p hp
   exact pH (e2 (p.1,ds) (gS m1)) m2) e3 hr hro
  exact ⟨he,hd,v,hv,g2,f1,f2⟩
theorem O2 {C:Cx}{k:FuncId}{sl:List (Nat×AV)}{ob:List (Nat×List AV)}(ids SN:List Nat)(NB NE:Nat)(j:Nat){x:AV}{l':List AV}{Ta qo rob ob':List (Nat×List AV)}{r r':AV}{u:FrameMode}
  (hD:Bh C.P k l' qo (λ x y=>x.sub r/\leO y rob)) (hl:look sl j=some x) (hl':AV.mapA.go (kg ids SN) [x]=some l') (hpk:ib ob ids=some Ta) (hmo:gV (kg ids SN) Ta=some qo) (hqq:leO qo qo)
  (hnd:nodupB ids=true) (hids:ids.all (λ i=>Nat.blt i (2*M1))=true) (hil:Nat.ble ids.length M1=true) (hdl:Nat.ble NE M1=true) (hdis:ids.all (λ i=>!(cj SN NB NE i))=true)
  (hvd:nodupB SN=true) (hvl:SN.all (λ i=>Nat.blt i M1)=true) (hvn:Nat.ble SN.length 100000=true) (hr:r.mapA (j3 ids NB NE)=some r') (hro:gV (j3 ids NB NE) rob=some ob')
  {g:Gh} {a:Act} {w:World} (hs:St C.n C.w0 C.F g ⟨sl,ob⟩ a w) :
  CallsD C.P k #[a.eval (.tmp j)] u w λ e u' w'=>u'=u/\∃ v,e=.returned v/\∃ g2,St C.n C.w0 C.F g2 ⟨(dr (cj SN NB NE) ⟨sl,ob⟩).sl,ob'++(dr (cj SN NB NE) ⟨sl,ob.filter λ p=>!(ids.any (Nat.beq p.1))⟩).ob⟩ a w':=by
 have hx:ARep w g x (a.eval (.tmp j)):=bP hs (x:=.tmp j) hl
 obtain ⟨gc,⟨k1,k2,k3,k4,k5,k6,k7⟩,hpost⟩:=qh ids SN NB NE hl' (rI l') hpk hmo hqq hnd hids hil hdl hdis hvd hvl hvn hs (avs:=#[a.eval (.tmp j)]) rfl
  (λ i c v hc hv=>by
   match i,hc,hv with
   | 0,hc,hv=>simp at hc hv; subst hc hv; exact hx)
 refine (hD w gc _ u ⟨k1,k2,k3,k4⟩ k5 k6 k7).mono ?_;rintro e u' w' ⟨hu,v,he,x,y,g',⟨hx,hy⟩,e1,e2,e3⟩
 obtain ⟨g2,f1,_⟩:=hpost w' v r r' rob ob' g' (hx _ _ _ e1) (λ p hp=>by
   obtain ⟨ds,m1,m2⟩:=tw hy p hp
   exact pH (e2 (p.1,ds) (gS m1)) m2) e3 hr hro
 exact ⟨hu,v,he,g2,f1⟩
theorem MW {P:Program}{tt:List (Nat×TI)}(good:cO P tt){f k:FuncId}{fn:Func}{args:List AV}{Ta rob:List (Nat×List AV)}{c:Value}{R0 R1 R2 B:Code}{rid t j q:Nat}{o1 o2:Oper}{s0 s1 s2:AS}{b:Bool}(ids:List Nat)
  (hf:P.funcs[f]? = some fn) (hb:fn.body=some (.seq R0 (.seq (.seq R1 (.cond (.tmp t) (.seq R2 (.region rid #[o1,o2] false)) .skip)) B)))
  (hn:Nat.ble args.length fn.ntmps=true) (hnl:Nat.ble fn.ntmps M1=true)
  (h0:∀ w0 F,awp ⟨P,tt,good,fn.ntmps,hnl,w0,F⟩ R0 (λ e s=>e=.normal/\s=s0) ⟨hC args,Ta⟩)
  (h1:∀ w0 F,awp ⟨P,tt,good,fn.ntmps,hnl,w0,F⟩ R1 (λ e s=>e=.normal/\s=s1) s0) (hc:evo s1.sl (.tmp t)=some (.p (eB b)))
  (hF:b=false->∃ sE obs1 obs2,ib sE.ob ids=some obs1/\gV (mi []) obs1=some obs2/\leO obs2 rob/\∀ w0 F g a a2 w,St fn.ntmps w0 F g s1 a w->a2.tmps=a.tmps ->
   B.wp P (λ e a' w'=>(e=.normal\/e=.ret)/\a'.defers=a2.defers/\∃ v,(∀ w2,(results fn a'.tmps).run P w2=.ok v w2)/\∃ g2,St fn.ntmps w0 F g2 sE a w'/\ARep w' g2 (.p (.val c)) v) a2 w)
  (hT:b=true->(∀ w0 F,awp ⟨P,tt,good,fn.ntmps,hnl,w0,F⟩ R2 (λ e s=>e=.normal/\s=s2) s1)/\(o1.op=.makeFunc (.func k) #[] #[.tmp j]/\o1.dst=some q/\Nat.blt q fn.ntmps=true/\o1.guard=none/\o2.op=.defer { callee:=.value (.tmp q),args:=#[],argTypes:=#[] }/\o2.dst=none/\o2.guard=none/\Nat.beq j q=false) /\
   (∀ vs w,(callFunc k vs).run P w=.ok (.enter k vs) w)/\∃ sE sD obs1 obs2 x,look s2.sl j=some x/\ib sD.ob ids=some obs1/\gV (mi []) obs1=some obs2/\leO obs2 rob /\
    (∀ w0 F g a a2 w,St fn.ntmps w0 F g ⟨(q,.func (.func k) [x])::s2.sl,s2.ob⟩ a w->a2.tmps=a.tmps ->
     B.wp P (λ e a' w'=>(e=.normal\/e=.ret)/\a'.defers=a2.defers/\∃ v,(∀ w2,(results fn a'.tmps).run P w2=.ok v w2)/\∃ g2,St fn.ntmps w0 F g2 sE a w'/\ARep w' g2 (.p (.val c)) v) a2 w) /\
    ∀ w0 F g a w u,St fn.ntmps w0 F g sE a w->CallsD P k #[a.eval (.tmp j)] u w λ e u' w'=>u'=u/\∃ v,e=.returned v/\∃ g2,St fn.ntmps w0 F g2 sD a w') :
  cv P f args Ta (λ x y=>x=.p (.val c)/\y=rob):=by
 refine cv.of_sub ?_;intro w g vs hlt hown hinj hnst k1 k2 hobs;refine calls_of_wp_defers hf hb ?_;have hn':=sm hn
 have hs:St fn.ntmps ⟨w,g.st,g.ow,hlt.gl,(λ i b h=>Nat.lt_of_lt_of_le (hown i b h).2 wd),[]⟩ (λ b=>b < w.heap.size/\∀ i,g.ow i≠some b) g ⟨hC args,Ta⟩ { tmps:=vs++Array.replicate (fn.ntmps - vs.size) Go.undef,defers:=[] } w:=by
  refine ⟨Z,?_,?_,hobs,hinj,?_,hlt.lt,?_,?_,Z,Z,Z,bx _,λ b _ o=>Iff.rfl,λ _ _ _=>rfl,jX.refl _ _,λ i b hi h=>hnst i b hi h,Ev.refl _ _⟩
  ·exact Ax
  ·intro i;have:=pn args 0 i;simp only [AS.get,hC,this,rg,if_true,Nat.sub_zero]
   cases ha:args[i]? with
   | none=>exact .undef _
   | some x =>
    have hi:i < args.length:=(List.getElem?_eq_some_iff.1 ha).1;have hi2:i < vs.size:=by omega
    have e:(vs++Array.replicate (fn.ntmps - vs.size) Go.undef).getD i Go.undef=vs[i]:=by
     exact B6
    simp only [ro];rw [e];exact k2 i x _ ha (Array.getElem?_eq_getElem hi2)
  ·intro i b hi; exact ⟨(hown i b hi).1,λ h=>h.2 i hi⟩
  ·intro b h; exact h.1
  ·intro b h; rfl
 -- behind everything: what is handed back
 have fin:∀ {sE:AS} {obs1 obs2:List (Nat×List AV)} {a:Act} {w':World} {g2:Gh} {v:Value},ib sE.ob ids=some obs1->gV (mi []) obs1=some obs2->leO obs2 rob ->
   St fn.ntmps ⟨w,g.st,g.ow,hlt.gl,(λ i b h=>Nat.lt_of_lt_of_le (hown i b h).2 wd),[]⟩ (λ b=>b < w.heap.size/\∀ i,g.ow i≠some b) g2 sE a w'->ARep w' g2 (.p (.val c)) v ->
   ∃ v1 r obs' g',Ending.returned v=.returned v1/\(AV.sub r (.p (.val c))/\leO obs' rob)/\ARep w' g' r v1/\(∀ p∈obs',iK w' g' p.1 p.2)/\np w g w' g':=by
  intro sE obs1 obs2 a w' g2 v p1 p2 p3 hS hv;obtain ⟨g',e1,e2,e3⟩:=w5 [] ids Z Z hown hS hv rfl p1 p2;exact ⟨v,_,_,g',rfl,⟨AV.sub_refl _,p3⟩,e1,e2,e3⟩
 refine wp_seq (wp_mono (h0 _ _ g _ w hs) ?_);rintro e a0 w0 ⟨g0,s0',hs0,rfl,rfl⟩;refine wp_seq (wp_seq (wp_mono (h1 _ _ g0 a0 w0 hs0) ?_));rintro e a1 w1 ⟨g1,s1',hs1,rfl,rfl⟩;have hcv:a1.eval (.tmp t)=.bool b:=b7 hs1 hc
 cases hbb:b with
 | false =>
  subst hbb;refine wp_cond_false hcv (wp_skip ?_);obtain ⟨sE,obs1,obs2,p1,p2,p3,hB⟩:=hF rfl;refine wp_mono (hB _ _ g1 a1 a1 w1 hs1 rfl) ?_;rintro e a' w' ⟨he,hd,v,hv,g2,hS,hr⟩;have hd':a'.defers=[]:=hd.trans hs1.nd;rcases he with rfl | rfl
  ·exact Hq
  ·exact Hq
 | true =>
  subst hbb;obtain ⟨h2,⟨m1,m2,m3,m4,m5,m6,m7,m8⟩,XM,sE,sD,obs1,obs2,x,hj,p1,p2,p3,hB,hD⟩:=hT rfl;refine wp_cond_true hcv (wp_seq (wp_mono (h2 _ _ g1 a1 w1 hs1) ?_));rintro e a2 w2 ⟨g2,s2',hs2,rfl,rfl⟩;refine wp_region ?_;have hx:ARep w2 g2 x (a2.eval (.tmp j)):=bP hs2 (x:=.tmp j) hj;have hq:q < fn.ntmps:=n7 ▸ m3;have e1:(execOp a2.eval o1).run P w2=.ok (.value (.func (.func k) #[] #[a2.eval (.tmp j)])) w2:=by simp [execOp,m1,Instr.makeFunc,Act.eval]
  have hs3:=hs2.put (d:=some q) (λ t ht=>by cases ht; exact hq) (x:=.func (.func k) [x]) (v:=.func (.func k) #[] #[a2.eval (.tmp j)]) (.func rfl λ i c v hc hv=>by
   match i,hc,hv with
   | 0,hc,hv=>simp at hc hv; subst hc hv; exact hx)
  obtain ⟨a3,ha3⟩:∃ a3,a3=a2.put (some q) (.func (.func k) #[] #[a2.eval (.tmp j)]):=⟨_,rfl⟩
  rw [<- ha3] at hs3
  have hqv:a3.eval (.tmp q)=.func (.func k) #[] #[a2.eval (.tmp j)]:=by
   have:q < a2.tmps.size:=by rw [hs2.sz]; exact hq
   rw [ha3]; simp [Act.put,Act.eval,Array.getD,this]
  have hjq:a3.eval (.tmp j)=a2.eval (.tmp j):=by
   have Tc:q≠j:=λ e=>by subst e; simp at m8
   rw [ha3]; simp only [Act.put,Act.eval,Array.getD_eq_getD_getElem?,Array.getElem?_setIfInBounds,if_neg Tc]
  have e2:(execOp a3.eval o2).run P w2=.ok (.defer { target:=.fn (.func k) #[a2.eval (.tmp j)],args:=#[] }) w2:=by simp [execOp,m5,resolve,hqv,Deferred.ofValue]
  have hr:List.range (#[o1,o2]:Array Oper).size=[0,1]:=rfl;rw [hr];have g0':(#[o1,o2]:Array Oper)[0]? = some o1:=rfl;have g1':(#[o1,o2]:Array Oper)[1]? = some o2:=rfl;simp only [wpOps,g0',g1',Region.wanted,m4,m7,if_true];refine .inl ?_;unfold Oper.wp;rw [e1];simp only [Oper.upon,m2];rw [<- ha3];refine .inl ?_;rw [e2];simp only [m6,Act.put];refine wp_mono (hB _ _ g2 a3 { a3 with defers:={ target:=.fn (.func k) #[a2.eval (.tmp j)],args:=#[] }::a3.defers } w2 hs3 rfl) ?_;rintro e a' w' ⟨he,hd,v,hv,g3,hS,hrv⟩;have hnd:a3.defers=[]:=hs3.nd;rw [hnd] at hd
  have key:Leaves P fn a'.tmps (λ e w'=>∃ v r obs' g',e=.returned v/\(AV.sub r (.p (.val c))/\leO obs' rob)/\ARep w' g' r v/\(∀ p∈obs',iK w' g' p.1 p.2)/\np w g w' g') a'.defers .returning w':=by
   rw [hd];refine leaves_cons (f:=k) (args:=#[a2.eval (.tmp j)]) G (by simp [invoke,XM]) ?_;have:=hD _ _ g3 a3 w' .returning hS;rw [hjq] at this;refine this.mono ?_;rintro e u' w'' ⟨hu,v2,he2,g4,hS4⟩;subst hu he2;simp only [settle,Leaves];refine ⟨v,hv w'',fin p1 p2 p3 hS4 ?_⟩
   cases hrv with
   | p hrv=>cases hrv; exact .p (.val _)
  rcases he with rfl | rfl
  ·exact key
  ·exact key
theorem mR {C:Cx}{c:Code}{s t:AS}(h:M C (λ e s=>e=.normal/\s=t) ⟨.cd c,[],s⟩):awp C c (λ e s=>e=.normal/\s=t) s:=rM h
theorem mE {C:Cx}{s t:AS}(h:cZ C s t):M C (λ e s=>e=.normal/\s=t) ⟨.ex .normal,[],s⟩:=⟨t,h,Z,Z⟩
end Go.Ab
end
section
namespace Go.Ab.R06
open Go.Proofs Go.Ab Go.Ab.RB
attribute [local irreducible] awp io bg bO cv AV.sub M cZ
theorem mK (x:ab):Bh Tryz.prog 132 [.ptr 1000000 0] [(1000000,[.ptr 1000001 0]),(1000001,(ab.cs x).map .p)] (λ a b=>a.sub (.tuple [])/\leO b [(1000000,[.ptr 1000001 0]),(1000001,(ab.cs (.mk x.fs x.fat (-1) x.AT)).map .p)]):=by
 refine Qt good [] [1000000,1000001] Tryz.func132 Z Z Z Z Z λ w0 F=>mPo (v0:=ab.mk x.fs x.fat (-1) x.AT) (λ _:ab=>.tuple []) (λ v=>[(1000000,[.ptr 1000001 0]),(1000001,(ab.cs v).map .p)]) ?_;refine nx 4 Z (mO Z (gx Z Z Z Z Z Z Z Z (ab.b_outer _) (ab.u_outer _) ?_));exact nx 1 Z (Mh Z (aU _) Z Z Z (az Z Z (az Z (aA _) Z)) (sr) ⟨⟨_,Z,⟨sr,trivial⟩⟩,⟨_,Z,aS _⟩,trivial⟩)
end Go.Ab.R06
end
section
namespace Go.Ab
theorem C3 {w:World}{g:Gh}{tok sz ty:Nat}{es:List PV}{b off cap:Nat}(h:ARep w g (.vec tok sz ty es) (.slice (some ⟨b,off,none⟩) es.length cap))(hc:es.length+1<=cap) :
  ARep w g (.vecp tok sz ty es) (.slice (some ⟨b,off,none⟩) (es.length+1) cap):=by
 generalize hv:Value.slice (some ⟨b,off,none⟩) es.length cap=v at h
 cases h with
 | vecn=>cases hv
 | vece _ _ a=>injection hv with _ _ h3; omega
 | vec how hb S8 SS S7 hr hty =>
  injection hv with h1 h2 h3
  injection h1 with h1
  injection h1 with h4 h5
  subst h3 h4 h5;exact .vecp how hb S8 hc SS S7 hr hty
section
variable {C:Cx} {o:Oper} {K:AS->Prop} {sl:List (Nat×AV)} {ob:List (Nat×List AV)} {d:Nat}
theorem ni (ty0:Nat){es ys:List PV}{t tx e:TypeId}{i ie:TI}{y:Operand}(D:Nat->Bool)(hDl:∀ i,D i=true->i < M1)(hDd:D d=true)(hy1:ys.length=1)
  (hi:look C.tt t=some i) (Tb:i.k=.slice e) (hie:look C.tt e=some ie)
  (hS:wj C sl ob tx y ie.size ys) (hzl:ie.zero.length=ie.size)
  (M':(es.length+ys.length)*ie.bytes<=140737488355328) (hlen':es.length+ys.length<=9223372036854775807)
  {g:Gh} {a:Act} {w:World} (hs:St C.n C.w0 C.F g ⟨sl,ob⟩ a w) (base:Option Addr) (cap:Nat) (olds:List Value)
  (hold:(Builtin.firstCells ie.size es.length (.slice base es.length cap)).run C.P w.drew=.ok olds.toArray w.drew) (hol:olds.length=es.length*ie.size)
  (hes:∀ e,e∈es->e.cells.length=ie.size)
  (hoc:∀ (i:Nat) y (j:Nat) x,es[i]? = some y->y.cells[j]? = some x->x.one=true/\∃ u,olds[i*ie.size+j]? = some u/\PRep w g.st x u)
  (hg:cap < es.length+ys.length) (ty:TypeId) (hn:Nat.blt d C.n=true) (hty:ty0=0\/ty0=e+1) :
  ∃ v w' g',(Builtin.append_ #[t,tx] ty #[.slice base es.length cap,a.eval y]).run C.P w=.ok v w' /\
   St C.n C.w0 C.F g' ⟨(d,.vecp d ie.size ty0 es)::(dr D ⟨sl,ob⟩).sl,(dr D ⟨sl,ob⟩).ob⟩ (a.put (some d) v) w':=by
 obtain ⟨u,h1,h2⟩:=bU C.good hi;have h3:=dl (h2.trans Tb);subst h3;obtain ⟨info,hf1,hf2,hf3,z,hf4,hf5⟩:=kK C.good hie;obtain ⟨news,hsrc,hnews⟩:=hS g a w hs;have hfit:=growslice_fits (bytes:=ie.bytes) hg M';have hrun:=run_append_grow_src w t tx ty e info z h1 hf1 hf4 base es.length cap olds (by rw [hf2]; exact hold) (a.eval y) ys.length news qm hg O (by rw [hf3]; exact hfit);obtain ⟨q,hq⟩:∃ q,q=grownCap w (es.length+ys.length) cap e:=⟨_,rfl⟩
 rw [<- hq] at hrun
 have hqn:es.length+ys.length<=q:=by
  rw [hq]; unfold grownCap; simp only [Question.cut]; omega
 have hzs:z.cells.size=ie.size:=by rw [<- hzl,<- hf5,Array.length_toList]
 obtain ⟨c,hc⟩:∃ c,c=(olds++news).toArray++Builtin.zeroCells z.cells (q - (es.length+ys.length)):=⟨_,rfl⟩
 rw [<- hc] at hrun
 have S8:c.size=q*ie.size:=by
  exact Hj
 have hget:∀ m,m < es.length*ie.size->c[m]? = olds[m]?:=by
  intro m hm;rw [hc,Array.getElem?_append];simp only [List.size_toArray,ph,hol,hsrc.newsLen];rw [if_pos O,List.getElem?_toArray,List.getElem?_append,hol,if_pos hm]
 have hf:=hs.drew.fresh D hDl d hDd (λ o=>o < es.length*ie.size) c e
 have hv:ARep (w.drew.alloc (.cells c e)) ⟨λ b o=>g.st b o\/(b=w.drew.heap.size/\o < es.length*ie.size),λ i=>if i=d then some w.drew.heap.size else if D i then none else g.ow i⟩
   (.vec d ie.size ty0 es) (.slice (some ⟨w.drew.heap.size,0,none⟩) es.length q):=by
  refine G1 G iB S8 O hes (λ o=>⟨λ h=>?_,λ h=>.inr ⟨Z,h⟩⟩) (λ i y j x hy hx=>?_) hty
  ·exact Ki
  ·have S4:=nM (w:=w.drew) (T:=λ o=>o < es.length*ie.size) (ob:=.cells c e) hs.drew.lt;have hcl:=hes y (List.mem_of_getElem? hy);have hjl:j < ie.size:=by rw [<- hcl]; exact (List.getElem?_eq_some_iff.1 hx).1
   have hil:i < es.length:=(List.getElem?_eq_some_iff.1 hy).1;have hm1:(i+1)*ie.size<=es.length*ie.size:=Nat.mul_le_mul_right _ O;rw [Nat.add_mul] at hm1;obtain ⟨k1,u,hu,hr⟩:=hoc i y j x hy hx;refine ⟨k1,u,?_,(PRep.mono (w:=w) (w':=w.drew) (st:=g.st) (st':=g.st) (λ b o h=>⟨h,rfl⟩) hr).mono S4⟩;rw [hget _ O]; exact hu
 have hp:=hf.put (d:=some d) (λ t ht=>by cases ht; exact n7 ▸ hn) (C3 hv O);rw [hy1] at hrun;exact ⟨_,_,_,hrun,hp⟩
theorem y7 {t tx e:TypeId}{x y:Operand}{k sz ty:Nat}{es:List PV}{ys:List PV}{i ie:TI}(ho:o.op=.call { callee:=.builtin .append,args:=#[x,y],argTypes:=#[t,tx] })(hd:o.dst=some d)(hn:Nat.blt d C.n=true)
  (hi:look C.tt t=some i) (Tb:i.k=.slice e) (hie:look C.tt e=some ie) (hx:evo sl x=some (.vec k sz ty es)) (hk:Nat.blt k M1=true) (hiz:ie.size=sz) (hy1:ys.length=1)
  (hS:wj C sl ob tx y ie.size ys) (_SS:∀ y∈ys,y.cells.length=ie.size) (h0:Nat.blt 0 ie.size=true) (hzl:Nat.beq ie.zero.length ie.size=true)
  (M':(es.length+1)*ie.bytes<=140737488355328) (hlen':es.length+1<=9223372036854775807) (hty:(Nat.beq ty 0||Nat.beq ty (e+1))=true)
  (hK:K ⟨(d,.vecp d sz ty es)::(dr (λ i=>Nat.beq i k||Nat.beq i d) ⟨sl,ob⟩).sl,(dr (λ i=>Nat.beq i k||Nat.beq i d) ⟨sl,ob⟩).ob⟩):bg C o K ⟨sl,ob⟩:=by
 subst hiz;rw [<- hy1] at M' hlen';have h0':0 < ie.size:=by simpa using h0
 have hzl':=dg hzl;have hk':k < M1:=n7 ▸ hk;have hdl:d < M1:=by have h1:=sm C.nl; have h2:d < C.n:=n7 ▸ hn; omega
 have hty':=GH hty
 have hDl:∀ i,(Nat.beq i k||Nat.beq i d)=true->i < M1:=by
  exact JE
 intro g a w hs;have hxr:=bP hs hx;generalize hxv:a.eval x=xv at hxr
 have hrun0:∀ v w',(Builtin.append_ #[t,tx] o.type #[xv,a.eval y]).run C.P w=.ok v w'->(execOp a.eval o).run C.P w=.ok (.value v) w':=by
  intro v w' h;rw [jH ho];simp [builtin,hxv,h]
 cases hxr with
 | vecn =>
  obtain ⟨v,w',g',hr,S7⟩:=ni ty (es:=[]) (λ i=>Nat.beq i k||Nat.beq i d) hDl G hy1 hi Tb hie hS hzl' rU tQ hs none 0 []
   (run_firstCells_none w.drew ie.size 0 0 0) G G G (by simp [hy1]) o.type hn hty'
  exact uB
 | vece tok sz a0 =>
  obtain ⟨v,w',g',hr,S7⟩:=ni 0 (es:=[]) (λ i=>Nat.beq i k||Nat.beq i d) hDl G hy1 hi Tb hie hS hzl' rU tQ hs (some a0) 0 []
   (run_firstCells_some w.drew ie.size 0 a0 0 0 [] G G) G G G (by simp [hy1]) o.type hn hty'
  exact uB
 | vec how hb S8 hsz' S7 hr hty0 =>
  rename_i b off cap c e0;have hinv:=qQ hsz' hb hr;have hcapE:es.length<=cap:=by cases hr with | nile _=>exact bx _ | slice _ _ hcap=>exact hcap
  by_cases hroom:es.length+ys.length<=cap
  ·obtain ⟨u,h1,h2⟩:=bU C.good hi;have h3:=dl (h2.trans Tb);subst h3;obtain ⟨info,hf1,hf2,hf3,z,hf4,hf5⟩:=kK C.good hie;obtain ⟨news,hsrc,hnews⟩:=hS g a w hs
   have hfit:(off+es.length*ie.size)+news.length<=c.size:=by
    exact Hh
   have hstc:=run_storeCells_at C.P b (off+es.length*ie.size) e0 news 0 c w hb (by simpa using hfit) hsrc.one;simp only [Nat.add_zero] at hstc;obtain ⟨c',hc'⟩:∃ c',c'=(c.toList.take (off+es.length*ie.size)++news++c.toList.drop (off+es.length*ie.size+news.length)).toArray:=⟨_,rfl⟩
   rw [<- hc'] at hstc;have hrr:=nK t tx o.type e info h1 hf1 b off es.length cap (a.eval y) ys.length news qm hroom (by rw [hf2]; exact hstc)
   have SY:∀ j,c'[j]? = if off+es.length*ie.size<=j/\j < off+es.length*ie.size+news.length then news[j - (off+es.length*ie.size)]? else c[j]?:=by
    exact Gg
   have hcs':c'.size=off+cap*ie.size:=by rw [<- S8,hc']; simp; omega
   have hin:=hs.inplace (λ i=>Nat.beq i k||Nat.beq i d) hDl (k:=k) (d:=d) how G G  hb (c':=c') (hcs'.trans S8.symm) (λ o h=>by
    have:=(S7 o).1 h
    rw [SY o,if_neg O]) (λ o=>o < off+es.length*ie.size) (λ o h=>(S7 o).1 h)
   have hEv:Ev w g.st (w.setRow b c') (λ b' o=>(b'=b/\o < off+es.length*ie.size)\/(b'≠b/\g.st b' o)):=by
    intro b' o h;by_cases e:b'=b
    ·subst e;have h5:=(S7 o).1 h;refine ⟨.inl ⟨rfl,h5⟩,?_⟩;exact Ie
    ·exact Bi
   have hv:ARep (w.setRow b c') ⟨λ b' o=>(b'=b/\o < off+es.length*ie.size)\/(b'≠b/\g.st b' o),λ i=>if i=d then some b else if (Nat.beq i k||Nat.beq i d) then none else g.ow i⟩
     (.vec d ie.size ty es) (.slice (some ⟨b,off,none⟩) es.length cap):=by
    refine tv G (setRow_heap w b c c' e0 (0,0) hb) hcs' hcapE hsz' (λ o=>⟨λ h=>?_,λ h=>.inl ⟨Z,h⟩⟩) (λ i y j x hy hx=>?_) hty0
    ·rcases h with h | h
     ·exact h.2
     ·exact absurd Z h.1
    ·have hcl:=hsz' y (List.mem_of_getElem? hy);have hjl:j < ie.size:=by rw [<- hcl]; exact (List.getElem?_eq_some_iff.1 hx).1
     have hil:i < es.length:=(List.getElem?_eq_some_iff.1 hy).1;exact JY
   have hp:=hin.put (d:=some d) (λ t ht=>by cases ht; exact n7 ▸ hn) (C3 hv O);rw [hy1] at hrr;exact J3
  ·obtain ⟨olds,hol,hocell⟩:∃ olds:List Value,olds.length=es.length*ie.size/\∀ m,m < es.length*ie.size->olds[m]? = c[off+m]? :=
    ⟨((c.toList.drop off).take (es.length*ie.size)),by
     rw [List.length_take,ld,show c.toList.length=off+cap*ie.size from Array.length_toList.trans S8]
     have:=Nat.mul_le_mul_right ie.size hcapE; omega,λ m hm=>by rw [List.getElem?_take,if_pos hm,List.getElem?_drop,Array.getElem?_toList]⟩
   have hold:(Builtin.firstCells ie.size es.length (.slice (some ⟨b,off,none⟩) es.length cap)).run C.P w.drew=.ok olds.toArray w.drew:=by
    exact HV
   obtain ⟨v,w',g',hr',hst'⟩:=ni ty (es:=es) (λ i=>Nat.beq i k||Nat.beq i d) hDl G hy1 hi Tb hie hS hzl' M' hlen' hs (some ⟨b,off,none⟩) cap olds
    hold hol hsz' (λ i y j x hy hx=>by
     obtain ⟨k1,u,hu,hr⟩:=hinv i y j x hy hx;have hi:i < es.length:=(List.getElem?_eq_some_iff.1 hy).1;have hj:j < ie.size:=by rw [<- hsz' y (List.mem_of_getElem? hy)]; exact (List.getElem?_eq_some_iff.1 hx).1
     have hm2:(i+1)*ie.size<=es.length*ie.size:=Nat.mul_le_mul_right _ O;rw [Nat.add_mul] at hm2
     exact HZ) O o.type hn hty'
   exact HY
theorem qZ {α:Type}(f:α->PV)(l0:List α){z:PV}{t tx e e':TypeId}{x y:Operand}{k sz ty:Nat}{i ie j:TI}(ho:o.op=.call { callee:=.builtin .append,args:=#[x,y],argTypes:=#[t,tx] })(hd:o.dst=some d)(hn:Nat.blt d C.n=true)
  (hi:look C.tt t=some i) (Tb:i.k=.slice e) (hie:look C.tt e=some ie) (hj:look C.tt tx=some j) (hjk:j.k=.slice e') (hx:evo sl x=some (.vec k sz ty (l0.map f))) (hk:Nat.blt k M1=true) (hiz:ie.size=sz)
  (hy:evo sl y=some (.p (eL (λ x:PV=>x) [z]))) (SS:Nat.beq z.cells.length ie.size=true) (h0:Nat.blt 0 ie.size=true) (hzl:Nat.beq ie.zero.length ie.size=true) (hby:Nat.blt 0 ie.bytes=true)
  (hty:(Nat.beq ty 0||Nat.beq ty (e+1))=true) (M':(l0.length+1)*ie.bytes<=140737488355328)
  (hK:K ⟨(d,.vecp d sz ty (l0.map f))::(dr (λ i=>Nat.beq i k||Nat.beq i d) ⟨sl,ob⟩).sl,(dr (λ i=>Nat.beq i k||Nat.beq i d) ⟨sl,ob⟩).ob⟩):bg C o K ⟨sl,ob⟩:=by
 have hby':1<=ie.bytes:=Nat.succ_le_of_lt (by simpa using hby);have h1:(l0.length+1)*1<=(l0.length+1)*ie.bytes:=Nat.mul_le_mul_left _ hby';have hs':∀ y∈[z],y.cells.length=ie.size:=λ y hy=>by rw [List.mem_singleton.1 hy]; exact dg SS
 exact y7 (ys:=[z]) ho hd hn hi Tb hie hx hk hiz Z (pq hj hjk hy Z hs' (by simpa using h0)) hs' h0 hzl (by rw [List.length_map]; exact M') (by rw [List.length_map]; omega) hty hK
theorem pQ {t e:TypeId}{x y:Operand}{i ie:TI}{tok sz ty:Nat}{es:List PV}{k:IntKind}{n:Int}(ho:o.op=.indexAddr t x y)(hd:o.dst=some d)(hn:Nat.blt d C.n=true)
  (hi:look C.tt t=some i) (Tb:i.k=.slice e) (hie:look C.tt e=some ie) (hiz:ie.size=sz) (hx:evo sl x=some (.vecp tok sz ty es)) (hy:evo sl y=some (.p (.val (.int k n)))) (hnn:n=(es.length:Int))
  (hK:K ⟨(d,.elp tok sz)::sl,ob⟩):bg C o K ⟨sl,ob⟩:=by
 subst hiz hnn;obtain ⟨u,h1,h2⟩:=bU C.good hi;have h3:=dl (h2.trans Tb);subst h3;refine ok_one hd hn (λ g a w hs=>?_) hK;have h5:=bP hs hx;generalize hv:a.eval x=v at h5
 cases h5 with
 | vecp how hb S8 hcap SS S7 hr hty =>
  rename_i b off cap c e0;refine ⟨.pointer (some ⟨b,off+es.length*ie.size,none⟩),?_,.elp how hb ?_ S7⟩
  ·have h6:(es.length:Int) < ((es.length+1:Nat):Int):=by omega
   simp [execOp,ho,hv,b7 hs hy,Instr.indexAt,asIntOf,run_underlying h1,run_sizeOf C.good hie,add_lit]
  ·rw [S8];have:=Nat.mul_le_mul_right ie.size hcap;rw [Nat.add_mul,Nat.one_mul] at this;omega
def upP (tok sz:Nat)(z:PV)(x:AV):AV:=match x with
 | .vecp t s ty es=>bif Nat.beq t tok&&Nat.beq s sz then .vec t s ty (es++[z]) else .undef
 | x=>x.dem (Nat.beq · tok)
def upPS (tok sz:Nat)(z:PV):List (Nat×AV)->Option (List (Nat×AV))
 | []=>some []
 | (i,x)::r=>(match frc (upP tok sz z x) with
  | some y=>(match upPS tok sz z r with | some l=>some ((i,y)::l) | none=>none)
  | none=>none)
def MY (tok sz:Nat)(z:PV):List AV->Option (List AV)
 | []=>some []
 | x::r=>(match frc (upP tok sz z x) with
  | some y=>(match MY tok sz z r with | some l=>some (y::l) | none=>none)
  | none=>none)
theorem DC {tok sz:Nat}{z:PV}:∀ {l l':List AV},MY tok sz z l=some l'->l'=l.map (upP tok sz z)
 | [],l',h=>by cases h; rfl
 | x::r,l',h=>by
  unfold MY at h;split at h
  ·rename_i y hy;split at h
   ·rename_i m hm; cases h; rw [Cl hy,DC hm]; rfl
   ·cases h
  ·cases h
def FQ (tok sz:Nat)(z:PV):List (Nat×List AV)->Option (List (Nat×List AV))
 | []=>some []
 | (i,cs)::r=>(match Nat.beq i tok with
  | true=>FQ tok sz z r
  | false=>(match MY tok sz z cs with
   | some ds=>(match FQ tok sz z r with | some l=>some ((i,ds)::l) | none=>none)
   | none=>none))
theorem rB {tok sz:Nat}{z:PV}:∀ {l l':List (Nat×List AV)},FQ tok sz z l=some l'->∀ id cs,look l' id=some cs->id≠tok/\∃ ds,look l id=some ds/\cs=ds.map (upP tok sz z)
 | [],l',h,id,cs,hc=>by cases h; cases hc
 | (i,xs)::r,l',h,id,cs,hc=>by
  unfold FQ at h;split at h
  ·rename_i hb;obtain ⟨h1,ds,h2,h3⟩:=rB h id cs hc;have hi:=dg hb;refine ⟨h1,ds,?_,h3⟩;rw [aX,if_neg (λ e'=>h1 O)];exact h2
  ·rename_i hb;have hi:i≠tok:=λ e=>by subst e; simp at hb
   split at h
   ·rename_i ds hds;split at h
    ·rename_i m hm
     cases h
     rw [aX] at hc ⊢;by_cases e1:i=id
     ·subst e1;rw [if_pos rfl] at hc ⊢
      cases hc
      exact ⟨hi,xs,Z,DC hds⟩
     ·rw [if_neg e1] at hc ⊢;exact rB hm id cs hc
    ·cases h
   ·cases h
theorem wM {t:TypeId}{x v:Operand}{i:TI}{tok sz:Nat}{z:PV}{sl':List (Nat×AV)}{ob':List (Nat×List AV)}(ho:o.op=.store t x v)(hd:o.dst=none)
  (hi:look C.tt t=some i) (hiz:i.size=sz) (hx:evo sl x=some (.elp tok sz)) (hv:evo sl v=some (.p z)) (hc:(AV.p z).cellsA=some (z.cells.map .p)) (hcl:Nat.beq z.cells.length sz=true) (htok:Nat.blt tok M1=true)
  (h1:sl'=sl.map λ p=>(p.1,upP tok sz z p.2)) (h2:FQ tok sz z ob=some ob') (hK:K ⟨sl',ob'⟩):bg C o K ⟨sl,ob⟩:=by
 subst hiz h1;have htl:tok < M1:=n7 ▸ htok;have hcl':=dg hcl;intro g a w hs;have h5:=bP hs hx;have h6:=bP hs hv;obtain ⟨hs1,hs2⟩:=kP hc h6;rw [List.length_map] at hs1;generalize S4:a.eval x=u at h5
 cases h5 with
 | elp how k2 hp S7 =>
  rename_i b p c e
  have Tf:∀ u∈(a.eval v).cells.toList,u.oneCell'=true:=by
   intro u hu;obtain ⟨j,hj,rfl⟩:=List.getElem_of_mem hu;simp only [Array.length_toList] at hj;exact (hs2 j ((z.cells.map AV.p)[j]' fk) _ (List.getElem?_eq_getElem fk) (by simp [hj])).2
  have hstc:=run_storeCells_at C.P b p e (a.eval v).cells.toList 0 c w k2 fk Tf;simp only [Nat.add_zero,Array.length_toList] at hstc;obtain ⟨c',hc'⟩:∃ c',c'=(c.toList.take p++(a.eval v).cells.toList++c.toList.drop (p+(a.eval v).cells.size)).toArray:=⟨_,rfl⟩
  rw [<- hc'] at hstc;have hsz':=run_sizeOf C.good hi w;have Tc:(a.eval v).cells.size=i.size:=hs1.trans hcl';unfold Oper.wp
  have hrun:(execOp a.eval o).run C.P w=.ok .skip (w.setRow b c'):=by
   simp [execOp,ho,S4,Instr.storeAt,Instr.sureAddr,storeVar,hsz',Tc,hstc]
  rw [hrun];simp only [Oper.upon,hd,Act.put]
  have SY:∀ j,c'[j]? = if p<=j/\j < p+i.size then (a.eval v).cells[j - p]? else c[j]?:=by
   intro j;rw [hc'];have:=oR c.toList (a.eval v).cells.toList p fk j;simp only [Array.length_toList,Array.getElem?_toList,Tc] at this;simpa [Tc] using this
  have hsize':c'.size=c.size:=by
   rw [hc']; simp; omega
  obtain ⟨g',hg'⟩:∃ g':Gh,g'=⟨λ b' o=>(b'=b/\o < p+i.size)\/(b'≠b/\g.st b' o),g.ow⟩:=⟨_,rfl⟩
  have hst':∀ b' o,g'.st b' o↔(b'=b/\o < p+i.size)\/(b'≠b/\g.st b' o):=λ b' o=>by rw [hg']
  have how':g'.ow=g.ow:=by rw [hg']
  have hev':Ev w g.st (w.setRow b c') g'.st:=by
   intro b2 o2 h2;by_cases e1:b2=b
   ·subst e1;have:=(S7 o2).1 h2;refine ⟨(hst' _ _).2 (.inl ⟨rfl,by omega⟩),?_⟩;simp only [World.cell?,k2,setRow_heap w b2 c c' e (0,0) k2];have h7:=SY o2;rw [if_neg O] at h7;simpa using h7
   ·exact ⟨(hst' _ _).2 (.inr ⟨e1,h2⟩),by simp only [World.cell?,setRow_other w b b2 c' e1]⟩
  have Wk:∀ id b2,Nat.beq id tok=false->g.ow id=some b2->b2≠b:=λ id b2 hD h e=>by
   subst e;have:=hs.inj id tok b2 h how;subst this;simp at hD
  have hE:EvO (Nat.beq · tok) w g (w.setRow b c') g':=by
   refine ⟨hev',λ id b2 _ h=>by rw [how']; exact h,λ id b2 c2 e2 hD h h2=>⟨c2,(setRow_other w b b2 c' (Wk id b2 hD h)).trans h2,Z⟩,λ id b2 o2 hD h h3=>?_,λ id b2 es2 k2' hD h h2=>(setRow_other w b b2 c' (Wk id b2 hD h)).trans h2,λ i hi=>?_,λ id b2 o2 hD h _=>setRow_other w b b2 c' (Wk id b2 hD h)⟩
   ·rcases (hst' _ _).1 h3 with h4 | h4
    ·exact absurd h4.1 (Wk id b2 hD h)
    ·exact h4.2
   ·cases hq:Nat.beq i tok
    ·rfl
    ·have:=dg hq; have:=DL hi; omega
  have hup:∀ {y:AV} {u:Value},ARep w g y u->ARep (w.setRow b c') g' (upP tok i.size z y) u:=by
   intro y u h;unfold upP;split
   ·rename_i t s ty es
    cases hq:(Nat.beq t tok&&Nat.beq s i.size)
    ·exact gK
    ·simp only [n6] at hq;have e1:=dg hq.1;have e2:=dg hq.2;subst e1 e2;rw [cond_true]
     cases h with
     | vecp how2 hb2 hcs2 hcap2 hsz2 hst2 hr2 hty2 =>
      rename_i b2 off cap c2 e2;rw [how] at how2; cases how2;rw [k2] at hb2; cases hb2
      have hpo:p=off+es.length*i.size:=by
       rcases Nat.lt_trichotomy p (off+es.length*i.size) with h7 | h7 | h7
       ·have:=(S7 p).1 ((hst2 p).2 h7); omega
       ·exact h7
       ·have:=(hst2 (off+es.length*i.size)).1 ((S7 _).2 h7); omega
      have hinv:=qQ hsz2 k2 hr2;have M':(es++[z]).length=es.length+1:=by simp
      have:=tv (w:=w.setRow b c') (g:=g') (tok:=t) (es:=es++[z]) (cap:=cap) (by rw [how']; exact how) (setRow_heap w b c c' e (0,0) k2) (hsize'.trans hcs2) (by rw [M']; exact hcap2) (λ x hx=>by
       rcases List.mem_append.1 hx with hx | hx
       ·exact hsz2 x hx
       ·rw [List.mem_singleton.1 hx]; exact hcl') (λ o=>by
       rw [hst',M',Nat.add_mul,Nat.one_mul]
       exact ⟨λ h=>h.elim (λ h=>by omega) (λ h=>absurd Z h.1),λ h=>.inl ⟨Z,by omega⟩⟩) (λ k y j x hy hx=>?_) hty2
      ·rw [M'] at this; exact this
      ·have hcl2:y.cells.length=i.size:=by
        rcases List.mem_append.1 (List.mem_of_getElem? hy) with hx | hx
        ·exact hsz2 y hx
        ·rw [List.mem_singleton.1 hx]; exact hcl'
       have hjl:j < i.size:=by rw [<- hcl2]; exact (List.getElem?_eq_some_iff.1 hx).1
       rw [List.getElem?_append] at hy;split at hy
       ·rename_i hlt;obtain ⟨q1,u,hu,hr⟩:=hinv k y j x hy hx;have hm2:(k+1)*i.size<=es.length*i.size:=Nat.mul_le_mul_right _ O;rw [Nat.add_mul] at hm2;refine ⟨q1,u,?_,hr.mono hev'⟩;rw [SY,if_neg O]; exact hu
       ·rename_i hge
        have ZN:k - es.length=0:=by
         have:=(List.getElem?_eq_some_iff.1 hy).1;simp at this; omega
        rw [ZN] at hy;simp only [List.getElem?_cons_zero,bt] at hy;subst hy;have Zg:k=es.length:=by omega
        subst Zg;have hjc:j < (a.eval v).cells.size:=by omega
        have h8:=hs2 j (.p x) _ (by simp [hx]) (Array.getElem?_eq_getElem hjc);refine ⟨?_,(a.eval v).cells[j],?_,?_⟩
        ·have h9:PV.onesB z.cells=true\/z.one=true:=by
          cases z with
          | agg cs =>
           simp only [AV.cellsA] at hc
           cases ho:PV.onesB cs
           ·rw [ho] at hc; cases hc
           ·exact .inl ho
          | val _ =>
           simp only [AV.cellsA] at hc;rename_i v0
           cases ho:v0.oneCell'
           ·rw [ho] at hc; cases hc
           ·exact .inr ho
          | slice _=>exact .inr Z
          | ifc=>exact .inr Z
          | aint _=>exact .inr Z
         rcases h9 with h9 | h9
         ·exact jb h9 x (List.mem_of_getElem? hx)
         ·have:z.cells=[z]:=by cases z <;> first | rfl | (simp [PV.one] at h9)
          rw [this] at hx;have:=(List.getElem?_eq_some_iff.1 hx).1;simp at this;subst this;simp at hx;rw [<- hx]; exact h9
        ·rw [SY,if_pos ⟨by omega,by omega⟩,hpo];rw [show off+es.length*i.size+j - (off+es.length*i.size)=j by omega];exact Array.getElem?_eq_getElem hjc
        ·cases h8.1 with
         | p hr=>exact hr.mono hev'
   ·exact h.dem hE
  refine ⟨g',⟨sl.map λ p=>(p.1,upP tok i.size z p.2),ob'⟩,?_,hK⟩;refine ⟨hs.nd,hs.sz,λ j=>?_,λ id' cs' h'=>?_,by rw [how']; exact hs.inj,λ j b2 h=>?_,λ b2 o2 h=>?_,hs.fl,λ b2 h=>?_,hs.os,hs.out,hs.tape,?_,λ b2 h o2=>?_,by rw [how']; exact hs.owf,hs.shf.next (λ _ b c e _ _ h=>(qf k2 hsize').1 b c e h),λ j b2 hj h o2 h3=>?_,hs.ev0.trans hev'⟩
  ·have h:=hs.sl j;simp only [AS.get,lk];simp only [AS.get] at h
   cases hl:look sl j with
   | none=>simp only [Option.map_none,Option.getD_none]; exact .undef _
   | some x=>rw [hl] at h; simpa using hup h
  ·obtain ⟨hne',ds,m1,rfl⟩:=rB h2 id' cs' h';obtain ⟨b2,c2,e2,n1,n2,n3,n4,n5⟩:=hs.ob id' ds m1
   have hD:Nat.beq id' tok=false:=by
    cases hq:Nat.beq id' tok
    ·rfl
    ·exact absurd (dg hq) hne'
   have hb2:=Wk id' b2 hD n1;refine ⟨b2,c2,e2,by rw [how']; exact n1,(setRow_other w b b2 c' hb2).trans n2,by simpa using n3,λ o2 h3=>?_,λ j y hy=>?_⟩
   ·rcases (hst' _ _).1 h3 with h4 | h4
    ·exact hb2 h4.1
    ·exact n4 o2 h4.2
   ·simp only [List.getElem?_map,rd] at hy;obtain ⟨y0,hy0,rfl⟩:=hy;obtain ⟨u,hu,hr⟩:=n5 j y0 hy0;exact ⟨u,hu,hup hr⟩
  ·rw [how'] at h;have:=hs.own j b2 h; exact ⟨by simpa using this.1,this.2⟩
  ·rcases (hst' _ _).1 h with h4 | h4
   ·have:=(hs.own tok b how).1; rw [h4.1]; simpa using this
   ·have:=hs.lt b2 o2 h4.2; simpa using this
  ·have Tc:b2≠b:=λ e=>(hs.own tok b how).2 (e ▸ h);exact (setRow_other w b b2 c' Tc).trans (hs.fr b2 h)
  ·have:=hs.size; simpa using this
  ·have Tc:b2≠b:=λ e=>(hs.own tok b how).2 (e ▸ h)
   exact ⟨λ h3=>by
    rcases (hst' _ _).1 h3 with h4 | h4
    ·exact absurd h4.1 Tc
    ·exact (hs.stf b2 h o2).1 h4.2,λ h3=>(hst' _ _).2 (.inr ⟨Tc,(hs.stf b2 h o2).2 h3⟩)⟩
  ·rcases (hst' _ _).1 h3 with h4 | h4
   ·have h7:g.ow j=some b2:=(hs.owf j hj (C.w0.lo j b2 h)).trans h;have:=hs.inj j tok b2 h7 (by rw [h4.1]; exact how);omega
   ·exact hs.nst j b2 hj h o2 h4.2
end
def rE (c:Nat)(imp:List Nat):fC->fC->Prop
 | (k,d,v)::r,(k',d',v')::r'=>(k=k'/\d=d'/\(imp.any (Nat.beq k)=true\/v c=v' c))/\rE c imp r r'
 | [],[]=>True
 | _,_=>False
theorem sI {c:Nat}{imp:List Nat}:∀ {r1 r2:fC},rE c imp r1 r2->∀ k p,imp.any (Nat.beq k)=false->cU r2 k=some p->∃ v,cU r1 k=some (p.1,v)/\v c=p.2 c
 | [],[],_,k,p,_,h=>by cases h
 | (k1,d1,v1)::r,(k2,d2,v2)::r',⟨⟨e1,e2,e3⟩,hr⟩,k,p,hk,h=>by
  subst e1 e2;simp only [cU] at h ⊢
  cases hb:Nat.beq k1 k
  ·rw [hb,cond_false] at h;rw [cond_false];exact sI hr k p hk h
  ·exact Ge
 | [],_::_,h,_,_,_,_=>h.elim
 | _::_,[],h,_,_,_,_=>h.elim
theorem Da {C:Cx}{ops:Array Oper}{S1 S2:eF}{c k:Nat}{r1 r2:fC}{imp:List Nat}(h1:lks (du r2 S2.m++S2.bas S2.m) ((du r1 S1.m++S1.bas S1.m).map (·.1))=some ((du r1 S1.m++S1.bas S1.m).map (·.2)))
  (h2:lkE (S1.obj S1.m) (S2.obj S2.m) (S1.obj S1.m)) (h3:rE c imp r1 r2) :
  DS C ops S2 (λ rev2=>(⟨du rev2 S2.m++S2.bas S2.m,S2.obj S2.m⟩:AS).le ⟨du r1 S1.m++S1.bas S1.m,S1.obj S1.m⟩/\rE c imp r1 rev2) [] k r2:=by
 exact H9
theorem Cy {C:Cx}{id:Nat}{ops:Array Oper}{Q:Exit->AS->Prop}{sl:List (Nat×AV)}{ob:List (Nat×List AV)}(S1 S2:eF){k0 k1 k2:Nat}{r:List Nat}(hm:C.P.follows .mixedOrders=true)
  (hi1:S1.imp=k0::k1::k2::r) (hi2:S2.imp=k0::k2::k1::r) (hlen1:S1.imp.length=S1.m) (hlen2:S2.imp.length=S2.m) (hob1:S1.obj 0=ob) (hob2:S2.obj 1=S1.obj 1) (hb:ey sl (S1.bas 0)) (hb2:S2.bas 1=S1.bas 1)
  (hbas1:∀ j,j < S1.m->ey (trL (S1.D j) (S1.bas j)) (S1.bas (j+1))) (hbas2:∀ j,j < S2.m->ey (trL (S2.D j) (S2.bas j)) (S2.bas (j+1)))
  (hnd:nodupB (k0::k1::k2::r)=true) (hin:(k0::k1::k2::r).all (λ i=>Nat.blt i ops.size)=true) (hch1:chainB ops (k0::k1::r)=true) (hch2:chainB ops (k0::k2::r)=true)
  (hord:(ops.toList.zipIdx.all λ p=>p.1.after.toList.all λ e=>!(Region.binds .any e)||Nat.blt e.on p.2)=true)
  (h:DS C ops S1 (λ rev1=>Q .normal ⟨du rev1 S1.m++S1.bas S1.m,S1.obj S1.m⟩/\DS C ops S2 (λ rev2=>(⟨du rev2 S2.m++S2.bas S2.m,S2.obj S2.m⟩:AS).le ⟨du rev1 S1.m++S1.bas S1.m,S1.obj S1.m⟩/\rE 1 (k1::k2::r) rev1 rev2) ops.toList 0 []) ops.toList 0 []):awp C (.region id ops true) Q ⟨sl,ob⟩:=by
 intro g a w hs
 have hnd2:nodupB S2.imp=true:=by
  rw [hi2];simp only [nodupB,List.any_cons,Bool.not_or,n6,Bool.not_eq_true'] at hnd ⊢;obtain ⟨⟨b1,b2,b3⟩,⟨a1,a2⟩,a3,a4⟩:=hnd;refine ⟨⟨b2,b1,b3⟩,⟨?_,a3⟩,a2,a4⟩;exact IP
 have hin2:S2.imp.all (λ i=>Nat.blt i ops.size)=true:=by
  rw [hi2];simp only [List.all_cons,n6] at hin ⊢;exact ⟨hin.1,hin.2.2.1,hin.2.1,hin.2.2.2⟩
 obtain ⟨fin1,⟨hf1,h2⟩,hP1⟩:=zJ.mk' hlen1 hbas1 (by rw [hi1]; exact hnd) (by rw [hi1]; exact hin) hord h;obtain ⟨fin2,⟨hf2,hag⟩,hP2⟩:=zJ.mk' hlen2 hbas2 hnd2 hin2 hord h2
 have chain:∀ (x y:Nat) (S:eF),S.imp=k0::x::y::r->chainB ops (k0::y::r)=true->chainB ops (k0::x::r)=true->∀ (listed:Array Bool) (j i q:Nat),A0 ops S listed j->i∈Region.ready .any ops listed->S.imp[q]? = some i->j < q->q=2/\j=1:=by
  intro x y S hS hcy hcx listed j i q hI hi hq hjq;obtain ⟨h1,o,ho,hafter⟩:=mem_ready.1 hi
  have use:∀ z zi,S.imp[z]? = some zi->mI ops 4 o zi=true->z < j:=by
   exact KF
  match q,hq,hjq with
  | 0,_,hjq=>omega
  | 1,hq,hjq =>
   exfalso;rw [hS] at hq;have b1:=j8 hcx 0 k0 i o Z qi ho;have:=use 0 k0 (by rw [hS]; rfl) b1;omega
  | 2,hq,hjq =>
   rw [hS] at hq;have b1:=j8 hcy 0 k0 i o rfl qi ho;have:=use 0 k0 (by rw [hS]; rfl) b1;exact ⟨rfl,by omega⟩
  | q+3,hq,hjq =>
   exfalso;rw [hS] at hq;simp only [List.getElem?_cons_succ] at hq;have hql:q < r.length:=(List.getElem?_eq_some_iff.1 hq).1
   cases q with
   | zero =>
    have b1:=j8 hcy 1 y i o Z qi ho;have:=use 2 y (by rw [hS]; rfl) b1;omega
   | succ q =>
    have b1:=j8 hcy (q+2) r[q] i o (by simp [List.getElem?_eq_getElem (show q < r.length by omega)]) qi ho;have:=use (q+3) r[q] (by rw [hS]; simp [List.getElem?_eq_getElem (show q < r.length by omega)]) b1;omega
 have two:=nQ hP2 hf2 hf1 2 (λ fuel listed g a w sl' j hj S' i q hi hq hjq=>by
  have:=chain k2 k1 S2 hi2 hch1 hch2 listed j i q S'.inv hi hq hjq; omega)
 refine wp_region_any hm ?_;refine (nQ hP1 (AS.le_refl _) hf1 0 ?_).1 _ _ g a _ sl 0 (rg _) (PAt.start hb (by rw [hob1]; exact hs.drew));intro fuel listed g a w sl' j _ S' i q hi hq hjq;obtain ⟨rfl,rfl⟩:=chain k1 k2 S1 hi1 hch2 hch1 listed j i q S'.inv hi hq hjq;have Tb:i=k2:=by rw [hi1] at hq; simpa using hq.symm
 subst Tb
 have hno:∀ k,(k1::i::r).any (Nat.beq k)=true->listed.getD k false=false:=by
  intro k hk;obtain ⟨x,hx,hkx⟩:=List.any_eq_true.1 hk;have:=dg hkx;subst this;obtain ⟨z,hz⟩:=List.mem_iff_getElem?.1 hx;have:=S'.inv.2.1 (z+1) k (by rw [hi1]; simpa using hz);exact Jg
 have hm2:1<=S2.m:=by rw [<- hlen2,hi2]; simp
 refine two.2 fuel listed g a w sl' 1 i (.inr ⟨bx _,by rw [hi2]; rfl⟩) hi ⟨S'.sz,S'.un,⟨hm2,λ z k hz=>?_,S'.inv.2.2⟩,⟨λ z x hx=>S'.kn.1 z x (by rw [<- hb2]; exact hx),λ k p hk hp=>?_⟩,by rw [hob2]; exact S'.st⟩
 ·cases z with
  | zero =>
   have hz0:k=k0:=by rw [hi2] at hz; simpa using hz.symm
   subst hz0;have:=S'.inv.2.1 0 k (by rw [hi1]; rfl);exact this
  | succ z =>
   constructor
   ·intro hl
    have hmem:k∈(k1::i::r):=by
     have:=List.mem_of_getElem? (show (i::k1::r)[z]? = some k by rw [hi2] at hz; simpa using hz);exact Kw
    rw [hno k (List.any_eq_true.2 ⟨k,hmem,by simp⟩)] at hl
    cases hl
   ·intro h; omega
 ·have hk':(k1::i::r).any (Nat.beq k)=false:=by
   exact Hf
  obtain ⟨v,hv1,hv2⟩:=sI hag k p hk' hp;have:=S'.kn.2 k _ hk hv1;rw [<- hv2]; exact this
theorem mSP {C:Cx}{Q:Exit->AS->Prop}{k:List Fr}{ops:Array Oper}{sl:List (Nat×AV)}{ob:List (Nat×List AV)}(S1 S2:eF){id k0 k1 k2:Nat}{r:List Nat}(hm:C.P.follows .mixedOrders=true)
  (hi1:S1.imp=k0::k1::k2::r) (hi2:S2.imp=k0::k2::k1::r) (hlen1:S1.imp.length=S1.m) (hlen2:S2.imp.length=S2.m) (hob1:S1.obj 0=ob) (hob2:S2.obj 1=S1.obj 1) (hb:ey sl (S1.bas 0)) (hb2:S2.bas 1=S1.bas 1)
  (hbas1:∀ j,j < S1.m->ey (trL (S1.D j) (S1.bas j)) (S1.bas (j+1))) (hbas2:∀ j,j < S2.m->ey (trL (S2.D j) (S2.bas j)) (S2.bas (j+1)))
  (hnd:nodupB (k0::k1::k2::r)=true) (hin:(k0::k1::k2::r).all (λ i=>Nat.blt i ops.size)=true) (hch1:chainB ops (k0::k1::r)=true) (hch2:chainB ops (k0::k2::r)=true)
  (hord:(ops.toList.zipIdx.all λ p=>p.1.after.toList.all λ e=>!(Region.binds .any e)||Nat.blt e.on p.2)=true)
  (h:DS C ops S1 (λ rev1=>M C Q ⟨.ex .normal,k,⟨du rev1 S1.m++S1.bas S1.m,S1.obj S1.m⟩⟩/\DS C ops S2 (λ rev2=>(⟨du rev2 S2.m++S2.bas S2.m,S2.obj S2.m⟩:AS).le ⟨du rev1 S1.m++S1.bas S1.m,S1.obj S1.m⟩/\rE 1 (k1::k2::r) rev1 rev2) ops.toList 0 []) ops.toList 0 []) :
  M C Q ⟨.cd (.region id ops true),k,⟨sl,ob⟩⟩ :=
 Cy S1 S2 hm hi1 hi2 hlen1 hlen2 hob1 hob2 hb hb2 hbas1 hbas2 hnd hin hch1 hch2 hord h
end Go.Ab
end
section
namespace Go.Ab
open Go
section
variable {p:Prop}
theorem KN (h:p:=by
 by_cases hj:j < S.m
 ·exact NO e7 j hj
 ·have:look (S.bas (j - S.m+S.m)) d=none:=congrFun e8 (j - S.m)
  rwa [show j - S.m+S.m=j by omega] at this):p:=h
theorem KH (h:p:=by
 unfold bnP
 split <;> first | rfl | contradiction | (rename_i h _; cases h) | (rename_i h; cases h)):p:=h
end
def tmO:Operand->List Nat
 | .tmp t=>[t]
 | _=>[]
def tmL:List (Nat×Operand)->List Nat
 | []=>[]
 | (_,x)::r=>tmO x++tmL r
def opR (o:Oper):List Nat:=match o.op with
 | .move x=>tmO x
 | .assign x=>tmO x
 | .pick c x y=>tmO c++(tmO x++tmO y)
 | .binOp _ _ x y _=>tmO x++tmO y
 | .unOp _ _ x=>tmO x
 | .fieldAddr _ x _=>tmO x
 | .load _ x=>tmO x
 | .nilCheck x=>tmO x
 | .extract x _=>tmO x
 | .field _ x _=>tmO x
 | .convert _ _ x=>tmO x
 | .build _ parts=>tmL parts.toList
 | .store _ x v=>tmO x++tmO v
 | _=>[]
def qk (o:Oper):Bool:=match o.op with
 | .call _=>false
 | _=>true
def knKS:fC->Nat->Option Nat
 | [],_=>none
 | (k,d,_)::r,i=>bif Nat.beq d i then some k else knKS r i
def Pm (bas:List (Nat×AV))(o:Oper)(rev:fC)(j i:Nat):Option AV:=match look bas i with
 | some x=>some x
 | none=>(match knKS rev i with
  | some k=>(match iF o k with
   | true=>(match cU rev k with
    | some (i',v)=>(match Nat.beq i' i with
     | true=>some (v j)
     | false=>none)
    | none=>none)
   | false=>none)
  | none=>none)
def uY (bas:List (Nat×AV))(o:Oper)(rev:fC)(j:Nat):List Nat->List (Nat×AV)
 | []=>[]
 | i::r=>(match Pm bas o rev j i with
  | some x=>(i,x)::uY bas o rev j r
  | none=>uY bas o rev j r)
theorem M3 {bas:List (Nat×AV)}{o:Oper}{rev:fC}{j i:Nat}{x:AV}(h:Pm bas o rev j i=some x):look bas i=some x\/∃ k v,iF o k=true/\cU rev k=some (i,v)/\v j=x:=by
 unfold Pm at h;split at h
 ·rename_i y hy; cases h; exact .inl hy
 ·split at h
  ·rename_i k hk;split at h
   ·rename_i hb;split at h
    ·rename_i i' v hl;split at h
     ·rename_i hi
      cases h
      exact .inr ⟨k,v,hb,by rw [hl,dg hi],Z⟩
     ·cases h
    ·cases h
   ·cases h
  ·cases h
theorem kH {bas:List (Nat×AV)}{o:Oper}{rev:fC}{j:Nat}:∀ (l:List Nat),KnS bas o rev j (uY bas o rev j l)
 | []=>trivial
 | i::r=>by
  unfold uY;split
  ·rename_i x hx; exact ⟨M3 hx,kH r⟩
  ·exact kH r
section
variable {kn sl:List (Nat×AV)} {ob:List (Nat×List AV)} {C:Cx} {o:Oper}
theorem BM {F:Option AV->Option AV}{x:Operand}{y:AV}(hs:∀ i x,look kn i=some x->look sl i=some x)(hF:F none=none)(h:F (evo kn x)=some y):F (evo sl x)=some y:=by
 cases hx:evo kn x with
 | none=>rw [hx,hF] at h; cases h
 | some v=>rw [hx] at h; rw [ji hs hx]; exact h
theorem LW {c x y:Operand}{z:AV}(hs:∀ i x,look kn i=some x->look sl i=some x)(h:pkP kn x y (evo kn c)=some z):pkP sl x y (evo sl c)=some z:=by
 cases hc:evo kn c with
 | none=>rw [hc] at h; cases h
 | some v =>
  rw [hc] at h;rw [ji hs hc];exact Gi
theorem MQ {op:BinOp}{t:TypeId}(Y0z:Option AV):bnP C op t none Y0z=none:=by
 exact KH
theorem IX {op:BinOp}{t:TypeId}(X:Option AV):bnP C op t X none=none:=by
 exact KH
theorem Ml {op:BinOp}{t:TypeId}{x y:Operand}{z:AV}(hs:∀ i x,look kn i=some x->look sl i=some x)(h:bnP C op t (evo kn x) (evo kn y)=some z):bnP C op t (evo sl x) (evo sl y)=some z:=by
 cases hx:evo kn x with
 | none=>rw [hx,MQ] at h; cases h
 | some v =>
  cases hy:evo kn y with
  | none=>rw [hy,IX] at h; cases h
  | some u =>
   rw [hx,hy] at h;rw [ji hs hx,ji hs hy]; exact h
theorem tE (hs:∀ i x,look kn i=some x->look sl i=some x):∀ {ps:List (Nat×Operand)} {l:List (Nat×AV)},gW kn ps=some l->gW sl ps=some l
 | [],l,h=>h
 | (i,x)::r,l,h=>by
  unfold gW at h ⊢
  cases hx:evo kn x with
  | none=>rw [hx] at h; cases h
  | some v =>
   cases hr:gW kn r with
   | none=>rw [hx,hr] at h; cases h
   | some m =>
    rw [hx,hr] at h;rw [ji hs hx,tE hs hr]; exact h
theorem LY {t f:Nat}:faP C t f none=none:=by
 unfold faP
 repeat' split
 all_goals first | rfl | contradiction
theorem Mg {t:Nat}:ldP C ob t none=none:=by
 unfold ldP
 repeat' split
 all_goals first | rfl | contradiction
theorem Mj {t f:Nat}:flP C t f none=none:=by
 unfold flP
 repeat' split
 all_goals first | rfl | contradiction
theorem MK {t f:Nat}:cvP C t f none=none:=by
 unfold cvP
 repeat' split
 all_goals first | rfl | contradiction
theorem MX {t:Nat}:buP C t none=none:=by
 unfold buP
 repeat' split
 all_goals first | rfl | contradiction
theorem Mn {t:Nat}{ps:List (Nat×Operand)}{y:AV}(hs:∀ i x,look kn i=some x->look sl i=some x)(h:buP C t (gW kn ps)=some y):buP C t (gW sl ps)=some y:=by
 cases hp:gW kn ps with
 | none=>rw [hp,MX] at h; cases h
 | some l=>rw [hp] at h; rw [tE hs hp]; exact h
theorem ze {y:AV}(hs:∀ i x,look kn i=some x->look sl i=some x)(hc:qk o=true)(h:opV C o kn ob=some y):opV C o sl ob=some y:=by
 unfold opV qk at *
 cases ho:o.op <;> simp only [ho] at h hc ⊢
 all_goals first
  | (cases h; done)
  | exact ji hs h
  | exact LW hs h
  | exact Ml hs h
  | exact BM (F:=faP C _ _) hs LY h
  | exact BM (F:=ldP C ob _) hs Mg h
  | exact BM (F:=ncP) hs Z h
  | exact BM (F:=xtP _) hs Z h
  | exact BM (F:=flP C _ _) hs Mj h
  | exact BM (F:=cvP C _ _) hs MK h
  | exact Mn hs h
  | (cases hc; done)
  | skip
 all_goals (rename_i op _ _; cases op <;> simp only at h ⊢)
 all_goals first
  | (cases h; done)
  | exact BM (F:=ntP) hs Z h
def stV (C:Cx)(o:Oper)(kn:List (Nat×AV))(ob:List (Nat×List AV)):Option (List (Nat×List AV)):=match o.op with
 | .store t x v=>(match look C.tt t with
  | some i=>(match evo kn x with
   | some (.ptr id k)=>(match evo kn v with
    | some y=>(match y.cellsA with
     | some xs=>(match Nat.beq xs.length i.size with
      | true=>(match look ob id with
       | some cs=>(match Nat.ble (k+xs.length) cs.length with
        | true=>some ((id,nr cs k xs)::ob)
        | false=>none)
       | none=>none)
      | false=>none)
     | none=>none)
    | none=>none)
   | _=>none)
  | none=>none)
 | _=>none
theorem Ql {ops:Array Oper}{ob':List (Nat×List AV)}{K:AS->Prop}(h:stV C o kn ob=some ob')(hg:o.guard=none)(hd:o.dst=none)(hs:∀ i x,look kn i=some x->look sl i=some x)(hK:K ⟨sl,ob'⟩):One C ops o K ⟨sl,ob⟩:=by
 unfold stV at h;split at h
 ·rename_i t x v ho;split at h
  ·rename_i i hi;split at h
   ·rename_i id k hx;split at h
    ·rename_i y hv;split at h
     ·rename_i xs hc;split at h
      ·rename_i SS;split at h
       ·rename_i cs hob;split at h
        ·rename_i hl
         cases h
         exact ap hg (nW ho hd hi (ji hs hx) (ji hs hv) hc (dg SS) hob (sm hl) hK)
        ·cases h
       ·cases h
      ·cases h
     ·cases h
    ·cases h
   ·cases h
  ·cases h
 ·cases h
end
section
variable {C:Cx} {ops:Array Oper} {S:eF} {K:fC->Prop} {o:Oper} {k:Nat} {rev:fC} {d:Nat}
def sV (C:Cx)(ops:Array Oper)(S:eF)(o:Oper)(R:List Nat)(k:Nat)(rev:fC)(v:Nat->AV)(j:Nat):Option AV:=match mn ops S.imp o k j with
 | true=>opV C o (uY (S.bas j) o rev j R) (S.obj j)
 | false=>some (v j)
def sL (C:Cx)(ops:Array Oper)(S:eF)(o:Oper)(R:List Nat)(k:Nat)(rev:fC)(v:Nat->AV):Nat->List (Option AV)
 | 0=>[]
 | j+1=>sV C ops S o R k rev v j::sL C ops S o R k rev v j
def gL (ops:Array Oper)(S:eF)(o:Oper)(R:List Nat)(k:Nat)(rev:fC)(t:Nat)(x:AV):Nat->List (Option AV)
 | 0=>[]
 | j+1=>(match mn ops S.imp o k j with
  | true=>look (uY (S.bas j) o rev j R) t
  | false=>some x)::gL ops S o R k rev t x j
def vL (v:Nat->AV):Nat->List (Option AV)
 | 0=>[]
 | j+1=>some (v j)::vL v j
theorem NK {v:Nat->AV}(hg:o.guard=none)(hd:o.dst=some d)(hn:Nat.blt d C.n=true)(hc:qk o=true):∀ {m:Nat},sL C ops S o (opR o) k rev v m=vL v m->Stg C ops S o k rev d v m
 | 0,_=>trivial
 | j+1,h=>by
  have h1:sV C ops S o (opR o) k rev v j=some (v j):=(qr h).1;refine ⟨λ ha=>?_,NK hg hd hn hc (qr h).2⟩;unfold sV at h1;rw [ha] at h1;exact ⟨_,kH _,λ sl hs K hK=>ap hg (uh (ze hs hc h1) hd hn hK)⟩
def cL (S:eF)(d:Nat):Nat->List (Option AV)
 | 0=>[]
 | j+1=>look (S.bas j) d::cL S d j
def nL:Nat->List (Option AV)
 | 0=>[]
 | j+1=>none::nL j
def aL (v:Nat->AV):Nat->List AV
 | 0=>[]
 | j+1=>v (j+1)::aL v j
def bL (S:eF)(v:Nat->AV):Nat->List AV
 | 0=>[]
 | j+1=>trA (S.D j) (v j)::bL S v j
theorem NO:∀ {m:Nat},cL S d m=nL m->∀ j,j < m->look (S.bas j) d=none
 | 0,_,j,h=>absurd h (Nat.not_lt_zero _)
 | m+1,h,j,hj=>by
  by_cases e:j=m
  ·subst e; exact (qr h).1
  ·exact NO (qr h).2 j O
theorem tW {v:Nat->AV}:∀ {m:Nat},aL v m=bL S v m->∀ j,j < m->v (j+1)=trA (S.D j) (v j)
 | 0,_,j,h=>absurd h (Nat.not_lt_zero _)
 | m+1,h,j,hj=>by
  by_cases e:j=m
  ·subst e; exact (qr h).1
  ·exact tW (qr h).2 j O
theorem dP {rest:List Oper}(v:Nat->AV)
  (e:(o.dst,S.imp.findIdx? (Nat.beq k),o.guard,qk o,(rev.all λ p=>!(Nat.beq p.2.1 d)),Nat.blt d C.n,cL S d S.m,(λ j=>look (S.bas (j+S.m)) d),aL v S.m,sL C ops S o (opR o) k rev v (S.m+1))=(some d,none,none,true,true,true,nL S.m,(λ _=>none),bL S v S.m,vL v (S.m+1)))
  (h:DS C ops S K rest (k+1) ((k,d,v)::rev)):DS C ops S K (o::rest) k rev:=by
 simp only [ur] at e;obtain ⟨e1,e2,e3,e4,e5,e6,e7,e8,e9,Xb⟩:=e;refine kD v e2 e1 e5 (λ j=>?_) (tW e9) (NK e3 e1 e6 e4 Xb) h;exact KN
theorem dPc {rest:List Oper}(y:AV)
  (e:(o.dst,S.imp.findIdx? (Nat.beq k),o.guard,qk o,(rev.all λ p=>!(Nat.beq p.2.1 d)),Nat.blt d C.n,cL S d S.m,(λ j=>look (S.bas (j+S.m)) d),aL (λ _=>y) S.m,sL C ops S o (opR o) k rev (λ _=>y) (S.m+1))=(some d,none,none,true,true,true,nL S.m,(λ _=>none),bL S (λ _=>y) S.m,vL (λ _=>y) (S.m+1)))
  (h:DS C ops S K rest (k+1) ((k,d,λ _=>y)::rev)):DS C ops S K (o::rest) k rev:=dP (λ _=>y) e h
theorem dS {rest:List Oper}{i:Nat}
  (e:(S.imp.findIdx? (Nat.beq k),o.dst,o.guard,S.D i,stV C o (uY (S.bas i) o rev i (opR o)) (S.obj i))=(some i,none,none,Tr.none,some (S.obj (i+1))))
  (h:DS C ops S K rest (k+1) rev):DS C ops S K (o::rest) k rev:=by
 simp only [ur] at e;obtain ⟨e1,e2,e3,e4,e5⟩:=e;refine lj _ e1 (kH (opR o)) e2 (λ sl hs K hK=>?_) h;rw [e4] at hK;exact Ql e5 e3 e2 hs hK
theorem rP (e7:cL S d S.m=nL S.m)(e8:(λ j=>look (S.bas (j+S.m)) d)=λ _=>none)(j:Nat):look (S.bas j) d=none:=by
 exact KN
theorem JR {v:Nat->AV}{R:List Nat}{w b:Bool}{g t:Nat}(hb:b=w)(hg:o.guard=some (g,w))(hj:(ops.toList[g]?).bind (·.dst)=some t)(hd:o.dst=some d)(hn:Nat.blt d C.n=true)(hc:qk o=true) :
  ∀ {m:Nat},gL ops S o R k rev t (.p (.val (.bool b))) m=vL (λ _=>.p (.val (.bool b))) m->sL C ops S o R k rev v m=vL v m->Stg C ops S o k rev d v m
 | 0,_,_=>trivial
 | j+1,hG,h=>by
  have h1:sV C ops S o R k rev v j=some (v j):=(qr h).1;have h2:=(qr hG).1;refine ⟨λ ha=>?_,JR hb hg hj hd hn hc (qr hG).2 (qr h).2⟩;unfold sV at h1;rw [ha] at h1 h2;exact ⟨_,kH _,λ sl hs K hK=>dF (uh (ze hs hc h1) hd hn hK) hg hj (hs _ _ h2) hb⟩
theorem dPy {rest:List Oper}{w b:Bool}{g t:Nat}(v:Nat->AV)(hb:b=w)
  (e:(o.dst,o.guard,(ops.toList[g]?).bind (·.dst),S.imp.findIdx? (Nat.beq k),qk o,(rev.all λ p=>!(Nat.beq p.2.1 d)),Nat.blt d C.n,cL S d S.m,(λ j=>look (S.bas (j+S.m)) d),aL v S.m,gL ops S o (t::opR o) k rev t (.p (.val (.bool b))) (S.m+1),sL C ops S o (t::opR o) k rev v (S.m+1))=(some d,some (g,w),some t,none,true,true,true,nL S.m,(λ _=>none),bL S v S.m,vL (λ _=>.p (.val (.bool b))) (S.m+1),vL v (S.m+1)))
  (h:DS C ops S K rest (k+1) ((k,d,v)::rev)):DS C ops S K (o::rest) k rev:=by
 simp only [ur] at e;obtain ⟨e1,e2,e3,e4,e5,e6,e7,e8,e9,Xb,XU,ZA⟩:=e;exact kD v e4 e1 e6 (rP e8 e9) (tW Xb) (JR hb e2 e3 e1 e7 e5 XU ZA) h
theorem FL {R:List Nat}{w b:Bool}{g t:Nat}(hb:b=!w)(hg:o.guard=some (g,w))(hj:(ops.toList[g]?).bind (·.dst)=some t)(hd:o.dst=some d)(hn:Nat.blt d C.n=true) :
  ∀ {m:Nat},gL ops S o R k rev t (.p (.val (.bool b))) m=vL (λ _=>.p (.val (.bool b))) m->Stg C ops S o k rev d (λ _=>.p (.val Go.undef)) m
 | 0,_=>trivial
 | j+1,hG=>by
  have h2:=(qr hG).1;refine ⟨λ ha=>?_,FL hb hg hj hd hn (qr hG).2⟩;rw [ha] at h2;exact ⟨_,kH _,λ sl hs K hK=>FW hg hj (hs _ _ h2) hb hd hn hK⟩
theorem dPn {rest:List Oper}{w b:Bool}{g t:Nat}(hb:b=!w)
  (e:(o.dst,o.guard,(ops.toList[g]?).bind (·.dst),S.imp.findIdx? (Nat.beq k),(rev.all λ p=>!(Nat.beq p.2.1 d)),Nat.blt d C.n,cL S d S.m,(λ j=>look (S.bas (j+S.m)) d),aL (λ _=>.p (.val Go.undef)) S.m,gL ops S o [t] k rev t (.p (.val (.bool b))) (S.m+1))=(some d,some (g,w),some t,none,true,true,nL S.m,(λ _=>none),bL S (λ _=>.p (.val Go.undef)) S.m,vL (λ _=>.p (.val (.bool b))) (S.m+1)))
  (h:DS C ops S K rest (k+1) ((k,d,λ _=>.p (.val Go.undef))::rev)):DS C ops S K (o::rest) k rev:=by
 simp only [ur] at e;obtain ⟨e1,e2,e3,e4,e6,e7,e8,e9,Xb,XU⟩:=e;exact kD _ e4 e1 e6 (rP e8 e9) (tW Xb) (FL hb e2 e3 e1 e7 XU) h
theorem JL {R:List Nat}{w:Bool}{g t:Nat}(hg:o.guard=some (g,w))(hj:(ops.toList[g]?).bind (·.dst)=some t)(hd:o.dst=some d)(hn:Nat.blt d C.n=true) :
  ∀ {m:Nat},gL ops S o R k rev t (.p (.val Go.undef)) m=vL (λ _=>.p (.val Go.undef)) m->Stg C ops S o k rev d (λ _=>.p (.val Go.undef)) m
 | 0,_=>trivial
 | j+1,hG=>by
  have h2:=(qr hG).1;refine ⟨λ ha=>?_,JL hg hj hd hn (qr hG).2⟩;rw [ha] at h2;exact ⟨_,kH _,λ sl hs K hK=>zz hg hj (hs _ _ h2) hd hn hK⟩
theorem dPx {rest:List Oper}{w:Bool}{g t:Nat}
  (e:(o.dst,o.guard,(ops.toList[g]?).bind (·.dst),S.imp.findIdx? (Nat.beq k),(rev.all λ p=>!(Nat.beq p.2.1 d)),Nat.blt d C.n,cL S d S.m,(λ j=>look (S.bas (j+S.m)) d),aL (λ _=>.p (.val Go.undef)) S.m,gL ops S o [t] k rev t (.p (.val Go.undef)) (S.m+1))=(some d,some (g,w),some t,none,true,true,nL S.m,(λ _=>none),bL S (λ _=>.p (.val Go.undef)) S.m,vL (λ _=>.p (.val Go.undef)) (S.m+1)))
  (h:DS C ops S K rest (k+1) ((k,d,λ _=>.p (.val Go.undef))::rev)):DS C ops S K (o::rest) k rev:=by
 simp only [ur] at e;obtain ⟨e1,e2,e3,e4,e6,e7,e8,e9,Xb,XU⟩:=e;exact kD _ e4 e1 e6 (rP e8 e9) (tW Xb) (JL e2 e3 e1 e7 XU) h
end
def lkM (s:List (Nat×List AV)):List (Nat×List AV)->List (Option (List AV))
 | []=>[]
 | (j,_)::r=>look s j::lkM s r
def smM:List (Nat×List AV)->List (Option (List AV))
 | []=>[]
 | (_,cs)::r=>some cs::smM r
theorem ve {s:List (Nat×List AV)}:∀ {t:List (Nat×List AV)},lkM s t=smM t->leO s t
 | [],_=>trivial
 | (_j,cs)::_r,h=>⟨⟨cs,(qr h).1,aS cs⟩,ve (qr h).2⟩
theorem u6:∀ l:List AV,p8 l l
 | []=>trivial
 | x::r=>⟨AV.sub_refl x,u6 r⟩
def lkB (sl:List (Nat×AV)):List (Nat×AV)->List (Option AV)
 | []=>[]
 | (i,_)::r=>look sl i::lkB sl r
def smB:List (Nat×AV)->List (Option AV)
 | []=>[]
 | (_,x)::r=>some x::smB r
theorem sc {sl:List (Nat×AV)}:∀ {b:List (Nat×AV)},lkB sl b=smB b->ey sl b
 | [],_=>trivial
 | (_i,_x)::_r,h=>⟨(qr h).1,sc (qr h).2⟩
def lkS (S:eF):Nat->List (List (Option AV))
 | 0=>[]
 | j+1=>lkB (trL (S.D j) (S.bas j)) (S.bas (j+1))::lkS S j
def smS (S:eF):Nat->List (List (Option AV))
 | 0=>[]
 | j+1=>smB (S.bas (j+1))::smS S j
theorem ux {S:eF}:∀ {m:Nat},lkS S m=smS S m->∀ j,j < m->ey (trL (S.D j) (S.bas j)) (S.bas (j+1))
 | 0,_,j,h=>absurd h (Nat.not_lt_zero _)
 | m+1,h,j,hj=>by
  by_cases e:j=m
  ·subst e; exact sc (qr h).1
  ·exact ux (qr h).2 j O
section
variable {C:Cx} {Q:Exit->AS->Prop} {K:AS->Prop} {sl:List (Nat×AV)} {ob:List (Nat×List AV)} {o:Oper} {d:Nat} {s:AS} {k:List Fr} {ops:Array Oper}
theorem cVq (ids SN:List Nat)(NB NE:Nat){f:FuncId}{args:Array Operand}{ts:Array TypeId}{l q:List AV}{Ta qo rob ob':List (Nat×List AV)}{r r':AV}(hc:cv C.P f q qo (λ x y=>x=r/\y=rob))(henter:∀ vs w,(callFunc f vs).run C.P w=.ok (.enter f vs) w)
  (e:(o.op,o.dst,Nat.blt d C.n,ke sl args.toList,AV.mapA.go (kg ids SN) l,ib ob ids,gV (kg ids SN) Ta,lkM qo qo,nodupB ids,ids.all (λ i=>Nat.blt i (2*M1)),Nat.ble ids.length M1,Nat.ble NE M1,ids.all (λ i=>!(cj SN NB NE i)),nodupB SN,SN.all (λ i=>Nat.blt i M1),Nat.ble SN.length 100000,r.mapA (j3 ids NB NE),gV (j3 ids NB NE) rob)=(.call { callee:=.value (.func f),args:=args,argTypes:=ts },some d,true,some l,some q,some Ta,some qo,smM qo,true,true,true,true,true,true,true,true,some r',some ob'))
  (hK:K ⟨(d,r')::(dr (cj SN NB NE) ⟨sl,ob⟩).sl,ob'++(dr (cj SN NB NE) ⟨sl,ob.filter λ p=>!(ids.any (Nat.beq p.1))⟩).ob⟩):bg C o K ⟨sl,ob⟩:=by
 simp only [ur] at e;obtain ⟨e1,e2,e3,e4,e5,e6,e7,e8,e9,Xb,XU,ZA,ZO,e14,e15,Yy,e17,e18⟩:=e;exact aY ids SN NB NE hc e1 e2 e3 e4 e5 (u6 _) e6 e7 (ve e8) e9 Xb XU ZA ZO e14 e15 Yy henter e17 e18 hK
theorem mQoq {β:Type}{v v0:β}{tt:List (Nat×TI)}{fn:Func}{ts ids:List Nat}{mk:β->AV}{mo:β->List (Nat×List AV)}{Ta:List (Nat×List AV)}{l:List AV}(e:some v=some v0)
  (h:(mj tt fn.results.toList s,(qj l).mapA (mi ts),ib s.ob ids,gV (mi ts) Ta,lkM (mo v) (mo v))=(some l,some (mk v),some Ta,some (mo v),smM (mo v))):M C (λ e s=>∃ v,v=v0/\tL C tt fn ts ids (mk v) (mo v) e s) ⟨.ex .ret,[],s⟩:=by
 simp only [ur] at h;obtain ⟨h1,h2,h3,h4,h5⟩:=h;exact mQo (Option.some.inj e) (aU _) h1 h2 h3 h4 (AV.sub_refl _) (ve h5)
theorem mSq (S:eF){id:Nat}
  (e:(C.P.follows .mixedOrders,S.imp.length,S.obj 0,lkB sl (S.bas 0),lkS S S.m,nodupB S.imp,S.imp.all (λ i=>Nat.blt i ops.size),chainB ops S.imp,(ops.toList.zipIdx.all λ p=>p.1.after.toList.all λ e=>!(Region.binds .any e)||Nat.blt e.on p.2))=(true,S.m,ob,smB (S.bas 0),smS S S.m,true,true,true,true))
  (h:DS C ops S (λ rev=>M C Q ⟨.ex .normal,k,⟨du rev S.m++S.bas S.m,S.obj S.m⟩⟩) ops.toList 0 []):M C Q ⟨.cd (.region id ops true),k,⟨sl,ob⟩⟩:=by
 simp only [ur] at e;obtain ⟨e1,e2,e3,e4,e5,e6,e7,e8,e9⟩:=e;exact mS S e1 e2 e3 (sc e4) (ux e5) e6 e7 e8 e9 h
end
def ob2 (A:List (Nat×List AV))(x:Nat×List AV):Nat->List (Nat×List AV)
 | 0=>A
 | _+1=>x::A
def ob3 (A:List (Nat×List AV))(x y:Nat×List AV):Nat->List (Nat×List AV)
 | 0=>A
 | 1=>x::A
 | _+2=>y::x::A
def ob5 (A:List (Nat×List AV))(x y z u:Nat×List AV):Nat->List (Nat×List AV)
 | 0=>A
 | 1=>x::A
 | 2=>y::x::A
 | 3=>z::y::x::A
 | _+4=>u::z::y::x::A
end Go.Ab
end
section
namespace Go.Ab
open Go
class HP (h:Prop) (P:outParam Program) (f:outParam FuncId) (q:outParam (List PV)) (x:outParam AV):Prop where
 c:h->bO P f q (·=x)
class HO (h:Prop) (P:outParam Program) (f:outParam FuncId) (q:outParam (List AV)) (qo:outParam (List (Nat×List AV))) (x:outParam AV) (y:outParam (List (Nat×List AV))):Prop where
 c:h->cv P f q qo (λ a b=>a=x/\b=y)
class HC {α:Type} (f:α->PV) (cs:outParam (α->List PV)):Prop where
 c:∀ x,(f x).cells=cs x
class HE (P:Program) (f:FuncId):Prop where
 e:∀ vs w,(callFunc f vs).run P w=.ok (.enter f vs) w
def tg {α:Type}:List Nat->List (Nat×α)->Option (List (Nat×α))
 | _,[]=>some []
 | seen,(i,x)::r=>(match seen.any (Nat.beq i) with
  | true=>tg seen r
  | false=>(match tg (i::seen) r with
   | some l=>some ((i,x)::l)
   | none=>none))
theorem wS:∀ {sl:List (Nat×AV)} {seen:List Nat} {b:List (Nat×AV)},tg seen sl=some b->∀ p∈b,seen.any (Nat.beq p.1)=false/\look sl p.1=some p.2
 | [],seen,b,h,p,hp=>by simp only [tg,bt] at h; subst h; simp at hp
 | (i,x)::r,seen,b,h,p,hp=>by
  unfold tg at h;split at h
  ·rename_i hs;obtain ⟨h1,h2⟩:=wS h p hp;refine ⟨h1,?_⟩;rw [aX,if_neg (λ e=>by subst e; rw [h1] at hs; cases hs)]; exact h2
  ·rename_i hs;split at h
   ·rename_i l hl
    cases h
    rcases wr.1 hp with rfl | hp
    ·exact ⟨hs,by rw [aX,if_pos Z]⟩
    ·obtain ⟨h1,h2⟩:=wS hl p hp;rw [List.any_cons,Bool.or_eq_false_iff] at h1;refine ⟨h1.2,?_⟩;rw [aX,if_neg (λ e=>by have:=h1.1; rw [<- e] at this; simp at this)]; exact h2
   ·cases h
theorem base_of {sl:List (Nat×AV)}:∀ {b:List (Nat×AV)},(∀ p∈b,look sl p.1=some p.2)->ey sl b
 | [],_=>trivial
 | (i,x)::_r,h=>⟨h (i,x) (List.mem_cons_self ..),base_of λ p hp=>h p (List.mem_cons_of_mem _ hp)⟩
theorem y3 {sl b:List (Nat×AV)}(h:tg [] sl=some b):ey sl b:=base_of λ p hp=>(wS h p hp).2
def tkZ:Nat->List (Nat×AV)->Option (List Nat)
 | 0,_=>some []
 | n+1,(i,_)::r=>(match tkZ n r with
  | some l=>some (i::l)
  | none=>none)
 | _,[]=>none
def L0:List AV->List Nat->Option (List Nat)
 | [],_=>some []
 | .ptr i _::r,s=>(match s.any (Nat.beq i) with
  | true=>L0 r s
  | false=>(match L0 r (i::s) with
   | some l=>some (i::l)
   | none=>none))
 | .p _::r,s=>L0 r s
 | _::_,_=>none
def idsO (sl:List (Nat×AV))(o:Oper):Option (List Nat):=match o.op with
 | .call c=>(match ke sl c.args.toList with
  | some l=>L0 l []
  | none=>none)
 | _=>none
def gdS (ops:Array Oper)(o:Oper):Option Nat:=match o.guard with
 | some (j,_)=>(ops.toList[j]?).bind (·.dst)
 | none=>none
def biK (o:Oper)(kn:List (Nat×AV)):Option (BinOp×AV×AV):=match o.op with
 | .binOp op _ x y _=>(match evo kn x with
  | some X=>(match evo kn y with
   | some Y0z=>some (op,X,Y0z)
   | none=>none)
  | none=>none)
 | _=>none
theorem DO:∀ {b:List (Nat×AV)},nodupB (b.map (·.1))=true->∀ {p},p∈b->look b p.1=some p.2
 | [],_,p,hp=>by simp at hp
 | (i,x)::r,h,p,hp=>by
  simp only [la,nodupB,n6,Bool.not_eq_true'] at h;rcases wr.1 hp with rfl | hp
  ·rw [aX,if_pos rfl]
  ·rw [aX,if_neg ?_]
   ·exact DO h.2 hp
   ·intro e;have h1:=h.1;rw [List.any_eq_false] at h1;exact h1 p.1 (List.mem_map.2 ⟨p,hp,rfl⟩) (by simp [e])
def rgG (C:Cx)(ops:Array Oper):List Oper->Nat->List (Nat×AV)->List (Nat×List AV)->Option (List Nat×List (List (Nat×List AV)))
 | [],_,_,_=>some ([],[])
 | o::r,k,sl,ob=>(match o.dst with
  | some d=>(match oV C ops o sl ob with
   | some y=>rgG C ops r (k+1) ((d,y)::sl) ob
   | none=>(match biK o sl with
    | some (op,.p (.val (.int .i64 x)),.p (.val (.int .i64 y)))=>(match arI op x y with
     | some c=>rgG C ops r (k+1) ((d,.p (eI c))::sl) ob
     | none=>none)
    | _=>none))
  | none=>(match stV C o sl ob with
   | some ob'=>(match rgG C ops r (k+1) sl ob' with
    | some (im,Ta)=>some (k::im,ob'::Ta)
    | none=>none)
   | none=>none))
def M2 (A:List (Nat×List AV)):List (List (Nat×List AV))->Nat->List (Nat×List AV)
 | _,0=>A
 | [],_+1=>A
 | x::r,n+1=>M2 x r n
section
variable {C:Cx} {Q:Exit->AS->Prop} {K:AS->Prop} {k:List Fr} {sl b:List (Nat×AV)} {ob:List (Nat×List AV)} {ops:Array Oper} {r:List Oper} {o:Oper} {d:Nat}
def goOn:Ct->List Fr->Bool
 | .ex _,[]=>false
 | .ex .normal,.jo _::_=>false
 | .ex (.exit i),.je id _::_=>!(Nat.beq i id)
 | _,_=>true
theorem nxg (n:Nat){c:Ct}{s:AS}{c':Cf}(_:goOn c k=true)(h:run C n ⟨c,k,s⟩=some c')(hM:M C Q c'):M C Q ⟨c,k,s⟩:=nx n h hM
theorem mDa {id:Nat}(hn:tg [] sl=some b)(e:(C.P.follows .mixedOrders,ops.toList.all (λ o=>o.dst.isSome),(ops.toList.zipIdx.all λ p=>p.1.after.toList.all λ e=>!(Region.binds .any e)||Nat.blt e.on p.2))=(true,true,true))
  (h:DQ C ops b ob (λ s'=>M C Q ⟨.ex .normal,k,s'⟩) ops.toList 0 []):M C Q ⟨.cd (.region id ops true),k,⟨sl,ob⟩⟩:=by
 simp only [ur] at e;exact mD b e.1 (y3 hn) e.2.2 h
theorem mA {id:Nat}{im:List Nat}{Ta:List (List (Nat×List AV))}{Z0z:Prop}(hn:tg [] sl=some b)(hr:rgG C ops ops.toList 0 b ob=some (im,Ta))
  (e:(C.P.follows .mixedOrders,nodupB (b.map (·.1)),nodupB im,im.all (λ i=>Nat.blt i ops.size),chainB ops im,(ops.toList.zipIdx.all λ p=>p.1.after.toList.all λ e=>!(Region.binds .any e)||Nat.blt e.on p.2))=(true,true,true,true,true,true)) (z:Z0z)
  (h:Z0z->DS C ops ⟨im.length,im,λ _=>.none,λ _=>b,M2 ob Ta⟩ (λ rev=>M C Q ⟨.ex .normal,k,⟨du rev im.length++b,M2 ob Ta im.length⟩⟩) ops.toList 0 []:=by
   intro z
   repeat first | exact fq z | refine dPc _ Z ?_ | refine dS Z ?_ | refine dPn Z Z ?_ | refine dPx Z ?_ | refine dPy (λ _=>_) Z Z ?_ | refine dPa Z Z (by assumption) Z ?_):M C Q ⟨.cd (.region id ops true),k,⟨sl,ob⟩⟩:=by
 simp only [ur] at e;obtain ⟨e1,e0,e2,e3,e4,e5⟩:=e;exact mS ⟨im.length,im,λ _=>.none,λ _=>b,M2 ob Ta⟩ e1 rfl (by cases Ta <;> rfl) (y3 hn) (λ j _=>base_of λ p hp=>DO e0 hp) e2 e3 e4 e5 (h z)
theorem cVa {ids:List Nat}{f:FuncId}{args:Array Operand}{ts:Array TypeId}{l q:List AV}{Ta qo rob ob':List (Nat×List AV)}{r r':AV}(hc:cv C.P f q qo (λ x y=>x=r/\y=rob))(henter:∀ vs w,(callFunc f vs).run C.P w=.ok (.enter f vs) w)
  (_hi:idsO sl o=some ids)
  (e:(o.op,o.dst,Nat.blt d C.n,ke sl args.toList,AV.mapA.go (kg ids []) l,ib ob ids,gV (kg ids []) Ta,lkM qo qo,nodupB ids,ids.all (λ i=>Nat.blt i (2*M1)),Nat.ble ids.length M1,Nat.ble 101000 M1,ids.all (λ i=>!(cj [] 101000 101000 i)),nodupB [],([]:List Nat).all (λ i=>Nat.blt i M1),Nat.ble ([]:List Nat).length 100000,r.mapA (j3 ids 101000 101000),gV (j3 ids 101000 101000) rob)=(.call { callee:=.value (.func f),args:=args,argTypes:=ts },some d,true,some l,some q,some Ta,some qo,smM qo,true,true,true,true,true,true,true,true,some r',some ob'))
  (hK:K ⟨(d,r')::(dr (cj [] 101000 101000) ⟨sl,ob⟩).sl,ob'++(dr (cj [] 101000 101000) ⟨sl,ob.filter λ p=>!(ids.any (Nat.beq p.1))⟩).ob⟩):bg C o K ⟨sl,ob⟩:=cVq ids [] 101000 101000 hc henter e hK
variable {p:Prop} [Decidable p] {α:Type} {x y:Option α} {v:α} {T:List Nat} {c:Ct} {q:Bool}
theorem fDn (n:Nat)(h:(if p then x else y)=some v)(_hn:tkZ n sl=some T)(hT:lks sl T=some (T.map λ _=>.p (.val (.bool (decide p)))))
  (h1:p->x=some v->M C Q ⟨c,k,⟨stB true sl T,ob⟩⟩) (h2:¬p->y=some v->M C Q ⟨c,k,⟨stB false sl T,ob⟩⟩):M C Q ⟨c,k,⟨sl,ob⟩⟩:=fD T h hT h1 h2
theorem fNn (n:Nat)(h:(if p then x else y)=some v)(_hn:tkZ n sl=some T)(hT:lks sl T=some (T.map λ _=>.p (.val (.bool (!decide p)))))
  (h1:p->x=some v->M C Q ⟨c,k,⟨stB false sl T,ob⟩⟩) (h2:¬p->y=some v->M C Q ⟨c,k,⟨stB true sl T,ob⟩⟩):M C Q ⟨c,k,⟨sl,ob⟩⟩:=fN T h hT h1 h2
theorem fBn (n:Nat)(h:(if q=true then x else y)=some v)(_hn:tkZ n sl=some T)(hT:lks sl T=some (T.map λ _=>.p (.val (.bool q))))
  (h1:q=true->x=some v->M C Q ⟨c,k,⟨stB true sl T,ob⟩⟩) (h2:q=false->y=some v->M C Q ⟨c,k,⟨stB false sl T,ob⟩⟩):M C Q ⟨c,k,⟨sl,ob⟩⟩:=fB T h hT h1 h2
def Na (ops:Array Oper):Ct->Option (List Nat)
 | .cd (.cond (.tmp t) _ _)=>some [t]
 | .op _ (o::_)=>(match gdS ops o with
  | some t=>some [t]
  | none=>none)
 | _=>none
def LA:Ct->Array Oper
 | .op ops _=>ops
 | _=>#[]
theorem fDc (h:(if p then x else y)=some v)(_hn:Na (LA c) c=some T)(hT:lks sl T=some (T.map λ _=>.p (.val (.bool (decide p)))))
  (h1:p->x=some v->M C Q ⟨c,k,⟨stB true sl T,ob⟩⟩) (h2:¬p->y=some v->M C Q ⟨c,k,⟨stB false sl T,ob⟩⟩):M C Q ⟨c,k,⟨sl,ob⟩⟩:=fD T h hT h1 h2
theorem fNc (h:(if p then x else y)=some v)(_hn:Na (LA c) c=some T)(hT:lks sl T=some (T.map λ _=>.p (.val (.bool (!decide p)))))
  (h1:p->x=some v->M C Q ⟨c,k,⟨stB false sl T,ob⟩⟩) (h2:¬p->y=some v->M C Q ⟨c,k,⟨stB true sl T,ob⟩⟩):M C Q ⟨c,k,⟨sl,ob⟩⟩:=fN T h hT h1 h2
theorem fBc (h:(if q=true then x else y)=some v)(_hn:Na (LA c) c=some T)(hT:lks sl T=some (T.map λ _=>.p (.val (.bool q))))
  (h1:q=true->x=some v->M C Q ⟨c,k,⟨stB true sl T,ob⟩⟩) (h2:q=false->y=some v->M C Q ⟨c,k,⟨stB false sl T,ob⟩⟩):M C Q ⟨c,k,⟨sl,ob⟩⟩:=fB T h hT h1 h2
theorem lTc {q b:Bool}{t:Nat}(_hn:Na (LA c) c=some [t])(hT:look sl t=some (.p (.val (.bool q))))(hb:q=b)(h:M C Q ⟨c,k,⟨stB b sl [t],ob⟩⟩):M C Q ⟨c,k,⟨sl,ob⟩⟩:=lT [t] hb (by simp only [lks,hT,la,th]) h
end
section
variable {C:Cx} {Q:Exit->AS->Prop} {k:List Fr} {sl K1:List (Nat×AV)} {ob K2:List (Nat×List AV)} {c:Code} {σ:Type}
theorem kA (w:σ)(f:σ->List (Nat×AV))(g:σ->List (Nat×List AV))(_e1:∀ v,tg ((f v).map (·.1)) sl=some K1)(_e2:∀ v,tg ((g v).map (·.1)) ob=some K2)(h2:M C Q ⟨.ex .normal,k,⟨f w++K1,g w++K2⟩⟩)
  (h1:M C Q ⟨.cd c,.jo (λ t=>∃ v,w=v/\t=⟨f v++K1,g v++K2⟩)::k,⟨sl,ob⟩⟩):M C Q ⟨.cd c,k,⟨sl,ob⟩⟩:=kN w (λ v=>⟨f v++K1,g v++K2⟩) h2 h1
theorem hP {P:Program}{tt:List (Nat×TI)}{β:Type}(good:cO P tt){fi:FuncId}{fn:Func}{args:List PV}{h:β->Prop}{mk:β->AV}(hf:P.funcs[fi]? = some fn)(hb:fn.body=some c)(hn:(Nat.ble args.length fn.ntmps,Nat.ble fn.ntmps M1)=(true,true))
  (H:∀ r,h r->∀ hnl w0,M ⟨P,tt,good,fn.ntmps,hnl,w0,λ b=>b < w0.w.heap.size⟩ (λ e s=>∃ v,v=r/\zf tt fn (λ x=>x.sub (mk v)) e s) ⟨.cd c,[],⟨qG args,[]⟩⟩):∀ r,HP (h r) P fi args (mk r) :=
 λ r=>⟨λ h0=>K4 good hf hb (Prod.mk.inj hn).1 (Prod.mk.inj hn).2 λ w0=>mP mk (H r h0 _ w0)⟩
theorem hO {P:Program}{tt:List (Nat×TI)}{β:Type}(good:cO P tt)(ts ids:List Nat){fi:FuncId}{fn:Func}{args:List AV}{Ta:List (Nat×List AV)}{h:β->Prop}{mk:β->AV}{mo:β->List (Nat×List AV)}(hf:P.funcs[fi]? = some fn)(hb:fn.body=some c)
  (hn:(Nat.ble args.length fn.ntmps,Nat.ble fn.ntmps M1,ts.all (λ i=>Nat.blt i M1),nodupB ts)=(true,true,true,true))
  (H:∀ r,h r->∀ hnl w0 F,M ⟨P,tt,good,fn.ntmps,hnl,w0,F⟩ (λ e s=>∃ v,v=r/\tL ⟨P,tt,good,fn.ntmps,hnl,w0,F⟩ tt fn ts ids (mk v) (mo v) e s) ⟨.cd c,[],⟨hC args,Ta⟩⟩):∀ r,HO (h r) P fi args Ta (mk r) (mo r):=by
 simp only [ur] at hn;exact λ r=>⟨λ h0=>rW good ts ids hf hb hn.1 hn.2.1 hn.2.2.1 hn.2.2.2 λ w0 F=>mPo mk mo (H r h0 _ w0 F)⟩
end
theorem H7 {C:Cx}{ops:Array Oper}{ob:List (Nat×List AV)}{o:Oper}{kn:List (Nat×AV)}{d:Nat}{op:BinOp}{x y c:Int}(hg:o.guard=none)(hd:o.dst=some d)(hn:Nat.blt d C.n=true)(h:biK o kn=some (op,.p (.val (.int .i64 x)),.p (.val (.int .i64 y))))(hc:arI op x y=some c)(hr:inR c):pu C ops ob o kn d (.p (eI c)):=by
 unfold biK at h;split at h
 ·rename_i op' t X Y0z t' ho;split at h
  ·rename_i X' hx;split at h
   ·rename_i Y' hy
    cases h
    exact λ sl hs K hK=>ap hg (fY ho hd hn (ji hs hx) (ji hs hy) hc hr hK)
   ·cases h
  ·cases h
 ·cases h
section
variable {C:Cx} {ops:Array Oper} {S:eF} {K:fC->Prop} {K2:AS->Prop} {o:Oper} {k d:Nat} {rev:fC} {op:BinOp} {x y c:Int}
def arL (ops:Array Oper)(S:eF)(o:Oper)(k:Nat)(rev:fC)(z:BinOp×AV×AV):Nat->List (Option (BinOp×AV×AV))
 | 0=>[]
 | j+1=>(match mn ops S.imp o k j with
  | true=>biK o (uY (S.bas j) o rev j (opR o))
  | false=>some z)::arL ops S o k rev z j
def arE (z:BinOp×AV×AV):Nat->List (Option (BinOp×AV×AV))
 | 0=>[]
 | j+1=>some z::arE z j
theorem GN (hg:o.guard=none)(hd:o.dst=some d)(hn:Nat.blt d C.n=true)(hc:arI op x y=some c)(hr:inR c):∀ {m:Nat},arL ops S o k rev (op,.p (.val (.int .i64 x)),.p (.val (.int .i64 y))) m=arE (op,.p (.val (.int .i64 x)),.p (.val (.int .i64 y))) m->Stg C ops S o k rev d (λ _=>.p (eI c)) m
 | 0,_=>trivial
 | j+1,h=>by
  have h1:=(qr h).1;refine ⟨λ ha=>?_,GN hg hd hn hc hr (qr h).2⟩;rw [ha] at h1;exact ⟨_,kH _,H7 hg hd hn h1 hc hr⟩
theorem dPa {rest:List Oper}(e:(o.dst,S.imp.findIdx? (Nat.beq k),o.guard,(rev.all λ p=>!(Nat.beq p.2.1 d)),Nat.blt d C.n,cL S d S.m,(λ j=>look (S.bas (j+S.m)) d),arL ops S o k rev (op,.p (.val (.int .i64 x)),.p (.val (.int .i64 y))) (S.m+1))=(some d,none,none,true,true,nL S.m,(λ _=>none),arE (op,.p (.val (.int .i64 x)),.p (.val (.int .i64 y))) (S.m+1)))
  (hc:arI op x y=some c) (hr:inR c) (ht:aL (λ _=>.p (eI c)) S.m=bL S (λ _=>.p (eI c)) S.m) (h:DS C ops S K rest (k+1) ((k,d,λ _=>.p (eI c))::rev)):DS C ops S K (o::rest) k rev:=by
 simp only [ur] at e;obtain ⟨e1,e2,e3,e4,e5,e6,e7,e8⟩:=e;exact kD (λ _=>.p (eI c)) e2 e1 e4 (rP e6 e7) (tW ht) (GN e3 e1 e5 hc hr e8) h
theorem dqa {base:List (Nat×AV)}{ob:List (Nat×List AV)}{rest:List Oper}{rev:Rev}(hn:nwF base rev o=some d)(e:(o.guard,Nat.blt d C.n,biK o (knL base o rev (tms o)))=(none,true,some (op,.p (.val (.int .i64 x)),.p (.val (.int .i64 y)))))
  (hc:arI op x y=some c) (hr:inR c) (h:DQ C ops base ob K2 rest (k+1) ((k,d,.p (eI c))::rev)):DQ C ops base ob K2 (o::rest) k rev:=by
 simp only [ur] at e;obtain ⟨e1,e2,e3⟩:=e;exact wN _ _ wY (H7 e1 (ma hn).1 e2 e3 hc hr) (ma hn).1 (ma hn).2.1 (ma hn).2.2 h
end
section
variable {C:Cx} {ops:Array Oper} {S:eF} {K:fC->Prop} {o:Oper} {k d:Nat} {rev:fC} {kn:List (Nat×AV)} {rest:List Oper}
def knA (ops:Array Oper)(S:eF)(o:Oper)(k:Nat)(rev:fC)(R:List Nat)(kn:List (Nat×AV)):Nat->List (List (Nat×AV))
 | 0=>[]
 | j+1=>(match mn ops S.imp o k j with
  | true=>uY (S.bas j) o rev j R
  | false=>kn)::knA ops S o k rev R kn j
def knE (kn:List (Nat×AV)):Nat->List (List (Nat×AV))
 | 0=>[]
 | j+1=>kn::knE kn j
theorem Hu {y:AV}{R:List Nat}(hs:∀ ob,pu C ops ob o kn d y):∀ {m:Nat},knA ops S o k rev R kn m=knE kn m->Stg C ops S o k rev d (λ _=>y) m
 | 0,_=>trivial
 | j+1,h=>by
  have h1:=(qr h).1;refine ⟨λ ha=>?_,Hu hs (qr h).2⟩;rw [ha] at h1;have h1:uY (S.bas j) o rev j R=kn:=h1;exact ⟨kn,h1 ▸ kH R,hs _⟩
theorem dO (y:AV)(R:List Nat)(e:(o.dst,S.imp.findIdx? (Nat.beq k),(rev.all λ p=>!(Nat.beq p.2.1 d)),cL S d S.m,(λ j=>look (S.bas (j+S.m)) d),aL (λ _=>y) S.m,knA ops S o k rev R kn (S.m+1))=(some d,none,true,nL S.m,(λ _=>none),bL S (λ _=>y) S.m,knE kn (S.m+1)))
  (hs:∀ ob,pu C ops ob o kn d y) (h:DS C ops S K rest (k+1) ((k,d,λ _=>y)::rev)):DS C ops S K (o::rest) k rev:=by
 simp only [ur] at e;obtain ⟨e1,e2,e3,e4,e5,e6,e7⟩:=e;exact kD (λ _=>y) e2 e1 e3 (rP e4 e5) (tW e6) (Hu hs e7) h
def ivL (v:Nat->AV)(i:Nat):Nat->List (Option AV)
 | 0=>[]
 | j+1=>(match Nat.blt i j with
  | true=>some (v (j+1))
  | false=>none)::ivL v i j
def ibL (S:eF)(v:Nat->AV)(i:Nat):Nat->List (Option AV)
 | 0=>[]
 | j+1=>(match Nat.blt i j with
  | true=>some (trA (S.D j) (v j))
  | false=>none)::ibL S v i j
theorem Gt {v:Nat->AV}{i:Nat}:∀ {m:Nat},ivL v i m=ibL S v i m->∀ j,j < m->i < j->v (j+1)=trA (S.D j) (v j)
 | 0,_,j,h,_=>absurd h (Nat.not_lt_zero _)
 | m+1,h,j,hj,hi=>by
  by_cases e:j=m
  ·subst e;have h1:=(qr h).1;have hb:Nat.blt i j=true:=by simp only [n7]; exact hi
   rw [hb] at h1;exact Option.some.inj h1
  ·exact Gt (qr h).2 j O hi
theorem dI {i:Nat}(v:Nat->AV)(R:List Nat)(e:(S.imp.findIdx? (Nat.beq k),o.dst,(rev.all λ p=>!(Nat.beq p.2.1 d)),cL S d S.m,(λ j=>look (S.bas (j+S.m)) d),ivL v i S.m,uY (S.bas i) o rev i R)=(some i,some d,true,nL S.m,(λ _=>none),ibL S v i S.m,kn))
  (S7:∀ sl,(∀ i x,look kn i=some x->look sl i=some x)->∀ K:AS->Prop,K ⟨(d,v (i+1))::trL (S.D i) sl,S.obj (i+1)⟩->One C ops o K ⟨sl,S.obj i⟩) (h:DS C ops S K rest (k+1) ((k,d,v)::rev)):DS C ops S K (o::rest) k rev:=by
 simp only [ur] at e;obtain ⟨e1,e2,e3,e4,e5,e6,e7⟩:=e;exact Av v kn e1 (e7 ▸ kH R) e2 e3 (λ j=>rP e4 e5 _) (Gt e6) S7 h
end
class Jn (n:Nat) (σ:outParam Type) (f:outParam (σ->List (Nat×AV))) (g:outParam (σ->List (Nat×List AV))):Prop where
 t:True
class Js (l:outParam (List Nat)):Prop where
 t:True
instance js0:Js []:=⟨trivial⟩
theorem js (l:List Nat):Js l:=⟨trivial⟩
theorem jB (n:Nat)(σ:Type)(f:σ->List (Nat×AV))(g:σ->List (Nat×List AV)):Jn n σ f g:=⟨trivial⟩
theorem jS (n:Nat)(σ:Type)(f:σ->List (Nat×AV)):Jn n σ f (λ _=>[]):=⟨trivial⟩
theorem jO (n:Nat)(σ:Type)(g:σ->List (Nat×List AV)):Jn n σ (λ _=>[]) g:=⟨trivial⟩
def EN:Code->Option Nat
 | .seq x _=>(match EN x with | some n=>some (n+1) | none=>none)
 | .block id _=>some (100*id+50)
 | .region id _ _=>some (100*id)
 | .cond _ x _=>(match EN x with | some n=>some (n+20) | none=>none)
 | .loop x=>(match EN x with | some n=>some (n+10) | none=>none)
 | .scope x=>(match EN x with | some n=>some (n+5) | none=>none)
 | _=>none
def topJ:List Fr->Bool
 | .jo _::_=>true
 | .je _ _::_=>true
 | _=>false
def atJ (l:List Nat):Ct->Bool
 | .cd c=>(match EN c with | some n=>l.any (Nat.beq n) | none=>false)
 | _=>false
def Ms (C:Cx)(l:List Nat):Nat->Cf->Option Cf
 | 0,c=>some c
 | n+1,c=>(match stp C c with
  | some c'=>(match atJ l c'.c with | true=>some c' | false=>Ms C l n c')
  | none=>none)
theorem Dk {C:Cx}{Q:Exit->AS->Prop}{l:List Nat}:∀ (n:Nat) {c c':Cf},Ms C l n c=some c'->M C Q c'->M C Q c
 | 0,c,c',h,hM=>by cases h; exact hM
 | n+1,c,c',h,hM=>by
  unfold Ms at h;split at h
  ·rename_i c1 h1;split at h
   ·cases h; exact BQ h1 hM
   ·exact BQ h1 (Dk n h hM)
  ·cases h
section
variable {C:Cx} {Q:Exit->AS->Prop} {k:List Fr} {sl K1:List (Nat×AV)} {ob K2:List (Nat×List AV)} {c:Code} {σ β:Type}
theorem nxj (n:Nat){l:List Nat} [Js l] {c:Ct}{s:AS}{c':Cf}(_:goOn c k=true)(h:Ms C l n ⟨c,k,s⟩=some c')(hM:M C Q c'):M C Q ⟨c,k,s⟩:=Dk n h hM
theorem kJ {p:Option σ}{F:σ->Option β}{v:β}{n:Nat}{f:σ->List (Nat×AV)}{g:σ->List (Nat×List AV)}(h:p.bind F=some v)(_:EN c=some n)(_:topJ k=false) [Jn n σ f g] (e1:∀ v,tg ((f v).map (·.1)) sl=some K1)(e2:∀ v,tg ((g v).map (·.1)) ob=some K2)
  (H2:∀ o,F o=some v->M C Q ⟨.ex .normal,k,⟨f o++K1,g o++K2⟩⟩) (H1:∀ o,p=some o->M C Q ⟨.cd c,.jo (λ t=>∃ v,o=v/\t=⟨f v++K1,g v++K2⟩)::k,⟨sl,ob⟩⟩):M C Q ⟨.cd c,k,⟨sl,ob⟩⟩:=by
 obtain ⟨o,h1,h2⟩:=GI h;exact kA o f g e1 e2 (H2 o h2) (H1 o h1)
end
theorem U {p:Prop}(h:p:=by
 repeat' first
  | exact sr
  | exact True.intro
  | exact .inl Z
  | exact .inr ⟨Z,Z⟩
  | exact iL _
  | exact AV.sub_nilvec _ _ _
  | exact AV.sub_vec _ _ _ _
  | exact er Z
  | exact ⟨_,Z,aS _⟩
  | refine nV ?_
  | refine nD ?_
  | refine FC ?_
  | refine ⟨_,Z,?_⟩
  | refine ⟨?_,?_⟩):p:=h
theorem Zr {p:Prop}(h:p:=by
 repeat' first
  | exact ⟨λ h=>by cases h⟩
  | refine ⟨?_,?_⟩
  | refine λ _=>?_):p:=h
theorem J0 {p:Prop}(h:p:=by
 repeat' first
  | refine kJ h0 Z Z Y Y (λ o h0=>?_) λ o h0=>?_
  | refine nxj 12 Z Z ?_
  | refine nxj 4 Z Z ?_
  | refine nxj 1 Z Z ?_
  | exact eX _ (oi h0).symm (gE Z Z)
  | exact mQ (oi h0) Z U
  | exact mQoq h0 Z
  | exact mQo (oi h0) (aU _) Z Z Z Z U U
  | exact eXi _ (oi h0).symm (gE Z Z)
  | exact eX _ h0 (gE Z Z)
  | exact eX ⟨_,_⟩ h0 (gE Z Z)
  | exact eX ⟨_,_,_⟩ h0 (gE Z Z)
  | exact eX ⟨_,_,_,_⟩ h0 (gE Z Z)
  | exact eX ⟨_,_,_,_,_⟩ h0 (gE Z Z)
  | exact eX ⟨_,_,_,_,_,_⟩ h0 (gE Z Z)
  | exact eX ⟨_,_,_,_,_,_,_⟩ h0 (gE Z Z)
  | exact eX ⟨_,_,_,_,_,_,_,_⟩ h0 (gE Z Z)
  | exact eX ⟨_,_,_,_,_,_,_,_,_⟩ h0 (gE Z Z)
  | exact eX ⟨_,_,_,_,_,_,_,_,_,_,_,_,_,_,_,_⟩ h0 (gE Z Z)
  | exact eX ⟨_,_,_,_,_,_,_,_,_,_,_,_,_,_,_,_,_⟩ h0 (gE Z Z)
  | exact eX _ (oi h0).symm (dX (lq U U))
  | exact eXi _ (oi h0).symm (dX (lq U U))
  | exact mQ (hR0 _ (oi h0).symm) Z U
  | exact mQoq (congrArg some (hR0 _ (oi h0).symm)) Z
  | exact mQ (hR0 _ (hR1 _ (oi h0).symm).symm) Z U
  | exact mQn (oi h0) Z U
  | exact Mh (oi h0) (aU _) Z Z Z Z U U
  | exact mQo (oi h0) (aU _) Z Z Z (az Z (aA _) Z) U U
  | refine oS Z Z ?_
  | refine oLs Z ?_
  | refine oLl Z Z ?_
  | refine oA h0 Z Z λ hk h0=>?_
  | refine oI h0 rfl λ hk h0=>?_
  | refine oP h0 Z Z Z λ hk h0=>?_
  | refine oC h0 rfl λ hk h0=>?_
  | refine oE h0 HC.c Z Z Y λ hk h0=>?_
  | refine bd h0 λ r e h0=>oK (HP.c e) Z U HE.e Z ?_
  | refine bd h0 λ r e h0=>mO Z (cVa (HO.c e) HE.e Z Z ?_)
  | refine fBn 3 h0 Z Z (λ c h0=>?_) λ c h0=>?_
  | refine fBn 2 h0 Z Z (λ c h0=>?_) λ c h0=>?_
  | refine fBn 1 h0 Z Z (λ c h0=>?_) λ c h0=>?_
  | refine fBc h0 Z Z (λ c h0=>?_) λ c h0=>?_
  | refine fDn 4 h0 Z Z (λ c h0=>?_) λ c h0=>?_
  | refine fDn 3 h0 Z Z (λ c h0=>?_) λ c h0=>?_
  | refine fDn 2 h0 Z Z (λ c h0=>?_) λ c h0=>?_
  | refine fDn 1 h0 Z Z (λ c h0=>?_) λ c h0=>?_
  | refine fDc h0 Z Z (λ c h0=>?_) λ c h0=>?_
  | refine fNn 3 h0 Z Z (λ c h0=>?_) λ c h0=>?_
  | refine fNn 2 h0 Z Z (λ c h0=>?_) λ c h0=>?_
  | refine fNn 1 h0 Z Z (λ c h0=>?_) λ c h0=>?_
  | refine fNc h0 Z Z (λ c h0=>?_) λ c h0=>?_
  | refine lTc Z Z (by first | exact dt ‹_› | exact df ‹_› | assumption) ?_
  | refine mDa Z Z ?_
  | refine dE Z ?_
  | refine dR 4 Z ?_
  | refine dR 1 Z ?_
  | refine dqa Z Z Z (by assumption) ?_
  | refine mA Z Z Z ?_
  | refine dPc _ Z ?_
  | refine dS Z ?_
  | refine dPn Z Z ?_
  | refine dPx Z ?_
  | refine dPa Z Z (by assumption) Z ?_
  | refine fq ?_
  | refine cc' h0 λ hk h0=>?_
  | replace h0:=PW Z h0
  | replace h0:=if_f (by decide) h0):p:=h
theorem K0 {p Z0z:Prop}(z:Z0z)(h:Z0z->p:=by
 intro z
 first
  | refine bd h0 λ r e h0=>oK (HP.c e) Z U HE.e Z ?_
  | refine bd h0 λ r e h0=>mO Z (cVa (HO.c e) HE.e Z Z ?_)
 clear e
 revert r
 exact z):p:=h z
theorem K1 {p Z0z:Prop}(z:Z0z)(h:Z0z->p:=by
 intro z
 first
  | refine bd h1 λ r e h1=>oK (HP.c e) Z U HE.e Z ?_
  | refine bd h1 λ r e h1=>mO Z (cVa (HO.c e) HE.e Z Z ?_)
 clear e
 revert r
 exact z):p:=h z
theorem K2 {p Z0z:Prop}(z:Z0z)(h:Z0z->p:=by
 intro z
 first
  | refine bd h2 λ r e h2=>oK (HP.c e) Z U HE.e Z ?_
  | refine bd h2 λ r e h2=>mO Z (cVa (HO.c e) HE.e Z Z ?_)
 clear e
 revert r
 exact z):p:=h z
end Go.Ab
end
section
namespace Go.Ab.R06
open Go.Proofs Go.Ab Go.Ab.RB
instance hc14_0:HC eS (λ x=>[eS x]):=⟨λ _=>rfl⟩
instance hc14_1:HC ak ad.cs:=⟨ad.It⟩
instance hc14_2:HC cY am.cs:=⟨am.It⟩
instance hc14_4 (s:Bytes) (c r:Int):HP (strings_IndexByte s c=some r) Tryz.prog 85 [eS s,eK .u8 c] (.p (eI r)):=⟨kV s c r⟩
instance hc14_5 (s p:Bytes) (r:Bool):HP (strings_HasPrefix s p=some r) Tryz.prog 75 [eS s,eS p] (.p (eB r)):=⟨dY s p r⟩
instance hc14_6 (a:Int) (r:Bool):HP (cA a=some r) Tryz.prog 206 [eK .i32 a] (.p (eB r)):=⟨mJ a r⟩
instance hc14_8 (s:Bytes) (r:Bool):HP (dx s=some r) Tryz.prog 204 [eS s] (.p (eB r)):=⟨lL s r⟩
section
variable {p:Prop}
theorem xM (h:p:=by
  exact nx 4 Z (eX _ (oi h3).symm (gE Z Z))):p:=h
theorem bV (h:p:=by
  have h0:=h2
  exact J0):p:=h
theorem lZ (h:p:=by
  exact nx 2 Z (eX _ (oi h3).symm (gE Z Z))):p:=h
theorem fO (h:p:=by
  have h0:=TC _ hv
  exact J0):p:=h
theorem ay (h:p:=by
  have h0:=h1
  exact J0):p:=h
theorem Kc (h:p:=by
  refine nx 6 Z (fD [7,8] h0 Z (λ c2 h0=>?_) λ c2 h0=>?_)
  ·refine nx 3 Z (mO Z (aH eS [([38,38]:Bytes)] Z Z Z Z Z Z Z Z Z Z Z Z Z Z ?_));exact J0
  refine nx 6 Z (fD [10,11] h0 Z (λ c3 h0=>?_) λ c3 h0=>?_)
  ·refine nx 3 Z (mO Z (aH eS [([61,61]:Bytes),([33,61]:Bytes)] Z Z Z Z Z Z Z Z Z Z Z Z Z Z ?_));exact J0
  refine nx 6 Z (fD [13,14] h0 Z (λ c4 h0=>?_) λ c4 h0=>?_)
  ·refine nx 3 Z (mO Z (aH eS [([60]:Bytes),([60,61]:Bytes),([62]:Bytes),([62,61]:Bytes)] Z Z Z Z Z Z Z Z Z Z Z Z Z Z ?_));exact J0
  refine nx 6 Z (fD [16,17] h0 Z (λ c5 h0=>?_) λ c5 h0=>?_)
  ·refine nx 3 Z (mO Z (aH eS [([43]:Bytes),([45]:Bytes)] Z Z Z Z Z Z Z Z Z Z Z Z Z Z ?_));exact J0
  refine nx 4 Z (mO Z (aH eS [([42]:Bytes),([47]:Bytes),([37]:Bytes)] Z Z Z Z Z Z Z Z Z Z Z Z Z Z ?_))
  exact J0):p:=h
theorem jZ (h:p:=by
  have:=js [100];have:=jS 100 Bool λ v=>[(2,.p (eB v))]
  exact J0):p:=h
theorem x9 (h:p:=by
  exact nx 8 Z (eX _ (oi h3).symm (gE Z Z))):p:=h
theorem B9 (h:p:=by
  exact nx 5 Z (eX _ (oi h3).symm (gE Z Z))):p:=h
theorem JO (h:p:=by
  refine nx 3 Z (mO Z (aH eS [([124,124]:Bytes)] Z Z Z Z Z Z Z Z Z Z Z Z Z Z ?_))
  exact J0):p:=h
theorem Bu (h:p:=by exact oS Z Z (nx 2 Z (eX _ (oi h3).symm (gE Z Z)))):p:=h
theorem aB (h:p:=by exact bv O O):p:=h
theorem pE (h:p:=by exact C2 (e _ _ Z)):p:=h
theorem uv (h:p:=by exact eX _ (oi h2).symm (gE Z Z)):p:=h
theorem uO (h:p:=by first | rfl | (simp only [la,th,ac.J']; done) | (simp only [la,th,ac.J']; rfl)):p:=h
theorem HK (h:p:=by exact nx 2 Z (eX _ (oi h3).symm (gE Z Z))):p:=h
theorem ly (h:p:=by exact eX _ (oi h3).symm (gE Z Z)):p:=h
theorem Pd (h:p:=by exact nx 1 Z (eX _ (oi h2).symm (gE Z Z))):p:=h
theorem fo (h:p:=by first | rfl | (simp only [la,th,ad.J']; done) | (simp only [la,th,ad.J']; rfl)):p:=h
end
attribute [local irreducible] awp io bg bO cv AV.sub M cZ
instance RH:HE Tryz.prog 208:=⟨Tryz.call208⟩
instance Sx:HE Tryz.prog 171:=⟨Tryz.call171⟩
instance RL:HE Tryz.prog 206:=⟨Tryz.call206⟩
instance R3:HE Tryz.prog 85:=⟨Tryz.call85⟩
instance Rq:HE Tryz.prog 192:=⟨Tryz.call192⟩
instance QA:HE Tryz.prog 174:=⟨Tryz.call174⟩
instance QG:HE Tryz.prog 204:=⟨Tryz.call204⟩
def iX (UQ:Int):Option Bool :=
 (
   if (-9007199254740992)<=UQ then
    some (decide (UQ<=9007199254740992))
   else
    some false
  ).bind λ t2 =>
 some t2
instance Fc (UQ:Int):∀ (r:Bool),HP (iX UQ=some r) Tryz.prog 171 [eI UQ] (.p (eB r)):=by
 refine hP good Tryz.func171 Z Z λ r h0 _ w0=>?_;unfold iX at h0;exact jZ
def cp (s7:Bytes):Nat->Int->Option (Unit⊕Bool)
 | 0,_=>none
 | m+1,T0 =>
 if T0 < (s7.length:Int) then
  (
    ck ((0:Int)<=T0/\T0 < (s7.length:Int)) <|
    if byt s7 T0 < 48 then
     some true
    else
     ck ((0:Int)<=T0/\T0 < (s7.length:Int)) <|
     some (decide (57 < byt s7 T0))
   ).bind λ t21 =>
  if t21=true then
   some (.inr false)
  else
   ck (inR (T0+1)) <|
   cp s7 m (T0+1)
 else
  some (.inl ())
def gY (n:Nat)(Mr:Bytes):Option Bool :=
 jn (
   (
     if 0 < (Mr.length:Int) then
      ck ((0:Int)<=0/\0 < (Mr.length:Int)) <|
      some (decide (byt Mr 0=45))
     else
      some false
    ).bind λ t3 =>
   if t3=true then
    ck ((0:Int)<=1/\1<=(Mr.length:Int)/\(Mr.length:Int)<=(Mr.length:Int)) <|
    if sub Mr 1 (Mr.length:Int)=([48]:Bytes) then
     some (.inr false)
    else
     some (.inl (sub Mr 1 (Mr.length:Int)))
   else
    some (.inl Mr)
  : Option (Bytes⊕Bool)) λ s7 =>
 jn (cp s7 n 0) λ _UV =>
 (
   if s7=([]:Bytes) then
    some false
   else
    ck ((0:Int)<=0/\0 < (s7.length:Int)) <|
    if byt s7 0=48 then
     some (decide ((s7.length:Int)=1))
    else
     some true
  ).bind λ YW =>
 some YW
instance zY (n:Nat) (Mr:Bytes):∀ (r:Bool),HP (gY n Mr=some r) Tryz.prog 208 [eS Mr] (.p (eB r)):=by
 refine hP good Tryz.func208 Z Z λ r h0 _ w0=>?_;unfold gY at h0;refine nx 5 rfl ?_;obtain ⟨o34,h1,TC,hR0⟩:=br h0;refine kX (λ Ya:Bytes=>o34=.inl Ya) (λ Ya=>⟨[(0,.p (eS Ya))],[]⟩) (λ Ya hv=>?_) ?_
 ·have h0:=TC _ hv;refine nx 5 rfl (oLs rfl (nx 3 rfl ?_));obtain ⟨o36,h1,TC,hR0⟩:=br h0;refine kEx 0 (λ v37:Unit=>o36=.inl v37) (λ v37=>⟨[(0,.p (eS Ya))],[]⟩) (λ v37 hv=>?_) ?_
  ·have h0:=TC _ hv;have:=js [1100];have:=jS 1100 Bool λ v=>[(2,.p (eB v))]
   exact J0
  refine lG (λ (Yk:Int)=>⟨[(0,.p (eS Ya)),(17,.p (eI (Ya.length:Int))),(18,.p (eI Yk))],[]⟩) (λ m (Yk:Int)=>cp Ya m Yk) Y 0 h1 (gE rfl rfl) ?_;rintro m T0 h1;replace h1:cp Ya (m+1) T0=some o36:=h1;rw [cp] at h1;have:=js [800];have:=jS 800 Bool λ v=>[(30,.p (eB v))]
  exact ay
 have:=js [100];have:=jS 100 Bool λ v=>[(11,.p (eB v))]
 exact ay
def j6 (n:Nat)(Mr:Bytes):Option (Int×Int) :=
 (gY n Mr).bind λ r1 =>
 if (!r1)=true then
  some (0,2)
 else
  (ja Mr 10 64).bind λ r4 =>
  (
    if r4.2=true then
     some true
    else
     (iX r4.1).bind λ r7 =>
     some (!r7)
   ).bind λ t9 =>
  if t9=true then
   some (0,5)
  else
   some (r4.1,0)
instance Fj (n:Nat) (Mr:Bytes):∀ (r:Int×Int),HP (j6 n Mr=some r) Tryz.prog 196 [eS Mr] (.tuple [.p (eI r.1),.p (eI r.2)]):=by
 refine hP good Tryz.func196 Z Z λ r h0 _ w0=>?_;unfold j6 at h0;refine nx 9 Z (K0 λ r1 h0=>nx 2 Z (fB [8] h0 Z (λ c3 h0=>?_) λ c3 h0=>?_))
 ·exact J0
 refine nx 5 Z (bd h0 λ r4 e5 h0=>oK (p7 Mr 10 64 _ e5) Z ⟨sr,sr,sr,trivial⟩ Tryz.call209 (E1 (sJ Z (sJ (Of _) Bw))) (nx 8 Z (bd h0 λ Zf h1 h0=>kN Zf (λ YV=>⟨[(4,.p (eI r4.1)),(20,.p (eB YV))],[]⟩) ?_ ?_)))
 ·exact J0
 refine nx 2 Z (mO Z (N8 Z Z Z Z Z Z (.inr ⟨Z,Z⟩) ?_));exact ay
def co (Mr:Bytes):Nat->Int->Int->Option (Int×Int)
 | 0,_,_=>none
 | m+1,n11,i12 =>
 (
   if i12 < (Mr.length:Int) then
    some (decide (i12 < 6))
   else
    some false
  ).bind λ YX =>
 if YX=true then
  ck ((0:Int)<=i12/\i12 < (Mr.length:Int)) <|
  (strings_IndexByte ([48,49,50,51,52,53,54,55,56,57,97,98,99,100,101,102]:Bytes) (byt Mr i12)).bind λ VL =>
  if VL < 0 then
   some (n11,i12)
  else
   ck (inR (i12+1)) <|
   co Mr m (IntKind.wrap .i32 ((IntKind.wrap .i32 (16*n11))+(IntKind.wrap .i32 (VL)))) (i12+1)
 else
  some (n11,i12)
def eQ (n:Nat)(Mr:Bytes):Option (Int×Int×Int) :=
 (co Mr n 0 0).bind λ Xk =>
 if Xk.2=(Mr.length:Int) then
  some (0,0,40)
 else
  (
    ck ((0:Int)<=Xk.2/\Xk.2 < (Mr.length:Int)) <|
    if byt Mr Xk.2=125 then
     if Xk.2=0 then
      some true
     else
      if 1 < Xk.2 then
       ck ((0:Int)<=0/\0 < (Mr.length:Int)) <|
       if byt Mr 0=48 then
        some true
       else
        (cA Xk.1).bind λ Vr =>
        some (!Vr)
      else
       (cA Xk.1).bind λ Tg =>
       some (!Tg)
    else
     some true
   ).bind λ t36 =>
  if t36=true then
   some (0,0,2)
  else
   ck (inR (Xk.2+1)) <|
   some (Xk.1,Xk.2+1,0)
instance yd (n:Nat) (Mr:Bytes):∀ (r:Int×Int×Int),HP (eQ n Mr=some r) Tryz.prog 192 [eS Mr] (.tuple [.p (eK .i32 r.1),.p (eI r.2.1),.p (eI r.2.2)]):=by
 refine hP good Tryz.func192 Z Z λ r h0 _ w0=>?_;unfold eQ at h0;refine nx 13 Z (bd h0 λ Xl h1 h0=>kE 0 Xl (λ VU=>⟨[(0,.p (eS Mr)),(5,.p (eK .i32 VU.1)),(6,.p (eI VU.2))],[]⟩) ?_ ?_)
 ·have:=js [900];have:=jS 900 Bool λ v=>[(54,.p (eB v))]
  exact J0
 refine lG (λ (VY:Int×Int)=>⟨[(0,.p (eS Mr)),(5,.p (eK .i32 VY.1)),(6,.p (eI VY.2))],[]⟩) (λ m (VY:Int×Int)=>co Mr m VY.1 VY.2) Y (0,0) h1 (gE rfl rfl) ?_;rintro m ⟨n11,i12⟩ h1;replace h1:co Mr (m+1) n11 i12=some Xl:=h1;rw [co] at h1;have:=js [200];have:=jS 200 Bool λ v=>[(15,.p (eB v))]
 exact ay
def jm (n:Nat)(Mr:Bytes):Option (Int×Int×Int) :=
 if Mr=([]:Bytes) then
  some (0,0,40)
 else
  ck ((0:Int)<=0/\0 < (Mr.length:Int)) <|
  if byt Mr 0=110 then
   some (10,1,0)
  else
   if byt Mr 0=114 then
    some (13,1,0)
   else
    if byt Mr 0=116 then
     some (9,1,0)
    else
     (
       if byt Mr 0=34 then
        some true
       else
        some (decide (byt Mr 0=92))
      ).bind λ t7 =>
     if t7=true then
      ck ((0:Int)<=0/\0 < (Mr.length:Int)) <|
      some (IntKind.wrap .i32 (byt Mr 0),1,0)
     else
      if byt Mr 0=117 then
       if (Mr.length:Int)=1 then
        some (0,0,40)
       else
        ck ((0:Int)<=1/\1 < (Mr.length:Int)) <|
        if byt Mr 1=123 then
         ck ((0:Int)<=2/\2<=(Mr.length:Int)/\(Mr.length:Int)<=(Mr.length:Int)) <|
         (eQ n (sub Mr 2 (Mr.length:Int))).bind λ S6 =>
         ck (inR (S6.2.1+2)) <|
         some (S6.1,S6.2.1+2,S6.2.2)
        else
         some (0,0,2)
      else
       some (0,0,2)
instance EH (n:Nat) (Mr:Bytes):∀ (r:Int×Int×Int),HP (jm n Mr=some r) Tryz.prog 174 [eS Mr] (.tuple [.p (eK .i32 r.1),.p (eI r.2.1),.p (eI r.2.2)]):=by
 refine hP good Tryz.func174 Z Z λ r h0 _ w0=>?_;unfold jm at h0;have:=js [1001];have:=jS 1001 Bool λ v=>[(18,.p (eB v))]
 exact J0
def eh (n:Nat)(Mr:Bytes):Nat->Int->(List UInt8)->Option ((Int×(List UInt8))⊕(Bytes×Int×Int))
 | 0,_,_=>none
 | m+1,at31,Xm =>
 (
   if at31 < (Mr.length:Int) then
    ck ((0:Int)<=at31/\at31 < (Mr.length:Int)) <|
    some (!decide (byt Mr at31=34))
   else
    some false
  ).bind λ t35 =>
 if t35=true then
  ck ((0:Int)<=at31/\at31<=(Mr.length:Int)/\(Mr.length:Int)<=(Mr.length:Int)) <|
  (bm (sub Mr at31 (Mr.length:Int))).bind λ Up =>
  jn (
    if Up.1=92 then
     ck (inR (at31+1)) <|
     ck ((0:Int)<=at31+1/\at31+1<=(Mr.length:Int)/\(Mr.length:Int)<=(Mr.length:Int)) <|
     (jm n (sub Mr (at31+1) (Mr.length:Int))).bind λ UT =>
     if UT.2.2=0 then
      ck (inR (UT.2.1+1)) <|
      some (.inl (UT.1,UT.2.1+1))
     else
      some (.inr (.inr (([]:Bytes),0,UT.2.2)))
    else
     (
       if Up.1=65533 then
        if Up.2=1 then
         some true
        else
         if Up.1 < 32 then
          some true
         else
          some (decide (Up.1=127))
       else
        if Up.1 < 32 then
         some true
        else
         some (decide (Up.1=127))
      ).bind λ t51 =>
     if t51=true then
      some (.inr (.inr (([]:Bytes),0,2)))
     else
      some (.inl (Up.1,Up.2))
   : Option ((Int×Int)⊕((Int×(List UInt8))⊕(Bytes×Int×Int)))) λ Yi =>
  (dj (bW.mk Xm) Yi.1).bind λ TD =>
  ck (inR (at31+Yi.2)) <|
  eh n Mr m (at31+Yi.2) TD.2.2.I'
 else
  some (.inl (at31,Xm))
def hZ (n:Nat)(Mr:Bytes):Option (Bytes×Int×Int) :=
 if Mr=([]:Bytes) then
  some (([]:Bytes),0,40)
 else
  ck ((0:Int)<=0/\0 < (Mr.length:Int)) <|
  if byt Mr 0=34 then
   jn (eh n Mr n 1 []) λ Y1 =>
   if Y1.1=(Mr.length:Int) then
    some (([]:Bytes),0,40)
   else
    (jh (bW.mk Y1.2)).bind λ Va =>
    if 4096 < Va.1 then
     some (([]:Bytes),0,3)
    else
     (fP (bW.mk Va.2.I')).bind λ VK =>
     ck (inR (Y1.1+1)) <|
     some (VK.1,Y1.1+1,0)
  else
   some (([]:Bytes),0,2)
instance Dp (n:Nat) (Mr:Bytes):∀ (r:Bytes×Int×Int),HP (hZ n Mr=some r) Tryz.prog 158 [eS Mr] (.tuple [.p (eS r.1),.p (eI r.2.1),.p (eI r.2.2)]):=by
 refine hP good Tryz.func158 Z Z λ r h0 _ w0=>?_;unfold hZ at h0;refine nx 10 Z (oS Z Z (nx 1 Z (fD [13] h0 Z (λ c1 h0=>?_) λ c1 h0=>?_)))
 ·exact J0
 refine nx 6 Z (oI h0 Z λ Vi h0=>nx 2 Z (fN [16] h0 Z (λ c3 h0=>?_) λ c3 h0=>?_))
 ·refine nx 4 rfl (mO rfl (ED Z Z Z Z Z Z Z (nx 7 rfl ?_)));obtain ⟨o73,h1,TC,hR0⟩:=br h0;refine kEx 0 (λ Xo:Int×(List UInt8)=>o73=.inl Xo) (λ Xo=>⟨[(0,.p (eS Mr)),(5,.ptr 5 0),(6,.p (eI Xo.1))],[(5,[.bptr 93 2 5,.vec 101000 1 (5+1) (Xo.2.map eU)])]⟩) (λ Xo hv=>?_) ?_
  ·have h0:=TC _ hv;refine nx 6 Z (oLs Z (nx 2 Z (fD [73] h0 Z (λ c62 h0=>?_) λ c62 h0=>?_)))
   ·exact J0
   refine nx 5 Z (bd h0 λ Va e64 h0=>mO Z (aY [5] [101000] 103000 103001 (oo (bW.mk Xo.2) _ e64) Z Z Z Z Z ⟨sr,trivial⟩ Z Z ⟨⟨_,Z,⟨sr,sr,trivial⟩⟩,trivial⟩ Z Z Z Z Z Z Z Z Tryz.call176 Z Z (nx 2 Z (fD [75] h0 Z (λ c65 h0=>?_) λ c65 h0=>?_))))
   ·exact J0
   exact nx 4 Z (bd h0 λ VK e67 h0=>mO Z (aY [5] [103000] 104000 104000 (mL (bW.mk Va.2.I') _ e67) Z Z Z Z Z ⟨sr,trivial⟩ Z Z ⟨⟨_,Z,⟨sr,sr,trivial⟩⟩,trivial⟩ Z Z Z Z Z Z Z Z Tryz.call59 Z Z J0))
  refine lG (λ (Wn:Int×(List UInt8))=>⟨[(0,.p (eS Mr)),(5,.ptr 5 0),(6,.p (eI Wn.1))],[(5,[.bptr 93 2 5,.vec 101000 1 (5+1) (Wn.2.map eU)])]⟩) (λ m (Wn:Int×(List UInt8))=>eh n Mr m Wn.1 Wn.2) Y (1,[]) h1 (dX (lq ⟨er rfl,er rfl,er rfl,trivial⟩ ⟨⟨_,rfl,⟨sr,AV.sub_nilvec _ _ _,trivial⟩⟩,trivial⟩)) ?_;rintro m ⟨at31,Xm⟩ h1;replace h1:eh n Mr (m+1) at31 Xm=some o73:=h1;rw [eh] at h1;refine nx 2 rfl (bd h1 λ YJ h2 h1=>kN YJ (λ Wl=>⟨[(0,.p (eS Mr)),(5,.ptr 5 0),(6,.p (eI at31)),(26,.p (eB Wl))],[(5,[.bptr 93 2 5,.vec 101000 1 (5+1) (Xm.map eU)])]⟩) ?_ ?_)
  ·refine nx 1 Z (fB [26] h1 Z (λ XV h1=>?_) λ XV h1=>?_)
   ·refine nx 7 rfl (oP h1 Z Z Z λ Wy h1=>bd h1 λ Up e39 h1=>oK (dH (sub Mr at31 (Mr.length:Int)) _ e39) rfl ⟨sr,trivial⟩ Tryz.call126 rfl (nx 7 rfl ?_));obtain ⟨o78,h2,hL1,hR1⟩:=br h1;refine kX (λ X8:Int×Int=>o78=.inl X8) (λ X8=>⟨[(0,.p (eS Mr)),(5,.ptr 5 0),(6,.p (eI at31)),(7,.p (eK .i32 X8.1)),(8,.p (eI X8.2))],[(5,[.bptr 93 2 5,.vec 101000 1 (5+1) (Xm.map eU)])]⟩) (λ X8 hv=>?_) ?_
    ·have h1:=hL1 _ hv;exact nx 4 Z (bd h1 λ TD e56 h1=>mO Z (aY [5] [101000] 102000 102001 (lw (bW.mk Xm) X8.1 _ e56) Z Z Z Z Z ⟨sr,sr,trivial⟩ Z Z ⟨⟨_,Z,⟨sr,sr,trivial⟩⟩,trivial⟩ Z Z Z Z Z Z Z Z Tryz.call175 Z Z (nx 4 Z (oA h1 Z Z λ W5 h1=>nx 2 Z (eX (at31+X8.2,TD.2.2.I') h1 (bj (ca 102000 101000 Z Z Z Z Z) (gE Z Z)))))))
    refine nx 5 Z (fD [35] h2 Z (λ ZC h2=>?_) λ ZC h2=>?_)
    ·exact bV
    refine nx 2 Z (bd h2 λ o80 h3 h2=>kN o80 (λ v81=>⟨[(0,.p (eS Mr)),(5,.ptr 5 0),(6,.p (eI at31)),(7,.p (eK .i32 Up.1)),(8,.p (eI Up.2)),(64,.p (eB v81))],[(5,[.bptr 93 2 5,.vec 101000 1 (5+1) (Xm.map eU)])]⟩) ?_ ?_)
    ·exact bV
    refine nx 4 Z (fD [52,53] h3 Z (λ c47 h3=>?_) λ c47 h3=>?_)
    ·refine nx 4 Z (fD [55,56,57] h3 Z (λ c48 h3=>?_) λ c48 h3=>?_)
     ·exact x9
     refine nx 4 Z (fD [59,60,61] h3 Z (λ c49 h3=>?_) λ c49 h3=>?_)
     ·exact xM
     exact xM
    refine nx 8 Z (fD [59,60,61] h3 Z (λ c50 h3=>?_) λ c50 h3=>?_)
    ·exact xM
    exact xM
   exact ay
  exact bV
 exact J0
def jT (Mr:Bytes):Option Bool :=
 (
   if (Mr.length:Int)<=4096 then
    (dx Mr).bind λ r2 =>
    some r2
   else
    some false
  ).bind λ t4 =>
 some t4
instance Fw (Mr:Bytes):∀ (r:Bool),HP (jT Mr=some r) Tryz.prog 188 [eS Mr] (.p (eB r)):=by
 refine hP good Tryz.func188 Z Z λ r h0 _ w0=>?_;unfold jT at h0;exact jZ
end Go.Ab.R06
end
section
namespace Go.Ab.R06
open Go.Ab Go.Ab.RB
section
variable {p:Prop}
theorem JN (h:p:=by
 rw [List.getD_eq_getElem?_getD,List.getElem?_eq_getElem h,ro]
 exact List.drop_eq_getElem_cons h):p:=h
theorem Be (h:p:=by
 refine Prod.ext ?_ rfl;show _=r.toNat
 simp only; omega):p:=h
theorem AY (h:p:=by
 exact ae O (aa (by simp [h]))):p:=h
theorem Bv (h:p:=by
 refine af G (ag (bv O O) ?_);have:=ih (i+1) O;rw [Int.natCast_add,Int.natCast_one] at this;simp only [kq,hk,Bool.true_and]
 exact this):p:=h
theorem sd (h:p:=by
 exact ae O (aa Z)):p:=h
theorem Hv (h:p:=by
 have h:=jq (s.getD i 0);generalize s.getD i 0=b at h ⊢;refine ag O (av (λ h1=>aa ?_) (λ h1=>ag O (aa ?_)))
 ·have:d3 b=false:=by rw [<- Bool.not_eq_true,h]; omega
  simp [this]
 ·refine eqB ?_;rw [decide_eq_true_eq,Bool.not_eq_true',<- Bool.not_eq_true,h]
  omega):p:=h
theorem KC (h:p:=by
 refine av (λ h1=>av (λ h2=>aa ?_) (λ h2=>av (λ h3=>aa ?_) (λ h3=>aa (eqB ?_)))) (λ h1=>av (λ h3=>aa ?_) (λ h3=>aa (eqB ?_)))
 ·symm; rw [decide_eq_true_eq]; left; simp only; omega
 ·symm; rw [decide_eq_true_eq]; right; left; simp only; omega
 ·rw [decide_eq_true_eq,decide_eq_true_eq]; unfold jx; simp only; omega
 ·symm; rw [decide_eq_true_eq]; right; left; simp only; omega
 ·rw [decide_eq_true_eq,decide_eq_true_eq]; unfold jx; simp only; omega):p:=h
theorem Am (h:p:=by
 exact af O (aa (eqB (by rw [decide_eq_true_eq,decide_eq_true_eq]; omega)))):p:=h
theorem G5 (h:p:=by
 refine aQ this λ r hr=>?_;rw [hr];refine Prod.ext Z ?_;show ((i+1+_:Nat):Int)=((i+(_+1):Nat):Int)
 omega):p:=h
theorem ut (h:p:=by
 exact af O (aa Z)):p:=h
theorem Au (h:p:=by
 rw [Int.fdiv_eq_ediv_of_nonneg _ (by decide)]; rfl):p:=h
theorem Ky (h:p:=by
 unfold strings_IndexByte;have:((b.toNat:Int).toNat.toUInt8)=b:=by simp
 rw [this]; rfl):p:=h
theorem F1 (h:p:=by
 simp only [idB,Bool.or_eq_true];rcases this with h | h
 ·exact .inl h
 ·exact .inr h.2):p:=h
theorem Ce (h:p:=by
 unfold bm
 rw [wA _ G]):p:=h
theorem rN (h:p:=by
 simp [IntKind.wrap,IntKind.bits,IntKind.signed]
 omega):p:=h
theorem u5 (h:p:=by exact ae Z (aa Z)):p:=h
theorem GL (h:p:=by exact ae O (ag O (aa (by simp; omega)))):p:=h
theorem uT (h:p:=by exact ae O (aa (by simp; omega))):p:=h
theorem ns (h:p:=by simp only [aq,n8]; omega):p:=h
theorem iN (h:p:=by rw [ld]; omega):p:=h
theorem tJ (h:p:=by rw [ld]; simp only [aq]; omega):p:=h
theorem og (h:p:=by exact af G (aa Z)):p:=h
theorem kt (h:p:=by simp only [ph,aq,n8]; omega):p:=h
theorem oe (h:p:=by exact ax Z Z):p:=h
theorem qB (h:p:=by exact ag (bv O O) (aa Z)):p:=h
theorem vg (h:p:=by rw [ph]; omega):p:=h
theorem ov (h:p:=by exact af O (aa Z)):p:=h
theorem pr (h:p:=by simp only; omega):p:=h
end
section
variable {α β:Type} {P:α->Prop}
theorem aj {g:Nat->Nat->Option β}{k:Nat->Nat->β->Option α}(x:β)(h:Ev2 g (·=x))(hk:Ev2 (λ n m=>k n m x) P):Ev2 (λ n m=>(g n m).bind (k n m)) P :=
 ah (·=x) h λ y hy=>by subst hy; exact hk
end
def jg (b:UInt8):Bool:=(decide (97<=b.toNat)&&decide (b.toNat<=122))||(decide (65<=b.toNat)&&decide (b.toNat<=90))||decide (b.toNat=95)
def d3 (b:UInt8):Bool:=decide (48<=b.toNat)&&decide (b.toNat<=57)
def idB (b:UInt8):Bool:=jg b||d3 b
def fm:Bytes->Bool
 | []=>false
 | b::r=>decide ((b::r).length<=64)&&jg b&&r.all idB
def y5 (s:Bytes)(i:Nat):Bool:=jg (s.getD i 0)||(decide (i≠0)&&d3 (s.getD i 0))
def kq (p:Nat->Bool):Nat->Nat->Bool
 | _,0=>true
 | i,k+1=>p i&&kq p (i+1) k
theorem o4 (p:Nat->Bool):∀ (k i:Nat),kq p i k=true↔∀ j,i<=j->j < i+k->p j=true
 | 0,i=>by simp [kq]; intro j h1 h2; omega
 | k+1,i=>by
  rw [kq,n6,o4 p k (i+1)];constructor
  ·rintro ⟨h1,h2⟩ j h3 h4;by_cases e:j=i
   ·rw [e]; exact h1
   ·exact h2 j O O
  ·intro h;exact ⟨h i O O,λ j h1 h2=>h j O O⟩
theorem or32:(List.range 256).all (λ n=>(decide ((97:Int)<=iOr .u8 (n:Int) 32)&&decide (iOr .u8 (n:Int) 32<=122)) == ((decide (97<=n)&&decide (n<=122))||(decide (65<=n)&&decide (n<=90))))=true:=by kernel_rfl
theorem OA (b:UInt8):(97<=iOr .u8 ((b.toNat:Nat):Int) 32/\iOr .u8 ((b.toNat:Nat):Int) 32<=122)↔((97<=b.toNat/\b.toNat<=122)\/(65<=b.toNat/\b.toNat<=90)):=by
 have h:=py.1 or32 b.toNat (List.mem_range.2 b.toNat_lt);have h:=eq_of_beq h;rw [Bool.eq_iff_iff] at h;simpa using h
theorem mC (b:UInt8):jg b=true↔(97<=b.toNat/\b.toNat<=122)\/(65<=b.toNat/\b.toNat<=90)\/b.toNat=95:=by
 simp [jg,or_assoc]
theorem jq (b:UInt8):d3 b=true↔48<=b.toNat/\b.toNat<=57:=by simp [d3]
theorem eqB {a b:Bool}(h:a=true↔b=true):a=b:=Bool.eq_iff_iff.2 h
theorem mx (s:Bytes)(i:Nat):y5 s i=true↔jg (s.getD i 0)=true\/(i≠0/\d3 (s.getD i 0)=true):=by simp [y5]
theorem tF (s:Bytes):fm s=true↔s≠[]/\s.length<=64/\kq (y5 s) 0 s.length=true:=by
 rw [o4]
 cases s with
 | nil=>simp [fm]
 | cons b r =>
  simp only [fm,n6,decide_eq_true_eq,py];constructor
  ·rintro ⟨⟨h1,h2⟩,h3⟩;refine ⟨by simp,h1,λ j _ hj=>?_⟩;rw [mx]
   cases j with
   | zero=>exact .inl h2
   | succ j =>
    have hm:r.getD j 0∈r:=by
     rw [List.getD_eq_getElem?_getD,List.getElem?_eq_getElem (by simp at hj; omega)];exact List.getElem_mem _
    have:=h3 _ hm;simp only [idB,Bool.or_eq_true] at this;rcases this with h | h
    ·exact .inl h
    ·exact .inr ⟨by omega,h⟩
  ·rintro ⟨_,h1,h2⟩;refine ⟨⟨h1,?_⟩,λ x hx=>?_⟩
   ·have:=(mx _ _).1 (h2 0 O G);simpa using this
   ·obtain ⟨j,hj,rfl⟩:=List.getElem_of_mem hx;have:=(mx _ _).1 (h2 (j+1) O fk);rw [show (b::r).getD (j+1) 0=r[j] by simp [hj]] at this;exact F1
theorem zm (s:Bytes):fm s=true↔s≠[]/\s.length<=64/\jg (s.getD 0 0)=true/\kq (λ j=>idB (s.getD j 0)) 0 s.length=true:=by
 rw [tF,o4,o4];constructor
 ·rintro ⟨h1,h2,h3⟩;have hl:0 < s.length:=List.length_pos_iff.2 h1;refine ⟨h1,h2,?_,λ j _ hj=>?_⟩
  ·have:=(mx s 0).1 (h3 0 O O);simpa using this
  ·have:=(mx s j).1 (h3 j O hj);exact F1
 ·rintro ⟨h1,h2,h3,h4⟩;refine ⟨h1,h2,λ j _ hj=>(mx s j).2 ?_⟩;have:=h4 j O hj;simp only [idB,Bool.or_eq_true] at this;by_cases e:j=0
  ·subst e; exact .inl h3
  ·rcases this with h | h
   ·exact .inl h
   ·exact .inr ⟨e,h⟩
end Go.Ab.R06
namespace Go.Ab.R06
open Go.Ab Go.Ab.RB Go.Lib
def gu (acc:Nat)(l:Bytes):Nat:=l.foldl (λ a b=>a*10+(b.toNat - 48)) acc
theorem n0 (a:Nat):gu a []=a:=rfl
theorem pJ (a:Nat)(b:UInt8)(l:Bytes):gu a (b::l)=gu (a*10+(b.toNat - 48)) l:=by simp only [gu,List.foldl_cons]
theorem yH (a:Nat)(l m:Bytes):gu a (l++m)=gu (gu a l) m:=by simp [gu]
theorem rS (a:Nat)(l:Bytes)(b:UInt8):gu a (l++[b])=gu a l*10+(b.toNat - 48):=by rw [yH]; rfl
theorem Dn:∀ (l:Bytes) (a:Nat),a<=gu a l
 | [],a=>Nat.le_of_eq (n0 a).symm
 | b::r,a=>by
  rw [pJ];have:=Dn r (a*10+(b.toNat - 48));generalize gu (a*10+(b.toNat - 48)) r=v at this ⊢;omega
theorem nb {l:Bytes}(h:l.all d3=true){b:UInt8}(hb:b∈l):48<=b.toNat/\b.toNat<=57:=(jq b).1 (py.1 h b hb)
theorem IR:∀ (l:Bytes) (acc:Nat),l.all d3=true->(gu acc l<=18446744073709551615->parseUintM 18446744073709551615 acc l=.ok (gu acc l))/\(18446744073709551615 < gu acc l->acc<=18446744073709551615->parseUintM 18446744073709551615 acc l=.range)
 | [],acc,_=>by
  rw [n0];exact ⟨λ _=>rfl,λ h h'=>by omega⟩
 | b::r,acc,h=>by
  have hb:=nb h List.mem_cons_self;have hr:r.all d3=true:=by simp only [List.all_cons,n6] at h; exact h.2
  rw [parseUintM,if_pos hb,pJ];have hg:=Dn r (acc*10+(b.toNat - 48));have ih:=IR r (acc*10+(b.toNat - 48)) hr;generalize gu (acc*10+(b.toNat - 48)) r=v at hg ih ⊢;by_cases h1:1844674407370955162<=acc
  ·rw [if_pos h1];exact ⟨λ h2=>by omega,λ _ _=>rfl⟩
  ·rw [if_neg h1];by_cases h2:18446744073709551615 < acc*10+(b.toNat - 48)
   ·rw [if_pos h2];exact ⟨λ h3=>by omega,λ _ _=>rfl⟩
   ·rw [if_neg h2];exact ⟨ih.1,λ h3 _=>ih.2 h3 O⟩
theorem Qu (l:Bytes)(Tc:l≠[])(h:l.all d3=true):parseUintB 64 l=if gu 0 l<=18446744073709551615 then .ok (gu 0 l) else .range:=by
 rw [parseUintB,if_neg Tc];show parseUintM (2 ^ 64 - 1) 0 l=_;rw [show (2 ^ 64 - 1:Nat)=18446744073709551615 from rfl];have:=IR l 0 h;generalize gu 0 l=v at this ⊢;by_cases q:v<=18446744073709551615
 ·rw [if_pos q]; exact this.1 q
 ·rw [if_neg q]; exact this.2 O O
def pk (l:Bytes):Bool:=!l.isEmpty&&l.all d3&&(decide (l.getD 0 0≠48)||decide (l.length=1))
theorem jJ (l:Bytes):pk l=true↔l≠[]/\l.all d3=true/\(l.getD 0 0≠48\/l.length=1):=by
 simp [pk,and_assoc]
def oU (s:Bytes):Bool:=decide (0 < s.length)&&decide (s.getD 0 0=45)
def digits (s:Bytes):Bytes:=if oU s=true then s.drop 1 else s
def p6 (s:Bytes):Bool:=!(oU s&&decide (s.drop 1=[48]))&&pk (digits s)
def kW (s:Bytes):Int:=if oU s=true then -(gu 0 (digits s):Int) else (gu 0 (digits s):Int)
def iw:Int:=9007199254740992
def oG (s:Bytes):Int×Int:=if p6 s=true then (if -iw<=kW s/\kW s<=iw then (kW s,0) else (0,5)) else (0,2)
theorem H3 (s:Bytes)(hs:s.length<=1000000000):∀ (k i:Nat),i+k=s.length->Ev2 (λ _ m=>cp s m (i:Int)) (·=if kq (λ j=>d3 (s.getD j 0)) i k then .inl () else .inr false):=by
 intro k
 induction k with
 | zero =>
  intro i hi;refine aw ?_;simp only [cp];refine af O (aa rfl)
 | succ k ih =>
  intro i hi;refine aw ?_;simp only [cp];refine ae O ?_;have hb:byt s i=((s.getD i 0).toNat:Int):=cD s i;rw [hb];refine aj (!d3 (s.getD i 0)) ?_ ?_
  ·exact Hv
  ·cases hk:d3 (s.getD i 0) with
   | false=>exact ae Z (aa (by simp only [kq,hk,Bool.false_and]; rfl))
   | true =>
    exact Bv
theorem zr (s:Bytes)(p:UInt8->Bool):kq (λ j=>p (s.getD j 0)) 0 s.length=s.all p:=by
 refine eqB ?_;rw [o4,py];constructor
 ·intro h x hx;obtain ⟨j,hj,rfl⟩:=List.getElem_of_mem hx;have:=h j O O;simpa [hj] using this
 ·intro h j _ hj;have hj:j < s.length:=by omega
  have:=h s[j] (List.getElem_mem hj);simpa [hj] using this
theorem xd (s:Bytes)(hs:s.length<=1000000000):Ev2 (λ n _=>gY n s) (·=p6 s):=by
 simp only [gY];have hb:byt s 0=((s.getD 0 0).toNat:Int):=cD s 0;have hneg:oU s=true↔0 < s.length/\s.getD 0 0=45:=by simp [oU]
 have h45:(s.getD 0 0).toNat=45↔s.getD 0 0=45:=⟨λ h=>UInt8.toNat_inj.1 h,λ h=>by rw [h]; rfl⟩
 have body:∀ t:Bytes,t.length<=1000000000->Ev2 (λ n m=>jn (cp t n 0) λ UV =>
   ((if t=([]:Bytes) then some false else ck ((0:Int)<=0/\0 < (t.length:Int)) <| if byt t 0=48 then some (decide ((t.length:Int)=1)) else some true):Option Bool).bind λ YW=>some YW) (·=pk t):=by
  intro t ht;have l:=H3 t ht t.length 0 O;rw [zr] at l;have hc:=jJ t;have hb':byt t 0=((t.getD 0 0).toNat:Int):=cD t 0;have h48:(t.getD 0 0).toNat=48↔t.getD 0 0=48:=⟨λ h=>UInt8.toNat_inj.1 h,λ h=>by rw [h]; rfl⟩
  cases ha:t.all d3 with
  | false =>
   rw [ha] at l hc;refine iC false (aO l) (eqB ?_);rw [hc]; simp
  | true =>
   rw [ha] at l hc;refine ez () (aO l) (ah (·=pk t) ?_ (λ x hx=>aa hx));refine av (λ h=>aa (eqB ?_)) (λ h=>ag ?_ ?_)
   ·rw [hc]; simp [h]
   ·have:=List.length_pos_iff.2 h; omega
   ·rw [hb'];refine av (λ h1=>aa (eqB ?_)) (λ h1=>aa (eqB ?_))
    ·have h2:=h48.1 O;rw [hc,decide_eq_true_eq];constructor
     ·intro q; exact ⟨h,by simp,.inr O⟩
     ·rintro ⟨_,_,q | q⟩
      ·exact absurd h2 q
      ·omega
    ·rw [hc]; simp only [true_iff];exact ⟨h,by simp,.inl λ q=>h1 (by have:=h48.2 q; omega)⟩
 refine cm (aj (oU s) ?_ ?_)
 ·refine av (λ h=>ag O (aa (eqB ?_))) (λ h=>aa (eqB ?_))
  ·rw [hneg,hb,decide_eq_true_eq];constructor
   ·intro q; exact ⟨by omega,h45.1 O⟩
   ·rintro ⟨_,q⟩; have:=h45.2 q; omega
  ·rw [hneg];constructor
   ·intro q; cases q
   ·rintro ⟨q,_⟩; omega
 ·rw [jU];show Ev2 (λ n m=>if oU s=true then ck _ (if s.drop 1=[48] then some (Sum.inr false) else some (Sum.inl (s.drop 1))) else some (Sum.inl s)) _;refine av (λ h=>ag ?_ (av (λ h1=>aa ?_) (λ h1=>aa ?_))) (λ h=>aa ?_)
  ·have:=hneg.1 h; omega
  ·simp [p6,h,h1]
  ·have e:p6 s=pk (s.drop 1):=by unfold p6 digits; rw [if_pos h,decide_eq_false h1]; simp
   rw [e];exact body _ fk
  ·have e:p6 s=pk s:=by simp [p6,h,digits]
   rw [e];exact body _ hs
theorem xu (v:Int):iX v=some (decide (-iw<=v/\v<=iw)):=by
 simp only [iX];by_cases h:(-9007199254740992:Int)<=v
 ·rw [if_pos h];by_cases h2:v<=9007199254740992
  ·simp [h2,iw,h]
  ·simp [h2,iw]
 ·rw [if_neg h,cl];refine congrArg some (eqB ?_);rw [decide_eq_true_eq]; unfold iw;constructor
  ·intro q; cases q
  ·intro q; exact absurd q.1 h
theorem sZ {s:Bytes}(h:p6 s=true):digits s≠[]/\(digits s).all d3=true:=by
 simp only [p6,n6] at h;have:=(jJ _).1 h.2;exact ⟨this.1,this.2.1⟩
theorem PT (s:Bytes)(h:p6 s=true):parseIntB 64 s=if (if oU s=true then 9223372036854775808 < gu 0 (digits s) else 9223372036854775808<=gu 0 (digits s)) then .range else .ok (kW s):=by
 obtain ⟨h1,h2⟩:=sZ h
 cases s with
 | nil=>exact absurd (by simp [digits,oU]) h1
 | cons c r =>
  have e45:c.toNat=45↔c=45:=⟨λ h=>UInt8.toNat_inj.1 h,λ h=>by rw [h]; rfl⟩
  have hneg:oU (c::r)=decide (c=45):=by simp [oU]
  have hd:(if c.toNat=43\/c.toNat=45 then r else c::r)=digits (c::r):=by
   unfold digits;rw [hneg];by_cases q:c=45
   ·rw [if_pos (.inr (e45.2 q)),if_pos (by simp [q])]; rfl
   ·have e:digits (c::r)=c::r:=by unfold digits; rw [hneg,if_neg (by simp [q])]
    have e2:(if decide (c=45)=true then List.drop 1 (c::r) else c::r)=c::r:=if_neg (by simp [q]);rw [e2,if_neg];rintro (k | k)
    ·rw [e] at h2;have:=nb h2 List.mem_cons_self;omega
    ·exact q (e45.1 k)
  have hp:=Qu _ h1 h2;unfold parseIntB;simp only [hd,hp];rw [hneg];unfold kW;rw [hneg];generalize gu 0 (digits (c::r))=v;by_cases q:c=45
  ·subst q;by_cases hv:v<=18446744073709551615
   ·simp only [hv,if_true];by_cases hw:9223372036854775808 < v
    ·simp [hw]
    ·simp [hw]
   ·simp only [hv,if_false];rw [if_pos]; simp; omega
  ·have q':¬ c.toNat=45:=λ k=>q (e45.1 k);by_cases hv:v<=18446744073709551615
   ·simp only [hv,if_true];by_cases hw:9223372036854775808<=v
    ·simp [q,q',hw]
    ·simp [q,q',hw]
   ·simp only [hv,if_false];rw [if_pos]; simp [q]; omega
theorem yG (s:Bytes)(hs:s.length<=1000000000):Ev2 (λ n _=>j6 n s) (·=oG s):=by
 simp only [j6];refine aj _ (xd s hs) ?_
 cases hc:p6 s with
 | false=>exact ae Z (aa (by simp [oG,hc]))
 | true =>
  refine af G ?_
  have hp:ja s 10 64=some (match parseIntB 64 s with | .ok v=>(v,false) | .range=>(intSat 64 s,true) | _=>(0,true)):=by
   unfold ja;exact bC ⟨Z,Z,by omega⟩
  rw [PT s hc] at hp;have e:oG s=(if -iw<=kW s/\kW s<=iw then (kW s,0) else (0,5)):=by simp [oG,hc]
  rw [e];by_cases hr:(if oU s=true then 9223372036854775808 < gu 0 (digits s) else 9223372036854775808<=gu 0 (digits s))
  ·rw [if_pos hr] at hp;refine aj _ (ax hp rfl) ?_;refine aj true u5 (ae rfl (aa ?_));rw [if_neg];unfold kW iw
   cases hn:oU s with
   | true=>rw [hn,if_pos rfl] at hr; rw [if_pos rfl]; omega
   | false=>rw [hn,if_neg G] at hr; rw [if_neg G]; omega
  ·rw [if_neg hr] at hp;refine aj _ (ax hp rfl) ?_;refine aj (!decide (-iw<=kW s/\kW s<=iw)) ?_ ?_
   ·exact af G (aj _ (ax (xu _) Z) (aa Z))
   ·by_cases q:-iw<=kW s/\kW s<=iw
    ·rw [if_pos q];exact af (by simp [q]) (aa rfl)
    ·rw [if_neg q];exact ae (by simp only [q,decide_false,Bool.not_false]) (aa rfl)
theorem Do:∀ (n u:Nat),u < n->gu 0 (decDigits u)=u/\(decDigits u).all d3=true/\decDigits u≠[]/\((decDigits u).getD 0 0≠48\/(decDigits u).length=1)/\(1<=u->(decDigits u).getD 0 0≠48):=by
 intro n
 induction n with
 | zero=>intro u h; omega
 | succ n ih =>
  intro u hu
  have hdig:∀ k,k < 10->(UInt8.ofNat (48+k)).toNat=48+k:=λ k hk=>by
   rw [UInt8.toNat_ofNat']; omega
  rw [decDigits];by_cases h:u < 10
  ·rw [dif_pos h];have:=hdig u h;refine ⟨by rw [pJ,n0,this]; omega,by simp only [List.all_cons,List.all_nil,Bool.and_true,jq,this]; omega,by simp,.inr rfl,λ h1=>?_⟩;intro q;have q':(UInt8.ofNat (48+u))=48:=q;rw [q'] at this;have:(48:UInt8).toNat=48:=rfl;omega
  ·rw [dif_neg h];obtain ⟨a1,a2,a3,a4,a5⟩:=ih (u / 10) O;have hd:=hdig (u % 10) O
   have hh:(decDigits (u / 10)++[UInt8.ofNat (48+u % 10)]).getD 0 0=(decDigits (u / 10)).getD 0 0:=by
    cases hx:decDigits (u / 10) with
    | nil=>exact absurd hx a3
    | cons c r=>rfl
   refine ⟨?_,?_,by simp,?_,?_⟩
   ·rw [rS,a1,hd]; omega
   ·rw [List.all_append,a2]; simp only [List.all_cons,List.all_nil,Bool.and_true,Bool.true_and,jq,hd]; omega
   ·rw [hh]; exact .inl (a5 O)
   ·rw [hh]; exact λ _=>a5 O
theorem yw:∀ (n:Nat) (l:Bytes),l.length<=n->pk l=true->decDigits (gu 0 l)=l/\(l.getD 0 0≠48->1<=gu 0 l):=by
 intro n
 induction n with
 | zero=>intro l hl h; have:=((jJ l).1 h).1; cases l <;> simp_all
 | succ n ih =>
  intro l hl h;obtain ⟨h1,h2,h3⟩:=(jJ l).1 h
  have hof:∀ b:UInt8,48<=b.toNat->UInt8.ofNat (48+(b.toNat - 48))=b:=λ b hb=>by
   rw [show 48+(b.toNat - 48)=b.toNat by omega]; simp
  rcases List.eq_nil_or_concat l with rfl | ⟨m,b,rfl⟩
  ·exact absurd Z h1
  ·simp only [List.concat_eq_append] at *;have hb:=nb h2 (b:=b) G;rw [rS];by_cases hm:m=[]
   ·subst hm;rw [n0,decDigits,dif_pos O];refine ⟨by simp [hof b hb.1],λ q=>?_⟩;have q:b≠48:=q;have:b.toNat≠48:=λ k=>q (UInt8.toNat_inj.1 k);omega
   ·have hcm:pk m=true:=by
     rw [jJ];refine ⟨hm,?_,?_⟩
     ·rw [List.all_append,n6] at h2; exact h2.1
     ·rcases h3 with q | q
      ·left
       cases m with
       | nil=>exact absurd Z hm
       | cons c r=>exact q
      ·cases m with
       | nil=>exact absurd Z hm
       | cons c r=>simp at q
    obtain ⟨i1,i2⟩:=ih m (by simp at hl; omega) hcm
    have Tc:m.getD 0 0≠48:=by
     rcases h3 with q | q
     ·cases m with
      | nil=>exact absurd Z hm
      | cons c r=>exact q
     ·cases m with
      | nil=>exact absurd Z hm
      | cons c r=>simp at q
    have hpos:=i2 Tc;refine ⟨?_,λ _=>by omega⟩;rw [decDigits,dif_neg O];rw [show (gu 0 m*10+(b.toNat - 48)) / 10=gu 0 m by omega,show (gu 0 m*10+(b.toNat - 48)) % 10=b.toNat - 48 by omega,i1,hof b hb.1]
theorem QD (v:Int)(h0:0<=v)(h1:v<=iw):oG (itoa v)=(v,0):=by
 obtain ⟨u,rfl⟩:∃ u:Nat,v=u:=⟨v.toNat,by omega⟩
 have e:itoa (u:Int)=decDigits u:=by unfold itoa; rw [if_neg O]; simp
 obtain ⟨a1,a2,a3,a4,a5⟩:=Do (u+1) u O
 have hn:oU (decDigits u)=false:=by
  rw [<- Bool.not_eq_true];intro q;simp only [oU,n6,decide_eq_true_eq] at q
  have hm:(decDigits u).getD 0 0∈decDigits u:=by
   rw [List.getD_eq_getElem?_getD,List.getElem?_eq_getElem q.1]; exact List.getElem_mem _
  have:=nb a2 hm;rw [q.2] at this;have:(45:UInt8).toNat=45:=rfl;omega
 have hd:digits (decDigits u)=decDigits u:=by simp [digits,hn]
 have hc:p6 (decDigits u)=true:=by
  simp only [p6,hn,hd,Bool.false_and,Bool.not_false,Bool.true_and];exact (jJ _).2 ⟨a3,a2,a4⟩
 have hv:kW (decDigits u)=u:=by simp [kW,hn,hd,a1]
 rw [e,oG,if_pos hc,hv,if_pos ⟨by unfold iw at *; omega,h1⟩]
theorem EM (s:Bytes)(v:Int)(h:oG s=(v,0))(h0:0<=v):itoa v=s/\v<=iw:=by
 unfold oG at h;split at h
 ·rename_i hc;split at h
  ·rename_i hr;have hv:kW s=v:=congrArg Prod.fst h;obtain ⟨h1,h2⟩:=sZ hc;simp only [p6,n6] at hc;have hb:=(yw _ (digits s) (bx _) hc.2)
   have hcn:=(jJ _).1 hc.2
   cases hn:oU s with
   | true =>
    exfalso;have hv2:kW s=-(gu 0 (digits s):Int):=by simp [kW,hn]
    have hz:gu 0 (digits s)=0:=by omega
    have:decDigits 0=digits s:=by rw [<- hz]; exact hb.1
    rw [decDigits,dif_pos O] at this;have hd:digits s=s.drop 1:=by simp [digits,hn]
    rw [hd] at this;have h48:s.drop 1=[48]:=this.symm;simp [hn,h48] at hc
   | false =>
    have hd:digits s=s:=by simp [digits,hn]
    have hv2:kW s=(gu 0 s:Int):=by simp [kW,hn,hd]
    rw [hd] at hb;refine ⟨?_,by rw [<- hv]; exact hr.2⟩;rw [<- hv,hv2];unfold itoa;rw [if_neg O];simpa using hb.1
  ·have:=congrArg Prod.snd h; simp at this
 ·have:=congrArg Prod.snd h; simp at this
end Go.Ab.R06
namespace Go.Ab.R06
open Go.Ab Go.Ab.RB Go.Lib
theorem ra (x:Int):IntKind.wrap .u8 x=x % 256:=by simp [IntKind.wrap,IntKind.bits,IntKind.signed]
theorem wrap32 (x:Int):IntKind.wrap .u32 x=x % 4294967296:=by simp [IntKind.wrap,IntKind.bits,IntKind.signed]
theorem shr6 (x:Int):cQ .i32 x 6=x / 64:=by
 show x.fdiv (2 ^ 6)=x / 64;exact Au
theorem Ry (x:Int):cQ .i32 x 12=x / 4096:=by
 show x.fdiv (2 ^ 12)=x / 4096;exact Au
theorem Sw (x:Int):cQ .i32 x 18=x / 262144:=by
 show x.fdiv (2 ^ 18)=x / 262144;exact Au
theorem t63:(List.range 256).all (λ n=>bH .u8 (n:Int) 63 == ((n % 64:Nat):Int))=true:=by kernel_rfl
theorem t128:(List.range 64).all (λ n=>iOr .u8 128 (n:Int) == ((128+n:Nat):Int))=true:=by kernel_rfl
theorem t192:(List.range 32).all (λ n=>iOr .u8 192 (n:Int) == ((192+n:Nat):Int))=true:=by kernel_rfl
theorem t224:(List.range 16).all (λ n=>iOr .u8 224 (n:Int) == ((224+n:Nat):Int))=true:=by kernel_rfl
theorem t240:(List.range 8).all (λ n=>iOr .u8 240 (n:Int) == ((240+n:Nat):Int))=true:=by kernel_rfl
theorem tab {f g:Nat->Int}{m:Nat}(h:(List.range m).all (λ n=>f n == g n)=true)(n:Nat)(hn:n < m):f n=g n:=eq_of_beq (py.1 h n (List.mem_range.2 hn))
theorem H6 (x:Int):bH .u8 (IntKind.wrap .u8 x) 63=x % 64:=by
 rw [ra];obtain ⟨n,hn⟩:∃ n:Nat,x % 256=n:=⟨(x % 256).toNat,by omega⟩
 rw [hn,tab t63 n O]; omega
theorem GG {x:Int}(h0:0<=x)(h1:x < 64):iOr .u8 128 x=128+x:=by
 obtain ⟨n,rfl⟩:∃ n:Nat,x=n:=⟨x.toNat,by omega⟩
 rw [tab t128 n O]; omega
theorem Sd {x:Int}(h0:0<=x)(h1:x < 32):iOr .u8 192 x=192+x:=by
 obtain ⟨n,rfl⟩:∃ n:Nat,x=n:=⟨x.toNat,by omega⟩
 rw [tab t192 n O]; omega
theorem RN {x:Int}(h0:0<=x)(h1:x < 16):iOr .u8 224 x=224+x:=by
 obtain ⟨n,rfl⟩:∃ n:Nat,x=n:=⟨x.toNat,by omega⟩
 rw [tab t224 n O]; omega
theorem RJ {x:Int}(h0:0<=x)(h1:x < 8):iOr .u8 240 x=240+x:=by
 obtain ⟨n,rfl⟩:∃ n:Nat,x=n:=⟨x.toNat,by omega⟩
 rw [tab t240 n O]; omega
def gj (r:Int):Prop:=(0<=r/\r < 55296)\/(57343 < r/\r<=1114111)
theorem zI (p:Bytes)(r:Int)(h:gj r)(hp:p.length<=100000000000):dQ p r=some (p++encodeRune r):=by
 have h0:0<=r/\r<=1114111:=by unfold gj at h; omega
 have hw:IntKind.wrap .u32 r=r:=by rw [wrap32]; omega
 unfold dQ;rw [hw];by_cases h1:r<=127
 ·have hw8:IntKind.wrap .u8 r=r:=by rw [ra]; omega
  rw [if_pos h1,hw8,bC O,bC fk];simp only [encodeRune,encodeRuneZ,if_pos (show 0<=r/\r<=127 from ⟨h0.1,h1⟩),la,th,u8]
 rw [if_neg h1];unfold cX;rw [hw,H6,shr6,Ry,Sw,H6,H6];have o1:iOr .u8 128 (r % 64)=128+r % 64:=GG O O;have o2:iOr .u8 128 (r / 64 % 64)=128+r / 64 % 64:=GG O O;have o3:iOr .u8 128 (r / 4096 % 64)=128+r / 4096 % 64:=GG O O;rw [o1,o2,o3];have n1:¬ (0<=r/\r<=127):=by omega
 by_cases h2:r<=2047
 ·have hw8:IntKind.wrap .u8 (r / 64)=r / 64:=by rw [ra]; omega
  rw [if_pos h2,hw8,Sd O O,bC O,bC O,bC O,bC fk];simp only [encodeRune,encodeRuneZ,if_neg n1,if_pos (show 128<=r/\r<=2047 by omega),la,th,u8,cl]
 rw [if_neg h2];have n2:¬ (128<=r/\r<=2047):=by omega
 by_cases h3:r < 55296\/(57343 < r/\r<=65535)
 ·have hw8:IntKind.wrap .u8 (r / 4096)=r / 4096:=by rw [ra]; omega
  have e:((if r < 55296 then some true else if 57343 < r then some (decide (r<=65535)) else some false):Option Bool)=some true:=by
   rcases h3 with q | q
   ·rw [if_pos q]
   ·rw [if_neg O,if_pos q.1]; simp [q.2]
  rw [e,cl,if_pos rfl,hw8,RN O O,bC O,bC O,bC O,bC O,bC O,bC fk];simp only [encodeRune,encodeRuneZ,if_neg n1,if_neg n2,if_pos (show (2048<=r/\r < 55296)\/(57343 < r/\r<=65535) by omega),la,th,u8,cl]
 ·have h4:65535 < r:=by unfold gj at h; omega
  have hw8:IntKind.wrap .u8 (r / 262144)=r / 262144:=by rw [ra]; omega
  have e:((if r < 55296 then some true else if 57343 < r then some (decide (r<=65535)) else some false):Option Bool)=some false:=by
   rw [if_neg O,if_pos O]; simp; omega
  have e2:((if 65535 < r then some (decide (r<=1114111)) else some false):Option Bool)=some true:=by rw [if_pos h4]; simp; omega
  rw [e,cl,if_neg G,e2,cl,if_pos rfl,hw8,RJ O O,bC O,bC O,bC O,bC O,bC O,bC O,bC O,bC fk];simp only [encodeRune,encodeRuneZ,if_neg n1,if_neg n2,if_neg (show ¬ ((2048<=r/\r < 55296)\/(57343 < r/\r<=65535)) by omega),if_pos (show 65536<=r/\r<=1114111 by omega),la,th,u8,cl]
theorem wA (l:Bytes)(h:l≠[]):decodeGo (str l)=decodeL l:=by
 unfold decodeGo;rw [if_neg]
 ·rfl
 ·rw [jk]; intro q; exact h (List.length_eq_zero_iff.1 q)
theorem lF (r:Int)(_h:gj r):1<=(encodeRune r).length/\(encodeRune r).length<=4:=by
 unfold encodeRune encodeRuneZ;rw [List.length_map]
 repeat' split
 all_goals simp
theorem C4 (r:Int)(h:gj r)(t:Bytes):decodeL (encodeRune r++t)=(r.toNat,(encodeRune r).length):=by
 have h0:0<=r/\r<=1114111:=by unfold gj at h; omega
 have hb:∀ x:Int,0<=x->x < 256->(x.toNat.toUInt8).toNat=x.toNat:=λ x a b=>by
  show (UInt8.ofNat x.toNat).toNat=_;rw [UInt8.toNat_ofNat']; omega
 rw [decodeL_N];by_cases h1:r<=127
 ·have e:encodeRune r=[r.toNat.toUInt8]:=by simp only [encodeRune,encodeRuneZ,if_pos (show 0<=r/\r<=127 from ⟨h0.1,h1⟩),la,th]
  rw [e];have b0:=hb r O O;simp only [List.cons_append,List.getD_cons_zero,b0];unfold decodeN;rw [if_pos O]; rfl
 have n1:¬ (0<=r/\r<=127):=by omega
 by_cases h2:r<=2047
 ·have e:encodeRune r=[(192+r / 64).toNat.toUInt8,(128+r % 64).toNat.toUInt8]:=by
   simp only [encodeRune,encodeRuneZ,if_neg n1,if_pos (show 128<=r/\r<=2047 by omega),la,th]
  rw [e];have b0:=hb (192+r / 64) O O;have b1:=hb (128+r % 64) O O;simp only [List.cons_append,List.getD_cons_zero,List.getD_cons_succ,b0,b1,aq,List.nil_append];unfold decodeN;rw [if_neg O,if_pos O,if_pos O];exact Be
 have n2:¬ (128<=r/\r<=2047):=by omega
 by_cases h3:r < 55296\/(57343 < r/\r<=65535)
 ·have e:encodeRune r=[(224+r / 4096).toNat.toUInt8,(128+r / 64 % 64).toNat.toUInt8,(128+r % 64).toNat.toUInt8]:=by
   simp only [encodeRune,encodeRuneZ,if_neg n1,if_neg n2,if_pos (show (2048<=r/\r < 55296)\/(57343 < r/\r<=65535) by omega),la,th]
  rw [e];have b0:=hb (224+r / 4096) O O;have b1:=hb (128+r / 64 % 64) O O;have b2:=hb (128+r % 64) O O;simp only [List.cons_append,List.getD_cons_zero,List.getD_cons_succ,b0,b1,b2,aq,List.nil_append];unfold decodeN;rw [if_neg O,if_neg O,if_pos O,if_pos O];exact Be
 ·have h4:65535 < r:=by unfold gj at h; omega
  have e:encodeRune r=[(240+r / 262144).toNat.toUInt8,(128+r / 4096 % 64).toNat.toUInt8,(128+r / 64 % 64).toNat.toUInt8,(128+r % 64).toNat.toUInt8]:=by
   simp only [encodeRune,encodeRuneZ,if_neg n1,if_neg n2,if_neg (show ¬ ((2048<=r/\r < 55296)\/(57343 < r/\r<=65535)) by omega),if_pos (show 65536<=r/\r<=1114111 by omega),la,th]
  rw [e];have b0:=hb (240+r / 262144) O O;have b1:=hb (128+r / 4096 % 64) O O;have b2:=hb (128+r / 64 % 64) O O;have b3:=hb (128+r % 64) O O;simp only [List.cons_append,List.getD_cons_zero,List.getD_cons_succ,b0,b1,b2,b3,aq,List.nil_append];unfold decodeN;rw [if_neg O,if_neg O,if_neg O,if_pos O,if_pos O];exact Be
theorem vZ (r:Int)(h:gj r)(t:Bytes):validD (encodeRune r++t)=validD t:=by
 have hl:=lF r h
 have Tc:encodeRune r++t≠[]:=by
  intro q; rw [List.append_eq_nil_iff] at q; rw [q.1] at hl; simp at hl
 rw [validD_step _ Tc,C4 r h t,if_neg]
 ·simp
 ·rintro ⟨a,b⟩;have hr:r=65533:=by omega
  subst hr;simp [encodeRune,encodeRuneZ] at b
theorem iA (l:Bytes)(h:l≠[]):1<=(decodeL l).2/\(decodeL l).2<=l.length/\(¬ ((decodeL l).1=65533/\(decodeL l).2=1)->gj ((decodeL l).1:Int)/\encodeRune ((decodeL l).1:Int)=l.take (decodeL l).2):=by
 have hl:0 < l.length:=List.length_pos_iff.2 h;have hd:=decN l.length (l.getD 0 0).toNat (l.getD 1 0).toNat (l.getD 2 0).toNat (l.getD 3 0).toNat O (UInt8.toNat_lt _);rw [<- decodeL_N] at hd;refine ⟨hd.1,hd.2.1,λ q=>⟨?_,encode_decode l h q⟩⟩;have:=hd.2.2.2.2.2;unfold gj; omega
theorem A5 (l:Bytes)(h:l≠[]):validD l=true↔¬ ((decodeL l).1=65533/\(decodeL l).2=1)/\validD (l.drop (decodeL l).2)=true:=by
 rw [validD_step l h];by_cases q:(decodeL l).1=65533/\(decodeL l).2=1
 ·simp [q]
 ·simp [q]
end Go.Ab.R06
namespace Go.Ab.R06
open Go.Ab Go.Ab.RB Go.Lib
theorem NV (f:Bytes)(r:Int)(hr:gj r)(h:f.length<=10000000000):dj (bW.mk f) r=some (((encodeRune r).length:Int),false,bW.mk (f++encodeRune r)):=by
 have hl:=lF r hr;unfold dj gw;rw [cl,zI f r hr O,cl];have e:((f++encodeRune r).length:Int) - (f.length:Int)=(encodeRune r).length:=by rw [ph]; omega
 rw [e,bC aB]
theorem bstr (f:Bytes)(h:f.length<=1000000000000):fP (bW.mk f)=some (f,bW.mk f):=by
 unfold fP;rw [bC pr]
def oJ (b:UInt8):Bytes :=
 if b.toNat=10 then [92,110] else if b.toNat=13 then [92,114] else if b.toNat=9 then [92,116]
 else if b.toNat=34\/b.toNat=92 then [92,b] else if b.toNat < 32\/b.toNat=127 then [92,117,123]++m9 b.toNat++[125] else [b]
def Ko (s:Bytes):Bytes:=34::(s.flatMap oJ++[34])
theorem Sr {b:UInt8}(h:b.toNat=10):oJ b=[92,110]:=by unfold oJ; rw [if_pos h]
theorem RS {b:UInt8}(h:b.toNat=13):oJ b=[92,114]:=by unfold oJ; rw [if_neg O,if_pos h]
theorem SA {b:UInt8}(h:b.toNat=9):oJ b=[92,116]:=by unfold oJ; rw [if_neg O,if_neg O,if_pos h]
theorem Sa {b:UInt8}(h1:b.toNat≠10)(h2:b.toNat≠13)(h3:b.toNat≠9)(h:b.toNat < 32\/b.toNat=127):oJ b=[92,117,123]++m9 b.toNat++[125]:=by
 unfold oJ; rw [if_neg h1,if_neg h2,if_neg h3,if_neg O,if_pos h]
theorem RO {b:UInt8}(h1:b.toNat≠34)(h2:b.toNat≠92)(h:¬ (b.toNat < 32\/b.toNat=127)):oJ b=[b]:=by
 unfold oJ; rw [if_neg O,if_neg O,if_neg O,if_neg O,if_neg h]
theorem sP (n:Nat):1<=(m9 n).length/\(m9 n).length<=2:=by
 unfold m9; split <;> simp
theorem zE (b:UInt8):1<=(oJ b).length/\(oJ b).length<=6:=by
 have:=sP b.toNat;unfold oJ
 repeat' split
 all_goals (simp; try omega)
theorem Kk (s:Bytes):s.length<=(s.flatMap oJ).length/\(s.flatMap oJ).length<=6*s.length:=by
 induction s with
 | nil=>simp
 | cons b r ih=>have:=zE b; simp only [List.flatMap_cons,ph,aq]; omega
theorem OL (s:Bytes):jT s=some (decide (s.length<=4096)&&validD s):=by
 unfold jT;by_cases h:(s.length:Int)<=4096
 ·have hv:dx s=some (validD s):=by unfold dx; exact bC O
  rw [if_pos h,hv];simp; omega
 ·rw [if_neg h];simp; intro q; omega
end Go.Ab.R06
namespace Go.Ab.R06
open Go.Ab Go.Ab.RB Go.Lib
def pj (b:UInt8):Option Nat:=if 48<=b.toNat/\b.toNat<=57 then some (b.toNat - 48) else if 97<=b.toNat/\b.toNat<=102 then some (b.toNat - 87) else none
def E7:Bytes:=[48,49,50,51,52,53,54,55,56,57,97,98,99,100,101,102]
theorem hexT:(List.range 256).all (λ n=>indexByte E7 (UInt8.ofNat n) == (match pj (UInt8.ofNat n) with | some d=>(d:Int) | none=>-1))=true:=by kernel_rfl
theorem vM (b:UInt8):indexByte E7 b=match pj b with | some d=>(d:Int) | none=>-1:=by
 have:=eq_of_beq (py.1 hexT b.toNat (List.mem_range.2 b.toNat_lt));simpa using this
theorem CF {b:UInt8}{d:Nat}(h:pj b=some d):d < 16:=by
 unfold pj at h;split at h
 ·cases h; omega
 ·split at h
  ·cases h; omega
  ·cases h
def bN:Nat->Bytes->Nat->Nat×Nat
 | 0,_,a=>(a,0)
 | _+1,[],a=>(a,0)
 | k+1,b::r,a=>match pj b with
  | some d=>((bN k r (16*a+d)).1,(bN k r (16*a+d)).2+1)
  | none=>(a,0)
theorem nH:∀ (k:Nat) (l:Bytes) (a:Nat),(bN k l a).2<=k/\(bN k l a).2<=l.length
 | 0,_,_=>⟨bx _,rg _⟩
 | _+1,[],_=>⟨rg _,bx _⟩
 | k+1,b::r,a=>by
  unfold bN
  cases pj b with
  | none=>exact ⟨rg _,rg _⟩
  | some d=>have:=nH k r (16*a+d); simp only [aq]; omega
theorem pI (n:Int)(h0:0<=n)(h1:n < 2147483648):IntKind.wrap .i32 n=n:=by
 exact rN
theorem O3 (s:Bytes)(_hs:s.length<=1000000000):∀ (k i a:Nat),i+k=6->i<=s.length->a < 16 ^ i->Ev2 (λ _ m=>co s m (a:Int) (i:Int))
  (·=(((bN k (s.drop i) a).1:Int),((i+(bN k (s.drop i) a).2:Nat):Int))):=by
 intro k
 induction k with
 | zero =>
  intro i a hi hl ha;refine aw ?_;simp only [co];refine aj false ?_ (af G (aa (by simp [bN])));exact av (λ h=>aa fk) (λ h=>aa rfl)
 | succ k ih =>
  intro i a hi hl ha;refine aw ?_;simp only [co];by_cases h:i < s.length
  ·refine aj true uT (ae Z (ag O ?_));have hb:byt s i=((s.getD i 0).toNat:Int):=cD s i;rw [hb]
   have hd:s.drop i=s.getD i 0::s.drop (i+1):=by
    exact JN
   rw [hd];generalize s.getD i 0=b
   have hx:strings_IndexByte ([48,49,50,51,52,53,54,55,56,57,97,98,99,100,101,102]:Bytes) (b.toNat:Int)=some (indexByte E7 b):=by
    exact Ky
   refine aj _ (ax hx Z) ?_;rw [vM];unfold bN
   cases hh:pj b with
   | none=>exact ae (by decide) (aa G)
   | some d =>
    have hlt:=CF hh;have hp:16 ^ i<=16 ^ 5:=Nat.pow_le_pow_right (by decide) O;have hp5:(16:Nat) ^ 5=1048576:=rfl;refine af G (ag aB ?_);have e1:IntKind.wrap .i32 (16*(a:Int))=16*(a:Int):=pI _ O O;have e2:IntKind.wrap .i32 (d:Int)=(d:Int):=pI _ O O
    have e3:IntKind.wrap .i32 (16*(a:Int)+(d:Int))=((16*a+d:Nat):Int):=by
     rw [pI _ O O]; omega
    rw [e1,e2,e3];have:=ih (i+1) (16*a+d) O O  (by rw [Nat.pow_succ]; omega);rw [show (((i+1:Nat)):Int)=(i:Int)+1 by omega] at this;exact G5
  ·refine aj false ov (af G (aa ?_));rw [List.drop_of_length_le O];simp [bN]
def fz (s:Bytes):Int×Int×Int :=
 let h:=bN 6 s 0
 if h.2=s.length then (0,0,40)
 else if s.getD h.2 0≠125\/h.2=0\/(1 < h.2/\s.getD 0 0=48)\/validRune (h.1:Int)=false then (0,0,2)
 else ((h.1:Int),((h.2+1:Nat):Int),0)
theorem pc {b:UInt8}{n:Nat}(hn:n < 256):b.toNat=n↔b=UInt8.ofNat n:=by
 constructor
 ·intro h; apply UInt8.toNat_inj.1; rw [h,UInt8.toNat_ofNat']; omega
 ·intro h; rw [h,UInt8.toNat_ofNat']; omega
theorem C1 {s:Bytes}{v c:Nat}(h:bN 6 s 0=(v,c)):fz s=if c=s.length then (0,0,40) else if s.getD c 0≠125\/c=0\/(1 < c/\s.getD 0 0=48)\/validRune (v:Int)=false then (0,0,2) else ((v:Int),((c+1:Nat):Int),0):=by
 unfold fz; rw [h]
theorem M7 (s:Bytes)(hs:s.length<=1000000000):Ev2 (λ n _=>eQ n s) (·=fz s):=by
 simp only [eQ];have l:=O3 s hs 6 0 0 rfl (rg _) (by decide);rw [List.drop_zero,Nat.zero_add] at l;have hle:=nH 6 s 0;refine aj _ (aO l) ?_;obtain ⟨v,c,hh⟩:∃ v c,bN 6 s 0=(v,c):=⟨_,_,rfl⟩
 have hP:=C1 hh;rw [hh] at hle ⊢;simp only at hle ⊢;refine av (λ h=>aa ?_) (λ h=>?_)
 ·rw [hP,if_pos O]
 rw [if_neg (show ¬ c=s.length by omega)] at hP;have hb:byt s c=((s.getD c 0).toNat:Int):=cD s c;have hb0:byt s 0=((s.getD 0 0).toNat:Int):=cD s 0;have h125:(s.getD c 0).toNat=125↔s.getD c 0=125:=pc (by decide);have h48:(s.getD 0 0).toNat=48↔s.getD 0 0=48:=pc (by decide);have hv:cA (v:Int)=some (validRune (v:Int)):=rfl
 have key:Ev2 (λ _ _=>(ck ((0:Int)<=(c:Int)/\(c:Int) < (s.length:Int)) <|
  if byt s c=125 then
   if (c:Int)=0 then some true
   else
   if 1 < (c:Int) then
    ck ((0:Int)<=0/\0 < (s.length:Int)) <|
    if byt s 0=48 then some true
    else (cA (v:Int)).bind λ Vr=>some (!Vr)
   else (cA (v:Int)).bind λ Tg=>some (!Tg)
  else some true:Option Bool)) (·=decide (s.getD c 0≠125\/c=0\/(1 < c/\s.getD 0 0=48)\/validRune (v:Int)=false)):=by
  refine ag O ?_;rw [hb,hb0];refine av (λ h1=>av (λ h2=>aa ?_) (λ h2=>av (λ h3=>ag O (av (λ h4=>aa ?_) (λ h4=>?_))) (λ h3=>?_))) (λ h1=>aa ?_)
  ·symm; rw [decide_eq_true_eq]; right; left; omega
  ·symm; rw [decide_eq_true_eq]; right; right; left; exact ⟨by omega,h48.1 O⟩
  ·have q1:¬ s.getD c 0≠125:=λ q=>q (h125.1 O);have q2:¬ (1 < c/\s.getD 0 0=48):=λ q=>h4 (by have:=h48.2 q.2; omega);refine aj _ (ax hv Z) (aa (eqB ?_));rw [decide_eq_true_eq];have:¬ c=0:=by omega
   simp only [q1,q2,false_or,this,Bool.not_eq_true']
  ·have q1:¬ s.getD c 0≠125:=λ q=>q (h125.1 O);refine aj _ (ax hv Z) (aa (eqB ?_));rw [decide_eq_true_eq];have a1:¬ c=0:=by omega
   have a2:¬ 1 < c:=by omega
   simp only [q1,a1,a2,false_or,false_and,Bool.not_eq_true']
  ·symm; rw [decide_eq_true_eq]; left; intro q; exact h1 (by have:=h125.2 q; omega)
 refine aj _ key ?_;refine av (λ h1=>aa ?_) (λ h1=>ag aB (aa ?_))
 ·rw [hP,if_pos (of_decide_eq_true h1)]
 ·rw [hP,if_neg (λ q=>h1 (decide_eq_true q))];refine Prod.ext rfl (Prod.ext ?_ rfl);show (c:Int)+1=((c+1:Nat):Int);omega
def cV (s:Bytes):Int×Int×Int:=match s with
 | []=>(0,0,40)
 | b::r=>if b.toNat=110 then (10,1,0) else if b.toNat=114 then (13,1,0) else if b.toNat=116 then (9,1,0)
  else if b.toNat=34\/b.toNat=92 then ((b.toNat:Int),1,0)
  else if b.toNat=117 then (match r with
   | []=>(0,0,40)
   | c::t=>if c.toNat=123 then ((fz t).1,(fz t).2.1+2,(fz t).2.2) else (0,0,2))
  else (0,0,2)
theorem pW (b:UInt8)(r:Bytes):cV (b::r)=if b.toNat=110 then (10,1,0) else if b.toNat=114 then (13,1,0) else if b.toNat=116 then (9,1,0)
  else if b.toNat=34\/b.toNat=92 then ((b.toNat:Int),1,0)
  else if b.toNat=117 then (match r with
   | []=>(0,0,40)
   | c::t=>if c.toNat=123 then ((fz t).1,(fz t).2.1+2,(fz t).2.2) else (0,0,2))
  else (0,0,2):=rfl
theorem xY (s:Bytes):0<=(fz s).2.1/\(fz s).2.1<=s.length/\((fz s).2.2=0->gj (fz s).1)/\0<=(fz s).2.2:=by
 have hle:=nH 6 s 0;unfold fz;generalize bN 6 s 0=h at hle ⊢;obtain ⟨v,c⟩:=h;simp only at hle ⊢;split
 ·simp <;> omega
 ·split
  ·simp <;> omega
  ·rename_i h1 h2;refine ⟨by simp only; omega,by simp only; omega,λ _=>?_,by simp⟩
   have:validRune (v:Int)=true:=by
    cases hv:validRune (v:Int) with
    | true=>rfl
    | false=>exact absurd (.inr (.inr (.inr hv))) h2
   simp only [validRune,decide_eq_true_eq] at this;unfold gj; simp only; omega
theorem ol (s:Bytes):0<=(cV s).2.1/\(cV s).2.1<=s.length+1/\((cV s).2.2=0->gj (cV s).1/\(cV s).2.1<=s.length)/\0<=(cV s).2.2:=by
 unfold cV;split
 ·simp
 ·rename_i b r;have hb:=b.toNat_lt;split
  ·simp [gj] <;> omega
  split
  ·simp [gj] <;> omega
  split
  ·simp [gj] <;> omega
  split
  ·simp [gj] <;> omega
  split
  ·split
   ·simp
   ·rename_i c t;have:=xY t;split
    ·refine ⟨by simp only; omega,by simp only [aq]; omega,λ q=>⟨this.2.2.1 q,by simp only [aq]; omega⟩,this.2.2.2⟩
    ·simp <;> omega
  ·simp <;> omega
theorem Nj (s:Bytes)(hs:s.length<=1000000000):Ev2 (λ n _=>jm n s) (·=cV s):=by
 simp only [jm]
 cases s with
 | nil=>exact ae Z (aa Z)
 | cons b r =>
  have hl:((b::r).length:Int)=(r.length:Int)+1:=by simp
  refine af G (ag O ?_);have hb:byt (b::r) 0=(b.toNat:Int):=rfl;have hbl:=b.toNat_lt;rw [hb];have hP:=pW b r;refine av (λ h=>aa (by rw [hP,if_pos O])) (λ h1=>?_);rw [if_neg (show ¬ b.toNat=110 by omega)] at hP;refine av (λ h=>aa (by rw [hP,if_pos O])) (λ h2=>?_);rw [if_neg (show ¬ b.toNat=114 by omega)] at hP;refine av (λ h=>aa (by rw [hP,if_pos O])) (λ h3=>?_);rw [if_neg (show ¬ b.toNat=116 by omega)] at hP;refine aj (decide (b.toNat=34\/b.toNat=92)) ?_ ?_
  ·by_cases h:b.toNat=34
   ·exact AY
   ·exact Am
  by_cases h4:b.toNat=34\/b.toNat=92
  ·rw [if_pos h4] at hP;rw [hP];refine ae (by simp [h4]) (ag O (aa ?_));rw [pI _ O O]
  rw [if_neg h4] at hP;refine af (by simp only [decide_eq_true_eq]; exact h4) ?_;refine av (λ h5=>?_) (λ h5=>aa (by rw [hP,if_neg O]));rw [if_pos (show b.toNat=117 by omega)] at hP;rw [hP]
  cases r with
  | nil=>exact ae G (aa Z)
  | cons c t =>
   have hl2:((b::c::t).length:Int)=(t.length:Int)+2:=by simp <;> omega
   refine af O (ag O ?_);have hc:byt (b::c::t) 1=(c.toNat:Int):=rfl;rw [hc];refine av (λ h6=>ag O ?_) (λ h6=>aa (by show _=if c.toNat=123 then _ else _; rw [if_neg O]));have e6:(if c.toNat=123 then ((fz t).1,(fz t).2.1+2,(fz t).2.2) else ((0,0,2):Int×Int×Int))=((fz t).1,(fz t).2.1+2,(fz t).2.2):=if_pos O;show Ev2 _ (·=if c.toNat=123 then ((fz t).1,(fz t).2.1+2,(fz t).2.2) else ((0,0,2):Int×Int×Int));rw [e6,jU];show Ev2 (λ n m=>(eQ n t).bind _) _;have hle:=xY t;have htl:t.length<=1000000000:=by simp at hs; omega
   exact aj _ (M7 t htl) qB
end Go.Ab.R06
namespace Go.Ab.R06
open Go.Ab Go.Ab.RB Go.Lib
def jx (c:Nat×Nat):Prop:=(c.1=65533/\c.2=1)\/c.1 < 32\/c.1=127
instance (c:Nat×Nat):Decidable (jx c):=inferInstanceAs (Decidable (_\/_))
def pt:Nat->Bytes->Nat->Bytes->(Int×Bytes)⊕(Bytes×Int×Int)
 | 0,_,at',acc=>.inl ((at':Int),acc)
 | _+1,[],at',acc=>.inl ((at':Int),acc)
 | n+1,b::r,at',acc=>if b.toNat=34 then .inl ((at':Int),acc)
  else if (decodeL (b::r)).1=92 then
   (if (cV r).2.2=0 then pt n (r.drop (cV r).2.1.toNat) (at'+((cV r).2.1.toNat+1)) (acc++encodeRune (cV r).1) else .inr ([],0,(cV r).2.2))
  else if jx (decodeL (b::r)) then .inr ([],0,2)
  else pt n ((b::r).drop (decodeL (b::r)).2) (at'+(decodeL (b::r)).2) (acc++encodeRune ((decodeL (b::r)).1:Int))
theorem pP (n:Nat)(b:UInt8)(r:Bytes)(at':Nat)(acc:Bytes):pt (n+1) (b::r) at' acc=if b.toNat=34 then .inl ((at':Int),acc)
  else if (decodeL (b::r)).1=92 then
   (if (cV r).2.2=0 then pt n (r.drop (cV r).2.1.toNat) (at'+((cV r).2.1.toNat+1)) (acc++encodeRune (cV r).1) else .inr ([],0,(cV r).2.2))
  else if jx (decodeL (b::r)) then .inr ([],0,2)
  else pt n ((b::r).drop (decodeL (b::r)).2) (at'+(decodeL (b::r)).2) (acc++encodeRune ((decodeL (b::r)).1:Int)):=by rw [pt]
theorem N6 (s:Bytes)(hs:s.length<=1000000000):∀ (k:Nat) (l:Bytes) (i:Nat) (f:Bytes),l.length < k->s.drop i=l->i+l.length=s.length->f.length<=4*i->Ev2 (λ n m=>eh n s m (i:Int) f) (·=pt k l i f):=by
 intro k
 induction k with
 | zero=>intro l i f h; omega
 | succ k ih =>
  intro l i f hk hl hi hf;refine aw ?_;simp only [eh]
  cases l with
  | nil =>
   simp only [n8] at hi;refine aj false ov (af G (aa ?_));rw [pt]
  | cons b r =>
   have hil:i < s.length:=by simp only [aq] at hi; omega
   have hb:byt s i=(b.toNat:Int):=by
    rw [cD]
    have:s.getD i 0=b:=by
     have:=List.drop_eq_getElem_cons hil;rw [hl] at this;rw [List.getD_eq_getElem?_getD,List.getElem?_eq_getElem hil];exact (qr this).1.symm
    rw [this]
   have hr:s.drop (i+1)=r:=by
    have:=List.drop_eq_getElem_cons hil;rw [hl] at this;exact (qr this).2.symm
   have hlr:r.length+i+1=s.length:=by simp only [aq] at hi; omega
   have hU:=pP k b r i f;rw [hb];by_cases h34:b.toNat=34
   ·rw [if_pos h34] at hU;exact aj false GL (af G (aa hU.symm))
   rw [if_neg h34] at hU;refine aj true GL (ae rfl (ag O ?_));rw [jU,Int.toNat_natCast,hl]
   have hd:bm (b::r)=some (((decodeL (b::r)).1:Int),((decodeL (b::r)).2:Int)):=by
    exact Ce
   refine aj _ (ax hd rfl) ?_;have hdf:=iA (b::r) G;generalize hD:decodeL (b::r)=D at hU hdf ⊢;obtain ⟨c,w⟩:=D;simp only at hU hdf ⊢;by_cases h92:c=92
   ·rw [if_pos h92] at hU;have hes:=ol r;have S4:=Nj r O
    have sub1:sub s ((i:Int)+1) (s.length:Int)=r:=by
     rw [jU,show ((i:Int)+1).toNat=i+1 by omega,hr]
    generalize cV r=E at hU hes S4;obtain ⟨x,y,z⟩:=E;simp only at hU hes S4;by_cases hz:z=0
    ·rw [if_pos hz] at hU;refine cm (ae O (ag aB (ag O ?_)));rw [sub1];obtain ⟨e1,e2⟩:=hes.2.2.1 hz;obtain ⟨y',rfl⟩:∃ y':Nat,y=y':=⟨y.toNat,by omega⟩
     rw [Int.toNat_natCast] at hU;refine aj _ S4 (ae hz (ag (bv (by dsimp only; omega) (by dsimp only; omega)) (aa ?_)));refine aj _ (ax (NV f x e1 O) rfl) (ag (bv (by dsimp only; omega) (by dsimp only; omega)) ?_);have hle:=lF x e1;have:=ih (r.drop y') (i+(y'+1)) (f++encodeRune x) (by rw [ld]; simp only [aq] at hk; omega) (by rw [<- hr,List.drop_drop]; congr 1; omega) iN vg;rw [<- hU] at this;rw [show ((i+(y'+1):Nat):Int)=(i:Int)+((y':Int)+1) by omega] at this;exact this
    ·rw [if_neg hz] at hU;refine cm (ae O (ag aB (ag O ?_)));rw [sub1];refine aj _ S4 (af hz (aa ?_));exact hU.symm
   ·rw [if_neg h92] at hU
    have hbad:Ev2 (λ _ _=>(if (c:Int)=65533 then if (w:Int)=1 then some true else if (c:Int) < 32 then some true else some (decide ((c:Int)=127)) else if (c:Int) < 32 then some true else some (decide ((c:Int)=127)):Option Bool)) (·=decide (jx (c,w))):=by
     exact KC
    by_cases hbd:jx (c,w)
    ·rw [if_pos hbd] at hU;refine cm (af O (aj _ hbad (ae (by simp only [decide_eq_true_eq]; exact hbd) (aa ?_))));exact hU.symm
    ·rw [if_neg hbd] at hU;refine cm (af O (aj _ hbad (af (by simp only [decide_eq_true_eq]; exact hbd) (aa ?_))));have hgood:=hdf.2.2 (λ q=>hbd (.inl q));refine aj _ (ax (NV f c hgood.1 O) rfl) (ag (bv (by simp only [aq] at hdf; omega) (by simp only [aq] at hdf; omega)) ?_);have hle:=lF c hgood.1;have hw:w<=r.length+1:=by simpa using hdf.2.1
     have hw1:=hdf.1;have:=ih ((b::r).drop w) (i+w) (f++encodeRune (c:Int)) (by rw [ld]; simp only [aq] at hk ⊢; omega) (by rw [<- hl,List.drop_drop]) tJ vg;rw [<- hU] at this;rw [show ((i+w:Nat):Int)=(i:Int)+(w:Int) by omega] at this;exact this
def IE:Bytes->Bytes×Int×Int
 | []=>([],0,40)
 | b::r=>if b.toNat=34 then (match pt (r.length+1) r 1 [] with
   | .inl q=>if q.1=((r.length+1:Nat):Int) then ([],0,40) else if 4096 < q.2.length then ([],0,3) else (q.2,q.1+1,0)
   | .inr e=>e)
  else ([],0,2)
theorem wx (b:UInt8)(r:Bytes):IE (b::r)=if b.toNat=34 then (match pt (r.length+1) r 1 [] with
   | .inl q=>if q.1=((r.length+1:Nat):Int) then ([],0,40) else if 4096 < q.2.length then ([],0,3) else (q.2,q.1+1,0)
   | .inr e=>e)
  else ([],0,2):=rfl
theorem MP:∀ (k:Nat) (l:Bytes) (i:Nat) (f:Bytes),(∀ a g,pt k l i f=.inl (a,g)->(i:Int)<=a/\a<=((i+l.length:Nat):Int)/\g.length<=f.length+4*l.length/\((∀ t,validD (f++t)=validD t)->∀ t,validD (g++t)=validD t))/\(∀ x,pt k l i f=.inr x->x.1=[]/\x.2.1=0/\x.2.2≠0):=by
 intro k
 induction k with
 | zero =>
  intro l i f;refine ⟨λ a g h=>?_,λ x h=>(by rw [pt] at h; cases h)⟩;rw [pt] at h; cases h;exact ⟨by omega,by omega,by omega,λ q=>q⟩
 | succ k ih =>
  intro l i f
  cases l with
  | nil =>
   refine ⟨λ a g h=>?_,λ x h=>(by rw [pt] at h; cases h)⟩;rw [pt] at h; cases h;exact ⟨by omega,by simp,by simp,λ q=>q⟩
  | cons b r =>
   rw [pP];have hdf:=iA (b::r) G;have hes:=ol r;split
   ·refine ⟨λ a g h=>?_,λ x h=>(by cases h)⟩
    cases h
    exact ⟨by omega,by simp only [aq]; omega,by omega,λ q=>q⟩
   split
   ·split
    ·rename_i hz;obtain ⟨e1,e2⟩:=hes.2.2.1 hz;have hle:=lF _ e1;have hi:=ih (r.drop (cV r).2.1.toNat) (i+((cV r).2.1.toNat+1)) (f++encodeRune (cV r).1);refine ⟨λ a g h=>?_,hi.2⟩;have:=hi.1 a g h;rw [ld,ph] at this;refine ⟨by omega,by simp only [aq]; omega,by simp only [aq]; omega,λ q=>this.2.2.2 λ t=>?_⟩;rw [List.append_assoc,q,vZ _ e1]
    ·rename_i hz;refine ⟨λ a g h=>(by cases h),λ x h=>?_⟩
     cases h
     exact ⟨Z,Z,hz⟩
   split
   ·refine ⟨λ a g h=>(by cases h),λ x h=>?_⟩
    cases h
    exact ⟨Z,Z,by decide⟩
   ·rename_i hbd;have hgood:=hdf.2.2 (λ q=>hbd (.inl q));have hle:=lF _ hgood.1;have hi:=ih ((b::r).drop (decodeL (b::r)).2) (i+(decodeL (b::r)).2) (f++encodeRune ((decodeL (b::r)).1:Int));refine ⟨λ a g h=>?_,hi.2⟩;have:=hi.1 a g h;rw [ld,ph] at this;simp only [aq] at this hdf ⊢;refine ⟨by omega,by omega,by omega,λ q=>this.2.2.2 λ t=>?_⟩;rw [List.append_assoc,q,vZ _ hgood.1]
theorem Qc (s:Bytes)(hs:s.length<=1000000000):Ev2 (λ n _=>hZ n s) (·=IE s):=by
 simp only [hZ]
 cases s with
 | nil=>exact ae Z (aa Z)
 | cons b r =>
  have hl:((b::r).length:Int)=(r.length:Int)+1:=by simp
  have hln:(b::r).length=r.length+1:=by simp
  refine af G (ag O ?_);have hb:byt (b::r) 0=(b.toNat:Int):=rfl;rw [hb];rw [wx];refine av (λ h=>?_) (λ h=>aa (by rw [if_neg (show ¬ b.toNat=34 by omega)]));have l:=N6 (b::r) hs (r.length+1) r 1 [] O rfl O G;have hle:=MP (r.length+1) r 1 [];have e34:b.toNat=34:=by omega
  simp only [e34,if_true];generalize pt (r.length+1) r 1 []=U at l hle ⊢
  cases U with
  | inr e=>exact iC e (aO l) Z
  | inl q =>
   obtain ⟨a,g⟩:=q;have hq:=hle.1 a g rfl;simp only [n8,Nat.zero_add] at hq;refine ez (a,g) (aO l) ?_;refine av (λ h=>aa (by simp only at h ⊢; rw [if_pos O])) (λ h=>?_);simp only at h ⊢;rw [if_neg O];refine aj _ oe (av (λ h1=>aa (by simp only at h1; rw [if_pos O])) (λ h1=>?_));simp only at h1;rw [if_neg O];refine aj _ (ax (bstr g O) rfl) qB
theorem vJ (b:UInt8)(h:b.toNat < 128):encodeRune (b.toNat:Int)=[b]:=by
 simp only [encodeRune,encodeRuneZ,if_pos (show (0:Int)<=(b.toNat:Int)/\(b.toNat:Int)<=127 by omega),la,th];simp
theorem MV:∀ (k u:Nat),u < 10 ^ (k+1)->(decDigits u).length<=k+1:=by
 intro k
 induction k with
 | zero=>intro u h; rw [decDigits,dif_pos (by simpa using h)]; simp
 | succ k ih =>
  intro u h;rw [decDigits];split
  ·simp
  ·have:=ih (u / 10) (by rw [Nat.pow_succ] at h; omega);rw [ph]; simp; omega
theorem IJ {v:Int}(h0:0<=v)(h1:v<=iw):(itoa v).length<=16:=by
 obtain ⟨u,rfl⟩:∃ u:Nat,v=u:=⟨v.toNat,by omega⟩
 unfold itoa;rw [if_neg O,Int.toNat_natCast];exact MV 15 u (by unfold iw at h1; omega)
end Go.Ab.R06
end
section
namespace Go.Ab.R06
open Go.Proofs Go.Ab Go.Ab.RB
section
variable {p:Prop}
theorem xA (h:p:=by
  exact nx 2 Z (eX _ (oi h2).symm (gE Z Z))):p:=h
theorem j5 (h:p:=by
  have h0:=h1
  exact S0):p:=h
theorem Ag (h:p:=by
  have h0:=TC _ hv;refine nx 1 Z ?_
  cases h0):p:=h
theorem AK (h:p:=by exact gE (t:=⟨[(0,.ptr 1000000 0),(1,.p (eK .u8 Vx)),(2,.p (eK .u8 b_2)),(7,.p (eI SK.fat))],[(1000000,(ab.cs x14).map .p)]⟩) Z Z):p:=h
theorem Gq (h:p:=by exact nx 3 Z (mQo (hR0 _ (hR1 _ (oi h2).symm).symm) (aU _) Z Z Z (az Z (aA _) Z) (sr) ⟨⟨_,Z,aS _⟩,trivial⟩)):p:=h
theorem Ik (h:p:=by exact nx 6 Z (mQo (oi h0) (aU _) Z Z Z (az Z (aA _) Z) (sr) ⟨⟨_,Z,aS _⟩,trivial⟩)):p:=h
theorem Br (h:p:=by exact mO Z (gx Z Z Z Z Z Z Z Z (ab.b_at _) (ab.u_at _) (nx 1 Z (eX _ (oi h2).symm (gE Z Z))))):p:=h
theorem xQ (h:p:=by exact C2 (Sk _ _ Z)):p:=h
theorem qC (h:p:=by repeat (first | exact E6 _ | apply Ai Z | apply uU Z (wW _ _) | apply uU Z Z)):p:=h
theorem BR (h:p:=by exact mQ (hR0 _ (oi h1).symm) Z (sr)):p:=h
theorem HD (h:p:=by exact gE (t:=⟨[(3,.ptr 3 0),(4,.ptr 101000 0)],[(3,oj),(101000,(ab.cs Wh.2).map .p)]⟩) Z Z):p:=h
theorem BP (h:p:=by exact dPc (.p (.val (.slice none 0 0))) Z (dS Z (fq (nx 2 Z (mQ (hR0 _ (oi h1).symm) Z (nV ⟨iL _,sr,trivial⟩)))))):p:=h
theorem Kn (h:p:=by exact mQo (hR0 _ (hR1 _ (oi h2).symm).symm) (aU _) Z Z Z (az Z (aA _) Z) (sr) ⟨⟨_,Z,aS _⟩,trivial⟩):p:=h
theorem A1 (h:p:=by exact mQo (hR0 _ (hR1 _ (oi h2).symm).symm) (aU _) Z Z Z (az Z (aA _) (az Z Z Z)) (sr) ⟨⟨_,Z,aS _⟩,⟨_,Z,⟨sr,trivial⟩⟩,trivial⟩):p:=h
theorem wZ (h:p:=by exact xH (Sk _ _ Z)):p:=h
end
set_option maxRecDepth 4000
attribute [local irreducible] awp io bg bO cv AV.sub M cZ
theorem S0 {p:Prop}(h:p:=by
  repeat' first
    | refine nxg 12 Z Z ?_
    | refine nxg 4 Z Z ?_
    | refine nxg 1 Z Z ?_
    | exact eX _ (oi h0).symm (gE Z Z)
    | exact mQo (oi h0) (aU _) Z Z Z (az Z (aA _) Z) U U
    | exact Mh (oi h0) (aU _) Z Z Z (az Z (aA _) Z) U U
    | exact mQo (hR0 _ (oi h0).symm) (aU _) Z Z Z (az Z (aA _) Z) U U
    | exact mQo (hR0 _ (hR1 _ (oi h0).symm).symm) (aU _) Z Z Z (az Z (aA _) Z) U U
    | exact eXi _ (oi h0).symm (gE Z Z)
    | exact eX _ h0 (gE Z Z)
    | exact mQ (oi h0) Z U
    | refine oS Z Z ?_
    | refine oLs Z ?_
    | refine oA h0 Z Z λ hk h0=>?_
    | refine oI h0 rfl λ hk h0=>?_
    | refine oP h0 Z Z Z λ hk h0=>?_
    | refine mO Z (aV Z Z Z Z Z Z Z (ab.g_at _) ?_)
    | refine mO Z (aV Z Z Z Z Z Z Z (ab.g_outer _) ?_)
    | refine mO Z (gx Z Z Z Z Z Z Z Z (ab.b_at _) (ab.u_at _) ?_)
    | refine bd h0 λ r e h0=>oK (HP.c e) Z U HE.e Z ?_
    | refine bd h0 λ r e h0=>mO Z (aY [1000000] [] 101000 101000 (HO.c e) Z Z Z Z Z U Z (az Z (aA _) Z) U Z Z Z Z Z Z Z HE.e Z (az Z (aA _) Z) ?_)
    | refine fBn 2 h0 Z Z (λ c h0=>?_) λ c h0=>?_
    | refine fBn 1 h0 Z Z (λ c h0=>?_) λ c h0=>?_
    | refine fBc h0 Z Z (λ c h0=>?_) λ c h0=>?_
    | refine fDn 3 h0 Z Z (λ c h0=>?_) λ c h0=>?_
    | refine fDn 2 h0 Z Z (λ c h0=>?_) λ c h0=>?_
    | refine fDn 1 h0 Z Z (λ c h0=>?_) λ c h0=>?_
    | refine fDc h0 Z Z (λ c h0=>?_) λ c h0=>?_
    | refine mDa Z Z ?_
    | refine dE Z ?_
    | refine dR 4 Z ?_
    | refine dR 1 Z ?_
    | refine cc' h0 λ hk h0=>?_):p:=h
instance Rr:HE Tryz.prog 75:=⟨Tryz.call75⟩
abbrev CI (F:ab->Int->Option (Bool×ab))(k:Nat):Prop:=∀ (a0:ab) (a1:Int) (r:Bool×ab),HO (F a0 a1=some r) Tryz.prog k [.ptr 1000000 0,.p (eI a1)] [(1000000,(ab.cs a0).map .p)] (.p (eB r.1)) ([(1000000,(ab.cs r.2).map .p)])
abbrev w4 (F:ab->Option (Bool×ab))(k:Nat):Prop:=∀ (a0:ab) (r:Bool×ab),HO (F a0=some r) Tryz.prog k [.ptr 1000000 0] [(1000000,(ab.cs a0).map .p)] (.p (eB r.1)) ([(1000000,(ab.cs r.2).map .p)])
abbrev jr:List AV:=[.p (eI 0),.p (eS ([]:Bytes)),.p (eI 0)]
abbrev oj:List AV:=[.p (eI 0),.p (eI 0),.p (eS ([]:Bytes))]
def bE (SK:ab):Option (Bool×ab) :=
 some (decide (SK.fat < (SK.fs.length:Int)),SK)
instance yc:w4 (bE) 53:=by
 refine λ SK=>hO good [] [1000000] Tryz.func53 Z Z λ r h0 _ w0 F=>?_;unfold bE at h0;exact nx 5 Z (mD [(0,.ptr 1000000 0)] Z ⟨Z,trivial⟩ Z (dR 3 Z (dq (.p (eI SK.fat)) [5] Z (λ _ e _ q=>ap Z (aV Z Z Z Z Z (e _ _ Z) Z (ab.g_at _) q)) Z (dR 3 Z (dq (.p (eS SK.fs)) [9] Z (λ _ e _ q=>ap Z (aV Z Z Z Z Z (e _ _ Z) Z (ab.g_s _) q)) Z (dq (.p (eI (SK.fs.length:Int))) [10] Z (λ _ e _ q=>ap Z (oM Z Z Z Z Z (e _ _ Z) q)) Z (dR 2 Z S0)))))))
def bh:Nat->ab->Option (ab⊕ab)
 | 0,_=>none
 | m+1,x20 =>
 (bE x20).bind λ Te =>
 if Te.1=true then
  ck ((0:Int)<=Te.2.fat/\Te.2.fat < (Te.2.fs.length:Int)) <|
  ck ((0:Int)<=byt Te.2.fs Te.2.fat/\byt Te.2.fs Te.2.fat < 256) <|
  jn (
    if ((lat iY (byt Te.2.fs Te.2.fat)).toNat:Int)=1 then
     ck (inR (Te.2.fat+1)) <|
     some (.inl (ab.mk Te.2.fs (Te.2.fat+1) Te.2.IS Te.2.AT))
    else
     (
       if ((lat iY (byt Te.2.fs Te.2.fat)).toNat:Int)=7 then
        some (decide (Te.2.IS < 0))
       else
        some false
      ).bind λ Z6 =>
     if Z6=true then
      ck ((0:Int)<=Te.2.fat/\Te.2.fat<=(Te.2.fs.length:Int)/\(Te.2.fs.length:Int)<=(Te.2.fs.length:Int)) <|
      (strings_IndexByte (sub Te.2.fs Te.2.fat (Te.2.fs.length:Int)) 10).bind λ Vr =>
      (
        if Vr < 0 then
         ck (inR ((Te.2.fs.length:Int) - Te.2.fat)) <|
         some ((Te.2.fs.length:Int) - Te.2.fat)
        else
         some Vr
       ).bind λ n36 =>
      ck (inR (Te.2.fat+n36)) <|
      some (.inl (ab.mk Te.2.fs (Te.2.fat+n36) Te.2.IS Te.2.AT))
     else
      some (.inr (.inr Te.2))
   : Option (ab⊕(ab⊕ab))) λ x38 =>
  bh m x38
 else
  some (.inl Te.2)
def eN (n:Nat)(SK:ab):Option ab :=
 jn (bh n SK) λ x40 =>
 some x40
instance yb (n:Nat) (SK:ab):∀ (r:ab),HO (eN n SK=some r) Tryz.prog 52 [.ptr 1000000 0] [(1000000,(ab.cs SK).map .p)] (.tuple []) ([(1000000,(ab.cs r).map .p)]):=by
 refine hO good [] [1000000] Tryz.func52 Z Z λ r h0 _ w0 F=>?_;unfold eN at h0;refine nx 1 rfl ?_;obtain ⟨Y9,h1,TC,hR0⟩:=br h0;refine kEx 0 (λ v46:ab=>Y9=.inl v46) (λ v46=>⟨[],[(1000000,(ab.cs v46).map .p)]⟩) (λ v46 hv=>?_) ?_
 ·have h0:=TC _ hv;exact S0
 refine lG (λ (U8:ab)=>⟨[(0,.ptr 1000000 0)],[(1000000,(ab.cs U8).map .p)]⟩) (λ m (U8:ab)=>bh m U8) Y SK h1 (gE rfl rfl) ?_;rintro m x20 h1;replace h1:bh (m+1) x20=some Y9:=h1;rw [bh] at h1;refine nx 4 rfl (bd h1 λ Te e22 h1=>mO rfl (aY [1000000] [] 102000 102000 (HO.c e22) rfl rfl rfl rfl rfl ⟨sr,trivial⟩ rfl (az rfl (aA _) rfl) ⟨⟨_,rfl,aS _⟩,trivial⟩ rfl rfl rfl rfl rfl rfl rfl rfl Tryz.call53 rfl (az rfl (aA _) rfl) (nx 1 rfl (fB [5] h1 rfl (λ V2 h1=>?_) λ V2 h1=>?_))))
 ·refine nx 4 rfl (cc' h1 λ XK h1=>cc' h1 λ VQ h1=>mD [(0,.ptr 1000000 0)] rfl ⟨rfl,trivial⟩ rfl (dR 4 rfl (dq (.p (eS Te.2.fs)) [9] rfl (λ _ e _ q=>ap rfl (aV Z Z Z Z Z (e _ _ rfl) rfl (ab.g_s _) q)) rfl (dR 3 rfl (dq (.p (eI Te.2.fat)) [13] rfl (λ _ e _ q=>ap rfl (aV Z Z Z Z Z (e _ _ rfl) rfl (ab.g_at _) q)) rfl (dq (.p (eK .u8 (byt Te.2.fs Te.2.fat))) [10,14] rfl (λ _ e _ q=>ap rfl (fx Z Z Z Z Z (e _ _ rfl) (e _ _ rfl) XK q)) rfl (dR 2 rfl (dq (.ptr 1000000 (2+(byt Te.2.fs Te.2.fat).toNat*1)) [15,17] rfl (λ _ e _ q=>ap rfl (gq Z Z Z Z Z Z (e _ _ rfl) (e _ _ rfl) VQ q)) rfl (dq (.p (eK .u8 ((lat iY (byt Te.2.fs Te.2.fat)).toNat:Int))) [18] rfl (λ _ e _ q=>ap rfl (aV Z Z Z Z Z (e _ _ rfl) rfl (ab.g_class _ VQ) q)) rfl (dR 1 rfl (dE rfl (nx 1 rfl ?_))))))))))));obtain ⟨Ym,h2,hL1,hR1⟩:=br h1;refine kX (λ WP:ab=>Ym=.inl WP) (λ WP=>⟨[(0,.ptr 1000000 0)],[(1000000,(ab.cs WP).map .p)]⟩) (λ WP hv=>?_) ?_
  ·have h1:=hL1 _ hv;exact j5
  refine nx 7 Z (fD [20,22] h2 Z (λ Yz h2=>?_) λ Yz h2=>?_)
  ·exact nx 5 Z (mO Z (aV Z Z Z Z Z Z Z (ab.g_at _) (oA h2 Z Z λ WA h2=>nx 2 Z Br)))
  refine nx 2 Z (bd h2 λ Ww h3 h2=>kN Ww (λ v51=>⟨[(0,.ptr 1000000 0),(30,.p (eB v51))],[(1000000,(ab.cs Te.2).map .p)]⟩) ?_ ?_)
  ·refine nx 1 Z (fB [30] h2 Z (λ ZF h2=>?_) λ ZF h2=>?_)
   ·refine nx 2 Z (cc' h2 λ XI h2=>bd h2 λ Vr e33 h2=>mD [(0,.ptr 1000000 0)] Z ⟨Z,trivial⟩ Z (dR 3 Z (dq (.p (eS Te.2.fs)) [42] Z (λ _ e _ q=>ap Z (aV Z Z Z Z Z (e _ _ Z) Z (ab.g_s _) q)) Z (dR 3 Z (dq (.p (eI Te.2.fat)) [46] Z (λ _ e _ q=>ap Z (aV Z Z Z Z Z (e _ _ Z) Z (ab.g_at _) q)) Z (dq (.p (eS (sub Te.2.fs Te.2.fat (Te.2.fs.length:Int)))) [43,47] Z (λ _ e _ q=>ap Z (fy (a:=Te.2.fs) (l:=Te.2.fat) (h:=(Te.2.fs.length:Int)) Z Z Z Z Z (e _ _ Z) pE Z XI q)) Z (dq (.p (eI Vr)) [48] Z (λ _ e _ q=>ap Z (gG (kV (sub Te.2.fs Te.2.fat (Te.2.fs.length:Int)) 10 _ e33) Z Z Z (aT (e _ _ Z) (aT Z b9)) ⟨sr,sr,trivial⟩ Tryz.call85 Z q)) Z (dR 1 Z (dE Z (nx 2 Z (bd h2 λ X5 h3 h2=>kN X5 (λ v53=>⟨[(0,.ptr 1000000 0),(3,.p (eI v53))],[(1000000,(ab.cs Te.2).map .p)]⟩) ?_ ?_)))))))))))
    ·exact nx 5 Z (mO Z (aV Z Z Z Z Z Z Z (ab.g_at _) (nx 1 Z (oA h2 Z Z λ Wy h2=>nx 2 Z Br))))
    refine nx 5 Z (fD [51] h3 Z (λ c34 h3=>?_) λ c34 h3=>?_)
    ·exact nx 1 Z (cc' h3 λ W8 h3=>mD [(0,.ptr 1000000 0)] Z ⟨Z,trivial⟩ Z (dR 3 Z (dq (.p (eS Te.2.fs)) [54] Z (λ _ e _ q=>ap Z (aV Z Z Z Z Z (e _ _ Z) Z (ab.g_s _) q)) Z (dq (.p (eI (Te.2.fs.length:Int))) [55] Z (λ _ e _ q=>ap Z (oM Z Z Z Z Z (e _ _ Z) q)) Z (dR 3 Z (dq (.p (eI Te.2.fat)) [59] Z (λ _ e _ q=>ap Z (aV Z Z Z Z Z (e _ _ Z) Z (ab.g_at _) q)) Z (dq (.p (eI ((Te.2.fs.length:Int) - Te.2.fat))) [56,60] Z (λ _ e _ q=>ap Z (fY Z Z Z (e _ _ Z) (e _ _ Z) Z W8 q)) Z (dR 1 Z (dE Z (nx 1 Z ly))))))))))
    exact lZ
   exact nx 2 Z Kn
  refine nx 4 Z (fD [32,33] h3 Z (λ c28 h3=>?_) λ c28 h3=>?_)
  ·exact nx 3 Z (mO Z (aV Z Z Z Z Z Z Z (ab.g_outer _) (nx 4 Z ly)))
  exact x9
 exact j5
def dD (Mr:Bytes):Nat->Int->Option (Unit⊕Bytes)
 | 0,_=>none
 | m+1,t8 =>
 if t8 < 7 then
  ck ((0:Int)<=t8/\t8 < 7) <|
  (strings_HasPrefix Mr (lat ([([61,62]:Bytes),([61,61]:Bytes),([33,61]:Bytes),([60,61]:Bytes),([62,61]:Bytes),([38,38]:Bytes),([124,124]:Bytes)]:List Bytes) t8)).bind λ VW =>
  if VW=true then
   some (.inr (lat ([([61,62]:Bytes),([61,61]:Bytes),([33,61]:Bytes),([60,61]:Bytes),([62,61]:Bytes),([38,38]:Bytes),([124,124]:Bytes)]:List Bytes) t8))
  else
   ck (inR (t8+1)) <|
   dD Mr m (t8+1)
 else
  some (.inl ())
def i6 (n:Nat)(Mr:Bytes):Option Bytes :=
 jn (dD Mr n 0) λ _Wp =>
 (
   if Mr=([]:Bytes) then
    some true
   else
    ck ((0:Int)<=0/\0 < (Mr.length:Int)) <|
    (strings_IndexByte ([123,125,91,93,40,41,44,61,60,62,43,45,42,47,37,33,63,58,46]:Bytes) (byt Mr 0)).bind λ Ud =>
    some (decide (Ud < 0))
  ).bind λ t20 =>
 if t20=true then
  some ([]:Bytes)
 else
  ck ((0:Int)<=0/\(0:Int)<=1/\(1:Int)<=(Mr.length:Int)) <|
  some (sub Mr 0 1)
instance Ft (n:Nat) (Mr:Bytes):∀ (r:Bytes),HP (i6 n Mr=some r) Tryz.prog 86 [eS Mr] (.p (eS r)):=by
 refine hP good Tryz.func86 Z Z λ r h0 _ w0=>?_;unfold i6 at h0;refine nx 11 rfl ?_;obtain ⟨V0,h1,TC,hR0⟩:=br h0;refine kEx 0 (λ VJ:Unit=>V0=.inl VJ) (λ VJ=>⟨[(0,.p (eS Mr))],[]⟩) (λ VJ hv=>?_) ?_
 ·have h0:=TC _ hv;refine nx 3 Z (bd h0 λ Zb h1 h0=>kN Zb (λ ZT=>⟨[(0,.p (eS Mr)),(21,.p (eB ZT))],[]⟩) ?_ ?_)
  ·exact S0
  exact j5
 refine lG (λ (Uy:Int)=>⟨[(0,.p (eS Mr)),(5,.p (.agg [eS ([61,62]:Bytes),eS ([61,61]:Bytes),eS ([33,61]:Bytes),eS ([60,61]:Bytes),eS ([62,61]:Bytes),eS ([38,38]:Bytes),eS ([124,124]:Bytes)])),(6,.p (eI Uy))],[]⟩) (λ m (Uy:Int)=>dD Mr m Uy) Y 0 h1 (gE rfl rfl) ?_;rintro m t8 h1;replace h1:dD Mr (m+1) t8=some V0:=h1;rw [dD] at h1;refine nx 5 rfl (fD [7] h1 rfl (λ c9 h1=>?_) λ c9 h1=>?_)
 ·refine nx 6 Z (cc' h1 λ VR h1=>mO Z (v6 eS ([([61,62]:Bytes),([61,61]:Bytes),([33,61]:Bytes),([60,61]:Bytes),([62,61]:Bytes),([38,38]:Bytes),([124,124]:Bytes)]:List Bytes) Z Z Z Z Z Z Z Z Z Z Z (by have:=VR; simp only [aq,n8]; omega) (nx 6 Z (bd h1 λ VW ZA h1=>oK (dY Mr (lat ([([61,62]:Bytes),([61,61]:Bytes),([33,61]:Bytes),([60,61]:Bytes),([62,61]:Bytes),([38,38]:Bytes),([124,124]:Bytes)]:List Bytes) t8) _ ZA) Z ⟨sr,sr,trivial⟩ Tryz.call75 Z (nx 1 Z (fB [11] h1 Z (λ XY h1=>?_) λ XY h1=>?_))))))
  ·exact nx 7 Z BR
  exact nx 3 Z (oA h1 Z Z λ Vu h1=>nx 2 Z (eX (t8+1) h1 (gE Z Z)))
 exact j5
def dU (n:Nat)(SK:ab):Option (Bool×ab) :=
 ck ((0:Int)<=SK.fat/\SK.fat < (SK.fs.length:Int)) <|
 ck ((0:Int)<=byt SK.fs SK.fat/\byt SK.fs SK.fat < 256) <|
 (
   if ((lat iY (byt SK.fs SK.fat)).toNat:Int)=2 then
    some true
   else
    if ((lat iY (byt SK.fs SK.fat)).toNat:Int)=3 then
     some true
    else
     if ((lat iY (byt SK.fs SK.fat)).toNat:Int)=5 then
      some true
     else
      some (decide (((lat iY (byt SK.fs SK.fat)).toNat:Int)=6))
  ).bind λ t6 =>
 if t6=true then
  some (true,SK)
 else
  ck ((0:Int)<=SK.fat/\SK.fat<=(SK.fs.length:Int)/\(SK.fs.length:Int)<=(SK.fs.length:Int)) <|
  (i6 n (sub SK.fs SK.fat (SK.fs.length:Int))).bind λ r9 =>
  some (!decide (r9=([]:Bytes)),SK)
instance vO (n:Nat):w4 (dU n) 54:=by
 refine λ SK=>hO good [] [1000000] Tryz.func54 Z Z λ r h0 _ w0 F=>?_;unfold dU at h0;refine nx 6 Z (cc' h0 λ Xa h0=>cc' h0 λ Vi h0=>mD [(0,.ptr 1000000 0)] Z ⟨Z,trivial⟩ Z (dR 4 Z (dq (.p (eS SK.fs)) [6] Z (λ _ e _ q=>ap Z (aV Z Z Z Z Z (e _ _ Z) Z (ab.g_s _) q)) Z (dR 3 Z (dq (.p (eI SK.fat)) [10] Z (λ _ e _ q=>ap Z (aV Z Z Z Z Z (e _ _ Z) Z (ab.g_at _) q)) Z (dq (.p (eK .u8 (byt SK.fs SK.fat))) [7,11] Z (λ _ e _ q=>ap Z (fx Z Z Z Z Z (e _ _ Z) (e _ _ Z) Xa q)) Z (dR 2 Z (dq (.ptr 1000000 (2+(byt SK.fs SK.fat).toNat*1)) [12,14] Z (λ _ e _ q=>ap Z (gq Z Z Z Z Z Z (e _ _ Z) (e _ _ Z) Vi q)) Z (dq (.p (eK .u8 ((lat iY (byt SK.fs SK.fat)).toNat:Int))) [15] Z (λ _ e _ q=>ap Z (aV Z Z Z Z Z (e _ _ Z) Z (ab.g_class _ Vi) q)) Z (dE Z (nx 3 Z (bd h0 λ Zf h1 h0=>?_))))))))))));refine kN Zf (λ YV=>⟨[(0,.ptr 1000000 0),(17,.p (eB YV))],[(1000000,(ab.cs SK).map .p)]⟩) ?_ ?_
 ·refine nx 1 Z (fB [17] h0 Z (λ c7 h0=>?_) λ c7 h0=>?_)
  ·exact S0
  exact nx 3 Z (cc' h0 λ YN h0=>bd h0 λ r9 Xb h0=>mD [(0,.ptr 1000000 0)] Z ⟨Z,trivial⟩ Z (dR 3 Z (dq (.p (eS SK.fs)) [24] Z (λ _ e _ q=>ap Z (aV Z Z Z Z Z (e _ _ Z) Z (ab.g_s _) q)) Z (dR 3 Z (dq (.p (eI SK.fat)) [28] Z (λ _ e _ q=>ap Z (aV Z Z Z Z Z (e _ _ Z) Z (ab.g_at _) q)) Z (dq (.p (eS (sub SK.fs SK.fat (SK.fs.length:Int)))) [25,29] Z (λ _ e _ q=>ap Z (fy (a:=SK.fs) (l:=SK.fat) (h:=(SK.fs.length:Int)) Z Z Z Z Z (e _ _ Z) pE Z YN q)) Z (dq (.p (eS r9)) [30] Z (λ _ e _ q=>ap Z (gG (HP.c Xb) Z Z Z (aT (e _ _ Z) b9) ⟨sr,trivial⟩ Tryz.call86 Z q)) Z (dq (.p (eB (!decide (r9=([]:Bytes))))) [31] Z (λ _ e _ q=>ap Z (pV Z Z Z (e _ _ Z) Z Z q)) Z S0))))))))
 exact j5
def cg (Vx:Int)(b_2:Int):Nat->ab->Option ab
 | 0,_=>none
 | m+1,x14 =>
 (
   (bE x14).bind λ S6 =>
   if S6.1=true then
    ck ((0:Int)<=S6.2.fat/\S6.2.fat < (S6.2.fs.length:Int)) <|
    ck ((0:Int)<=byt S6.2.fs S6.2.fat/\byt S6.2.fs S6.2.fat < 256) <|
    if ((lat iY (byt S6.2.fs S6.2.fat)).toNat:Int)=Vx then
     some (true,S6.2)
    else
     ck ((0:Int)<=S6.2.fat/\S6.2.fat < (S6.2.fs.length:Int)) <|
     ck ((0:Int)<=byt S6.2.fs S6.2.fat/\byt S6.2.fs S6.2.fat < 256) <|
     some (decide (((lat iY (byt S6.2.fs S6.2.fat)).toNat:Int)=b_2),S6.2)
   else
    some (false,S6.2)
  ).bind λ UV =>
 if UV.1=true then
  ck (inR (UV.2.fat+1)) <|
  cg Vx b_2 m (ab.mk UV.2.fs (UV.2.fat+1) UV.2.IS UV.2.AT)
 else
  some UV.2
def fu (n:Nat)(SK:ab)(Vx:Int)(b_2:Int):Option (Bytes×ab) :=
 (cg Vx b_2 n SK).bind λ x28 =>
 ck ((0:Int)<=SK.fat/\SK.fat<=x28.fat/\x28.fat<=(x28.fs.length:Int)) <|
 some (sub x28.fs SK.fat x28.fat,x28)
instance zu (n:Nat) (SK:ab) (Vx:Int) (b_2:Int):∀ (r:Bytes×ab),HO (fu n SK Vx b_2=some r) Tryz.prog 87 [.ptr 1000000 0,.p (eK .u8 Vx),.p (eK .u8 b_2)] [(1000000,(ab.cs SK).map .p)] (.p (eS r.1)) ([(1000000,(ab.cs r.2).map .p)]):=by
 refine hO good [] [1000000] Tryz.func87 Z Z λ r h0 _ w0 F=>?_;unfold fu at h0;refine nx 9 Z (mO Z (aV Z Z Z Z Z Z Z (ab.g_at _) (nx 4 Z (bd h0 λ WT h1 h0=>kE 0 WT (λ YR=>⟨[(0,.ptr 1000000 0),(7,.p (eI SK.fat))],[(1000000,(ab.cs YR).map .p)]⟩) ?_ ?_))))
 ·exact nx 2 Z (cc' h0 λ hk29 h0=>mD [(0,.ptr 1000000 0),(7,.p (eI SK.fat))] Z ⟨Z,Z,trivial⟩ Z (dR 3 Z (dq (.p (eS WT.fs)) [59] Z (λ _ e _ q=>ap Z (aV Z Z Z Z Z (e _ _ Z) Z (ab.g_s _) q)) Z (dR 4 Z (dq (.p (eI WT.fat)) [64] Z (λ _ e _ q=>ap Z (aV Z Z Z Z Z (e _ _ Z) Z (ab.g_at _) q)) Z (dq (.p (eS (sub WT.fs SK.fat WT.fat))) [60,61,65] Z (λ _ e _ q=>ap Z (fy (a:=WT.fs) (l:=SK.fat) (h:=WT.fat) Z Z Z Z Z (e _ _ Z) pE (xH (e _ _ Z)) hk29 q)) Z S0))))))
 refine lG (λ (q34:ab)=>⟨[(0,.ptr 1000000 0),(1,.p (eK .u8 Vx)),(2,.p (eK .u8 b_2)),(7,.p (eI SK.fat))],[(1000000,(ab.cs q34).map .p)]⟩) (λ m (q34:ab)=>cg Vx b_2 m q34) Y SK h1 (gE rfl rfl) ?_;rintro m x14 h1;replace h1:cg Vx b_2 (m+1) x14=some WT:=h1;rw [cg] at h1;refine nx 2 rfl (bd h1 λ ZK h2 h1=>kN ZK (λ YQ=>⟨[(0,.ptr 1000000 0),(1,.p (eK .u8 Vx)),(2,.p (eK .u8 b_2)),(7,.p (eI SK.fat)),(49,.p (eB YQ.1))],[(1000000,(ab.cs YQ.2).map .p)]⟩) ?_ ?_)
 ·exact j5
 refine bd h2 λ S6 Yy h2=>fB (p:=S6.1) [] h2 Z (λ Tz h2=>?_) λ Tz h2=>?_
 ·refine cc' h2 λ Uv h2=>cc' h2 λ U5 h2=>fD (p:=((lat iY (byt S6.2.fs S6.2.fat)).toNat:Int)=Vx) [] h2 Z (λ c20 h2=>?_) λ c20 h2=>?_
  ·refine mG AK (mSq ⟨1,[1],(by2 (.some (cj [] 108000 108000)) .none),(λ _=>[(0,.ptr 1000000 0),(1,.p (eK .u8 Vx)),(2,.p (eK .u8 b_2)),(7,.p (eI SK.fat))]),(by2 [(1000000,(ab.cs x14).map .p)] [(1000000,(ab.cs S6.2).map .p)])⟩ Z (dPc (.ptr 1000000 0) Z (dI (λ _=>.p (eB S6.1)) [12] Z (λ sl Sk K hK=>ap Z (aY [1000000] [] 108000 108000 (HO.c Yy) Z Z Z (aT (Sk _ _ Z) b9) Z ⟨sr,trivial⟩ Z (az Z (aA _) Z) ⟨⟨_,Z,aS _⟩,trivial⟩ Z Z Z Z Z Z Z Z Tryz.call53 Z (az Z (aA _) Z) hK)) (dPc (.p (eB S6.1)) Z (dPy (λ _=>.ptr 1000000 0) (Tz) Z (dPy (λ _=>.ptr 1000000 0) (Tz) Z (dPy (λ _=>.ptr 1000000 0) (Tz) Z (dPy (λ _=>.ptr 1000000 0) (Tz) Z (dPy (λ _=>.p (eS S6.2.fs)) (Tz) Z (dPy (λ _=>.ptr 1000000 0) (Tz) Z (dPy (λ _=>.ptr 1000000 0) (Tz) Z (dPy (λ _=>.ptr 1000000 1) (Tz) Z (dPy (λ _=>.p (eI S6.2.fat)) (Tz) Z ?_)))))))))))));refine dO (.p (eK .u8 (byt S6.2.fs S6.2.fat))) [14,19,23] Z (λ _ sl Sk K hK=>dF (fx Z Z Z Z Z (Sk _ _ Z) (Sk _ _ Z) Uv hK) Z Z (Sk _ _ Z) (Tz)) (dPy (λ _=>.ptr 1000000 0) (Tz) Z (dPy (λ _=>.ptr 1000000 2) (Tz) Z (dO (.ptr 1000000 (2+(byt S6.2.fs S6.2.fat).toNat*1)) [14,24,26] Z (λ _ sl Sk K hK=>dF (gq Z Z Z Z Z Z (Sk _ _ Z) (Sk _ _ Z) U5 hK) Z Z (Sk _ _ Z) (Tz)) (kD (λ _=>.p (eK .u8 ((lat iY (byt S6.2.fs S6.2.fat)).toNat:Int))) Z Z Z (H4 Z Y) (lt1 Z) (kI [(14,_),(27,_)] ⟨.inr ⟨2,_,Z,Z,Z⟩,.inr ⟨15,_,Z,Z,Z⟩,trivial⟩ (λ sl Sk K hK=>dF (aV Z Z Z Z Z (Sk _ _ Z) Z (ab.g_class _ U5) hK) Z Z (Sk _ _ Z) (Tz)) (jR Z mM)) (dPy (λ _=>.p (eK .u8 Vx)) (Tz) Z (dPy (λ _=>.p (eB (decide (((lat iY (byt S6.2.fs S6.2.fat)).toNat:Int)=Vx)))) (Tz) Z (dPy (λ _=>.p (eB (decide (((lat iY (byt S6.2.fs S6.2.fat)).toNat:Int)=Vx)))) (Tz) Z (dPn (dt c20) Z (dPn (dt c20) Z (dPn (dt c20) Z (dPn (dt c20) Z (dPn (dt c20) Z (dPn (dt c20) Z ?_)))))))))))));refine dPn (dt c20) Z (dPn (dt c20) Z (dPn (dt c20) Z (dPn (dt c20) Z (dPn (dt c20) Z (dPn (dt c20) Z (dPn (dt c20) Z (dPn (dt c20) Z (dPn (dt c20) Z (dPn (dt c20) Z (dO (.p (eB true)) [14,31,47] Z (λ _ sl Sk K hK=>dF (lJ Z Z Z (Sk _ _ Z) (dt c20) Z hK) Z Z (Sk _ _ Z) (Tz)) (dO (.p (eB true)) [14,48] Z (λ _ sl Sk K hK=>ap Z (lJ Z Z Z (Sk _ _ Z) (Tz) (Sk _ _ Z) hK)) (fq (nx 1 Z ?_)))))))))))));exact eX _ (oi h2).symm (gE Z Z)
  refine cc' h2 λ U4 h2=>cc' h2 λ W9 h2=>mG AK (mSq ⟨1,[1],(by2 (.some (cj [] 109000 109000)) .none),(λ _=>[(0,.ptr 1000000 0),(1,.p (eK .u8 Vx)),(2,.p (eK .u8 b_2)),(7,.p (eI SK.fat))]),(by2 [(1000000,(ab.cs x14).map .p)] [(1000000,(ab.cs S6.2).map .p)])⟩ Z (dPc (.ptr 1000000 0) Z (dI (λ _=>.p (eB S6.1)) [12] Z (λ sl Sk K hK=>ap Z (aY [1000000] [] 109000 109000 (HO.c Yy) Z Z Z (aT (Sk _ _ Z) b9) Z ⟨sr,trivial⟩ Z (az Z (aA _) Z) ⟨⟨_,Z,aS _⟩,trivial⟩ Z Z Z Z Z Z Z Z Tryz.call53 Z (az Z (aA _) Z) hK)) (dPc (.p (eB S6.1)) Z (dPy (λ _=>.ptr 1000000 0) (Tz) Z (dPy (λ _=>.ptr 1000000 0) (Tz) Z (dPy (λ _=>.ptr 1000000 0) (Tz) Z (dPy (λ _=>.ptr 1000000 0) (Tz) Z (dPy (λ _=>.p (eS S6.2.fs)) (Tz) Z (dPy (λ _=>.ptr 1000000 0) (Tz) Z (dPy (λ _=>.ptr 1000000 0) (Tz) Z (dPy (λ _=>.ptr 1000000 1) (Tz) Z (dPy (λ _=>.p (eI S6.2.fat)) (Tz) Z ?_)))))))))))));refine dO (.p (eK .u8 (byt S6.2.fs S6.2.fat))) [14,19,23] Z (λ _ sl Sk K hK=>dF (fx Z Z Z Z Z (Sk _ _ Z) (Sk _ _ Z) Uv hK) Z Z (Sk _ _ Z) (Tz)) (dPy (λ _=>.ptr 1000000 0) (Tz) Z (dPy (λ _=>.ptr 1000000 2) (Tz) Z (dO (.ptr 1000000 (2+(byt S6.2.fs S6.2.fat).toNat*1)) [14,24,26] Z (λ _ sl Sk K hK=>dF (gq Z Z Z Z Z Z (Sk _ _ Z) (Sk _ _ Z) U5 hK) Z Z (Sk _ _ Z) (Tz)) (kD (λ _=>.p (eK .u8 ((lat iY (byt S6.2.fs S6.2.fat)).toNat:Int))) Z Z Z (H4 Z Y) (lt1 Z) (kI [(14,_),(27,_)] ⟨.inr ⟨2,_,Z,Z,Z⟩,.inr ⟨15,_,Z,Z,Z⟩,trivial⟩ (λ sl Sk K hK=>dF (aV Z Z Z Z Z (Sk _ _ Z) Z (ab.g_class _ U5) hK) Z Z (Sk _ _ Z) (Tz)) (jR Z mM)) (dPy (λ _=>.p (eK .u8 Vx)) (Tz) Z (dPy (λ _=>.p (eB (decide (((lat iY (byt S6.2.fs S6.2.fat)).toNat:Int)=Vx)))) (Tz) Z (dPy (λ _=>.p (eB (decide (((lat iY (byt S6.2.fs S6.2.fat)).toNat:Int)=Vx)))) (Tz) Z (dPy (λ _=>.ptr 1000000 0) (df c20) Z (dPy (λ _=>.ptr 1000000 0) (df c20) Z (dPy (λ _=>.ptr 1000000 0) (df c20) Z (dPy (λ _=>.ptr 1000000 0) (df c20) Z (dPy (λ _=>.p (eS S6.2.fs)) (df c20) Z (dPy (λ _=>.ptr 1000000 0) (df c20) Z ?_)))))))))))));refine dPy (λ _=>.ptr 1000000 0) (df c20) Z (dPy (λ _=>.ptr 1000000 1) (df c20) Z (dPy (λ _=>.p (eI S6.2.fat)) (df c20) Z (dO (.p (eK .u8 (byt S6.2.fs S6.2.fat))) [31,36,40] Z (λ _ sl Sk K hK=>dF (fx Z Z Z Z Z (Sk _ _ Z) (Sk _ _ Z) U4 hK) Z Z (Sk _ _ Z) (df c20)) (dPy (λ _=>.ptr 1000000 0) (df c20) Z (dPy (λ _=>.ptr 1000000 2) (df c20) Z (dO (.ptr 1000000 (2+(byt S6.2.fs S6.2.fat).toNat*1)) [31,41,43] Z (λ _ sl Sk K hK=>dF (gq Z Z Z Z Z Z (Sk _ _ Z) (Sk _ _ Z) W9 hK) Z Z (Sk _ _ Z) (df c20)) (kD (λ _=>.p (eK .u8 ((lat iY (byt S6.2.fs S6.2.fat)).toNat:Int))) Z Z Z (H4 Z Y) (lt1 Z) (kI [(31,_),(44,_)] ⟨.inr ⟨19,_,Z,Z,Z⟩,.inr ⟨32,_,Z,Z,Z⟩,trivial⟩ (λ sl Sk K hK=>dF (aV Z Z Z Z Z (Sk _ _ Z) Z (ab.g_class _ W9) hK) Z Z (Sk _ _ Z) (df c20)) (jR Z mM)) (dPy (λ _=>.p (eK .u8 b_2)) (df c20) Z (dPy (λ _=>.p (eB (decide (((lat iY (byt S6.2.fs S6.2.fat)).toNat:Int)=b_2)))) (df c20) Z (dO (.p (eB (decide (((lat iY (byt S6.2.fs S6.2.fat)).toNat:Int)=b_2)))) [14,31,47] Z (λ _ sl Sk K hK=>dF (nz Z Z Z (Sk _ _ Z) (df c20) (Sk _ _ Z) hK) Z Z (Sk _ _ Z) (Tz)) (dO (.p (eB (decide (((lat iY (byt S6.2.fs S6.2.fat)).toNat:Int)=b_2)))) [14,48] Z (λ _ sl Sk K hK=>ap Z (lJ Z Z Z (Sk _ _ Z) (Tz) (Sk _ _ Z) hK)) (fq (nx 1 Z ?_)))))))))))));exact eX _ (oi h2).symm (gE Z Z)
 refine mG AK (mSq ⟨1,[1],(by2 (.some (cj [] 110000 110000)) .none),(λ _=>[(0,.ptr 1000000 0),(1,.p (eK .u8 Vx)),(2,.p (eK .u8 b_2)),(7,.p (eI SK.fat))]),(by2 [(1000000,(ab.cs x14).map .p)] [(1000000,(ab.cs S6.2).map .p)])⟩ Z (dPc (.ptr 1000000 0) Z (dI (λ _=>.p (eB S6.1)) [12] Z (λ sl Sk K hK=>ap Z (aY [1000000] [] 110000 110000 (HO.c Yy) Z Z Z (aT (Sk _ _ Z) b9) Z ⟨sr,trivial⟩ Z (az Z (aA _) Z) ⟨⟨_,Z,aS _⟩,trivial⟩ Z Z Z Z Z Z Z Z Tryz.call53 Z (az Z (aA _) Z) hK)) (dPc (.p (eB S6.1)) Z (dPn (Tz) Z (dPn (Tz) Z (dPn (Tz) Z (dPn (Tz) Z (dPn (Tz) Z (dPn (Tz) Z (dPn (Tz) Z (dPn (Tz) Z (dPn (Tz) Z ?_)))))))))))));refine dPn (Tz) Z (dPn (Tz) Z (dPn (Tz) Z (dPn (Tz) Z (dPn (Tz) Z (dPn (Tz) Z (dPn (Tz) Z (dPn (Tz) Z (dPx Z (dPx Z (dPx Z (dPx Z (dPx Z (dPx Z ?_)))))))))))));refine dPx Z (dPx Z (dPx Z (dPx Z (dPx Z (dPx Z (dPx Z (dPx Z (dPx Z (dPx Z (dPn (Tz) Z (dO (.p (eB false)) [14,48] Z (λ _ sl Sk K hK=>ap Z (nz Z Z Z (Sk _ _ Z) (Tz) Z hK)) (fq (nx 1 Z ?_)))))))))))));exact eX _ (oi h2).symm (gE Z Z)
def cz (SK:ab)(k_1:Int)(at_2:Int):Option (Bool×ab) :=
 some (false,(ab.mk SK.fs SK.fat SK.IS (ao.mk k_1 at_2 ([]:Bytes))))
instance yf (SK:ab) (k_1:Int) (at_2:Int):∀ (r:Bool×ab),HO (cz SK k_1 at_2=some r) Tryz.prog 88 [.ptr 1000000 0,.p (eI k_1),.p (eI at_2)] [(1000000,(ab.cs SK).map .p)] (.p (eB r.1)) ([(1000000,(ab.cs r.2).map .p)]):=by
 refine hO good [] [1000000] Tryz.func88 Z Z λ r h0 _ w0 F=>?_;unfold cz at h0;exact nx 12 Z (mO Z (gx Z Z Z Z Z Z Z Z (ab.b_bad _) (ab.u_bad _) Ik))
def dT (SK:ab):Option (Bool×ab) :=
 ck ((0:Int)<=SK.fat/\SK.fat<=(SK.fs.length:Int)/\(SK.fs.length:Int)<=(SK.fs.length:Int)) <|
 (bm (sub SK.fs SK.fat (SK.fs.length:Int))).bind λ r2 =>
 (
   if r2.1=65533 then
    if r2.2=1 then
     some true
    else
     if r2.1 < 32 then
      some true
     else
      some (decide (r2.1=127))
   else
    if r2.1 < 32 then
     some true
    else
     some (decide (r2.1=127))
  ).bind λ t8 =>
 if t8=true then
  some (false,SK)
 else
  ck (inR (SK.fat+r2.2)) <|
  some (true,(ab.mk SK.fs (SK.fat+r2.2) SK.IS SK.AT))
instance uE:w4 (dT) 134:=by
 refine λ SK=>hO good [] [1000000] Tryz.func134 Z Z λ r h0 _ w0 F=>?_;unfold dT at h0;refine nx 5 Z (cc' h0 λ Xa h0=>bd h0 λ r2 e3 h0=>mD [(0,.ptr 1000000 0)] Z ⟨Z,trivial⟩ Z (dR 3 Z (dq (.p (eS SK.fs)) [8] Z (λ _ e _ q=>ap Z (aV Z Z Z Z Z (e _ _ Z) Z (ab.g_s _) q)) Z (dR 3 Z (dq (.p (eI SK.fat)) [12] Z (λ _ e _ q=>ap Z (aV Z Z Z Z Z (e _ _ Z) Z (ab.g_at _) q)) Z (dq (.p (eS (sub SK.fs SK.fat (SK.fs.length:Int)))) [9,13] Z (λ _ e _ q=>ap Z (fy (a:=SK.fs) (l:=SK.fat) (h:=(SK.fs.length:Int)) Z Z Z Z Z (e _ _ Z) pE Z Xa q)) Z (dq (.tuple [.p (eK .i32 r2.1),.p (eI r2.2)]) [14] Z (λ _ e _ q=>ap Z (gG (dH (sub SK.fs SK.fat (SK.fs.length:Int)) _ e3) Z Z Z (aT (e _ _ Z) b9) ⟨sr,trivial⟩ Tryz.call126 Z q)) Z (dR 5 Z (dE Z (nx 3 Z (bd h0 λ Zf h1 h0=>kN Zf (λ YV=>⟨[(0,.ptr 1000000 0),(4,.p (eI r2.2)),(31,.p (eB YV))],[(1000000,(ab.cs SK).map .p)]⟩) ?_ ?_)))))))))))
 ·refine nx 1 Z (fB [31] h0 Z (λ c9 h0=>?_) λ c9 h0=>?_)
  ·exact S0
  exact nx 7 Z (mO Z (aV Z Z Z Z Z Z Z (ab.g_at _) (nx 1 Z (oA h0 Z Z λ VR h0=>nx 2 Z (mO Z (gx Z Z Z Z Z Z Z Z (ab.b_at _) (ab.u_at _) Ik))))))
 exact j5
def aN (Tj:ab->Int->Option (Bool×ab))(SJ:Int):Nat->ab->Option (ab⊕(Bool×ab))
 | 0,_=>none
 | m+1,x33 =>
 (bE x33).bind λ Tg =>
 if Tg.1=true then
  ck ((0:Int)<=Tg.2.fat/\Tg.2.fat<=(Tg.2.fs.length:Int)/\(Tg.2.fs.length:Int)<=(Tg.2.fs.length:Int)) <|
  jn (
    ck ((0:Int)<=0/\0 < ((sub Tg.2.fs Tg.2.fat (Tg.2.fs.length:Int)).length:Int)) <|
    if byt (sub Tg.2.fs Tg.2.fat (Tg.2.fs.length:Int)) 0=34 then
     ck (inR (Tg.2.fat+1)) <|
     some (.inr (.inr (true,(ab.mk Tg.2.fs (Tg.2.fat+1) Tg.2.IS Tg.2.AT))))
    else
     (strings_HasPrefix (sub Tg.2.fs Tg.2.fat (Tg.2.fs.length:Int)) ([36,36,123]:Bytes)).bind λ Yg =>
     if Yg=true then
      ck (inR (Tg.2.fat+3)) <|
      some (.inl (ab.mk Tg.2.fs (Tg.2.fat+3) Tg.2.IS Tg.2.AT))
     else
      (strings_HasPrefix (sub Tg.2.fs Tg.2.fat (Tg.2.fs.length:Int)) ([36,123]:Bytes)).bind λ V4 =>
      if V4=true then
       (Tj Tg.2 SJ).bind λ Yf =>
       if (!Yf.1)=true then
        some (.inr (.inr (false,Yf.2)))
       else
        some (.inl Yf.2)
      else
       (
         ck ((0:Int)<=0/\0 < ((sub Tg.2.fs Tg.2.fat (Tg.2.fs.length:Int)).length:Int)) <|
         if byt (sub Tg.2.fs Tg.2.fat (Tg.2.fs.length:Int)) 0=92 then
          ck (inR (Tg.2.fat+1)) <|
          some (ab.mk Tg.2.fs (Tg.2.fat+1) Tg.2.IS Tg.2.AT)
         else
          some Tg.2
        ).bind λ x54 =>
       (bE x54).bind λ TD =>
       if (!TD.1)=true then
        some (.inl TD.2)
       else
        (dT TD.2).bind λ TX =>
        if (!TX.1)=true then
         (cz TX.2 2 TX.2.fat).bind λ TQ =>
         some (.inr (.inr (TQ.1,TQ.2)))
        else
         some (.inl TX.2)
   : Option (ab⊕(ab⊕(Bool×ab)))) λ x63 =>
  aN Tj SJ m x63
 else
  some (.inl Tg.2)
def aI (n:Nat)(TL:ab->Int->Option (ac×Bool×ab))(SJ:Int):Nat->Int->ab->Option (ab⊕(Bool×ab))
 | 0,_,_=>none
 | m+1,open35,x36 =>
 if 0 < open35 then
  jn (
    (eN n x36).bind λ Up =>
    (bE Up).bind λ Xu =>
    if (!Xu.1)=true then
     (cz Xu.2 40 Xu.2.IS).bind λ UT =>
     some (.inr (.inr (UT.1,UT.2)))
    else
     (dU n Xu.2).bind λ V4 =>
     if (!V4.1)=true then
      (cz V4.2 2 V4.2.fat).bind λ Yf =>
      some (.inr (.inr (Yf.1,Yf.2)))
     else
      ck (inR (SJ+1)) <|
      (TL V4.2 (SJ+1)).bind λ TR =>
      if (!TR.2.1)=true then
       some (.inr (.inr (false,TR.2.2)))
      else
       (
         (
           if TR.1.Ar=4 then
            some (decide (TR.1.B'=([123]:Bytes)))
           else
            some false
          ).bind λ t55 =>
         if t55=true then
          ck (inR (open35+1)) <|
          some (open35+1)
         else
          some open35
        ).bind λ open58 =>
       (
         if TR.1.Ar=4 then
          some (decide (TR.1.B'=([125]:Bytes)))
         else
          some false
        ).bind λ t60 =>
       if t60=true then
        ck (inR (open58 - 1)) <|
        some (.inl (open58 - 1,TR.2.2))
       else
        some (.inl (open58,TR.2.2))
   : Option ((Int×ab)⊕(ab⊕(Bool×ab)))) λ Y1 =>
  aI n TL SJ m Y1.1 Y1.2
 else
  some (.inl x36)
mutual
def bb:Nat->ab->Int->Option (ac×Bool×ab)
 | 0,_,_=>none
 | n+1,SK,SJ =>
 ck ((0:Int)<=SK.fat/\SK.fat < (SK.fs.length:Int)) <|
 ck ((0:Int)<=byt SK.fs SK.fat/\byt SK.fs SK.fat < 256) <|
 jn (
   if ((lat iY (byt SK.fs SK.fat)).toNat:Int)=2 then
    (fu n SK 2 3).bind λ r4 =>
    if 64 < (r4.1.length:Int) then
     (cz r4.2 7 SK.fat).bind λ r7 =>
     some (.inr ((ac.mk 1 r4.1 SK.fat),r7.1,r7.2))
    else
     some (.inl (1,r4.1,r4.2))
   else
    if ((lat iY (byt SK.fs SK.fat)).toNat:Int)=3 then
     (fu n SK 3 3).bind λ Tp =>
     some (.inl (2,Tp.1,Tp.2))
    else
     if ((lat iY (byt SK.fs SK.fat)).toNat:Int)=6 then
      ck (inR (SK.fat+1)) <|
      some (.inl (5,([10]:Bytes),(ab.mk SK.fs (SK.fat+1) SK.IS SK.AT)))
     else
      if ((lat iY (byt SK.fs SK.fat)).toNat:Int)=5 then
       ((cy n) SK SJ).bind λ S6 =>
       if (!S6.1)=true then
        some (.inr ((ac.mk 3 ([]:Bytes) SK.fat),false,S6.2))
       else
        ck (inR (SK.fat+1)) <|
        ck (inR (S6.2.fat - 1)) <|
        ck ((0:Int)<=SK.fat+1/\SK.fat+1<=S6.2.fat - 1/\S6.2.fat - 1<=(S6.2.fs.length:Int)) <|
        some (.inl (3,sub S6.2.fs (SK.fat+1) (S6.2.fat - 1),S6.2))
      else
       ck ((0:Int)<=SK.fat/\SK.fat<=(SK.fs.length:Int)/\(SK.fs.length:Int)<=(SK.fs.length:Int)) <|
       (i6 n (sub SK.fs SK.fat (SK.fs.length:Int))).bind λ Vb =>
       ck (inR (SK.fat+(Vb.length:Int))) <|
       some (.inl (4,Vb,(ab.mk SK.fs (SK.fat+(Vb.length:Int)) SK.IS SK.AT)))
  : Option ((Int×Bytes×ab)⊕(ac×Bool×ab))) λ Y4 =>
 some ((ac.mk Y4.1 Y4.2.1 SK.fat),true,Y4.2.2)
def de:Nat->ab->Int->Option (Bool×ab)
 | 0,_,_=>none
 | n+1,SK,SJ =>
 ck (inR (SK.fat+1)) <|
 jn (aN (aF n) SJ n (ab.mk SK.fs (SK.fat+1) SK.IS SK.AT)) λ x65 =>
 (cz x65 40 x65.IS).bind λ VK =>
 some (VK.1,VK.2)
def cy:Nat->ab->Int->Option (Bool×ab)
 | 0,_,_=>none
 | n+1,SK,SJ =>
 if SK.IS < 0 then
  ((de n) (ab.mk SK.fs SK.fat SK.fat SK.AT) SJ).bind λ r1 =>
  some (r1.1,ab.mk r1.2.fs r1.2.fat (-1) r1.2.AT)
 else (de n) SK SJ
def aF:Nat->ab->Int->Option (Bool×ab)
 | 0,_,_=>none
 | n+1,SK,SJ =>
 if 32<=SJ then
  (cz SK 4 SK.fat).bind λ r2 =>
  some (r2.1,r2.2)
 else
  ck (inR (SK.fat+2)) <|
  jn (aI n (bb n) SJ n 1 (ab.mk SK.fs (SK.fat+2) SK.IS SK.AT)) λ x67 =>
  some (true,x67)
end
theorem oc (n:Nat):(∀ (SK:ab) (SJ:Int) (r:ac×Bool×ab),HO (bb n SK SJ=some r) Tryz.prog 55 [.ptr 1000000 0,.p (eI SJ)] [(1000000,(ab.cs SK).map .p)] (.tuple [.p (.agg (ac.cs r.1)),.p (eB r.2.1)]) ([(1000000,(ab.cs r.2.2).map .p)]))/\(∀ (SK:ab) (SJ:Int) (r:Bool×ab),de n SK SJ=some r->KO Tryz.prog Tryz.f89 (SB Tryz.f89.body) [(1,.p (eI SJ)),(2,.ptr 1000001 0)] [(1000000,(ab.cs SK).map .p),(1000001,[.ptr 1000000 0])] (λ x y=>x.sub (.p (eB r.1))/\leO y [(1000000,(ab.cs r.2).map .p),(1000001,[.ptr 1000000 0])]))/\CI (cy n) 89/\CI (aF n) 133:=by
 induction n with
 | zero=>exact ⟨Zr,(by intro SK SJ r h0; cases h0),Zr,Zr⟩
 | succ n ih =>
 obtain ⟨_,Tm,_,_⟩:=ih;refine ⟨?_,?_,?_,?_⟩
 ·refine λ SK SJ=>hO good [] [1000000] Tryz.func55 Z Z λ r h0 _ w0 F=>?_;rw [bb] at h0;refine nx 2 rfl (mO rfl (iQ Z Z Z Z Z ?_));refine mG (nI (show lD _ _=_ from qC)) (nx 7 rfl ?_);refine mO rfl (aV Z Z Z Z Z Z Z (ab.g_at _) (nx 1 rfl (mO rfl (iQ Z Z Z Z Z ?_))));refine mG (nI (show lD _ _=_ from qC)) (nx 4 rfl ?_);refine cc' h0 λ Xa h0=>cc' h0 λ Vi h0=>mD [(0,.ptr 1000000 0),(1,.p (eI SJ)),(4,.ptr 4 0),(6,.ptr 6 0)] rfl ⟨rfl,rfl,rfl,rfl,trivial⟩ rfl (dR 4 rfl (dq (.p (eS SK.fs)) [15] rfl (λ _ e _ q=>ap rfl (aV Z Z Z Z Z (e _ _ rfl) rfl (ab.g_s _) q)) rfl (dR 3 rfl (dq (.p (eI SK.fat)) [19] rfl (λ _ e _ q=>ap rfl (aV Z Z Z Z Z (e _ _ rfl) rfl (ab.g_at _) q)) rfl (dq (.p (eK .u8 (byt SK.fs SK.fat))) [16,20] rfl (λ _ e _ q=>ap rfl (fx Z Z Z Z Z (e _ _ rfl) (e _ _ rfl) Xa q)) rfl (dR 2 rfl (dq (.ptr 1000000 (2+(byt SK.fs SK.fat).toNat*1)) [21,23] rfl (λ _ e _ q=>ap rfl (gq Z Z Z Z Z Z (e _ _ rfl) (e _ _ rfl) Vi q)) rfl (dq (.p (eK .u8 ((lat iY (byt SK.fs SK.fat)).toNat:Int))) [24] rfl (λ _ e _ q=>ap rfl (aV Z Z Z Z Z (e _ _ rfl) rfl (ab.g_class _ Vi) q)) rfl (dE rfl (nx 1 rfl ?_))))))))));obtain ⟨VP,h1,TC,hR0⟩:=br h0;refine kX (λ Uz:Int×Bytes×ab=>VP=.inl Uz) (λ Uz=>⟨[(4,.ptr 4 0),(6,.ptr 6 0)],[(4,jr),(6,[.p (eI Uz.1),.p (eS Uz.2.1),.p (eI SK.fat)]),(1000000,(ab.cs Uz.2.2).map .p)]⟩) (λ Uz hv=>?_) ?_
  ·have h0:=TC _ hv;exact S0
  refine nx 6 Z (fD [48,49] h1 Z (λ c3 h1=>?_) λ c3 h1=>?_)
  ·refine nx 4 Z (bd h1 λ r4 e5 h1=>mO Z (aY [1000000] [] 101000 101000 (HO.c e5) Z Z Z Z Z ⟨sr,sr,sr,trivial⟩ Z (az Z (aA _) Z) ⟨⟨_,Z,aS _⟩,trivial⟩ Z Z Z Z Z Z Z Z Tryz.call87 Z (az Z (aA _) Z) (nx 9 Z (oLs Z (nx 2 Z (fD [57] h1 Z (λ c6 h1=>?_) λ c6 h1=>?_))))))
   ·exact nx 2 Z (bd h1 λ r7 e8 h1=>mG (gE (t:=⟨[(0,.ptr 1000000 0),(4,.ptr 4 0),(6,.ptr 6 0)],[(4,jr),(6,[.p (eI 1),.p (eS r4.1),.p (eI SK.fat)]),(1000000,(ab.cs r4.2).map .p)]⟩) Z Z) (mSq ⟨2,[4,5],(by3 (.some (cj [] 102000 102000)) .none .none),(λ _=>[(0,.ptr 1000000 0),(4,.ptr 4 0),(6,.ptr 6 0)]),(by3 ([(4,jr),(6,[.p (eI 1),.p (eS r4.1),.p (eI SK.fat)]),(1000000,(ab.cs r4.2).map .p)]) ([(1000000,(ab.cs r7.2).map .p),(4,jr),(6,[.p (eI 1),.p (eS r4.1),.p (eI SK.fat)])]) ([(4,[.p (eI 1),.p (eS r4.1),.p (eI SK.fat)]),(1000000,(ab.cs r7.2).map .p),(4,jr),(6,[.p (eI 1),.p (eS r4.1),.p (eI SK.fat)])]))⟩ Z (dPc (.p (.agg [eI 1,eS r4.1,eI SK.fat])) Z (dPc (.ptr 1000000 0) Z (dPc (.ptr 6 2) Z (dPc (.p (eI SK.fat)) Z (dI (λ _=>.p (eB r7.1)) [59,61] Z (λ sl Sk K hK=>ap Z (aY [1000000] [] 102000 102000 (HO.c e8) Z Z Z (aT (Sk _ _ Z) (aT Z (aT (Sk _ _ Z) b9))) Z ⟨sr,sr,sr,trivial⟩ Z (az Z (aA _) Z) ⟨⟨_,Z,aS _⟩,trivial⟩ Z Z Z Z Z Z Z Z Tryz.call88 Z (az Z (aA _) Z) hK)) (dS Z (dPc (.p (eB r7.1)) Z (fq (nx 2 Z (mQo (hR0 _ (oi h1).symm) (aU _) Z Z Z (az Z (aA _) Z) (nV ⟨sr,sr,trivial⟩) ⟨⟨_,Z,aS _⟩,trivial⟩))))))))))))
   exact nx 2 Z gJ
  refine nx 6 Z (fD [63,64] h1 Z (λ c9 h1=>?_) λ c9 h1=>?_)
  ·exact nx 3 Z (bd h1 λ Tp XU h1=>mO Z (aY [1000000] [] 103000 103000 (HO.c XU) Z Z Z Z Z ⟨sr,sr,sr,trivial⟩ Z (az Z (aA _) Z) ⟨⟨_,Z,aS _⟩,trivial⟩ Z Z Z Z Z Z Z Z Tryz.call87 Z (az Z (aA _) Z) (nx 5 Z gJ)))
  refine nx 6 Z (fD [69,70] h1 Z (λ ZH h1=>?_) λ ZH h1=>?_)
  ·exact j5
  refine nx 6 Z (fD [80,81] h1 Z (λ Xc h1=>?_) λ Xc h1=>?_)
  ·refine nx 11 Z (bd h1 λ S6 Yy h1=>mO Z (aY [1000000] [] 104000 104000 (HO.c Yy) Z Z Z Z Z ⟨sr,sr,trivial⟩ Z (az Z (aA _) Z) ⟨⟨_,Z,aS _⟩,trivial⟩ Z Z Z Z Z Z Z Z Tryz.call89 Z (az Z (aA _) Z) (nx 2 Z (mG (gE (t:=⟨[(0,.ptr 1000000 0),(4,.ptr 4 0),(6,.ptr 6 0),(86,.p (eB (!S6.1)))],[(4,jr),(6,[.p (eI 3),.p (eS ([]:Bytes)),.p (eI SK.fat)]),(1000000,(ab.cs S6.2).map .p)]⟩) Z Z) (fB [86] h1 Z (λ Tz h1=>?_) λ Tz h1=>?_)))))
   ·exact j5
   refine nx 2 Z (cc' h1 λ Uv h1=>cc' h1 λ U5 h1=>cc' h1 λ VF h1=>mG (gE (t:=⟨[(0,.ptr 1000000 0),(4,.ptr 4 0),(6,.ptr 6 0)],[(4,jr),(6,[.p (eI 3),.p (eS ([]:Bytes)),.p (eI SK.fat)]),(1000000,(ab.cs S6.2).map .p)]⟩) Z Z) (mSq ⟨1,[14],(λ _=>.none),(λ _=>[(0,.ptr 1000000 0),(4,.ptr 4 0),(6,.ptr 6 0)]),(ob2 ([(4,jr),(6,[.p (eI 3),.p (eS ([]:Bytes)),.p (eI SK.fat)]),(1000000,(ab.cs S6.2).map .p)]) (6,[.p (eI 3),.p (eS (sub S6.2.fs (SK.fat+1) (S6.2.fat - 1))),.p (eI SK.fat)]))⟩ Z (dPc (.ptr 1000000 0) Z (dPc (.ptr 1000000 0) Z (dPc (.ptr 1000000 0) Z (dPc (.p (eS S6.2.fs)) Z (dPc (.ptr 6 2) Z (dPc (.p (eI SK.fat)) Z (dO (.p (eI (SK.fat+1))) [93] Z (λ _ sl Sk K hK=>ap Z (fY Z Z Z (Sk _ _ Z) Z Z Uv hK)) (dPc (.ptr 1000000 0) Z (dPc (.ptr 1000000 0) Z (dPc (.ptr 1000000 1) Z ?_))))))))))));exact dPc (.p (eI S6.2.fat)) Z (dO (.p (eI (S6.2.fat - 1))) [98] Z (λ _ sl Sk K hK=>ap Z (fY Z Z Z (Sk _ _ Z) Z Z U5 hK)) (dO (.p (eS (sub S6.2.fs (SK.fat+1) (S6.2.fat - 1)))) [91,94,99] Z (λ _ sl Sk K hK=>ap Z (fy (a:=S6.2.fs) (l:=SK.fat+1) (h:=S6.2.fat - 1) Z Z Z Z Z (Sk _ _ Z) xQ wZ VF hK)) (dPc (.ptr 6 1) Z (dS Z (fq (nx 1 Z gJ))))))
  refine nx 2 Z (cc' h1 λ U4 h1=>bd h1 λ Vb e23 h1=>mG (gE (t:=⟨[(0,.ptr 1000000 0),(4,.ptr 4 0),(6,.ptr 6 0)],[(4,jr),(6,[.p (eI 0),.p (eS ([]:Bytes)),.p (eI SK.fat)]),(1000000,(ab.cs SK).map .p)]⟩) Z Z) (mSq ⟨2,[11,13],(λ _=>.none),(λ _=>[(0,.ptr 1000000 0),(4,.ptr 4 0),(6,.ptr 6 0)]),(ob3 ([(4,jr),(6,[.p (eI 0),.p (eS ([]:Bytes)),.p (eI SK.fat)]),(1000000,(ab.cs SK).map .p)]) (6,[.p (eI 4),.p (eS ([]:Bytes)),.p (eI SK.fat)]) (6,[.p (eI 4),.p (eS Vb),.p (eI SK.fat)]))⟩ Z (dPc (.ptr 1000000 0) Z (dPc (.ptr 1000000 0) Z (dPc (.ptr 1000000 0) Z (dPc (.p (eS SK.fs)) Z (dPc (.ptr 1000000 0) Z (dPc (.ptr 1000000 0) Z (dPc (.ptr 1000000 1) Z (dPc (.p (eI SK.fat)) Z (dO (.p (eS (sub SK.fs SK.fat (SK.fs.length:Int)))) [29,33] Z (λ _ sl Sk K hK=>ap Z (fy (a:=SK.fs) (l:=SK.fat) (h:=(SK.fs.length:Int)) Z Z Z Z Z (Sk _ _ Z) xQ Z U4 hK)) (dO (.p (eS Vb)) [34] Z (λ _ sl Sk K hK=>ap Z (gG (HP.c e23) Z Z Z (aT (Sk _ _ Z) b9) ⟨sr,trivial⟩ Tryz.call86 Z hK)) ?_))))))))))));refine dPc (.ptr 6 0) Z (lj [(36,_)] Z ⟨.inr ⟨10,_,Z,Z,Z⟩,trivial⟩ Z (λ sl Sk K hK=>ap Z (nW Z Z Z (Sk _ _ Z) Z Z Z Z (sm Z) hK)) (dPc (.ptr 6 1) Z (dS Z (fq (nx 1 Z (cc' h1 λ XK h1=>mG (gE (t:=⟨[(0,.ptr 1000000 0),(4,.ptr 4 0),(6,.ptr 6 0)],[(4,jr),(6,[.p (eI 4),.p (eS Vb),.p (eI SK.fat)]),(1000000,(ab.cs SK).map .p)]⟩) Z Z) (mSq ⟨1,[10],(λ _=>.none),(λ _=>[(0,.ptr 1000000 0),(4,.ptr 4 0),(6,.ptr 6 0)]),(ob2 ([(4,jr),(6,[.p (eI 4),.p (eS Vb),.p (eI SK.fat)]),(1000000,(ab.cs SK).map .p)]) (1000000,(ab.cs (ab.mk SK.fs (SK.fat+(Vb.length:Int)) SK.IS SK.AT)).map .p))⟩ Z (dPc (.ptr 1000000 0) Z (dPc (.ptr 1000000 0) Z (dPc (.ptr 1000000 1) Z (dPc (.p (eI SK.fat)) Z (dPc (.ptr 6 1) Z (dPc (.p (eS Vb)) Z ?_)))))))))))));refine dO (.p (eI (Vb.length:Int))) [43] Z (λ _ sl Sk K hK=>ap Z (oM Z Z Z Z Z (Sk _ _ Z) hK)) (dO (.p (eI (SK.fat+(Vb.length:Int)))) [41,44] Z (λ _ sl Sk K hK=>ap Z (fY Z Z Z (Sk _ _ Z) (Sk _ _ Z) Z XK hK)) (dPc (.ptr 1000000 0) Z (dPc (.ptr 1000000 1) Z (lj [(45,_),(47,_)] Z ⟨.inr ⟨7,_,Z,Z,Z⟩,.inr ⟨9,_,Z,Z,Z⟩,trivial⟩ Z (λ sl Sk K hK=>ap Z (gx Z Z Z (Sk _ _ Z) (Sk _ _ Z) Z Z Z (ab.b_at _) (ab.u_at _) hK)) (fq ?_)))));exact j5
 ·skip
  intro SK SJ r h0;rw [de] at h0;refine He good (t:=4) [1000000,1000001] Z Z λ w0 F=>mPo (λ v:Bool×ab=>.p (eB v.1)) (λ v=>[(1000000,(ab.cs v.2).map .p),(1000001,[.ptr 1000000 0])]) (nx 5 rfl (mO rfl (aV Z Z Z Z Z Z Z (ab.g_at _) (oA h0 Z Z λ Xa h0=>nx 2 rfl (mO rfl (gx Z Z Z Z Z Z Z Z (ab.b_at _) (ab.u_at _) (nx 3 rfl ?_)))))));obtain ⟨o71,h1,TC,hR0⟩:=br h0;refine kEx 0 (λ X0:ab=>o71=.inl X0) (λ X0=>⟨[(2,.ptr 1000001 0)],[(1000000,(ab.cs X0).map .p),(1000001,[.ptr 1000000 0])]⟩) (λ X0 hv=>?_) ?_
  ·have h0:=TC _ hv;exact nx 2 Z (bd h0 λ VK e67 h0=>mG (gE (t:=⟨[(2,.ptr 1000001 0)],[(1000000,(ab.cs X0).map .p),(1000001,[.ptr 1000000 0])]⟩) Z Z) (mSq ⟨1,[5],(by2 (.some (cj [] 111000 111000)) .none),(λ _=>[(2,.ptr 1000001 0)]),(by2 ([(1000000,(ab.cs X0).map .p),(1000001,[.ptr 1000000 0])]) ([(1000000,(ab.cs VK.2).map .p),(1000001,[.ptr 1000000 0])]))⟩ Z (dPc (.ptr 1000000 0) Z (dPc (.ptr 1000000 0) Z (dPc (.ptr 1000000 0) Z (dPc (.ptr 1000000 258) Z (dPc (.p (eI X0.IS)) Z (dI (λ _=>.p (eB VK.1)) [87,91] Z (λ sl Sk K hK=>ap Z (aY [1000000] [] 111000 111000 (HO.c e67) Z Z Z (aT (Sk _ _ Z) (aT Z (aT (Sk _ _ Z) b9))) Z ⟨sr,sr,sr,trivial⟩ Z (az Z (aA _) Z) ⟨⟨_,Z,aS _⟩,trivial⟩ Z Z Z Z Z Z Z Z Tryz.call88 Z (az Z (aA _) Z) hK)) (dPc (.p (eB VK.1)) Z (fq (nx 2 Z (mQo (oi h0) (aU _) Z Z Z (az Z (aA _) (az Z Z Z)) (sr) ⟨⟨_,Z,aS _⟩,⟨_,Z,⟨sr,trivial⟩⟩,trivial⟩))))))))))))
  refine lG (λ (Yh:ab)=>⟨[(1,.p (eI SJ)),(2,.ptr 1000001 0)],[(1000000,(ab.cs Yh).map .p),(1000001,[.ptr 1000000 0])]⟩) (λ m (Yh:ab)=>aN (aF n) SJ m Yh) Y (ab.mk SK.fs (SK.fat+1) SK.IS SK.AT) h1 (gE rfl rfl) ?_;rintro m x33 h1;replace h1:aN (aF n) SJ (m+1) x33=some o71:=h1;rw [aN] at h1;refine nx 4 rfl (bd h1 λ Tg e35 h1=>mO rfl (aY [1000000] [] 106000 106000 (HO.c e35) rfl rfl rfl rfl rfl ⟨sr,trivial⟩ rfl (az rfl (aA _) rfl) ⟨⟨_,rfl,aS _⟩,trivial⟩ rfl rfl rfl rfl rfl rfl rfl rfl Tryz.call53 rfl (az rfl (aA _) rfl) (nx 1 rfl (fB [27] h1 rfl (λ XV h1=>?_) λ XV h1=>?_))))
  ·refine nx 4 rfl (cc' h1 λ Wy h1=>mD [(1,.p (eI SJ)),(2,.ptr 1000001 0)] rfl ⟨rfl,rfl,trivial⟩ rfl (dR 3 rfl (dq (.p (eS Tg.2.fs)) [30] rfl (λ _ e _ q=>ap rfl (aV Z Z Z Z Z (e _ _ rfl) rfl (ab.g_s _) q)) rfl (dR 3 rfl (dq (.p (eI Tg.2.fat)) [34] rfl (λ _ e _ q=>ap rfl (aV Z Z Z Z Z (e _ _ rfl) rfl (ab.g_at _) q)) rfl (dq (.p (eS (sub Tg.2.fs Tg.2.fat (Tg.2.fs.length:Int)))) [31,35] rfl (λ _ e _ q=>ap rfl (fy (a:=Tg.2.fs) (l:=Tg.2.fat) (h:=(Tg.2.fs.length:Int)) Z Z Z Z Z (e _ _ rfl) pE rfl Wy q)) rfl (dR 1 rfl (dE rfl (nx 1 rfl ?_)))))))));obtain ⟨o74,h2,hL1,hR1⟩:=br h1;refine kX (λ v75:ab=>o74=.inl v75) (λ v75=>⟨[(1,.p (eI SJ)),(2,.ptr 1000001 0)],[(1000000,(ab.cs v75).map .p),(1000001,[.ptr 1000000 0])]⟩) (λ v75 hv=>?_) ?_
   ·have h1:=hL1 _ hv;exact j5
   refine nx 4 Z (oI h2 Z λ Zn h2=>nx 3 Z (fD [59,62] h2 Z (λ c39 h2=>?_) λ c39 h2=>?_))
   ·exact nx 6 Z (mO Z (aV Z Z Z Z Z Z Z (ab.g_at _) (oA h2 Z Z λ Yt h2=>nx 2 Z (mO Z (gx Z Z Z Z Z Z Z Z (ab.b_at _) (ab.u_at _) (nx 6 Z A1))))))
   refine nx 4 Z (bd h2 λ Yg e42 h2=>oK (dY (sub Tg.2.fs Tg.2.fat (Tg.2.fs.length:Int)) ([36,36,123]:Bytes) _ e42) Z ⟨sr,sr,trivial⟩ Tryz.call75 Z (nx 2 Z (fB [70,72] h2 Z (λ c43 h2=>?_) λ c43 h2=>?_)))
   ·exact nx 5 Z (mO Z (aV Z Z Z Z Z Z Z (ab.g_at _) (oA h2 Z Z λ hk44 h2=>nx 2 Z Br)))
   refine nx 4 Z (bd h2 λ V4 e46 h2=>oK (dY (sub Tg.2.fs Tg.2.fat (Tg.2.fs.length:Int)) ([36,123]:Bytes) _ e46) Z ⟨sr,sr,trivial⟩ Tryz.call75 Z (nx 2 Z (fB [80,82] h2 Z (λ c47 h2=>?_) λ c47 h2=>?_)))
   ·refine nx 5 Z (bd h2 λ Yf e49 h2=>mO Z (aY [1000000] [] 107000 107000 (HO.c e49) Z Z Z Z Z ⟨sr,sr,trivial⟩ Z (az Z (aA _) Z) ⟨⟨_,Z,aS _⟩,trivial⟩ Z Z Z Z Z Z Z Z Tryz.call133 Z (az Z (aA _) Z) (nx 2 Z (fB [86] h2 Z (λ c50 h2=>?_) λ c50 h2=>?_))))
    ·exact nx 5 Z (mG (gE (t:=⟨[(4,.p (eB false))],[(1000000,(ab.cs Yf.2).map .p),(1000001,[.ptr 1000000 0])]⟩) Z Z) (nx 1 Z A1))
    exact xA
   refine nx 2 Z (bd h2 λ YJ h3 h2=>kN YJ (λ Wl=>⟨[(1,.p (eI SJ)),(2,.ptr 1000001 0)],[(1000000,(ab.cs Wl).map .p),(1000001,[.ptr 1000000 0])]⟩) ?_ ?_)
   ·refine nx 5 Z (bd h2 λ TD e56 h2=>mO Z (aY [1000000] [] 108000 108000 (HO.c e56) Z Z Z Z Z ⟨sr,trivial⟩ Z (az Z (aA _) Z) ⟨⟨_,Z,aS _⟩,trivial⟩ Z Z Z Z Z Z Z Z Tryz.call53 Z (az Z (aA _) Z) (nx 2 Z (fB [49] h2 Z (λ c57 h2=>?_) λ c57 h2=>?_))))
    ·exact xA
    refine nx 5 Z (bd h2 λ TX e59 h2=>mO Z (aY [1000000] [] 109000 109000 (HO.c e59) Z Z Z Z Z ⟨sr,trivial⟩ Z (az Z (aA _) Z) ⟨⟨_,Z,aS _⟩,trivial⟩ Z Z Z Z Z Z Z Z Tryz.call134 Z (az Z (aA _) Z) (nx 2 Z (fB [52] h2 Z (λ c60 h2=>?_) λ c60 h2=>?_))))
    ·exact nx 2 Z (bd h2 λ TQ e62 h2=>mG (gE (t:=⟨[(2,.ptr 1000001 0)],[(1000000,(ab.cs TX.2).map .p),(1000001,[.ptr 1000000 0])]⟩) Z Z) (mSq ⟨1,[5],(by2 (.some (cj [] 110000 110000)) .none),(λ _=>[(2,.ptr 1000001 0)]),(by2 ([(1000000,(ab.cs TX.2).map .p),(1000001,[.ptr 1000000 0])]) ([(1000000,(ab.cs TQ.2).map .p),(1000001,[.ptr 1000000 0])]))⟩ Z (dPc (.ptr 1000000 0) Z (dPc (.ptr 1000000 0) Z (dPc (.ptr 1000000 0) Z (dPc (.ptr 1000000 1) Z (dPc (.p (eI TX.2.fat)) Z (dI (λ _=>.p (eB TQ.1)) [53,57] Z (λ sl Sk K hK=>ap Z (aY [1000000] [] 110000 110000 (HO.c e62) Z Z Z (aT (Sk _ _ Z) (aT Z (aT (Sk _ _ Z) b9))) Z ⟨sr,sr,sr,trivial⟩ Z (az Z (aA _) Z) ⟨⟨_,Z,aS _⟩,trivial⟩ Z Z Z Z Z Z Z Z Tryz.call88 Z (az Z (aA _) Z) hK)) (dPc (.p (eB TQ.1)) Z (fq (nx 2 Z A1)))))))))))
    exact xA
   refine nx 3 Z (oI h3 Z λ aap h3=>nx 2 Z (fD [39] h3 Z (λ c52 h3=>?_) λ c52 h3=>?_))
   ·exact nx 5 Z (mO Z (aV Z Z Z Z Z Z Z (ab.g_at _) (oA h3 Z Z λ Yp h3=>nx 2 Z (mO Z (gx Z Z Z Z Z Z Z Z (ab.b_at _) (ab.u_at _) (nx 1 Z ly))))))
   exact lZ
  exact j5
 ·refine λ SK SJ r=>⟨λ h0=>?_⟩
  rw [cy] at h0;refine MW good (k:=132) (j:=2) (q:=18) (b:=decide (SK.IS < 0)) (s0:=⟨[(1,.p (eI SJ)),(2,.ptr 2 0)],[(2,[.ptr 1000000 0]),(1000000,(ab.cs SK).map .p)]⟩) (s1:=⟨[(1,.p (eI SJ)),(2,.ptr 2 0),(10,.p (eB (decide (SK.IS < 0))))],[(2,[.ptr 1000000 0]),(1000000,(ab.cs SK).map .p)]⟩) (s2:=⟨[(1,.p (eI SJ)),(2,.ptr 2 0)],[(2,[.ptr 1000000 0]),(1000000,(ab.cs (ab.mk SK.fs SK.fat SK.fat SK.AT)).map .p)]⟩) [1000000] Tryz.func89 Z Z Z (λ w0 F=>mR ?_) (λ w0 F=>mR ?_) rfl (λ hb=>?_) (λ hb=>?_);refine nx 1 rfl (mO rfl (Ci Z Z Z Z Z ?_));refine mG (nI (show lD _ _=_ from qC)) (nx 3 rfl ?_);exact mE (gE Z Z);exact nx 4 rfl (mO rfl (aV Z Z Z Z Z Z Z (ab.g_outer _) (nx 3 rfl (mE (gE Z Z)))));rw [if_neg (of_decide_eq_false hb)] at h0;exact ⟨⟨[(1,.p (eI SJ)),(2,.ptr 2 0),(10,.p (eB (decide (SK.IS < 0))))],[(1000000,(ab.cs r.2).map .p),(2,[.ptr 1000000 0])]⟩,_,_,rfl,(az rfl (aA _) rfl),⟨⟨_,rfl,aS _⟩,trivial⟩,λ w0 F g a a2 w hs ht=>KP (C:=⟨Tryz.prog,tt,good,_,rfl,w0,F⟩) (sl:=[(1,.p (eI SJ)),(2,.ptr 2 0),(10,.p (eB (decide (SK.IS < 0))))]) (ob:=[(2,[.ptr 1000000 0]),(1000000,(ab.cs SK).map .p)]) [1000000,2] [] 100000 100000 [1,2] rfl (Tm SK SJ _ h0) Z Z Z (az rfl (aA _) rfl) ⟨⟨_,rfl,aS _⟩,⟨_,rfl,⟨sr,trivial⟩⟩,trivial⟩ Z Z Z Z Z Z Z Z Z (az rfl (aA _) rfl) hs ht⟩;rw [if_pos (of_decide_eq_true hb)] at h0;refine bd h0 λ r1 e1 h0=>?_
  cases h0
  refine ⟨λ w0 F=>mR ?_,⟨Z,Z,Z,Z,Z,Z,Z,Z⟩,Tryz.call132,⟨[(18,.func (.func 132) [.ptr 2 0]),(1,.p (eI SJ)),(2,.ptr 2 0)],[(1000000,(ab.cs r1.2).map .p),(2,[.ptr 1000000 0])]⟩,⟨[(18,.func (.func 132) [.ptr 2 0]),(1,.p (eI SJ)),(2,.ptr 2 0)],[(2,[.ptr 1000000 0]),(1000000,(ab.cs (ab.mk r1.2.fs r1.2.fat (-1) r1.2.AT)).map .p)]⟩,_,_,.ptr 2 0,Z,Z,(az Z (aA _) Z),⟨⟨_,Z,aS _⟩,trivial⟩,λ w0 F g a a2 w hs ht=>?_,λ w0 F g a w u hs=>?_⟩
  ·exact mG (gE (t:=⟨[(1,.p (eI SJ)),(2,.ptr 2 0)],[(2,[.ptr 1000000 0]),(1000000,(ab.cs SK).map .p)]⟩) Z Z) (mSq ⟨1,[7],(λ _=>.none),(λ _=>[(1,.p (eI SJ)),(2,.ptr 2 0)]),(ob2 ([(2,[.ptr 1000000 0]),(1000000,(ab.cs SK).map .p)]) (1000000,(ab.cs (ab.mk SK.fs SK.fat SK.fat SK.AT)).map .p))⟩ Z (dPc (.ptr 1000000 0) Z (dPc (.ptr 1000000 0) Z (dPc (.ptr 1000000 0) Z (dPc (.ptr 1000000 1) Z (dPc (.p (eI SK.fat)) Z (dPc (.ptr 1000000 0) Z (dPc (.ptr 1000000 258) Z (lj [(15,_),(17,_)] Z ⟨.inr ⟨4,_,Z,Z,Z⟩,.inr ⟨6,_,Z,Z,Z⟩,trivial⟩ Z (λ sl Sk K hK=>ap Z (gx Z Z Z (Sk _ _ Z) (Sk _ _ Z) Z Z Z (ab.b_outer _) (ab.u_outer _) hK)) (fq (nx 2 Z (mE (gE Z Z)))))))))))))
  ·exact KP (C:=⟨Tryz.prog,tt,good,_,Z,w0,F⟩) (sl:=[(18,.func (.func 132) [.ptr 2 0]),(1,.p (eI SJ)),(2,.ptr 2 0)]) (ob:=[(2,[.ptr 1000000 0]),(1000000,(ab.cs (ab.mk SK.fs SK.fat SK.fat SK.AT)).map .p)]) [1000000,2] [] 100000 100000 [1,2] Z (Tm (ab.mk SK.fs SK.fat SK.fat SK.AT) SJ _ e1) Z Z Z (az Z (aA _) Z) ⟨⟨_,Z,aS _⟩,⟨_,Z,⟨sr,trivial⟩⟩,trivial⟩ Z Z Z Z Z Z Z Z Z (az Z (aA _) Z) hs ht
  exact O2 (C:=⟨Tryz.prog,tt,good,_,Z,w0,F⟩) (sl:=[(18,.func (.func 132) [.ptr 2 0]),(1,.p (eI SJ)),(2,.ptr 2 0)]) (ob:=[(1000000,(ab.cs r1.2).map .p),(2,[.ptr 1000000 0])]) [2,1000000] [] 100000 100000 2 (mK r1.2) Z Z Z (az Z Z (az Z (aA _) Z)) ⟨⟨_,Z,⟨sr,trivial⟩⟩,⟨_,Z,aS _⟩,trivial⟩ Z Z Z Z Z Z Z Z Z (az Z Z (az Z (aA _) Z)) hs
 ·refine λ SK SJ=>hO good [] [1000000] Tryz.func133 Z Z λ r h0 _ w0 F=>?_;rw [aF] at h0;refine nx 10 Z (fD [9] h0 Z (λ c1 h0=>?_) λ c1 h0=>?_)
  ·exact nx 7 Z (mO Z (aV Z Z Z Z Z Z Z (ab.g_at _) (bd h0 λ r2 e3 h0=>mO Z (aY [1000000] [] 101000 101000 (HO.c e3) Z Z Z Z Z ⟨sr,sr,sr,trivial⟩ Z (az Z (aA _) Z) ⟨⟨_,Z,aS _⟩,trivial⟩ Z Z Z Z Z Z Z Z Tryz.call88 Z (az Z (aA _) Z) (nx 3 Z HS)))))
  refine nx 7 rfl (mO rfl (aV Z Z Z Z Z Z Z (ab.g_at _) (oA h0 Z Z λ W7 h0=>nx 2 rfl (mO rfl (gx Z Z Z Z Z Z Z Z (ab.b_at _) (ab.u_at _) (nx 7 rfl ?_))))));obtain ⟨o73,h1,TC,hR0⟩:=br h0;refine kEx 0 (λ Xo:ab=>o73=.inl Xo) (λ Xo=>⟨[],[(1000000,(ab.cs Xo).map .p)]⟩) (λ Xo hv=>?_) ?_
  ·have h0:=TC _ hv;exact S0
  refine lG (λ (Wn:Int×ab)=>⟨[(0,.ptr 1000000 0),(1,.p (eI SJ)),(5,.p (eI Wn.1))],[(1000000,(ab.cs Wn.2).map .p)]⟩) (λ m (Wn:Int×ab)=>aI n (bb n) SJ m Wn.1 Wn.2) Y (1,(ab.mk SK.fs (SK.fat+2) SK.IS SK.AT)) h1 (gE rfl rfl) ?_;rintro m ⟨open35,x36⟩ h1;replace h1:aI n (bb n) SJ (m+1) open35 x36=some o73:=h1;rw [aI] at h1;refine nx 6 rfl (fD [24] h1 rfl (λ c37 h1=>?_) λ c37 h1=>?_)
  ·refine nx 2 rfl ?_;obtain ⟨YJ,h2,hL1,hR1⟩:=br h1;refine kX (λ Wl:Int×ab=>YJ=.inl Wl) (λ Wl=>⟨[(0,.ptr 1000000 0),(1,.p (eI SJ)),(5,.p (eI Wl.1))],[(1000000,(ab.cs Wl.2).map .p)]⟩) (λ Wl hv=>?_) ?_
   ·have h1:=hL1 _ hv;exact j5
   refine nx 4 Z (bd h2 λ Up e39 h2=>mO Z (aY [1000000] [] 108000 108000 (HO.c e39) Z Z Z Z Z ⟨sr,trivial⟩ Z (az Z (aA _) Z) ⟨⟨_,Z,aS _⟩,trivial⟩ Z Z Z Z Z Z Z Z Tryz.call52 Z (az Z (aA _) Z) (nx 5 Z (bd h2 λ Xu e41 h2=>mO Z (aY [1000000] [] 109000 109000 (HO.c e41) Z Z Z Z Z ⟨sr,trivial⟩ Z (az Z (aA _) Z) ⟨⟨_,Z,aS _⟩,trivial⟩ Z Z Z Z Z Z Z Z Tryz.call53 Z (az Z (aA _) Z) (nx 2 Z (fB [29] h2 Z (λ c42 h2=>?_) λ c42 h2=>?_)))))))
   ·exact nx 7 Z (mO Z (aV Z Z Z Z Z Z Z (ab.g_outer _) (bd h2 λ UT e44 h2=>mO Z (aY [1000000] [] 110000 110000 (HO.c e44) Z Z Z Z Z ⟨sr,sr,sr,trivial⟩ Z (az Z (aA _) Z) ⟨⟨_,Z,aS _⟩,trivial⟩ Z Z Z Z Z Z Z Z Tryz.call88 Z (az Z (aA _) Z) Gq))))
   refine nx 6 Z (bd h2 λ V4 e46 h2=>mO Z (aY [1000000] [] 111000 111000 (HO.c e46) Z Z Z Z Z ⟨sr,trivial⟩ Z (az Z (aA _) Z) ⟨⟨_,Z,aS _⟩,trivial⟩ Z Z Z Z Z Z Z Z Tryz.call54 Z (az Z (aA _) Z) (nx 2 Z (fB [38] h2 Z (λ c47 h2=>?_) λ c47 h2=>?_))))
   ·exact nx 7 Z (mO Z (aV Z Z Z Z Z Z Z (ab.g_at _) (bd h2 λ Yf e49 h2=>mO Z (aY [1000000] [] 112000 112000 (HO.c e49) Z Z Z Z Z ⟨sr,sr,sr,trivial⟩ Z (az Z (aA _) Z) ⟨⟨_,Z,aS _⟩,trivial⟩ Z Z Z Z Z Z Z Z Tryz.call88 Z (az Z (aA _) Z) Gq))))
   refine nx 6 Z (oA h2 Z Z λ XH h2=>bd h2 λ TR Zz h2=>mO Z (aY [1000000] [] 113000 113000 (HO.c Zz) Z Z Z Z Z ⟨sr,sr,trivial⟩ Z (az Z (aA _) Z) ⟨⟨_,Z,aS _⟩,trivial⟩ Z Z Z Z Z Z Z Z Tryz.call55 Z (az Z (aA _) Z) (nx 3 Z (mO Z (iQ Z Z Z Z Z ?_)))));refine mG (nI (show lD _ _=_ from qC)) (nx 9 Z ?_);refine fB [53] h2 Z (λ c53 h2=>?_) λ c53 h2=>?_
   ·exact nx 6 Z Kn
   refine nx 3 Z (bd h2 λ o78 h3 h2=>kN o78 (λ X8=>⟨[(0,.ptr 1000000 0),(1,.p (eI SJ)),(5,.p (eI X8)),(6,.ptr 6 0)],[(6,(ac.cs TR.1).map .p),(1000000,(ab.cs TR.2.2).map .p)]⟩) ?_ ?_)
   ·refine nx 2 Z (bd h2 λ o80 h3 h2=>kN o80 (λ v81=>⟨[(0,.ptr 1000000 0),(1,.p (eI SJ)),(5,.p (eI o78)),(71,.p (eB v81))],[(1000000,(ab.cs TR.2.2).map .p)]⟩) ?_ ?_)
    ·refine nx 1 Z (fB [71] h2 Z (λ c61 h2=>?_) λ c61 h2=>?_)
     ·exact nx 3 Z (oA h2 Z Z λ Zj h2=>nx 2 Z uv)
     exact xA
    refine nx 5 Z (fD [66,67] h3 Z (λ c59 h3=>?_) λ c59 h3=>?_)
    ·exact nx 2 Z Bu
    exact B9
   refine nx 1 Z (bd h3 λ o82 h4 h3=>kN o82 (λ v83=>⟨[(0,.ptr 1000000 0),(1,.p (eI SJ)),(5,.p (eI open35)),(6,.ptr 6 0),(61,.p (eB v83))],[(6,(ac.cs TR.1).map .p),(1000000,(ab.cs TR.2.2).map .p)]⟩) ?_ ?_)
   ·refine nx 1 Z (fB [61] h3 Z (λ c56 h3=>?_) λ c56 h3=>?_)
    ·exact nx 3 Z (oA h3 Z Z λ W5 h3=>nx 2 Z ly)
    exact lZ
   refine nx 5 Z (fD [56,57] h4 Z (λ c54 h4=>?_) λ c54 h4=>?_)
   ·exact nx 2 Z (oS Z Z (nx 2 Z (eX _ (oi h4).symm (gE Z Z))))
   exact nx 5 Z (eX _ (oi h4).symm (gE Z Z))
  exact j5
instance wB (n:Nat):∀ (SK:ab) (SJ:Int) (r:ac×Bool×ab),HO (bb n SK SJ=some r) Tryz.prog 55 [.ptr 1000000 0,.p (eI SJ)] [(1000000,(ab.cs SK).map .p)] (.tuple [.p (.agg (ac.cs r.1)),.p (eB r.2.1)]) ([(1000000,(ab.cs r.2.2).map .p)]):=(oc n).1
def fW (n:Nat):Nat->(List ac)->ab->Option (Unit⊕((List ac)×ao))
 | 0,_,_=>none
 | m+1,Ub,x26 =>
 (eN n x26).bind λ Uc =>
 (
   (bE Uc).bind λ Xi =>
   if Xi.1=true then
    (dU n Xi.2).bind λ Vr =>
    some (!Vr.1,Vr.2)
   else
    some (false,Xi.2)
  ).bind λ Xz =>
 if Xz.1=true then
  some (.inr ([],(ao.mk 2 Xz.2.fat ([]:Bytes))))
 else
  if (Ub.length:Int)=16384 then
   some (.inr ([],(ao.mk 14 Xz.2.fat ([]:Bytes))))
  else
   (bE Xz.2).bind λ Up =>
   if (!Up.1)=true then
    ck ((Ub.length+([(ac.mk 6 ([]:Bytes) Up.2.fat)]).length)*32<=140737488355328) <|
    some (.inr (Ub++([(ac.mk 6 ([]:Bytes) Up.2.fat)]),(ao.mk 0 0 ([]:Bytes))))
   else
    (bb n Up.2 0).bind λ Uo =>
    if (!Uo.2.1)=true then
     some (.inr ([],Uo.2.2.AT))
    else
     ck ((Ub.length+[Uo.1].length)*32<=140737488355328) <|
     fW n m (Ub++[Uo.1]) Uo.2.2
def mu (n:Nat)(Mr:Bytes):Option ((List ac)×ao) :=
 if 65536 < (Mr.length:Int) then
  some ([],(ao.mk 3 0 ([]:Bytes)))
 else
  (ky Mr).bind λ r2 =>
  jn (fW n n [] r2) λ _XA =>
  none
instance Lk (n:Nat) (Mr:Bytes):∀ (r:(List ac)×ao),HP (mu n Mr=some r) Tryz.prog 25 [eS Mr] (.tuple [.p (eL aG r.1),.p (.agg (ao.cs r.2))]):=by
 refine hP good Tryz.func25 Z Z λ r h0 _ w0=>?_;unfold mu at h0;refine nx 9 Z (oLs Z (nx 2 Z (fD [10] h0 Z (λ c1 h0=>?_) λ c1 h0=>?_)))
 ·exact S0
 refine nx 5 rfl (bd h0 λ r2 e3 h0=>mO rfl (aY [] [] 101000 101001 (pZ Mr _ e3) Z Z Z Z Z ⟨sr,trivial⟩ Z Z trivial Z Z Z Z Z Z Z Z Tryz.call51 rfl (az rfl (aA _) rfl) (nx 7 rfl ?_)));obtain ⟨Ww,h1,TC,hR0⟩:=br h0;refine kEx 0 (λ v51:Unit=>Ww=.inl v51) (λ v51=>⟨[],[]⟩) (λ v51 hv=>?_) ?_
 ·exact Ag
 refine lG (λ (V6:(List ac)×ab)=>⟨[(3,.ptr 3 0),(4,.ptr 101000 0),(5,.vec 62 3 0 (V6.1.map aG))],[(3,oj),(101000,(ab.cs V6.2).map .p)]⟩) (λ m (V6:(List ac)×ab)=>fW n m V6.1 V6.2) Y ([],r2) h1 (dX (lq ⟨er rfl,er rfl,⟨_,rfl,AV.sub_nilvec _ _ _⟩,trivial⟩ ⟨⟨_,rfl,⟨sr,sr,sr,trivial⟩⟩,⟨_,rfl,aS _⟩,trivial⟩)) ?_;rintro m ⟨Ub,x26⟩ h1;replace h1:fW n (m+1) Ub x26=some Ww:=h1;rw [fW] at h1;refine nx 4 rfl (bd h1 λ Uc e28 h1=>mO rfl (aY [101000] [] 107000 107000 (HO.c e28) rfl rfl rfl rfl rfl ⟨sr,trivial⟩ rfl (az rfl (aA _) rfl) ⟨⟨_,rfl,aS _⟩,trivial⟩ rfl rfl rfl rfl rfl rfl rfl rfl Tryz.call52 rfl (az rfl (aA _) rfl) (nx 3 rfl (bd h1 λ Wh h2 h1=>kN Wh (λ Xp=>⟨[(3,.ptr 3 0),(4,.ptr 101000 0),(5,.vec 62 3 0 (Ub.map aG)),(22,.p (eB Xp.1))],[(3,oj),(101000,(ab.cs Xp.2).map .p)]⟩) ?_ ?_))))
 ·refine nx 1 Z (fB [22] h1 Z (λ XV h1=>?_) λ XV h1=>?_)
  ·exact nx 2 Z (mG HD (mSq ⟨1,[6],(λ _=>.none),(λ _=>[(3,.ptr 3 0),(4,.ptr 101000 0)]),(ob2 ([(3,oj),(101000,(ab.cs Wh.2).map .p)]) (3,[.p (eI 2),.p (eI Wh.2.fat),.p (eS ([]:Bytes))]))⟩ Z (dPc (.ptr 101000 0) Z (dPc (.ptr 101000 0) Z (dPc (.ptr 101000 1) Z (dPc (.p (eI Wh.2.fat)) Z (dPc (.p (.agg [eI 2,eI Wh.2.fat,eS ([]:Bytes)])) Z BP)))))))
  refine nx 6 Z (oLl (f:=aG) Z Z (nx 2 Z (fD [30] h1 Z (λ c37 h1=>?_) λ c37 h1=>?_)))
  ·exact nx 2 Z (mG HD (mSq ⟨1,[6],(λ _=>.none),(λ _=>[(3,.ptr 3 0),(4,.ptr 101000 0)]),(ob2 ([(3,oj),(101000,(ab.cs Wh.2).map .p)]) (3,[.p (eI 14),.p (eI Wh.2.fat),.p (eS ([]:Bytes))]))⟩ Z (dPc (.ptr 101000 0) Z (dPc (.ptr 101000 0) Z (dPc (.ptr 101000 1) Z (dPc (.p (eI Wh.2.fat)) Z (dPc (.p (.agg [eI 14,eI Wh.2.fat,eS ([]:Bytes)])) Z BP)))))))
  refine nx 6 Z (bd h1 λ Up e39 h1=>mO Z (aY [101000] [] 110000 110000 (HO.c e39) Z Z Z Z Z ⟨sr,trivial⟩ Z (az Z (aA _) Z) ⟨⟨_,Z,aS _⟩,trivial⟩ Z Z Z Z Z Z Z Z Tryz.call53 Z (az Z (aA _) Z) (nx 2 Z (fB [38] h1 Z (λ ZC h1=>?_) λ ZC h1=>?_))))
  ·refine nx 7 Z (mO Z (aV Z Z Z Z Z Z Z (ab.g_at _) ?_));refine nx 1 Z (mO Z (aH aG [(ac.mk 6 ([]:Bytes) Up.2.fat)] Z Z Z Z Z Z Z Z Z Z Z Z Z uO ?_));refine cc' h1 λ VE h1=>mO Z (dZ aG Ub ([(ac.mk 6 ([]:Bytes) Up.2.fat)]) Z Z Z Z Z Z Z Z Z Z Z Z Z (λ x=>congrArg List.length (ac.It x)) Z Z Z Z VE ?_);refine mG (yl (show lD _ _=_ from qC)) (nx 5 Z ?_);exact mQ (hR0 _ (oi h1).symm) Z (nV ⟨AV.sub_vec _ _ _ _,sr,trivial⟩)
  refine nx 5 Z (bd h1 λ Uo e43 h1=>mO Z (aY [101000] [] 111000 111000 (HO.c e43) Z Z Z Z Z ⟨sr,sr,trivial⟩ Z (az Z (aA _) Z) ⟨⟨_,Z,aS _⟩,trivial⟩ Z Z Z Z Z Z Z Z Tryz.call55 Z (az Z (aA _) Z) (nx 3 Z (mO Z (iQ Z Z Z Z Z ?_)))));refine mG (nI (show lD _ _=_ from qC)) (nx 9 Z ?_);refine fB [54] h1 Z (λ c44 h1=>?_) λ c44 h1=>?_
  ·exact nx 2 Z (mG (gE (t:=⟨[(3,.ptr 3 0),(4,.ptr 101000 0)],[(3,oj),(101000,(ab.cs Uo.2.2).map .p)]⟩) Z Z) (mSq ⟨1,[5],(λ _=>.none),(λ _=>[(3,.ptr 3 0),(4,.ptr 101000 0)]),(ob2 ([(3,oj),(101000,(ab.cs Uo.2.2).map .p)]) (3,((ao.cs Uo.2.2.AT).map .p)))⟩ Z (dPc (.ptr 101000 0) Z (dPc (.ptr 101000 0) Z (dPc (.ptr 101000 259) Z (kD (λ _=>.p (.agg (ao.cs Uo.2.2.AT))) Z Z Z (H4 Z Y) (lt1 Z) (jR Z (kI [(57,_)] ⟨.inr ⟨2,_,Z,Z,Z⟩,trivial⟩ (λ sl Sk K hK=>ap Z (Et Z Z Z Z Z (Sk _ _ Z) Z (ab.l_bad _) (ab.g_bad _) hK)) mM)) BP))))))
  refine nx 5 Z (mO Z (aH aG [Uo.1] Z Z Z Z Z Z Z Z Z Z Z Z Z uO ?_));refine cc' h1 λ aar h1=>mO Z (dZ aG Ub [Uo.1] Z Z Z Z Z Z Z Z Z Z Z Z Z (λ x=>congrArg List.length (ac.It x)) Z Z Z Z aar ?_);refine mG (yl (show lD _ _=_ from qC)) (nx 2 Z ?_);exact eX (Ub++[Uo.1],Uo.2.2) h1 (gE Z Z)
 refine nx 2 Z (bd h2 λ Xi e30 h2=>mO Z (aY [101000] [] 108000 108000 (HO.c e30) Z Z Z Z Z ⟨sr,trivial⟩ Z (az Z (aA _) Z) ⟨⟨_,Z,aS _⟩,trivial⟩ Z Z Z Z Z Z Z Z Tryz.call53 Z (az Z (aA _) Z) (nx 1 Z (fB [17,18] h2 Z (λ ZE h2=>?_) λ ZE h2=>?_))))
 ·exact nx 1 Z (bd h2 λ Vr e33 h2=>mO Z (aY [101000] [] 109000 109000 (HO.c e33) Z Z Z Z Z ⟨sr,trivial⟩ Z (az Z (aA _) Z) ⟨⟨_,Z,aS _⟩,trivial⟩ Z Z Z Z Z Z Z Z Tryz.call54 Z (az Z (aA _) Z) (nx 3 Z uv)))
 exact nx 5 Z uv
end Go.Ab.R06
end
